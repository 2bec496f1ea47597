/- Texts XC, XD, XG, XH, XI, XJ, XK, XL, XM. -/
import Derived.Test.YtlmkkphojjodhaaG6
import Derived.Test.YtlmkkphojjodhaaG5
import Derived.Test.YtlmkkphojjodhaaG1
import Derived.Test.YtlmkkphojjodhaaProg
set_option linter.unusedSimpArgs false
set_option linter.unusedVariables false
set_option linter.unusedSectionVars false
namespace Go.Proofs
open Go Go.Eng
set_option maxHeartbeats 1000000
set_option maxRecDepth 20000
def qia (Y:Env) (us:List U):Env:=fun n=>if n < 18 then Y n else us.getD (n - 18) {}
theorem qvF {Y:Env} {us:List U} (hg:Y.good) (h:∀ u ∈ us,u.good):(qia Y us).good:=fun n=>by
 unfold qia;split
 ·exact hg n
 ·exact qaR h (n - 18)
theorem qxZ (Y:Env) (us:List U) {n:Nat} (hn:n < 18):qia Y us n = Y n:=by unfold qia; rw [jag hn]
theorem qwi {Y:Env} {us:List U} {h:Hp} (hs:qD Y qbI h):qD (qia Y us) qbI h :=
 qcW (p:=fun n=>decide (n < 18)) (fun _ hm=>(qxZ Y us (by simpa using hm)).symm) qbI (by rfl) h hs
theorem qrd:qiv.ok Try.prog:=by
 refine ⟨qpm.1,fun Z w hF hO hg hd hw hs hro hp=>?_⟩;obtain ⟨⟨m,⟨h0,hl0,hX⟩,hC1,hC2,hC3⟩,d0,d1⟩:=hp;obtain ⟨hA,hB,hdAB,hu,⟨hle,hfree⟩,_⟩:=hs;have hAO:Hp.le (Z 2).h hO:=by rw [hu]; exact Hp.le_trans hle (Hp.le_left _ _)
 have hfree:=hfree rfl;have hX0:=hX;obtain ⟨Y,gY,oY,rfl,hv,sY,fY⟩:=hX;obtain ⟨o1,o2,o3,o4⟩:=id oY;have hargs:(qiv.args.map (SV.den Z)).toArray = (qgm.args.map (SV.den (qia Y [Z 1]))).toArray:=by
  simp [qiv,qgm,ptr,iv,SV.den,T.den,O1.den,O0.den,hv,qia,qbm]
 rw [hargs];have hnp:((m0 Y).probes.length:Int) = (Y 13).i:=by
  simp only [m0,qaE,jbc,qM,jaz]; omega
 refine (qhh qpm (env:=qia Y [Z 1]) (qvF gY (by simp; exact hg 1)) hd hw (Hp.le_trans hl0 hAO) (qwi sY) (fun x hx=>by cases hx) ⟨⟨hC1,o1,o3,o4,by show (Y 13).i <= 1000000; omega⟩,d0,d1⟩).mono fun e w' hq=>?_
 obtain ⟨ai,al,Z1,q1,q2,q3,q4,q5,hN,e1,e2,e3,e4,e5⟩:=hq;have hq3:∀ n,n < 18->Z1 n = Y n:=fun n hn=>by rw [q3 n (by show n < 19; omega)]; unfold qia; rw [jag hn]
 match ai,q1 with
 | 0,q1 =>
  exfalso;obtain rfl:=jat q1;have h17:((Z1.upto 19) 17).b = true:=q5;rw [Env.upto,jag (by omega),hq3 17 (by omega)] at h17;have:(Y 17).b = false:=hC2;rw [h17] at this; cases this
 | 1,q1 =>
  obtain rfl:=jat q1;have h18:Z1 18 = Z 1:=by rw [q3 18 (by show 18 < 19; omega)]; rfl
  have hq5:=q5;simp only [qgm,m0,Env.upto,Nat.reduceAdd,Nat.reduceLT,ja5,hq3 1 (by omega),hq3 5 (by omega),hq3 8 (by omega),hq3 9 (by omega),hq3 10 (by omega),hq3 11 (by omega),hq3 13 (by omega),hq3 15 (by omega),hq3 16 (by omega),hq3 17 (by omega),h18] at hq5;obtain ⟨p1,p2,p3,p4,p5,p6,p7,p8⟩:=hq5;obtain ⟨a,b,hab,hN',ha,hb⟩:=qge (l:=[qh8 (.var 22) (.var 23) (.var 24) .dnil (.var 25) (.var 26) (.var 16) (.var 17) 27,.arr 2 25 qan (.var 28) (.var 4),.arr 6 22 [.int .u64] (.var 29) (.var 7),.arr 27 63 qdz (.var 30) (.var 26)]) (l':=[.arr 19 43 qaQ (.var 31) (.var 21),.abs 32 2]) e3
  let Y':Env:=qhk [Z1 0,Z1 1,Z1 2,Z1 3,Z1 4,Z1 28,Z1 6,Z1 7,Z1 29,Z1 22,Z1 23,Z1 24,Z1 27,Z1 25,Z1 26,Z1 30,Z1 16,Z1 17]
  have ha':qD Y' qbI a:=ha;have hm':m0 Y' = qn (m0 Y) (Z 1).i:=by
   refine Eq.trans ?_ p2
   show qaE (Z1 1).i (Z1 28).d (Z1 29).d (Z1 22).i (Z1 23).i (Z1 24).i (Z1 25).i (Z1 30).d (Z1 16).i (Z1 17).b = _
   rw [hq3 1 (by omega),hq3 16 (by omega),hq3 17 (by omega)]
  have hs':(Z1 29).d.length = (Y 8).d.length:=by
   have h1:(qf (Z1 29).d).length = (qn (m0 Y) (Z 1).i).since.length:=congrArg (fun x=>x.since.length) p2;have h2:(qn (m0 Y) (Z 1).i).since.length = (qf (Y 8).d).length:=(qeE (m0 Y) (Z 1).i).2;rw [qV] at h1 h2;exact h1.trans h2
  have oY':qiC Y':=by
   refine ⟨?_,?_,p5,p6⟩
   ·show (Z1 3).i = ((Z1 28).d.length:Int)
    rw [hq3 3 (by omega),p4]; exact o1
   ·show (Z1 3).i = ((Z1 29).d.length:Int)
    rw [hq3 3 (by omega),hs']; exact o2
  have gY':Y'.good:=qaR (by intro u hu; simp only [jar,ja2,or_false] at hu; rcases hu with rfl | rfl | rfl | rfl | rfl | rfl | rfl | rfl | rfl | rfl | rfl | rfl | rfl | rfl | rfl | rfl | rfl | rfl <;> exact q2 _);have hv':(Z 0).v = .pointer (Y' 0).r:=by rw [hv]; show _ = Value.pointer (Z1 0).r; rw [hq3 0 (by omega)]
  have hT:=qf3 hAO hl0 hX0 e2 hN' gY' oY' ha' hv';rw [hm'] at hT
  let us:List U:=[Z1 19,Z1 20,Z1 21,Z1 31,Z1 32,{ h:=Hp.union (qaG (Z 2).h h0) (qbi (qdK Y') a) }]
  refine ⟨0,_,fun n=>if n < 3 then Z n else us.getD (n - 3) {},rfl,fun n=>?_,fun n hn=>jag hn,q4,?_,?_⟩
  ·show U.good (if n < 3 then Z n else us.getD (n - 3) {})
   split
   ·exact hg n
   ·refine qaR (us:=us) ?_ (n - 3)
    intro u hu;simp only [us,jar,ja2,or_false] at hu;rcases hu with rfl | rfl | rfl | rfl | rfl | rfl
    ·exact q2 _
    ·exact q2 _
    ·exact q2 _
    ·exact q2 _
    ·exact q2 _
    ·exact ⟨rfl,by simp⟩
  ·intro m' hm1
   have hm2:m' = m0 Y:=qcG (H:=(Z 2).h) (v:=(Z 0).v) hm1 ⟨h0,hl0,hX0⟩;subst hm2;exact ⟨hT,p3,p8⟩
  ·exact qg8 (Z2:=fun n=>if n < 3 then Z n else us.getD (n - 3) {}) (l:=[.arr 3 43 qaQ (.var 6) (.var 5),.abs 7 2]) (k:=8) hd hAO hfree e1 e2 hN' hab ha' hb rfl e4 e5
def qis (Y Z:Env):Env:=fun n=>if n < 18 then Y n else if n < 138 then Z (n - 17) else {}
theorem qwd {Y Z:Env} (hg:Y.good) (h:Z.good):(qis Y Z).good:=fun n=>by
 unfold qis;split
 ·exact hg n
 ·split
  ·exact h _
  ·exact ⟨rfl,by simp⟩
theorem qvo {Y Z:Env} {h:Hp} (hs:qD Y qbI h):qD (qis Y Z) qbI h :=
 qcW (p:=fun n=>decide (n < 18)) (fun m hm=>by unfold qis; rw [jag (by simpa using hm)]) qbI (by rfl) h hs
theorem qmS (m:Mach) (g:Msg) (t:List Ent):(qB m g t).tab.length = m.tab.length/\(qB m g t).since.length = m.since.length:=by
 rcases qh0 m g t with e | e <;> rw [e]
 ·exact ⟨rfl,rfl⟩
 ·exact ⟨qct,qed⟩
theorem qy1 {Z:Env} {n t:Nat} (h:(Z n).h = fun _=>none):SH.den Z (.abs n t) Hp.emp:=by
 refine ⟨fun b o hb=>?_,fun _ b o hb=>?_⟩
 ·rw [h] at hb; cases hb
 ·rw [h] at hb; cases hb
theorem qxa:qpB.ok Try.prog:=by
 refine ⟨qoO.1,fun Z w hF hO hg hd hw hs hro hp=>?_⟩;obtain ⟨⟨m,⟨h0,hl0,hX⟩,hC1,hC2,hC3⟩,d0,d1⟩:=hp;obtain ⟨hA,hB,hdAB,hu,⟨hle,hfree⟩,_⟩:=hs;have hAO:Hp.le (Z 121).h hO:=by rw [hu]; exact Hp.le_trans hle (Hp.le_left _ _)
 have hfree:=hfree rfl;have hX0:=hX;obtain ⟨Y,gY,oY,rfl,hv,sY,fY⟩:=hX;obtain ⟨o1,o2,o3,o4⟩:=id oY;have hargs:(qpB.args.map (SV.den Z)).toArray = (qgl.args.map (SV.den (qis Y Z))).toArray:=by
  show #[(Z 0).v,SV.den Z (.agg (qbT 1 (.vslice 7 (.lit 0) (.var 8) (.var 9) 2) 12))] = #[Value.pointer (qj (Y 0).r 0),SV.den (qis Y Z) (.agg (qbT 18 qkg 29))]
  rw [hv,qbm];rfl
 rw [hargs];have hnp:((m0 Y).probes.length:Int) = (Y 13).i:=by
  simp only [m0,qaE,jbc,qM,jaz]; omega
 refine (qhh qoO (env:=qis Y Z) (qwd gY hg) hd hw (Hp.le_trans hl0 hAO) (qvo sY) (fun x hx=>?_) ⟨⟨hC1,o1,o3,o4,by show (Y 13).i <= 1000000; omega⟩,d0,d1⟩).mono fun e w' hq=>?_
 ·rcases jak.1 hx with rfl
  exact hro (.arr 7 25 qan (.var 10) (.var 11)) (jak.2 rfl)
 obtain ⟨ai,al,Z1,q1,q2,q3,q4,q5,hN,e1,e2,e3,e4,e5⟩:=hq;have hq3:∀ n,n < 18->Z1 n = Y n:=fun n hn=>by rw [q3 n (by show n < 138; omega)]; unfold qis; rw [jag hn]
 have hq4:∀ n,18 <= n->n < 138->Z1 n = Z (n - 17):=fun n h1 h2=>by rw [q3 n h2]; unfold qis; rw [jaf (by omega),jag h2]
 match ai,q1 with
 | 0,q1 =>
  obtain rfl:=jat q1;have hq5:=q5;simp only [qgl,m0,qa1,Env.upto,Nat.reduceAdd,Nat.reduceLT,ja5,hq3 1 (by omega),hq3 5 (by omega),hq3 8 (by omega),hq3 9 (by omega),hq3 10 (by omega),hq3 11 (by omega),hq3 13 (by omega),hq3 15 (by omega),hq3 16 (by omega),hq3 17 (by omega),hq4 18 (by omega) (by omega),hq4 19 (by omega) (by omega),hq4 20 (by omega) (by omega),hq4 21 (by omega) (by omega),hq4 22 (by omega) (by omega),hq4 23 (by omega) (by omega),hq4 27 (by omega) (by omega),Nat.reduceSub] at hq5;obtain ⟨p1,p2,p3,p5,p6,p7⟩:=hq5
  let Y':Env:=qhk [Z1 0,Z1 1,Z1 2,Z1 3,Z1 4,Z1 141,Z1 6,Z1 7,Z1 142,Z1 9,Z1 10,Z1 11,Z1 12,Z1 140,Z1 14,Z1 143,Z1 139,Z1 17]
  have ha':qD Y' qbI hN:=e3;have hm':m0 Y' = qB (m0 Y) (qa1 Z 1) (qb (Z 10).d):=by
   refine Eq.trans ?_ p3
   show qaE (Z1 1).i (Z1 141).d (Z1 142).d (Z1 9).i (Z1 10).i (Z1 11).i (Z1 140).i (Z1 143).d (Z1 139).i (Z1 17).b = _
   rw [hq3 1 (by omega),hq3 9 (by omega),hq3 10 (by omega),hq3 11 (by omega),hq3 17 (by omega)]
  have hlen:=qmS (m0 Y) (qa1 Z 1) (qb (Z 10).d);rw [<- hm'] at hlen;have hlT:(qb (Z1 141).d).length = (qb (Y 5).d).length:=hlen.1;have hlS:(qf (Z1 142).d).length = (qf (Y 8).d).length:=hlen.2;rw [qad,qad] at hlT;rw [qV,qV] at hlS;have oY':qiC Y':=by
   refine ⟨?_,?_,p5,p6⟩
   ·show (Z1 3).i = ((Z1 141).d.length:Int)
    rw [hq3 3 (by omega),hlT]; exact o1
   ·show (Z1 3).i = ((Z1 142).d.length:Int)
    rw [hq3 3 (by omega),hlS]; exact o2
  have gY':Y'.good:=qaR (by intro u hu; simp only [jar,ja2,or_false] at hu; rcases hu with rfl | rfl | rfl | rfl | rfl | rfl | rfl | rfl | rfl | rfl | rfl | rfl | rfl | rfl | rfl | rfl | rfl | rfl <;> exact q2 _);have hv':(Z 0).v = .pointer (Y' 0).r:=by rw [hv]; show _ = Value.pointer (Z1 0).r; rw [hq3 0 (by omega)]
  have hN':hN = Hp.union hN Hp.emp:=(Hp.union_emp _).symm;have hT:=qf3 hAO hl0 hX0 e2 hN' gY' oY' ha' hv';rw [hm'] at hT
  let us:List U:=[{},{},{},{},Z1 138,{},{ h:=Hp.union (qaG (Z 121).h h0) (qbi (qdK Y') hN) }]
  refine ⟨0,_,fun n=>if n < 122 then Z n else us.getD (n - 122) {},rfl,fun n=>?_,fun n hn=>jag hn,q4,?_,?_⟩
  ·show U.good (if n < 122 then Z n else us.getD (n - 122) {})
   split
   ·exact hg n
   ·refine qaR (us:=us) ?_ (n - 122)
    intro u hu;simp only [us,jar,ja2,or_false] at hu;rcases hu with rfl | rfl | rfl | rfl | rfl | rfl | rfl
    ·exact ⟨rfl,by simp⟩
    ·exact ⟨rfl,by simp⟩
    ·exact ⟨rfl,by simp⟩
    ·exact ⟨rfl,by simp⟩
    ·exact q2 _
    ·exact ⟨rfl,by simp⟩
    ·exact ⟨rfl,by simp⟩
  ·intro m' hm1
   have hm2:m' = m0 Y:=qcG (H:=(Z 121).h) (v:=(Z 0).v) hm1 ⟨h0,hl0,hX0⟩;subst hm2;refine ⟨p1,hT,rfl,?_⟩
   show qa6 _ (qa5 (m0 Y) (qa1 Z 1) (qb (Z 10).d)) (m0 Y).self (qB (m0 Y) (qa1 Z 1) (qb (Z 10).d)).tab (qa5 (m0 Y) (qa1 Z 1) (qb (Z 10).d)).length []
   rw [show qa5 (m0 Y) (qa1 Z 1) (qb (Z 10).d) = [] from p2];exact ⟨[],rfl,rfl,by simp⟩
  ·exact qg8 (Z2:=fun n=>if n < 122 then Z n else us.getD (n - 122) {}) (l:=[.arr 122 43 qaQ (.var 125) (.var 124),.abs 127 2]) (k:=128) hd hAO hfree e1 e2 hN' (Hp.disj_emp _) ha' ⟨Hp.emp,Hp.emp,Hp.disj_emp _,(Hp.union_emp _).symm,.inl ⟨rfl,rfl,rfl⟩,⟨Hp.emp,Hp.emp,Hp.disj_emp _,(Hp.union_emp _).symm,qy1 rfl,trivial⟩⟩ rfl e4 e5
 | 1,q1 =>
  obtain rfl:=jat q1;have hq5:=q5;simp only [qgl,m0,qa1,Env.upto,Nat.reduceAdd,Nat.reduceLT,ja5,hq3 1 (by omega),hq3 5 (by omega),hq3 8 (by omega),hq3 9 (by omega),hq3 10 (by omega),hq3 11 (by omega),hq3 13 (by omega),hq3 15 (by omega),hq3 16 (by omega),hq3 17 (by omega),hq4 18 (by omega) (by omega),hq4 19 (by omega) (by omega),hq4 20 (by omega) (by omega),hq4 21 (by omega) (by omega),hq4 22 (by omega) (by omega),hq4 23 (by omega) (by omega),hq4 27 (by omega) (by omega),Nat.reduceSub] at hq5;obtain ⟨p1,p2,p3,p8⟩:=hq5;obtain ⟨a,b,hab,hN',ha,hb⟩:=qge (l:=[qpD (.var 13) (.var 144),.arr 2 25 qan (.var 142) (.var 4),.arr 6 22 [.int .u64] (.var 143) (.var 7),qgf]) (l':=[.arr 138 43 qaQ (.var 140) (.var 139),.abs 141 2]) e3
  let Y':Env:=qhk [Z1 0,Z1 1,Z1 2,Z1 3,Z1 4,Z1 142,Z1 6,Z1 7,Z1 143,Z1 9,Z1 10,Z1 11,Z1 12,Z1 13,Z1 14,Z1 15,Z1 144,Z1 17]
  have ha':qD Y' qbI a:=ha;have hm':m0 Y' = qB (m0 Y) (qa1 Z 1) (qb (Z 10).d):=by
   refine Eq.trans ?_ p3
   show qaE (Z1 1).i (Z1 142).d (Z1 143).d (Z1 9).i (Z1 10).i (Z1 11).i (Z1 13).i (Z1 15).d (Z1 144).i (Z1 17).b = _
   rw [hq3 1 (by omega),hq3 9 (by omega),hq3 10 (by omega),hq3 11 (by omega),hq3 13 (by omega),hq3 15 (by omega),hq3 17 (by omega)]
  have hlen:=qmS (m0 Y) (qa1 Z 1) (qb (Z 10).d);rw [<- hm'] at hlen;have hlT:(qb (Z1 142).d).length = (qb (Y 5).d).length:=hlen.1;have hlS:(qf (Z1 143).d).length = (qf (Y 8).d).length:=hlen.2;rw [qad,qad] at hlT;rw [qV,qV] at hlS;have oY':qiC Y':=by
   refine ⟨?_,?_,?_,?_⟩
   ·show (Z1 3).i = ((Z1 142).d.length:Int)
    rw [hq3 3 (by omega),hlT]; exact o1
   ·show (Z1 3).i = ((Z1 143).d.length:Int)
    rw [hq3 3 (by omega),hlS]; exact o2
   ·show 0 <= (Z1 13).i
    rw [hq3 13 (by omega)]; exact o3
   ·show (Z1 13).i <= ((Z1 15).d.length:Int)
    rw [hq3 13 (by omega),hq3 15 (by omega)]; exact o4
  have gY':Y'.good:=qaR (by intro u hu; simp only [jar,ja2,or_false] at hu; rcases hu with rfl | rfl | rfl | rfl | rfl | rfl | rfl | rfl | rfl | rfl | rfl | rfl | rfl | rfl | rfl | rfl | rfl | rfl <;> exact q2 _);have hv':(Z 0).v = .pointer (Y' 0).r:=by rw [hv]; show _ = Value.pointer (Z1 0).r; rw [hq3 0 (by omega)]
  have hT:=qf3 hAO hl0 hX0 e2 hN' gY' oY' ha' hv';rw [hm'] at hT
  let us:List U:=[Z1 138,{ i:=1 },Z1 139,Z1 140,{ i:=0 },Z1 141,{ h:=Hp.union (qaG (Z 121).h h0) (qbi (qdK Y') a) }]
  refine ⟨0,_,fun n=>if n < 122 then Z n else us.getD (n - 122) {},rfl,fun n=>?_,fun n hn=>jag hn,q4,?_,?_⟩
  ·show U.good (if n < 122 then Z n else us.getD (n - 122) {})
   split
   ·exact hg n
   ·refine qaR (us:=us) ?_ (n - 122)
    intro u hu;simp only [us,jar,ja2,or_false] at hu;rcases hu with rfl | rfl | rfl | rfl | rfl | rfl | rfl
    ·exact q2 _
    ·exact ⟨rfl,by simp⟩
    ·exact q2 _
    ·exact q2 _
    ·exact ⟨rfl,by simp⟩
    ·exact q2 _
    ·exact ⟨rfl,by simp⟩
  ·intro m' hm1
   have hm2:m' = m0 Y:=qcG (H:=(Z 121).h) (v:=(Z 0).v) hm1 ⟨h0,hl0,hX0⟩;subst hm2;have hst:qa6 (Z1 141).h (qa5 (m0 Y) (qa1 Z 1) (qb (Z 10).d)) (m0 Y).self (qB (m0 Y) (qa1 Z 1) (qb (Z 10).d)).tab (qa5 (m0 Y) (qa1 Z 1) (qb (Z 10).d)).length (Z1 140).d:=by
    rw [show qa5 (m0 Y) (qa1 Z 1) (qb (Z 10).d) = [qam (Y 1).i (qa1 Z 1)] from p2];exact p8
   have hsl:=qbR p8;refine ⟨p1.symm,hT,?_,hst⟩
   show (1:Int) = ((Z1 140).d.length:Int)
   simp at hsl; omega
  ·exact qg8 (Z2:=fun n=>if n < 122 then Z n else us.getD (n - 122) {}) (l:=[.arr 122 43 qaQ (.var 125) (.var 124),.abs 127 2]) (k:=128) hd hAO hfree e1 e2 hN' hab ha' hb rfl e4 e5
def qgY:List SH:=[qlY,qgf]
def qpY:Ctr:={ qek with heap:=qek.heap ++ qgY,alts:=qek.alts.map fun al=>{ al with heap:=al.heap ++ qgY } }
theorem qpi:qpY.ok Try.prog:=qpJ quh qgY (by rfl) rfl rfl rfl rfl rfl (fun _ h=>h) rfl
def qqY:Ctr:={ qeq with heap:=qeq.heap ++ qgY,alts:=qeq.alts.map fun al=>{ al with heap:=al.heap ++ qgY } }
theorem qoU:qqY.ok Try.prog:=qpJ qu6 qgY (by rfl) rfl rfl rfl rfl rfl (fun _ h=>h) rfl
def qcd (Y:Env) (us:List U):Env:=fun n=>if n = 12 then { (Y 12) with v:=(qfT.den Y).v } else if n < 18 then Y n else us.getD (n - 18) {}
theorem qf7 {Y:Env} {us:List U} (hg:Y.good) (h:∀ u ∈ us,u.good):(qcd Y us).good:=fun n=>by
 unfold qcd;split
 ·exact ⟨rfl,(hg 12).2⟩
 ·split
  ·exact hg n
  ·exact qaR h (n - 18)
theorem qoG {Y Z1 Y':Env} {h:Hp} {chal left:T} {d:T} (e3:qD Z1 ([qhT chal left,.arr 2 25 qan d (.var 4)] ++ qgY) h) (h12:Z1 12 = { (Y 12) with v:=(qfT.den Y).v }) (e13:Z1 13 = Y 13) (e14:Z1 14 = Y 14)
  (e:Y' = qhk [Z1 0,Z1 1,Z1 2,Z1 3,Z1 4,d.den Z1,Z1 6,Z1 7,Z1 8,Z1 9,Z1 10,Z1 11,Y 12,Z1 13,Z1 14,Z1 15,chal.den Z1,left.den Z1]):qD Y' qbI h:=by
 subst e;obtain ⟨g1,g2,gd,gu,⟨b,gb,gc⟩,k1,k2,kd,ku,kt,k3,k4,kd',ku',ks,k5,k6,kd'',ku'',kp,_⟩:=e3;refine ⟨g1,g2,gd,gu,⟨b,gb,?_⟩,k1,k2,kd,ku,kt,k3,k4,kd',ku',ks,k5,k6,kd'',ku'',?_,trivial⟩
 ·rw [gc]
  simp only [qa,jaq,jbl,T.den,h12,qfT,O3.den,O1.den,O0.den,qhk,List.getD_cons_zero,List.getD_cons_succ,e13,e14]
 ·rcases kp with ⟨a1,a2,a3⟩ | ⟨b,c,a1,a2⟩
  ·exact .inl ⟨by rw [h12] at a1; exact a1,a2,a3⟩
  ·exact .inr ⟨b,c,by rw [h12] at a1; exact a1,a2⟩
theorem qvk:qm1.ok Try.prog:=by
 refine ⟨qpi.1,fun Z w hF hO hg hd hw hs hro hp=>?_⟩;obtain ⟨m,⟨h0,hl0,hX⟩,hC1,hC2,hC3⟩:=hp;obtain ⟨hA,hB,hdAB,hu,⟨hle,hfree⟩,_⟩:=hs;have hAO:Hp.le (Z 2).h hO:=by rw [hu]; exact Hp.le_trans hle (Hp.le_left _ _)
 have hfree:=hfree rfl;have hX0:=hX;obtain ⟨Y,gY,oY,rfl,hv,sY,fY⟩:=hX;obtain ⟨o1,o2,o3,o4⟩:=id oY;have hargs:(qm1.args.map (SV.den Z)).toArray = (qpY.args.map (SV.den (qcd Y [Z 1]))).toArray:=by
  show #[(Z 0).v,Value.int .u64 (Z 1).i] = #[Value.pointer (qj (Y 0).r 0),Value.int .u64 (Z 1).i]
  rw [hv,qbm]
 rw [hargs];obtain ⟨w1,w2,w3,w4,w5,_⟩:=id hC1;have hwl:(m0 Y).tab.length = (Y 5).d.length:=qad _;rw [hwl] at w5;refine (qhh qpi (env:=qcd Y [Z 1]) (qf7 gY (by simp; exact hg 1)) hd hw (Hp.le_trans hl0 hAO) sY (fun x hx=>by cases hx) ⟨o1,w4,by show (Y 1).i < (Y 3).i; rw [o1]; exact w5⟩).mono fun e w' hq=>?_
 obtain ⟨ai,al,Z1,q1,q2,q3,q4,q5,hN,e1,e2,e3,e4,e5⟩:=hq;have hq3:∀ n,n < 18->n ≠ 12->Z1 n = Y n:=fun n hn h12=>by rw [q3 n (by show n < 19; omega)]; unfold qcd; rw [jaf h12,jag hn]
 match ai,q1 with
 | 0,q1 =>
  obtain rfl:=jat q1;have h18:Z1 18 = Z 1:=by rw [q3 18 (by show 18 < 19; omega)]; rfl
  have h12:Z1 12 = { (Y 12) with v:=(qfT.den Y).v }:=by rw [q3 12 (by show 12 < 19; omega)]; rfl
  have hq5:=q5;simp only [qpY,qek,m1,Env.upto,Nat.reduceAdd,Nat.reduceLT,ja5,hq3 1 (by omega) (by omega),hq3 5 (by omega) (by omega),hq3 9 (by omega) (by omega),hq3 10 (by omega) (by omega),hq3 11 (by omega) (by omega),hq3 16 (by omega) (by omega),hq3 17 (by omega) (by omega),h18] at hq5;obtain ⟨p1,p2,p3,p4⟩:=hq5
  let Y':Env:=qhk [Z1 0,Z1 1,Z1 2,Z1 3,Z1 4,Z1 20,Z1 6,Z1 7,Z1 8,Z1 9,Z1 10,Z1 11,Y 12,Z1 13,Z1 14,Z1 15,Z1 21,Z1 17]
  have ha':qD Y' qbI hN:=qoG (d:=.var 20) (chal:=.var 21) (left:=.var 17) e3 h12 (hq3 13 (by omega) (by omega)) (hq3 14 (by omega) (by omega)) rfl;have hm':m0 Y' = qch (m0 Y) (Z 1).i:=by
   have:=qt2 (dS:=(Y 8).d) (dP:=(Y 15).d) (np:=(Y 13).i) p2 p3;refine Eq.trans ?_ this
   show qaE (Z1 1).i (Z1 20).d (Z1 8).d (Z1 9).i (Z1 10).i (Z1 11).i (Z1 13).i (Z1 15).d (Z1 21).i (Z1 17).b = _
   rw [hq3 1 (by omega) (by omega),hq3 8 (by omega) (by omega),hq3 9 (by omega) (by omega),hq3 10 (by omega) (by omega),hq3 11 (by omega) (by omega),hq3 13 (by omega) (by omega),hq3 15 (by omega) (by omega),hq3 17 (by omega) (by omega)]
  have oY':qiC Y':=by
   refine ⟨?_,?_,?_,?_⟩
   ·show (Z1 3).i = ((Z1 20).d.length:Int)
    rw [hq3 3 (by omega) (by omega),p4]; exact o1
   ·show (Z1 3).i = ((Z1 8).d.length:Int)
    rw [hq3 3 (by omega) (by omega),hq3 8 (by omega) (by omega)]; exact o2
   ·show 0 <= (Z1 13).i
    rw [hq3 13 (by omega) (by omega)]; exact o3
   ·show (Z1 13).i <= ((Z1 15).d.length:Int)
    rw [hq3 13 (by omega) (by omega),hq3 15 (by omega) (by omega)]; exact o4
  have gY':Y'.good:=qaR (by intro u hu; simp only [jar,ja2,or_false] at hu; rcases hu with rfl | rfl | rfl | rfl | rfl | rfl | rfl | rfl | rfl | rfl | rfl | rfl | rfl | rfl | rfl | rfl | rfl | rfl <;> first | exact q2 _ | exact gY _);have hv':(Z 0).v = .pointer (Y' 0).r:=by rw [hv]; show _ = Value.pointer (Z1 0).r; rw [hq3 0 (by omega) (by omega)]
  have hN':hN = Hp.union hN Hp.emp:=(Hp.union_emp _).symm;have hT:=qf3 hAO hl0 hX0 e2 hN' gY' oY' ha' hv';rw [hm'] at hT
  let us:List U:=[Z1 19,{ h:=Hp.union (qaG (Z 2).h h0) (qbi (qdK Y') hN) }]
  refine ⟨0,_,fun n=>if n < 3 then Z n else us.getD (n - 3) {},rfl,fun n=>?_,fun n hn=>jag hn,q4,?_,?_⟩
  ·show U.good (if n < 3 then Z n else us.getD (n - 3) {})
   split
   ·exact hg n
   ·refine qaR (us:=us) ?_ (n - 3)
    intro u hu;simp only [us,jar,ja2,or_false] at hu;rcases hu with rfl | rfl
    ·exact q2 _
    ·exact ⟨rfl,by simp⟩
  ·intro m' hm1
   have hm2:m' = m0 Y:=qcG (H:=(Z 2).h) (v:=(Z 0).v) hm1 ⟨h0,hl0,hX0⟩;subst hm2;exact ⟨p1,hT⟩
  ·exact qg8 (Z2:=fun n=>if n < 3 then Z n else us.getD (n - 3) {}) (l:=[]) (k:=4) hd hAO hfree e1 e2 hN' (Hp.disj_emp _) ha' trivial rfl e4 e5
set_option maxHeartbeats 1000000
theorem qvI:qmz.ok Try.prog:=by
 refine ⟨qoU.1,fun Z w hF hO hg hd hw hs hro hp=>?_⟩;obtain ⟨m,⟨h0,hl0,hX⟩,⟨hC1,hC2,hC3⟩,hC4⟩:=hp;obtain ⟨hA,hB,hdAB,hu,⟨hle,hfree⟩,_⟩:=hs;have hAO:Hp.le (Z 1).h hO:=by rw [hu]; exact Hp.le_trans hle (Hp.le_left _ _)
 have hfree:=hfree rfl;have hX0:=hX;obtain ⟨Y,gY,oY,rfl,hv,sY,fY⟩:=hX;obtain ⟨o1,o2,o3,o4⟩:=id oY;have hargs:(qmz.args.map (SV.den Z)).toArray = (qqY.args.map (SV.den (qcd Y []))).toArray:=by
  show #[(Z 0).v] = #[Value.pointer (qj (Y 0).r 0)]
  rw [hv,qbm]
 rw [hargs];obtain ⟨w1,w2,w3,w4,w5,w6,w7,_⟩:=id hC1;have hwl:(m0 Y).tab.length = (Y 5).d.length:=qad _;rw [hwl] at w1 w2 w5 w7;refine (qhh qoU (env:=qcd Y []) (qf7 gY (by simp)) hd hw (Hp.le_trans hl0 hAO) sY (fun x hx=>by cases hx) ⟨⟨o1,by show 2 <= (Y 3).i; omega,by show (Y 3).i <= 16; omega,w4,by show (Y 1).i < (Y 3).i; rw [o1]; exact w5,w6,by show (Y 11).i < (Y 3).i; rw [o1]; exact w7⟩,hC4⟩).mono fun e w' hq=>?_
 obtain ⟨ai,al,Z1,q1,q2,q3,q4,q5,hN,e1,e2,e3,e4,e5⟩:=hq;have hq3:∀ n,n < 18->n ≠ 12->Z1 n = Y n:=fun n hn h12=>by rw [q3 n (by show n < 18; omega)]; unfold qcd; rw [jaf h12,jag hn]
 match ai,q1 with
 | 0,q1 =>
  exfalso;obtain rfl:=jat q1;have h17:((Z1.upto 18) 17).b = true:=q5;rw [Env.upto,jag (by omega),hq3 17 (by omega) (by omega)] at h17;have:(Y 17).b = false:=hC2;rw [h17] at this; cases this
 | 1,q1 =>
  obtain rfl:=jat q1;have h12:Z1 12 = { (Y 12) with v:=(qfT.den Y).v }:=by rw [q3 12 (by show 12 < 18; omega)]; rfl
  have hq5:=q5;simp only [qqY,qeq,Env.upto,Nat.reduceAdd,Nat.reduceLT,ja5,hq3 1 (by omega) (by omega),hq3 5 (by omega) (by omega),hq3 17 (by omega) (by omega)] at hq5;obtain ⟨p0,p2,p3,p4,p8⟩:=hq5;obtain ⟨g1,g2,gd,gu,gx,k1,k2,kd,ku,kt,k3,k4,kd',ku',ka,k5,k6,kd'',ku'',kb,gs⟩:=e3
  -- the machine's pieces ahead of the messages
  have hsplit:∃ a b,Hp.disj a b/\hN = Hp.union a b/\qD Z1 ([qhT (.var 16) (.bl true),.arr 2 25 qan (.var 21) (.var 4)] ++ qgY) a/\qD Z1 [.arr 18 43 qaQ (.var 22) (.var 20),.abs 23 2] b:=by
   subst gu; subst ku; subst ku'; subst ku'';obtain ⟨kd1,kd2⟩:=Hp.disj_union.1 kd;obtain ⟨kd3,kd4⟩:=Hp.disj_union.1 kd2;obtain ⟨gd1,gd2⟩:=Hp.disj_union.1 gd;obtain ⟨gd3,gd4⟩:=Hp.disj_union.1 gd2;obtain ⟨gd5,gd6⟩:=Hp.disj_union.1 gd4;obtain ⟨kd5,kd6⟩:=Hp.disj_union.1 kd';refine ⟨Hp.union g1 (Hp.union k1 k6),Hp.union k3 k5,?_,?_,⟨g1,Hp.union k1 k6,Hp.disj_union.2 ⟨gd1,gd6⟩,rfl,gx,k1,k6,kd4,rfl,kt,gs⟩,⟨k3,k5,kd5,rfl,ka,k5,Hp.emp,Hp.disj_emp _,(Hp.union_emp _).symm,kb,trivial⟩⟩
   ·exact Hp.disj_union'.2 ⟨Hp.disj_union.2 ⟨gd3,gd5⟩,Hp.disj_union'.2 ⟨Hp.disj_union.2 ⟨kd1,kd3⟩,Hp.disj_union.2 ⟨kd6.symm,kd''.symm⟩⟩⟩
   ·rw [Hp.union_assoc,Hp.union_assoc]
    congr 2
    rw [Hp.union_comm (a:=k6) (b:=Hp.union k3 k5) (Hp.disj_union.2 ⟨kd6.symm,kd''.symm⟩),Hp.union_assoc]
  obtain ⟨a,b,hab,hN',ha,hb⟩:=hsplit
  let Y':Env:=qhk [Z1 0,Z1 1,Z1 2,Z1 3,Z1 4,Z1 21,Z1 6,Z1 7,Z1 8,Z1 9,Z1 10,Z1 11,Y 12,Z1 13,Z1 14,Z1 15,Z1 16,{ b:=true }]
  have ha':qD Y' qbI a:=qoG (d:=.var 21) (chal:=.var 16) (left:=.bl true) ha h12 (hq3 13 (by omega) (by omega)) (hq3 14 (by omega) (by omega)) rfl;have hL:qdR (m0 Y) = { (m0 Y) with tab:=qL (m0 Y).tab (m0 Y).self,left:=true }:=by rw [qdR,jaf (by rw [hC2]; simp)]
  have hm':m0 Y' = qdR (m0 Y):=by
   rw [hL]
   show qaE (Z1 1).i (Z1 21).d (Z1 8).d (Z1 9).i (Z1 10).i (Z1 11).i (Z1 13).i (Z1 15).d (Z1 16).i true = _
   rw [hq3 1 (by omega) (by omega),hq3 8 (by omega) (by omega),hq3 9 (by omega) (by omega),hq3 10 (by omega) (by omega),hq3 11 (by omega) (by omega),hq3 13 (by omega) (by omega),hq3 15 (by omega) (by omega),hq3 16 (by omega) (by omega)];simp only [qaE,m0,p2]
  have oY':qiC Y':=by
   refine ⟨?_,?_,?_,?_⟩
   ·show (Z1 3).i = ((Z1 21).d.length:Int)
    rw [hq3 3 (by omega) (by omega),p3]; exact o1
   ·show (Z1 3).i = ((Z1 8).d.length:Int)
    rw [hq3 3 (by omega) (by omega),hq3 8 (by omega) (by omega)]; exact o2
   ·show 0 <= (Z1 13).i
    rw [hq3 13 (by omega) (by omega)]; exact o3
   ·show (Z1 13).i <= ((Z1 15).d.length:Int)
    rw [hq3 13 (by omega) (by omega),hq3 15 (by omega) (by omega)]; exact o4
  have gY':Y'.good:=qaR (by intro u hu; simp only [jar,ja2,or_false] at hu; rcases hu with rfl | rfl | rfl | rfl | rfl | rfl | rfl | rfl | rfl | rfl | rfl | rfl | rfl | rfl | rfl | rfl | rfl | rfl <;> first | exact q2 _ | exact gY _ | exact ⟨rfl,by simp⟩);have hv':(Z 0).v = .pointer (Y' 0).r:=by rw [hv]; show _ = Value.pointer (Z1 0).r; rw [hq3 0 (by omega) (by omega)]
  have hT:=qf3 hAO hl0 hX0 e2 hN' gY' oY' ha' hv';rw [hm'] at hT
  let us:List U:=[Z1 18,Z1 19,Z1 20,Z1 22,Z1 23,{ h:=Hp.union (qaG (Z 1).h h0) (qbi (qdK Y') a) }]
  refine ⟨0,_,fun n=>if n < 2 then Z n else us.getD (n - 2) {},rfl,fun n=>?_,fun n hn=>jag hn,q4,?_,?_⟩
  ·show U.good (if n < 2 then Z n else us.getD (n - 2) {})
   split
   ·exact hg n
   ·refine qaR (us:=us) ?_ (n - 2)
    intro u hu;simp only [us,jar,ja2,or_false] at hu;rcases hu with rfl | rfl | rfl | rfl | rfl | rfl
    ·exact q2 _
    ·exact q2 _
    ·exact q2 _
    ·exact q2 _
    ·exact q2 _
    ·exact ⟨rfl,by simp⟩
  ·intro m' hm1
   have hm2:m' = m0 Y:=qcG (H:=(Z 1).h) (v:=(Z 0).v) hm1 ⟨h0,hl0,hX0⟩;subst hm2;exact ⟨hT,p4,p8⟩
  ·exact qg8 (Z2:=fun n=>if n < 2 then Z n else us.getD (n - 2) {}) (l:=[.arr 2 43 qaQ (.var 5) (.var 4),.abs 6 2]) (k:=7) hd hAO hfree e1 e2 hN' hab ha' hb rfl e4 e5
theorem ql8 {Y:Env} {h0 H:Hp} (hs:qD Y qbI h0) (hl:Hp.le h0 H) (us:List U):SH.roden (qcd Y us) (qbw (.var 12)) H/\SH.roden (qcd Y us) qfJ H:=by
 obtain ⟨⟨b,e,hb⟩,xT,_,_⟩:=qku hs;refine ⟨SH.roden_mono hl (qoW (Z:=qcd Y us) (x:=qbw (.var 12)) ⟨b,e,hb⟩),SH.roden_mono hl (qoW (Z:=qcd Y us) (x:=qfJ) ?_)⟩;exact xT
theorem qnN (Y:Env) (Z:Env) (us:List U) (hv:(Z 0).v = .pointer (Y 0).r):[(Z 0).v].toArray = ([ptr 0].map (SV.den (qcd Y us))).toArray:=by
 show #[(Z 0).v] = #[Value.pointer (qj (Y 0).r 0)]
 rw [hv,qbm]
theorem qhv:qd5.ok Try.prog:=by
 refine ⟨qmR.1,fun Z w hF hO hg hd hw hs hro hp=>?_⟩;obtain ⟨m,⟨h0,hl0,hX⟩,hC1⟩:=hp;have hX0:=hX;obtain ⟨Y,gY,oY,rfl,hv,sY,fY⟩:=hX;obtain ⟨o1,o2,o3,o4⟩:=id oY;have hH:Hp.le h0 hF:=Hp.le_trans hl0 (hro (.abs 1 5) (jak.2 rfl));obtain ⟨w1,w2,_⟩:=id hC1;have hwl:(m0 Y).tab.length = (Y 5).d.length:=qad _;rw [hwl] at w1 w2;have hb:(16:Int) <= big:=by decide
 obtain ⟨r1,r2⟩:=ql8 sY hH [];have hargs:(qd5.args.map (SV.den Z)).toArray = (qiO.args.map (SV.den (qcd Y []))).toArray:=qnN Y Z [] hv;rw [hargs];refine (qmR.2 (qcd Y []) w hF hO (qf7 gY (by simp)) hd hw trivial (fun x hx=>?_) ⟨o1,by show 0 < (Y 3).i; omega,by show (Y 3).i <= big; omega⟩).mono fun e w' hq=>?_
 ·rcases jar.1 hx with rfl | hx
  ·exact r1
  ·rcases jak.1 hx with rfl
   exact r2
 obtain ⟨ai,al,Z1,q1,q2,q3,q4,q5,hN,e1,e2,e3,e4⟩:=hq;have hq3:∀ n,n < 18->n ≠ 12->Z1 n = Y n:=fun n hn h12=>by rw [q3 n (by show n < 18; omega)]; unfold qcd; rw [jaf h12,jag hn]
 match ai,q1 with
 | 0,q1 =>
  obtain rfl:=jat q1;have p1:(Z1 20).d = (Z1 5).d:=q5;rw [hq3 5 (by omega) (by omega)] at p1;have h3:(Z1 3).i = ((Z1 20).d.length:Int):=by rw [hq3 3 (by omega) (by omega),p1]; exact o1
  let us:List U:=[Z1 18,Z1 3,Z1 19,Z1 20]
  refine ⟨0,_,fun n=>if n < 2 then Z n else us.getD (n - 2) {},rfl,fun n=>?_,fun n hn=>jag hn,q4,?_,hN,e1,e2,e3,e4⟩
  ·show U.good (if n < 2 then Z n else us.getD (n - 2) {})
   split
   ·exact hg n
   ·refine qaR (us:=us) ?_ (n - 2)
    intro u hu;simp only [us,jar,ja2,or_false] at hu;rcases hu with rfl | rfl | rfl | rfl <;> exact q2 _
  ·intro m' hm1
   have hm2:m' = m0 Y:=qcG (H:=(Z 1).h) (v:=(Z 0).v) hm1 ⟨h0,hl0,hX0⟩;subst hm2;refine ⟨h3,?_⟩
   show qb (Z1 20).d = qb (Y 5).d
   rw [p1]
theorem qnx:qgh.ok Try.prog:=by
 refine ⟨qoS.1,fun Z w hF hO hg hd hw hs hro hp=>?_⟩;obtain ⟨m,⟨h0,hl0,hX⟩,hC1⟩:=hp;have hX0:=hX;obtain ⟨Y,gY,oY,rfl,hv,sY,fY⟩:=hX;obtain ⟨o1,o2,o3,o4⟩:=id oY;have hH:Hp.le h0 hF:=Hp.le_trans hl0 (hro (.abs 1 5) (jak.2 rfl));obtain ⟨w1,w2,_⟩:=id hC1;have hwl:(m0 Y).tab.length = (Y 5).d.length:=qad _;rw [hwl] at w1 w2;have hb:(16:Int) <= big:=by decide
 obtain ⟨r1,r2⟩:=ql8 sY hH [];have hargs:(qgh.args.map (SV.den Z)).toArray = (qk1.args.map (SV.den (qcd Y []))).toArray:=qnN Y Z [] hv;rw [hargs];refine (qoS.2 (qcd Y []) w hF hO (qf7 gY (by simp)) hd hw trivial (fun x hx=>?_) ⟨o1,by show (Y 3).i <= big; omega⟩).mono fun e w' hq=>?_
 ·rcases jar.1 hx with rfl | hx
  ·exact r1
  ·rcases jak.1 hx with rfl
   exact r2
 obtain ⟨ai,al,Z1,q1,q2,q3,q4,q5,hN,e1,e2,e3,e4⟩:=hq;have hq3:∀ n,n < 18->n ≠ 12->Z1 n = Y n:=fun n hn h12=>by rw [q3 n (by show n < 18; omega)]; unfold qcd; rw [jaf h12,jag hn]
 match ai,q1 with
 | 0,q1 =>
  obtain rfl:=jat q1;obtain ⟨p1,p2,p3⟩:qf (Z1 21).d = qbC (qb (Z1 5).d)/\(Z1 19).i = ((Z1 21).d.length:Int)/\(Z1 19).i <= (Z1 3).i:=q5;rw [hq3 5 (by omega) (by omega)] at p1;rw [hq3 3 (by omega) (by omega)] at p3
  let us:List U:=[Z1 18,Z1 19,Z1 20,Z1 21]
  refine ⟨0,_,fun n=>if n < 2 then Z n else us.getD (n - 2) {},rfl,fun n=>?_,fun n hn=>jag hn,q4,?_,hN,e1,e2,e3,e4⟩
  ·show U.good (if n < 2 then Z n else us.getD (n - 2) {})
   split
   ·exact hg n
   ·refine qaR (us:=us) ?_ (n - 2)
    intro u hu;simp only [us,jar,ja2,or_false] at hu;rcases hu with rfl | rfl | rfl | rfl <;> exact q2 _
  ·intro m' hm1
   have hm2:m' = m0 Y:=qcG (H:=(Z 1).h) (v:=(Z 0).v) hm1 ⟨h0,hl0,hX0⟩;subst hm2;exact ⟨p2,p1,by show (Z1 19).i <= 16; omega⟩
theorem quz:qkx.ok Try.prog:=by
 refine ⟨qhB.1,fun Z w hF hO hg hd hw hs hro hp=>?_⟩;obtain ⟨m,⟨h0,hl0,hX⟩⟩:=hp;have hX0:=hX;obtain ⟨Y,gY,oY,rfl,hv,sY,fY⟩:=hX;have hH:Hp.le h0 hF:=Hp.le_trans hl0 (hro (.abs 1 5) (jak.2 rfl));obtain ⟨r1,r2⟩:=ql8 sY hH [];have hargs:(qkx.args.map (SV.den Z)).toArray = (qeL.args.map (SV.den (qcd Y []))).toArray:=qnN Y Z [] hv;rw [hargs];refine (qhB.2 (qcd Y []) w hF hO (qf7 gY (by simp)) hd hw trivial (fun x hx=>?_) trivial).mono fun e w' hq=>?_
 ·rcases jak.1 hx with rfl
  exact r1
 obtain ⟨ai,al,Z1,q1,q2,q3,q4,q5,hN,e1,e2,e3,e4⟩:=hq;have hq3:∀ n,n < 18->n ≠ 12->Z1 n = Y n:=fun n hn h12=>by rw [q3 n (by show n < 18; omega)]; unfold qcd; rw [jaf h12,jag hn]
 match ai,q1 with
 | 0,q1 =>
  obtain rfl:=jat q1
  let us:List U:=[Z1 16]
  refine ⟨0,_,fun n=>if n < 2 then Z n else us.getD (n - 2) {},rfl,fun n=>?_,fun n hn=>jag hn,q4,?_,hN,e1,trivial,e3,e4⟩
  ·show U.good (if n < 2 then Z n else us.getD (n - 2) {})
   split
   ·exact hg n
   ·refine qaR (us:=us) ?_ (n - 2)
    intro u hu;simp only [us,jar,ja2,or_false] at hu;rcases hu with rfl
    exact q2 _
  ·intro m' hm1
   have hm2:m' = m0 Y:=qcG (H:=(Z 1).h) (v:=(Z 0).v) hm1 ⟨h0,hl0,hX0⟩;subst hm2
   show (Z1 16).i = (Y 16).i
   rw [hq3 16 (by omega) (by omega)]
theorem qyy:qxx.ok Try.prog:=by
 refine ⟨qqL.1,fun Z w hF hO hg hd hw hs hro hp=>?_⟩;refine (qqL.2 Z w hF hO hg hd hw trivial (fun x hx=>by cases hx) trivial).mono fun e w' hq=>?_
 obtain ⟨ai,al,Z1,q1,q2,q3,q4,q5,hN,e1,e2,e3,e4⟩:=hq
 match ai,q1 with
 | 0,q1 =>
  exfalso;obtain rfl:=jat q1;have h1:qeD ((Z1.upto 3) 0).i ((Z1.upto 3) 1).i ((Z1.upto 3) 2).i = true:=q5;simp only [Env.upto,Nat.reduceLT,ja5,q3 0 (show 0 < 3 by omega),q3 1 (show 1 < 3 by omega),q3 2 (show 2 < 3 by omega)] at h1;have hp:qeD (Z 0).i (Z 1).i (Z 2).i = false:=hp;rw [hp] at h1; cases h1
 | 1,q1 =>
  obtain rfl:=jat q1;have hq5:=q5;simp only [qmN,Env.upto,Nat.reduceAdd,Nat.reduceLT,ja5,q3 0 (show 0 < 3 by omega),q3 1 (show 1 < 3 by omega),q3 2 (show 2 < 3 by omega)] at hq5;obtain ⟨p0,p1,p2,p3,p4⟩:=hq5;have h0:Z1 0 = Z 0:=q3 0 (by show 0 < 3; omega);have h1:Z1 1 = Z 1:=q3 1 (by show 1 < 3; omega)
  let z:U:={ i:=0 }
  let f:U:={ b:=false }
  let Y':Env:=qhk [Z1 3,Z1 0,Z1 4,Z1 1,Z1 1,Z1 6,Z1 5,Z1 1,Z1 7,z,z,Z1 0,Z1 8,Z1 9,Z1 10,Z1 11,z,f]
  have ha':qD Y' qbI hN:=e2;have oY':qiC Y':=by
   refine ⟨?_,?_,?_,?_⟩
   ·show (Z1 1).i = ((Z1 6).d.length:Int)
    rw [h1,p2]
   ·show (Z1 1).i = ((Z1 7).d.length:Int)
    rw [h1,p3]
   ·show 0 <= (Z1 9).i
    omega
   ·show (Z1 9).i <= ((Z1 11).d.length:Int)
    omega
  have gY':Y'.good:=qaR (by intro u hu; simp only [jar,ja2,or_false] at hu; rcases hu with rfl | rfl | rfl | rfl | rfl | rfl | rfl | rfl | rfl | rfl | rfl | rfl | rfl | rfl | rfl | rfl | rfl | rfl <;> first | exact q2 _ | exact ⟨rfl,by simp [z]⟩ | exact ⟨rfl,by simp [f]⟩);have hm':m0 Y' = qcy (Z 0).i (Z 1).i (Z 2).i:=by
   refine Eq.trans ?_ p1
   show qaE (Z1 0).i (Z1 6).d (Z1 7).d 0 0 (Z1 0).i (Z1 9).i (Z1 11).d 0 false = _
   rw [h0]
  have hX:=MX.make gY' oY' ha';rw [hm'] at hX
  let us:List U:=[{ v:=.pointer (Z1 3).r },{ h:=qbi (qdK Y') hN }]
  refine ⟨0,_,fun n=>if n < 3 then Z n else us.getD (n - 3) {},rfl,fun n=>?_,fun n hn=>jag hn,?_,⟨_,Hp.le_refl _,hX⟩,hN,e1,⟨hN,Hp.emp,Hp.disj_emp _,(Hp.union_emp _).symm,⟨qg3 _ _,fun _=>qhP ha'⟩,trivial⟩,e3,e4⟩
  ·show U.good (if n < 3 then Z n else us.getD (n - 3) {})
   split
   ·exact hg n
   ·refine qaR (us:=us) ?_ (n - 3)
    intro u hu;simp only [us,jar,ja2,or_false] at hu;rcases hu with rfl | rfl
    ·exact ⟨rfl,by simp⟩
    ·exact ⟨rfl,by simp⟩
  ·rw [q4]
   show Ending.returned (Value.tuple #[Value.pointer (qj (Z1 3).r 0),Value.int .i64 0]) = Ending.returned (Value.tuple #[Value.pointer (Z1 3).r,Value.int .i64 0])
   rw [qbm]
set_option maxRecDepth 100000
@[simp] def qlb:Sg:=sg 0 [bv 11 124,bv 10 125,bg 121 117,bv 120 116,bv 119 115,bv 118 114,bv 117 113,bv 116 112,bv 115 111,bv 114 110,bv 113 109,bv 112 108,bv 111 107,bv 110 106,bv 109 105,bv 108 104,bv 107 103,bv 106 102,bv 105 101,bv 104 100,bv 103 99,bv 102 98,bv 101 97,bv 100 96,bv 99 95,bv 98 94,bv 97 93,bv 96 92,bv 95 91,bv 94 90,bv 93 89,bv 92 88,bv 91 87,bv 90 86,bv 89 85,bv 88 84,bv 87 83,bv 86 82,bv 85 81,bv 84 80,bv 83 79,bv 82 78,bv 81 77,bv 80 76,bv 79 75,bv 78 74,bv 77 73,bv 76 72,bv 75 71,bv 74 70,bv 73 69,bv 72 68,bv 71 67,bv 70 66,bv 69 65,bv 68 64,bv 67 63,bv 66 62,bv 65 61,bv 64 60,bv 63 59,bv 62 58,bv 61 57,bv 60 56,bv 59 55,bv 58 54,bv 57 53,bv 56 52,bv 55 51,bv 54 50,bv 53 49,bv 52 48,bv 51 47,bv 50 46,bv 49 45,bv 48 44,bv 47 43,bv 46 42,bv 45 41,bv 44 40,bv 43 39,bv 42 38,bv 41 37,bv 40 36,bv 39 35,bv 38 34,bv 37 33,bv 36 32,bv 35 31,bv 34 30,bv 33 29,bv 32 28,bv 31 27,bv 30 26,bv 29 25,bv 28 24,bv 27 23,bv 26 22,bv 25 21,bv 24 20,bv 23 19,bv 22 18,bv 21 17,bv 20 16,bv 19 15,bv 18 14,bv 17 13,bv 16 12,bv 15 11,bv 14 10,bv 13 9,bv 12 8,bv 9 124,bt 8 (.dlen (tv 122)),bg 7 123,bv 6 6,bv 5 5,bv 4 4,bv 3 3,bv 2 2,bv 1 1,bv 0 0]
def qoF:Out:=(.fresh 119 (.viewL (tv 7) [CK.int .u64,CK.int .u8] [117,118] 120 (.pre 0 (sg 0 [bv 4 121,bv 3 122,bv 2 121,bt 1 (.dlen (tv 122)),bg 0 120]) (tb (fr 123 3 (.post 0 0 (sg 0 [bv 4 121,bv 3 122,bv 2 121,bt 1 (.dlen (tv 122)),bg 0 120]) 123 (.pre 1 qlb (tb (fr 126 7 (.post 1 0 qlb 126 (.inv 0 133 (sg 1000 [bg 1010 132,bg 1009 131,bv 1003 129,bv 1007 125,bv 1006 124,bt 1012 (.dlen (tv 122)),bg 1005 123,bt 1008 (tl 0),bv 1004 130,bv 1002 128,bv 1001 127,bg 1000 126,bg 1011 119]) (fr 133 13 (.hyp 0 133 (tn (tl 0) (tv 145) (.br (.cmp .lss (tv 141) (tv 145))
 (tn (tl 0) (tv 141) (ts (tv 141) (.dlen (tv 140)) (.back 0 133 (sg 1000 [bg 1010 143,bg 1009 142,bv 1003 136,bt 1007 (.dput (tv 140) (tv 141) 0 (.rcons (.vint .u64 (tl 0)) (.rcons (tu (tl 0)) .rnil))),bv 1006 139,bv 1012 145,bg 1005 138,bt 1008 (.arith .add .i64 (tv 141) (tl 1)),bv 1004 137,bv 1002 135,bv 1001 134,bg 1000 133,bg 1011 144]))))
 (.pack [.cells 144 43 [(tu (tv 1)),(ti (tv 2)),(ti (tv 3)),(.vint .u64 (tv 4)),(ti (tv 5)),(ti (tv 6)),(.vslice 138 (tl 0) (tv 145) (tv 139) 2),(tv 8),(tv 9),(tv 10),(tv 11),(tv 12),(tv 13),(tv 14),(tv 15),(tv 16),(tv 17),(tv 18),(tv 19),(tv 20),(tv 21),(tv 22),(tv 23),(tv 24),(tv 25),(tv 26),(tv 27),(tv 28),(tv 29),(tv 30),(tv 31),(tv 32),(tv 33),(tv 34),(tv 35),(tv 36),(tv 37),(tv 38),(tv 39),(tv 40),(tv 41),(tv 42),(tv 43),(tv 44),(tv 45),(tv 46),(tv 47),(tv 48),(tv 49),(tv 50),(tv 51),(tv 52),(tv 53),(tv 54),(tv 55),(tv 56),(tv 57),(tv 58),(tv 59),(tv 60),(tv 61),(tv 62),(tv 63),(tv 64),(tv 65),(tv 66),(tv 67),(tv 68),(tv 69),(tv 70),(tv 71),(tv 72),(tv 73),(tv 74),(tv 75),(tv 76),(tv 77),(tv 78),(tv 79),(tv 80),(tv 81),(tv 82),(tv 83),(tv 84),(tv 85),(tv 86),(tv 87),(tv 88),(tv 89),(tv 90),(tv 91),(tv 92),(tv 93),(tv 94),(tv 95),(tv 96),(tv 97),(tv 98),(tv 99),(tv 100),(tv 101),(tv 102),(tv 103),(tv 104),(tv 105),(tv 106),(tv 107),(tv 108),(tv 109),(tv 110),(tv 111),(tv 112),(tv 113),(tv 114),(tv 115),(tv 116)],.arr 138 25 [CK.int .u64,CK.int .u8] (tv 140) (tv 139),.abs 142 2] 146 (.ret 0 (sg 119 [bg 125 143,bg 124 146,bv 122 136,bv 123 137,bv 121 135,bv 120 134,bg 119 133]))))))))))))))))))
theorem quv:qY Try.prog qhD [qjS,qpB] [qqJ] qoF:=qA Try.func23 Try.call23 (by kernel_rfl)
def qoH:Out:=(.need (.cmp .neq (tv 1) (tl 0)) (.br (.cmp .lss (.arith .rem .i64 (tv 0) (tv 1)) (tl 0))
 (.ret 0 (sg 2 [bt 2 (.arith .add .i64 (.arith .rem .i64 (tv 0) (tv 1)) (tv 1))]))
 (.ret 0 (sg 2 [bt 2 (.arith .rem .i64 (tv 0) (tv 1))]))))
theorem qtA:qY Try.prog qej [] [] qoH:=qA Try.func73 Try.call73 (by kernel_rfl)
def qoq:Out:=(tn (tl 0) (tv 2) (.pre 0 (sg 0 [bv 2 18,bv 1 2,bv 0 17]) (tb (fr 19 2 (.post 0 0 (sg 0 [bv 2 18,bv 1 2,bv 0 17]) 19 (tn (tl 0) (tv 17) (ts (tv 17) (tv 2) (ts (tl 0) (.dlen (tv 4)) (tb (ts (tv 17) (.dlen (tv 4)) (ts (tl 0) (.dlen (tv 7)) (tb (ts (tv 17) (.dlen (tv 7)) (ts (tv 17) (.dlen (tv 10)) (tb (.pack [.abs 20 5,.abs 15 5] 21 (.ret 0 (sg 19 [bg 22 21,bt 21 (.dput (tv 10) (tv 17) 0 (.rcons (.vint .u64 (tv 18)) .rnil)),bt 20 (.dput (tv 7) (tv 17) 0 (.rcons (.vbool (.bl true)) .rnil)),bt 19 (.dput (tv 4) (tv 17) 0 (.rcons (tv 19) .rnil))]))))))))))))))))))
theorem qth:qY Try.prog qeh [qxx] [] qoq:=qA Try.func40 Try.call40 (by kernel_rfl)
@[simp] def qmJ:Sg:=sg 0 [bg 2 140,bt 1 (.arith .add .u64 (.icell (tv 147) (tv 19) 0) (tl 1)),bt 0 (.vcell (tv 4) (tv 19) 0)]
@[simp] def qmh:Sg:=sg 0 [bg 118 16,bg 117 15,bv 116 132,bv 115 131,bv 114 130,bv 113 129,bv 112 128,bv 111 127,bv 110 126,bv 109 125,bv 108 124,bv 107 123,bv 106 122,bv 105 121,bv 104 120,bv 103 119,bv 102 118,bv 101 117,bv 100 116,bv 99 115,bv 98 114,bv 97 113,bv 96 112,bv 95 111,bv 94 110,bv 93 109,bv 92 108,bv 91 107,bv 90 106,bv 89 105,bv 88 104,bv 87 103,bv 86 102,bv 85 101,bv 84 100,bv 83 99,bv 82 98,bv 81 97,bv 80 96,bv 79 95,bv 78 94,bv 77 93,bv 76 92,bv 75 91,bv 74 90,bv 73 89,bv 72 88,bv 71 87,bv 70 86,bv 69 85,bv 68 84,bv 67 83,bv 66 82,bv 65 81,bv 64 80,bv 63 79,bv 62 78,bv 61 77,bv 60 76,bv 59 75,bv 58 74,bv 57 73,bv 56 72,bv 55 71,bv 54 70,bv 53 69,bv 52 68,bv 51 67,bv 50 66,bv 49 65,bv 48 64,bv 47 63,bv 46 62,bv 45 61,bv 44 60,bv 43 59,bv 42 58,bv 41 57,bv 40 56,bv 39 55,bv 38 54,bv 37 53,bv 36 52,bv 35 51,bv 34 50,bv 33 49,bv 32 48,bv 31 47,bv 30 46,bv 29 45,bv 28 44,bv 27 43,bv 26 42,bv 25 41,bv 24 40,bv 23 39,bv 22 38,bv 21 37,bv 20 36,bv 19 35,bv 18 34,bv 17 33,bv 16 32,bv 15 31,bv 14 30,bv 13 29,bv 12 28,bv 11 27,bv 10 26,bv 9 25,bv 8 24,bv 7 23,bv 6 22,bv 5 21,bv 4 20,bv 3 19,bv 2 18,bv 1 17,bt 0 (.vcell (tv 4) (tv 19) 0)]
@[simp] def qlR:Out:=.pack [.arr 144 25 [CK.int .u64,CK.int .u8] (tv 147) (tv 146),.arr 134 43 qaQ (tv 137) (tv 136),.abs 139 2,.cells 133 43 [(tu (tv 17)),(ti (tv 18)),(ti (tv 19)),(.vint .u64 (tv 20)),(ti (tv 21)),(ti (tv 22)),(tv 23),(tv 24),(tv 25),(tv 26),(tv 27),(tv 28),(tv 29),(tv 30),(tv 31),(tv 32),(tv 33),(tv 34),(tv 35),(tv 36),(tv 37),(tv 38),(tv 39),(tv 40),(tv 41),(tv 42),(tv 43),(tv 44),(tv 45),(tv 46),(tv 47),(tv 48),(tv 49),(tv 50),(tv 51),(tv 52),(tv 53),(tv 54),(tv 55),(tv 56),(tv 57),(tv 58),(tv 59),(tv 60),(tv 61),(tv 62),(tv 63),(tv 64),(tv 65),(tv 66),(tv 67),(tv 68),(tv 69),(tv 70),(tv 71),(tv 72),(tv 73),(tv 74),(tv 75),(tv 76),(tv 77),(tv 78),(tv 79),(tv 80),(tv 81),(tv 82),(tv 83),(tv 84),(tv 85),(tv 86),(tv 87),(tv 88),(tv 89),(tv 90),(tv 91),(tv 92),(tv 93),(tv 94),(tv 95),(tv 96),(tv 97),(tv 98),(tv 99),(tv 100),(tv 101),(tv 102),(tv 103),(tv 104),(tv 105),(tv 106),(tv 107),(tv 108),(tv 109),(tv 110),(tv 111),(tv 112),(tv 113),(tv 114),(tv 115),(tv 116),(tv 117),(tv 118),(tv 119),(tv 120),(tv 121),(tv 122),(tv 123),(tv 124),(tv 125),(tv 126),(tv 127),(tv 128),(tv 129),(tv 130),(tv 131),(tv 132)],.abs 16 2] 150 (.stuck 7 0 0)
def qqn:Out:=(.fresh 133 (tn (tl 0) (tv 19) (ts (tv 19) (tv 2) (ts (tv 19) (.dlen (tv 7)) (.br (.not (.bcell (tv 7) (tv 19) 0))
 (.pack [.cells 133 43 [(tu (tv 17)),(ti (tv 18)),(ti (tv 19)),(.vint .u64 (tv 20)),(ti (tv 21)),(ti (tv 22)),(tv 23),(tv 24),(tv 25),(tv 26),(tv 27),(tv 28),(tv 29),(tv 30),(tv 31),(tv 32),(tv 33),(tv 34),(tv 35),(tv 36),(tv 37),(tv 38),(tv 39),(tv 40),(tv 41),(tv 42),(tv 43),(tv 44),(tv 45),(tv 46),(tv 47),(tv 48),(tv 49),(tv 50),(tv 51),(tv 52),(tv 53),(tv 54),(tv 55),(tv 56),(tv 57),(tv 58),(tv 59),(tv 60),(tv 61),(tv 62),(tv 63),(tv 64),(tv 65),(tv 66),(tv 67),(tv 68),(tv 69),(tv 70),(tv 71),(tv 72),(tv 73),(tv 74),(tv 75),(tv 76),(tv 77),(tv 78),(tv 79),(tv 80),(tv 81),(tv 82),(tv 83),(tv 84),(tv 85),(tv 86),(tv 87),(tv 88),(tv 89),(tv 90),(tv 91),(tv 92),(tv 93),(tv 94),(tv 95),(tv 96),(tv 97),(tv 98),(tv 99),(tv 100),(tv 101),(tv 102),(tv 103),(tv 104),(tv 105),(tv 106),(tv 107),(tv 108),(tv 109),(tv 110),(tv 111),(tv 112),(tv 113),(tv 114),(tv 115),(tv 116),(tv 117),(tv 118),(tv 119),(tv 120),(tv 121),(tv 122),(tv 123),(tv 124),(tv 125),(tv 126),(tv 127),(tv 128),(tv 129),(tv 130),(tv 131),(tv 132)],.abs 16 2] 134 (.ret 0 (sg 133 [bg 139 134,bg 138 15,bv 136 14,bv 137 10,bv 135 13,bv 134 12,bg 133 11])))
 (ts (tv 19) (.dlen (tv 4)) (.pre 0 qmh (tb (fr 134 7 (.post 0 0 qmh 134 (.br (.cmp .neq (tv 138) (tl 0))
 (.pack [.arr 134 43 qaQ (tv 137) (tv 136),.abs 139 2,.cells 133 43 [(tu (tv 17)),(ti (tv 18)),(ti (tv 19)),(.vint .u64 (tv 20)),(ti (tv 21)),(ti (tv 22)),(tv 23),(tv 24),(tv 25),(tv 26),(tv 27),(tv 28),(tv 29),(tv 30),(tv 31),(tv 32),(tv 33),(tv 34),(tv 35),(tv 36),(tv 37),(tv 38),(tv 39),(tv 40),(tv 41),(tv 42),(tv 43),(tv 44),(tv 45),(tv 46),(tv 47),(tv 48),(tv 49),(tv 50),(tv 51),(tv 52),(tv 53),(tv 54),(tv 55),(tv 56),(tv 57),(tv 58),(tv 59),(tv 60),(tv 61),(tv 62),(tv 63),(tv 64),(tv 65),(tv 66),(tv 67),(tv 68),(tv 69),(tv 70),(tv 71),(tv 72),(tv 73),(tv 74),(tv 75),(tv 76),(tv 77),(tv 78),(tv 79),(tv 80),(tv 81),(tv 82),(tv 83),(tv 84),(tv 85),(tv 86),(tv 87),(tv 88),(tv 89),(tv 90),(tv 91),(tv 92),(tv 93),(tv 94),(tv 95),(tv 96),(tv 97),(tv 98),(tv 99),(tv 100),(tv 101),(tv 102),(tv 103),(tv 104),(tv 105),(tv 106),(tv 107),(tv 108),(tv 109),(tv 110),(tv 111),(tv 112),(tv 113),(tv 114),(tv 115),(tv 116),(tv 117),(tv 118),(tv 119),(tv 120),(tv 121),(tv 122),(tv 123),(tv 124),(tv 125),(tv 126),(tv 127),(tv 128),(tv 129),(tv 130),(tv 131),(tv 132)],.abs 16 2] 141 (.stuck 7 0 0))
 (.need (.cmp .eql (tv 12) (.dlen (tv 14))) (tn (tl 0) (tv 135) (tn (tv 135) (.dlen (tv 137)) (tn (.tims (tl 352) (.plus (tv 12) (tv 135))) (tl 140737488355328) (fr 141 2 (.pre 1 (sg 0 [bg 1 140,bt 0 (.vcell (tv 4) (tv 19) 0)]) (tb (.fresh 143 (.post 1 0 (sg 0 [bg 1 140,bt 0 (.vcell (tv 4) (tv 19) 0)]) 143 (.br (.cmp .neq (tv 143) (tl 0))
 (.pre 2 (sg 0 [bg 1 140,bt 0 (.vcell (tv 4) (tv 19) 0)]) (tb (fr 144 4 (.post 2 0 (sg 0 [bg 1 140,bt 0 (.vcell (tv 4) (tv 19) 0)]) 144 (ts (tv 19) (tv 145) (ts (tv 19) (.dlen (tv 147)) (.br (.cmp .gtr (tv 143) (.icell (tv 147) (tv 19) 0))
 (.pre 3 (sg 0 [bg 2 140,bt 1 (.arith .add .u64 (tv 143) (tl 1)),bt 0 (.vcell (tv 4) (tv 19) 0)]) (tb (fr 148 2 (.post 3 0 (sg 0 [bg 2 140,bt 1 (.arith .add .u64 (tv 143) (tl 1)),bt 0 (.vcell (tv 4) (tv 19) 0)]) 148 (.br (.cmp .neq (tv 148) (tl 0))
 qlR
 (ts (tv 19) (.dlen (tv 10)) (tb (.pack [.arr 144 25 [CK.int .u64,CK.int .u8] (tv 147) (tv 146),.arr 134 43 qaQ (tv 137) (tv 136),.abs 139 2,.cells 133 43 [(tu (tv 17)),(ti (tv 18)),(ti (tv 19)),(.vint .u64 (tv 20)),(ti (tv 21)),(ti (tv 22)),(tv 23),(tv 24),(tv 25),(tv 26),(tv 27),(tv 28),(tv 29),(tv 30),(tv 31),(tv 32),(tv 33),(tv 34),(tv 35),(tv 36),(tv 37),(tv 38),(tv 39),(tv 40),(tv 41),(tv 42),(tv 43),(tv 44),(tv 45),(tv 46),(tv 47),(tv 48),(tv 49),(tv 50),(tv 51),(tv 52),(tv 53),(tv 54),(tv 55),(tv 56),(tv 57),(tv 58),(tv 59),(tv 60),(tv 61),(tv 62),(tv 63),(tv 64),(tv 65),(tv 66),(tv 67),(tv 68),(tv 69),(tv 70),(tv 71),(tv 72),(tv 73),(tv 74),(tv 75),(tv 76),(tv 77),(tv 78),(tv 79),(tv 80),(tv 81),(tv 82),(tv 83),(tv 84),(tv 85),(tv 86),(tv 87),(tv 88),(tv 89),(tv 90),(tv 91),(tv 92),(tv 93),(tv 94),(tv 95),(tv 96),(tv 97),(tv 98),(tv 99),(tv 100),(tv 101),(tv 102),(tv 103),(tv 104),(tv 105),(tv 106),(tv 107),(tv 108),(tv 109),(tv 110),(tv 111),(tv 112),(tv 113),(tv 114),(tv 115),(tv 116),(tv 117),(tv 118),(tv 119),(tv 120),(tv 121),(tv 122),(tv 123),(tv 124),(tv 125),(tv 126),(tv 127),(tv 128),(tv 129),(tv 130),(tv 131),(tv 132)],.abs 16 2] 150 (.ret 0 (sg 133 [bg 139 150,bg 138 149,bt 136 (.dapp (tv 14) (.dtake (tv 137) (tv 135))),bt 137 (.dput (tv 10) (tv 19) 0 (.rcons (.vint .u64 (.arith .add .u64 (tv 143) (tl 1))) .rnil)),bv 135 142,bt 134 (.plus (tv 12) (tv 135)),bg 133 141]))))))))))
 (.pre 3 qmJ (tb (fr 148 2 (.post 3 0 qmJ 148 (.br (.cmp .neq (tv 148) (tl 0))
 qlR
 (ts (tv 19) (.dlen (tv 10)) (tb (.pack [.arr 144 25 [CK.int .u64,CK.int .u8] (tv 147) (tv 146),.arr 134 43 qaQ (tv 137) (tv 136),.abs 139 2,.cells 133 43 [(tu (tv 17)),(ti (tv 18)),(ti (tv 19)),(.vint .u64 (tv 20)),(ti (tv 21)),(ti (tv 22)),(tv 23),(tv 24),(tv 25),(tv 26),(tv 27),(tv 28),(tv 29),(tv 30),(tv 31),(tv 32),(tv 33),(tv 34),(tv 35),(tv 36),(tv 37),(tv 38),(tv 39),(tv 40),(tv 41),(tv 42),(tv 43),(tv 44),(tv 45),(tv 46),(tv 47),(tv 48),(tv 49),(tv 50),(tv 51),(tv 52),(tv 53),(tv 54),(tv 55),(tv 56),(tv 57),(tv 58),(tv 59),(tv 60),(tv 61),(tv 62),(tv 63),(tv 64),(tv 65),(tv 66),(tv 67),(tv 68),(tv 69),(tv 70),(tv 71),(tv 72),(tv 73),(tv 74),(tv 75),(tv 76),(tv 77),(tv 78),(tv 79),(tv 80),(tv 81),(tv 82),(tv 83),(tv 84),(tv 85),(tv 86),(tv 87),(tv 88),(tv 89),(tv 90),(tv 91),(tv 92),(tv 93),(tv 94),(tv 95),(tv 96),(tv 97),(tv 98),(tv 99),(tv 100),(tv 101),(tv 102),(tv 103),(tv 104),(tv 105),(tv 106),(tv 107),(tv 108),(tv 109),(tv 110),(tv 111),(tv 112),(tv 113),(tv 114),(tv 115),(tv 116),(tv 117),(tv 118),(tv 119),(tv 120),(tv 121),(tv 122),(tv 123),(tv 124),(tv 125),(tv 126),(tv 127),(tv 128),(tv 129),(tv 130),(tv 131),(tv 132)],.abs 16 2] 150 (.ret 0 (sg 133 [bg 139 150,bg 138 149,bt 136 (.dapp (tv 14) (.dtake (tv 137) (tv 135))),bt 137 (.dput (tv 10) (tv 19) 0 (.rcons (.vint .u64 (.arith .add .u64 (.icell (tv 147) (tv 19) 0) (tl 1))) .rnil)),bv 135 142,bt 134 (.plus (tv 12) (tv 135)),bg 133 141])))))))))))))))))
 (.pack [.arr 134 43 qaQ (tv 137) (tv 136),.abs 139 2,.cells 133 43 [(tu (tv 17)),(ti (tv 18)),(ti (tv 19)),(.vint .u64 (tv 20)),(ti (tv 21)),(ti (tv 22)),(tv 23),(tv 24),(tv 25),(tv 26),(tv 27),(tv 28),(tv 29),(tv 30),(tv 31),(tv 32),(tv 33),(tv 34),(tv 35),(tv 36),(tv 37),(tv 38),(tv 39),(tv 40),(tv 41),(tv 42),(tv 43),(tv 44),(tv 45),(tv 46),(tv 47),(tv 48),(tv 49),(tv 50),(tv 51),(tv 52),(tv 53),(tv 54),(tv 55),(tv 56),(tv 57),(tv 58),(tv 59),(tv 60),(tv 61),(tv 62),(tv 63),(tv 64),(tv 65),(tv 66),(tv 67),(tv 68),(tv 69),(tv 70),(tv 71),(tv 72),(tv 73),(tv 74),(tv 75),(tv 76),(tv 77),(tv 78),(tv 79),(tv 80),(tv 81),(tv 82),(tv 83),(tv 84),(tv 85),(tv 86),(tv 87),(tv 88),(tv 89),(tv 90),(tv 91),(tv 92),(tv 93),(tv 94),(tv 95),(tv 96),(tv 97),(tv 98),(tv 99),(tv 100),(tv 101),(tv 102),(tv 103),(tv 104),(tv 105),(tv 106),(tv 107),(tv 108),(tv 109),(tv 110),(tv 111),(tv 112),(tv 113),(tv 114),(tv 115),(tv 116),(tv 117),(tv 118),(tv 119),(tv 120),(tv 121),(tv 122),(tv 123),(tv 124),(tv 125),(tv 126),(tv 127),(tv 128),(tv 129),(tv 130),(tv 131),(tv 132)],.abs 16 2] 144 (.ret 0 (sg 133 [bg 139 144,bg 138 140,bt 136 (.dapp (tv 14) (.dtake (tv 137) (tv 135))),bv 137 10,bv 135 142,bt 134 (.plus (tv 12) (tv 135)),bg 133 141]))))))))))))))))))))))))
theorem qv1:qY Try.prog qeV [qhD,qkx,qd5,qm1] [] qqn:=qA Try.func74 Try.call74 (by kernel_rfl)
@[simp] def qkp:Sg:=sg 0 [bg 16 16,bg 15 15,bv 14 14,bv 10 10,bv 7 7,bv 4 4,bv 13 13,bv 12 12,bg 11 11,bv 9 9,bg 8 8,bv 6 6,bg 5 5,bv 3 3,bv 2 2,bg 1 1,bt 18 (tl 1),bv 17 22,bg 0 0]
@[simp] def qjq:Sg:=sg 0 [bg 16 16,bg 15 15,bv 14 14,bv 10 10,bv 7 7,bv 4 4,bv 13 13,bv 12 12,bg 11 11,bv 9 9,bg 8 8,bv 6 6,bg 5 5,bv 3 3,bv 2 2,bg 1 1,bt 18 (.arith .add .u64 (.icell (tv 10) (tv 22) 0) (tl 1)),bv 17 22,bg 0 0]
@[simp] def qcY:Out:=.pack [.cells 21 95 [(ti (tv 17)),(ti (tv 18)),(ti (tv 19)),(.vint .u64 (tv 20))],.abs 16 2] 23 (.ret 0 (sg 21 [bg 29 23,bg 28 15,bv 24 14,bv 27 10,bv 26 7,bv 25 4,bv 23 13,bv 22 12,bg 21 11]))
@[simp] def qld:Out:=.pack [.abs 16 2,.cells 21 95 [(ti (tv 17)),(ti (tv 18)),(ti (tv 19)),(.vint .u64 (tv 20))]] 27 (.ret 0 (sg 21 [bg 29 27,bg 28 26,bv 24 14,bv 27 25,bv 26 24,bv 25 23,bv 23 13,bv 22 12,bg 21 11]))
@[simp] def qlj:Out:=.pack [.cells 21 95 [(ti (tv 17)),(ti (tv 18)),(ti (tv 19)),(.vint .u64 (tv 20))],.abs 16 2] 23 (.ret 0 (sg 21 [bg 29 23,bg 28 15,bv 24 14,bv 27 10,bt 26 (.dput (tv 7) (tv 22) 0 (.rcons (.vbool (.bl false)) .rnil)),bv 25 4,bv 23 13,bv 22 12,bg 21 11]))
@[simp] def qk9:Out:=.need (.cmp .lss (tv 22) (.dlen (tv 4))) (tb (.pre 4 (sg 0 [bg 1 15,bt 0 (.vcell (tv 4) (tv 22) 0)]) (tb (fr 23 6 (.post 4 0 (sg 0 [bg 1 15,bt 0 (.vcell (tv 4) (tv 22) 0)]) 23 (tb (.need (.cmp .eql (tv 12) (.dlen (tv 14))) (tn (tl 0) (tv 24) (tn (tv 24) (.dlen (tv 26)) (tn (.tims (tl 352) (.plus (tv 12) (tv 24))) (tl 140737488355328) (fr 29 2 (tb (.pack [.arr 23 43 qaQ (tv 26) (tv 25),.abs 27 2,.cells 21 95 [(ti (tv 17)),(ti (tv 18)),(ti (tv 19)),(.vint .u64 (tv 20))],.abs 16 2] 31 (.ret 0 (sg 21 [bg 29 31,bg 28 28,bt 24 (.dapp (tv 14) (.dtake (tv 26) (tv 24))),bv 27 10,bt 26 (.dput (tv 7) (tv 22) 0 (.rcons (.vbool (.bl false)) .rnil)),bv 25 4,bv 23 30,bt 22 (.plus (tv 12) (tv 24)),bg 21 29])))))))))))))))
@[simp] def qkT:Out:=.br (.cmp .neq (.arith .rem .i64 (tv 19) (tl 2)) (tl 0))
 (.pre 3 qkp (tb (fr 23 4 (.post 3 0 qkp 23 qld))))
 (ts (tv 22) (.dlen (tv 10)) (.pre 3 qjq (tb (fr 23 4 (.post 3 0 qjq 23 qld)))))
@[simp] def qht:T:=.ife (tv 13) (.arith .add .i64 (tv 23) (tl 1)) (tl 0) (.arith .add .i64 (tv 23) (tl 1))
@[simp] def qlk:Sg:=sg 0 [bg 16 16,bg 15 15,bv 14 14,bv 10 10,bv 7 7,bv 4 4,bv 13 13,bv 12 12,bg 11 11,bv 9 9,bg 8 8,bv 6 6,bg 5 5,bv 3 3,bv 2 2,bg 1 1,bt 132 (ti (.icell (tv 14) (tv 23) 115)),bt 131 (.vcell (tv 14) (tv 23) 114),bt 130 (ti (.icell (tv 14) (tv 23) 113)),bt 129 (.vcell (tv 14) (tv 23) 112),bt 128 (tu (.icell (tv 14) (tv 23) 111)),bt 127 (tu (.icell (tv 14) (tv 23) 110)),bt 126 (tu (.icell (tv 14) (tv 23) 109)),bt 125 (tu (.icell (tv 14) (tv 23) 108)),bt 124 (tu (.icell (tv 14) (tv 23) 107)),bt 123 (tu (.icell (tv 14) (tv 23) 106)),bt 122 (tu (.icell (tv 14) (tv 23) 105)),bt 121 (tu (.icell (tv 14) (tv 23) 104)),bt 120 (tu (.icell (tv 14) (tv 23) 103)),bt 119 (tu (.icell (tv 14) (tv 23) 102)),bt 118 (tu (.icell (tv 14) (tv 23) 101)),bt 117 (tu (.icell (tv 14) (tv 23) 100)),bt 116 (tu (.icell (tv 14) (tv 23) 99)),bt 115 (tu (.icell (tv 14) (tv 23) 98)),bt 114 (tu (.icell (tv 14) (tv 23) 97)),bt 113 (tu (.icell (tv 14) (tv 23) 96)),bt 112 (tu (.icell (tv 14) (tv 23) 95)),bt 111 (tu (.icell (tv 14) (tv 23) 94)),bt 110 (tu (.icell (tv 14) (tv 23) 93)),bt 109 (tu (.icell (tv 14) (tv 23) 92)),bt 108 (tu (.icell (tv 14) (tv 23) 91)),bt 107 (tu (.icell (tv 14) (tv 23) 90)),bt 106 (tu (.icell (tv 14) (tv 23) 89)),bt 105 (tu (.icell (tv 14) (tv 23) 88)),bt 104 (tu (.icell (tv 14) (tv 23) 87)),bt 103 (tu (.icell (tv 14) (tv 23) 86)),bt 102 (tu (.icell (tv 14) (tv 23) 85)),bt 101 (tu (.icell (tv 14) (tv 23) 84)),bt 100 (tu (.icell (tv 14) (tv 23) 83)),bt 99 (tu (.icell (tv 14) (tv 23) 82)),bt 98 (tu (.icell (tv 14) (tv 23) 81)),bt 97 (tu (.icell (tv 14) (tv 23) 80)),bt 96 (ti (.icell (tv 14) (tv 23) 79)),bt 95 (ti (.icell (tv 14) (tv 23) 78)),bt 94 (ti (.icell (tv 14) (tv 23) 77)),bt 93 (ti (.icell (tv 14) (tv 23) 76)),bt 92 (tu (.icell (tv 14) (tv 23) 75)),bt 91 (tu (.icell (tv 14) (tv 23) 74)),bt 90 (tu (.icell (tv 14) (tv 23) 73)),bt 89 (tu (.icell (tv 14) (tv 23) 72)),bt 88 (tu (.icell (tv 14) (tv 23) 71)),bt 87 (tu (.icell (tv 14) (tv 23) 70)),bt 86 (tu (.icell (tv 14) (tv 23) 69)),bt 85 (tu (.icell (tv 14) (tv 23) 68)),bt 84 (tu (.icell (tv 14) (tv 23) 67)),bt 83 (tu (.icell (tv 14) (tv 23) 66)),bt 82 (tu (.icell (tv 14) (tv 23) 65)),bt 81 (tu (.icell (tv 14) (tv 23) 64)),bt 80 (tu (.icell (tv 14) (tv 23) 63)),bt 79 (tu (.icell (tv 14) (tv 23) 62)),bt 78 (tu (.icell (tv 14) (tv 23) 61)),bt 77 (tu (.icell (tv 14) (tv 23) 60)),bt 76 (tu (.icell (tv 14) (tv 23) 59)),bt 75 (tu (.icell (tv 14) (tv 23) 58)),bt 74 (tu (.icell (tv 14) (tv 23) 57)),bt 73 (tu (.icell (tv 14) (tv 23) 56)),bt 72 (tu (.icell (tv 14) (tv 23) 55)),bt 71 (tu (.icell (tv 14) (tv 23) 54)),bt 70 (tu (.icell (tv 14) (tv 23) 53)),bt 69 (tu (.icell (tv 14) (tv 23) 52)),bt 68 (tu (.icell (tv 14) (tv 23) 51)),bt 67 (tu (.icell (tv 14) (tv 23) 50)),bt 66 (tu (.icell (tv 14) (tv 23) 49)),bt 65 (tu (.icell (tv 14) (tv 23) 48)),bt 64 (tu (.icell (tv 14) (tv 23) 47)),bt 63 (tu (.icell (tv 14) (tv 23) 46)),bt 62 (tu (.icell (tv 14) (tv 23) 45)),bt 61 (tu (.icell (tv 14) (tv 23) 44)),bt 60 (.vbool (.bcell (tv 14) (tv 23) 43)),bt 59 (.vcell (tv 14) (tv 23) 42),bt 58 (tu (.icell (tv 14) (tv 23) 41)),bt 57 (tu (.icell (tv 14) (tv 23) 40)),bt 56 (tu (.icell (tv 14) (tv 23) 39)),bt 55 (tu (.icell (tv 14) (tv 23) 38)),bt 54 (tu (.icell (tv 14) (tv 23) 37)),bt 53 (tu (.icell (tv 14) (tv 23) 36)),bt 52 (tu (.icell (tv 14) (tv 23) 35)),bt 51 (tu (.icell (tv 14) (tv 23) 34)),bt 50 (tu (.icell (tv 14) (tv 23) 33)),bt 49 (tu (.icell (tv 14) (tv 23) 32)),bt 48 (tu (.icell (tv 14) (tv 23) 31)),bt 47 (tu (.icell (tv 14) (tv 23) 30)),bt 46 (tu (.icell (tv 14) (tv 23) 29)),bt 45 (tu (.icell (tv 14) (tv 23) 28)),bt 44 (tu (.icell (tv 14) (tv 23) 27)),bt 43 (tu (.icell (tv 14) (tv 23) 26)),bt 42 (tu (.icell (tv 14) (tv 23) 25)),bt 41 (tu (.icell (tv 14) (tv 23) 24)),bt 40 (tu (.icell (tv 14) (tv 23) 23)),bt 39 (tu (.icell (tv 14) (tv 23) 22)),bt 38 (tu (.icell (tv 14) (tv 23) 21)),bt 37 (tu (.icell (tv 14) (tv 23) 20)),bt 36 (tu (.icell (tv 14) (tv 23) 19)),bt 35 (tu (.icell (tv 14) (tv 23) 18)),bt 34 (tu (.icell (tv 14) (tv 23) 17)),bt 33 (tu (.icell (tv 14) (tv 23) 16)),bt 32 (tu (.icell (tv 14) (tv 23) 15)),bt 31 (tu (.icell (tv 14) (tv 23) 14)),bt 30 (tu (.icell (tv 14) (tv 23) 13)),bt 29 (tu (.icell (tv 14) (tv 23) 12)),bt 28 (tu (.icell (tv 14) (tv 23) 11)),bt 27 (tu (.icell (tv 14) (tv 23) 10)),bt 26 (ti (.icell (tv 14) (tv 23) 9)),bt 25 (.vcell (tv 14) (tv 23) 8),bt 24 (.vcell (tv 14) (tv 23) 7),bt 23 (.vcell (tv 14) (tv 23) 6),bt 22 (.icell (tv 14) (tv 23) 5),bt 21 (.icell (tv 14) (tv 23) 4),bt 20 (.icell (tv 14) (tv 23) 3),bt 19 (.icell (tv 14) (tv 23) 2),bt 18 (.icell (tv 14) (tv 23) 1),bt 17 (.icell (tv 14) (tv 23) 0),bg 0 0]
@[simp] def qll:Sg:=sg 0 [bg 16 16,bg 15 15,bt 14 (.dapp (.dtake (tv 14) (tv 23)) (.dtake (.ddrop (tv 14) (.ife (tv 13) (.arith .add .i64 (tv 23) (tl 1)) (tl 0) (.arith .add .i64 (tv 23) (tl 1)))) (.minus (tv 12) (.arith .add .i64 (tv 23) (tl 1))))),bv 10 10,bv 7 7,bv 4 4,bv 13 29,bt 12 (.plus (tv 23) (.minus (tv 12) (.arith .add .i64 (tv 23) (tl 1)))),bg 11 28,bv 9 9,bg 8 8,bv 6 6,bg 5 5,bv 3 3,bv 2 2,bg 1 1,bt 132 (ti (.icell (tv 14) (tv 23) 115)),bt 131 (.vcell (tv 14) (tv 23) 114),bt 130 (ti (.icell (tv 14) (tv 23) 113)),bt 129 (.vcell (tv 14) (tv 23) 112),bt 128 (tu (.icell (tv 14) (tv 23) 111)),bt 127 (tu (.icell (tv 14) (tv 23) 110)),bt 126 (tu (.icell (tv 14) (tv 23) 109)),bt 125 (tu (.icell (tv 14) (tv 23) 108)),bt 124 (tu (.icell (tv 14) (tv 23) 107)),bt 123 (tu (.icell (tv 14) (tv 23) 106)),bt 122 (tu (.icell (tv 14) (tv 23) 105)),bt 121 (tu (.icell (tv 14) (tv 23) 104)),bt 120 (tu (.icell (tv 14) (tv 23) 103)),bt 119 (tu (.icell (tv 14) (tv 23) 102)),bt 118 (tu (.icell (tv 14) (tv 23) 101)),bt 117 (tu (.icell (tv 14) (tv 23) 100)),bt 116 (tu (.icell (tv 14) (tv 23) 99)),bt 115 (tu (.icell (tv 14) (tv 23) 98)),bt 114 (tu (.icell (tv 14) (tv 23) 97)),bt 113 (tu (.icell (tv 14) (tv 23) 96)),bt 112 (tu (.icell (tv 14) (tv 23) 95)),bt 111 (tu (.icell (tv 14) (tv 23) 94)),bt 110 (tu (.icell (tv 14) (tv 23) 93)),bt 109 (tu (.icell (tv 14) (tv 23) 92)),bt 108 (tu (.icell (tv 14) (tv 23) 91)),bt 107 (tu (.icell (tv 14) (tv 23) 90)),bt 106 (tu (.icell (tv 14) (tv 23) 89)),bt 105 (tu (.icell (tv 14) (tv 23) 88)),bt 104 (tu (.icell (tv 14) (tv 23) 87)),bt 103 (tu (.icell (tv 14) (tv 23) 86)),bt 102 (tu (.icell (tv 14) (tv 23) 85)),bt 101 (tu (.icell (tv 14) (tv 23) 84)),bt 100 (tu (.icell (tv 14) (tv 23) 83)),bt 99 (tu (.icell (tv 14) (tv 23) 82)),bt 98 (tu (.icell (tv 14) (tv 23) 81)),bt 97 (tu (.icell (tv 14) (tv 23) 80)),bt 96 (ti (.icell (tv 14) (tv 23) 79)),bt 95 (ti (.icell (tv 14) (tv 23) 78)),bt 94 (ti (.icell (tv 14) (tv 23) 77)),bt 93 (ti (.icell (tv 14) (tv 23) 76)),bt 92 (tu (.icell (tv 14) (tv 23) 75)),bt 91 (tu (.icell (tv 14) (tv 23) 74)),bt 90 (tu (.icell (tv 14) (tv 23) 73)),bt 89 (tu (.icell (tv 14) (tv 23) 72)),bt 88 (tu (.icell (tv 14) (tv 23) 71)),bt 87 (tu (.icell (tv 14) (tv 23) 70)),bt 86 (tu (.icell (tv 14) (tv 23) 69)),bt 85 (tu (.icell (tv 14) (tv 23) 68)),bt 84 (tu (.icell (tv 14) (tv 23) 67)),bt 83 (tu (.icell (tv 14) (tv 23) 66)),bt 82 (tu (.icell (tv 14) (tv 23) 65)),bt 81 (tu (.icell (tv 14) (tv 23) 64)),bt 80 (tu (.icell (tv 14) (tv 23) 63)),bt 79 (tu (.icell (tv 14) (tv 23) 62)),bt 78 (tu (.icell (tv 14) (tv 23) 61)),bt 77 (tu (.icell (tv 14) (tv 23) 60)),bt 76 (tu (.icell (tv 14) (tv 23) 59)),bt 75 (tu (.icell (tv 14) (tv 23) 58)),bt 74 (tu (.icell (tv 14) (tv 23) 57)),bt 73 (tu (.icell (tv 14) (tv 23) 56)),bt 72 (tu (.icell (tv 14) (tv 23) 55)),bt 71 (tu (.icell (tv 14) (tv 23) 54)),bt 70 (tu (.icell (tv 14) (tv 23) 53)),bt 69 (tu (.icell (tv 14) (tv 23) 52)),bt 68 (tu (.icell (tv 14) (tv 23) 51)),bt 67 (tu (.icell (tv 14) (tv 23) 50)),bt 66 (tu (.icell (tv 14) (tv 23) 49)),bt 65 (tu (.icell (tv 14) (tv 23) 48)),bt 64 (tu (.icell (tv 14) (tv 23) 47)),bt 63 (tu (.icell (tv 14) (tv 23) 46)),bt 62 (tu (.icell (tv 14) (tv 23) 45)),bt 61 (tu (.icell (tv 14) (tv 23) 44)),bt 60 (.vbool (.bcell (tv 14) (tv 23) 43)),bt 59 (.vcell (tv 14) (tv 23) 42),bt 58 (tu (.icell (tv 14) (tv 23) 41)),bt 57 (tu (.icell (tv 14) (tv 23) 40)),bt 56 (tu (.icell (tv 14) (tv 23) 39)),bt 55 (tu (.icell (tv 14) (tv 23) 38)),bt 54 (tu (.icell (tv 14) (tv 23) 37)),bt 53 (tu (.icell (tv 14) (tv 23) 36)),bt 52 (tu (.icell (tv 14) (tv 23) 35)),bt 51 (tu (.icell (tv 14) (tv 23) 34)),bt 50 (tu (.icell (tv 14) (tv 23) 33)),bt 49 (tu (.icell (tv 14) (tv 23) 32)),bt 48 (tu (.icell (tv 14) (tv 23) 31)),bt 47 (tu (.icell (tv 14) (tv 23) 30)),bt 46 (tu (.icell (tv 14) (tv 23) 29)),bt 45 (tu (.icell (tv 14) (tv 23) 28)),bt 44 (tu (.icell (tv 14) (tv 23) 27)),bt 43 (tu (.icell (tv 14) (tv 23) 26)),bt 42 (tu (.icell (tv 14) (tv 23) 25)),bt 41 (tu (.icell (tv 14) (tv 23) 24)),bt 40 (tu (.icell (tv 14) (tv 23) 23)),bt 39 (tu (.icell (tv 14) (tv 23) 22)),bt 38 (tu (.icell (tv 14) (tv 23) 21)),bt 37 (tu (.icell (tv 14) (tv 23) 20)),bt 36 (tu (.icell (tv 14) (tv 23) 19)),bt 35 (tu (.icell (tv 14) (tv 23) 18)),bt 34 (tu (.icell (tv 14) (tv 23) 17)),bt 33 (tu (.icell (tv 14) (tv 23) 16)),bt 32 (tu (.icell (tv 14) (tv 23) 15)),bt 31 (tu (.icell (tv 14) (tv 23) 14)),bt 30 (tu (.icell (tv 14) (tv 23) 13)),bt 29 (tu (.icell (tv 14) (tv 23) 12)),bt 28 (tu (.icell (tv 14) (tv 23) 11)),bt 27 (tu (.icell (tv 14) (tv 23) 10)),bt 26 (ti (.icell (tv 14) (tv 23) 9)),bt 25 (.vcell (tv 14) (tv 23) 8),bt 24 (.vcell (tv 14) (tv 23) 7),bt 23 (.vcell (tv 14) (tv 23) 6),bt 22 (.icell (tv 14) (tv 23) 5),bt 21 (.icell (tv 14) (tv 23) 4),bt 20 (.icell (tv 14) (tv 23) 3),bt 19 (.icell (tv 14) (tv 23) 2),bt 18 (.icell (tv 14) (tv 23) 1),bt 17 (.icell (tv 14) (tv 23) 0),bg 0 0]
@[simp] def qlm:Out:=.br (.cmp .eql (tv 17) (tl 1))
 (tn (tl 0) (tv 22) (ts (tv 22) (tv 2) (ts (tv 22) (.dlen (tv 7)) (.br (.bcell (tv 7) (tv 22) 0)
 (ts (tv 22) (.dlen (tv 4)) (tb (.pre 2 (sg 0 [bg 2 15,bv 1 20,bt 0 (.vcell (tv 4) (tv 22) 0)]) (tb (fr 23 6 (.post 2 0 (sg 0 [bg 2 15,bv 1 20,bt 0 (.vcell (tv 4) (tv 22) 0)]) 23 (tb (.need (.cmp .eql (tv 12) (.dlen (tv 14))) (tn (tl 0) (tv 24) (tn (tv 24) (.dlen (tv 26)) (tn (.tims (tl 352) (.plus (tv 12) (tv 24))) (tl 140737488355328) (fr 29 2 (tb (.pack [.arr 23 43 qaQ (tv 26) (tv 25),.abs 27 2,.cells 21 95 [(ti (tv 17)),(ti (tv 18)),(ti (tv 19)),(.vint .u64 (tv 20))],.abs 16 2] 31 (.ret 0 (sg 21 [bg 29 31,bg 28 28,bt 24 (.dapp (tv 14) (.dtake (tv 26) (tv 24))),bv 27 10,bv 26 7,bv 25 4,bv 23 30,bt 22 (.plus (tv 12) (tv 24)),bg 21 29]))))))))))))))))
 (.br (.cmp .eql (tv 17) (tl 5))
 qlj
 (.br (.cmp .eql (tv 17) (tl 6))
 qkT
 (.br (.cmp .eql (tv 17) (tl 7))
 qcY
 qcY)))))))
 (.br (.cmp .eql (tv 17) (tl 5))
 (tn (tl 0) (tv 22) (ts (tv 22) (tv 2) (ts (tv 22) (.dlen (tv 7)) qlj)))
 (.br (.cmp .eql (tv 17) (tl 6))
 (tn (tl 0) (tv 22) (ts (tv 22) (tv 2) (ts (tv 22) (.dlen (tv 7)) (.br (.not (.bcell (tv 7) (tv 22) 0))
 qkT
 (.br (.cmp .eql (tv 17) (tl 7))
 qk9
 qcY)))))
 (.br (.cmp .eql (tv 17) (tl 7))
 (tn (tl 0) (tv 22) (ts (tv 22) (tv 2) (ts (tv 22) (.dlen (tv 7)) (.br (.bcell (tv 7) (tv 22) 0)
 qk9
 qcY))))
 qcY)))
def qoN:Out:=(.fresh 21 (tn (tl 0) (tv 2) (tb (.pre 0 (sg 0 [bv 1 2,bv 0 18]) (tb (.fresh 22 (.post 0 0 (sg 0 [bv 1 2,bv 0 18]) 22 (.br (.cmp .geq (tv 17) (tl 2))
 (.br (.cmp .leq (tv 17) (tl 4))
 (tn (tl 0) (tv 12) (.br (.cmp .eql (tv 12) (tl 0))
 qcY
 (tb (.pre 0 (sg 0 [bv 1 12,bv 0 18]) (tb (.fresh 23 (.post 0 0 (sg 0 [bv 1 12,bv 0 18]) 23 (tn (tl 0) (tv 23) (ts (tv 23) (tv 12) (ts (tv 23) (.dlen (tv 14)) (.fresh 24 (.br (.cmp .neq (tv 17) (tl 4))
 (.know (.cmp .leq (.dlen (tv 14)) (tv 13)) (tn (tl 0) (tv 13) (tn (tv 23) (tv 13) (tn (tl 0) (.arith .add .i64 (tv 23) (tl 1)) (tn (.arith .add .i64 (tv 23) (tl 1)) (tv 12) (tn (tv 12) (tv 13) (tb (.fresh 25 (tb (tn (tv 23) (.dlen (tv 14)) (tn (.tims (tl 352) (tv 23)) (tl 140737488355328) (fr 26 2 (tb (.need (.cmp .eql (tv 23) (.dlen (.dtake (tv 14) (tv 23)))) (tn (tl 0) qht (tn (tl 0) (.minus (tv 12) (.arith .add .i64 (tv 23) (tl 1))) (tn (.plus qht (.minus (tv 12) (.arith .add .i64 (tv 23) (tl 1)))) (.dlen (tv 14)) (tn (.tims (tl 352) (.plus (tv 23) (.minus (tv 12) (.arith .add .i64 (tv 23) (tl 1))))) (tl 140737488355328) (fr 28 2 (tb (.br (.cmp .eql (tv 17) (tl 3))
 (.pack [.cells 24 43 (qk2 (tv 14) (tv 23) 0 116),.cells 21 95 [(ti (tv 17)),(ti (tv 18)),(ti (tv 19)),(.vint .u64 (tv 20))],.arr 11 43 qaQ (tv 14) (tv 13),.abs 16 2] 30 (.ret 0 (sg 21 [bg 29 30,bg 28 15,bt 24 (.dapp (.dtake (tv 14) (tv 23)) (.dtake (.ddrop (tv 14) qht) (.minus (tv 12) (.arith .add .i64 (tv 23) (tl 1))))),bv 27 10,bv 26 7,bv 25 4,bv 23 29,bt 22 (.plus (tv 23) (.minus (tv 12) (.arith .add .i64 (tv 23) (tl 1)))),bg 21 28])))
 (.pre 1 qll (tb (fr 30 7 (.post 1 0 qll 30 (.pack [.abs 36 2,.cells 24 43 (qk2 (tv 14) (tv 23) 0 116),.cells 21 95 [(ti (tv 17)),(ti (tv 18)),(ti (tv 19)),(.vint .u64 (tv 20))],.arr 11 43 qaQ (tv 14) (tv 13)] 37 (.ret 0 (sg 21 [bg 29 37,bg 28 35,bv 24 33,bv 27 34,bv 26 7,bv 25 4,bv 23 32,bv 22 31,bg 21 30]))))))))))))))))))))))))))))
 (.br (.cmp .eql (tv 17) (tl 3))
 (.pack [.cells 24 43 (qk2 (tv 14) (tv 23) 0 116),.cells 21 95 [(ti (tv 17)),(ti (tv 18)),(ti (tv 19)),(.vint .u64 (tv 20))],.abs 16 2] 25 (.ret 0 (sg 21 [bg 29 25,bg 28 15,bv 24 14,bv 27 10,bv 26 7,bv 25 4,bv 23 13,bv 22 12,bg 21 11])))
 (.pre 1 qlk (tb (fr 25 7 (.post 1 0 qlk 25 (.pack [.abs 31 2,.cells 24 43 (qk2 (tv 14) (tv 23) 0 116),.cells 21 95 [(ti (tv 17)),(ti (tv 18)),(ti (tv 19)),(.vint .u64 (tv 20))]] 32 (.ret 0 (sg 21 [bg 29 32,bg 28 30,bv 24 28,bv 27 29,bv 26 7,bv 25 4,bv 23 27,bv 22 26,bg 21 25]))))))))))))))))))))
 qlm)
 qlm))))))))
theorem qt8:qY Try.prog qes [qej,qeV,qiv,qeh,qmz] [] qoN:=qA Try.func46 Try.call46 (by kernel_rfl)
@[simp] def qh2:T:=.ife (tv 40) (.arith .add .i64 (tv 44) (tl 1)) (tl 0) (.arith .add .i64 (tv 44) (tl 1))
@[simp] def qkH:Sg:=sg 0 [bg 16 36,bg 15 35,bv 14 34,bv 10 43,bv 7 7,bv 4 4,bv 13 33,bv 12 32,bg 11 31,bv 9 9,bg 8 8,bv 6 6,bg 5 5,bv 3 3,bv 2 2,bg 1 1,bt 132 (ti (.icell (tv 41) (tl 0) 115)),bt 131 (.vcell (tv 41) (tl 0) 114),bt 130 (ti (.icell (tv 41) (tl 0) 113)),bt 129 (.vcell (tv 41) (tl 0) 112),bt 128 (tu (.icell (tv 41) (tl 0) 111)),bt 127 (tu (.icell (tv 41) (tl 0) 110)),bt 126 (tu (.icell (tv 41) (tl 0) 109)),bt 125 (tu (.icell (tv 41) (tl 0) 108)),bt 124 (tu (.icell (tv 41) (tl 0) 107)),bt 123 (tu (.icell (tv 41) (tl 0) 106)),bt 122 (tu (.icell (tv 41) (tl 0) 105)),bt 121 (tu (.icell (tv 41) (tl 0) 104)),bt 120 (tu (.icell (tv 41) (tl 0) 103)),bt 119 (tu (.icell (tv 41) (tl 0) 102)),bt 118 (tu (.icell (tv 41) (tl 0) 101)),bt 117 (tu (.icell (tv 41) (tl 0) 100)),bt 116 (tu (.icell (tv 41) (tl 0) 99)),bt 115 (tu (.icell (tv 41) (tl 0) 98)),bt 114 (tu (.icell (tv 41) (tl 0) 97)),bt 113 (tu (.icell (tv 41) (tl 0) 96)),bt 112 (tu (.icell (tv 41) (tl 0) 95)),bt 111 (tu (.icell (tv 41) (tl 0) 94)),bt 110 (tu (.icell (tv 41) (tl 0) 93)),bt 109 (tu (.icell (tv 41) (tl 0) 92)),bt 108 (tu (.icell (tv 41) (tl 0) 91)),bt 107 (tu (.icell (tv 41) (tl 0) 90)),bt 106 (tu (.icell (tv 41) (tl 0) 89)),bt 105 (tu (.icell (tv 41) (tl 0) 88)),bt 104 (tu (.icell (tv 41) (tl 0) 87)),bt 103 (tu (.icell (tv 41) (tl 0) 86)),bt 102 (tu (.icell (tv 41) (tl 0) 85)),bt 101 (tu (.icell (tv 41) (tl 0) 84)),bt 100 (tu (.icell (tv 41) (tl 0) 83)),bt 99 (tu (.icell (tv 41) (tl 0) 82)),bt 98 (tu (.icell (tv 41) (tl 0) 81)),bt 97 (tu (.icell (tv 41) (tl 0) 80)),bt 96 (ti (.icell (tv 41) (tl 0) 79)),bt 95 (ti (.icell (tv 41) (tl 0) 78)),bt 94 (ti (.icell (tv 41) (tl 0) 77)),bt 93 (ti (.icell (tv 41) (tl 0) 76)),bt 92 (tu (.icell (tv 41) (tl 0) 75)),bt 91 (tu (.icell (tv 41) (tl 0) 74)),bt 90 (tu (.icell (tv 41) (tl 0) 73)),bt 89 (tu (.icell (tv 41) (tl 0) 72)),bt 88 (tu (.icell (tv 41) (tl 0) 71)),bt 87 (tu (.icell (tv 41) (tl 0) 70)),bt 86 (tu (.icell (tv 41) (tl 0) 69)),bt 85 (tu (.icell (tv 41) (tl 0) 68)),bt 84 (tu (.icell (tv 41) (tl 0) 67)),bt 83 (tu (.icell (tv 41) (tl 0) 66)),bt 82 (tu (.icell (tv 41) (tl 0) 65)),bt 81 (tu (.icell (tv 41) (tl 0) 64)),bt 80 (tu (.icell (tv 41) (tl 0) 63)),bt 79 (tu (.icell (tv 41) (tl 0) 62)),bt 78 (tu (.icell (tv 41) (tl 0) 61)),bt 77 (tu (.icell (tv 41) (tl 0) 60)),bt 76 (tu (.icell (tv 41) (tl 0) 59)),bt 75 (tu (.icell (tv 41) (tl 0) 58)),bt 74 (tu (.icell (tv 41) (tl 0) 57)),bt 73 (tu (.icell (tv 41) (tl 0) 56)),bt 72 (tu (.icell (tv 41) (tl 0) 55)),bt 71 (tu (.icell (tv 41) (tl 0) 54)),bt 70 (tu (.icell (tv 41) (tl 0) 53)),bt 69 (tu (.icell (tv 41) (tl 0) 52)),bt 68 (tu (.icell (tv 41) (tl 0) 51)),bt 67 (tu (.icell (tv 41) (tl 0) 50)),bt 66 (tu (.icell (tv 41) (tl 0) 49)),bt 65 (tu (.icell (tv 41) (tl 0) 48)),bt 64 (tu (.icell (tv 41) (tl 0) 47)),bt 63 (tu (.icell (tv 41) (tl 0) 46)),bt 62 (tu (.icell (tv 41) (tl 0) 45)),bt 61 (tu (.icell (tv 41) (tl 0) 44)),bt 60 (.vbool (.bcell (tv 41) (tl 0) 43)),bt 59 (.vcell (tv 41) (tl 0) 42),bt 58 (tu (.icell (tv 41) (tl 0) 41)),bt 57 (tu (.icell (tv 41) (tl 0) 40)),bt 56 (tu (.icell (tv 41) (tl 0) 39)),bt 55 (tu (.icell (tv 41) (tl 0) 38)),bt 54 (tu (.icell (tv 41) (tl 0) 37)),bt 53 (tu (.icell (tv 41) (tl 0) 36)),bt 52 (tu (.icell (tv 41) (tl 0) 35)),bt 51 (tu (.icell (tv 41) (tl 0) 34)),bt 50 (tu (.icell (tv 41) (tl 0) 33)),bt 49 (tu (.icell (tv 41) (tl 0) 32)),bt 48 (tu (.icell (tv 41) (tl 0) 31)),bt 47 (tu (.icell (tv 41) (tl 0) 30)),bt 46 (tu (.icell (tv 41) (tl 0) 29)),bt 45 (tu (.icell (tv 41) (tl 0) 28)),bt 44 (tu (.icell (tv 41) (tl 0) 27)),bt 43 (tu (.icell (tv 41) (tl 0) 26)),bt 42 (tu (.icell (tv 41) (tl 0) 25)),bt 41 (tu (.icell (tv 41) (tl 0) 24)),bt 40 (tu (.icell (tv 41) (tl 0) 23)),bt 39 (tu (.icell (tv 41) (tl 0) 22)),bt 38 (tu (.icell (tv 41) (tl 0) 21)),bt 37 (tu (.icell (tv 41) (tl 0) 20)),bt 36 (tu (.icell (tv 41) (tl 0) 19)),bt 35 (tu (.icell (tv 41) (tl 0) 18)),bt 34 (tu (.icell (tv 41) (tl 0) 17)),bt 33 (tu (.icell (tv 41) (tl 0) 16)),bt 32 (tu (.icell (tv 41) (tl 0) 15)),bt 31 (tu (.icell (tv 41) (tl 0) 14)),bt 30 (tu (.icell (tv 41) (tl 0) 13)),bt 29 (tu (.icell (tv 41) (tl 0) 12)),bt 28 (tu (.icell (tv 41) (tl 0) 11)),bt 27 (tu (.icell (tv 41) (tl 0) 10)),bt 26 (ti (.icell (tv 41) (tl 0) 9)),bt 25 (.vcell (tv 41) (tl 0) 8),bt 24 (.vcell (tv 41) (tl 0) 7),bt 23 (.vcell (tv 41) (tl 0) 6),bt 22 (.icell (tv 41) (tl 0) 5),bt 21 (.icell (tv 41) (tl 0) 4),bt 20 (.icell (tv 41) (tl 0) 3),bt 19 (.icell (tv 41) (tl 0) 2),bt 18 (.icell (tv 41) (tl 0) 1),bt 17 (.icell (tv 41) (tl 0) 0),bg 0 0]
@[simp] def qkZ:Sg:=sg 0 [bg 16 36,bg 15 35,bv 14 34,bv 10 43,bv 7 7,bv 4 4,bv 13 33,bv 12 32,bg 11 31,bv 9 9,bg 8 8,bv 6 6,bg 5 5,bv 3 3,bv 2 2,bg 1 1,bt 132 (ti (.icell (tv 41) (tv 44) 115)),bt 131 (.vcell (tv 41) (tv 44) 114),bt 130 (ti (.icell (tv 41) (tv 44) 113)),bt 129 (.vcell (tv 41) (tv 44) 112),bt 128 (tu (.icell (tv 41) (tv 44) 111)),bt 127 (tu (.icell (tv 41) (tv 44) 110)),bt 126 (tu (.icell (tv 41) (tv 44) 109)),bt 125 (tu (.icell (tv 41) (tv 44) 108)),bt 124 (tu (.icell (tv 41) (tv 44) 107)),bt 123 (tu (.icell (tv 41) (tv 44) 106)),bt 122 (tu (.icell (tv 41) (tv 44) 105)),bt 121 (tu (.icell (tv 41) (tv 44) 104)),bt 120 (tu (.icell (tv 41) (tv 44) 103)),bt 119 (tu (.icell (tv 41) (tv 44) 102)),bt 118 (tu (.icell (tv 41) (tv 44) 101)),bt 117 (tu (.icell (tv 41) (tv 44) 100)),bt 116 (tu (.icell (tv 41) (tv 44) 99)),bt 115 (tu (.icell (tv 41) (tv 44) 98)),bt 114 (tu (.icell (tv 41) (tv 44) 97)),bt 113 (tu (.icell (tv 41) (tv 44) 96)),bt 112 (tu (.icell (tv 41) (tv 44) 95)),bt 111 (tu (.icell (tv 41) (tv 44) 94)),bt 110 (tu (.icell (tv 41) (tv 44) 93)),bt 109 (tu (.icell (tv 41) (tv 44) 92)),bt 108 (tu (.icell (tv 41) (tv 44) 91)),bt 107 (tu (.icell (tv 41) (tv 44) 90)),bt 106 (tu (.icell (tv 41) (tv 44) 89)),bt 105 (tu (.icell (tv 41) (tv 44) 88)),bt 104 (tu (.icell (tv 41) (tv 44) 87)),bt 103 (tu (.icell (tv 41) (tv 44) 86)),bt 102 (tu (.icell (tv 41) (tv 44) 85)),bt 101 (tu (.icell (tv 41) (tv 44) 84)),bt 100 (tu (.icell (tv 41) (tv 44) 83)),bt 99 (tu (.icell (tv 41) (tv 44) 82)),bt 98 (tu (.icell (tv 41) (tv 44) 81)),bt 97 (tu (.icell (tv 41) (tv 44) 80)),bt 96 (ti (.icell (tv 41) (tv 44) 79)),bt 95 (ti (.icell (tv 41) (tv 44) 78)),bt 94 (ti (.icell (tv 41) (tv 44) 77)),bt 93 (ti (.icell (tv 41) (tv 44) 76)),bt 92 (tu (.icell (tv 41) (tv 44) 75)),bt 91 (tu (.icell (tv 41) (tv 44) 74)),bt 90 (tu (.icell (tv 41) (tv 44) 73)),bt 89 (tu (.icell (tv 41) (tv 44) 72)),bt 88 (tu (.icell (tv 41) (tv 44) 71)),bt 87 (tu (.icell (tv 41) (tv 44) 70)),bt 86 (tu (.icell (tv 41) (tv 44) 69)),bt 85 (tu (.icell (tv 41) (tv 44) 68)),bt 84 (tu (.icell (tv 41) (tv 44) 67)),bt 83 (tu (.icell (tv 41) (tv 44) 66)),bt 82 (tu (.icell (tv 41) (tv 44) 65)),bt 81 (tu (.icell (tv 41) (tv 44) 64)),bt 80 (tu (.icell (tv 41) (tv 44) 63)),bt 79 (tu (.icell (tv 41) (tv 44) 62)),bt 78 (tu (.icell (tv 41) (tv 44) 61)),bt 77 (tu (.icell (tv 41) (tv 44) 60)),bt 76 (tu (.icell (tv 41) (tv 44) 59)),bt 75 (tu (.icell (tv 41) (tv 44) 58)),bt 74 (tu (.icell (tv 41) (tv 44) 57)),bt 73 (tu (.icell (tv 41) (tv 44) 56)),bt 72 (tu (.icell (tv 41) (tv 44) 55)),bt 71 (tu (.icell (tv 41) (tv 44) 54)),bt 70 (tu (.icell (tv 41) (tv 44) 53)),bt 69 (tu (.icell (tv 41) (tv 44) 52)),bt 68 (tu (.icell (tv 41) (tv 44) 51)),bt 67 (tu (.icell (tv 41) (tv 44) 50)),bt 66 (tu (.icell (tv 41) (tv 44) 49)),bt 65 (tu (.icell (tv 41) (tv 44) 48)),bt 64 (tu (.icell (tv 41) (tv 44) 47)),bt 63 (tu (.icell (tv 41) (tv 44) 46)),bt 62 (tu (.icell (tv 41) (tv 44) 45)),bt 61 (tu (.icell (tv 41) (tv 44) 44)),bt 60 (.vbool (.bcell (tv 41) (tv 44) 43)),bt 59 (.vcell (tv 41) (tv 44) 42),bt 58 (tu (.icell (tv 41) (tv 44) 41)),bt 57 (tu (.icell (tv 41) (tv 44) 40)),bt 56 (tu (.icell (tv 41) (tv 44) 39)),bt 55 (tu (.icell (tv 41) (tv 44) 38)),bt 54 (tu (.icell (tv 41) (tv 44) 37)),bt 53 (tu (.icell (tv 41) (tv 44) 36)),bt 52 (tu (.icell (tv 41) (tv 44) 35)),bt 51 (tu (.icell (tv 41) (tv 44) 34)),bt 50 (tu (.icell (tv 41) (tv 44) 33)),bt 49 (tu (.icell (tv 41) (tv 44) 32)),bt 48 (tu (.icell (tv 41) (tv 44) 31)),bt 47 (tu (.icell (tv 41) (tv 44) 30)),bt 46 (tu (.icell (tv 41) (tv 44) 29)),bt 45 (tu (.icell (tv 41) (tv 44) 28)),bt 44 (tu (.icell (tv 41) (tv 44) 27)),bt 43 (tu (.icell (tv 41) (tv 44) 26)),bt 42 (tu (.icell (tv 41) (tv 44) 25)),bt 41 (tu (.icell (tv 41) (tv 44) 24)),bt 40 (tu (.icell (tv 41) (tv 44) 23)),bt 39 (tu (.icell (tv 41) (tv 44) 22)),bt 38 (tu (.icell (tv 41) (tv 44) 21)),bt 37 (tu (.icell (tv 41) (tv 44) 20)),bt 36 (tu (.icell (tv 41) (tv 44) 19)),bt 35 (tu (.icell (tv 41) (tv 44) 18)),bt 34 (tu (.icell (tv 41) (tv 44) 17)),bt 33 (tu (.icell (tv 41) (tv 44) 16)),bt 32 (tu (.icell (tv 41) (tv 44) 15)),bt 31 (tu (.icell (tv 41) (tv 44) 14)),bt 30 (tu (.icell (tv 41) (tv 44) 13)),bt 29 (tu (.icell (tv 41) (tv 44) 12)),bt 28 (tu (.icell (tv 41) (tv 44) 11)),bt 27 (tu (.icell (tv 41) (tv 44) 10)),bt 26 (ti (.icell (tv 41) (tv 44) 9)),bt 25 (.vcell (tv 41) (tv 44) 8),bt 24 (.vcell (tv 41) (tv 44) 7),bt 23 (.vcell (tv 41) (tv 44) 6),bt 22 (.icell (tv 41) (tv 44) 5),bt 21 (.icell (tv 41) (tv 44) 4),bt 20 (.icell (tv 41) (tv 44) 3),bt 19 (.icell (tv 41) (tv 44) 2),bt 18 (.icell (tv 41) (tv 44) 1),bt 17 (.icell (tv 41) (tv 44) 0),bg 0 0]
def qoJ:Out:=(.inv 0 24 (sg 1000 [bg 1005 16,bg 1004 15,bt 1003 .dnil,bt 1002 (tl 0),bt 1001 (tl 0),(1000,.nil),bt 1006 (tl 0)]) (fr 24 7 (.hyp 0 24 (tn (tl 0) (tv 2) (.br (.cmp .lss (tv 30) (tv 2))
 (tn (tl 0) (tv 30) (ts (tv 30) (.dlen (tv 7)) (.br (.bcell (tv 7) (tv 30) 0)
 (ts (tv 30) (.dlen (tv 4)) (tb (.pre 0 (sg 0 [bg 2 28,bv 1 17,bt 0 (.vcell (tv 4) (tv 30) 0)]) (tb (fr 31 6 (.post 0 0 (sg 0 [bg 2 28,bv 1 17,bt 0 (.vcell (tv 4) (tv 30) 0)]) 31 (tb (.need (.cmp .eql (tv 25) (.dlen (tv 27))) (tn (tl 0) (tv 32) (tn (tv 32) (.dlen (tv 34)) (tn (.tims (tl 352) (.plus (tv 25) (tv 32))) (tl 140737488355328) (fr 37 2 (tb (.pack [.arr 31 43 qaQ (tv 34) (tv 33),.abs 35 2,.abs 29 2] 39 (.back 0 24 (sg 1000 [bg 1005 39,bg 1004 36,bt 1003 (.dapp (tv 27) (.dtake (tv 34) (tv 32))),bv 1002 38,bt 1001 (.plus (tv 25) (tv 32)),bg 1000 37,bt 1006 (.arith .add .i64 (tv 30) (tl 1))]))))))))))))))))
 (.back 0 24 (sg 1000 [bg 1005 29,bg 1004 28,bv 1003 27,bv 1002 26,bv 1001 25,bg 1000 24,bt 1006 (.arith .add .i64 (tv 30) (tl 1))])))))
 (tn (tl 0) (tv 12) (.inv 1 31 (sg 1000 [bg 1005 29,bg 1004 28,bv 1003 27,bv 1010 14,bv 1012 10,bv 1002 26,bv 1001 25,bg 1000 24,bv 1011 12,bv 1009 13,bv 1008 12,bg 1007 11]) (fr 31 13 (.hyp 1 31 (.br (.cmp .gtr (tv 42) (tl 0))
 (tn (tl 0) (tv 19) (.br (.cmp .gtr (tv 19) (tl 0))
 (.need (.cmp .neq (tv 19) (tl 0)) (tn (tl 0) (.arith .rem .i64 (.arith .add .i64 (tv 23) (tv 42)) (tv 19)) (ts (.arith .rem .i64 (.arith .add .i64 (tv 23) (tv 42)) (tv 19)) (tv 19) (ts (.arith .rem .i64 (.arith .add .i64 (tv 23) (tv 42)) (tv 19)) (.dlen (tv 21)) (.pre 1 (sg 0 [bv 1 42,bt 0 (.icell (tv 21) (.arith .rem .i64 (.arith .add .i64 (tv 23) (tv 42)) (tv 19)) 0)]) (tb (.fresh 44 (.post 1 0 (sg 0 [bv 1 42,bt 0 (.icell (tv 21) (.arith .rem .i64 (.arith .add .i64 (tv 23) (tv 42)) (tv 19)) 0)]) 44 (tn (tl 0) (tv 44) (ts (tv 44) (tv 39) (ts (tv 44) (.dlen (tv 41)) (.fresh 45 (.know (.cmp .leq (.dlen (tv 41)) (tv 40)) (tn (tl 0) (tv 39) (tn (tl 0) (tv 40) (tn (tv 44) (tv 40) (tn (tl 0) (.arith .add .i64 (tv 44) (tl 1)) (tn (.arith .add .i64 (tv 44) (tl 1)) (tv 39) (tn (tv 39) (tv 40) (tb (.fresh 46 (tb (tn (tv 44) (.dlen (tv 41)) (tn (.tims (tl 352) (tv 44)) (tl 140737488355328) (fr 47 2 (tb (.need (.cmp .eql (tv 44) (.dlen (.dtake (tv 41) (tv 44)))) (tn (tl 0) qh2 (tn (tl 0) (.minus (tv 39) (.arith .add .i64 (tv 44) (tl 1))) (tn (.plus qh2 (.minus (tv 39) (.arith .add .i64 (tv 44) (tl 1)))) (.dlen (tv 41)) (tn (.tims (tl 352) (.plus (tv 44) (.minus (tv 39) (.arith .add .i64 (tv 44) (tl 1))))) (tl 140737488355328) (fr 49 2 (.pre 2 qkZ (tb (fr 51 7 (.post 2 0 qkZ 51 (.pack [.abs 57 2,.cells 45 43 (qk2 (tv 41) (tv 44) 0 116),.arr 38 43 qaQ (tv 41) (tv 40)] 58 (.back 1 31 (sg 1000 [bg 1005 58,bg 1004 56,bv 1003 54,bt 1010 (.dapp (.dtake (tv 41) (tv 44)) (.dtake (.ddrop (tv 41) qh2) (.minus (tv 39) (.arith .add .i64 (tv 44) (tl 1))))),bv 1012 55,bv 1002 53,bv 1001 52,bg 1000 51,bt 1011 (.arith .sub .i64 (tv 42) (tl 1)),bv 1009 50,bt 1008 (.plus (tv 44) (.minus (tv 39) (.arith .add .i64 (tv 44) (tl 1)))),bg 1007 49])))))))))))))))))))))))))))))))))))))))
 (ts (tl 0) (tv 39) (ts (tl 0) (.dlen (tv 41)) (.fresh 44 (.know (.cmp .leq (.dlen (tv 41)) (tv 40)) (tn (tl 0) (tv 39) (tn (tl 0) (tv 40) (tn (tl 1) (tv 39) (tn (tv 39) (tv 40) (tb (.fresh 45 (tb (tn (tl 0) (.dlen (tv 41)) (tn (.tims (tl 352) (tl 0)) (tl 140737488355328) (fr 46 2 (tb (.need (.cmp .eql (tl 0) (.dlen (.dtake (tv 41) (tl 0)))) (tn (tl 0) (.ife (tv 40) (tl 1) (tl 0) (tl 1)) (tn (tl 0) (.minus (tv 39) (tl 1)) (tn (.plus (.ife (tv 40) (tl 1) (tl 0) (tl 1)) (.minus (tv 39) (tl 1))) (.dlen (tv 41)) (tn (.tims (tl 352) (.minus (tv 39) (tl 1))) (tl 140737488355328) (fr 48 2 (.pre 2 qkH (tb (fr 50 7 (.post 2 0 qkH 50 (.pack [.abs 56 2,.cells 44 43 (qk2 (tv 41) (tl 0) 0 116),.arr 38 43 qaQ (tv 41) (tv 40)] 57 (.back 1 31 (sg 1000 [bg 1005 57,bg 1004 55,bv 1003 53,bt 1010 (.dapp (.dtake (tv 41) (tl 0)) (.dtake (.ddrop (tv 41) (.ife (tv 40) (tl 1) (tl 0) (tl 1))) (.minus (tv 39) (tl 1)))),bv 1012 54,bv 1002 52,bv 1001 51,bg 1000 50,bt 1011 (.arith .sub .i64 (tv 42) (tl 1)),bv 1009 49,bt 1008 (.minus (tv 39) (tl 1)),bg 1007 48]))))))))))))))))))))))))))))))
 (.pack [.arr 38 43 qaQ (tv 41) (tv 40),.abs 36 2] 44 (.ret 0 (sg 24 [bg 30 44,bg 29 35,bv 27 34,bv 28 43,bv 26 33,bv 25 32,bg 24 31])))))))))))))
theorem qul:qY Try.prog qcQ [qiv,qej,qeV] [qru,qrl] qoJ:=qA Try.func41 Try.call41 (by kernel_rfl)
def qoj:Out:=(.inv 0 16 (sg 1000 [bt 1000 (tl 0)]) (.fresh 16 (.hyp 0 16 (tn (tl 0) (tv 2) (.br (.cmp .lss (tv 16) (tv 2))
 (tn (tl 0) (tv 16) (ts (tv 16) (.dlen (tv 7)) (.br (.not (.bcell (tv 7) (tv 16) 0))
 (.back 0 16 (sg 1000 [bt 1000 (.arith .add .i64 (tv 16) (tl 1))]))
 (ts (tv 16) (.dlen (tv 4)) (.pre 0 (sg 0 [bg 1 15,bt 0 (.vcell (tv 4) (tv 16) 0)]) (tb (fr 17 4 (.post 0 0 (sg 0 [bg 1 15,bt 0 (.vcell (tv 4) (tv 16) 0)]) 17 (.inv 1 21 (sg 1000 [bv 1004 20,bt 1006 (tl 0),bt 1005 (tl 0),bv 1003 19,bv 1002 18,bg 1001 17,bv 1000 16]) (fr 21 7 (.hyp 1 21 (.br (.cmp .lss (tv 27) (tv 2))
 (tn (tl 0) (tv 27) (ts (tv 27) (.dlen (tv 7)) (.br (.bcell (tv 7) (tv 27) 0)
 (tn (tl 0) (tv 23) (.br (.cmp .geq (tv 26) (tv 23))
 (.stuck 7 0 0)
 (tn (tl 0) (tv 26) (ts (tv 26) (tv 23) (ts (tv 26) (.dlen (tv 25)) (.br (.cmp .neq (.icell (tv 25) (tv 26) 0) (tv 27))
 (.stuck 7 0 0)
 (.back 1 21 (sg 1000 [bv 1004 25,bt 1006 (.arith .add .i64 (tv 27) (tl 1)),bt 1005 (.arith .add .i64 (tv 26) (tl 1)),bv 1003 24,bv 1002 23,bg 1001 22,bv 1000 21]))))))))
 (.back 1 21 (sg 1000 [bv 1004 25,bt 1006 (.arith .add .i64 (tv 27) (tl 1)),bv 1005 26,bv 1003 24,bv 1002 23,bg 1001 22,bv 1000 21])))))
 (tn (tl 0) (tv 23) (.br (.cmp .neq (tv 26) (tv 23))
 (.stuck 7 0 0)
 (.back 0 16 (sg 1000 [bt 1000 (.arith .add .i64 (tv 21) (tl 1))]))))))))))))))))
 (.ret 0 (sg 16 [])))))))
theorem que:qY Try.prog qem [qgh] [qrz,qr1] qoj:=qA Try.func47 Try.call47 (by kernel_rfl)
def qmu:Out:=(.fresh 16 (.pack [] 17 (.inv 0 18 (sg 1000 [bg 1005 17,bt 1003 .dnil,bt 1004 (tl 0),bt 1002 (tl 0),bt 1001 (tl 0),bg 1000 16]) (fr 18 6 (.hyp 0 18 (tn (tl 0) (tv 2) (.br (.cmp .lss (tv 22) (tv 2))
 (tn (tl 0) (tv 22) (ts (tv 22) (.dlen (tv 7)) (.br (.bcell (tv 7) (tv 22) 0)
 (ts (tv 22) (.dlen (tv 4)) (.pre 0 (sg 0 [bg 1 15,bt 0 (.vcell (tv 4) (tv 22) 0)]) (tb (fr 24 4 (.post 0 0 (sg 0 [bg 1 15,bt 0 (.vcell (tv 4) (tv 22) 0)]) 24 (.fresh 28 (.need (.cmp .eql (tv 19) (.dlen (tv 21))) (tn (.tims (tl 24) (.plus (tv 19) (tl 1))) (tl 140737488355328) (fr 29 2 (.pack [.cells 28 31 [(.vslice 24 (tl 0) (tv 25) (tv 26) 2)],.arr 24 25 [CK.int .u64,CK.int .u8] (tv 27) (tv 26),.abs 23 6] 31 (.back 0 18 (sg 1000 [bg 1005 31,bt 1003 (.dapp (tv 21) (.rcons (.vslice 24 (tl 0) (tv 25) (tv 26) 2) .rnil)),bt 1004 (.arith .add .i64 (tv 22) (tl 1)),bv 1002 30,bt 1001 (.plus (tv 19) (tl 1)),bg 1000 29]))))))))))))
 (.back 0 18 (sg 1000 [bg 1005 23,bv 1003 21,bt 1004 (.arith .add .i64 (tv 22) (tl 1)),bv 1002 20,bv 1001 19,bg 1000 18])))))
 (.ret 0 (sg 16 [bg 20 23,bv 19 21,bv 18 20,bv 17 19,bg 16 18])))))))))
theorem qsu:qY Try.prog qfD [qd5] [qon] qmu:=qA Try.func48 Try.call48 (by kernel_rfl)
@[simp] def qkW:Out:=.inv 1 19 (sg 1000 [bt 1001 (tl 0),bv 1000 12]) (fr 19 2 (.hyp 1 19 (tn (tl 0) (tv 19) (ts (tv 19) (tv 1) (ts (tv 19) (.dlen (tv 3)) (.viewL (.vcell (tv 3) (tv 19) 0) [CK.int .u64,CK.int .u8] [10,11] 21 (.br (.cmp .lss (tv 20) (.dlen (tv 23)))
 (ts (tv 19) (tv 6) (ts (tv 19) (.dlen (tv 8)) (.both (.viewL (.vcell (tv 3) (tv 19) 0) [CK.int .u64,CK.int .u8] [10,11] 24 (tn (tl 0) (tv 20) (ts (tv 20) (.dlen (tv 26)) (tb (.viewL (.vcell (tv 8) (tv 19) 0) [CK.int .u64,CK.int .u8] [10,11] 27 (ts (tv 20) (.dlen (tv 29)) (.br (.not (.and (.cmp .eql (.icell (tv 26) (tv 20) 0) (.icell (tv 29) (tv 20) 0)) (.cmp .eql (.icell (tv 26) (tv 20) 1) (.icell (tv 29) (tv 20) 1))))
 (.stuck 7 0 0)
 (.back 1 19 (sg 1000 [bt 1001 (.arith .add .i64 (tv 20) (tl 1)),bv 1000 19]))))))))) (tb (.viewL (.vcell (tv 8) (tv 19) 0) [CK.int .u64,CK.int .u8] [10,11] 24 (tn (tl 0) (tv 20) (ts (tv 20) (.dlen (tv 26)) (tb (.viewL (.vcell (tv 3) (tv 19) 0) [CK.int .u64,CK.int .u8] [10,11] 27 (ts (tv 20) (.dlen (tv 29)) (.br (.not (.and (.cmp .eql (.icell (tv 29) (tv 20) 0) (.icell (tv 26) (tv 20) 0)) (.cmp .eql (.icell (tv 29) (tv 20) 1) (.icell (tv 26) (tv 20) 1))))
 (.stuck 7 0 0)
 (.back 1 19 (sg 1000 [bt 1001 (.arith .add .i64 (tv 20) (tl 1)),bv 1000 19])))))))))))))
 (.back 0 12 (sg 1000 [bt 1000 (.arith .add .i64 (tv 19) (tl 1))])))))))))
def qoT:Out:=(tn (tl 0) (tv 1) (tn (tl 0) (tv 6) (.br (.cmp .neq (tv 1) (tv 6))
 (.stuck 7 0 0)
 (.inv 0 12 (sg 1000 [bt 1000 (tl 0)]) (.fresh 12 (.hyp 0 12 (.br (.cmp .lss (tv 12) (tv 1))
 (tn (tl 0) (tv 12) (ts (tv 12) (.dlen (tv 3)) (ts (tv 12) (tv 6) (ts (tv 12) (.dlen (tv 8)) (.both (.viewL (.vcell (tv 3) (tv 12) 0) [CK.int .u64,CK.int .u8] [10,11] 13 (tb (.viewL (.vcell (tv 8) (tv 12) 0) [CK.int .u64,CK.int .u8] [10,11] 16 (.br (.cmp .neq (.dlen (tv 15)) (.dlen (tv 18)))
 (.stuck 7 0 0)
 qkW)))) (tb (.viewL (.vcell (tv 8) (tv 12) 0) [CK.int .u64,CK.int .u8] [10,11] 13 (tb (.viewL (.vcell (tv 3) (tv 12) 0) [CK.int .u64,CK.int .u8] [10,11] 16 (.br (.cmp .neq (.dlen (tv 18)) (.dlen (tv 15)))
 (.stuck 7 0 0)
 qkW))))))))))
 (.ret 0 (sg 12 [])))))))))
theorem qtS:qY Try.prog qgL [] [qqf,qry] qoT:=qA Try.func49 Try.call49 (by kernel_rfl)
def qop:Out:=(.fresh 12 (.br (.cmp .lss (tv 0) (tl 2))
 (.ret 0 (sg 12 []))
 (.br (.cmp .gtr (tv 0) (tl 6))
 (.ret 0 (sg 12 []))
 (tn (tl 0) (tv 2) (.br (.cmp .gtr (tv 2) (tl 200))
 (.ret 0 (sg 12 []))
 (tn (tl 0) (tv 7) (.br (.cmp .gtr (tv 7) (tl 100))
 (.ret 0 (sg 12 []))
 (.both (tn (tl 0) (tv 0) (tn (.tims (tl 8) (tv 0)) (tl 281474976710656) (.fresh 13 (.both (tn (.tims (tl 1) (tv 0)) (tl 281474976710656) (.fresh 14 (tb (.fresh 15 (tb (.fresh 16 (.ret 1 (sg 12 [bt 26 .dnil,bt 22 (.drep (tv 0) (.rcons (.vint .u64 (tl 0)) .rnil)),bt 19 (.drep (tv 0) (.rcons (.vbool (.bl false)) .rnil)),bt 16 (.drep (tv 0) (.rcons .vnilp .rnil)),bt 25 (tl 0),bt 24 (tl 0),(23,.nil),bv 21 0,bg 20 15,bv 18 0,bg 17 14,bv 15 0,bv 14 0,bg 13 13,bg 12 16])))))))) (tb (.fresh 14 (tb (tn (.tims (tl 1) (tv 0)) (tl 281474976710656) (.fresh 15 (tb (.fresh 16 (.ret 1 (sg 12 [bt 26 .dnil,bt 22 (.drep (tv 0) (.rcons (.vint .u64 (tl 0)) .rnil)),bt 19 (.drep (tv 0) (.rcons (.vbool (.bl false)) .rnil)),bt 16 (.drep (tv 0) (.rcons .vnilp .rnil)),bt 25 (tl 0),bt 24 (tl 0),(23,.nil),bv 21 0,bg 20 14,bv 18 0,bg 17 15,bv 15 0,bv 14 0,bg 13 13,bg 12 16]))))))))))))) (.both (tn (tl 0) (tv 0) (tn (.tims (tl 1) (tv 0)) (tl 281474976710656) (.fresh 13 (.both (tn (.tims (tl 8) (tv 0)) (tl 281474976710656) (.fresh 14 (tb (.fresh 15 (tb (.fresh 16 (.ret 1 (sg 12 [bt 26 .dnil,bt 22 (.drep (tv 0) (.rcons (.vint .u64 (tl 0)) .rnil)),bt 19 (.drep (tv 0) (.rcons (.vbool (.bl false)) .rnil)),bt 16 (.drep (tv 0) (.rcons .vnilp .rnil)),bt 25 (tl 0),bt 24 (tl 0),(23,.nil),bv 21 0,bg 20 15,bv 18 0,bg 17 13,bv 15 0,bv 14 0,bg 13 14,bg 12 16])))))))) (tb (tn (.tims (tl 8) (tv 0)) (tl 281474976710656) (.fresh 14 (tb (.fresh 15 (tb (.fresh 16 (.ret 1 (sg 12 [bt 26 .dnil,bt 22 (.drep (tv 0) (.rcons (.vint .u64 (tl 0)) .rnil)),bt 19 (.drep (tv 0) (.rcons (.vbool (.bl false)) .rnil)),bt 16 (.drep (tv 0) (.rcons .vnilp .rnil)),bt 25 (tl 0),bt 24 (tl 0),(23,.nil),bv 21 0,bg 20 14,bv 18 0,bg 17 13,bv 15 0,bv 14 0,bg 13 15,bg 12 16]))))))))))))) (tb (tn (tl 0) (tv 0) (tn (.tims (tl 8) (tv 0)) (tl 281474976710656) (.fresh 13 (.both (.fresh 14 (tb (tn (.tims (tl 1) (tv 0)) (tl 281474976710656) (.fresh 15 (tb (.fresh 16 (.ret 1 (sg 12 [bt 26 .dnil,bt 22 (.drep (tv 0) (.rcons (.vint .u64 (tl 0)) .rnil)),bt 19 (.drep (tv 0) (.rcons (.vbool (.bl false)) .rnil)),bt 16 (.drep (tv 0) (.rcons .vnilp .rnil)),bt 25 (tl 0),bt 24 (tl 0),(23,.nil),bv 21 0,bg 20 13,bv 18 0,bg 17 15,bv 15 0,bv 14 0,bg 13 14,bg 12 16])))))))) (tb (tn (.tims (tl 1) (tv 0)) (tl 281474976710656) (.fresh 14 (tb (.fresh 15 (tb (.fresh 16 (.ret 1 (sg 12 [bt 26 .dnil,bt 22 (.drep (tv 0) (.rcons (.vint .u64 (tl 0)) .rnil)),bt 19 (.drep (tv 0) (.rcons (.vbool (.bl false)) .rnil)),bt 16 (.drep (tv 0) (.rcons .vnilp .rnil)),bt 25 (tl 0),bt 24 (tl 0),(23,.nil),bv 21 0,bg 20 13,bv 18 0,bg 17 14,bv 15 0,bv 14 0,bg 13 15,bg 12 16])))))))))))))))))))))))
theorem qtp:qY Try.prog qcJ [] [] qop:=qA Try.func39 Try.call39 (by kernel_rfl)
@[simp] def qh3:Sg:=sg 0 [bv 11 11,bv 8 8,bv 7 7,bg 6 6,bv 3 3,bv 2 2,bg 1 1,bv 0 0]
@[simp] def qkO:Sg:=sg 0 [bg 15 64,bv 7 56,bv 4 53,bv 13 62,bv 12 61,bg 11 60,bv 9 58,bg 8 57,bv 6 55,bg 5 54,bv 3 52,bv 2 51,bg 1 50,bg 0 49]
@[simp] def qkE:Sg:=sg 0 [bv 22 10,bv 21 9,bg 16 65,bg 15 64,bv 14 63,bv 10 59,bv 7 56,bv 4 53,bv 13 62,bv 12 61,bg 11 60,bv 9 58,bg 8 57,bv 6 55,bg 5 54,bv 3 52,bv 2 51,bg 1 50,bv 23 66,bv 20 8,bv 19 7,bg 18 6,bv 17 11,bg 0 49]
@[simp] def qkV:Sg:=sg 0 [bg 16 46,bg 15 45,bv 14 44,bv 10 40,bv 7 37,bv 4 34,bv 13 43,bv 12 42,bg 11 41,bv 9 39,bg 8 38,bv 6 36,bg 5 35,bv 3 33,bv 2 32,bg 1 31,bt 20 (.icell (tv 4) (tv 47) 3),bt 19 (.icell (tv 4) (tv 47) 2),bt 18 (.icell (tv 4) (tv 47) 1),bt 17 (.icell (tv 4) (tv 47) 0),bg 0 30]
def qoK:Out:=(.fresh 12 (.pre 1 qh3 (.both (.post 1 0 qh3 13 (.pre 0 (sg 0 []) (tb (.post 0 0 (sg 0 []) 13 (.ret 0 (sg 12 [])))))) (tb (fr 13 15 (.post 1 1 qh3 13 (.pack [] 28 (.pack [] 29 (.inv 0 30 (sg 1000 [bg 1016 29,bg 1015 28,bv 1014 27,bv 1010 23,bv 1007 20,bv 1004 17,bv 1013 26,bv 1012 25,bg 1011 24,bv 1009 22,bg 1008 21,bv 1006 19,bg 1005 18,bv 1003 16,bv 1002 15,bg 1001 14,bt 1017 (tl 0),bg 1000 13,bg 1018 12]) (fr 30 19 (.hyp 0 30 (tn (tl 0) (tv 2) (.br (.cmp .lss (tv 47) (tv 2))
 (tn (tl 0) (tv 47) (ts (tv 47) (.dlen (tv 4)) (.pre 2 qkV (tb (fr 49 9 (.post 2 0 qkV 49 (.back 0 30 (sg 1000 [bg 1016 57,bg 1015 56,bv 1014 52,bv 1010 55,bv 1007 54,bv 1004 53,bv 1013 51,bv 1012 50,bg 1011 49,bv 1009 39,bg 1008 38,bv 1006 36,bg 1005 35,bv 1003 33,bv 1002 32,bg 1001 31,bt 1017 (.arith .add .i64 (tv 47) (tl 1)),bg 1000 30,bg 1018 48]))))))))
 (.inv 1 49 (sg 1000 [bg 1016 46,bg 1015 45,bv 1014 44,bv 1010 40,bv 1007 37,bv 1004 34,bv 1013 43,bv 1012 42,bg 1011 41,bv 1009 39,bg 1008 38,bv 1006 36,bg 1005 35,bv 1003 33,bv 1002 32,bg 1001 31,bt 1017 (tl 0),bg 1000 30,bg 1018 48]) (fr 49 19 (.hyp 1 49 (.pre 5 (sg 0 [bv 0 0]) (tb (.fresh 68 (.post 5 0 (sg 0 [bv 0 0]) 68 (.br (.cmp .lss (tv 66) (tv 68))
 (.pre 3 qkE (tb (fr 69 7 (.post 3 0 qkE 69 (.back 1 49 (sg 1000 [bg 1016 75,bg 1015 74,bv 1014 72,bv 1010 73,bv 1007 56,bv 1004 53,bv 1013 71,bv 1012 70,bg 1011 69,bv 1009 58,bg 1008 57,bv 1006 55,bg 1005 54,bv 1003 52,bv 1002 51,bg 1001 50,bt 1017 (.arith .add .i64 (tv 66) (tl 1)),bg 1000 49,bg 1018 67]))))))
 (.pre 4 qkO (tb (.post 4 0 qkO 69 (.pre 0 (sg 0 []) (tb (.post 0 0 (sg 0 []) 69 (.ret 0 (sg 12 [])))))))))))))))))))))))))))))
theorem qtW:qY Try.prog qen [qR,qcJ,qes,qcQ,qem,qF] [qio,qiL] qoK:=qA Try.func13 Try.call13 (by kernel_rfl)
@[simp] def qg4:Sg:=sg 0 [bv 11 11,bv 8 8,bv 7 7,bg 6 6,bv 3 3,bv 2 2,bg 1 1,bv 0 0]
@[simp] def qjr:Sg:=sg 0 [bg 11 110,bg 10 98,bv 9 108,bv 8 109,bv 4 96,bv 3 97,bv 7 108,bv 6 107,bg 5 106,bv 2 96,bv 1 95,bg 0 94]
@[simp] def qjM:Sg:=sg 0 [bg 15 64,bv 7 56,bv 4 53,bv 13 62,bv 12 61,bg 11 60,bv 9 58,bg 8 57,bv 6 55,bg 5 54,bv 3 52,bv 2 51,bg 1 50,bg 0 49]
@[simp] def qe4:Sg:=sg 0 [bg 15 104,bv 7 82,bv 4 79,bv 13 101,bv 12 100,bg 11 99,bv 9 84,bg 8 83,bv 6 81,bg 5 80,bv 3 78,bv 2 77,bg 1 76,bg 0 75]
@[simp] def qkb:Sg:=sg 0 [bv 22 10,bv 21 9,bg 16 65,bg 15 64,bv 14 63,bv 10 59,bv 7 56,bv 4 53,bv 13 62,bv 12 61,bg 11 60,bv 9 58,bg 8 57,bv 6 55,bg 5 54,bv 3 52,bv 2 51,bg 1 50,bv 23 66,bv 20 8,bv 19 7,bg 18 6,bv 17 11,bg 0 49]
@[simp] def qkj:Sg:=sg 0 [bv 22 10,bv 21 9,bg 16 91,bg 15 90,bv 14 89,bv 10 85,bv 7 82,bv 4 79,bv 13 88,bv 12 87,bg 11 86,bv 9 84,bg 8 83,bv 6 81,bg 5 80,bv 3 78,bv 2 77,bg 1 76,bv 23 92,bv 20 8,bv 19 7,bg 18 6,bt 17 (.arith .add .u64 (tv 11) (tl 1)),bg 0 75]
@[simp] def qjX:Sg:=sg 0 [bg 16 46,bg 15 45,bv 14 44,bv 10 40,bv 7 37,bv 4 34,bv 13 43,bv 12 42,bg 11 41,bv 9 39,bg 8 38,bv 6 36,bg 5 35,bv 3 33,bv 2 32,bg 1 31,bt 20 (.icell (tv 4) (tv 47) 3),bt 19 (.icell (tv 4) (tv 47) 2),bt 18 (.icell (tv 4) (tv 47) 1),bt 17 (.icell (tv 4) (tv 47) 0),bg 0 30]
def qmA:Out:=(.fresh 12 (.pre 1 qg4 (.both (.post 1 0 qg4 13 (.pre 0 (sg 0 []) (tb (.post 0 0 (sg 0 []) 13 (.ret 0 (sg 12 [])))))) (tb (fr 13 15 (.post 1 1 qg4 13 (.pack [] 28 (.pack [] 29 (.inv 0 30 (sg 1000 [bg 1016 29,bg 1015 28,bv 1014 27,bv 1010 23,bv 1007 20,bv 1004 17,bv 1013 26,bv 1012 25,bg 1011 24,bv 1009 22,bg 1008 21,bv 1006 19,bg 1005 18,bv 1003 16,bv 1002 15,bg 1001 14,bt 1017 (tl 0),bg 1000 13,bg 1018 12]) (fr 30 19 (.hyp 0 30 (tn (tl 0) (tv 2) (.br (.cmp .lss (tv 47) (tv 2))
 (tn (tl 0) (tv 47) (ts (tv 47) (.dlen (tv 4)) (.pre 2 qjX (tb (fr 49 9 (.post 2 0 qjX 49 (.back 0 30 (sg 1000 [bg 1016 57,bg 1015 56,bv 1014 52,bv 1010 55,bv 1007 54,bv 1004 53,bv 1013 51,bv 1012 50,bg 1011 49,bv 1009 39,bg 1008 38,bv 1006 36,bg 1005 35,bv 1003 33,bv 1002 32,bg 1001 31,bt 1017 (.arith .add .i64 (tv 47) (tl 1)),bg 1000 30,bg 1018 48]))))))))
 (.inv 1 49 (sg 1000 [bg 1016 46,bg 1015 45,bv 1014 44,bv 1010 40,bv 1007 37,bv 1004 34,bv 1013 43,bv 1012 42,bg 1011 41,bv 1009 39,bg 1008 38,bv 1006 36,bg 1005 35,bv 1003 33,bv 1002 32,bg 1001 31,bt 1017 (tl 0),bg 1000 30,bg 1018 48]) (fr 49 19 (.hyp 1 49 (.pre 5 (sg 0 [bv 0 0]) (tb (.fresh 68 (.post 5 0 (sg 0 [bv 0 0]) 68 (.br (.cmp .lss (tv 66) (tv 68))
 (.pre 3 qkb (tb (fr 69 7 (.post 3 0 qkb 69 (.back 1 49 (sg 1000 [bg 1016 75,bg 1015 74,bv 1014 72,bv 1010 73,bv 1007 56,bv 1004 53,bv 1013 71,bv 1012 70,bg 1011 69,bv 1009 58,bg 1008 57,bv 1006 55,bg 1005 54,bv 1003 52,bv 1002 51,bg 1001 50,bt 1017 (.arith .add .i64 (tv 66) (tl 1)),bg 1000 49,bg 1018 67]))))))
 (.pre 6 qjM (tb (fr 69 5 (.post 6 0 qjM 69 (.pack [.abs 73 6] 74 (.inv 2 75 (sg 1000 [bg 1023 74,bv 1022 72,bg 1016 65,bg 1015 64,bv 1014 63,bv 1010 59,bv 1007 56,bv 1004 53,bv 1013 62,bv 1012 61,bg 1011 60,bv 1009 58,bg 1008 57,bv 1006 55,bg 1005 54,bv 1003 52,bv 1002 51,bg 1001 50,bt 1017 (tl 0),bv 1021 71,bv 1020 70,bg 1019 69,bg 1000 49,bg 1018 67]) (fr 75 24 (.hyp 2 75 (.br (.cmp .lss (tv 92) (tl 30))
 (.pre 3 qkj (tb (fr 99 7 (.post 3 0 qkj 99 (.pre 4 qe4 (tb (.post 4 0 qe4 106 (.pre 6 qe4 (tb (fr 106 5 (.post 6 0 qe4 106 (.pre 7 qjr (tb (.post 7 0 qjr 111 (.pack [.arr 106 31 [CK.any] (tv 109) (tv 108),.abs 105 2] 111 (.back 2 75 (sg 1000 [bg 1023 98,bv 1022 97,bg 1016 111,bg 1015 104,bv 1014 102,bv 1010 103,bv 1007 82,bv 1004 79,bv 1013 101,bv 1012 100,bg 1011 99,bv 1009 84,bg 1008 83,bv 1006 81,bg 1005 80,bv 1003 78,bv 1002 77,bg 1001 76,bt 1017 (.arith .add .i64 (tv 92) (tl 1)),bv 1021 96,bv 1020 95,bg 1019 94,bg 1000 75,bg 1018 93])))))))))))))))))
 (.pre 0 (sg 0 []) (tb (.post 0 0 (sg 0 []) 99 (.ret 0 (sg 12 [])))))))))))))))))))))))))))))))))))
theorem qsk:qY Try.prog qd0 [qR,qcJ,qes,qcQ,qem,qF,qfD,qgL] [qoM,qoi,qoP] qmA:=qA Try.func14 Try.call14 (by kernel_rfl)
@[simp] def qhx:Sg:=sg 0 [bv 11 11,bv 8 8,bv 7 7,bg 6 6,bv 3 3,bv 2 2,bg 1 1,bv 0 0]
@[simp] def qle:Sg:=sg 0 [bg 16 47,bg 15 46,bv 14 45,bv 10 41,bv 7 38,bv 4 35,bv 13 44,bv 12 43,bg 11 42,bv 9 40,bg 8 39,bv 6 37,bg 5 36,bv 3 34,bv 2 33,bg 1 32,bt 18 (tl 1),bv 17 48,bg 0 31]
@[simp] def qkP:Sg:=sg 0 [bv 22 10,bv 21 9,bg 16 66,bg 15 65,bv 14 64,bv 10 60,bv 7 57,bv 4 54,bv 13 63,bv 12 62,bg 11 61,bv 9 59,bg 8 58,bv 6 56,bg 5 55,bv 3 53,bv 2 52,bg 1 51,bv 23 67,bv 20 8,bv 19 7,bg 18 6,bv 17 11,bg 0 50]
def qok:Out:=(.fresh 13 (.pre 1 qhx (.both (.post 1 0 qhx 14 (.pre 0 (sg 0 []) (tb (.post 0 0 (sg 0 []) 14 (.ret 0 (sg 13 [])))))) (tb (fr 14 15 (.post 1 1 qhx 14 (.pack [] 29 (.pack [] 30 (.inv 0 31 (sg 1000 [bg 1016 30,bg 1015 29,bv 1014 28,bv 1010 24,bv 1007 21,bv 1004 18,bv 1013 27,bv 1012 26,bg 1011 25,bv 1009 23,bg 1008 22,bv 1006 20,bg 1005 19,bv 1003 17,bv 1002 16,bg 1001 15,bt 1017 (tl 0),bg 1000 14,bg 1018 13]) (fr 31 19 (.hyp 0 31 (.br (.cmp .lss (tv 48) (tv 0))
 (.pre 2 qle (tb (fr 50 4 (.post 2 0 qle 50 (.back 0 31 (sg 1000 [bg 1016 47,bg 1015 53,bv 1014 45,bv 1010 52,bv 1007 51,bv 1004 50,bv 1013 44,bv 1012 43,bg 1011 42,bv 1009 40,bg 1008 39,bv 1006 37,bg 1005 36,bv 1003 34,bv 1002 33,bg 1001 32,bt 1017 (.arith .add .i64 (tv 48) (tl 1)),bg 1000 31,bg 1018 49]))))))
 (.inv 1 50 (sg 1000 [bg 1016 47,bg 1015 46,bv 1014 45,bv 1010 41,bv 1007 38,bv 1004 35,bv 1013 44,bv 1012 43,bg 1011 42,bv 1009 40,bg 1008 39,bv 1006 37,bg 1005 36,bv 1003 34,bv 1002 33,bg 1001 32,bt 1017 (tl 0),bg 1000 31,bg 1018 49]) (fr 50 19 (.hyp 1 50 (.br (.cmp .lss (tv 67) (.conv .i64 (tv 12)))
 (.pre 3 qkP (tb (fr 69 7 (.post 3 0 qkP 69 (.inv 2 76 (sg 1000 [bg 1016 75,bg 1015 74,bv 1014 72,bv 1010 73,bv 1007 57,bv 1004 54,bv 1013 71,bv 1012 70,bg 1011 69,bv 1009 59,bg 1008 58,bv 1006 56,bg 1005 55,bv 1003 53,bv 1002 52,bg 1001 51,bt 1023 (tl 0),bv 1017 67,bg 1000 50,bg 1018 68]) (fr 76 24 (.hyp 2 76 (.br (.cmp .lss (tv 99) (tv 0))
 (tn (tl 0) (tv 99) (ts (tv 99) (tv 78) (ts (tv 99) (.dlen (tv 80)) (.pre 4 (sg 0 [bg 1 91,bt 0 (.vcell (tv 80) (tv 99) 0)]) (tb (fr 100 4 (.post 4 0 (sg 0 [bg 1 91,bt 0 (.vcell (tv 80) (tv 99) 0)]) 100 (.inv 3 104 (sg 1000 [bv 1022 103,bg 1016 92,bg 1015 91,bv 1014 90,bv 1010 86,bv 1007 83,bv 1004 80,bv 1013 89,bv 1012 88,bg 1011 87,bv 1009 85,bg 1008 84,bv 1006 82,bg 1005 81,bv 1003 79,bv 1002 78,bg 1001 77,bt 1024 (tl 0),bv 1021 102,bv 1020 101,bg 1019 100,bv 1023 99,bv 1017 93,bg 1000 76,bg 1018 94]) (fr 104 25 (.hyp 3 104 (tn (tl 0) (tv 124) (.br (.cmp .lss (tv 128) (tv 124))
 (tn (tl 0) (tv 128) (ts (tv 128) (.dlen (tv 126)) (.br (.cmp .gtr (.icell (tv 126) (tv 128) 1) (tl 1))
 (.stuck 7 0 0)
 (.br (.cmp .gtr (.icell (tv 126) (tv 128) 0) (tl 1))
 (.stuck 7 0 0)
 (.back 3 104 (sg 1000 [bv 1022 126,bg 1016 120,bg 1015 119,bv 1014 118,bv 1010 114,bv 1007 111,bv 1004 108,bv 1013 117,bv 1012 116,bg 1011 115,bv 1009 113,bg 1008 112,bv 1006 110,bg 1005 109,bv 1003 107,bv 1002 106,bg 1001 105,bt 1024 (.arith .add .i64 (tv 128) (tl 1)),bv 1021 125,bv 1020 124,bg 1019 123,bv 1023 127,bv 1017 121,bg 1000 104,bg 1018 122]))))))
 (.br (.cmp .gtr (tv 121) (tv 0))
 (tn (tl 0) (tv 127) (ts (tv 127) (tv 106) (ts (tv 127) (.dlen (tv 108)) (tb (.pre 5 (sg 0 [bg 1 119,bt 0 (.vcell (tv 108) (tv 127) 0)]) (tb (fr 129 4 (.post 5 0 (sg 0 [bg 1 119,bt 0 (.vcell (tv 108) (tv 127) 0)]) 129 (tn (tl 0) (tv 130) (.br (.cmp .neq (tv 130) (tv 0))
 (.stuck 7 0 0)
 (.pack [.arr 129 3 [CK.int .i64] (tv 132) (tv 131),.abs 120 2,.arr 123 25 [CK.int .u64,CK.int .u8] (tv 126) (tv 125)] 133 (.back 2 76 (sg 1000 [bg 1016 133,bg 1015 119,bv 1014 118,bv 1010 114,bv 1007 111,bv 1004 108,bv 1013 117,bv 1012 116,bg 1011 115,bv 1009 113,bg 1008 112,bv 1006 110,bg 1005 109,bv 1003 107,bv 1002 106,bg 1001 105,bt 1023 (.arith .add .i64 (tv 127) (tl 1)),bv 1017 121,bg 1000 104,bg 1018 122])))))))))))))
 (tb (.pack [.abs 120 2,.arr 123 25 [CK.int .u64,CK.int .u8] (tv 126) (tv 125)] 129 (.back 2 76 (sg 1000 [bg 1016 129,bg 1015 119,bv 1014 118,bv 1010 114,bv 1007 111,bv 1004 108,bv 1013 117,bv 1012 116,bg 1011 115,bv 1009 113,bg 1008 112,bv 1006 110,bg 1005 109,bv 1003 107,bv 1002 106,bg 1001 105,bt 1023 (.arith .add .i64 (tv 127) (tl 1)),bv 1017 121,bg 1000 104,bg 1018 122])))))))))))))))))
 (.back 1 50 (sg 1000 [bg 1016 92,bg 1015 91,bv 1014 90,bv 1010 86,bv 1007 83,bv 1004 80,bv 1013 89,bv 1012 88,bg 1011 87,bv 1009 85,bg 1008 84,bv 1006 82,bg 1005 81,bv 1003 79,bv 1002 78,bg 1001 77,bt 1017 (.arith .add .i64 (tv 93) (tl 1)),bg 1000 76,bg 1018 94]))))))))))
 (.pre 0 (sg 0 []) (tb (.post 0 0 (sg 0 []) 69 (.ret 0 (sg 13 [])))))))))))))))))))))
theorem qur:qY Try.prog qeg [qR,qcJ,qeh,qcQ,qd5,qgh] [qpM,qrn,qr2,qrc] qok:=qA Try.func10 Try.call10 (by kernel_rfl)
theorem qpd (d:List (List Value)) (b c:Nat):qU d b c = ((d[b]?).getD [])[c]?.getD .nilFunc:=by simp [qU]
theorem qiN {d:List (List Value)} {i:Int} {v:Value}:qH d i 0 [v] = d.set i.toNat (v :: ((d[i.toNat]?).getD []).drop 1):=by simp [qH,qba]
theorem qui {d:List (List Value)} {i:Int} {v:Value} (hi:i.toNat < d.length) (b:Nat):qU (qH d i 0 [v]) b 0 = if b = i.toNat then v else qU d b 0:=by
 rw [qiN,qpd,qpd,ja4];by_cases h:i.toNat = b
 ·subst h; simp [hi]
 ·simp [h,Ne.symm h]
theorem qjV {d:List (List Value)} {i:Int} {b:Bool}:qdF (qH d i 0 [.bool b]) = (qdF d).set i.toNat b:=by
 rw [qiN,qdF,List.map_set]; rfl
theorem qrw {d:List (List Value)} {i:Int} {k:IntKind} {z:Int}:qf (qH d i 0 [.int k z]) = (qf d).set i.toNat z:=by
 rw [qiN,qf,List.map_set]; rfl
theorem qeS {d:List (List Value)} {i:Int} {v:Value}:(qH d i 0 [v]).length = d.length:=by rw [qiN,ja8]
theorem qb9 {d:List (List Value)} {s:Sw} (h:qdF d = s.run) {i:Int} (h0:0 <= i) (hi:i < d.length):qcc d i 0 = s.r i.toNat:=by
 rw [Sw.r,<- h,qdF];simp only [jai,jau,jae (show i.toNat < d.length by omega),ja9,jbi];simp only [qcc,qU,jae (show i.toNat < d.length by omega),jbi];rfl
theorem quY {d:List (List Value)} {l:List Int} (h:qf d = l) {i:Int} (h0:0 <= i) (hi:i < d.length):qc d i 0 ∈ l:=by
 rw [<- h];exact jas (qcm h0 hi)
theorem qbd {G G':Hp} {d:List (List Value)} {net:List NM} (h:qc4 G d net) (hl:Hp.le G G'):qc4 G' d net:=⟨h.1,fun i x hi=>by
 obtain ⟨v,h1,e,h2,h3,h4⟩:=h.2 i x hi;exact ⟨v,h1,e,qnL h2 hl,h3,h4⟩⟩
theorem qo0 (G:Hp):qc4 G [] []:=⟨rfl,fun i x hi=>by simp at hi⟩
theorem qgQ {G:Hp} {d d':List (List Value)} {net net':List NM} (h:qc4 G d net) (h':qc4 G d' net'):qc4 G (d ++ d') (net ++ net'):=by
 refine ⟨by rw [jav,jav,h.1,h'.1],fun i x hi=>?_⟩;rw [jck] at hi;split at hi
 ·rename_i hl
  obtain ⟨v,h1,h2⟩:=h.2 i x hi;exact ⟨v,by rw [jck,jag (by rw [h.1]; exact hl)]; exact h1,h2⟩
 ·rename_i hl
  obtain ⟨v,h1,h2⟩:=h'.2 _ x hi;exact ⟨v,by rw [jck,jaf (by rw [h.1]; exact hl),h.1]; exact h1,h2⟩
theorem qfo {G:Hp} {ms:List Msg} {self:Int} {t:List Ent} {d:List (List Value)} (h:qa6 G ms self t ms.length d):qc4 G d (qb2 self t ms):=by
 have hl:=qbR h;refine ⟨by rw [qb2,jaz]; omega,fun i x hi=>?_⟩;simp only [qb2,jau,jah] at hi;obtain ⟨g,hg,rfl⟩:=hi;obtain ⟨v,h1,h2⟩:=qrM h hg;exact ⟨v,h1,h2⟩
theorem qkU {G:Hp} {d:List (List Value)} {net:List NM} (h:qc4 G d net) (i:Nat):qc4 G (d.take i ++ d.drop (i + 1)) (net.eraseIdx i):=by
 rw [<- jd5];refine ⟨?_,fun j x hj=>?_⟩
 ·rw [jcy,jcy,h.1]
 ·rw [List.getElem?_eraseIdx] at hj ⊢
  split at hj
  ·rename_i hji
   rw [jag hji]; exact h.2 j x hj
  ·rename_i hji
   rw [jaf hji]; exact h.2 _ x hj
theorem qqv {G:Hp} {d:List (List Value)} {net:List NM} (h:qc4 G d net) {i:Int} (h0:0 <= i) (hi:i < d.length):∃ x,net[i.toNat]? = some x/\RdT G (qU d i 6) x.t/\x.m = ⟨qc d i 0,qc d i 1,qc d i 2,qc d i 3,qc d i 4,qc d i 5⟩:=by
 have hg:=jae (show i.toNat < net.length by rw [<- h.1]; omega);obtain ⟨v,h1,h2⟩:=h.2 _ _ hg;refine ⟨_,hg,?_,?_⟩
 ·rw [qez h1]; simpa [qg7] using h2
 ·obtain ⟨c0,c1,c2,c3,c4,c5⟩:=qwO h1
  rw [c0,c1,c2,c3,c4,c5]
theorem qf2 {H:Hp} {d:List (List Value)} {r r':Nat->Bool} {ms ms':Nat->Mach} (h:SwH H d r ms) (hr:∀ a,r' a = true->r a = true/\ms' a = ms a):SwH H d r' ms':=by
 obtain ⟨hs,h1,h2,h3⟩:=h;exact ⟨hs,h1,h2,fun a ha=>by rw [(hr a ha).2]; exact h3 a (hr a ha).1⟩
theorem qxT {H H2 h1 h2:Hp} {d d':List (List Value)} {r:Nat->Bool} {ms:Nat->Mach} {v:Value} {m:Mach} {a:Nat} (h:SwH H d r ms) (hm:Go.Eng.isM H2 v m) (hd:Hp.disj h1 h2) (hl1:Hp.le H2 h1) (hl2:Hp.le H h2)
  (hv:∀ b:Nat,qU d' b 0 = if b = a then v else qU d b 0):SwH (Hp.union h1 h2) d' (fun b=>if b = a then true else r b) (qhu ms a m):=by
 obtain ⟨hs,g1,g2,g3⟩:=h;obtain ⟨h0,k1,k2⟩:=hm;have hd':∀ b,Hp.disj h0 (hs b):=fun b=>qd8 (qd8 hd.symm (Hp.le_trans (g2 b) hl2)).symm (Hp.le_trans k1 hl1)
 refine ⟨fun b=>if b = a then h0 else hs b,fun b c hbc=>?_,fun b=>?_,fun b hb=>?_⟩
 ·by_cases e1:b = a
  ·subst e1
   simp only [ja5,jaf (Ne.symm hbc)]; exact hd' c
  ·by_cases e2:c = a
   ·subst e2
    simp only [ja5,jaf hbc]; exact (hd' b).symm
   ·simp only [jaf e1,jaf e2]; exact g1 b c hbc
 ·by_cases e1:b = a
  ·simp only [jag e1]; exact Hp.le_trans (Hp.le_trans k1 hl1) (Hp.le_left _ _)
  ·simp only [jaf e1]; exact Hp.le_trans (Hp.le_trans (g2 b) hl2) (Hp.le_right hd)
 ·rw [hv]
  by_cases e1:b = a
  ·simp only [jag e1,qhu]; exact k2
  ·simp only [jaf e1,qhu] at hb ⊢; exact g3 b hb
theorem qw4 {s:Sw} {l:List Mach} {a:Nat} {m:Mach} (ha:a < s.ms.length) (hl:l = s.ms.set a m) (b:Nat):l.getD b qc3 = qhu s.m a m b:=by
 rw [hl,qgV (s:=s) ha]; rfl
theorem qmX {s:Sw} {a:Nat} {x:Bool} (ha:a < s.run.length) (b:Nat):(s.run.set a x).getD b false = if b = a then x else s.r b:=by
 simp only [jai,ja4];by_cases h:a = b
 ·subst h; simp [ha]
 ·simp [h,Ne.symm h,Sw.r,jai]
theorem qie {n nl:Int} {dM dR dL dN:List (List Value)} {H G:Hp} {s:Sw} (h:swP n nl dM dR dL dN H G s):(s.run.length:Int) = n/\(s.last.length:Int) = n:=by
 obtain ⟨h1,h2,h3,h4,h5,h6,h7,h8,h9⟩:=h;rw [<- h6,<- h7];simp only [qdF,jaz,qV]; omega
theorem qeZ {n nl:Int} {dM dR dL dN:List (List Value)} {H G:Hp} {s:Sw} (h:swP n nl dM dR dL dN H G s):Go.Eng.swRP n dM dR H s:=by
 obtain ⟨h1,h2,h3,h4,h5,h6,h7,h8,h9⟩:=h;exact ⟨h1,h2,h3,h6,h9⟩
theorem qdw {n nl:Int} {dM dR dL dN:List (List Value)} {H G:Hp} {s:Sw} (h:swP n nl dM dR dL dN H G s) {i:Int} (h0:0 <= i) (hr:s.r i.toNat = true):Go.Eng.isM H (qU dM i 0) (s.m i.toNat):=by
 have:=SwH.isM h.2.2.2.2.2.2.2.2 hr
 rwa [show ((i.toNat:Nat):Int) = i by omega] at this
theorem qiH {n nl nl':Int} {dM dR dL dL' dN dN':List (List Value)} {H H' G G':Hp} {s:Sw} (h:swP n nl dM dR dL dN H G s) {i:Int} (h0:0 <= i) (hr:s.r i.toNat = true) {m':Mach} (hT:qck H H' (qU dM i 0) m') {last:List Int} {net:List NM}
  (hL:n = dL'.length) (hL':qf dL' = last) (hn:nl' = dN'.length) (hN:qc4 G' dN' net):swP n nl' dM dR dL' dN' H' G' ⟨s.ms.set i.toNat m',s.run,last,net⟩:=by
 obtain ⟨h1,h2,h3,h4,h5,h6,h7,h8,h9⟩:=id h;have hlt:i.toNat < s.ms.length:=by
  have hl:=(qie h).1;apply Classical.byContradiction;intro hc;simp [Sw.r,jai,jap (show s.run.length <= i.toNat by omega)] at hr
 refine ⟨by rw [ja8]; exact h1,h2,h3,hL,hn,h6,hL',hN,?_⟩;refine qf2 (hT dM s.r s.m i.toNat h9 hr (by rw [show ((i.toNat:Nat):Int) = i by omega])) fun a ha=>⟨ha,?_⟩
 exact qw4 (s:=s) hlt rfl a
theorem qe7 (l:List Ent) (n:Nat):qbj l (n + 1) = if qcb (l.getD n (0,0)).2 = true then qbj l n ++ [(n:Int)] else qbj l n:=by
 simp only [qbj,jc7,jch,jcl,jci,List.filter_nil];split <;> simp
theorem qoz (l:List Ent) (n:Nat):∀ k,∃ t,qbj l (n + k) = qbj l n ++ t
 | 0=>⟨[],by simp⟩
 | k + 1=>by
  obtain ⟨t,ht⟩:=qoz l n k;rw [show n + (k + 1) = n + k + 1 by omega,qe7,ht];split
  ·exact ⟨t ++ [((n + k:Nat):Int)],by rw [jbv]⟩
  ·exact ⟨t,rfl⟩
theorem qxX {l:List Ent} {b:Nat} (hb:b < l.length) (hl:qcb (l.getD b (0,0)).2 = true):(qbC l)[(qbj l b).length]? = some (b:Int):=by
 obtain ⟨t,ht⟩:=qoz l (b + 1) (l.length - (b + 1));rw [show b + 1 + (l.length - (b + 1)) = l.length by omega,qe7,jag hl] at ht;rw [qbC,ht,jbv,jck,jaf (by omega)];simp
theorem qkM {h h':Hp} {d:List (List Value)} {l:List (List Ent)} (H:qdo h d l) (hl:Hp.le h h'):qdo h' d l:=⟨H.1,fun i t hi=>by
 obtain ⟨v,e,h1,h2,h3⟩:=H.2 i t hi;exact ⟨v,e,h1,qnL h2 hl,h3⟩⟩
theorem qrK {h:Hp} {d:List (List Value)} {l:List (List Ent)} (H:qdo h d l) {v:Value} {e:List (List Value)} {t:List Ent} (h2:Rd h qan v e) (h3:qb e = t):qdo h (d ++ [[v]]) (l ++ [t]):=by
 refine ⟨by simp [H.1],fun i x hi=>?_⟩;rw [jck] at hi;split at hi
 ·rename_i hl
  obtain ⟨v',e',g1,g2⟩:=H.2 i x hi;exact ⟨v',e',by rw [jck,jag (by rw [H.1]; exact hl)]; exact g1,g2⟩
 ·rename_i hl
  have hi0:i - l.length = 0:=by
   have:=(jal.1 hi).1;simp at this; omega
  rw [hi0] at hi;obtain rfl:t = x:=by simpa using hi
  exact ⟨v,e,by rw [jck,jaf (by rw [H.1]; exact hl),H.1,hi0]; rfl,h2,h3⟩
theorem qe8 (s:Sw) (n:Nat):qdn s (n + 1) = if s.r n = true then qdn s n ++ [(s.m n).tab] else qdn s n:=by
 simp only [qdn,jc7,jch,jcl];split
 ·rename_i h; simp [h]
 ·rename_i h; simp [h]
theorem quR {h h':Hp} {d d':List (List Value)} {l:List (List Ent)} (H:qdo h d l) (H':qdo h' d' l) (h16:∀ t ∈ l,t.length <= 16) {i:Int} (h0:0 <= i) (hi:i < d.length) :
  ∃ e e',Rd h qan (qU d i 0) e/\Rd h' qan (qU d' i 0) e'/\e'.length = e.length/\e.length <= 16/\∀ j:Int,0 <= j->j < e.length->qc e' j 0 = qc e j 0/\qc e' j 1 = qc e j 1:=by
 have hg:=jae (show i.toNat < l.length by rw [<- H.1]; omega);obtain ⟨v,e,h1,h2,h3⟩:=H.2 _ _ hg;obtain ⟨v',e',h1',h2',h3'⟩:=H'.2 _ _ hg;have hl:=h16 _ (jas hg);have hle:e.length = (l[i.toNat]'(by rw [<- H.1]; omega)).length:=by rw [<- h3,qad]
 have hle':e'.length = (l[i.toNat]'(by rw [<- H.1]; omega)).length:=by rw [<- h3',qad]
 refine ⟨e,e',by rw [qez h1]; exact h2,by rw [qez h1']; exact h2',by omega,by omega,fun j j0 j1=>?_⟩;have c1:=qfz (d:=e) j0 (by omega);have c2:=qfz (d:=e') j0 (by omega);rw [h3] at c1;rw [h3',c1] at c2;have:=jat c2;exact ⟨(congrArg Prod.fst this).symm,(congrArg Prod.snd this).symm⟩
set_option maxHeartbeats 4000000
set_option pp.deepTerms true
set_option pp.maxSteps 1000000
set_option maxRecDepth 20000
theorem qo4 {a n:Int} (h0:0 < n) (h1:n <= 1000000000):qi .rem .i64 a n = Int.tmod a n/\-n < Int.tmod a n/\Int.tmod a n < n:=by
 have b1:=jcg a h0;have b2:=Int.lt_tmod_of_pos a h0;exact ⟨rfl,b2,b1⟩
theorem qmE:qej.ok Try.prog:=qtA (by simp) fun Z hg hp=>by
 obtain ⟨h1,h2⟩:=hp;simp (config:={ maxSteps:=4000000 }) [qoH,qej];obtain ⟨e,b1,b2⟩:=qo4 (a:=(Z 0).i) h1 h2;rw [e];have ha:qi .add .i64 (Int.tmod (Z 0).i (Z 1).i) (Z 1).i = Int.tmod (Z 0).i (Z 1).i + (Z 1).i:=qQ (by omega) (by omega);rw [ha];exact ⟨by omega,fun _=>by omega,fun _=>by omega⟩
theorem qu5:qhD.ok Try.prog:=quv (by simp [qx5,qxa]) fun Z hg hp=>by
 obtain ⟨⟨m0,hm0,hC⟩,t0,⟨d,hd,hdt,hz⟩,hl0⟩:=hp;simp (config:={ maxSteps:=4000000 }) [qoF,qhD,qqJ,qjS,qpB,qa1];have hdl:d.length <= 16:=by rw [<- qad,hdt]; exact hl0
 have hb:(16:Int) <= big:=by decide
 intro u _;refine ⟨d,.inr hd,?_⟩;intro u0 _ u1 _ hv hvl;refine ⟨by omega,fun u2 _ u3 _ u4 _ he=>⟨⟨⟨m0,hm0,hC⟩,by rw [he],by omega⟩,?_⟩⟩;intro x1 _ x2 _ x3 _ x4 _ x5 _ x6 _ x7 _ hpost;rw [he,hdt] at hpost;have hu:∀ t,RdT (Z 118).h (Z 7).v t->t = t0:=fun t ht=>by
  obtain ⟨e,h1,h2,_⟩:=ht;rw [<- h2,<- hdt,qsB hd h1]
 refine ⟨⟨by rw [he],by omega,fun m t hm ht=>?_⟩,?_⟩
 ·rw [hu t ht]; exact hpost m hm
 ·intro y1 _ y2 _ y3 _ y4 _ y5 _ y6 _ y7 _ y8 _ y9 _ y10 _ y11 _ y12 _ y13 _ i0 i1 i2 hin
  refine ⟨by omega,fun hlt=>⟨i0,by omega,?_⟩,fun hge v _ hst m t hm ht=>?_⟩
  ·have hA:qi .add .i64 y9.i 1 = y9.i + 1:=qay i0 hlt (by omega)
   rw [hA];exact ⟨⟨by omega,by rw [qbP]; exact i1,i2,hin⟩,by omega⟩
  ·obtain ⟨q1,q2,q3,q4⟩:=hin m t hm ht
   have hle:=qaH 142 2 hst (by simp);simp at hle;exact ⟨q1,q2,q3,qeG q4 hle⟩
theorem qne:qeh.ok Try.prog:=qth (by simp [qyy]) fun Z hg hp=>by
 obtain ⟨⟨s0,hs0⟩,h1,h2,h3,h4,h5⟩:=hp;simp only [qb8,jbb] at hs0;simp (config:={ maxSteps:=4000000 }) [qoq,qeh,qxx,qb8];obtain ⟨a1,a2,a3,a4,_⟩:=id hs0;refine ⟨by omega,by simp [qeD]; omega,fun u _ u1 _ hm=>⟨h3,h4,by omega,by omega,by omega,by omega,by omega,fun u2 _ hst s hs=>?_⟩⟩;obtain ⟨k1,k2,kd,ku,⟨kl,_⟩,k3,k4,kd',ku',⟨kl',_⟩,_⟩:=hst;obtain ⟨b1,b2,b3,b4,b5,b6,b7,b8,b9⟩:=id hs;have hrl:=qie hs;have hlt:(Z 17).i.toNat < s.ms.length:=by omega
 have hst2:SwH u2.h (qH (Z 4).d (Z 17).i 0 [u.v]) (fun b=>if b = (Z 17).i.toNat then true else s.r b) (qhu s.m (Z 17).i.toNat (qcy (Z 17).i (Z 2).i (Z 18).i)):=by
  rw [show u2.h = Hp.union k1 k2 from ku];refine qxT b9 hm kd kl ?_ (fun b=>qui (by omega) b);have:Hp.le k3 k2:=by rw [ku']; exact Hp.le_left _ _
  exact Hp.le_trans kl' this
 refine ⟨by simp only [qbY,ja8]; exact b1,by rw [qeS]; exact b2,by rw [qeS]; exact b3,by rw [qeS]; exact b4,b5,by rw [qjV,b6]; rfl,by rw [qrw,b7]; rfl,b8,?_⟩;refine qf2 hst2 fun a ha=>?_
 have hra:=qmX (s:=s) (x:=true) (show (Z 17).i.toNat < s.run.length by omega) a;refine ⟨by rw [<- hra]; exact ha,?_⟩;have e1:(((Z 17).i.toNat:Nat):Int) = (Z 17).i:=by omega
 show (s.ms.set (Z 17).i.toNat (qcy ((Z 17).i.toNat:Nat) s.ms.length (Z 18).i)).getD a qc3 = _
 rw [qgV (s:=s) hlt,e1,<- b1]; rfl
theorem qiM:qcJ.ok Try.prog:=qtp (by simp) fun Z hg hp=>by
 obtain ⟨g1,g2⟩:=hp;simp (config:={ maxSteps:=4000000 }) [qop,qcJ,qnn];omega
theorem qtO:qgL.ok Try.prog:=qtS (by simp) fun Z hg hp=>by
 obtain ⟨h1,h2,h3,l,h4,h5,h6⟩:=hp;simp (config:={ maxSteps:=4000000 }) [qoT,qgL,qqf,qry];have hl1:=h4.1;have hl2:=h5.1;have hb:(16:Int) <= big:=by decide
 have key:∀ i:Int,0 <= i->i < (Z 1).i->∃ e e',Rd (Z 10).h qan (qU (Z 3).d i 0) e/\Rd (Z 11).h qan (qU (Z 8).d i 0) e'/\e'.length = e.length/\e.length <= 16/\∀ j:Int,0 <= j->j < e.length->qc e' j 0 = qc e j 0/\qc e' j 1 = qc e j 1:=fun i i0 i1=>quR h4 h5 h6 i0 (by omega)
 refine ⟨by omega,by omega,by omega,fun _=>⟨by omega,fun u _ i0 i1 hlt=>?_⟩⟩;obtain ⟨e,e',r1,r2,r3,r4,r5⟩:=key u.i i0 hlt;have hA:qi .add .i64 u.i 1 = u.i + 1:=qay i0 hlt (by omega);have hB:∀ y:Int,0 <= y->y < e.length->qi .add .i64 y 1 = y + 1:=fun y y0 y1=>qQ (by omega) (by omega)
 refine ⟨i0,by omega,by omega,by omega,⟨e,.inl r1,fun _ _ _ _ _ _=>⟨e',.inr r2,fun _ _ _ _ _ _=>⟨by omega,fun _=>?_⟩⟩⟩,⟨e',.inr r2,fun _ _ _ _ _ _=>⟨e,.inl r1,fun _ _ _ _ _ _=>⟨by omega,fun _=>?_⟩⟩⟩⟩
 all_goals
  intro x _ y _ hx y0 y1;rw [hx,hA];refine ⟨i0,hlt,by omega,e,.inl r1,fun _ _ _ _ _ _=>⟨fun hy=>?_,fun hge=>by omega⟩⟩;obtain ⟨c1,c2⟩:=r5 y.i y0 hy;rw [hB y.i y0 hy];exact ⟨by omega,by omega,⟨e,.inl r1,fun _ _ _ _ _ _=>⟨y0,hy,e',.inr r2,fun _ _ _ _ _ _=>⟨by omega,⟨c1.symm,c2.symm⟩,fun _ _=>by omega⟩⟩⟩,⟨e',.inr r2,fun _ _ _ _ _ _=>⟨y0,by omega,e,.inl r1,fun _ _ _ _ _ _=>⟨hy,⟨c1.symm,c2.symm⟩,fun _ _=>by omega⟩⟩⟩⟩
theorem qso:qfD.ok Try.prog:=qsu (by simp [qhv]) fun Z hg hp=>by
 obtain ⟨s0,hs0,hw0⟩:=hp;simp only [swR,jbb] at hs0;simp (config:={ maxSteps:=4000000 }) [qmu,qfD,qon,qd5,swR];obtain ⟨a1,a2,a3,a4,a5⟩:=id hs0;have hn16:=hw0.1;have hb:(16:Int) <= big:=by decide
 intro u _ u1 _ hst0;refine ⟨⟨by omega,fun s hs hw=>⟨rfl,fun i t hi=>by simp [qdn] at hi⟩⟩,?_⟩;intro x1 _ x2 _ x3 _ x4 _ x5 _ x6 _ i0 i1 i2 i3 hin;refine ⟨by omega,fun hlt=>⟨i0,by omega,fun hr=>⟨by omega,?_,?_⟩,fun hr=>?_⟩,fun hge=>⟨i2,fun s hs hw=>?_⟩⟩
 ·have hr0:s0.r x5.i.toNat = true:=by rw [<- qb9 a4 i0 (by omega)]; exact hr
  have:=SwH.isM a5 hr0;rw [show ((x5.i.toNat:Nat):Int) = x5.i by omega] at this;exact ⟨_,this,(hw0.2 _ hr0).1⟩
 ·intro y1 _ y2 _ y3 _ y4 _ hpost y5 _
  have hA:qi .add .i64 x5.i 1 = x5.i + 1:=qay i0 hlt (by omega);rw [hA];refine ⟨i2,by omega,fun y6 _ y7 _ y8 _ hst=>⟨⟨by omega,by omega,i2,by omega,fun s hs hw=>?_⟩,by omega⟩⟩;obtain ⟨b1,b2,b3,b4,b5⟩:=id hs;have hr0:s.r x5.i.toNat = true:=by rw [<- qb9 b4 i0 (by omega)]; exact hr
  have hM:=SwH.isM b5 hr0;rw [show ((x5.i.toNat:Nat):Int) = x5.i by omega] at hM;obtain ⟨p1,p2⟩:=hpost _ hM;rw [show (x5.i + 1).toNat = x5.i.toNat + 1 by omega,qe8,jag hr0];have hle:=qaH 23 6 hst (by simp);simp at hle;have hR:=qw1 (n:=y4.d.length) (k:=y3.i.toNat) hst (r:=24) (ty:=25) (pat:=qan) (d:=.var 27) (cap:=.var 26) (by simp [qan]) (by simp) (by simp);simp [qbm] at hR;rw [p1,jbw,qbm];exact qrK (qkM (hin s hs hw) hle) hR p2
 ·have hA:qi .add .i64 x5.i 1 = x5.i + 1:=qay i0 hlt (by omega)
  rw [hA];refine ⟨⟨by omega,by omega,i2,by omega,fun s hs hw=>?_⟩,by omega⟩;obtain ⟨b1,b2,b3,b4,b5⟩:=id hs;have hr0:¬ s.r x5.i.toNat = true:=by rw [<- qb9 b4 i0 (by omega),hr]; simp
  rw [show (x5.i + 1).toNat = x5.i.toNat + 1 by omega,qe8,jaf hr0];exact hin s hs hw
 ·have:=hin s hs hw
  rw [show x5.i.toNat = s.ms.length by have:=hs.1; omega] at this;exact this
theorem qmc:qem.ok Try.prog:=que (by simp [qnx]) fun Z hg hp=>by
 obtain ⟨s0,hs0,hw0,hr0⟩:=hp;simp only [swR,jbb] at hs0;simp (config:={ maxSteps:=4000000 }) [qoj,qem,qrz,qr1,qgh,swR];obtain ⟨a1,a2,a3,a4,a5⟩:=id hs0;have hn16:=hw0.1;have hb:(16:Int) <= big:=by decide
 refine ⟨by omega,fun u _ i0 i1=>⟨by omega,fun hlt=>⟨i0,by omega,fun hr=>?_,fun hr=>⟨by omega,?_,?_⟩⟩⟩⟩
 ·have hA:qi .add .i64 u.i 1 = u.i + 1:=qay i0 hlt (by omega)
  rw [hA]; omega
 ·have hr1:s0.r u.i.toNat = true:=by rw [<- qb9 a4 i0 (by omega)]; exact hr
  have:=SwH.isM a5 hr1;rw [show ((u.i.toNat:Nat):Int) = u.i by omega] at this;exact ⟨_,this,(hw0.2 _ hr1).1⟩
 ·intro x1 _ x2 _ hpost
  have key:∀ s:Sw,swRP (Z 2).i (Z 4).d (Z 7).d (Z 15).h s->s.r u.i.toNat = true/\isM (Z 15).h (qU (Z 4).d u.i 0) (s.m u.i.toNat):=fun s hs=>by
   obtain ⟨b1,b2,b3,b4,b5⟩:=hs;have hr1:s.r u.i.toNat = true:=by rw [<- qb9 b4 i0 (by omega)]; exact hr
   have:=SwH.isM b5 hr1;rw [show ((u.i.toNat:Nat):Int) = u.i by omega] at this;exact ⟨hr1,this⟩
  obtain ⟨p1,p2,p3⟩:=hpost _ (key s0 hs0).2;refine ⟨⟨by omega,p1,fun s hs hw hrw=>⟨(hpost _ (key s hs).2).2.1,by simp [qbj]⟩⟩,?_⟩;intro za _ zb _ zc _ zd _ ze _ hz j0 j1 j2 hin;rw [hz] at *;have hlive:∀ s:Sw,swRP (Z 2).i (Z 4).d (Z 7).d (Z 15).h s->wfW s->qmr s->∀ y:Int,0 <= y->y < (Z 2).i->y.toNat < (s.m u.i.toNat).tab.length/\qcb ((s.m u.i.toNat).tab.getD y.toNat (0,0)).2 = qcc (Z 7).d y 0:=fun s hs hw hrw y y0 y1=>by
   have hl:=(hw.2 _ (key s hs).1).2;obtain ⟨b1,b2,b3,b4,b5⟩:=hs;refine ⟨by rw [hl]; omega,?_⟩;rw [qb9 b4 y0 (by omega),<- hrw u.i.toNat y.toNat (key s ⟨b1,b2,b3,b4,b5⟩).1 (by omega)];rfl
  obtain ⟨q1,q2⟩:=hin s0 hs0 hw0 hr0;have hlen:zc.d.length = (qbC (s0.m u.i.toNat).tab).length:=by rw [<- q1,qV]
  refine ⟨fun hb1=>⟨j0,by omega,fun hc=>?_,fun hc=>?_⟩,fun hge=>?_⟩
  ·obtain ⟨t1,t2⟩:=hlive s0 hs0 hw0 hr0 ze.i j0 hb1
   rw [hc] at t2;have hat:=qxX t1 t2;have hlt2:=(jal.1 hat).1;have hzd:zd.i.toNat = (qbj (s0.m u.i.toNat).tab ze.i.toNat).length:=by omega
   refine ⟨by omega,by omega,fun _=>⟨by omega,by omega,by omega,?_,fun _=>?_⟩⟩
   ·have hci:=qcm (d:=zc.d) (i:=zd.i) (by omega) (by omega)
    rw [q1,hzd,hat] at hci;have:=jat hci;omega
   ·have hA:qi .add .i64 ze.i 1 = ze.i + 1:=qay j0 hb1 (by omega)
    have hD:qi .add .i64 zd.i 1 = zd.i + 1:=qay (n:=zd.i + 1) (by omega) (by omega) (by
     have:=(hw0.2 _ (key s0 hs0).1).2;have:=qhg (s0.m u.i.toNat).tab ze.i.toNat;omega)
    rw [hA,hD];refine ⟨⟨rfl,by omega,by omega,j2,fun s hs hw hrw=>?_⟩,by omega⟩;obtain ⟨g1,g2⟩:=hin s hs hw hrw;obtain ⟨t1,t2⟩:=hlive s hs hw hrw ze.i j0 hb1;rw [hc] at t2;refine ⟨g1,?_⟩;rw [show (ze.i + 1).toNat = ze.i.toNat + 1 by omega,qe7,jag t2,jav,jd4,g2];omega
  ·have hA:qi .add .i64 ze.i 1 = ze.i + 1:=qay j0 hb1 (by omega)
   rw [hA];refine ⟨⟨rfl,by omega,by omega,j2,fun s hs hw hrw=>?_⟩,by omega⟩;obtain ⟨g1,g2⟩:=hin s hs hw hrw;obtain ⟨t1,t2⟩:=hlive s hs hw hrw ze.i j0 hb1;rw [hc] at t2;refine ⟨g1,?_⟩;rw [show (ze.i + 1).toNat = ze.i.toNat + 1 by omega,qe7,jaf (by rw [t2]; simp),g2]
  ·have hl:=(hw0.2 _ (key s0 hs0).1).2
   have he:qbj (s0.m u.i.toNat).tab ze.i.toNat = qbC (s0.m u.i.toNat).tab:=by
    rw [show ze.i.toNat = (s0.m u.i.toNat).tab.length by omega]; rfl
   rw [he] at q2;have hA:qi .add .i64 u.i 1 = u.i + 1:=qay i0 hlt (by omega);rw [hA];exact ⟨by omega,by omega,fun _=>by omega⟩
set_option maxHeartbeats 4000000
set_option pp.deepTerms true
set_option pp.maxSteps 1000000
theorem MI.gw {n a:Nat} {k K:Int} {m:Mach} (h:MI n a k K m) (h2:2 <= n) (h16:n <= 16) (hk:k < 1000000000):GW m:=by
 refine ⟨h.wf h2 h16,fun p hp=>by rw [h.self]; exact (h.prb_ne h2 h16 hk hp).1,qd m.tab a,?_,by have:=h.own; omega,by have:=h.own; omega⟩;rw [h.self,jbw];exact qcA (by rw [h.tl]; exact h.han)
theorem MI.callable {n a:Nat} {k K:Int} {m:Mach} (h:MI n a k K m) (h2:2 <= n) (h16:n <= 16) (hk:k <= 1000000):Go.Eng.callable m:=⟨h.wf h2 h16,h.lf,by have:=h.pl; have:=h.ck; omega⟩
theorem qxd {h:Hp} {v:Value} {t t':List Ent} (h1:RdT h v t) (h2:RdT h v t'):t = t':=by
 obtain ⟨e,a1,a2,_⟩:=h1;obtain ⟨e',b1,b2,_⟩:=h2;rw [<- a2,<- b2,qsB a1 b1]
theorem qw8 {s:Sw} {x:NM} (h:qdN s x):0 <= x.m.dst/\x.m.dst < s.ms.length/\s.ms.length <= 16/\x.t.length <= 16/\(s.net.length:Int) <= 300000000:=by
 obtain ⟨n,k,K,N,h2,h16,k0,k1,hK,hN,hs,hx⟩:=h;refine ⟨hx.d0,by rw [hs.ml]; exact hx.d1,by rw [hs.ml]; exact h16,by rw [hx.tl]; exact h16,by have:=hs.nl; omega⟩
theorem qt1 {s:Sw} {x:NM} (h:qdN s x) (hr:s.r x.m.dst.toNat = true) :
  callable (s.m x.m.dst.toNat)/\qc7 (s.m x.m.dst.toNat) x.m x.t = 0/\callable (qB (s.m x.m.dst.toNat) x.m x.t)/\(qB (s.m x.m.dst.toNat) x.m x.t).self = x.m.dst/\(qB (s.m x.m.dst.toNat) x.m x.t).tab.length = s.ms.length /\
   0 <= (qB (s.m x.m.dst.toNat) x.m x.t).chal/\(qB (s.m x.m.dst.toNat) x.m x.t).chal <= 5000000000000000000/\0 <= (qaO (qB (s.m x.m.dst.toNat) x.m x.t).tab x.m.dst).1/\(qaO (qB (s.m x.m.dst.toNat) x.m x.t).tab x.m.dst).1 <= 5000000000000000000 /\
   ((qB (s.m x.m.dst.toNat) x.m x.t).chal ≠ 0->qdQ (qB (s.m x.m.dst.toNat) x.m x.t) (qce (qB (s.m x.m.dst.toNat) x.m x.t)) = 0):=by
 obtain ⟨n,k,K,N,h2,h16,k0,k1,hK,hN,hs,hx⟩:=h;have d0:=hx.d0;have hd:x.m.dst = (x.m.dst.toNat:Nat):=by omega
 have hm:=hs.mir hr;have hgw:=GW.recv (g:=x.m) (t:=x.t) (hm.gw h2 h16 (by omega));obtain ⟨⟨o1,o2,_⟩,⟨p1,p2,_⟩⟩:=hm.own_ok h2 h16 hx hd;have hself:(qB (s.m x.m.dst.toNat) x.m x.t).self = x.m.dst:=by
  rw [hm.recv_eq h2 h16 hx hd]
  show (s.m x.m.dst.toNat).self = _
  rw [hm.self]; exact hd.symm
 have hown:qaO (qB (s.m x.m.dst.toNat) x.m x.t).tab x.m.dst = qd (s.m x.m.dst.toNat).tab x.m.dst.toNat:=by
  rw [hm.recv_eq h2 h16 hx hd];have:=qcL (self:=(s.m x.m.dst.toNat).self) (t:=x.t) (qcA (show x.m.dst.toNat < (s.m x.m.dst.toNat).tab.length by rw [hm.tl]; exact hm.han));rw [jag (by rw [hm.self])] at this;exact qcz this
 have hlen:(qB (s.m x.m.dst.toNat) x.m x.t).tab.length = n:=by rw [quZ,hm.tl]
 refine ⟨hm.callable h2 h16 k1,hm.recv_ok h2 h16 hx hd,⟨hgw.1,?_,?_⟩,hself,by rw [hlen,hs.ml],?_,?_,by rw [hown]; exact o1,by rw [hown]; omega,?_⟩
 ·rw [hm.recv_eq h2 h16 hx hd]; exact hm.lf
 ·rw [hm.recv_eq h2 h16 hx hd]
  have hpl:=hm.pl;have hck:=hm.ck
  show (if qb4 (s.m x.m.dst.toNat).self x.m then (s.m x.m.dst.toNat).probes.filter (fun p=>!(p.seq == x.m.seq)) else (s.m x.m.dst.toNat).probes).length <= 1000000
  split
  ·have:=jc6 (fun p:Prb=>!(p.seq == x.m.seq)) (s.m x.m.dst.toNat).probes
   omega
  ·omega
 ·rcases hm.chal h2 h16 hx hd with ⟨c,_⟩ | ⟨c,_⟩ <;> rw [c] <;> omega
 ·rcases hm.chal h2 h16 hx hd with ⟨c,_⟩ | ⟨c,_⟩ <;> rw [c] <;> omega
 ·intro hc
  rcases hm.chal h2 h16 hx hd with ⟨c,_⟩ | ⟨_,_,_,_,c⟩
  ·exact absurd c hc
  ·exact c
theorem qo3:qeV.ok Try.prog:=qv1 (by simp [qu5,quz,qhv,qvk]) fun Z hg hp=>by
 obtain ⟨s0,t0,hs0,ht0,hh0⟩:=hp;simp only [qb8,jbb] at hs0;simp (config:={ maxSteps:=4000000 }) [qqn,qeV,qhD,qkx,qd5,qm1,qb8,qa1];simp only [qa1] at hh0;have hx1:∀ t:List Ent,(⟨⟨(Z 17).i,(Z 18).i,(Z 19).i,(Z 20).i,(Z 21).i,(Z 22).i⟩,t⟩:NM).m.dst = (Z 19).i:=fun _=>rfl
 generalize hgE:(⟨(Z 17).i,(Z 18).i,(Z 19).i,(Z 20).i,(Z 21).i,(Z 22).i⟩:Msg) = g at *;have hgd:g.dst = (Z 19).i:=by rw [<- hgE]
 obtain ⟨d0,d1,n16,tl16,nN⟩:=qw8 hh0;obtain ⟨a1,a2,a3,a4,a5,a6,a7,a8,a9⟩:=id hs0;have hd0:0 <= (Z 19).i:=by rw [<- hgd]; exact d0
 have hd1:(Z 19).i < s0.ms.length:=by rw [<- hgd]; exact d1
 intro u _;refine ⟨hd0,by omega,by omega,fun hr=>?_,fun hr=>?_⟩
 ·intro u1 _ hst
  have hle:=qaH 16 2 hst (by simp);simp at hle;refine ⟨hle,fun s t hs ht hh=>?_⟩;obtain ⟨b1,b2,b3,b4,b5,b6,b7,b8,b9⟩:=id hs;have hrr:¬ s.r g.dst.toNat = true:=by rw [hgd,<- qb9 b6 hd0 (by omega),hr]; simp
  rw [qa2,jaf hrr];exact ⟨b1,b2,b3,b4,b5,b6,b7,qbd b8 hle,b9⟩
 ·have hrr:s0.r g.dst.toNat = true:=by rw [hgd,<- qb9 a6 hd0 (by omega)]; exact hr
  obtain ⟨f1,f2,f3,f4,f5,f6,f7,f8,f9,f10⟩:=qt1 hh0 hrr;simp only [hgd] at f1 f2 f3 f4 f5 f6 f7 f8 f9 f10 hrr;have hM:=qdw hs0 hd0 hrr;generalize hMe:s0.m (Z 19).i.toNat = M at *;refine ⟨by omega,⟨⟨M,hM,f1⟩,t0,ht0,tl16⟩,?_⟩;intro x1 _ x2 _ x3 _ x4 _ x5 _ x6 _ x7 _ hpost;obtain ⟨p1,p2,p3,p4⟩:=hpost M t0 hM ht0;rw [f2] at p1;have hN2:(x4.d.length:Int) <= 1:=by
   have h1:=qbR p4;have h2:(qa5 M g t0).length <= 1:=by unfold qa5; split <;> simp
   omega
  have hM1:isM x7.h (qU (Z 4).d (Z 19).i 0) (qB M g t0):=by
   have h1:=p2 _ _ _ _ a9 hrr (by rw [show (((Z 19).i.toNat:Nat):Int) = (Z 19).i by omega]);have:=SwH.isM h1 hrr;rw [show (((Z 19).i.toNat:Nat):Int) = (Z 19).i by omega] at this;simpa [qhu] using this
  -- the end of all ways
  have fin:∀ (s:Sw) (t:List Ent),swP (Z 2).i (Z 12).i (Z 4).d (Z 7).d (Z 10).d (Z 14).d (Z 15).h (Z 16).h s->RdT (Z 16).h (Z 23).v t->qdN s ⟨g,t⟩->∀ (H' G':Hp) (dL:List (List Value)),qck (Z 15).h H' (qU (Z 4).d (Z 19).i 0) (qa7 M ⟨g,t0⟩)->Hp.le (Z 16).h G'->Hp.le x6.h G'->dL.length = (Z 10).d.length ->
    (qf dL = if (qB M g t0).chal = 0 then qf (Z 10).d else (qf (Z 10).d).set (Z 19).i.toNat (qce (qB M g t0))) ->
    swP (Z 2).i ((Z 12).i + x2.i) (Z 4).d (Z 7).d dL ((Z 14).d ++ x4.d.take x2.i.toNat) H' G' (qa2 s ⟨g,t⟩):=fun s t hs ht hh H' G' dL hT hl1 hl2 hL1 hL2=>by
   obtain ⟨b1,b2,b3,b4,b5,b6,b7,b8,b9⟩:=id hs;have hrs:s.r (Z 19).i.toNat = true:=by rw [<- qb9 b6 hd0 (by omega)]; exact hr
   have hms:s.m (Z 19).i.toNat = M:=qcG (qdw hs hd0 hrs) hM;have htt:t = t0:=qxd ht ht0;subst htt;have htk:x4.d.take x2.i.toNat = x4.d:=ja0 (by omega);rw [htk,qa2,jag (show s.r g.dst.toNat = true by rw [hgd]; exact hrs)];simp only [hgd,hms];refine qiH hs hd0 hrs hT (by rw [hL1]; exact b4) ?_ (by rw [jav]; omega) (qgQ (qbd b8 hl1) (qbd (qfo p4) hl2));rw [hL2,b7]
  refine ⟨fun hne=>absurd p1 hne,fun _=>⟨a5,by omega,by omega,by rw [a5,a8.1]; omega,?_⟩⟩;intro y1 _ y2 _;refine ⟨⟨_,hM1⟩,fun y3 _ hch=>⟨fun hc0=>?_,fun hc0=>?_⟩⟩
  ·have hch:=hch _ hM1
   rw [hch] at hc0;refine ⟨⟨_,hM1,f3.1⟩,?_⟩;intro z1 _ z2 _ z3 _ z4 _ htab;obtain ⟨t1,t2⟩:=htab _ hM1;have hzl:(z4.d.length:Int) = (Z 2).i:=by rw [<- qad,t2,f5,a1]
   have hci:qc z4.d (Z 19).i 0 = (qaO (qB M g t0).tab (Z 19).i).1:=by
    have:=qfz (d:=z4.d) hd0 (by omega);rw [t2] at this;simp only [qaO,jai,this,jbi]
   have hin:qce (qB M g t0) = max y3.i (qc z4.d (Z 19).i 0) + 1:=by rw [qce,f4,hci,hch]
   have hE:=f10 hc0;have key:∀ z:Int,z = max y3.i (qc z4.d (Z 19).i 0)->qi .add .u64 z 1 = qce (qB M g t0):=fun z hz=>by
    rw [hin,<- hz];exact qbB (by omega) (by omega)
   refine ⟨by omega,by omega,fun hlt=>?_,fun hge=>?_⟩
   all_goals
    first | rw [key y3.i (by omega)] | rw [key (qc z4.d (Z 19).i 0) (by omega)]
    refine ⟨⟨_,hM1,f3⟩,fun v1 _ v2 _ hre=>?_⟩;obtain ⟨r1,r2⟩:=hre _ hM1;rw [hE] at r1;refine ⟨fun hne=>absurd r1 hne,fun _=>⟨by omega,?_⟩⟩;intro v3 _ hst;have hle1:=qaH 16 2 hst (by simp);have hle2:=qaH 139 2 hst (by simp);simp at hle1 hle2;refine ⟨hle1,fun s t hs ht hh=>?_⟩;refine fin s t hs ht hh v2.h v3.h _ ?_ hle1 hle2 qeS ?_
    ·intro d r ms a hS hra hva
     have h1:=p2 d r ms a hS hra hva;have h2:=r2 d r _ a h1 hra hva;refine qf2 h2 fun b hb=>⟨hb,?_⟩
     have hhm:qa7 M ⟨g,t0⟩ = qch (qB M g t0) (qce (qB M g t0)):=by rw [qa7,jaf hc0]
     unfold qhu;split
     ·rw [hhm]
     ·rfl
    ·rw [qrw,jaf hc0]
  ·have hch:=hch _ hM1
   rw [hch] at hc0;intro v3 _ hst;have hle1:=qaH 16 2 hst (by simp);have hle2:=qaH 139 2 hst (by simp);simp at hle1 hle2;refine ⟨hle1,fun s t hs ht hh=>?_⟩;have hhm:qa7 M ⟨g,t0⟩ = qB M g t0:=by rw [qa7,jag hc0]
   exact fin s t hs ht hh x7.h v3.h _ (by rw [hhm]; exact p2) hle1 hle2 rfl (by rw [jag hc0])
set_option maxHeartbeats 4000000
set_option pp.deepTerms true
set_option pp.maxSteps 1000000
theorem qvR {n:Nat} {k K N:Int} {s:Sw} (h:SI n k K N s) (d:Int) (hk0:0 <= k):∀ j:Nat,j <= n->((qar d { s with net:=[] } j).net.length:Int) <= (j:Int) * (2 * k + 1):=by
 have hl:s.run.length = s.ms.length:=by rw [h.rl,h.ml]
 intro j
 induction j with
 | zero=>intro _; simp [qe2]
 | succ j ih =>
  intro hj;have ih:=ih (by omega);have hmj:=qcp d { s with net:=[] } hl j j;rw [jaf (by omega)] at hmj;rw [qca,tickW];have e:((j + 1:Nat):Int) * (2 * k + 1) = (j:Int) * (2 * k + 1) + (2 * k + 1):=by
   rw [jd8,Int.add_mul]; simp
  split
  ·rename_i hr
   have hr':s.r j = true:=by rw [Sw.r,(qby d { s with net:=[] } j).1] at hr; exact hr
   have hmi:=h.mir hr';simp only [jav,qb2,jaz,hmj];have:=qcV (s.m j) d;have:=hmi.pl;have:=hmi.ck;have e2:(({ s with net:=[] }:Sw).m j) = s.m j:=rfl;rw [e2];omega
  ·omega
theorem qqT {j n:Nat} {k:Int} (hj:j <= n) (hn:n <= 16) (h0:0 <= k) (h1:k <= 900000):(j:Int) * (2 * k + 1) <= 30000000:=by
 have h2:(j:Int) * (2 * k + 1) <= 16 * (2 * k + 1):=jcx (by omega) (by omega);omega
theorem qpO {s:Sw} (h:qdg s) (d:Int) {j:Nat} (hr:s.r j = true):(qar d { s with net:=[] } j).m j = s.m j/\callable (s.m j)/\(qar d { s with net:=[] } j).r j = true/\((qar d { s with net:=[] } j).net.length:Int) <= 30000000/\((qas (s.m j) d).length:Int) <= 2000001:=by
 obtain ⟨n,k,K,N,h2,h16,k0,k1,hK,hN,hs⟩:=h;have hl:s.run.length = s.ms.length:=by rw [hs.rl,hs.ml]
 have hm:=qcp d { s with net:=[] } hl j j;rw [jaf (by omega)] at hm;have hlt:=hs.lt hr;have hmi:=hs.mir hr;refine ⟨hm,hmi.callable h2 h16 (by omega),by rw [Sw.r,(qby d { s with net:=[] } j).1]; exact hr,Int.le_trans (qvR hs d k0 j (by omega)) (qqT (by omega) h16 k0 k1),?_⟩;have:=qcV (s.m j) d;have:=hmi.pl;have:=hmi.ck;omega
theorem qcr {n nl:Int} {dM dR dL dN:List (List Value)} {H G G':Hp} {s:Sw} (h:swP n nl dM dR dL dN H G s) (hl:Hp.le G G'):swP n nl dM dR dL dN H G' s:=by
 obtain ⟨h1,h2,h3,h4,h5,h6,h7,h8,h9⟩:=h;exact ⟨h1,h2,h3,h4,h5,h6,h7,qbd h8 hl,h9⟩
theorem qr6 {s:Sw} (h:qdg s) {d:Int} (hd:0 <= d):qhO d s (qar d { s with net:=[] } s.ms.length) s.net:=by
 obtain ⟨n,k,K,N,h2,h16,k0,k1,hK,hN,hs⟩:=h;refine ⟨fun e he=>he,n,k + 1,K,_,h2,h16,by omega,by omega,?_,?_,by rw [hs.ml]; exact hs.ticks h2 h16 (by omega) k0 hd,hs.xi⟩
 ·have:=hs.nl; omega
 ·have:=hs.nl
  have:=qqT (j:=n) (jbj n) h16 k0 k1;omega
theorem qq3 {d:Int} {s now:Sw} {old:List NM} (h:qhO d s now old) {i:Nat} (hi:i < old.length):qdN now old[i]/\qhO d s (qa2 now old[i]) (old.eraseIdx i):=by
 obtain ⟨hd,n,k,K,N,h2,h16,k0,k1,hK,hN,hs,hx⟩:=h;have hxi:=hx _ (jbu hi);refine ⟨⟨n,k,K,N,h2,h16,k0,k1,by omega,by omega,hs,hxi⟩,fun e he=>hd e (.cons now old i e hi he),n,k,K + 1,N + 1,h2,h16,k0,k1,?_,?_,hs.hear h2 h16 hxi,fun y hy=>(hx y (jbk hy)).mono (by omega)⟩
 ·rw [jcy,jag hi]; omega
 ·rw [jcy,jag hi]; omega
theorem qiE {α:Type} {d:List α} {i l c:Int} (h0:0 <= i) (hi:i < l) (hl:l = d.length) (hc:(d.length:Int) <= c):d.take i.toNat ++ (d.drop (if c = i + 1 then 0 else i + 1).toNat).take (l - (i + 1)).toNat = d.take i.toNat ++ d.drop (i.toNat + 1):=by
 congr 1
 split
 ·rename_i he
  rw [show (l - (i + 1)).toNat = 0 by omega,jet,List.drop_of_length_le (by omega)]
 ·rw [show (i + 1).toNat = i.toNat + 1 by omega,ja0 (by rw [jcr]; omega)]
theorem qiz:qcQ.ok Try.prog:=qul (by simp [qrd,qmE,qo3]) fun Z hg hp=>by
 obtain ⟨⟨s0,hs0,hk0⟩,h1,h2,h3,h4,h5,h6⟩:=hp;simp only [qb8,jbb] at hs0;simp (config:={ maxSteps:=4000000 }) [qoJ,qcQ,qru,qrl,qiv,qej,qeV,qb8,qa1];obtain ⟨a1,a2,a3,a4,a5,a6,a7,a8,a9⟩:=id hs0;have n16:s0.ms.length <= 16/\(s0.net.length:Int) <= 100000000:=by
  obtain ⟨n,k,K,N,_,h16,_,_,_,hN,hs⟩:=id hk0;exact ⟨by rw [hs.ml]; exact h16,by have:=hs.nl; omega⟩
 have hb:(16:Int) <= big:=by decide
 refine ⟨⟨by omega,fun s hs hk=>?_⟩,?_⟩
 ·obtain ⟨b1,b2,b3,b4,b5,b6,b7,b8,b9⟩:=id hs
  exact ⟨⟨b1,b2,b3,b4,rfl,b6,b7,qo0 _,b9⟩,b8⟩
 intro x1 _ x2 _ x3 _ x4 _ x5 _ x6 _ x7 _ i0 i1 hin;refine ⟨by omega,fun hlt=>⟨i0,by omega,fun hr=>?_,fun hr=>?_⟩,fun hge=>?_⟩
 ·have hr0:s0.r x7.i.toNat = true:=by rw [<- qb9 a6 i0 (by omega)]; exact hr
  obtain ⟨t1,t2,t3,t4,t5⟩:=qpO hk0 (Z 17).i hr0;obtain ⟨q1,q2⟩:=hin s0 hs0 hk0;have hM:=qdw q1 i0 t3;rw [t1] at hM;refine ⟨by omega,⟨⟨_,hM,t2⟩,h1,h2⟩,?_⟩;intro y1 _ y2 _ y3 _ y4 _ y5 _ y6 _ hpost;obtain ⟨p1,p2,p3⟩:=hpost _ hM;have hyl:=qbR p3;have hA:qi .add .i64 x7.i 1 = x7.i + 1:=qay i0 hlt (by omega);have q5:=q1.2.2.2.2.1;have q8:=q1.2.2.2.2.2.2.2.1;have ql:=q8.1;refine ⟨q5,by omega,by omega,by omega,?_⟩;intro z1 _ z2 _ z3 _ hst;have hle1:=qaH 29 2 hst (by simp);have hle2:=qaH 35 2 hst (by simp);simp at hle1 hle2;rw [hA];refine ⟨⟨by omega,by omega,fun s hs hk=>?_⟩,by omega⟩;obtain ⟨r1,r2⟩:=hin s hs hk;have hrs:s.r x7.i.toNat = true:=by rw [<- qb9 hs.2.2.2.2.2.1 i0 (by omega)]; exact hr
  obtain ⟨w1,w2,w3,w4,w5⟩:=qpO hk (Z 17).i hrs;have hMs:=qdw r1 i0 w3;obtain ⟨v1,v2,v3⟩:=hpost _ hMs;refine ⟨?_,qbd r2 hle1⟩;rw [show (x7.i + 1).toNat = x7.i.toNat + 1 by omega,qca,tickW,jag w3];have htk:y4.d.take y2.i.toNat = y4.d:=ja0 (by omega);rw [htk];exact qiH r1 i0 w3 v1 r1.2.2.2.1 r1.2.2.2.2.2.2.1 (by rw [jav]; have:=r1.2.2.2.2.1; omega) (qgQ (qbd r1.2.2.2.2.2.2.2.1 hle1) (qbd (qfo v3) hle2))
 ·have hA:qi .add .i64 x7.i 1 = x7.i + 1:=qay i0 hlt (by omega)
  rw [hA];refine ⟨⟨by omega,by omega,fun s hs hk=>?_⟩,by omega⟩;obtain ⟨r1,r2⟩:=hin s hs hk;have hrs:¬ s.r x7.i.toNat = true:=by rw [<- qb9 hs.2.2.2.2.2.1 i0 (by omega),hr]; simp
  refine ⟨?_,r2⟩;rw [show (x7.i + 1).toNat = x7.i.toNat + 1 by omega,qca,tickW,jaf]
  ·exact r1
  ·rw [Sw.r,(qby (Z 17).i { s with net:=[] } x7.i.toNat).1]; exact hrs
 ·have hnl:=a8.1
  refine ⟨by omega,⟨by omega,by omega,a5,fun s hs hk=>?_⟩,?_⟩
  ·obtain ⟨r1,r2⟩:=hin s hs hk
   rw [show x7.i.toNat = s.ms.length by have:=hs.1; omega] at r1;exact ⟨_,_,qr6 hk h1,r1,r2⟩
  intro y1 _ y2 _ y3 _ y4 _ y5 _ y6 _ y7 _ y8 _ y9 _ y10 _ y11 _ y12 _ y13 _ j0 j1 j2 j3 hout
  -- one message is delivered
  have step:∀ i:Int,0 <= i->i < y12.i->y12.i = y11.d.length->(∃ s,swP (Z 2).i y2.i (Z 4).d (Z 7).d y13.d y4.d y5.h y6.h s/\∃ x,RdT y6.h (qU y11.d i 6) x/\qdN s ⟨⟨qc y11.d i 0,qc y11.d i 1,qc y11.d i 2,qc y11.d i 3,qc y11.d i 4,qc y11.d i 5⟩,x⟩) /\
    ∀ (nl:Int) (dL dN:List (List Value)) (H G G':Hp),Hp.le y6.h G->Hp.le G G'->(∀ (s:Sw) (t:List Ent),swP (Z 2).i y2.i (Z 4).d (Z 7).d y13.d y4.d y5.h y6.h s->RdT y6.h (qU y11.d i 6) t->qdN s ⟨⟨qc y11.d i 0,qc y11.d i 1,qc y11.d i 2,qc y11.d i 3,qc y11.d i 4,qc y11.d i 5⟩,t⟩->swP (Z 2).i nl (Z 4).d (Z 7).d dL dN H G (qa2 s ⟨⟨qc y11.d i 0,qc y11.d i 1,qc y11.d i 2,qc y11.d i 3,qc y11.d i 4,qc y11.d i 5⟩,t⟩)) ->
     ∀ s,swP (Z 2).i (Z 12).i (Z 4).d (Z 7).d (Z 10).d (Z 14).d (Z 15).h (Z 16).h s->qdg s->∃ now old,qhO (Z 17).i s now old/\swP (Z 2).i nl (Z 4).d (Z 7).d dL dN H G' now/\qc4 G' (y11.d.take i.toNat ++ y11.d.drop (i.toNat + 1)) old:=fun i i0 i1 hl=>by
   have one:∀ s,swP (Z 2).i (Z 12).i (Z 4).d (Z 7).d (Z 10).d (Z 14).d (Z 15).h (Z 16).h s->qdg s->∃ now old t,∃ hi:i.toNat < old.length,qhO (Z 17).i s now old/\swP (Z 2).i y2.i (Z 4).d (Z 7).d y13.d y4.d y5.h y6.h now/\qc4 y6.h y11.d old/\RdT y6.h (qU y11.d i 6) t/\old[i.toNat] = ⟨⟨qc y11.d i 0,qc y11.d i 1,qc y11.d i 2,qc y11.d i 3,qc y11.d i 4,qc y11.d i 5⟩,t⟩:=fun s hs hk=>by
    obtain ⟨now,old,c1,c2,c3⟩:=hout s hs hk;obtain ⟨x,e1,e2,e3⟩:=qqv c3 i0 (by omega);obtain ⟨hi,e4⟩:=jal.1 e1;refine ⟨now,old,x.t,hi,c1,c2,c3,e2,?_⟩;rw [e4,<- e3]
   refine ⟨?_,fun nl dL dN H G G' hG hG' hpost s hs hk=>?_⟩
   ·obtain ⟨now,old,t,hi,c1,c2,c3,c4,c5⟩:=one s0 hs0 hk0
    have:=(qq3 c1 hi).1;rw [c5] at this;exact ⟨now,c2,t,c4,this⟩
   ·obtain ⟨now,old,t,hi,c1,c2,c3,c4,c5⟩:=one s hs hk
    obtain ⟨g1,g2⟩:=qq3 c1 hi;rw [c5] at g1 g2;exact ⟨_,_,g2,qcr (hpost now t c2 c4 g1) hG',qbd (qkU c3 i.toNat) (Hp.le_trans hG hG')⟩
  refine ⟨fun hpos=>⟨by omega,fun hord=>?_,fun hord=>?_⟩,fun hend=>?_⟩
  ·obtain ⟨e1,e2,e3⟩:=qo4 (a:=qi .add .i64 (Z 23).i y12.i) hord (show (Z 19).i <= 1000000000 by omega)
   have hadd:qi .add .i64 (Z 23).i y12.i = (Z 23).i + y12.i:=qQ (by omega) (by omega);have hrem:0 <= Int.tmod ((Z 23).i + y12.i) (Z 19).i:=jcn _ (by omega);rw [hadd] at e1 e2 e3;rw [hadd,e1];refine ⟨by omega,hrem,e3,by omega,⟨hpos,by omega⟩,?_⟩;intro z1 _ k0 k1;have hA:qi .add .i64 z1.i 1 = z1.i + 1:=qQ (by omega) (by omega);have hS:qi .sub .i64 y12.i 1 = y12.i - 1:=qQ (by omega) (by omega);rw [hA,hS];refine ⟨k0,by omega,by omega,fun z2 _ hcap=>⟨by omega,by omega,by omega,by omega,by omega,by omega,fun z3 _=>⟨by omega,by omega,fun z4 _ z5 _=>⟨by omega,by split <;> omega,by omega,by split <;> omega,by omega,fun z6 _ z7 _=>?_⟩⟩⟩⟩;obtain ⟨s1,s2⟩:=step z1.i k0 k1 (by omega);refine ⟨s1,?_⟩;intro v1 _ v2 _ v3 _ v4 _ v5 _ v6 _ v7 _ hleH hpost v8 _ hst;have hle:=qaH 57 2 hst (by simp);simp at hle;refine ⟨⟨by omega,by omega,by omega,?_,fun s hs hk=>?_⟩,by omega⟩
   ·have hl:=congrArg List.length (qiE (d:=y11.d) k0 (show z1.i < y9.i by omega) (by omega) hcap)
    simp only [jav,jbc,jcr] at hl;omega
   ·obtain ⟨now,old,c1,c2,c3⟩:=s2 v2.i v5.d v4.d v6.h v7.h v8.h hleH hle hpost s hs hk
    refine ⟨now,old,c1,c2,?_⟩;rw [qiE k0 (show z1.i < y9.i by omega) (by omega) hcap];exact c3
  ·have hS:qi .sub .i64 y12.i 1 = y12.i - 1:=qQ (by omega) (by omega)
   rw [hS];refine ⟨by omega,by omega,fun z2 _ hcap=>⟨by omega,by omega,by omega,by omega,fun z3 _ z4 _ z5 _=>⟨by split <;> omega,by omega,by split <;> omega,by omega,fun z6 _ z7 _=>?_⟩⟩⟩;obtain ⟨s1,s2⟩:=step 0 (by omega) (by omega) (by omega);refine ⟨s1,?_⟩;intro v1 _ v2 _ v3 _ v4 _ v5 _ v6 _ v7 _ hleH hpost v8 _ hst;have hle:=qaH 56 2 hst (by simp);simp at hle;have hcr:=qiE (d:=y11.d) (i:=0) (l:=y9.i) (c:=y10.i) (by omega) (by omega) (by omega) hcap;simp only [Int.zero_add,jea,jet,jco,jbb] at hcr;rw [show (y9.i - 1).toNat = y9.i.toNat - 1 by omega] at hcr;refine ⟨⟨by omega,by omega,by omega,?_,fun s hs hk=>?_⟩,by omega⟩
   ·have hl:=congrArg List.length hcr
    simp only [jbc,jcr] at hl;omega
   ·obtain ⟨now,old,c1,c2,c3⟩:=s2 v2.i v5.d v4.d v6.h v7.h v8.h hleH hle hpost s hs hk
    refine ⟨now,old,c1,c2,?_⟩;rw [hcr];simpa using c3
  ·intro z1 _ hst s hs hk
   obtain ⟨now,old,c1,c2,c3⟩:=hout s hs hk;have hnil:old = []:=jc1 (by have:=c3.1; omega);subst hnil;have hle:=qaH 36 2 hst (by simp);simp at hle;exact ⟨now,c1.1 now (.nil now),qcr c2 hle⟩
set_option maxHeartbeats 4000000
set_option pp.deepTerms true
set_option pp.maxSteps 1000000
theorem qsQ (n x:Nat) (e:Ent) (a:Nat) (ha:a < n):qd ((List.replicate n ((0,0):Ent)).set a e) x = if x = a then e else (0,0):=by
 simp only [qd,jai,ja4,jcf,jc3];by_cases h:a = x
 ·subst h; simp [ha]
 ·simp only [jaf h,jaf (Ne.symm h)]
  split <;> rfl
theorem qi0 (a n:Nat) (inc:Int):(qcy a n inc).tab = (List.replicate n ((0,0):Ent)).set a (inc,1):=by simp [qcy]
theorem qvh {n a:Nat} {k K inc:Int} (h2:2 <= n) (ha:a < n) (hk:0 <= k) (h1:1 <= inc) (hK:inc <= K):MI n a k K (qcy a n inc):=by
 refine ⟨rfl,ha,by rw [qi0]; simp,by simp [qcy],rfl,rfl,fun e he=>?_,by rw [qi0,qsQ n a _ a ha,jag rfl],by simp [qcy],hk,rfl,rfl,fun s hs=>?_,fun p hp=>by simp [qcy] at hp,by simp [qcy]⟩
 ·rw [qi0] at he
  rcases jbx he with he | rfl
  ·have:=jde he
   subst this;exact ⟨by simp,by simp only; omega,by simp,by simp,by simp⟩
  ·exact ⟨by simp only; omega,by simp only; omega,by simp,by simp,by simp only; omega⟩
 ·have:s = 0:=by simp only [qcy] at hs; exact jde hs
  subst this;exact ⟨by simp,by simp [qcy]⟩
section
variable {n nl:Int} {dM dR dL dN:List (List Value)} {H G G':Hp} {s:Sw} (hs:swP n nl dM dR dL dN H G s)
include hs
theorem qvG (hl:Hp.le G G'):∃ s',qhn s s'/\swP n nl dM dR dL dN H G' s':=⟨s,fun n k K N h2 h16 k0 k1 hK hN h=>h.mono (by omega) (by omega) (by omega),qcr hs hl⟩
theorem qnm {i:Int} (h0:0 <= i) (h1:i < n):i.toNat < s.run.length/\i.toNat < s.ms.length/\i.toNat < dR.length:=by
 have h2:=(qie hs).1;have h3:=hs.1;have h4:=hs.2.2.1;omega
theorem qyL {i:Int} (hl:Hp.le G G') (h0:0 <= i) (h1:i < n):∃ s',qhn s s'/\swP n nl dM (qH dR i 0 [.bool false]) dL dN H G' s':=by
 obtain ⟨l1,l2,l3⟩:=qnm hs h0 h1;obtain ⟨b1,b2,b3,b4,b5,b6,b7,b8,b9⟩:=id hs;have hr:∀ b,(Sw.mk s.ms (s.run.set i.toNat false) s.last s.net).r b = true->s.r b = true:=fun b hb=>by
  have:=qmX (s:=s) (x:=false) l1 b;unfold Sw.r at hb;simp only at hb;rw [this] at hb;split at hb
  ·cases hb
  ·exact hb
 refine ⟨⟨s.ms,s.run.set i.toNat false,s.last,s.net⟩,fun n k K N h2 h16 k0 k1 hK hN h=>?_,b1,b2,by rw [qeS]; exact b3,b4,b5,by rw [qjV,b6],b7,qbd b8 hl,qf2 b9 fun a ha=>⟨hr a ha,rfl⟩⟩;exact ⟨h.ml,by simp only [ja8]; exact h.rl,h.ll,fun a ha hra=>(h.mi a ha (hr a hra)).mono (by omega) (by omega),fun v hv=>by have:=h.la v hv; omega,fun x hx=>(h.xi x hx).mono (by omega),by have:=h.nl; simp only; omega⟩
theorem qsz {i inc:Int} {dM' dR' dL':List (List Value)} {H':Hp} (hl:Hp.le G G') (h0:0 <= i) (h1:i < n) (hi:1 <= inc) (hi2:∀ (n:Nat) (k K N:Int),SI n k K N s->0 <= K->inc <= K + 1) (hk:qdg s) (hp:∀ s:Sw,swP n nl dM dR dL dN H G s->swP n nl dM' dR' dL' dN H' G (qbY s i.toNat inc)):∃ s',qhn s s'/\swP n nl dM' dR' dL' dN H' G' s':=by
 obtain ⟨l1,l2,l3⟩:=qnm hs h0 h1;refine ⟨qbY s i.toNat inc,fun n k K N h2 h16 k0 k1 hK hN h=>?_,qcr (hp s hs) hl⟩;have hK0:0 <= K:=by
  cases hL:s.last with
  | nil=>have:=h.ll; rw [hL] at this; simp at this; omega
  | cons v l=>have:=h.la v (by rw [hL]; exact jac ..); omega
 have hin:=hi2 n k K N h hK0;refine ⟨by simp only [qbY,ja8]; exact h.ml,by simp only [qbY,ja8]; exact h.rl,by simp only [qbY,ja8]; exact h.ll,fun a ha hra=>?_,fun v hv=>?_,fun x hx=>(h.xi x hx).mono (by omega),by have:=h.nl; simp only [qbY]; omega⟩
 ·have hm:(qbY s i.toNat inc).m a = if a = i.toNat then qcy i.toNat s.ms.length inc else s.m a:=qgV (s:=s) l2
  rw [hm];split
  ·rename_i e
   subst e;rw [h.ml];exact qvh h2 ha (by omega) hi hin
  ·rename_i e
   have:=qmX (s:=s) (x:=true) l1 a;have hra':(s.run.set i.toNat true).getD a false = true:=hra;rw [this,jaf e] at hra';exact (h.mi a ha hra').mono (by omega) (by omega)
 ·rcases jbx hv with hv | rfl
  ·have:=h.la v hv; omega
  ·omega
theorem qzc {i d nl':Int} {dN':List (List Value)} {H' T:Hp} (hl:Hp.le G G') (hlT:Hp.le T G') (h0:0 <= i) (h1:i < n) (hr:qcc dR i 0 = true) (hd:0 <= d) (hk:qdg s)
  (hp:∀ m:Mach,isM H (qU dM i 0) m->qck H H' (qU dM i 0) (qn m d)/\nl' = dN'.length/\qa6 T (qas m d) m.self (qn m d).tab (qas m d).length dN'):∃ s',qhn s s'/\swP n (nl + nl') dM dR dL (dN ++ dN'.take nl'.toNat) H' G' s':=by
 obtain ⟨l1,l2,l3⟩:=qnm hs h0 h1;have hrr:s.r i.toNat = true:=by rw [<- qb9 hs.2.2.2.2.2.1 h0 (by omega)]; exact hr
 obtain ⟨p1,p2,p3⟩:=hp _ (qdw hs h0 hrr);refine ⟨tickW d s i.toNat,fun n k K N h2 h16 k0 k1 hK hN h=>?_,?_⟩
 ·rcases h.tickW h2 h16 (by omega) hd i.toNat with g | g
  ·exact g.mono (by omega) (by omega) (by omega)
  ·rw [g]; exact h.mono (by omega) (by omega) (by omega)
 ·rw [tickW,jag hrr,ja0 (by omega)]
  exact qiH hs h0 hrr p1 hs.2.2.2.1 hs.2.2.2.2.2.2.1 (by rw [jav]; have:=hs.2.2.2.2.1; omega) (qgQ (qbd hs.2.2.2.2.2.2.2.1 hl) (qbd (qfo p3) hlT))
theorem qyC {i nl':Int} {dN':List (List Value)} {H' T:Hp} (hl:Hp.le G G') (hlT:Hp.le T G') (h0:0 <= i) (h1:i < n) (hr:qcc dR i 0 = true)
  (hp:∀ m:Mach,isM H (qU dM i 0) m->qck H H' (qU dM i 0) (qdR m)/\nl' = dN'.length/\qa6 T (qbv (qL m.tab m.self)) m.self (qL m.tab m.self) (qbv (qL m.tab m.self)).length dN'):∃ s',qhn s s'/\swP n (nl + nl') dM (qH dR i 0 [.bool false]) dL (dN ++ dN'.take nl'.toNat) H' G' s':=by
 obtain ⟨l1,l2,l3⟩:=qnm hs h0 h1;have hrr:s.r i.toNat = true:=by rw [<- qb9 hs.2.2.2.2.2.1 h0 (by omega)]; exact hr
 obtain ⟨p1,p2,p3⟩:=hp _ (qdw hs h0 hrr);have hT:=qiH hs h0 hrr p1 hs.2.2.2.1 hs.2.2.2.2.2.2.1 (nl':=nl + nl') (dN':=dN ++ dN') (by rw [jav]; have:=hs.2.2.2.2.1; omega) (qgQ (qbd hs.2.2.2.2.2.2.2.1 hl) (qbd (qfo p3) hlT));rw [ja0 (by omega)];obtain ⟨c1,c2,c3,c4,c5,c6,c7,c8,c9⟩:=hT;have hrb:∀ b,(s.run.set i.toNat false).getD b false = true->s.r b = true/\b ≠ i.toNat:=fun b hb=>by
  rw [qmX (s:=s) (x:=false) l1 b] at hb;split at hb
  ·cases hb
  ·rename_i e; exact ⟨hb,e⟩
 refine ⟨⟨s.ms.set i.toNat (qdR (s.m i.toNat)),s.run.set i.toNat false,s.last,s.net ++ qb2 (s.m i.toNat).self (qL (s.m i.toNat).tab (s.m i.toNat).self) (qbv (qL (s.m i.toNat).tab (s.m i.toNat).self))⟩,fun n k K N h2 h16 k0 k1 hK hN h=>?_,c1,c2,by rw [qeS]; exact c3,c4,c5,by rw [qjV]; exact congrArg (fun l=>l.set i.toNat false) c6,c7,c8,qf2 c9 fun a ha=>⟨(hrb a ha).1,rfl⟩⟩;have hm:=h.mir hrr;have han:=hm.han;have hown:=hm.oke han;have hst:qaO (s.m i.toNat).tab (i.toNat:Nat) = qd (s.m i.toNat).tab i.toNat:=by simp only [qaO,jbw,qd]
 refine ⟨by simp only [ja8]; exact h.ml,by simp only [ja8]; exact h.rl,h.ll,fun a ha hra=>?_,fun v hv=>by have:=h.la v hv; omega,fun x hx=>?_,?_⟩
 ·obtain ⟨q1,q2⟩:=hrb a hra
  show MI n a (k + 1) (K + 1) ((s.ms.set i.toNat (qdR (s.m i.toNat))).getD a qc3)
  rw [qgV (s:=s) l2,jaf q2];exact (h.mi a ha q1).mono (by omega) (by omega)
 ·rcases jax.1 hx with hx | hx
  ·exact (h.xi x hx).mono (by omega)
  ·obtain ⟨g,hg,rfl⟩:=qfB.1 hx
   simp only [qbv,jbr] at hg;obtain ⟨j,hj,rfl⟩:=hg;obtain ⟨j0,j1,j2⟩:=qq7 hj;have htl:(qL (s.m i.toNat).tab (s.m i.toNat).self).length = n:=by rw [qL,ja8,hm.tl]
   have hne:j ≠ (i.toNat:Nat):=fun e=>by
    subst e;rw [qL,hm.self,jbw,hst] at j2;simp only [qd,jai] at j2;rw [jdi (by rw [hm.tl]; exact han)] at j2;simp [qcb] at j2
   refine ⟨htl,fun e he=>?_,by simp only [hm.self]; omega,by simp only [hm.self]; omega,j0,by simp only [qer]; rw [htl] at j1; exact j1,by simp only [hm.self,qer]; omega,.inr (.inl ⟨rfl,j0,by simp only [qer]; rw [htl] at j1; exact j1,by simp [qer]⟩)⟩;have he':e ∈ (s.m i.toNat).tab.set (s.m i.toNat).self.toNat ((qaO (s.m i.toNat).tab (s.m i.toNat).self).1,4):=he;rcases jbx he' with he' | rfl
   ·exact (hm.ok e he').mono (by omega)
   ·rw [hm.self,hst]
    obtain ⟨o1,o2,o3,o4,o5⟩:=hown;have:=hm.own;exact ⟨o1,by simp only; omega,by simp,by simp,by simp only; omega⟩
 ·simp only [jav,qb2,jaz,qbv]
  have h1:=qhg (qL (s.m i.toNat).tab (s.m i.toNat).self) (qL (s.m i.toNat).tab (s.m i.toNat).self).length;have h3:(qL (s.m i.toNat).tab (s.m i.toNat).self).length = n:=by rw [qL,ja8,hm.tl]
  have h4:=h.nl;simp only [qbC];omega
theorem qmx {i c:Int} (hk:qdg s) (h0:0 <= i) (h1:i < nl) (hc:(dN.length:Int) <= c):∃ (x:NM) (s1:Sw),RdT G (qU dN i 6) x.t/\x.m = ⟨qc dN i 0,qc dN i 1,qc dN i 2,qc dN i 3,qc dN i 4,qc dN i 5⟩ /\
  swP n (i + (nl - (i + 1))) dM dR dL (dN.take i.toNat ++ (dN.drop (if c = i + 1 then 0 else i + 1).toNat).take (nl - (i + 1)).toNat) H G s1/\qdN s x/\qdN s1 x/\qhn s s1/\qhn s (qa2 s1 x)/\qhn s (qa2 s x):=by
 obtain ⟨b1,b2,b3,b4,b5,b6,b7,b8,b9⟩:=id hs;obtain ⟨x,e1,e2,e3⟩:=qqv b8 h0 (by omega);have hx:=jas e1;have hsub:∀ y ∈ s.net.eraseIdx i.toNat,y ∈ s.net:=fun y hy=>jbk hy
 have hlen:(s.net.eraseIdx i.toNat).length <= s.net.length:=by rw [jcy]; split <;> omega
 have hS:∀ (n:Nat) (k K N:Int),SI n k K N s->SI n k K N { s with net:=s.net.eraseIdx i.toNat }:=fun n k K N h=>⟨h.ml,h.rl,h.ll,h.mi,h.la,fun y hy=>h.xi y (hsub y hy),by have:=h.nl; simp only; omega⟩
 refine ⟨x,{ s with net:=s.net.eraseIdx i.toNat },e2,e3,?_,?_,?_,?_,?_,?_⟩
 ·rw [qiE h0 (by omega) (by omega) hc]
  refine ⟨b1,b2,b3,b4,?_,b6,b7,qkU b8 i.toNat,b9⟩;rw [jav,jbc,jcr]; omega
 ·obtain ⟨n,k,K,N,h2,h16,k0,k1,hK,hN,h⟩:=hk
  exact ⟨n,k,K,N,h2,h16,k0,by omega,by omega,by omega,h,h.xi x hx⟩
 ·obtain ⟨n,k,K,N,h2,h16,k0,k1,hK,hN,h⟩:=hk
  exact ⟨n,k,K,N,h2,h16,k0,by omega,by omega,by omega,hS _ _ _ _ h,h.xi x hx⟩
 ·exact fun n k K N h2 h16 k0 k1 hK hN h=>(hS n k K N h).mono (by omega) (by omega) (by omega)
 ·exact fun n k K N h2 h16 k0 k1 hK hN h=>((hS n k K N h).hear h2 h16 (h.xi x hx)).mono (by omega) (by omega) (by omega)
 ·exact fun n k K N h2 h16 k0 k1 hK hN h=>(h.hear h2 h16 (h.xi x hx)).mono (by omega) (by omega) (by omega)
end
theorem qyu {n nl:Int} {dM dR dL dN:List (List Value)} {H G:Hp} {s:Sw} (hs:swP n nl dM dR dL dN H G s) (hk:qdg s) {i:Int} (h0:0 <= i) (h1:i < n) (hr:qcc dR i 0 = true) :
  isM H (qU dM i 0) (s.m i.toNat)/\callable (s.m i.toNat)/\(qaO (s.m i.toNat).tab (s.m i.toNat).self).2 ≠ 0/\(∀ d,((qas (s.m i.toNat) d).length:Int) <= 2000001)/\((qbv (qL (s.m i.toNat).tab (s.m i.toNat).self)).length:Int) <= 16/\(s.net.length:Int) <= 100000000:=by
 have hrr:s.r i.toNat = true:=by rw [<- qb9 hs.2.2.2.2.2.1 h0 (by have:=hs.2.2.1; omega)]; exact hr
 obtain ⟨n,k,K,N,h2,h16,k0,k1,hK,hN,h⟩:=hk;have hm:=h.mir hrr;refine ⟨qdw hs h0 hrr,hm.callable h2 h16 (by omega),?_,fun d=>?_,?_,by have:=h.nl; omega⟩
 ·rw [hm.self]
  have:qaO (s.m i.toNat).tab ((i.toNat:Nat):Int) = qd (s.m i.toNat).tab i.toNat:=by simp only [qaO,jbw,qd]
  rw [this,hm.own]; simp
 ·have:=qcV (s.m i.toNat) d
  have:=hm.pl;have:=hm.ck;omega
 ·have h1:=qhg (qL (s.m i.toNat).tab (s.m i.toNat).self) (qL (s.m i.toNat).tab (s.m i.toNat).self).length
  have h3:(qL (s.m i.toNat).tab (s.m i.toNat).self).length = n:=by rw [qL,ja8,hm.tl]
  simp only [qbv,jaz,qbC];omega
theorem qnr:qes.ok Try.prog:=qt8 (by simp [qrd,qmE,qo3,qne,qvI]) fun Z hg hp=>by
 obtain ⟨⟨s0,hs0,hk0⟩,h1,h2⟩:=hp;simp only [qb8,jbb] at hs0;simp (config:={ maxSteps:=4000000 }) [qoN,qes,qiv,qej,qeV,qeh,qmz,qb8,qa1];obtain ⟨a1,a2,a3,a4,a5,a6,a7,a8,a9⟩:=id hs0;have n16:2 <= s0.ms.length/\s0.ms.length <= 16/\(s0.net.length:Int) <= 100000000:=by
  obtain ⟨n,k,K,N,h2,h16,_,_,_,hN,hs⟩:=id hk0;exact ⟨by rw [hs.ml]; exact h2,by rw [hs.ml]; exact h16,by have:=hs.nl; omega⟩
 have hnl:=a8.1;intro u _;refine ⟨by omega,⟨by omega,by omega⟩,?_⟩;intro i _ i0 i1;have hinc:∀ s,swP (Z 2).i (Z 12).i (Z 4).d (Z 7).d (Z 10).d (Z 14).d (Z 15).h (Z 16).h s->qdg s->qi .add .u64 (qc (Z 10).d i.i 0) 1 = qc (Z 10).d i.i 0 + 1/\0 <= qc (Z 10).d i.i 0/\∀ (n:Nat) (k K N:Int),SI n k K N s->qc (Z 10).d i.i 0 <= K:=fun s hs hk=>by
  have hmem:=quY hs.2.2.2.2.2.2.1 i0 (by omega);obtain ⟨n,k,K,N,_,_,_,_,hK,_,h⟩:=hk;have hv:=h.la _ hmem;exact ⟨qbB (by omega) (by omega),hv.1,fun n k K N h=>(h.la _ hmem).2⟩
 obtain ⟨hi1,hi2,_⟩:=hinc s0 hs0 hk0;have hC:=fun hr=>qyu hs0 hk0 i0 i1 hr
 have hNumT:∀ {H' T:Hp} {nl':Int} {dN':List (List Value)},(∀ m:Mach,isM (Z 15).h (qU (Z 4).d i.i 0) m->qck (Z 15).h H' (qU (Z 4).d i.i 0) (qn m (Z 20).i)/\nl' = dN'.length/\qa6 T (qas m (Z 20).i) m.self (qn m (Z 20).i).tab (qas m (Z 20).i).length dN')->qcc (Z 7).d i.i 0 = true->0 <= nl'/\nl' <= dN'.length/\352 * ((Z 12).i + nl') <= 140737488355328:=fun hp hr=>by
  obtain ⟨c1,_,_,c4,_,c6⟩:=hC hr;obtain ⟨_,p2,p3⟩:=hp _ c1;have:=qbR p3;have:=c4 (Z 20).i;exact ⟨by omega,by omega,by omega⟩
 have hNumL:∀ {H' T:Hp} {nl':Int} {dN':List (List Value)},(∀ m:Mach,isM (Z 15).h (qU (Z 4).d i.i 0) m->qck (Z 15).h H' (qU (Z 4).d i.i 0) (qdR m)/\nl' = dN'.length/\qa6 T (qbv (qL m.tab m.self)) m.self (qL m.tab m.self) (qbv (qL m.tab m.self)).length dN')->qcc (Z 7).d i.i 0 = true->0 <= nl'/\nl' <= dN'.length/\352 * ((Z 12).i + nl') <= 140737488355328:=fun hp hr=>by
  obtain ⟨c1,_,_,_,c5,c6⟩:=hC hr;obtain ⟨_,p2,p3⟩:=hp _ c1;have:=qbR p3;exact ⟨by omega,by omega,by omega⟩
 refine ⟨fun hk2=>⟨fun hk4=>?_,fun hk4=>?_⟩,fun hk2=>?_⟩
 ·refine ⟨by omega,fun h0 u1 _ hst s hs hk=>?_,fun hne=>⟨⟨by omega,by omega⟩,fun j _ j0 j1=>⟨j0,j1,by omega,fun u3 _=>⟨fun k4 hcap=>?_,fun k4=>⟨fun k3=>by omega,fun k3=>⟨?_,?_⟩⟩⟩⟩⟩⟩
  ·have hle:=qaH 16 2 hst (by simp)
   simp at hle;exact qvG hs hle
  ·have hA:qi .add .i64 j.i 1 = j.i + 1:=qQ (by omega) (by omega)
   rw [hA];refine ⟨by omega,by omega,by omega,by omega,by omega,fun u4 _=>⟨by omega,by omega,fun u5 _ u6 _=>⟨by omega,by split <;> omega,by omega,by split <;> omega,by omega,fun u7 _ u8 _=>⟨fun k3 u9 _ hst s hs hk=>?_,fun k3=>⟨?_,?_⟩⟩⟩⟩⟩
   ·have hle:=qaH 16 2 hst (by simp)
    simp at hle;obtain ⟨x,s1,_,_,w1,_,_,w2,_⟩:=qmx hs hk j0 j1 hcap;exact ⟨s1,w2,qcr w1 hle⟩
   ·obtain ⟨⟨g,t⟩,s1,r,e,w1,_,w4,_⟩:=qmx hs0 hk0 j0 j1 hcap
    simp only at e r;subst e;exact ⟨s1,w1,t,r,w4⟩
   ·intro v1 _ v2 _ v3 _ v4 _ v5 _ v6 _ v7 _ hleH hpost v8 _ hst s hs hk
    have hle:=qaH 36 2 hst (by simp);simp at hle;obtain ⟨⟨g,t⟩,s1,r,e,w1,_,w4,_,w5,_⟩:=qmx hs hk j0 j1 hcap;simp only at e r;subst e;exact ⟨_,w5,qcr (hpost s1 t w1 r w4) hle⟩
  ·obtain ⟨⟨g,t⟩,s1,r,e,_,w4,_,_,_,_⟩:=qmx hs0 hk0 j0 j1 (c:=(Z 14).d.length) (by omega)
   simp only at e r;subst e;exact ⟨s0,hs0,t,r,w4⟩
  ·intro v1 _ v2 _ v3 _ v4 _ v5 _ v6 _ v7 _ hleH hpost v8 _ hst s hs hk
   have hle:=qaH 31 2 hst (by simp);simp at hle;obtain ⟨⟨g,t⟩,s1,r,e,_,w4,_,_,_,w5⟩:=qmx hs hk j0 j1 (c:=(Z 14).d.length) (by omega);simp only at e r;subst e;exact ⟨_,w5,qcr (hpost s t hs r w4) hle⟩
 all_goals
  repeat' (first | with_reducible apply And.intro | with_reducible intro _)
  all_goals try omega
 all_goals
  first
  | exact ⟨s0,hs0⟩
  | exact ⟨_,(hC (by assumption)).1,(hC (by assumption)).2.1⟩
  | exact ⟨_,(hC (by assumption)).1,(hC (by assumption)).2.1,(hC (by assumption)).2.2.1⟩
  | exact (hNumT (by assumption) (by assumption)).1
  | exact (hNumT (by assumption) (by assumption)).2.1
  | exact (hNumT (by assumption) (by assumption)).2.2
  | exact (hNumL (by assumption) (by assumption)).1
  | exact (hNumL (by assumption) (by assumption)).2.1
  | exact (hNumL (by assumption) (by assumption)).2.2
  | skip
 all_goals
  have hle:=qaH 16 2 (by assumption) (by simp);simp at hle
  first
  | exact qvG (by assumption) hle
  | exact qyL (by assumption) hle i0 i1
  | exact qsz (inc:=1) (by assumption) hle i0 i1 (by omega) (fun n k K N h hK=>by omega) (by assumption) (by assumption)
  | exact qsz (inc:=qi .add .u64 (qc (Z 10).d i.i 0) 1) (by assumption) hle i0 i1 (by omega) (fun n k K N h hK=>by have:=(hinc _ (by assumption) (by assumption)).2.2 n k K N h; omega) (by assumption) (by assumption)
  | skip
 all_goals
  have hle2:=qaH 27 2 (by assumption) (by simp);simp at hle2
  first
  | exact qzc (by assumption) hle hle2 i0 i1 (by assumption) h1 (by assumption) (by assumption)
  | exact qyC (by assumption) hle hle2 i0 i1 (by assumption) (by assumption)
set_option maxHeartbeats 4000000
set_option pp.deepTerms true
set_option pp.maxSteps 1000000
theorem qxl {n:Nat} (h2:2 <= n) (h16:n <= 16) {s e:Sw} {old:List NM} (hd:Drain s old e):∀ (k K N:Int),SI n k K N s->(∀ x ∈ old,XI n K x)->SI n k (K + old.length) (N + old.length) e:=by
 induction hd with
 | nil s=>intro k K N h _; exact h.mono (by omega) (by simp) (by simp)
 | cons s old i s' hi hd ih =>
  intro k K N h hx;have hxi:=hx _ (jbu hi);have:=ih k (K + 1) (N + 1) (h.hear h2 h16 hxi) (fun y hy=>(hx y (jbk hy)).mono (by omega));rw [jcy,jag hi] at this;exact this.mono (by omega) (by omega) (by omega)
theorem qqi {n:Nat} (h2:2 <= n) (h6:n <= 6) {s s':Sw} {k K N d:Int} (h:SI n k K N s) (hk0:0 <= k) (hk:k <= 600) (hd:0 <= d) (hR:qeN d s s'):SI n (k + 1) (K + N) (N + 10000) s':=by
 have ht:=h.ticks h2 (by omega) (by omega) hk0 hd;rw [qeN,h.ml] at hR;have:=qxl h2 (by omega) hR (k + 1) K _ ht h.xi;have hn:=h.nl;have hm:(n:Int) * (2 * k + 1) <= 6 * (2 * k + 1):=jcx (by omega) (by omega);exact this.mono (by omega) (by omega) (by omega)
theorem qgD {p t:Int} {st:Nat->Sw} (h:trS p t st) (h2:2 <= p) (h6:p <= 6) (ht:t <= 300):qdg (st t.toNat):=by
 obtain ⟨n,hn,h0,hT,hs⟩:=h;exact ⟨n,_,_,_,by omega,by omega,by omega,by omega,by omega,by omega,hs⟩
theorem qi7 {p t d:Int} {st:Nat->Sw} (h:trS p t st) (h2:2 <= p) (h6:p <= 6) (ht:t <= 300) (hd:0 <= d) {s':Sw} (hR:qeN d (st t.toNat) s'):∃ st',trS p (t + 1) st'/\st' (t + 1).toNat = s'/\∀ j,j <= t.toNat->st' j = st j:=by
 obtain ⟨n,hn,h0,hT,hs⟩:=h;have ht1:(t + 1).toNat = t.toNat + 1:=by omega
 refine ⟨fun j=>if j <= t.toNat then st j else s',⟨n,hn,by omega,?_,?_⟩,?_,fun j hj=>jag hj⟩
 ·rw [ht1]
  refine ⟨hT.h2,hT.h16,fun j hj=>?_,fun j hj=>?_⟩
  ·by_cases hc:j <= t.toNat
   ·rw [jag hc]; exact hT.si j hc
   ·rw [jaf hc]
    exact ⟨_,_,_,by omega,by omega,qqi (by omega) (by omega) hs (by omega) (by omega) hd hR⟩
  ·by_cases hc:j < t.toNat
   ·rw [jag (by omega),jag (by omega)]; exact hT.rd j hc
   ·rw [jag (by omega),jaf (by omega),show j = t.toNat by omega]
    exact ⟨d,hd,hR⟩
 ·rw [ht1]
  show SI n _ _ _ (if t.toNat + 1 <= t.toNat then st (t.toNat + 1) else s')
  rw [jaf (by omega)];exact (qqi (by omega) (by omega) hs (by omega) (by omega) hd hR).mono (by omega) (by omega) (by omega)
 ·rw [ht1]
  exact jaf (by omega)
theorem qpa {p:Int} {s:Sw} {n:Nat} {k K N:Int} (hn:(n:Int) = p) (h2:2 <= p) (h6:p <= 6) (h:SI n k K N s) (hk:k <= 200) (hK:K <= 1000) (hN:N <= 100000) (hk0:0 <= k):trS p 0 (fun _=>s):=by
 have hs:SI n (200 + 0) (1000 + 10000000 * 0) (100000 + 10000 * 0) s:=h.mono (by omega) (by omega) (by omega);exact ⟨n,hn,by omega,⟨by omega,by omega,fun t _=>⟨_,_,_,by omega,by omega,hs⟩,fun t ht=>by simp at ht⟩,hs⟩
theorem qf5 {s:Sw} (h:qdg s):wfW s:=by
 obtain ⟨n,k,K,N,h2,h16,_,_,_,_,hs⟩:=h;exact ⟨by rw [hs.ml]; exact h16,fun p hr=>⟨(hs.mir hr).wf h2 h16,by rw [hs.ml]; exact (hs.mir hr).tl⟩⟩
theorem qpn {p t:Int} {st:Nat->Sw} (h:trS p t st) (ht:30 + 6 * p <= t) (h0:0 <= p):qmr (st t.toNat)/\∀ k,k <= (p.toNat)->qdn (st t.toNat) k = qdn (st (30 + 6 * p).toNat) k:=by
 obtain ⟨n,hn,_,hT,hs⟩:=h;have hr:=hT.run t.toNat (jbj _);have hr':=hT.run (30 + 6 * p).toNat (by omega);have key:∀ q y,(st 0).r q = true->y < n->qcb ((st t.toNat).e q y).2 = (st 0).r y/\(st t.toNat).e q y = (st (30 + 6 * n)).e q y:=fun q y hq hy=>hT.right hq hy (by omega) (jbj _)
 refine ⟨fun q y hq hy=>?_,fun k hk=>?_⟩
 ·rw [hr] at hq
  rw [(key q y hq (by rw [<- hs.ml]; exact hy)).1,hr]
 ·have he:(30 + 6 * p).toNat = 30 + 6 * n:=by omega
  rw [he] at hr' ⊢;have hf:(st t.toNat).r = (st (30 + 6 * n)).r:=by funext q; rw [hr,hr']
  have hk':k <= n:=by omega
  clear hk
  induction k with
  | zero=>rfl
  | succ k ih =>
   rw [qe8,qe8,ih (by omega),hf];split
   ·rename_i hrk
    congr 2
    have hq:(st 0).r k = true:=by rw [<- hr']; exact hrk
    obtain ⟨k1,K1,_,_,m1⟩:=hT.mi (t:=t.toNat) (jbj _) hq;obtain ⟨k2,K2,_,_,m2⟩:=hT.mi (t:=30 + 6 * n) (by omega) hq;apply jbo;intro y;by_cases hy:y < n
    ·have e:=(key k y hq hy).2
     rw [qcA (by rw [m1.tl]; exact hy),qcA (by rw [m2.tl]; exact hy)];exact congrArg some e
    ·rw [jap (by rw [m1.tl]; omega),jap (by rw [m2.tl]; omega)]
   ·rfl
theorem qhN {p t:Int} {st:Nat->Sw} (h:trS p t st):(st t.toNat).ms.length = p.toNat:=by
 obtain ⟨n,hn,_,_,hs⟩:=h;rw [hs.ml]; omega
theorem qo7 {s:Sw} (h:wfW s):∀ k:Nat,(qdn s k).length <= k/\∀ t ∈ qdn s k,t.length <= 16
 | 0=>⟨by simp [qdn],by simp [qdn]⟩
 | k + 1=>by
  obtain ⟨i1,i2⟩:=qo7 h k;rw [qe8];split
  ·rename_i hr
   refine ⟨by rw [jav,jd4]; omega,fun t ht=>?_⟩;rcases jax.1 ht with ht | ht
   ·exact i2 t ht
   ·rw [jak.1 ht,(h.2 k hr).2]; exact h.1
  ·exact ⟨by omega,i2⟩
def qbu (n:Nat):Sw:=⟨List.replicate n qc3,List.replicate n false,List.replicate n 0,[]⟩
theorem qnJ (n a:Nat):(qbu n).r a = false:=by
 simp only [Sw.r,qbu,jai,jc3];split <;> rfl
theorem qwu (n:Nat):SI n 0 1 0 (qbu n):=by
 refine ⟨by simp [qbu],by simp [qbu],by simp [qbu],fun a _ hr=>absurd hr (by rw [qnJ]; simp),fun v hv=>?_,fun x hx=>absurd hx (by simp [qbu]),by simp [qbu]⟩;have:=jde hv;omega
theorem qnP {n:Int} {dM:List (List Value)} {H G:Hp} (h0:0 <= n) (hM:dM.length = n.toNat):swP n 0 dM (List.replicate n.toNat [.bool false]) (List.replicate n.toNat [.int .u64 0]) [] H G (qbu n.toNat):=by
 refine ⟨by simp [qbu]; omega,by omega,by simp; omega,by simp; omega,rfl,?_,?_,qo0 _,fun _=>Hp.emp,fun _ _ _=>Hp.emp_disj _,fun _ b o h=>by simp [Hp.emp] at h,fun a ha=>by rw [qnJ] at ha; cases ha⟩
 ·simp [qdF,qbu,qq9,qig]
 ·simp [qf,qbu,qbO,qbK]
theorem qo6 (n:Int) (h0:0 <= n):evS n 0 (qbu n.toNat):=⟨n.toNat,by omega,by simpa using qwu n.toNat⟩
theorem qrq {p i:Int} {s s':Sw} (h:evS p i s) (h2:2 <= p) (h6:p <= 6) (i0:0 <= i) (i1:i < 200) (he:qhn s s'):evS p (i + 1) s':=by
 obtain ⟨n,hn,hs⟩:=h;exact ⟨n,hn,(he n _ _ _ (by omega) (by omega) i0 (by omega) (by omega) (by omega) hs).mono (by omega) (by omega) (by omega)⟩
theorem qmO {p i:Int} {s:Sw} (h:evS p i s) (h2:2 <= p) (h6:p <= 6) (i0:0 <= i) (i1:i <= 200):qdg s:=by
 obtain ⟨n,hn,hs⟩:=h;exact ⟨n,_,_,_,by omega,by omega,i0,by omega,by omega,by omega,hs⟩
theorem qs4 {p i:Int} {s:Sw} (h:evS p i s) (h2:2 <= p) (h6:p <= 6) (i0:0 <= i) (i1:i <= 200):trS p 0 (fun _=>s):=by
 obtain ⟨n,hn,hs⟩:=h;exact qpa hn h2 h6 hs i1 (by omega) (by omega) i0
theorem qlB {p e o:Int} (h:qnn p e o = false):qhi p e o:=by
 simp [qnn] at h;unfold qhi; omega
end Go.Proofs
