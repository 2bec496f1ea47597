/- Texts QH, QJ, QK, QL, RG, RM, RL, RN, RO, RS, RT. -/
import Derived.Test.YtelcnkclppkicaaGreatDoorG8
import Derived.Test.YtelcnkclppkicaaGreatDoorG7
import Derived.Test.YtelcnkclppkicaaGreatDoorG5
import Derived.Test.YtelcnkclppkicaaGreatDoorProg
import Derived.Shelf.Sort.Plain
import Derived.Shelf.Slices.In.SortNone
import Derived.Ground.Names2Prog
set_option linter.unusedSimpArgs false
set_option linter.unusedVariables false
namespace Go.Proofs
open Go Go.Eng
set_option maxRecDepth 20000
theorem q2H:qdR.ok Tryz.prog:=q2p (by simp) fun ρ hg hp=>by
 simp (config:={ maxSteps:=4000000 }) [qpN,qdR]
theorem q0v:qd1.ok Tryz.prog:=q0g (by simp) fun ρ hg hp=>by
 obtain ⟨h0,hl,h1⟩:=hp
 simp (config:={ maxSteps:=4000000 }) [qnL,qd1,hl]
 exact ⟨fun h _=>h,fun _=>by omega⟩
section
variable {h:Hp} {r:Option Addr} {d P:qf} {c n:Int} {M M':Option ManV} {L L':PcL}
theorem q3j (h1:qo6 h P L) (h2:qo6 h P L'):L = L':=by
 refine List.ext_getElem? fun j=>?_
 by_cases hj:j < P.length
 ·have e:=(h1.2.2 j hj).symm.trans (h2.2.2 j hj)
  rw [List.getD_eq_getElem?_getD,List.getD_eq_getElem?_getD,List.getElem?_eq_getElem (by have:=h1.1; omega),List.getElem?_eq_getElem (by have:=h2.1; omega)] at e
  rw [List.getElem?_eq_getElem (by have:=h1.1; omega),List.getElem?_eq_getElem (by have:=h2.1; omega)]
  exact congrArg some e
 ·rw [List.getElem?_eq_none (by have:=h1.1; omega),List.getElem?_eq_none (by have:=h2.1; omega)]
theorem q3k {m m':ManV} (h1:qic h d m) (h2:qic h d m'):m = m':=by
 obtain ⟨row,D,e,hf,hr,hD,a1,a2,a3,a4,a5,a6,_,_⟩:=h1
 obtain ⟨row',D',e',hf',hr',hD',b1,b2,b3,b4,b5,b6,_,_⟩:=h2
 rw [e] at e'
 simp only [List.cons.injEq,and_true] at e'
 subst e'
 obtain rfl:=qr3 hr hr'
 obtain ⟨k,n,t,s,o,D1⟩:=m
 obtain ⟨k',n',t',s',o',D1'⟩:=m'
 simp only at a1 a2 a3 a4 a5 a6 b1 b2 b3 b4 b5 b6
 simp only [ManV.mk.injEq]
 exact ⟨by rw [<- a2,<- b2],by rw [<- a3,<- b3],by rw [<- a4,<- b4],by rw [<- a5,<- b5],by rw [<- a6,<- b6],by rw [<- a1,<- b1]⟩
theorem qqc (h1:qbR h r d c n P M L) (h2:qbR h r d c n P M' L'):M' = M/\L' = L:=by
 obtain ⟨_,p1,_,_,q1⟩:=h1
 obtain ⟨_,p2,_,_,q2⟩:=h2
 refine ⟨?_,(q3j p1 p2).symm⟩
 rcases q1 with ⟨rfl,_,c0,_⟩ | ⟨m,rfl,c1,hm,_⟩ <;> rcases q2 with ⟨rfl,_,c0',_⟩ | ⟨m',rfl,c1',hm',_⟩
 ·rfl
 ·omega
 ·omega
 ·rw [q3k hm hm']
theorem q62 (h1:qbR h r d c n P M L):qhf P P.length = L.map Prod.fst:=by
 obtain ⟨_,p1,_⟩:=h1
 refine List.ext_getElem? fun j=>?_
 by_cases hj:j < P.length
 ·have e:=congrArg Prod.fst (p1.2.2 j hj)
  rw [List.getD_eq_getElem?_getD,List.getElem?_eq_getElem (by have:=p1.1; omega)] at e
  rw [qhf,List.getElem?_map,List.getElem?_range hj,List.getElem?_map,List.getElem?_eq_getElem (by have:=p1.1; omega)]
  exact congrArg some e
 ·rw [List.getElem?_eq_none (by simp [qhf]; omega),List.getElem?_eq_none (by rw [List.length_map]; have:=p1.1; omega)]
theorem q4y {i:Nat}:qhf P (i + 1) = qhf P i ++ [pcI P i]:=by
 unfold qhf
 rw [List.range_succ,List.map_append]; rfl
end
theorem qtw:qci.ok Tryz.prog:=q22 (by simp) fun ρ hg hp=>by
 obtain ⟨M,L,h⟩:=hp
 simp (config:={ maxSteps:=4000000 }) [qpG,qci,gaB]
 have h0:qbR (ρ 9).h (ρ 2).r (ρ 3).d (ρ 4).i (ρ 6).i (ρ 8).d M L:=h
 obtain ⟨hn,hp,_,_,hc⟩:=h
 rcases hc with ⟨rfl,hr,c0,hd,hL⟩ | ⟨m,rfl,c1,hm,hL⟩
 ·refine ⟨fun hcon=>?_,fun _ _ M' L' h'=>?_⟩
  ·rw [hd,hr] at hcon; simp at hcon
  ·obtain ⟨rfl,rfl⟩:=qqc h0 h'; rfl
 ·obtain ⟨row,D,e,hf,hrd,hD,a1,a2,_⟩:=hm
  have e:(ρ 3).d = [row]:=e
  refine ⟨fun _=>⟨by have hn':(ρ 6).i = ((ρ 8).d.length:Int):=hn; omega,by rw [e]; exact Nat.one_pos,fun M' L' h'=>?_⟩,fun hd _=>by rw [e] at hd; cases hd⟩
  obtain ⟨rfl,rfl⟩:=qqc h0 h'
  have hk:qi (ρ 3).d 0 0 = m.k:=by rw [<- a2,e]; rfl
  have hn':(ρ 6).i = ((ρ 8).d.length:Int):=hn
  have hp1:(ρ 8).d.length = L'.length:=hp.1
  rw [hk,hn',hp1]; rfl
theorem qwT:qdh.ok Tryz.prog:=q5u (by simp) fun ρ hg hp=>by
 obtain ⟨M,L,h⟩:=hp
 have h0:qbR (ρ 9).h (ρ 2).r (ρ 3).d (ρ 4).i (ρ 6).i (ρ 8).d M L:=h
 obtain ⟨hn,hp,_,h255,hc⟩:=h
 have hpl:=hp.1
 simp (config:={ maxSteps:=4000000 }) [qta,qdh,qxE,qaO,gaB]
 have hn:(ρ 6).i = ((ρ 8).d.length:Int):=hn
 have hpl:(ρ 8).d.length = L.length:=hpl
 refine ⟨by omega,⟨by omega,rfl⟩,fun a _ D _ i _ i0 i1 ha hD hr=>⟨fun hi=>?_,fun hi M' L' h'=>?_⟩⟩
 ·have hDl:D.d.length = i.i.toNat:=by
   have:=congrArg List.length hD
   rw [qcL] at this
   simpa [qhf] using this
  have hnx:(qc .add .i64 i.i 1).toNat = i.i.toNat + 1:=by rw [qfa i0 (by omega)]; omega
  refine ⟨i0,by omega,ha,by omega,⟨by rw [qfa i0 (by omega)]; omega,by rw [qfa i0 (by omega)]; omega,ha,?_,fun row h=>qqK h hr⟩,by rw [qfa i0 (by omega)]; omega⟩
  rw [hnx,q4y,qlb,hD]
  unfold pcI
  rw [Int.toNat_of_nonneg i0]
 ·obtain ⟨rfl,rfl⟩:=qqc h0 h'
  refine ⟨ha,?_,hr⟩
  rw [hD,<- q62 h0,show i.i.toNat = (ρ 8).d.length by omega]
section
variable {h h':Hp} {r:Option Addr} {d P:qf} {c n e i:Int} {M:Option ManV} {L:PcL} {o b:List Int} {m:ManV}
theorem q4x (h1:qo6 h P L) (hl:Hp.le h h'):qo6 h' P L:=by
 refine ⟨h1.1,fun j hj=>?_,fun j hj=>?_⟩
 ·obtain ⟨i,v,d,e1,e2,e3⟩:=h1.2.1 j hj
  exact ⟨i,v,d,e1,qjg e2 hl,e3⟩
 ·rw [<- h1.2.2 j hj]
  obtain ⟨i,v,d,e1,e2,e3⟩:=h1.2.1 j hj
  have hv:qal P j 1 = v:=by simp only [qal,Int.toNat_natCast,e1,Option.getD_some]; rfl
  unfold pcD
  rw [hv,qju e2,qju (qjg e2 hl)]
theorem q4g (h1:qic h d m) (hl:Hp.le h h'):qic h' d m:=by
 obtain ⟨row,D,e,hf,hr,hx⟩:=h1
 exact ⟨row,D,e,hf,qjg hr hl,hx⟩
theorem qq3 (h1:qbR h r d c n P M L) (hl:Hp.le h h'):qbR h' r d c n P M L:=by
 obtain ⟨a1,a2,a3,a4,a5⟩:=h1
 refine ⟨a1,q4x a2 hl,a3,a4,?_⟩
 rcases a5 with a5 | ⟨m,b1,b3,b4,b5⟩
 ·exact .inl a5
 ·exact .inr ⟨m,b1,b3,q4g b4 hl,b5⟩
theorem q6P (h1:qbR h r d c n P M L) (hl:Hp.le h h') (hne:¬ e = 0):qbR h' r d c n P (if e = 0 then some m else M) (if e = 0 then L ++ [(i,b)] else L):=by
 rw [if_neg hne,if_neg hne]; exact qq3 h1 hl
section
variable {k n' t s l u:Int} {O R S z:List Int} {D J:qf} {x y:Bool}
theorem qiZ (hl:l = (D.length:Int)):ManV.ok ⟨k,n',t,s,O,dgs D⟩ = qG k n' t s l:=by
 unfold ManV.ok
 rw [hl]; simp [dgs]
theorem q7F (hl:l = (D.length:Int)) (hid:(qG k n' t s l = false/\e = 2/\R = z)∨(qG k n' t s l = true/\e = 0/\R = S)) (hne:¬ e = 0):e = qgb o M L ⟨k,n',t,s,O,dgs D⟩ i b:=by
 rcases hid with ⟨h1,h2,_⟩ | ⟨_,h2,_⟩
 ·unfold qgb; rw [qiZ hl,if_pos h1,h2]
 ·exact absurd h2 hne
theorem qom (hid:(qG k n' t s l = false/\e = 2/\R = z)∨(qG k n' t s l = true/\e = 0/\R = S)) (he:e = 0):qG k n' t s l = true/\R = S:=by
 rcases hid with ⟨_,h2,_⟩ | ⟨h1,_,h3⟩
 ·omega
 ·exact ⟨h1,h3⟩
theorem q61 (hl:l = (D.length:Int)) (hid:(qG k n' t s l = false/\e = 2/\R = z)∨(qG k n' t s l = true/\e = 0/\R = sha (qaF k n' t s O ++ (dgs D).flatten))) (he:e = 0) (hR:¬ R = o):20 = qgb o M L ⟨k,n',t,s,O,dgs D⟩ i b:=by
 obtain ⟨h1,h2⟩:=qom hid he
 unfold qgb
 rw [qiZ hl,if_neg (by rw [h1]; simp),if_pos (by show sha (qaF k n' t s O ++ (dgs D).flatten) ≠ o; rw [<- h2]; exact hR)]
theorem q7J (hl:l = (D.length:Int)) (hid:(qG k n' t s l = false/\e = 2/\R = z)∨(qG k n' t s l = true/\e = 0/\R = sha (qaF k n' t s O ++ (dgs D).flatten))) (he:e = 0) (hR:R = o) (hc:u = qcm k n' t s l (dgs D) i b) (hne:¬ u = 0):u = qgb o M L ⟨k,n',t,s,O,dgs D⟩ i b:=by
 obtain ⟨h1,h2⟩:=qom hid he
 have hl':(((dgs D).length:Nat):Int) = l:=by rw [hl]; simp [dgs]
 unfold qgb
 simp only [hl']
 rw [qiZ hl,if_neg (by rw [h1]; simp),if_neg (fun h=>h (by rw [<- hR,h2]; rfl)),if_pos (by rw [<- hc]; exact hne),hc]
theorem qtt (hl:l = (D.length:Int)) (hid:(qG k n' t s l = false/\e = 2/\R = z)∨(qG k n' t s l = true/\e = 0/\R = sha (qaF k n' t s O ++ (dgs D).flatten))) (he:e = 0) (hR:R = o) (hc:u = qcm k n' t s l (dgs D) i b) (hu:u = 0):qgb o M L ⟨k,n',t,s,O,dgs D⟩ i b = if i ∈ L.map Prod.fst then 7 else if qgR M L then 8 else 0:=by
 obtain ⟨h1,h2⟩:=qom hid he
 have hl':(((dgs D).length:Nat):Int) = l:=by rw [hl]; simp [dgs]
 unfold qgb
 simp only [hl']
 rw [qiZ hl,if_neg (by rw [h1]; simp),if_neg (fun h=>h (by rw [<- hR,h2]; rfl)),if_neg (by rw [<- hc,hu]; simp)]
theorem qnI (hq:∀ (M:Option ManV) (L:PcL),qbR h r d c n P M L->u = (J.length:Int)/\qn J = L.map Prod.fst/\∀ row,row ∈ J->row.length = 1) (h1:qbR h r d c n P M L):u = (J.length:Int)/\u <= 1000/\qn J = L.map Prod.fst/\∀ row,row ∈ J->row.length = 1:=by
 obtain ⟨a,b,e⟩:=hq M L h1
 refine ⟨a,?_,b,e⟩
 have h2:=congrArg List.length b
 rw [qcL,List.length_map] at h2
 have:=h1.2.2.2.1
 omega
theorem q71 (hl:l = (D.length:Int)) (hid:(qG k n' t s l = false/\e = 2/\R = z)∨(qG k n' t s l = true/\e = 0/\R = sha (qaF k n' t s O ++ (dgs D).flatten))) (he:e = 0) (hR:R = o) (hc:u = qcm k n' t s l (dgs D) i b) (hu:u = 0) {u':Int}
  (hq:∀ (M:Option ManV) (L:PcL),qbR h r d c n P M L->u' = (J.length:Int)/\qn J = L.map Prod.fst/\∀ row,row ∈ J->row.length = 1) (h1:qbR h r d c n P M L) (hx:x = decide (i ∈ qn J)) (ht:x = true):7 = qgb o M L ⟨k,n',t,s,O,dgs D⟩ i b:=by
 rw [qtt hl hid he hR hc hu,if_pos]
 rw [<- (hq M L h1).2.1]; exact q72 hx ht
theorem q7I (hl:l = (D.length:Int)) (hid:(qG k n' t s l = false/\e = 2/\R = z)∨(qG k n' t s l = true/\e = 0/\R = sha (qaF k n' t s O ++ (dgs D).flatten))) (he:e = 0) (hR:R = o) (hc:u = qcm k n' t s l (dgs D) i b) (hu:u = 0) {u':Int}
  (hq:∀ (M:Option ManV) (L:PcL),qbR h r d c n P M L->u' = (J.length:Int)/\qn J = L.map Prod.fst/\∀ row,row ∈ J->row.length = 1) (h1:qbR h r d c n P M L) (hx:x = decide (i ∈ qn J)) (ht:x = false) (hr:∀ (M:Option ManV) (L:PcL),qbR h r d c n P M L->y = qgR M L):qgb o M L ⟨k,n',t,s,O,dgs D⟩ i b = if y then 8 else 0:=by
 rw [qtt hl hid he hR hc hu,if_neg,<- hr M L h1]
 rw [<- (hq M L h1).2.1]; exact qyp hx ht
theorem q5k {v:Value} (hv:v.oneCell' = true) (hRd:Rd h k32 v D) (hD:qfA D) (hO:qT (qd J 32)) (hok:qG k n' t s l = true) (hl:l = (D.length:Int)) :
  qic h [[Value.int .i64 k,Value.int .i64 n',Value.int .i64 t,Value.int .i64 s] ++ ((qd J 32).map (Value.int .u8) ++ [v])] ⟨k,n',t,s,qd J 32,dgs D⟩:=by
 refine ⟨_,D,rfl,⟨by simp [qva,qd],fun c kk w hk hw=>?_⟩,hRd,hD,rfl,rfl,rfl,rfl,rfl,rfl,hO,by rw [qiZ hl]; exact hok⟩
 unfold qva at hk
 rcases Nat.lt_or_ge c 4 with h4 | h4
 ·rw [List.getElem?_append_left (by simpa using h4),List.getElem?_replicate,if_pos h4] at hk
  rw [List.getElem?_append_left (by simpa using h4)] at hw
  obtain rfl:=(Option.some.inj hk).symm
  match c,h4 with
  | 0,_=>obtain rfl:=(Option.some.inj hw).symm; rfl
  | 1,_=>obtain rfl:=(Option.some.inj hw).symm; rfl
  | 2,_=>obtain rfl:=(Option.some.inj hw).symm; rfl
  | 3,_=>obtain rfl:=(Option.some.inj hw).symm; rfl
 ·rw [List.getElem?_append_right (by simpa using h4)] at hk
  rw [List.getElem?_append_right (by simpa using h4)] at hw
  simp only [List.length_replicate,List.length_cons,List.length_nil] at hk hw
  rcases Nat.lt_or_ge (c - 4) 32 with h5 | h5
  ·rw [List.getElem?_append_left (by simpa using h5),List.getElem?_replicate,if_pos h5] at hk
   rw [List.getElem?_append_left (by simp [qd]; omega),List.getElem?_map] at hw
   obtain rfl:=(Option.some.inj hk).symm
   obtain ⟨q,_,rfl⟩:=Option.map_eq_some_iff.1 hw
   rfl
  ·rw [List.getElem?_append_right (by simpa using h5)] at hk
   rw [List.getElem?_append_right (by simp [qd]; omega)] at hw
   simp only [List.length_replicate,List.length_map] at hk hw
   rw [show (qd J 32).length = 32 by simp [qd]] at hw
   match hc:c - 4 - 32,hk with
   | 0,hk =>
    rw [hc] at hw
    obtain rfl:=(Option.some.inj hk).symm
    obtain rfl:=(Option.some.inj hw).symm
    unfold CK.fits; exact hv
   | q + 1,hk=>simp at hk
theorem q64 {v:Value} {B d':qf} {r':Option Addr} {m:ManV} (h1:qbR h r d c n P M L) (hl:Hp.le h h') (hRd:Rd h' kB v B) (hB:q9 B) (hb9:(B.length:Int) <= 9000) (hm:qic h' d' m) (hy:qgR M L = false):qbR h' r' d' 1 (n + 1) (P ++ [[.int .i64 i,v]]) (some m) (L ++ [(i,bI B)]):=by
 have h2:=qq3 h1 hl
 obtain ⟨a1,a2,a3,a4,a5⟩:=h2
 have hlen:L.length < 255:=by
  rcases a5 with ⟨_,_,_,_,rfl⟩ | ⟨m0,rfl,_,hm0,_⟩
  ·decide
  ·obtain ⟨_,_,_,_,_,_,_,_,_,_,_,_,_,hok⟩:=hm0
   unfold qgR at hy
   have hk:=of_decide_eq_false hy
   have hk2:m0.k <= 255:=by
    unfold ManV.ok qG qbi at hok
    simp at hok
    omega
   omega
 have hPl:=a2.1
 refine ⟨by rw [List.length_append,List.length_singleton]; omega,⟨by rw [List.length_append,List.length_append,hPl]; rfl,fun j hj=>?_,fun j hj=>?_⟩,fun x hx=>?_,by rw [List.length_append,List.length_singleton]; omega,.inr ⟨m,rfl,rfl,hm,by simp⟩⟩
 ·rw [List.length_append,List.length_singleton] at hj
  rcases Nat.lt_or_ge j P.length with hjP | hjP
  ·obtain ⟨i0,v0,d0,e1,e2⟩:=a2.2.1 j hjP
   exact ⟨i0,v0,d0,by rw [List.getElem?_append_left hjP]; exact e1,e2⟩
  ·have:j = P.length:=by omega
   subst this
   exact ⟨i,v,B,by rw [List.getElem?_append_right (Nat.le_refl _),Nat.sub_self]; rfl,hRd,hB⟩
 ·rw [List.length_append,List.length_singleton] at hj
  rcases Nat.lt_or_ge j P.length with hjP | hjP
  ·have h3:=a2.2.2 j hjP
   have e1:pcI (P ++ [[.int .i64 i,v]]) j = pcI P j:=by unfold pcI qi qal; rw [Int.toNat_natCast,List.getElem?_append_left hjP]
   have e2:pcD h' (P ++ [[.int .i64 i,v]]) j = pcD h' P j:=by unfold pcD qal; rw [Int.toNat_natCast,List.getElem?_append_left hjP]
   rw [e1,e2,h3,List.getD_eq_getElem?_getD,List.getD_eq_getElem?_getD,List.getElem?_append_left (by omega)]
  ·have:j = P.length:=by omega
   subst this
   have e1:pcI (P ++ [[.int .i64 i,v]]) P.length = i:=by unfold pcI qi qal; rw [Int.toNat_natCast,List.getElem?_append_right (Nat.le_refl _),Nat.sub_self]; rfl
   have e2:pcD h' (P ++ [[.int .i64 i,v]]) P.length = bI B:=by
    unfold pcD qal
    rw [Int.toNat_natCast,List.getElem?_append_right (Nat.le_refl _),Nat.sub_self]
    exact qju hRd
   rw [e1,e2,hPl,List.getD_eq_getElem?_getD,List.getElem?_append_right (Nat.le_refl _),Nat.sub_self]; rfl
 ·rcases List.mem_append.1 hx with hx | hx
  ·exact a3 x hx
  ·rw [List.mem_singleton.1 hx,bI_len]; exact hb9
end
end
theorem q5X {h h':Hp} {r r':Option Addr} {d P:qf} {c n e i:Int} {M:Option ManV} {L:PcL} {k n' t s l:Int} {R S z:List Int} {D D' B B' J:qf} {y:Bool} {a a':Option Addr} {x x' q q':Nat} (h1:qbR h r d c n P M L) (hl:Hp.le h h')
  (hid:(qG k n' t s l = false/\e = 2/\R = z)∨(qG k n' t s l = true/\e = 0/\R = S)) (he:e = 0) (hy:∀ (M:Option ManV) (L:PcL),qbR h r d c n P M L->y = qgR M L) (hyf:y = false) (hRb:Rd h' kB (.slice a B'.length q) B') (eB:B' = B) (hRd:Rd h' k32 (.slice a' D'.length q') D') (eD:D' = D)
  (hx:x = B.length) (hx':x' = D.length) (hB:q9 B) (hb9:(B.length:Int) <= 9000) (hD:qfA D) (hO:qT (qd J 32)) (hml:l = (D.length:Int)) :
  qbR h' r' [[Value.int .i64 k,Value.int .i64 n',Value.int .i64 t,Value.int .i64 s] ++ ((qd J 32).map (Value.int .u8) ++ [.slice a' x' q'])] 1 (n + 1) (P ++ [[.int .i64 i,.slice a x q]]) (some ⟨k,n',t,s,qd J 32,dgs D⟩) (L ++ [(i,bI B)]):=by
 subst eB eD hx hx'
 exact q64 h1 hl hRb hB hb9 (q5k rfl hRd hD hO (qom hid he).1 hml) (by rw [<- hy M L h1]; exact hyf)
theorem qxu {ρ:Env} {l:List SH} {H:Hp} (r ty d c:Nat) (pat:List CK) (hs:qY ρ l H) (hm:SH.arr r ty pat (.var d) (.var c) ∈ l):Rd H pat (.slice (qm (ρ r).r 0) (ρ d).d.length (ρ c).i.toNat) (ρ d).d:=by
 obtain ⟨hx,hl,hd⟩:=qkq hs hm
 exact q2f hd hl rfl rfl
set_option maxHeartbeats 4000000 in
theorem q4a:qdW.ok Tryz.prog:=q3Y (by simp [q4A,q1R,qwT,qna,qtw,q0v,qrg]) fun ρ hg hp=>by
 obtain ⟨⟨⟨M,L,h⟩,hO,hMan,hi64,hpa,h9⟩,hGr,hGd⟩:=hp
 have h0:qbR (ρ 9).h (ρ 2).r (ρ 3).d (ρ 4).i (ρ 6).i (ρ 8).d M L:=h
 obtain ⟨q0,q1,q2,q3,hOm,hml,hml2,hD⟩:=hMan
 obtain ⟨p0,p1,p2,p3⟩:=hpa
 simp only [Nat.reduceAdd] at q0 q1 q2 q3 hOm hml hml2 hD p0 p1 p2 p3
 obtain ⟨hn0,hp0,_,h255,_⟩:=id h0
 have hpl0:=hp0.1
 simp (config:={ maxSteps:=4000000 }) [qqg,qdW,idC,qpn,qy2,qd5,qpE,q0D,qdh,qaH,qci,qd1,qbQ,gaB,qeb,qbS,qaO,qke,qhq,qyg,quy,qzO,qiW,qaY,gOk,hGr,hGd]
 repeat' (first | with_reducible apply And.intro | with_reducible intro _)
 all_goals first
  | assumption
  | omega
  | exact ⟨M,L,h0⟩
  | exact q7F (by assumption) (by assumption) (by assumption)
  | exact q61 (by assumption) (by assumption) (by assumption) (by assumption)
  | exact q71 (by assumption) (by assumption) (by assumption) (by assumption) (by assumption) (by assumption) (by assumption) (by assumption) (by assumption) (by assumption)
  | (rw [q7I (by assumption) (by assumption) (by assumption) (by assumption) (by assumption) (by assumption) (by assumption) (by assumption) (by assumption) (by assumption) (by assumption)]; simp [*]; done)
  | exact (qnI (by assumption) h0).1
  | exact Int.le_trans (qnI (by assumption) h0).2.1 (by decide)
  | exact (qnI (by assumption) h0).2.2.2 _ (by assumption)
  | exact q7J (by assumption) (by assumption) (by assumption) (by assumption) (by assumption) (by assumption)
  | exact q6P (by assumption) (by have h:=qb0 9 20 (by assumption) (by simp); simpa using h) (by assumption)
  | exact qq3 (by assumption) (by have h:=qb0 9 20 (by assumption) (by simp); simpa using h)
  | skip
 rename_i hst M1 L1 h1
 have hle:=qb0 9 20 hst (by simp)
 have hRb:=qxu 43 5 45 44 kB hst (by simp [kB])
 have hRd:=qxu 40 24 42 41 k32 hst (by simp [k32])
 simp at hRb hRd hle
 exact q5X (J:=(ρ 14).d) h1 hle (by assumption) (by assumption) (by assumption) (by assumption) hRb (by assumption) hRd (by assumption) (by omega) (by omega) p3 (by omega) hD hOm hml
end Go.Proofs

set_option linter.unusedSimpArgs false
set_option linter.unusedVariables false
set_option maxRecDepth 100000
namespace Go.Proofs
open Go Go.Eng

@[simp] def qbB:T:=.rcons (.vint .u8 (.lit 1)) (.rcons o8 (.rcons o8 (.rcons o8 (.rcons o8 (.rcons o8 (.rcons o8 (.rcons o8 (.rcons o8 (.rcons o8 (.rcons o8 (.rcons o8 (.rcons o8 (.rcons o8 (.rcons o8 (.rcons o8 (.rcons o8 (.rcons o8 (.rcons o8 (.rcons o8 (.rcons o8 (.rcons o8 (.rcons o8 (.rcons o8 (.rcons o8 (.rcons o8 (.rcons o8 (.rcons o8 (.rcons o8 (.rcons o8 (.rcons o8 (.rcons o8 .rnil)))))))))))))))))))))))))))))))
@[simp] def qg8:Sg:=sg 0 [bg 9 68,bv 8 67,bv 4 63,bv 3 62,bv 7 66,bv 6 65,bg 5 64,bg 2 61,bt 1 (s8 40),bg 0 39]
@[simp] def qnd:Sg:=sg 0 [bv 11 1,bv 9 28,bv 8 32,bv 7 28,bt 6 (.lit 1),bg 5 27,bt 3 (.lit 1),bt 2 (.lit 1),bt 1 (.lit 1),bt 0 (.lit 1),bt 4 (r8 26),bg 10 0]
@[simp] def qm1:Sg:=sg 0 [bv 11 1,bt 9 (.lit 1),bt 8 (.rcons (.vint .u8 (.lit 120)) .rnil),bv 1 23,bt 7 (.lit 1),bt 6 (.lit 1),bg 5 24,bt 4 (.lit 1),bt 3 (.lit 1),bt 2 (.lit 1),bg 0 22,bg 10 0]
@[simp] def qmG:Sg:=sg 0 [bv 27 1,bv 25 59,bv 24 60,bv 19 52,bv 18 53,bg 9 48,bv 8 47,bv 4 43,bv 3 42,bv 7 46,bv 6 45,bg 5 44,bg 2 41,bt 1 (r8 40),bv 23 59,bt 22 (.dlen (.var 60)),bg 21 58,bt 20 (.icell (.var 56) (.lit 0) 0),bv 17 52,bt 16 (.lit 1),bg 15 51,bt 13 (.lit 1),bt 12 (.lit 1),bt 11 (.lit 1),bt 10 (.lit 1),bt 14 (r8 50),bg 0 39,bg 26 0]
@[simp] def qoO:Sg:=sg 0 [bv 3 1,bt 1 (.lit 1),bt 0 qbB,bg 2 0]
@[simp] def qoM:Sg:=sg 0 [bv 3 1,bt 1 (.lit 0),bt 0 qbB,bg 2 0]
@[simp] def qoY:Sg:=sg 0 [bv 3 1,bt 1 (.lit 3),bt 0 qbB,bg 2 0]
@[simp] def qpm:Sg:=sg 0 [bg 5 13,bv 4 12,bt 3 (.lit 5),bt 2 (.icell (.var 6) (.lit 0) 0),bt 1 qbB,bg 0 11]
@[simp] def qoh:Sg:=sg 0 [bv 9 1,bv 7 5,bv 6 6,bv 5 5,bt 4 (.lit 2),bg 3 3,bt 2 (.lit 2),bt 1 (.icell (.var 6) (.lit 2) 0),bt 0 qbB,bg 8 0]
@[simp] def qpj:Sg:=sg 0 [bv 17 1,bt 15 (.lit 0),bt 14 .dnil,bv 10 5,bv 9 6,bg 5 16,bv 4 12,bt 13 (.lit 0),bt 12 (.lit 0),(11,.nil),bv 8 5,bv 7 4,bg 6 3,bt 3 (.lit 17),bt 2 (.icell (.var 6) (.lit 1) 0),bt 1 qbB,bg 0 11,bg 16 0]
@[simp] def qoP:Sg:=sg 0 [bv 17 1,bt 15 (.lit 0),bt 14 .dnil,bv 10 5,bv 9 6,bg 5 14,bv 4 12,bt 13 (.lit 0),bt 12 (.lit 0),(11,.nil),bv 8 5,bv 7 4,bg 6 3,bt 3 (.lit 16),bt 2 (.icell (.var 6) (.lit 1) 0),bt 1 qbB,bg 0 11,bg 16 0]
@[simp] def qpk:Sg:=sg 0 [bv 11 1,bt 6 (.lit 3),bt 5 (.dapp (.rcons (.vint .i64 (.lit 0)) .rnil) (.dapp (.rcons (.vint .i64 (.lit 1)) .rnil) (.rcons (.vint .i64 (.lit 2)) .rnil))),bt 9 (.bl false),bt 8 (.bl true),bt 7 (.lit 3),bt 4 (.lit 3),bt 3 (.lit 3),bg 2 9,bt 1 (.lit 3),bt 0 qbB,bg 10 0]
@[simp] def qo0:Sg:=sg 0 [bv 11 1,bt 6 (.lit 3),bt 5 (.dapp (.rcons (.vint .i64 (.lit 0)) .rnil) (.dapp (.rcons (.vint .i64 (.lit 1)) .rnil) (.rcons (.vint .i64 (.lit 2)) .rnil))),bt 9 (.bl false),bt 8 (.bl false),bt 7 (.lit 3),bt 4 (.lit 3),bt 3 (.lit 3),bg 2 7,bt 1 (.lit 1),bt 0 qbB,bg 10 0]
def qn4:Out:=(.fresh 2 (.pre 0 qoY (.both (.fresh 3 (.fresh 4 (.fresh 5 (.fresh 6 (.post 0 0 qoY 3 (.need (.cmp .leq (.lit 0) (.var 4)) (.br (.cmp .neq (.var 4) (.lit 3))
 (.stuck 7 0 0)
 (.fresh 7 (.pre 1 qo0 (.both (.fresh 8 (.post 1 0 qo0 8 (.br (.cmp .neq (.var 8) (.lit 1))
 (.stuck 7 0 0)
 (.fresh 9 (.pre 1 qpk (.both (.fresh 10 (.post 1 0 qpk 10 (.br (.cmp .neq (.var 10) (.lit 2))
 (.stuck 7 0 0)
 (.pre 2 (sg 0 []) (.both (.fresh 11 (.fresh 12 (.fresh 13 (.post 2 0 (sg 0 []) 11 (.need (.cmp .lss (.lit 0) (.var 4)) (.need (.cmp .lss (.lit 0) (.dlen (.var 6))) (.both (.pre 3 qpm (.both (.fresh 14 (.post 3 0 qpm 14 (.need (.cmp .lss (.lit 1) (.var 4)) (.need (.cmp .lss (.lit 1) (.dlen (.var 6))) (.both (.pre 4 qoP (.both (.fresh 15 (.fresh 16 (.post 4 0 qoP 15 (.br (.not (.var 15))
 (.both (.both (.both (.both (.stuck 7 0 0) .top) .top) .top) .top)
 (.both (.pre 4 qpj (.both (.fresh 17 (.fresh 18 (.post 4 0 qpj 17 (.br (.var 17)
 (.both (.both (.both (.stuck 7 0 0) .top) .top) .top)
 (.need (.cmp .lss (.lit 2) (.var 4)) (.need (.cmp .lss (.lit 2) (.dlen (.var 6))) (.know (.cmp .leq (.dlen (.var 6)) (.var 5)) (.need (.cmp .leq (.lit 0) (.var 5)) (.need (.cmp .leq (.lit 2) (.var 5)) (.both (.pre 5 qoh (.both (.fresh 19 (.post 5 0 qoh 19 (.br (.not (.var 19))
 (.both (.both (.stuck 7 0 0) .top) .top)
 (.both (.pre 6 qoM (.both (.fresh 20 (.post 6 0 qoM 20 (.both (.pre 6 qoO (.both (.fresh 21 (.post 6 0 qoO 21 (.br (.c2 .req (r8 20) (r8 21))
 (.stuck 7 0 0)
 (.pre 7 (sg 0 []) (.both (.fresh 22 (.fresh 23 (.post 7 0 (sg 0 []) 22 (.fresh 24 (.fresh 25 (.pre 8 qm1 (.both (.fresh 26 (.fresh 27 (.fresh 28 (.fresh 29 (.fresh 30 (.fresh 31 (.fresh 32 (.fresh 33 (.fresh 34 (.post 8 0 qm1 26 (.fresh 35 (.pre 9 qnd (.both (.fresh 36 (.fresh 37 (.post 9 0 qnd 36 (.fresh 38 (.both (.pre 10 (sg 0 [bt 0 (r8 36)]) (.both (.fresh 39 (.post 10 0 (sg 0 [bt 0 (r8 36)]) 39 (.pack [.cells 38 24 [(x8 0 36),(x8 1 36),(x8 2 36),(x8 3 36),(x8 4 36),(x8 5 36),(x8 6 36),(x8 7 36),(x8 8 36),(x8 9 36),(x8 10 36),(x8 11 36),(x8 12 36),(x8 13 36),(x8 14 36),(x8 15 36),(x8 16 36),(x8 17 36),(x8 18 36),(x8 19 36),(x8 20 36),(x8 21 36),(x8 22 36),(x8 23 36),(x8 24 36),(x8 25 36),(x8 26 36),(x8 27 36),(x8 28 36),(x8 29 36),(x8 30 36),(x8 31 36)],.arr 22 151 [CK.int .u32,CK.int .i32,CK.int .u32,CK.int .u8,CK.int .u8,CK.int .u8,CK.int .u8,CK.int .u8,CK.int .u8,CK.int .u8,CK.int .u8,CK.int .u8,CK.int .u8,CK.int .u8,CK.int .u8,CK.int .u8,CK.int .u8,CK.int .u8,CK.int .u8,CK.int .u8,CK.int .u8,CK.int .u8,CK.int .u8,CK.int .u8,CK.int .u8,CK.int .u8,CK.int .u8,CK.int .u8,CK.int .u8,CK.int .u8,CK.int .u8,CK.int .u8,CK.int .u8,CK.int .u8,CK.int .u8,CK.int .u8,CK.int .u8,CK.int .u8,CK.int .u8,CK.int .u8,CK.int .u8,CK.int .u8,CK.int .u8,CK.int .u8,CK.int .u8,CK.int .u8,CK.int .u8,CK.int .u8,CK.int .u8,CK.int .u8,CK.int .u8,CK.int .u8,CK.int .u8,CK.int .u8,CK.int .u8,CK.int .u8,CK.int .u8,CK.int .u8,CK.int .u8,CK.int .u8,CK.int .u8,CK.int .u8,CK.int .u8,CK.int .u8,CK.int .u8,CK.int .u8,CK.int .u8,CK.int .u8,CK.int .u8,CK.int .u8,CK.int .u8,CK.int .u8,CK.int .u8,CK.int .u8,CK.int .u8,CK.int .u8,CK.int .u8,CK.int .u8,CK.int .u8,CK.int .u8,CK.int .u8,CK.int .u8,CK.int .u8,CK.int .u8,CK.int .u8,CK.int .u8,CK.int .u8,CK.int .u8,CK.int .u8,CK.int .u8,CK.int .u8,CK.int .u8,CK.int .u8,CK.int .u8,CK.int .u8,CK.int .u8,CK.int .u8,CK.int .u8,CK.int .u8,CK.int .u8,CK.int .u8,CK.int .u8,CK.int .u8,CK.int .u8,CK.int .u8,CK.int .u8,CK.int .u8,CK.int .u8,CK.int .u8,CK.int .u8,CK.int .u8,CK.int .u8,CK.int .u8,CK.int .u8,CK.int .u8,CK.int .u8,CK.int .u8,CK.int .u8,CK.int .u8,CK.int .u8,CK.int .u8,CK.int .u8,CK.int .u8,CK.int .u8,CK.int .u8,CK.int .u8,CK.int .u8,CK.int .u8,CK.int .u8,CK.int .u8,CK.int .u8,CK.int .u8,CK.int .u8,CK.int .u8,CK.int .u8,CK.int .u8,CK.int .u8,CK.int .u8,CK.int .u8,CK.int .u8,CK.int .u8,CK.int .u8,CK.int .u8,CK.int .u8,CK.int .u8,CK.int .u8,CK.int .u8,CK.int .u8,CK.int .u8,CK.int .u8,CK.int .u8,CK.int .u8,CK.int .u8,CK.int .u8,CK.int .u8,CK.int .u8,CK.int .u8,CK.int .u8,CK.int .u8,CK.int .u8,CK.int .u8,CK.int .u8,CK.int .u8,CK.int .u8,CK.int .u8,CK.int .u8,CK.int .u8,CK.int .u8,CK.int .u8,CK.int .u8,CK.int .u8,CK.int .u8,CK.int .u8,CK.int .u8,CK.int .u8,CK.int .u8,CK.int .u8,CK.int .u8,CK.int .u8,CK.int .u8,CK.int .u8,CK.int .u8,CK.int .u8,CK.int .u8,CK.int .u8,CK.int .u8,CK.int .u8,CK.int .u8,CK.int .u8,CK.int .u8,CK.int .u8,CK.int .u8,CK.int .u8,CK.int .u8,CK.int .u8,CK.int .u8,CK.int .u8,CK.int .u8,CK.int .u8,CK.int .u8,CK.int .u8,CK.int .u8,CK.int .u8,CK.int .u8,CK.int .u8,CK.int .u8,CK.int .u8,CK.int .u8,CK.int .u8,CK.int .u8,CK.int .u8,CK.int .u8,CK.int .u8,CK.int .u8,CK.int .u8,CK.int .u8,CK.int .u8,CK.int .u8,CK.int .u8,CK.int .u8,CK.int .u8,CK.int .u8,CK.int .u8,CK.int .u8,CK.int .u8,CK.int .u8,CK.int .u8,CK.int .u8,CK.int .u8,CK.int .u8,CK.int .u8,CK.int .u8,CK.int .u8,CK.int .u8,CK.int .u8,CK.int .u8,CK.int .u8,CK.int .u8,CK.int .u8,CK.int .u8,CK.int .u8,CK.int .u8,CK.int .u8,CK.int .u8,CK.int .u8,CK.int .u8,CK.int .u8,CK.int .u8,CK.int .u8,CK.int .u8,CK.int .u8,CK.int .u8,CK.int .u8,CK.int .u8,CK.int .u8,CK.int .u8,CK.int .u8,CK.int .u8,CK.int .u8,CK.int .u8,CK.int .u8,CK.int .u8,CK.int .u8,CK.int .u8,CK.int .u8,CK.int .u8,CK.int .u8,CK.int .u8,CK.int .u8,CK.int .u8,CK.int .u8,CK.int .u8,CK.int .u8,CK.int .u8,CK.int .u8,CK.int .u8,CK.int .u8,CK.int .u8,CK.int .u8,CK.int .u8,CK.int .u8,CK.int .u8,CK.int .u8,CK.int .u8,CK.int .u8,CK.int .u8,CK.int .u8,CK.int .u8,CK.int .u8,CK.int .u8,CK.int .u8,CK.int .u8,CK.int .u8,CK.int .u8,CK.int .u8,CK.int .u8,CK.int .u8,CK.int .u8,CK.int .u8,CK.int .u8,CK.int .u8,CK.int .u8,CK.int .u8,CK.int .u8,CK.int .u8,CK.int .u8,CK.int .u8,CK.int .u8,CK.int .u8,CK.int .u8,CK.int .u8,CK.int .u8,CK.int .u8,CK.int .u8,CK.int .u8,CK.int .u8,CK.int .u8,CK.int .u8,CK.int .u8,CK.int .u8,CK.int .u8,CK.int .u8,CK.int .u8,CK.int .u8,CK.int .u8,CK.int .u8,CK.int .u8,CK.int .u8,CK.int .u8,CK.int .u8,CK.int .u8,CK.int .u8,CK.int .u8,CK.int .u8,CK.int .u8,CK.int .u8,CK.int .u8,CK.int .u8,CK.int .u8,CK.int .u8,CK.int .u8,CK.int .u8,CK.int .u8,CK.int .u8,CK.int .u8,CK.int .u8,CK.int .u8,CK.int .u8,CK.int .u8,CK.int .u8,CK.int .u8,CK.int .u8,CK.int .u8,CK.int .u8,CK.int .u8,CK.int .u8,CK.int .u8,CK.int .u8,CK.int .u8,CK.int .u8,CK.int .u8,CK.int .u8,CK.int .u8,CK.int .u8,CK.int .u8,CK.int .u8,CK.int .u8,CK.int .u8,CK.int .u8,CK.int .u8,CK.int .u8,CK.int .u8,CK.int .u8,CK.int .u8,CK.int .u8,CK.int .u8,CK.int .u8,CK.int .u8,CK.int .u8,CK.int .u8,CK.int .u8,CK.int .u8,CK.int .u8,CK.int .u8,CK.int .u8,CK.int .u8,CK.int .u8,CK.int .u8,CK.int .u8,CK.int .u8,CK.int .u8,CK.int .u8,CK.int .u8,CK.int .u8,CK.int .u8,CK.int .u8,CK.int .u8,CK.int .u8,CK.int .u8,CK.int .u8,CK.int .u8,CK.int .u8,CK.int .u8,CK.int .u8,CK.int .u8,CK.int .u8,CK.int .u8,CK.int .u8,CK.int .u8,CK.int .u8,CK.int .u8,CK.int .u8,CK.int .u8,CK.int .u8,CK.int .u8,CK.int .u8,CK.int .u8,CK.int .u8,CK.int .u8,CK.int .u8,CK.int .u8,CK.int .u8,CK.int .u8,CK.int .u8,CK.int .u8,CK.int .u8,CK.int .u8,CK.int .u8,CK.int .u8,CK.int .u8,CK.int .u8,CK.int .u8,CK.int .u8,CK.int .u8,CK.int .u8,CK.int .u8,CK.int .u8,CK.int .u8,CK.int .u8,CK.int .u8,CK.int .u8,CK.int .u8,CK.int .u8,CK.int .u8,CK.int .u8,CK.int .u8,CK.int .u8,CK.int .u8,CK.int .u8,CK.int .u8,CK.int .u8,CK.int .u8,CK.int .u8,CK.int .u8,CK.int .u8,CK.int .u8,CK.int .u8,CK.int .u8,CK.int .u8,CK.int .u8,CK.int .u8,CK.int .u8,CK.int .u8,CK.int .u8,CK.int .u8,CK.int .u8,CK.int .u8,CK.int .u8,CK.int .u8,CK.int .u8,CK.int .u8,CK.int .u8,CK.int .u8,CK.int .u8,CK.int .u8,CK.int .u8,CK.int .u8,CK.int .u8,CK.int .u8,CK.int .u8,CK.int .u8,CK.int .u8,CK.int .u8,CK.int .u8,CK.int .u8,CK.int .u8,CK.int .u8,CK.int .u8,CK.int .u8,CK.int .u8,CK.int .u8,CK.int .u8,CK.int .u8,CK.int .u8,CK.int .u8,CK.int .u8,CK.int .u8,CK.int .u8,CK.int .u8,CK.int .u8,CK.int .u8,CK.int .u8,CK.int .u8,CK.int .u8,CK.int .u8,CK.int .u8,CK.int .u8,CK.int .u8,CK.int .u8,CK.int .u8,CK.int .u8,CK.int .u8,CK.int .u8,CK.int .i64,CK.int .i64,CK.int .i64,CK.int .i64,CK.int .i64,CK.int .i64,CK.int .i64,CK.int .i64,CK.int .i64,CK.int .i64,CK.int .i64,CK.int .i64,CK.int .i64,CK.int .i64,CK.int .i64,CK.int .i64,CK.int .i64,CK.int .i64,CK.int .i64,CK.int .i64,CK.int .i64,CK.int .i64,CK.int .i64,CK.int .i64,CK.int .i64,CK.int .i64,CK.int .i64,CK.int .i64,CK.int .i64,CK.int .i64,CK.int .i64,CK.int .i64,CK.int .i64,CK.int .i64,CK.int .i64,CK.int .i64,CK.int .i64,CK.int .i64,CK.int .i64,CK.int .i64,CK.int .i64,CK.int .i64,CK.int .i64,CK.int .i64,CK.int .i64,CK.int .i64,CK.int .i64,CK.int .i64,CK.int .i64,CK.int .i64,CK.int .i64,CK.int .i64,CK.int .i64,CK.int .i64,CK.int .i64,CK.int .i64,CK.int .i64,CK.int .i64,CK.int .i64,CK.int .i64,CK.int .i64,CK.int .i64,CK.int .i64,CK.int .i64,CK.int .i64,CK.int .i64,CK.int .i64,CK.int .i64,CK.int .i64,CK.int .i64,CK.int .i64,CK.int .i64,CK.int .i64,CK.int .i64,CK.int .i64,CK.int .i64,CK.int .i64,CK.int .i64,CK.int .i64,CK.int .i64,CK.int .i64,CK.int .i64,CK.int .i64,CK.int .i64,CK.int .i64,CK.int .i64,CK.int .i64,CK.int .i64,CK.int .i64,CK.int .i64,CK.int .i64,CK.int .i64,CK.int .i64,CK.int .i64,CK.int .i64,CK.int .i64,CK.int .i64,CK.int .i64,CK.int .i64,CK.int .i64,CK.int .i64,CK.int .i64,CK.int .i64,CK.int .i64,CK.int .i64,CK.int .i64,CK.int .i64,CK.int .i64,CK.int .i64,CK.int .i64,CK.int .i64,CK.int .i64,CK.int .i64,CK.int .i64,CK.int .i64,CK.int .i64,CK.int .i64,CK.int .i64,CK.int .i64,CK.int .i64,CK.int .i64,CK.int .i64,CK.int .i64,CK.int .i64,CK.int .i64,CK.int .i64,CK.int .i64,CK.int .i64,CK.int .i64,CK.int .i64,CK.int .i64,CK.int .i64,CK.int .i64,CK.int .i64,CK.int .i64,CK.int .i64,CK.int .i64,CK.int .i64,CK.int .i64,CK.int .i64,CK.int .i64,CK.int .i64,CK.int .i64,CK.int .i64,CK.int .i64,CK.int .i64,CK.int .i64,CK.int .i64,CK.int .i64,CK.int .i64,CK.int .i64,CK.int .i64,CK.int .i64,CK.int .i64,CK.int .i64,CK.int .i64,CK.int .i64,CK.int .i64,CK.int .i64,CK.int .i64,CK.int .i64,CK.int .i64,CK.int .i64,CK.int .i64,CK.int .i64,CK.int .i64,CK.int .i64,CK.int .i64,CK.int .i64,CK.int .i64,CK.int .i64,CK.int .i64,CK.int .i64,CK.int .i64,CK.int .i64,CK.int .i64,CK.int .i64,CK.int .i64,CK.int .i64,CK.int .i64,CK.int .i64,CK.int .i64,CK.int .i64,CK.int .i64,CK.int .i64,CK.int .i64,CK.int .i64,CK.int .i64,CK.int .i64,CK.int .i64,CK.int .i64,CK.int .i64,CK.int .i64,CK.int .i64,CK.int .i64,CK.int .i64,CK.int .i64,CK.int .i64,CK.int .i64,CK.int .i64,CK.int .i64,CK.int .i64,CK.int .i64,CK.int .i64,CK.int .i64,CK.int .i64,CK.int .i64,CK.int .i64,CK.int .i64,CK.int .i64,CK.int .i64,CK.int .i64,CK.int .i64,CK.int .i64,CK.int .i64,CK.int .i64,CK.int .i64,CK.int .i64,CK.int .i64,CK.int .i64,CK.int .i64,CK.int .i64,CK.int .i64,CK.int .i64,CK.int .i64,CK.int .i64,CK.int .i64,CK.int .i64,CK.int .i64,CK.int .i64,CK.int .i64,CK.int .i64,CK.int .i64,CK.int .i64,CK.int .i64,CK.int .i64,CK.int .i64,CK.int .i64,CK.int .i64,CK.int .i64,CK.int .i64,CK.int .i64,CK.int .i64,CK.int .i64,CK.int .i64,CK.int .i64,CK.int .i64,CK.int .i64,CK.int .i64,CK.int .i64,CK.int .i64,CK.int .i64,CK.int .i64,CK.int .i64,CK.int .i64,CK.int .i64] (.var 31) (.lit 1),.cells 11 179 [(.var 12)],.cells 9 3 [(.vint .i64 (.lit 0)),(.vint .i64 (.lit 1)),(.vint .i64 (.lit 2))],.cells 7 3 [(.vint .i64 (.lit 0)),(.vint .i64 (.lit 1)),(.vint .i64 (.lit 2))],.arr 3 3 [CK.int .i64] (.var 6) (.var 5),.cells 2 24 [(.vint .u8 (.lit 1)),o8,o8,o8,o8,o8,o8,o8,o8,o8,o8,o8,o8,o8,o8,o8,o8,o8,o8,o8,o8,o8,o8,o8,o8,o8,o8,o8,o8,o8,o8,o8]] 40 (.cut 0 39 (sg 1000 [bg 1018 34,bv 1017 33,bv 1014 32,bv 1013 28,bg 1012 27,bt 1011 (r8 26),bg 1009 40,bt 1008 .dnil,bt 1004 (.lit 0),bt 1003 .dnil,bt 1007 (.lit 0),bt 1006 (.lit 0),(1005,.nil),(1002,.nil),bt 1001 (s8 36),bg 1000 39,bv 1016 30,bg 1015 29,bg 1010 35]))))) .top)) (.fresh 39 (.fresh 40 (.fresh 41 (.fresh 42 (.fresh 43 (.fresh 44 (.fresh 45 (.fresh 46 (.fresh 47 (.fresh 48 (.fresh 49 (.fresh 50 (.fresh 51 (.fresh 52 (.fresh 53 (.fresh 54 (.fresh 55 (.fresh 56 (.fresh 57 (.hyp 0 39 (.need (.cmp .lss (.lit 0) (.dlen (.var 56))) (.both (.viewL (.vcell (.var 56) (.lit 0) 1) [CK.int .u8] [57] 58 (.pre 11 qmG (.both (.fresh 61 (.fresh 62 (.fresh 63 (.fresh 64 (.fresh 65 (.fresh 66 (.fresh 67 (.fresh 68 (.fresh 69 (.post 11 0 qmG 61 (.both (.both (.both (.br (.cmp .eql (.var 69) (.lit 0))
 (.both (.both (.pre 12 qg8 (.both (.fresh 70 (.post 12 0 qg8 70 (.both (.both (.br (.var 70)
 (.both (.both (.pre 13 qg8 (.both (.fresh 71 (.fresh 72 (.fresh 73 (.fresh 74 (.post 13 0 qg8 71 (.both (.need (.cmp .leq (.lit 0) (.var 72)) (.both (.both (.both (.need (.beq (.bl true) (.cmp .eql (.var 72) (.lit 1))) (.ret 0 (sg 2 []))) .top) .top) .top)) .top)))))) .top)) .top) .top)
 (.both (.both (.both (.both (.both (.both (.stuck 7 0 0) .top) .top) .top) .top) .top) .top)) .top) .top))) .top)) .top) .top)
 (.both (.both (.both (.both (.both (.both (.both (.both (.both (.both (.stuck 7 0 0) .top) .top) .top) .top) .top) .top) .top) .top) .top) .top)) .top) .top) .top))))))))))) .top))) .top))))))))))))))))))))))))))) .top))))))))))))) .top))))))) .top))))) .top)) .top))) .top)) .top)))) .top)) .top)))))))))) .top)) .top))))) .top)) .top))))) .top)) .top))))))) .top))))) .top)))))) .top)))))))))) .top)))
theorem qvR:ql ⟨Tryz.prog,qda,[qcf,qfG,qcp,qdd,qaR,qfL,qco,qbJ,qjo,idC,qdR,qdW,qci,qdh],[qq2]⟩ 100000 Tryz.f31 = qn4:=by kernel_rfl
theorem qzY (hd:∀ c ∈ ([qcf,qfG,qcp,qdd,qaR,qfL,qco,qbJ,qjo,idC,qdR,qdW,qci,qdh]:List Ctr),c.ok Tryz.prog) (h:∀ ρ:Env,ρ.good->(qda).pre ρ->qn4.den ⟨Tryz.prog,qda,[qcf,qfG,qcp,qdd,qaR,qfL,qco,qbJ,qjo,idC,qdR,qdW,qci,qdh],[qq2]⟩ ρ):(qda).ok Tryz.prog :=
 qe Tryz.func31 (fun a w=>Tryz.call31 a w) hd 100000 (fun ρ hg hp=>by rw [qvR]; exact h ρ hg hp)
end Go.Proofs

set_option linter.unusedSimpArgs false
set_option linter.unusedVariables false
namespace Go.Proofs
open Go Go.Eng
def d1:List Int:=1 :: List.replicate 31 0
theorem qtp:qN d1 0 1 = true:=by decide +kernel
theorem quH:qN d1 0 2 = true:=by decide +kernel
theorem qtk:qN d1 1 2 = true:=by decide +kernel
theorem q3c:¬ qL d1 0 = qL d1 1:=by decide +kernel
theorem qxo:qap d1 [0,1,2] = [0,1,2]:=by
 symm
 refine qzN ⟨List.Perm.refl _,?_⟩ (by decide)
 simp [qtp,quH,qtk]
theorem qtZ:qc7 [0,1,2] = [0,1,2]:=by decide
theorem q52:qjE d1 3 = [0,1,2]:=by
 have h:qgt 3 = [0,1,2]:=by decide
 rw [qjE,h,qaX,qtZ,qxo]; rfl
theorem qrc:qaX d1 [0,1,2] 3 = [0,1,2]:=by
 rw [qaX,qtZ,qxo]; rfl
theorem q3a:qgD d1 1 [0,1,2] 3 false false = 1:=by simp [qgD,qrc]
theorem q2Q:qgD d1 3 [0,1,2] 3 true false = 2:=by simp [qgD,qrc]
theorem q67:qlU d1 2 2 [0,1] = true:=by
 have h:qc7 [0,1] = [0,1]:=by decide
 rw [qlU,h]; simp [quH,qtk]
def cl1:Cl:=qdq (fun _ _=>none) d1 0 5
theorem qyZ:qb3 cl1 d1 1 16 [0,1,2] [] = true:=by
 rw [qb3,List.any_eq_true]
 refine ⟨0,by simp,?_⟩
 have h:cl1 d1 ((0:Nat):Int) = some 5:=by simp [cl1,qdq]
 rw [h]
 simp [qtp,qcI]
theorem qx7:qb3 cl1 d1 1 17 [0,1,2] [] = false:=by
 rw [qb3,List.any_eq_false]
 intro i _
 by_cases hi:i = 0
 ·subst hi
  have h:cl1 d1 ((0:Nat):Int) = some 5:=by simp [cl1,qdq]
  rw [h]; simp [qcI]
 ·have h:cl1 d1 ((i:Nat):Int) = none:=by simp [cl1,qdq,hi]
  rw [h]; simp
end Go.Proofs

set_option linter.unusedSimpArgs false
set_option linter.unusedVariables false
namespace Go.Proofs
open Go Go.Eng
theorem q5q:qd [[Value.int .u8 1,.int .u8 0,.int .u8 0,.int .u8 0,.int .u8 0,.int .u8 0,.int .u8 0,.int .u8 0,.int .u8 0,.int .u8 0,.int .u8 0,.int .u8 0,.int .u8 0,.int .u8 0,.int .u8 0,.int .u8 0,.int .u8 0,.int .u8 0,.int .u8 0,.int .u8 0,.int .u8 0,.int .u8 0,.int .u8 0,.int .u8 0,.int .u8 0,.int .u8 0,.int .u8 0,.int .u8 0,.int .u8 0,.int .u8 0,.int .u8 0,.int .u8 0]] 32 = d1:=by rfl
theorem q4S:qT d1:=by intro x hx; simp [d1] at hx; rcases hx with rfl | rfl <;> decide
theorem q3D {h:Hp}:qbR h none [] 0 0 [] none []:=by
 refine ⟨rfl,⟨rfl,?_,?_⟩,?_,by decide,.inl ⟨rfl,rfl,rfl,rfl,rfl⟩⟩
 ·intro j hj; exact absurd hj (Nat.not_lt_zero j)
 ·intro j hj; exact absurd hj (Nat.not_lt_zero j)
 ·intro x hx; cases hx
theorem q7y:(qcl 1 1).2.2 = 1:=by kernel_rfl
theorem q2V:q9 [[Value.int .u8 120]]:=by intro row hr; simp at hr; subst hr; decide
set_option pp.funBinderTypes false
set_option format.width 2000
set_option format.indent 1
set_option maxRecDepth 20000 in
set_option maxHeartbeats 4000000 in
theorem qsU (hd:∀ c ∈ ([qcf,qfG,qcp,qdd,qaR,qfL,qco,qbJ,qjo,idC,qdR,qdW,qci,qdh]:List Ctr),c.ok Tryz.prog):qda.ok Tryz.prog:=qzY hd fun ρ hg hp=>by
 obtain ⟨hGr,hGd⟩:=hp
 simp (config:={ maxSteps:=4000000 }) [qn4,qda,qq2,qcf,qfG,q46,qcp,qdd,qaR,qyX,qfL,q4l,qmj,qco,qbJ,qjo,qgz,idC,qpn,qy2,qdR,qdW,qzV,qci,qdh,quy,qzO,qiW,qaY,q4J,q4F,qke,qhq,qqn,qyg,qiS,qbS,qeb,gaB,gOk,hGr,hGd,q5q,q4S]
 have e012:qn [[Value.int IntKind.i64 0],[Value.int IntKind.i64 1],[Value.int IntKind.i64 2]] = [0,1,2]:=rfl
 intro _ _ l0 _ n _ c _ D _ hl
 obtain ⟨hn,hD,hrow⟩:=hl
 rw [q52] at hD
 have hDl:D.d.length = 3:=by have:=congrArg List.length hD; simpa [qn] using this
 refine ⟨by omega,by omega,fun _ _ _ x5 _ h5=>?_⟩
 rw [e012,q3a] at h5
 refine ⟨h5,fun _ _ _ x6 _ h6=>?_⟩
 rw [e012,q2Q] at h6
 refine ⟨h6,fun _ _ _ v _ H0 _ hc0=>⟨by omega,by omega,⟨_,hc0⟩,fun H1 _ hc1=>?_⟩⟩
 have g0:qi D.d 0 0 = 0:=by rw [qeu (d:=D.d) (by omega) (by omega),hD]; rfl
 have g1:qi D.d 1 0 = 1:=by rw [qeu (d:=D.d) (by omega) (by omega),hD]; rfl
 have g2:qi D.d 2 0 = 2:=by rw [qeu (d:=D.d) (by omega) (by omega),hD]; rfl
 have hcl:=hc1 _ hc0
 rw [g0] at hcl
 refine ⟨by omega,by omega,⟨⟨_,hcl⟩,by omega,by omega,hrow⟩,fun b1 _ H2 _ hb1=>?_⟩
 obtain ⟨hcl2,hb1⟩:=hb1 _ hcl
 rw [g1,hD] at hb1
 have hb1':b1.b = true:=hb1.trans qyZ
 refine ⟨hb1',fun _=>⟨⟨⟨_,hcl2⟩,by omega,by omega,hrow⟩,fun b2 _ H3 _ hb2=>?_⟩⟩
 obtain ⟨hcl3,hb2⟩:=hb2 _ hcl2
 rw [g1,hD] at hb2
 have hb2':b2.b = false:=hb2.trans qx7
 refine ⟨hb2',fun _=>⟨by omega,by omega,fun hcap=>⟨by omega,by omega,⟨by omega,hrow⟩,fun b3 _ hb3=>?_⟩⟩⟩
 rw [g2,hD] at hb3
 have hb3':b3.b = true:=hb3.trans q67
 refine ⟨hb3',fun _ s0 _ hs0 s1 _ hs1=>?_⟩
 rw [hs0,hs1]
 refine ⟨q3c,fun _ _ _ fl _ hfl _ _ _ _=>⟨⟨⟨.inl hfl,q2V,fun _=>q7y⟩,by decide⟩,?_⟩⟩
 intro o _ _ _ f _ _ _ _ _ _ _ Ds _ P _ Hp _ _ _ hPl hE ho hDs hdg _ _
 have hDl1:Ds.d.length = 1:=by
  have:=congrArg List.length hdg
  rw [qyU] at this; simpa [dgs] using this
 have hoM:qT (qd o.d 32):=by rw [ho]; exact qgn _
 have hm1:qG 1 1 1 1 1 = true:=by decide
 refine ⟨⟨by omega,hoM,hDs⟩,fun ID _ e _ hid gn _=>⟨fun _ _ _ _ _=>?_,?_⟩⟩
 ·obtain ⟨q1,q2⟩:=q7d hE
  refine ⟨q3D,hoM,hDs,hDl1,hPl,q1,(q2 0 (by decide)).1,?_,?_⟩
  ·exact q2A (data:=[120]) hm1 (by intro x hx; simp at hx; subst hx; exact ⟨by decide,by decide⟩) rfl hdg (by decide) (by decide) (q2 0 (by decide)).2
  ·rcases hid with ⟨h,_⟩ | ⟨_,_,h⟩
   ·exact absurd h (by decide)
   ·exact h
 intro ar _ id _ mr _ mp _ mc _ pr _ pl _ pq _ pd _ gh _ bm _ om _ dr _ dq _ dd _ br _ bq _ bp _ bh _ hga hom hdd hdl hbl hpk hpi hck hid2
 obtain ⟨v0,B0,eP,hv,hRd,hB,hpd⟩:=q7D hpk (j:=0) (by decide)
 obtain ⟨_,_,_,hlen,hsum⟩:=q0n hck
 have hB1:B0.length = 1:=by rw [hpd,bI_len] at hlen; rw [show qez 1 1 = 1 from rfl] at hlen; omega
 have hci:qi bp.d 0 0 = 0:=hpi
 have hidM:qT (qd id.d 32):=by rw [hid2]; exact qgn _
 have hck':qcm 1 1 1 1 1 (dgs dd.d) 0 (bI B0) = 0:=by rw [<- hpd]; exact hck
 have hddl:(dgs dd.d).length = 1:=by simpa [dgs] using hdl
 have hoff:qgb (qd id.d 32) none [] { k:=1,n:=1,t:=1,s:=1,o:=qd om.d 32,D:=dgs dd.d } 0 (bI B0) = 0:=by
  have hok:ManV.ok { k:=1,n:=1,t:=1,s:=1,o:=qd om.d 32,D:=dgs dd.d } = true:=by simp only [ManV.ok,hddl]; decide
  have hbt:sha (ManV.bytes { k:=1,n:=1,t:=1,s:=1,o:=qd om.d 32,D:=dgs dd.d }) = qd id.d 32:=hid2.symm
  rw [qgb,if_neg (by rw [hok]; decide),if_neg (fun h=>h hbt)]
  simp [hddl,hck',qgR]
 refine ⟨by omega,B0,by rw [show (0:Int) = ((0:Nat):Int) from rfl,hv]; exact hRd,?_⟩
 rw [hci]
 intro vr _ vc _ _ hcap
 refine ⟨⟨⟨_,_,hga⟩,hidM,⟨hom,by omega,hdd⟩,by decide,⟨by omega,by omega,hB⟩,by omega⟩,?_⟩
 intro _ _ _ _ _ _ _ _ _ _ _ _ _ _ _ _ oe _ hofr
 obtain ⟨he0,hga2⟩:=hofr _ _ hga
 rw [hoff] at he0
 rw [if_pos he0,if_pos he0] at hga2
 refine ⟨fun _=>⟨⟨_,_,hga2⟩,fun rb _ hrb=>?_⟩,he0⟩
 have hr1:=hrb _ _ hga2
 have hr2:rb.b = true:=by rw [hr1]; rfl
 refine ⟨fun _=>⟨⟨_,_,hga2⟩,fun _ _ il _ _ _ di _ hi=>?_⟩,hr2⟩
 obtain ⟨hi1,hi2,_⟩:=hi _ _ hga2
 have hdi:di.d.length = 1:=by
  have:=congrArg List.length hi2
  rw [qcL] at this; simpa using this
 exact ⟨by omega,by omega,trivial⟩
theorem qnY:qbd.ok Tryz.prog:=q1O q4Y
theorem q0C:qda.ok Tryz.prog:=qsU (by simp [qx0 qnY,q5s qnY,qtL,qxn,qoS,q5H,quV,qwd,q4j,q4A,q2H,q4a,qtw,qwT])
end Go.Proofs

set_option linter.unusedSimpArgs false
set_option linter.unusedVariables false
namespace Go.Proofs
open Go Go.Eng
theorem qa7 {h:Hp} {it:Value} {b c c':Nat} {mt:MT} {seen:List Nat} {m:List ME} (hi:qlX h it b c seen) (hM:qV h b mt m c'):qbo h it = (m.filter fun y=>!(seen.contains y.born)).length:=by
 obtain ⟨bi,hit,hb⟩:=hi
 subst hit
 unfold qbo
 simp only [hb,hM.1,MT.obj,List.toList_toArray,List.contains_toArray]
 rw [List.filter_map,List.length_map]
 rfl
theorem q41 {m:List ME} {i i':Int}:qbf (qcw m [i]) i' = if i' = i then none else qbf m i':=by
 unfold qbf qcw
 rw [List.find?_filter]
 by_cases hi:i' = i
 ·subst hi
  rw [if_pos rfl]
  have:m.find? (fun a=>decide (decide (a.k ≠ [i']) = true/\(a.k == [i']) = true)) = none:=by
   rw [List.find?_eq_none]; intro x _ h; simp at h
  rw [this]; rfl
 ·rw [if_neg hi]
  have:(fun a:ME=>decide (decide (a.k ≠ [i]) = true/\(a.k == [i']) = true)) = fun a=>a.k == [i']:=by
   funext a
   by_cases h:a.k = [i']
   ·simp [h,hi]
   ·simp [h]
  rw [this]
theorem qfo {l:List ME} {k:List Int} {x:ME}:x ∈ qcw l k↔x ∈ l/\x.k ≠ k:=by
 unfold qcw; rw [List.mem_filter]; simp
theorem qtf {mt:MT} {l:List ME} {c:Nat} (h:MWf mt l c) {x y:ME} (hx:x ∈ l) (hy:y ∈ l) (hk:x.k = y.k):x = y:=by
 obtain ⟨i,hi⟩:=List.getElem?_of_mem hx
 obtain ⟨j,hj⟩:=List.getElem?_of_mem hy
 rw [qgg h hi hj hk,hj] at hi
 exact (Option.some.inj hi).symm
theorem qqX {mt:MT} {l:List ME} {c:Nat} (h:MWf mt l c) {x y:ME} (hx:x ∈ l) (hy:y ∈ l) (hb:x.born = y.born):x = y:=by
 have hp:=List.pairwise_iff_getElem.1 h.2
 obtain ⟨i,hi,e1⟩:=List.getElem_of_mem hx
 obtain ⟨j,hj,e2⟩:=List.getElem_of_mem hy
 rcases Nat.lt_trichotomy i j with hlt | heq | hlt
 ·have:=(hp i j hi hj hlt).1; rw [e1,e2] at this; omega
 ·subst heq; rw [<- e1,<- e2]
 ·have:=(hp j i hj hi hlt).1; rw [e1,e2] at this; omega
theorem q12 {h:Hp} {b b' c c':Nat} {l m:List ME} {e:ME} {cl:Cl} {i:Int} (hc:qh h (.map (some b)) cl) (hm:qV h b mtO l c) (he:e ∈ l) (hv:e.v = [.map (some b')]) (hI:qV h b' mtI m c') :
  qh (Hp.upd h b' (mtI.obj (qcw m [i],c'))) (.map (some b)) (fun o' i'=>if o' = e.k/\i' = i then none else cl o' i'):=by
 obtain ⟨b0,l0,c0,e0,hm0,hi,hd,hn,hr⟩:=hc
 simp only [Value.map.injEq,Option.some.injEq] at e0
 subst e0
 obtain ⟨rfl,rfl⟩:=qk1 hm hm0
 obtain ⟨b2,m2,c2,e1,e2,e3,e4⟩:=hi e he
 rw [hv] at e1
 simp only [List.cons.injEq,Value.map.injEq,Option.some.injEq,and_true] at e1
 subst e1
 obtain ⟨rfl,rfl⟩:=qs3 hI e3
 refine ⟨b,l,c,rfl,qU (Ne.symm e2) hm,fun y hy=>?_,hd,fun o' i' ho=>?_,fun o' i' t' ht=>?_⟩
 ·by_cases hk:y.k = e.k
  ·obtain rfl:=qtf hm.2 hy he hk
   refine ⟨b',qcw m [i],c',hv,e2,⟨qbc,qmx hI.2⟩,fun i'=>?_⟩
   show (if y.k = y.k/\i' = i then none else cl y.k i') = _
   rw [q41,e4]
   by_cases hii:i' = i <;> simp [hii]
  ·obtain ⟨b3,m3,c3,f1,f2,f3,f4⟩:=hi y hy
   have hne:b3 ≠ b':=fun h3=>hd y hy e he hk (by rw [f1,hv,h3])
   exact ⟨b3,m3,c3,f1,f2,qU hne f3,fun i'=>by simp only [hk,false_and,if_false,f4]⟩
 ·by_cases hk:o' = e.k/\i' = i
  ·simp only [if_pos hk]
  ·simp only [if_neg hk,hn o' i' ho]
 ·by_cases hk:o' = e.k/\i' = i
  ·simp only [if_pos hk] at ht; cases ht
  ·simp only [if_neg hk] at ht; exact hr _ _ _ ht
theorem q0Y {h:Hp} {b c:Nat} {l:List ME} {kd:List Int} {cl:Cl} (hc:qh h (.map (some b)) cl) (hm:qV h b mtO l c) (hno:∀ i,cl kd i = none):qh (Hp.upd h b (mtO.obj (qcw l kd,c))) (.map (some b)) cl:=by
 obtain ⟨b0,l0,c0,e0,hm0,hi,hd,hn,hr⟩:=hc
 simp only [Value.map.injEq,Option.some.injEq] at e0
 subst e0
 obtain ⟨rfl,rfl⟩:=qk1 hm hm0
 refine ⟨b,qcw l kd,c,rfl,⟨qbc,qmx hm.2⟩,fun y hy=>?_,fun x hx y hy=>hd x (qfo.1 hx).1 y (qfo.1 hy).1,fun o i ho=>?_,hr⟩
 ·obtain ⟨b3,m3,c3,f1,f2,f3,f4⟩:=hi y (qfo.1 hy).1
  exact ⟨b3,m3,c3,f1,f2,qU f2 f3,f4⟩
 ·by_cases hk:o = kd
  ·rw [hk]; exact hno i
  ·exact hn o i fun x hx hxo=>ho x (qfo.2 ⟨hx,fun h=>hk (hxo.symm.trans h)⟩) hxo
theorem qnk {h:Hp} {it:Value} {b c x c':Nat} {seen:List Nat} {mt:MT} {m:List ME} {X:Obj} (hi:qlX h it b c seen) (hm:qV h x mt m c'):qlX (Hp.upd h x X) it b c seen:=by
 obtain ⟨bi,e,hb⟩:=hi
 have hne:bi ≠ x:=fun he=>by
  rw [he] at hb
  have:=hm.1.symm.trans hb
  simp [MT.obj] at this
 exact ⟨bi,e,by rw [qja hne]; exact hb⟩
theorem qfU {h:Hp} {b bi c:Nat} {mo:Option Nat} {since st:Nat} {seen:Array Nat} {mt:MT} {m:List ME} (hb:h bi = some (.mapIter mo since seen st)) (hm:qV h b mt m c):b ≠ bi:=fun he=>by
 rw [he] at hm
 have:=hm.1.symm.trans hb
 simp [MT.obj] at this
theorem qmV {cl:Cl} {clock:Int} {o:List Int} {i:Int} (h:cl o i = none):qcA cl clock o i = none:=by unfold qcA; rw [h]
theorem q5M {h:Hp} {b c:Nat} {l:List ME} {cl:Cl} (hc:qh h (.map (some b)) cl) (hm:qV h b mtO l c) {o:List Int} (ho:∀ x ∈ l,x.k ≠ o) (i:Int):cl o i = none:=by
 obtain ⟨b0,l0,c0,e0,hm0,hi,hd,hn,hr⟩:=hc
 simp only [Value.map.injEq,Option.some.injEq] at e0
 subst e0
 obtain ⟨rfl,rfl⟩:=qk1 hm hm0
 exact hn o i ho
theorem qjp {h:Hp} {b b' c c':Nat} {l m:List ME} {e:ME} {cl:Cl} (hc:qh h (.map (some b)) cl) (hm:qV h b mtO l c) (he:e ∈ l) (hv:e.v = [.map (some b')]) (hI:qV h b' mtI m c') (i:Int):cl e.k i = qbf m i:=by
 obtain ⟨b0,l0,c0,e0,hm0,hi,hd,hn,hr⟩:=hc
 simp only [Value.map.injEq,Option.some.injEq] at e0
 subst e0
 obtain ⟨rfl,rfl⟩:=qk1 hm hm0
 obtain ⟨b2,m2,c2,e1,e2,e3,e4⟩:=hi e he
 rw [hv] at e1
 simp only [List.cons.injEq,Value.map.injEq,Option.some.injEq,and_true] at e1
 subst e1
 obtain ⟨rfl,rfl⟩:=qs3 hI e3
 exact e4 i
theorem q4b {h:Hp} {b c:Nat} {l:List ME} {e:ME} {cl:Cl} (hc:qh h (.map (some b)) cl) (hm:qV h b mtO l c) (he:e ∈ l):∃ b' m c',e.v = [.map (some b')]/\qV h b' mtI m c':=by
 obtain ⟨b0,l0,c0,e0,hm0,hi,hd,hn,hr⟩:=hc
 simp only [Value.map.injEq,Option.some.injEq] at e0
 subst e0
 obtain ⟨rfl,rfl⟩:=qk1 hm hm0
 obtain ⟨b2,m2,c2,e1,e2,e3,e4⟩:=hi e he
 exact ⟨b2,m2,c2,e1,e3⟩
section
variable {h0 H:Hp} {v it mv it2:Value} {kd:List Int} {clock:Int} {cl cl1:Cl} {b c b' c':Nat} {l m:List ME} {seen seen2:List Nat} {e:ME}
theorem q3p {bi:Nat} (hv:v = .map (some b)) (hm:qV h0 b mtO l c) (hle:Hp.le h0 H) (hit:it = .pointer (some ⟨bi,0,none⟩)) (hb:H bi = some (.mapIter (some b) c #[] c)):swO h0 H v it clock:=fun cl hc=>by
 subst hv
 refine ⟨b,l,c,[],cl,rfl,⟨bi,hit,hb⟩,qc2 hm hle,qhw hc hle,fun o ho i=>?_,fun _ _ _ _=>rfl⟩
 have hn:=q5M hc hm (o:=o) (fun x hx hk=>by cases ho x hx hk) i
 rw [qmV hn,hn]
theorem q6h (h:SwO cl H v it clock b l c seen cl1) (hall:∀ e ∈ l,e.born < c->e.born ∈ seen):qh H v (qcA cl clock):=by
 have:cl1 = qcA cl clock:=by
  funext o i
  exact h.h1 o (fun x hx _=>hall x hx (h.hm.2.1 x hx).2.2) i
 rw [<- this]; exact h.hc
theorem q31 {bj:Nat} {H2:Hp} (h:SwO cl H v it clock b l c seen cl1) (he:e ∈ l) (hn:e.born ∉ seen) (hev:e.v = [.map (some b')]) (hmv:mv = .map (some b')) (hm2:qV H b' mtI m c') {bi:Nat} (hit:it = .pointer (some ⟨bi,0,none⟩))
  (hle:Hp.le (Hp.upd H bi (.mapIter (some b) c (seen ++ [e.born]).toArray c)) H2) (hit2:it2 = .pointer (some ⟨bj,0,none⟩)) (hbj:H2 bj = some (.mapIter (some b') c' #[] c')) (hbb:bi ≠ bj):SwI cl H2 v it mv it2 e.k clock b l c (seen ++ [e.born]) cl1 e b' m c' []:=by
 obtain ⟨hv,⟨bi',hi,hb⟩,hm,hc,h1,h2⟩:=h
 rw [hit] at hi
 simp only [Value.pointer.injEq,Option.some.injEq,Addr.mk.injEq,and_true] at hi
 subst hi
 subst hv
 have hmu:=qc2 (qU (X:=.mapIter (some b) c (seen ++ [e.born]).toArray c) (qfU hb hm) hm) hle
 have hmu2:=qc2 (qU (X:=.mapIter (some b) c (seen ++ [e.born]).toArray c) (qfU hb hm2) hm2) hle
 refine ⟨rfl,⟨bi,hit,hle _ _ qbc⟩,hmu,qhw (qeJ hc hb) hle,he,rfl,by simp,hev,hmv,⟨bj,hit2,hbj⟩,hmu2,fun hh=>?_,fun o ho hx i=>h1 o (fun x hxl hxo=>?_) i,fun x hx hnx i=>h2 x hx (fun hs=>hnx (List.mem_append_left _ hs)) i,fun i hy=>?_,fun y hy _ i _=>h2 e he hn i⟩
 ·rw [hit,hit2] at hh
  simp only [Value.pointer.injEq,Option.some.injEq,Addr.mk.injEq,and_true] at hh
  exact hbb hh
 ·rcases List.mem_append.1 (hx x hxl hxo) with hs | hs
  ·exact hs
  ·rw [List.mem_singleton] at hs
   rw [qqX hm.2 hxl he hs] at hxo
   exact absurd hxo.symm ho
 ·have hg:=qjp hc hm he hev hm2 i
  have hgn:qbf m i = none:=by
   cases hq:qbf m i with
   | none=>rfl
   | some t =>
    obtain ⟨y,hym,hyk,_⟩:=qkE hq
    cases hy y hym hyk
  rw [hgn] at hg
  rw [hg,qmV]
  rw [<- h2 e he hn i]; exact hg
theorem q55 {y:ME} {z:Int} {bj:Nat} (h:SwI cl H v it mv it2 kd clock b l c seen cl1 e b' m c' seen2) (hy:y ∈ m) (hn:y.born ∉ seen2) (hz:y.k = [z]) (hcur:qcI (qQ (y.v.headD .nilFunc)) clock = true) (hit2:it2 = .pointer (some ⟨bj,0,none⟩)) :
  SwI cl (Hp.upd H bj (.mapIter (some b') c' (seen2 ++ [y.born]).toArray c')) v it mv it2 kd clock b l c seen cl1 e b' m c' (seen2 ++ [y.born]):=by
 obtain ⟨hv,⟨bi,hi,hb⟩,hm,hc,he,hk,hs,hev,hmv,⟨bj',hi2,hb2⟩,hm2,hne,h1,h2,h3,h4⟩:=h
 rw [hit2] at hi2
 simp only [Value.pointer.injEq,Option.some.injEq,Addr.mk.injEq,and_true] at hi2
 subst hi2
 subst hv
 have hbb:bi ≠ bj:=fun hh=>hne (by rw [hi,hit2,hh])
 refine ⟨rfl,⟨bi,hi,by rw [qja hbb]; exact hb⟩,qU (qfU hb2 hm) hm,qeJ hc hb2,he,hk,hs,hev,hmv,⟨bj,hit2,qbc⟩,qU (qfU hb2 hm2) hm2,hne,h1,h2,fun i hi'=>?_,fun y' hy' hn' i hk'=>h4 y' hy' (fun hs'=>hn' (List.mem_append_left _ hs')) i hk'⟩
 by_cases hiz:i = z
 ·subst hiz
  have e4:=h4 y hy hn i hz
  have hg:=qjp hc hm he hev hm2 i
  rw [hk,qfe hm2.2 hy hz] at hg
  rw [hg] at e4
  unfold qcA
  rw [<- e4,hg]
  simp only [hcur,if_true]
 ·refine h3 i fun y' hy' hk'=>?_
  rcases List.mem_append.1 (hi' y' hy' hk') with hs' | hs'
  ·exact hs'
  ·rw [List.mem_singleton] at hs'
   rw [qqX hm2.2 hy' hy hs',hz] at hk'
   exact absurd (show z = i by simpa using hk').symm hiz
theorem q5o {y:ME} {z:Int} {bj:Nat} (h:SwI cl H v it mv it2 kd clock b l c seen cl1 e b' m c' seen2) (hy:y ∈ m) (hn:y.born ∉ seen2) (hz:y.k = [z]) (hcur:qcI (qQ (y.v.headD .nilFunc)) clock = false) (hit2:it2 = .pointer (some ⟨bj,0,none⟩)) :
  SwI cl (Hp.upd (Hp.upd H bj (.mapIter (some b') c' (seen2 ++ [y.born]).toArray c')) b' (mtI.obj (qcw m [z],c'))) v it mv it2 kd clock b l c seen (fun o' i'=>if o' = kd/\i' = z then none else cl1 o' i') e b' (qcw m [z]) c' (seen2 ++ [y.born]):=by
 obtain ⟨hv,⟨bi,hi,hb⟩,hm,hc,he,hk,hs,hev,hmv,⟨bj',hi2,hb2⟩,hm2,hne,h1,h2,h3,h4⟩:=h
 rw [hit2] at hi2
 simp only [Value.pointer.injEq,Option.some.injEq,Addr.mk.injEq,and_true] at hi2
 subst hi2
 subst hv
 have hbb:bi ≠ bj:=fun hh=>hne (by rw [hi,hit2,hh])
 have hmu:=qU (X:=.mapIter (some b') c' (seen2 ++ [y.born]).toArray c') (qfU hb2 hm) hm
 have hmu2:=qU (X:=.mapIter (some b') c' (seen2 ++ [y.born]).toArray c') (qfU hb2 hm2) hm2
 have hcu:=qeJ (X:=.mapIter (some b') c' (seen2 ++ [y.born]).toArray c') hc hb2
 have hiu:qlX (Hp.upd H bj (.mapIter (some b') c' (seen2 ++ [y.born]).toArray c')) it b c seen:=⟨bi,hi,by rw [qja hbb]; exact hb⟩
 have hiu2:qlX (Hp.upd H bj (.mapIter (some b') c' (seen2 ++ [y.born]).toArray c')) it2 b' c' (seen2 ++ [y.born]):=⟨bj,hit2,qbc⟩
 have hd:=q12 (i:=z) hcu hmu he hev hmu2
 rw [hk] at hd
 have hbne:b ≠ b':=fun hh=>by
  obtain ⟨b0,l0,c0,e0,hm0,hi0,_⟩:=hc
  simp only [Value.map.injEq,Option.some.injEq] at e0
  subst e0
  obtain ⟨rfl,rfl⟩:=qk1 hm hm0
  obtain ⟨b3,m3,c3,f1,f2,_⟩:=hi0 e he
  rw [hev] at f1
  simp only [List.cons.injEq,Value.map.injEq,Option.some.injEq,and_true] at f1
  exact f2 (by rw [<- f1,hh])
 refine ⟨rfl,qnk hiu hmu2,qU hbne hmu,hd,he,hk,hs,hev,hmv,qnk hiu2 hmu2,⟨qbc,qmx hm2.2⟩,hne,fun o ho hx i=>?_,fun x hx hnx i=>?_,fun i hi'=>?_,fun y' hy' hn' i hk'=>?_⟩
 ·simp only [ho,false_and,if_false]; exact h1 o ho hx i
 ·have hxk:x.k ≠ kd:=fun hh=>hnx (by rw [qtf hm.2 hx he (hh.trans hk.symm)]; exact hs)
  simp only [hxk,false_and,if_false]; exact h2 x hx hnx i
 ·by_cases hiz:i = z
  ·subst hiz
   have e4:=h4 y hy hn i hz
   have hg:=qjp hc hm he hev hm2 i
   rw [hk,qfe hm2.2 hy hz] at hg
   rw [hg] at e4
   unfold qcA
   rw [<- e4]
   simp only [and_self,if_true,hcur,Bool.false_eq_true,if_false]
  ·simp only [hiz,and_false,if_false]
   refine h3 i fun y' hy' hk'=>?_
   have hym:y' ∈ qcw m [z]:=qfo.2 ⟨hy',fun hh=>hiz (by rw [hk'] at hh; simpa using hh)⟩
   rcases List.mem_append.1 (hi' y' hym hk') with hs' | hs'
   ·exact hs'
   ·rw [List.mem_singleton] at hs'
    rw [qqX hm2.2 hy' hy hs',hz] at hk'
    exact absurd (show z = i by simpa using hk').symm hiz
 ·have hym:=qfo.1 hy'
  have hiz:i ≠ z:=fun hh=>hym.2 (by rw [hk',hh])
  simp only [hiz,and_false,if_false]
  exact h4 y' hym.1 (fun hs'=>hn' (List.mem_append_left _ hs')) i hk'
theorem qwI (h:SwI cl H v it mv it2 kd clock b l c seen cl1 e b' m c' seen2) (hall:∀ y ∈ m,y.born < c'->y.born ∈ seen2):SwO cl H v it clock b l c seen cl1 :=
 ⟨h.hv,h.hi,h.hm,h.hc,fun o ho i=>by
  by_cases hk:o = kd
  ·rw [hk]; exact h.h3 i fun y hy _=>hall y hy (h.hm2.2.1 y hy).2.2
  ·exact h.h1 o hk ho i,h.h2⟩
theorem q6d (h:SwI cl H v it mv it2 kd clock b l c seen cl1 e b' m c' seen2) (hall:∀ y ∈ m,y.born < c'->y.born ∈ seen2) (h0:m = []):SwO cl (Hp.upd H b (mtO.obj (qcw l kd,c))) v it clock b (qcw l kd) c seen cl1:=by
 have hD:=qwI h hall
 have hv:=h.hv
 subst hv
 have hno:∀ i,cl1 kd i = none:=fun i=>by
  have:=qjp h.hc h.hm h.he h.hev h.hm2 i
  rw [h.hk,h0] at this
  exact this
 refine ⟨rfl,qnk h.hi h.hm,⟨qbc,qmx h.hm.2⟩,q0Y h.hc h.hm hno,fun o ho i=>hD.h1 o (fun x hx hxo=>?_) i,fun x hx hnx i=>h.h2 x (qfo.1 hx).1 hnx i⟩
 by_cases hk:x.k = kd
 ·rw [qtf h.hm.2 hx h.he (hk.trans h.hk.symm)]; exact h.hs
 ·exact ho x (qfo.2 ⟨hx,hk⟩) hxo
theorem qwG (hc:qh h0 v cl) (h:SwO cl H v it clock b l c seen cl1):swO h0 H v it clock:=fun cl' h'=>by
 rw [qcc hc h']; exact ⟨b,l,c,seen,cl1,h⟩
theorem qnq (hc:qh h0 v cl) (h:SwI cl H v it mv it2 kd clock b l c seen cl1 e b' m c' seen2):swI h0 H v it mv it2 kd clock:=fun cl' h'=>by
 rw [qcc hc h']; exact ⟨b,l,c,seen,cl1,e,b',m,c',seen2,h⟩
end
theorem qvL {mt:MT} {m:List ME} {c:Nat} (hM:MWf mt m c) {e:ME} (he:e ∈ m) {seen:List Nat} (hn:e.born ∉ seen):(m.filter fun x=>(seen ++ [e.born]).contains x.born).Perm ((m.filter fun x=>seen.contains x.born) ++ [e]):=by
 obtain ⟨s,t,rfl⟩:=List.append_of_mem he
 have hs:∀ x ∈ s ++ t,x.born ≠ e.born:=fun x hx hb=>by
  have hp:=hM.2
  rw [List.pairwise_append] at hp
  obtain ⟨_,p2,p3⟩:=hp
  rcases List.mem_append.1 hx with h | h
  ·have:=(p3 x h e (List.mem_cons_self ..)).1; omega
  ·have:=((List.pairwise_cons.1 p2).1 x h).1; omega
 have hf:∀ q:List ME,(∀ x ∈ q,x.born ≠ e.born)->(q.filter fun x=>(seen ++ [e.born]).contains x.born) = q.filter fun x=>seen.contains x.born:=fun q hq=>List.filter_congr fun x hx=>by
  have:=hq x hx
  by_cases h:x.born ∈ seen <;> simp [h,this]
 rw [List.filter_append,List.filter_append,List.filter_cons_of_pos (by simp),List.filter_cons_of_neg (by simpa using hn),hf s fun x hx=>hs x (List.mem_append_left _ hx),hf t fun x hx=>hs x (List.mem_append_right _ hx),List.append_assoc]
 exact List.Perm.append_left _ (List.perm_append_singleton e _).symm
theorem qvM {l l':List Int} (hp:l.Perm l') (h1:l.Pairwise (· <= ·)) (h2:l'.Pairwise (· <= ·)):l = l':=hp.eq_of_pairwise (fun a b _ _ hab hba=>Int.le_antisymm hab hba) h1 h2
theorem qfO {l:List Int}:(qc5 l).Perm l:=List.mergeSort_perm l _
theorem q2Z {l:List Int}:(qc5 l).Pairwise (· <= ·):=by
 have:=List.pairwise_mergeSort (le:=fun x y:Int=>decide (x <= y)) (fun a b c h1 h2=>by simp only [decide_eq_true_eq] at *; omega) (fun a b=>by simp only [Bool.or_eq_true,decide_eq_true_eq]; omega) l
 exact this.imp fun h=>by simpa using h
theorem q3Z:((List.range 16).map Int.ofNat).Pairwise (· <= ·):=by decide
theorem q2o:((List.range 16).map Int.ofNat).Nodup:=by decide
theorem qhL {cl:Cl} {o:List Int} {m:List ME} {c:Nat} {L:List Int} (hM:MWf mtI m c) (he:∀ i,cl o i = qbf m i) (hr:∀ o i t,cl o i = some t->0 <= i/\i < 16/\0 <= t/\t < 18446744073709551616) (hL:L.Perm (m.map fun e=>e.k.headD 0)):qc5 L = qej cl o:=by
 refine qvM (qfO.trans (hL.trans ?_)) q2Z (q3Z.filter _)
 refine (List.perm_ext_iff_of_nodup ?_ (q2o.filter _)).2 fun z=>?_
 ·have hp:=hM.2
  refine List.pairwise_map.2 (List.Pairwise.imp_of_mem (fun {a b} ha hb hab hh=>hab.2 ?_) hp)
  obtain ⟨x,hx⟩:=qfk hM ha
  obtain ⟨y,hy⟩:=qfk hM hb
  rw [hx,hy] at hh ⊢
  simpa using hh
 ·rw [List.mem_map,List.mem_filter]
  constructor
  ·rintro ⟨e,hem,rfl⟩
   obtain ⟨z,hz⟩:=qfk hM hem
   have hg:=(he z).trans (qfe hM hem hz)
   obtain ⟨z0,z1,_⟩:=hr _ _ _ hg
   rw [hz]
   refine ⟨List.mem_map.2 ⟨z.toNat,List.mem_range.2 (by omega),?_⟩,?_⟩
   ·show ((z.toNat:Nat):Int) = z
    omega
   ·show (cl o z).isSome = true
    rw [hg]; rfl
  ·rintro ⟨_,hs⟩
   obtain ⟨t,ht⟩:=Option.isSome_iff_exists.1 hs
   obtain ⟨e,hem,hk,_⟩:=qkE ((he z).symm.trans ht)
   exact ⟨e,hem,by rw [hk]; rfl⟩
section
variable {h0 H:Hp} {v it:Value} {o L:List Int} {cl:Cl}
theorem qrX {bi:Nat} (hc:qh h0 v cl) (hno:∀ i,cl o i = none) (hle:Hp.le h0 H) (hit:it = .pointer (some ⟨bi,0,none⟩)) (hb:H bi = some (.mapIter none 0 #[] 0)):ctI h0 H v it o []:=fun cl' h'=>by
 rw [qcc hc h']
 exact ⟨qhw hc hle,[],[],⟨bi,none,0,0,hit,hb,.inl ⟨rfl,rfl⟩⟩,fun i=>by rw [hno]; rfl,fun _=>rfl,List.Perm.refl _⟩
theorem qsb {bi b c:Nat} {m:List ME} (hc:qh h0 v cl) (hm:qV h0 b mtI m c) (he:∀ i,cl o i = qbf m i) (hle:Hp.le h0 H) (hit:it = .pointer (some ⟨bi,0,none⟩)) (hb:H bi = some (.mapIter (some b) c #[] c)):ctI h0 H v it o []:=fun cl' h'=>by
 rw [qcc hc h']
 have hmH:=qc2 hm hle
 refine ⟨qhw hc hle,m,[],⟨bi,some b,c,c,hit,hb,.inr ⟨b,c,rfl,(qfU hb hmH).symm,hmH,Nat.le_refl _,.inl rfl,fun n hn=>by cases hn⟩⟩,he,fun _=>rfl,?_⟩
 have:(m.filter fun e=>([]:List Nat).contains e.born) = []:=by simp
 rw [this]; exact List.Perm.refl _
theorem q5t {bi b since st c:Nat} {m:List ME} {seen:List Nat} {e:ME} {L':List Int} (hc:qh h0 v cl) (hcH:qh H v cl) (hit:it = .pointer (some ⟨bi,0,none⟩)) (hb:H bi = some (.mapIter (some b) since seen.toArray st)) (hm:qV H b mtI m c) (hcs:c <= since) (hseen:∀ n ∈ seen,∃ e ∈ m,e.born = n)
  (he:∀ i,cl o i = qbf m i) (hem:e ∈ m) (hn:e.born ∉ seen) (hx:L.Perm ((m.filter fun e=>seen.contains e.born).map fun e=>e.k.headD 0)) (hy:L' = L ++ [e.k.headD 0]):ctI h0 (Hp.upd H bi (.mapIter (some b) since (seen ++ [e.born]).toArray c)) v it o L':=fun cl' h'=>by
 rw [qcc hc h']
 have hne:=(qfU hb hm).symm
 refine ⟨qeJ hcH hb,m,seen ++ [e.born],⟨bi,some b,since,c,hit,qbc,.inr ⟨b,c,rfl,hne,qU (Ne.symm hne) hm,hcs,.inr (.inr ⟨e,hem,(hm.2.1 e hem).2.2⟩),fun n hn=>?_⟩⟩,he,fun h=>(by rw [h] at hem; cases hem),?_⟩
 ·rcases List.mem_append.1 hn with h | h
  ·exact hseen n h
  ·rw [List.mem_singleton] at h; exact ⟨e,hem,h.symm⟩
 ·rw [hy]
  refine (List.Perm.append_right _ hx).trans ?_
  have:=((qvL hm.2 hem hn).map fun e=>e.k.headD 0).symm
  rwa [List.map_append] at this
end
end Go.Proofs

namespace Go.Proofs
open Go.Shelf
def qsS:Go.Shelf.Ren:=⟨fun | 189=>103 | 125=>120 | 257=>130 | 128=>148 | 129=>149 | 294=>155 | 295=>156 | 296=>157 | 297=>158 | 298=>159 | 299=>160 | 216=>161 | 300=>162 | 301=>163 | 328=>180 | 329=>173 | 330=>174 | 331=>181 | 332=>182 | 215=>183 | 343=>189 | n=>n,fun | 28=>29 | 3=>3 | 46=>187 | 0=>0 | 51=>131 | 53=>113 | 4=>4 | 183=>234 | 182=>233 | 131=>238 | 5=>5 | 9=>9 | 218=>258 | 222=>262 | 228=>271 | 229=>272 | n=>n,fun | n=>n⟩
theorem qvs:Lays.n189 Tryz.prog qsS:={
 mixed:=by kernel_rfl
 f125:=Tryz.func120.trans (congrArg some (by kernel_rfl))
 f128:=Tryz.func148.trans (congrArg some (by kernel_rfl))
 f129:=Tryz.func149.trans (congrArg some (by kernel_rfl))
 f189:=Tryz.func103.trans (congrArg some (by kernel_rfl))
 f215:=Tryz.func183.trans (congrArg some (by kernel_rfl))
 f216:=Tryz.func161.trans (congrArg some (by kernel_rfl))
 f257:=Tryz.func130.trans (congrArg some (by kernel_rfl))
 f294:=Tryz.func155.trans (congrArg some (by kernel_rfl))
 f295:=Tryz.func156.trans (congrArg some (by kernel_rfl))
 f296:=Tryz.func157.trans (congrArg some (by kernel_rfl))
 f297:=Tryz.func158.trans (congrArg some (by kernel_rfl))
 f298:=Tryz.func159.trans (congrArg some (by kernel_rfl))
 f299:=Tryz.func160.trans (congrArg some (by kernel_rfl))
 f300:=Tryz.func162.trans (congrArg some (by kernel_rfl))
 f301:=Tryz.func163.trans (congrArg some (by kernel_rfl))
 f328:=Tryz.func180.trans (congrArg some (by kernel_rfl))
 f329:=Tryz.func173.trans (congrArg some (by kernel_rfl))
 f330:=Tryz.func174.trans (congrArg some (by kernel_rfl))
 f331:=Tryz.func181.trans (congrArg some (by kernel_rfl))
 f332:=Tryz.func182.trans (congrArg some (by kernel_rfl))
 f343:=Tryz.func189.trans (congrArg some (by kernel_rfl))
 t0:=Tryz.underlying0
 a0:=Tryz.isAgg0
 z0:=Tryz.sizeOf0
 v0:=Tryz.zeroValue0
 t3:=Tryz.underlying3
 a3:=Tryz.isAgg3
 z3:=Tryz.sizeOf3
 v3:=Tryz.zeroValue3
 t4:=Tryz.underlying4
 a4:=Tryz.isAgg4
 z4:=Tryz.sizeOf4
 v4:=Tryz.zeroValue4
 t5:=Tryz.underlying5
 a5:=Tryz.isAgg5
 z5:=Tryz.sizeOf5
 v5:=Tryz.zeroValue5
 t9:=Tryz.underlying9
 a9:=Tryz.isAgg9
 z9:=Tryz.sizeOf9
 v9:=Tryz.zeroValue9
 t28:=Tryz.underlying29
 a28:=Tryz.isAgg29
 z28:=Tryz.sizeOf29
 v28:=Tryz.zeroValue29
 t46:=Tryz.underlying187
 a46:=Tryz.isAgg187
 z46:=Tryz.sizeOf187
 v46:=Tryz.zeroValue187
 t51:=Tryz.underlying131
 a51:=Tryz.isAgg131
 z51:=Tryz.sizeOf131
 v51:=Tryz.zeroValue131
 t53:=Tryz.underlying113
 a53:=Tryz.isAgg113
 z53:=Tryz.sizeOf113
 v53:=Tryz.zeroValue113
 t131:=Tryz.underlying238
 a131:=Tryz.isAgg238
 z131:=Tryz.sizeOf238
 v131:=Tryz.zeroValue238
 t182:=Tryz.underlying233
 a182:=Tryz.isAgg233
 z182:=Tryz.sizeOf233
 v182:=Tryz.zeroValue233
 t183:=Tryz.underlying234
 a183:=Tryz.isAgg234
 z183:=Tryz.sizeOf234
 v183:=Tryz.zeroValue234
 t218:=Tryz.underlying258
 a218:=Tryz.isAgg258
 z218:=Tryz.sizeOf258
 v218:=Tryz.zeroValue258
 t222:=Tryz.underlying262
 a222:=Tryz.isAgg262
 z222:=Tryz.sizeOf262
 v222:=Tryz.zeroValue262
 t228:=Tryz.underlying271
 a228:=Tryz.isAgg271
 z228:=Tryz.sizeOf271
 v228:=Tryz.zeroValue271
 t229:=Tryz.underlying272
 a229:=Tryz.isAgg272
 z229:=Tryz.sizeOf272
 v229:=Tryz.zeroValue272 }
end Go.Proofs

set_option linter.unusedSimpArgs false
set_option linter.unusedVariables false
namespace Go.Proofs
open Go Go.Eng Go.Shelf Go.RowKit Go.Lib Go.Sort
theorem qwk (b cap:Nat) (zs:List Int) (w:World) (hH:Holds (Value.int .i64) w b 0 zs.toArray) (hb:b < w.heap.size) (hsz:zs.length < 4611686018427387904) :
  Calls Tryz.prog 103 #[.slice (some ⟨b,0,none⟩) zs.length cap] w fun e w'=>e = .returned (.tuple #[])/\∃ n os,w' = grow (putRow (Value.int .i64) (Go.Sort.ahead w n) b 0 (zs.mergeSort fun x y=>decide (x <= y)).toArray) os:=Any.slices_Sort_int qvs b 0 cap zs w hH hb hsz
theorem qtB (p:Option Addr) (cap:Nat) (w:World):Calls Tryz.prog 103 #[.slice p 0 cap] w fun e w'=>e = .returned (.tuple #[])/\w' = w:=Any.slices_Sort_int_none qvs p cap w
theorem qxU {zs:List Int} {w:World} {b:Nat} {c:Array Value} {ty:TypeId} (hb:w.heap[b]? = some (.cells c ty (0,0))) (hr:qS c 0 kI (zs.map qdN)):Holds (Value.int .i64) w b 0 zs.toArray:=by
 intro j hj
 have hj:j < zs.length:=by simpa using hj
 have hrow:(zs.map qdN)[j]? = some (qdN zs[j]):=by rw [List.getElem?_map,List.getElem?_eq_getElem hj]; rfl
 have hv:=(hr _ _ hrow).2 0 (.int .i64 zs[j]) rfl
 have hlen:kI.length = 1:=rfl
 rw [hlen,show 0 + j * 1 + 0 = j by omega] at hv
 refine ⟨?_,by simp [World.frozen?,hb]⟩
 show w.cell? ⟨b,0 + j,none⟩ = some (.int .i64 (zs.toArray[j]!))
 simp only [World.cell?,hb,Nat.zero_add]
 rw [hv,getElem!_pos zs.toArray j (by simpa using hj)]; rfl
theorem q29 {zs:List Int} {c:Array Value} (hc:zs.length <= c.size):qS (putCells (Value.int .i64) 0 zs.toArray c) 0 kI (zs.map qdN):=by
 intro i row hi
 rw [List.getElem?_map] at hi
 obtain ⟨x,hx,rfl⟩:=Option.map_eq_some_iff.1 hi
 obtain ⟨hl,hx⟩:=List.getElem?_eq_some_iff.1 hx
 refine ⟨⟨rfl,fun c k v hk hv=>?_⟩,fun k v hv=>?_⟩
 ·cases c with
  | zero=>simp only [kI,qdN,List.getElem?_cons_zero,Option.some.injEq] at hk hv; subst hk hv; rfl
  | succ c=>simp [kI] at hk
 ·cases k with
  | succ k=>simp [qdN] at hv
  | zero =>
   simp only [qdN,List.getElem?_cons_zero,Option.some.injEq] at hv
   subst hv
   have hlen:kI.length = 1:=rfl
   rw [hlen,show 0 + i * 1 + 0 = i by omega]
   unfold putCells
   rw [Array.getElem?_mapIdx,Array.getElem?_eq_getElem (by omega),Option.map_some,if_pos ⟨by omega,by simpa using hl⟩,Nat.sub_zero,getElem!_pos zs.toArray i (by simpa using hl)]
   simp [hx]
theorem q7e {k:IntKind} {v:Value} (h:CK.fits (.int k) v = true):∃ z,v = .int k z:=by
 cases v <;> simp [CK.fits] at h
 subst h; exact ⟨_,rfl⟩
theorem qrt:∀ {d:qf},(∀ row ∈ d,q6 kI row)->d = (qn d).map qdN
 | [],_=>rfl
 | row :: d,h=>by
  have hf:=h row (List.mem_cons_self ..)
  match row,hf with
  | [v],hf =>
   obtain ⟨z,rfl⟩:=q7e (hf.2 0 (.int .i64) v rfl rfl)
   rw [show qn ([.int .i64 z] :: d) = z :: qn d from rfl,List.map_cons,<- qrt fun r hr=>h r (List.mem_cons_of_mem _ hr)]; rfl
  | [],hf=>exact absurd hf.1 (by simp [kI])
  | _ :: _ :: _,hf=>exact absurd hf.1 (by simp [kI])
theorem q1w {l:List Int}:qn (l.map qdN) = l:=by
 unfold qn
 rw [List.map_map]
 conv=>rhs; rw [<- List.map_id l]
 exact List.map_congr_left fun x _=>rfl
theorem q2k:qdz.ok Tryz.prog:=by
 refine ⟨fun args w=>Tryz.call103 args w,fun ρ w hF hO hg hd hw hs hro hp=>?_⟩
 obtain ⟨hb1,L,⟨hl,hLd,hrw⟩,hL16⟩:=hp
 obtain ⟨h1,h2,hdis,hu,harr,_⟩:=hs
 have hlenD:(ρ 3).d.length = L.length:=by rw [<- hLd]; simp [qn]
 have hlen:(ρ 1).i = L.length:=by rw [hl,hlenD]
 have key:∀ (w':World) (hO':Hp),Hp.disj hF.h hO'->SH.den (ρ.set 4 { d:=(qc5 L).map qdN }) (iHp 0 4 2) hO'->(Hp.union hF.h hO').sub w'->hF.wi w' ->
   ∃ (ai:Nat) (al:Alt) (ρ':Env),qdz.alts[ai]? = some al/\ρ'.good/\(∀ n,n < qdz.nv->ρ' n = ρ n)/\(Ending.returned (.tuple #[]):Ending) = .returned (al.ret.den ρ')/\al.post (ρ'.upto (qdz.nv + al.k))/\qs ρ' hF al.heap w':=by
  intro w' hO' a1 a2 a3 a4
  have hgood:({ d:=(qc5 L).map qdN }:U).good:=⟨rfl,fun row hr v hv=>by
   obtain ⟨x,_,rfl⟩:=List.mem_map.1 hr
   rw [List.mem_singleton.1 hv]; rfl⟩
  refine ⟨0,_,ρ.set 4 { d:=(qc5 L).map qdN },rfl,fun n=>?_,fun n hn=>Env.set_ne _ _ (by have:n < 4:=hn; omega),rfl,?_,hO',a1,⟨hO',Hp.emp,fun _=>.inr rfl,?_,a2,trivial⟩,a3,a4⟩
  ·by_cases hn:n = 4
   ·subst hn; rw [Env.set_same]; exact hgood
   ·rw [Env.set_ne _ _ hn]; exact hg n
  ·intro L' hD'
   obtain ⟨q1,q2,q3⟩:=hD'
   have q2:qn (ρ 3).d = L':=q2
   obtain rfl:L = L':=hLd.symm.trans q2
   show qaO ((qc5 L).map qdN) (ρ 1).i (qc5 L)
   refine ⟨?_,q1w,fun row hr=>?_⟩
   ·rw [hlen,List.length_map,qfO.length_eq]
   ·obtain ⟨x,_,rfl⟩:=List.mem_map.1 hr; rfl
  ·funext b
   simp only [Hp.union,Hp.emp]
   cases hO' b <;> rfl
 rcases harr with ⟨hr,hd0,hc0⟩ | ⟨b,c,hr,hb,hcs,hcap,hrows⟩
 ·have hL0:L = []:=by
   have e:(ρ 3).d = []:=hd0
   rw [e] at hLd
   exact hLd.symm
  subst hL0
  have hargs:(List.map (SV.den ρ) qdz.args).toArray = #[.slice none 0 (ρ 2).i.toNat]:=by
   have hr':(ρ 0).r = none:=hr
   simp [qdz,isS,SV.den,qb,T.den,O0.den,O3.den,hr',hlen,qm]
  rw [hargs]
  refine (qtB none _ w).mono fun e w' h=>?_
  obtain ⟨rfl,rfl⟩:=h
  refine key _ hO hd (.inl ⟨?_,?_,?_⟩) hw.1 hw.2
  ·rw [Env.set_ne _ _ (by decide)]; exact hr
  ·show ((ρ.set 4 _) 4).d = []
   rw [Env.set_same]; simp [qc5]
  ·show ((ρ.set 4 _) 2).i = 0
   rw [Env.set_ne _ _ (by decide)]; exact hc0
 ·have hbO:hO b = some (.cells c 3 (0,0)):=by rw [hu]; simp [Hp.union,hb]
  have hbw:w.heap[b]? = some (.cells c 3 (0,0)):=hw.1 _ _ (by
   unfold Hp.union
   rcases hd b with h | h
   ·rw [h]; exact hbO
   ·rw [hbO] at h; cases h)
  have hblt:b < w.heap.size:=(Array.getElem?_eq_some_iff.1 hbw).1
  have hdL:(ρ 3).d = L.map qdN:=by
   rw [<- hLd]
   exact qrt fun row hr'=>by
    obtain ⟨j,hj⟩:=List.getElem?_of_mem hr'
    exact (hrows j row hj).1
  have hrows':qS c 0 kI (L.map qdN):=by
   have h:=hrows
   rw [show (T.den ρ (.var 3)).d = (ρ 3).d from rfl,hdL] at h
   exact h
  have hcs':c.size = (ρ 2).i.toNat * 1:=hcs
  have hcap':((ρ 3).d.length:Int) <= (ρ 2).i:=hcap
  rw [hlenD] at hcap'
  have hH:=qxU hbw hrows'
  have hargs:(List.map (SV.den ρ) qdz.args).toArray = #[.slice (some ⟨b,0,none⟩) L.length (ρ 2).i.toNat]:=by
   have hr':(ρ 0).r = some ⟨b,0,none⟩:=hr
   simp [qdz,isS,SV.den,qb,T.den,O0.den,O3.den,hr',hlen,qm]
  rw [hargs]
  refine (qwk b _ L w hH hblt (by omega)).mono fun e w' h=>?_
  obtain ⟨rfl,n,os,rfl⟩:=h
  have hsl:(qc5 L).length <= c.size:=by
   rw [hcs',qfO.length_eq]; omega
  refine key _ (Hp.upd hO b (.cells (putCells (Value.int .i64) 0 (qc5 L).toArray c) 3 (0,0))) (fun x=>?_) (.inr ⟨b,putCells (Value.int .i64) 0 (qc5 L).toArray c,?_,?_,?_,?_,?_⟩) (fun x X hX=>?_) ?_
  ·by_cases hx:x = b
   ·subst hx
    rcases hd x with h | h
    ·exact .inl h
    ·rw [hbO] at h; cases h
   ·unfold Hp.upd; rw [if_neg hx]; exact hd x
  ·rw [Env.set_ne _ _ (by decide)]; exact hr
  ·unfold Hp.upd; rw [if_pos rfl]
  ·show (putCells (Value.int .i64) 0 _ c).size = ((ρ.set 4 _) 2).i.toNat * 1
   rw [Env.set_ne _ _ (by decide),<- hcs']
   simp [putCells]
  ·show ((((ρ.set 4 { d:=(qc5 L).map qdN }) 4).d.length:Nat):Int) <= ((ρ.set 4 _) 2).i
   rw [Env.set_same,Env.set_ne _ _ (by decide),List.length_map,qfO.length_eq]; exact hcap'
  ·show qS _ 0 kI ((ρ.set 4 { d:=(qc5 L).map qdN }) 4).d
   rw [Env.set_same]
   exact q29 hsl
  ·have hlt:=hblt
   by_cases hx:x = b
   ·subst hx
    have hFn:hF.h x = none:=by
     rcases hd x with h | h
     ·exact h
     ·rw [hbO] at h; cases h
    simp only [Hp.union,hFn,Hp.upd,if_true,Option.none_or,Option.some.injEq] at hX
    rw [<- hX]
    unfold grow putRow mapBlock
    have e:(Go.Sort.ahead w n).heap = w.heap:=rfl
    simp only [e]
    rw [Array.getElem?_append_left (by simpa using hlt),Array.getElem?_modify,if_pos rfl,hbw]; rfl
   ·have hX':Hp.union hF.h hO x = some X:=by
     simpa [Hp.union,Hp.upd,hx] using hX
    have hxw:=hw.1 _ _ hX'
    have hlt:x < w.heap.size:=(Array.getElem?_eq_some_iff.1 hxw).1
    unfold grow putRow mapBlock
    have e:(Go.Sort.ahead w n).heap = w.heap:=rfl
    simp only [e]
    rw [Array.getElem?_append_left (by simpa using hlt),Array.getElem?_modify,if_neg (Ne.symm hx),hxw]
  ·exact hw.2
end Go.Proofs

set_option linter.unusedSimpArgs false
set_option linter.unusedVariables false
set_option maxRecDepth 100000
namespace Go.Proofs
open Go Go.Eng

def qiD:Out:=(.fresh 4 (.fresh 5 (.both (.mop (.get (.var 2) [(.c2 (.xint 0) (.var 1) (.lit 0)),(.c2 (.xint 1) (.var 1) (.lit 0)),(.c2 (.xint 2) (.var 1) (.lit 0)),(.c2 (.xint 3) (.var 1) (.lit 0)),(.c2 (.xint 4) (.var 1) (.lit 0)),(.c2 (.xint 5) (.var 1) (.lit 0)),(.c2 (.xint 6) (.var 1) (.lit 0)),(.c2 (.xint 7) (.var 1) (.lit 0)),(.c2 (.xint 8) (.var 1) (.lit 0)),(.c2 (.xint 9) (.var 1) (.lit 0)),(.c2 (.xint 10) (.var 1) (.lit 0)),(.c2 (.xint 11) (.var 1) (.lit 0)),(.c2 (.xint 12) (.var 1) (.lit 0)),(.c2 (.xint 13) (.var 1) (.lit 0)),(.c2 (.xint 14) (.var 1) (.lit 0)),(.c2 (.xint 15) (.var 1) (.lit 0)),(.c2 (.xint 16) (.var 1) (.lit 0)),(.c2 (.xint 17) (.var 1) (.lit 0)),(.c2 (.xint 18) (.var 1) (.lit 0)),(.c2 (.xint 19) (.var 1) (.lit 0)),(.c2 (.xint 20) (.var 1) (.lit 0)),(.c2 (.xint 21) (.var 1) (.lit 0)),(.c2 (.xint 22) (.var 1) (.lit 0)),(.c2 (.xint 23) (.var 1) (.lit 0)),(.c2 (.xint 24) (.var 1) (.lit 0)),(.c2 (.xint 25) (.var 1) (.lit 0)),(.c2 (.xint 26) (.var 1) (.lit 0)),(.c2 (.xint 27) (.var 1) (.lit 0)),(.c2 (.xint 28) (.var 1) (.lit 0)),(.c2 (.xint 29) (.var 1) (.lit 0)),(.c2 (.xint 30) (.var 1) (.lit 0)),(.c2 (.xint 31) (.var 1) (.lit 0))] ⟨true,[.u8,.u8,.u8,.u8,.u8,.u8,.u8,.u8,.u8,.u8,.u8,.u8,.u8,.u8,.u8,.u8,.u8,.u8,.u8,.u8,.u8,.u8,.u8,.u8,.u8,.u8,.u8,.u8,.u8,.u8,.u8,.u8],false,[CK.any],[.vnilm]⟩ [3]) 6 (.both (.mop (.range (.vcell (.var 6) (.lit 0) 0) ⟨false,[.i64],false,[CK.int .u64],[(.vint .u64 (.lit 0))]⟩ [3]) 7 (.pack [.abs 7 1003,.abs 3 1003] 9 (.inv 0 10 (sg 1000 [bg 1005 9,bt 1003 .dnil,bv 1004 8,bt 1002 (.lit 0),bt 1001 (.lit 0),bg 1000 5]) (.fresh 10 (.fresh 11 (.fresh 12 (.fresh 13 (.fresh 14 (.fresh 15 (.hyp 0 10 (.mop (.next 15 (.var 14) ⟨false,[.i64],false,[CK.int .u64],[(.vint .u64 (.lit 0))]⟩ [15]) 16 (.mop (.entry 16 (.var 14) ⟨false,[.i64],false,[CK.int .u64],[(.vint .u64 (.lit 0))]⟩ [16]) 19 (.fresh 21 (.need (.cmp .eql (.var 11) (.dlen (.var 13))) (.need (.cmp .leq (.tims (.lit 8) (.plus (.var 11) (.lit 1))) (.lit 140737488355328)) (.fresh 22 (.fresh 23 (.back 0 10 (sg 1000 [bg 1005 16,bt 1003 (.dapp (.var 13) (.rcons (.vint .i64 (.c2 (.xint 0) (.var 19) (.lit 0))) .rnil)),bv 1004 14,bv 1002 23,bt 1001 (.plus (.var 11) (.lit 1)),bg 1000 22]))))))) .top) (.pre 0 (sg 0 [bv 3 13,bv 2 12,bv 1 11,bg 0 10]) (.both (.fresh 16 (.post 0 0 (sg 0 [bv 3 13,bv 2 12,bv 1 11,bg 0 10]) 16 (.ret 0 (sg 4 [bg 8 15,bv 7 16,bv 6 12,bv 5 11,bg 4 10])))) .top)))))))))))) .top) .top) .top) .top)))
theorem qp7:ql ⟨Tryz.prog,qb9,[qdz],[qjB]⟩ 100000 Tryz.f66 = qiD:=by kernel_rfl
theorem qsB (hd:∀ c ∈ ([qdz]:List Ctr),c.ok Tryz.prog) (h:∀ ρ:Env,ρ.good->(qb9).pre ρ->qiD.den ⟨Tryz.prog,qb9,[qdz],[qjB]⟩ ρ):(qb9).ok Tryz.prog :=
 qe Tryz.func66 (fun a w=>Tryz.call66 a w) hd 100000 (fun ρ hg hp=>by rw [qp7]; exact h ρ hg hp)
def qqm:Out:=(.mop (.range (.var 2) ⟨true,[.u8,.u8,.u8,.u8,.u8,.u8,.u8,.u8,.u8,.u8,.u8,.u8,.u8,.u8,.u8,.u8,.u8,.u8,.u8,.u8,.u8,.u8,.u8,.u8,.u8,.u8,.u8,.u8,.u8,.u8,.u8,.u8],false,[CK.any],[.vnilm]⟩ [3]) 4 (.pack [.abs 4 1003,.abs 3 1003] 6 (.inv 0 7 (sg 1000 [bg 1001 6,bv 1000 5]) (.fresh 7 (.fresh 8 (.hyp 0 7 (.mop (.next 8 (.var 7) ⟨true,[.u8,.u8,.u8,.u8,.u8,.u8,.u8,.u8,.u8,.u8,.u8,.u8,.u8,.u8,.u8,.u8,.u8,.u8,.u8,.u8,.u8,.u8,.u8,.u8,.u8,.u8,.u8,.u8,.u8,.u8,.u8,.u8],false,[CK.any],[.vnilm]⟩ [8]) 9 (.mop (.entry 9 (.var 7) ⟨true,[.u8,.u8,.u8,.u8,.u8,.u8,.u8,.u8,.u8,.u8,.u8,.u8,.u8,.u8,.u8,.u8,.u8,.u8,.u8,.u8,.u8,.u8,.u8,.u8,.u8,.u8,.u8,.u8,.u8,.u8,.u8,.u8],false,[CK.any],[.vnilm]⟩ [9]) 12 (.fresh 14 (.mop (.range (.vcell (.var 13) (.lit 0) 0) ⟨false,[.i64],false,[CK.int .u64],[(.vint .u64 (.lit 0))]⟩ [9]) 15 (.pack [.abs 15 1003,.abs 9 1003] 17 (.inv 1 18 (sg 1000 [bg 1005 17,bt 1001 (r8 12),bv 1004 16,bt 1003 (.vcell (.var 13) (.lit 0) 0),bg 1000 14,bv 1002 7]) (.fresh 18 (.fresh 19 (.fresh 20 (.fresh 21 (.fresh 22 (.fresh 23 (.hyp 1 18 (.mop (.next 23 (.var 22) ⟨false,[.i64],false,[CK.int .u64],[(.vint .u64 (.lit 0))]⟩ [23]) 24 (.mop (.entry 24 (.var 22) ⟨false,[.i64],false,[CK.int .u64],[(.vint .u64 (.lit 0))]⟩ [24]) 27 (.pre 0 (sg 0 [bv 1 1,bt 0 (.c2 (.xint 0) (.var 28) (.lit 0))]) (.both (.fresh 29 (.post 0 0 (sg 0 [bv 1 1,bt 0 (.c2 (.xint 0) (.var 28) (.lit 0))]) 29 (.br (.not (.var 29))
 (.mop (.del 24 (.var 21) [(.c2 (.xint 0) (.var 27) (.lit 0))] ⟨false,[.i64],false,[CK.int .u64],[(.vint .u64 (.lit 0))]⟩) 30 (.back 1 18 (sg 1000 [bg 1005 30,bt 1001 (r8 19),bv 1004 22,bv 1003 21,bg 1000 18,bv 1002 20])) .top)
 (.back 1 18 (sg 1000 [bg 1005 24,bt 1001 (r8 19),bv 1004 22,bv 1003 21,bg 1000 18,bv 1002 20]))))) .top)) .top) (.mop (.len (.var 21) ⟨false,[.i64],false,[CK.int .u64],[(.vint .u64 (.lit 0))]⟩ [23]) 24 (.br (.cmp .eql (.var 24) (.lit 0))
 (.both (.mop (.del 23 (.var 2) [(.c2 (.xint 0) (.var 19) (.lit 0)),(.c2 (.xint 1) (.var 19) (.lit 0)),(.c2 (.xint 2) (.var 19) (.lit 0)),(.c2 (.xint 3) (.var 19) (.lit 0)),(.c2 (.xint 4) (.var 19) (.lit 0)),(.c2 (.xint 5) (.var 19) (.lit 0)),(.c2 (.xint 6) (.var 19) (.lit 0)),(.c2 (.xint 7) (.var 19) (.lit 0)),(.c2 (.xint 8) (.var 19) (.lit 0)),(.c2 (.xint 9) (.var 19) (.lit 0)),(.c2 (.xint 10) (.var 19) (.lit 0)),(.c2 (.xint 11) (.var 19) (.lit 0)),(.c2 (.xint 12) (.var 19) (.lit 0)),(.c2 (.xint 13) (.var 19) (.lit 0)),(.c2 (.xint 14) (.var 19) (.lit 0)),(.c2 (.xint 15) (.var 19) (.lit 0)),(.c2 (.xint 16) (.var 19) (.lit 0)),(.c2 (.xint 17) (.var 19) (.lit 0)),(.c2 (.xint 18) (.var 19) (.lit 0)),(.c2 (.xint 19) (.var 19) (.lit 0)),(.c2 (.xint 20) (.var 19) (.lit 0)),(.c2 (.xint 21) (.var 19) (.lit 0)),(.c2 (.xint 22) (.var 19) (.lit 0)),(.c2 (.xint 23) (.var 19) (.lit 0)),(.c2 (.xint 24) (.var 19) (.lit 0)),(.c2 (.xint 25) (.var 19) (.lit 0)),(.c2 (.xint 26) (.var 19) (.lit 0)),(.c2 (.xint 27) (.var 19) (.lit 0)),(.c2 (.xint 28) (.var 19) (.lit 0)),(.c2 (.xint 29) (.var 19) (.lit 0)),(.c2 (.xint 30) (.var 19) (.lit 0)),(.c2 (.xint 31) (.var 19) (.lit 0))] ⟨true,[.u8,.u8,.u8,.u8,.u8,.u8,.u8,.u8,.u8,.u8,.u8,.u8,.u8,.u8,.u8,.u8,.u8,.u8,.u8,.u8,.u8,.u8,.u8,.u8,.u8,.u8,.u8,.u8,.u8,.u8,.u8,.u8],false,[CK.any],[.vnilm]⟩) 25 (.back 0 7 (sg 1000 [bg 1001 25,bv 1000 20])) .top) .top)
 (.back 0 7 (sg 1000 [bg 1001 23,bv 1000 20]))) .top))))))))))) .top)) .top) (.ret 0 (sg 4 [bg 4 8])))))))) .top)
theorem qyD:ql ⟨Tryz.prog,qeI,[qfP],[qum,qvf]⟩ 100000 Tryz.f64 = qqm:=by kernel_rfl
theorem q2Y (hd:∀ c ∈ ([qfP]:List Ctr),c.ok Tryz.prog) (h:∀ ρ:Env,ρ.good->(qeI).pre ρ->qqm.den ⟨Tryz.prog,qeI,[qfP],[qum,qvf]⟩ ρ):(qeI).ok Tryz.prog :=
 qe Tryz.func64 (fun a w=>Tryz.call64 a w) hd 100000 (fun ρ hg hp=>by rw [qyD]; exact h ρ hg hp)
end Go.Proofs

set_option linter.unusedSimpArgs false
set_option linter.unusedVariables false
namespace Go.Proofs
open Go Go.Eng
set_option maxRecDepth 20000
theorem q1l {cl:Cl} {o:List Int} {m:List ME} {c:Nat} (hM:MWf mtI m c) (he:∀ i,cl o i = qbf m i) (hr:∀ o i t,cl o i = some t->0 <= i/\i < 16/\0 <= t/\t < 18446744073709551616):m.length <= 16:=by
 have h:=qhL (L:=m.map fun e=>e.k.headD 0) hM he hr (List.Perm.refl _)
 have h1:(qc5 (m.map fun e=>e.k.headD 0)).length = m.length:=by rw [qfO.length_eq,List.length_map]
 rw [<- h1,h]
 refine Nat.le_trans (List.length_filter_le _ _) ?_
 simp
theorem q1e {h0 H:Hp} {v:Value} {o:List Int} {cl:Cl} {m:List ME} {c:Nat} {D:qf} {n:Int} (hM:MWf mtI m c) (hc:qh h0 v cl) (hcH:qh H v cl) (he:∀ i,cl o i = qbf m i) (hP:(qn D).Perm (m.map fun e=>e.k.headD 0)) (hn:n = D.length) (hr:∀ row ∈ D,row.length = 1) :
  (n <= 1000000/\∃ L,qaO D n L/\∀ x ∈ L,0 <= x/\x < 16)/\∀ u7:U,u7.good->(∀ L,qaO D n L->qaO u7.d n (qc5 L))->∀ cl',qh h0 v cl'->qh H v cl'/\qaO u7.d n (qej cl' o):=by
 have hrr:∀ o i t,cl o i = some t->0 <= i/\i < 16/\0 <= t/\t < 18446744073709551616:=by
  obtain ⟨b,l,c0,rfl,_,_,_,_,hr⟩:=hc; exact hr
 have hlen:D.length <= 16:=by
  have h1:=hP.length_eq
  have h2:=q1l hM he hrr
  rw [List.length_map] at h1
  have h3:(qn D).length = D.length:=by simp [qn]
  omega
 refine ⟨⟨by omega,qn D,⟨hn,rfl,hr⟩,fun x hx=>?_⟩,fun u7 _ hp cl' h'=>?_⟩
 ·obtain ⟨e,hem,rfl⟩:=List.mem_map.1 (hP.mem_iff.1 hx)
  obtain ⟨z,hz⟩:=qfk hM hem
  have hg:=(he z).trans (qfe hM hem hz)
  obtain ⟨z0,z1,_⟩:=hrr _ _ _ hg
  rw [hz]; exact ⟨z0,z1⟩
 ·rw [qcc hc h']
  refine ⟨hcH,?_⟩
  rw [<- qhL hM he hrr hP]
  exact hp _ ⟨hn,rfl,hr⟩
theorem quW:qb9.ok Tryz.prog:=qsB (by simp [q2k]) fun ρ hg hp=>by
 obtain ⟨cl,hcl⟩:=hp
 have hcl0:=hcl
 simp (config:={ maxSteps:=4000000 }) [qiD,qb9,qjB,qdz,qku,qj2,qkl,qip,qb,qs4,qsy]
 obtain ⟨b,l,c,hv,hm,hi,hd,hn,hrr⟩:=hcl
 intro _ _ _ _
 refine ⟨l,.inr ⟨b,hv,c,hm⟩,?_⟩
 have hstart:∃ (mo:Option Nat) (clock:Nat),((qcx l (qd (ρ 1).d 32) [Value.map none]).head?.getD .nilFunc = .map none/\mo = none/\clock = 0∨∃ b:Nat,(qcx l (qd (ρ 1).d 32) [Value.map none]).head?.getD .nilFunc = .map (some b)/\mo = some b/\∃ l,qV (ρ 3).h b mtI l clock)/\∀ (H:Hp) (bi:Nat) (it:Value),Hp.le (ρ 3).h H->it = .pointer (some ⟨bi,0,none⟩)->H bi = some (.mapIter mo clock #[] clock)->ctI (ρ 3).h H (ρ 2).v it (qd (ρ 1).d 32) []:=by
  cases hh:qbt l (qd (ρ 1).d 32) with
  | false =>
   have hg0:=qin (z:=[.map none]) hh
   exact ⟨none,0,.inl ⟨by rw [hg0]; rfl,rfl,rfl⟩,fun H bi it hle hit hb=>qrX hcl0 (fun i=>hn _ _ (qhE hh)) hle hit hb⟩
  | true =>
   obtain ⟨x,hx,hk,hgx⟩:=qnF (z:=[.map none]) hh
   obtain ⟨b',m,c',e1,e2,e3,e4⟩:=hi x hx
   exact ⟨some b',c',.inr ⟨b',by rw [hgx,e1]; rfl,rfl,m,e3⟩,fun H bi it hle hit hb=>qsb hcl0 e3 (fun i=>by rw [<- hk]; exact e4 i) hle hit hb⟩
 obtain ⟨mo,clock,hmo,hst0⟩:=hstart
 refine ⟨mo,clock,hmo,?_⟩
 intro I1 _ I2 _ bi hit hI1 H _ hst
 have hle:Hp.le I1.h H.h/\Hp.le (ρ 3).h H.h:=by
  have h1:=qb0 7 1003 hst (by simp)
  have h2:=qb0 3 1003 hst (by simp)
  exact ⟨by simpa using h1,by simpa using h2⟩
 have hbi:H.h bi = some (.mapIter mo clock #[] clock):=hle.1 _ _ (by rw [hI1]; simp [Hp.one])
 refine ⟨hst0 H.h bi I2.v hle.2 hit hbi,?_⟩
 intro A _ D _ it _ H2 _ hAl hrow hB
 obtain ⟨hcH,m,seen,⟨bi2,mo2,since,stp,hit2,hbi2,hmo2⟩,hco,hx0,hx⟩:=hB cl hcl0
 refine ⟨bi2,hit2,since,seen,stp,mo2,hbi2,?_⟩
 rcases hmo2 with ⟨rfl,rfl⟩ | ⟨b2,c2,rfl,hne,hM,hcs,hstt,hseen⟩
 ·exact q1e (m:=[]) (c:=0) ⟨fun x hx=>(by cases hx),List.Pairwise.nil⟩ hcl0 hcH hco hx hAl hrow
 ·refine ⟨m,c2,hM,hstt,fun hall=>q1e hM.2 hcl0 hcH hco ?_ hAl hrow,fun e he hns u2 _ hu2=>⟨bi2,hit2,since,seen,c2,b2,m,e,by rw [hu2]; exact qbc,by rw [hu2]; exact qU (Ne.symm hne) hM,he,?_⟩⟩
  ·have hf:(m.filter fun e=>seen.contains e.born) = m:=List.filter_eq_self.2 fun e hem=>by
    have:=hall e hem (by have:=(hM.2.1 e hem).2.2; omega)
    simpa using this
   rwa [hf] at hx
  ·obtain ⟨z,hz⟩:=qfk hM.2 he
   have hkx:qa [qI mtI.kks e.k] 0 = z:=by rw [hz]; rfl
   have hlen:D.d.length <= 16:=by
    have h1:=hx.length_eq
    have h2:=q1l hM.2 hco hrr
    have h3:=List.length_filter_le (fun e:ME=>seen.contains e.born) m
    rw [List.length_map] at h1
    have h4:(qn D.d).length = D.d.length:=by simp [qn]
    omega
   rw [hkx]
   refine ⟨hAl,by omega,⟨hAl,fun row hr'=>?_,?_⟩,?_⟩
   ·rcases hr' with hr' | hr'
    ·exact hrow row hr'
    ·rw [hr']; rfl
   ·rw [hu2]
    exact q5t hcl0 hcH hit2 hbi2 hM hcs hseen hco he hns hx (by rw [hz]; simp [qn,qbs,qQ])
   ·rw [qg2 (h:=H2.h) hit2 hbi2 hM,qg2 (h:=u2.h) (seen:=seen ++ [e.born]) hit2 (by rw [hu2]; exact qbc) (by rw [hu2]; exact qU (Ne.symm hne) hM)]
    exact qgM he hns
theorem qwQ {mt:MT} {l:List ME} {c:Nat} (h:MWf mt l c) {seen:List Nat}:seen = []∨l = []∨∃ e,e ∈ l/\e.born < c:=by
 right
 cases l with
 | nil=>exact .inl rfl
 | cons x l=>exact .inr ⟨x,List.mem_cons_self ..,(h.1 x (List.mem_cons_self ..)).2.2⟩
theorem q36 {k:List Int} (h:k.length = 32):qd [qI mtO.kks k] 32 = k:=by
 obtain ⟨a0,a1,a2,a3,a4,a5,a6,a7,a8,a9,a10,a11,a12,a13,a14,a15,a16,a17,a18,a19,a20,a21,a22,a23,a24,a25,a26,a27,a28,a29,a30,a31,rfl⟩:=q6l h
 rfl
theorem q40:qeI.ok Tryz.prog:=q2Y (by simp [qzW]) fun ρ hg hp=>by
 obtain ⟨⟨cl,hcl⟩,t0,t1⟩:=hp
 have hcl0:=hcl
 simp (config:={ maxSteps:=4000000 }) [qqm,qeI,qum,qvf,qfP,qku,qj2,qkl,qip,qb,qs4,qsy]
 obtain ⟨b,l,c,hv,hm,hi,hd,hn,hrr⟩:=hcl
 refine ⟨some b,c,.inr ⟨b,hv,rfl,l,hm⟩,?_⟩
 intro I1 _ I2 _ bi hit hI1 H _ hst
 have hle:Hp.le I1.h H.h/\Hp.le (ρ 3).h H.h:=by
  have h1:=qb0 4 1003 hst (by simp)
  have h2:=qb0 3 1003 hst (by simp)
  exact ⟨by simpa using h1,by simpa using h2⟩
 refine ⟨q3p hv hm hle.2 hit (hle.1 _ _ (by rw [hI1]; simp [Hp.one])),?_⟩
 intro it _ HO _ hO
 obtain ⟨b1,l1,c1,seen,cl1,hS⟩:=hO cl hcl0
 obtain ⟨bo,hito,hbo⟩:=hS.hi
 refine ⟨bo,hito,c1,seen,c1,some b1,hbo,l1,c1,hS.hm,qwQ hS.hm.2,fun hall cl' h'=>by rw [qcc hcl0 h']; exact q6h hS hall,fun e he hns u2 _ hu2=>?_⟩
 refine ⟨bo,hito,c1,seen,c1,b1,l1,e,by rw [hu2]; exact qbc,by rw [hu2]; exact qU (qfU hbo hS.hm) hS.hm,he,fun u5 _=>?_⟩
 have hcS:=hS.hc
 rw [hS.hv] at hcS
 obtain ⟨b',m,c',hev,hm2⟩:=q4b hcS hS.hm he
 have hv0:e.v.head?.getD .nilFunc = .map (some b'):=by rw [hev]; rfl
 refine ⟨some b',c',.inr ⟨b',hv0,rfl,m,by rw [hu2]; exact qU (qfU hbo hm2) hm2⟩,?_⟩
 intro J1 _ J2 _ bj hitj hJ1 HI _ hst2
 have hle2:Hp.le J1.h HI.h/\Hp.le u2.h HI.h:=by
  have h1:=qb0 15 1003 hst2 (by simp)
  have h2:=qb0 9 1003 hst2 (by simp)
  exact ⟨by simpa using h1,by simpa using h2⟩
 have hapart:bo ≠ bj:=fun he'=>by
  have h:=qoo hst2
  have h:Hp.disj J1.h u2.h:=by simpa using h
  rcases h bo with h | h
  ·rw [hJ1,he'] at h; simp [Hp.one] at h
  ·rw [hu2,qbc] at h; cases h
 have hI0:=q31 hS he hns hev hv0 hm2 hito (hu2 ▸ hle2.2) hitj (hle2.1 _ _ (by rw [hJ1]; simp [Hp.one])) hapart
 have hlt:qbo HI.h it.v < qbo HO.h it.v:=by
  rw [qa7 hI0.hi hI0.hm,qa7 hS.hi hS.hm]; exact qgM he hns
 have hkd:qd [qI mtO.kks e.k] 32 = e.k:=q36 (hS.hm.2.1 e he).1
 refine ⟨⟨by rw [hkd]; exact qnq hcl0 hI0,hlt⟩,?_⟩
 intro kdr _ it1 _ mv _ it2 _ H3 _ hI hlt3
 obtain ⟨b2,l2,c2,seen2,cl2,e2,b3,m3,c3,seen3,hS2⟩:=hI cl hcl0
 obtain ⟨bq,hitq,hbq⟩:=hS2.hi2
 refine ⟨bq,hitq,c3,seen3,c3,some b3,hbq,m3,c3,hS2.hm2,qwQ hS2.hm2.2,fun hall=>?_,fun y hy hyn u12 _ hu12=>?_⟩
 ·refine ⟨m3,.inr ⟨b3,hS2.hmv,c3,hS2.hm2⟩,fun h0=>⟨b2,hS2.hv,l2,c2,hS2.hm,fun u12 _ hu12=>?_⟩,fun _=>⟨qwG hcl0 (qwI hS2 hall),hlt3⟩⟩
  have hO2:=q6d hS2 hall h0
  rw [hu12]
  refine ⟨qwG hcl0 hO2,Nat.lt_of_le_of_lt ?_ hlt3⟩
  rw [qa7 hO2.hi hO2.hm,qa7 hS2.hi hS2.hm]
  exact (List.Sublist.filter _ List.filter_sublist).length_le
 ·obtain ⟨z,hz⟩:=qfk hS2.hm2.2 hy
  have hmu:=qU (X:=.mapIter (some b3) c3 (seen3 ++ [y.born]).toArray c3) (qfU hbq hS2.hm2) hS2.hm2
  refine ⟨bq,hitq,c3,seen3,c3,b3,m3,y,by rw [hu12]; exact qbc,by rw [hu12]; exact hmu,hy,?_⟩
  have hcv:qa [y.v] 0 = qQ (y.v.headD .nilFunc):=by unfold qa; cases y.v <;> rfl
  have hkx:qa [qI mtI.kks y.k] 0 = z:=by rw [hz]; rfl
  have hval:cl (qd kdr.d 32) z = some (qQ (y.v.headD .nilFunc)):=by
   have hc2:=hS2.hc
   rw [hS2.hv] at hc2
   have hg:=qjp hc2 hS2.hm hS2.he hS2.hev hS2.hm2 z
   rw [hS2.hk,qfe hS2.hm2.2 hy hz] at hg
   rw [<- hS2.h4 y hy hyn z hz,hg]
  obtain ⟨_,_,v0,v1⟩:=hrr _ _ _ hval
  rw [hcv,hkx]
  refine ⟨⟨v0,v1,t0,t1⟩,fun w _ hw=>⟨fun hf=>⟨b3,hS2.hmv,m3,c3,by rw [hu12]; exact hmu,fun u14 _ hu14=>?_⟩,fun ht=>?_⟩⟩
  ·have hD:=q5o hS2 hy hyn hz (by rw [<- hw]; exact hf) hitq
   rw [hu14,hu12]
   refine ⟨⟨qnq hcl0 hD,?_⟩,?_⟩
   ·rw [qa7 hD.hi hD.hm]; rw [qa7 hS2.hi hS2.hm] at hlt3; exact hlt3
   ·rw [qa7 hD.hi2 hD.hm2,qa7 hS2.hi2 hS2.hm2]
    exact Nat.lt_of_le_of_lt (List.Sublist.filter _ List.filter_sublist).length_le (qgM hy hyn)
  ·have hD:=q55 hS2 hy hyn hz (by rw [<- hw]; exact ht) hitq
   rw [hu12]
   refine ⟨⟨qnq hcl0 hD,?_⟩,?_⟩
   ·rw [qa7 hD.hi hD.hm]; rw [qa7 hS2.hi hS2.hm] at hlt3; exact hlt3
   ·rw [qa7 hD.hi2 hD.hm2,qa7 hS2.hi2 hS2.hm2]; exact qgM hy hyn
end Go.Proofs

set_option linter.unusedSimpArgs false
set_option linter.unusedVariables false
set_option maxRecDepth 100000
namespace Go.Proofs
open Go Go.Eng

@[simp] def qkY:Sg:=sg 0 [bv 17 6,bt 15 (.lit 0),bt 14 .dnil,bt 10 (.lit 2),bt 9 (.dapp (.rcons (.vint .i64 (.var 1)) .rnil) (.rcons (.vint .i64 (.var 2)) .rnil)),bg 5 22,bv 4 10,bt 13 (.lit 0),bt 12 (.lit 0),(11,.nil),bt 8 (.lit 2),bt 7 (.lit 2),bg 6 14,bt 3 (.arith .add .u64 (.var 3) (.arith .rem .u64 (.var 4) (.lit 30))),bv 2 1,bt 1 (r8 0),bg 0 9,bg 16 5]
@[simp] def qf8:Sg:=sg 0 [bv 17 6,bt 15 (.lit 1),bt 14 (.rcons (.vint .i64 (.var 1)) .rnil),bt 10 (.lit 2),bt 9 (.dapp (.rcons (.vint .i64 (.var 1)) .rnil) (.rcons (.vint .i64 (.var 2)) .rnil)),bg 5 19,bv 4 10,bt 13 (.lit 1),bt 12 (.lit 1),bg 11 20,bt 8 (.lit 2),bt 7 (.lit 2),bg 6 14,bt 3 (.arith .add .u64 (.var 3) (.arith .rem .u64 (.var 4) (.lit 30))),bv 2 2,bt 1 (r8 0),bg 0 9,bg 16 5]
@[simp] def qee:Out:=.pre 6 (sg 0 [bv 1 6,bg 0 5]) (.both (.post 6 0 (sg 0 [bv 1 6,bg 0 5]) 9 (.ret 0 (sg 7 []))) .top)
@[simp] def qfB:Sg:=sg 0 [bv 17 6,bt 15 (.lit 0),bt 14 .dnil,bt 10 (.lit 1),bt 9 (.rcons (.vint .i64 (.var 2)) .rnil),bg 5 16,bv 4 10,bt 13 (.lit 0),bt 12 (.lit 0),(11,.nil),bt 8 (.lit 1),bt 7 (.lit 1),bg 6 17,bt 3 (.arith .add .u64 (.var 3) (.arith .rem .u64 (.var 4) (.lit 30))),bv 2 2,bt 1 (r8 0),bg 0 9,bg 16 5]
@[simp] def qmg:Sg:=sg 0 [bv 17 6,bt 15 (.lit 0),bt 14 .dnil,bt 10 (.lit 2),bt 9 (.dapp (.rcons (.vint .i64 (.var 1)) .rnil) (.rcons (.vint .i64 (.var 2)) .rnil)),bg 5 12,bv 4 10,bt 13 (.lit 0),bt 12 (.lit 0),(11,.nil),bt 8 (.lit 2),bt 7 (.lit 2),bg 6 14,bt 3 (.arith .add .u64 (.var 3) (.arith .rem .u64 (.var 4) (.lit 30))),bv 2 2,bt 1 (r8 0),bg 0 9,bg 16 5]
@[simp] def qkZ:Out:=.fresh 20 (.pre 3 qf8 (.both (.fresh 21 (.fresh 22 (.post 3 0 qf8 21 (.br (.var 21)
 (.stuck 7 0 0)
 (.pre 4 (sg 0 [bg 3 22,bv 2 10,bt 1 (.arith .add .u64 (.var 3) (.arith .rem .u64 (.var 4) (.lit 30))),bg 0 9]) (.both (.fresh 23 (.post 4 0 (sg 0 [bg 3 22,bv 2 10,bt 1 (.arith .add .u64 (.var 3) (.arith .rem .u64 (.var 4) (.lit 30))),bg 0 9]) 23 (.pre 5 (sg 0 [bg 3 23,bv 2 10,bt 1 (r8 0),bg 0 9]) (.both (.fresh 24 (.fresh 25 (.fresh 26 (.fresh 27 (.fresh 28 (.post 5 0 (sg 0 [bg 3 23,bv 2 10,bt 1 (r8 0),bg 0 9]) 24 (.need (.cmp .leq (.lit 0) (.var 25)) (.br (.beq (.cmp .eql (.var 25) (.lit 1)) (.cmp .lss (.arith .rem .u64 (.var 4) (.lit 30)) (.lit 12)))
 (.pre 6 (sg 0 [bv 1 6,bg 0 5]) (.both (.post 6 0 (sg 0 [bv 1 6,bg 0 5]) 29 (.ret 0 (sg 7 []))) .top))
 (.stuck 7 0 0))))))))) .top)))) .top)))))) .top))
@[simp] def qkC:Out:=.fresh 20 (.pre 3 qf8 (.both (.fresh 21 (.fresh 22 (.post 3 0 qf8 21 (.br (.var 21)
 (.stuck 7 0 0)
 (.pre 3 qkY (.both (.fresh 23 (.fresh 24 (.post 3 0 qkY 23 (.br (.var 23)
 (.stuck 7 0 0)
 (.pre 4 (sg 0 [bg 3 24,bv 2 10,bt 1 (.arith .add .u64 (.var 3) (.arith .rem .u64 (.var 4) (.lit 30))),bg 0 9]) (.both (.fresh 25 (.post 4 0 (sg 0 [bg 3 24,bv 2 10,bt 1 (.arith .add .u64 (.var 3) (.arith .rem .u64 (.var 4) (.lit 30))),bg 0 9]) 25 (.pre 5 (sg 0 [bg 3 25,bv 2 10,bt 1 (r8 0),bg 0 9]) (.both (.fresh 26 (.fresh 27 (.fresh 28 (.fresh 29 (.fresh 30 (.post 5 0 (sg 0 [bg 3 25,bv 2 10,bt 1 (r8 0),bg 0 9]) 26 (.need (.cmp .leq (.lit 0) (.var 27)) (.br (.beq (.cmp .eql (.var 27) (.lit 1)) (.cmp .lss (.arith .rem .u64 (.var 4) (.lit 30)) (.lit 12)))
 (.pre 6 (sg 0 [bv 1 6,bg 0 5]) (.both (.post 6 0 (sg 0 [bv 1 6,bg 0 5]) 31 (.ret 0 (sg 7 []))) .top))
 (.stuck 7 0 0))))))))) .top)))) .top)))))) .top)))))) .top))
def qjY:Out:=(.fresh 7 (.both (.fresh 8 (.both (.br (.cmp .lss (.var 1) (.lit 0))
 qee
 (.br (.cmp .gtr (.var 1) (.lit 15))
 qee
 (.br (.cmp .lss (.var 2) (.lit 0))
 qee
 (.br (.cmp .gtr (.var 2) (.lit 15))
 qee
 (.br (.cmp .gtr (.var 3) (.lit 4611686018427387904))
 qee
 (.pre 0 (sg 0 []) (.both (.fresh 9 (.fresh 10 (.fresh 11 (.post 0 0 (sg 0 []) 9 (.pre 1 (sg 0 [bg 5 11,bv 4 10,bv 3 3,bv 2 1,bt 1 (r8 0),bg 0 9]) (.both (.fresh 12 (.post 1 0 (sg 0 [bg 5 11,bv 4 10,bv 3 3,bv 2 1,bt 1 (r8 0),bg 0 9]) 12 (.pre 2 (sg 0 [bv 4 6,bv 2 2,bv 1 1,bt 0 (r8 0),bg 3 5]) (.both (.fresh 13 (.post 2 0 (sg 0 [bv 4 6,bv 2 2,bv 1 1,bt 0 (r8 0),bg 3 5]) 13 (.fresh 14 (.pre 3 qmg (.both (.fresh 15 (.fresh 16 (.post 3 0 qmg 15 (.br (.var 13)
 (.br (.not (.beq (.var 15) (.cmp .lss (.arith .rem .u64 (.var 4) (.lit 30)) (.lit 12))))
 (.stuck 7 0 0)
 (.fresh 17 (.pre 3 qfB (.both (.fresh 18 (.fresh 19 (.post 3 0 qfB 18 (.br (.var 18)
 (.br (.cmp .neq (.var 1) (.var 2))
 (.stuck 7 0 0)
 qkC)
 qkC)))) .top))))
 (.br (.not (.beq (.var 15) (.bl false)))
 (.stuck 7 0 0)
 (.fresh 17 (.pre 3 qfB (.both (.fresh 18 (.fresh 19 (.post 3 0 qfB 18 (.br (.var 18)
 (.br (.cmp .neq (.var 1) (.var 2))
 (.stuck 7 0 0)
 qkZ)
 qkZ)))) .top)))))))) .top))))) .top)))) .top)))))) .top))))))) .top)) .top))
theorem qrQ:ql ⟨Tryz.prog,qbX,[qcp,qdd,qaJ,qaR,qeI,qb9,qda],[]⟩ 100000 Tryz.f14 = qjY:=by kernel_rfl
theorem qvN (hd:∀ c ∈ ([qcp,qdd,qaJ,qaR,qeI,qb9,qda]:List Ctr),c.ok Tryz.prog) (h:∀ ρ:Env,ρ.good->(qbX).pre ρ->qjY.den ⟨Tryz.prog,qbX,[qcp,qdd,qaJ,qaR,qeI,qb9,qda],[]⟩ ρ):(qbX).ok Tryz.prog :=
 qe Tryz.func14 (fun a w=>Tryz.call14 a w) hd 100000 (fun ρ hg hp=>by rw [qrQ]; exact h ρ hg hp)
end Go.Proofs

set_option linter.unusedSimpArgs false
set_option linter.unusedVariables false
namespace Go.Proofs
open Go Go.Eng
set_option maxRecDepth 20000
abbrev qh7 (o:List Int) (c n:Int):Cl:=qdq (fun _ _=>none) o c n
def qtF (h:Hp) (v:Value) (o:List Int) (t r:Int):Prop:=((∃ cl,qh h v cl)/\0 <= t/\t < 18446744073709551616)/\∀ u12:U,u12.good->(∀ cl:Cl,qh h v cl->qh u12.h v (qcA cl t)) ->
 (∃ cl,qh u12.h v cl)/\∀ u13:U,u13.good->∀ u14:U,u14.good->∀ u15:U,u15.good->(∀ cl:Cl,qh u12.h v cl->qh u15.h v cl/\qaO u14.d u13.i (qej cl o))->0 <= u13.i/\qE .eql u13.i 1 = qE .lss r 12
def q4C (h:Hp) (v:Value) (o:List Int) (c s t r:Int):Prop:=((∃ cl,qh h v cl)/\(∀ row:List Value,row ∈ [[Value.int .i64 c],[Value.int .i64 s]]->row.length = 1)/\0 <= t/\t < 18446744073709551616)/\∀ u10:U,u10.good->∀ u11:U,u11.good ->
 (∀ cl:Cl,qh h v cl->qh u11.h v cl/\u10.b = qb3 cl o c t [c,s] [])->u10.b = false/\(u10.b = false->qtF u11.h v o t r)
def qs7 (h:Hp) (v:Value) (o:List Int) (c s t r:Int) (next:Hp->Prop):Prop:=((∃ cl,qh h v cl)/\(∀ row:List Value,row ∈ [[Value.int .i64 c],[Value.int .i64 s]]->row.length = 1)/\(∀ row:List Value,row ∈ [[Value.int .i64 c]]->row.length = 1)/\0 <= t/\t < 18446744073709551616)/\∀ u8:U,u8.good->∀ u9:U,u9.good ->
 (∀ cl:Cl,qh h v cl->qh u9.h v cl/\u8.b = qb3 cl o s t [c,s] [c])->u8.b = false/\(u8.b = false->next u9.h)
def q7b (h:Hp) (v:Value) (o:List Int) (c s t r:Int) (next:Hp->Prop):Prop:=((∃ cl,qh h v cl)/\(∀ row:List Value,row ∈ [[Value.int .i64 s]]->row.length = 1)/\0 <= t/\t < 18446744073709551616)/\∀ u6:U,u6.good->∀ u7:U,u7.good ->
 (∀ cl:Cl,qh h v cl->qh u7.h v cl/\u6.b = qb3 cl o s t [s] [])->(u6.b = true->c = s/\(c = s->qs7 u7.h v o c s t r next))/\(u6.b = false->qs7 u7.h v o c s t r next)
theorem q48 {c:Int}:∀ row:List Value,row ∈ [[Value.int .i64 c]]->row.length = 1:=by simp
theorem qx6 {c s:Int}:∀ row:List Value,row ∈ [[Value.int .i64 c],[Value.int .i64 s]]->row.length = 1:=by simp
section
variable {h:Hp} {v:Value} {o:List Int} {c s n t r:Int}
theorem qqq (c0:0 <= c) (c1:c <= 15) (o':List Int) (i:Int):qh7 o c n o' i = if o' = o/\i = c then some n else none:=by
 unfold qh7 qdq
 rw [if_pos ⟨c0,by omega⟩]
theorem qfS (c0:0 <= c) (c1:c <= 15) {L H:List Int}:qb3 (qh7 o c n) o s t L H = (qcI n t && decide (c ∈ L) && !decide (c ∈ H) && qN o c s):=by
 apply Bool.eq_iff_iff.2
 unfold qb3
 rw [List.any_eq_true]
 constructor
 ·rintro ⟨i,hi,hb⟩
  rw [qqq c0 c1] at hb
  by_cases he:(i:Int) = c
  ·rw [if_pos ⟨rfl,he⟩,he] at hb; exact hb
  ·rw [if_neg (fun hh=>he hh.2)] at hb; cases hb
 ·intro hb
  refine ⟨c.toNat,List.mem_range.2 (by omega),?_⟩
  rw [qqq c0 c1,show ((c.toNat:Nat):Int) = c by omega,if_pos ⟨rfl,rfl⟩]
  exact hb
theorem q6v:∀ m:Fin 16,(((List.range 16).map Int.ofNat).filter fun i=>decide (i = (m.val:Int))).length = 1:=by decide
theorem qss (c0:0 <= c) (c1:c <= 15):((qej (qcA (qh7 o c n) t) o).length:Int) = if qcI n t = true then 1 else 0:=by
 have hp:(fun i:Int=>((qcA (qh7 o c n) t) o i).isSome) = fun i=>decide (i = c) && qcI n t:=by
  funext i
  unfold qcA
  rw [qqq c0 c1]
  by_cases hi:i = c
  ·rw [if_pos ⟨rfl,hi⟩]
   simp only [hi,decide_true,Bool.true_and]
   cases qcI n t <;> rfl
  ·rw [if_neg (fun hh=>hi hh.2)]
   simp [hi]
 unfold qej
 rw [hp]
 cases hc:qcI n t with
 | false=>simp
 | true =>
  simp only [Bool.and_true,if_true]
  have:=q6v ⟨c.toNat,by omega⟩
  have e:((c.toNat:Nat):Int) = c:=by omega
  simp only [e] at this
  rw [this]; rfl
theorem qwC (c0:0 <= c) (c1:c <= 15) (t0:0 <= t) (t1:t < 18446744073709551616) (hr:qcI n t = decide (r < 12)) (hC:qh h v (qh7 o c n)):qtF h v o t r:=by
 refine ⟨⟨⟨_,hC⟩,t0,t1⟩,fun u12 _ h12=>⟨⟨_,h12 _ hC⟩,fun u13 _ u14 _ u15 _ h15=>?_⟩⟩
 obtain ⟨_,e1,e2,_⟩:=h15 _ (h12 _ hC)
 have hl:=qss (o:=o) (n:=n) (t:=t) c0 c1
 rw [<- e2] at hl
 have hi:((qn u14.d).length:Int) = u14.d.length:=by simp [qn]
 rw [hi,<- e1,hr] at hl
 refine ⟨by omega,?_⟩
 show decide (u13.i = 1) = decide (r < 12)
 by_cases hx:r < 12
 ·rw [hl]; simp [hx]
 ·rw [hl]; simp [hx]
theorem q6V (c0:0 <= c) (c1:c <= 15) (t0:0 <= t) (t1:t < 18446744073709551616) (hr:qcI n t = decide (r < 12)) (hC:qh h v (qh7 o c n)):q4C h v o c s t r:=by
 refine ⟨⟨⟨_,hC⟩,qx6,t0,t1⟩,fun u10 _ u11 _ h11=>?_⟩
 obtain ⟨g1,g2⟩:=h11 _ hC
 rw [qfS c0 c1,qpl,Bool.and_false] at g2
 exact ⟨g2,fun _=>qwC c0 c1 t0 t1 hr g1⟩
theorem qwS (c0:0 <= c) (c1:c <= 15) (t0:0 <= t) (t1:t < 18446744073709551616) {next:Hp->Prop} (hn:∀ h,qh h v (qh7 o c n)->next h) (hC:qh h v (qh7 o c n)):qs7 h v o c s t r next:=by
 refine ⟨⟨⟨_,hC⟩,qx6,q48,t0,t1⟩,fun u8 _ u9 _ h9=>?_⟩
 obtain ⟨g1,g2⟩:=h9 _ hC
 rw [qfS c0 c1] at g2
 exact ⟨by rw [g2]; simp,fun _=>hn _ g1⟩
theorem qxm (c0:0 <= c) (c1:c <= 15) (t0:0 <= t) (t1:t < 18446744073709551616) {next:Hp->Prop} (hn:∀ h,qh h v (qh7 o c n)->next h) (hC:qh h v (qh7 o c n)):q7b h v o c s t r next:=by
 refine ⟨⟨⟨_,hC⟩,q48,t0,t1⟩,fun u6 _ u7 _ h7=>?_⟩
 obtain ⟨g1,g2⟩:=h7 _ hC
 rw [qfS c0 c1] at g2
 refine ⟨fun ht=>⟨?_,fun _=>qwS c0 c1 t0 t1 hn g1⟩,fun _=>qwS c0 c1 t0 t1 hn g1⟩
 rw [ht] at g2
 simp only [Bool.true_eq,Bool.and_eq_true,decide_eq_true_eq,List.mem_singleton] at g2
 exact g2.1.1.2
end
theorem qvH:qbX.ok Tryz.prog:=qvN (by simp [q0C,qtL,qxn,qkG,qoS,q40,quW]) fun ρ hg hp=>by
 obtain ⟨hO,h3,h4,h4',hGr,hGd⟩:=hp
 simp (config:={ maxSteps:=4000000 }) [qjY,qbX,qda,qcp,qdd,qaJ,qaR,qyX,qbS,qeI,qb9,qmv,gOk,hGr,hGd,hO,qn,qbs,qQ,-List.mem_cons]
 intro c0 c1 s0 s1 n1 u _ u1 _ hN
 have hr:qc .rem .u64 (ρ 4).i 30 = (ρ 4).i % 30:=by
  show Int.tmod (ρ 4).i 30 = _
  exact Int.tmod_eq_emod_of_nonneg h4
 have ht:qc .add .u64 (ρ 3).i ((ρ 4).i % 30) = (ρ 3).i + (ρ 4).i % 30:=by
  show IntKind.wrap .u64 _ = _
  rw [qwK]; omega
 rw [hr,ht]
 have hcur:qcI (ρ 3).i ((ρ 3).i + (ρ 4).i % 30) = decide ((ρ 4).i % 30 < 12):=by
  unfold qcI
  rw [decide_eq_true (by omega),Bool.true_and]
  exact decide_eq_decide.2 (by omega)
 have t0:0 <= (ρ 3).i + (ρ 4).i % 30:=by omega
 have t1:(ρ 3).i + (ρ 4).i % 30 < 18446744073709551616:=by omega
 refine ⟨⟨⟨_,hN⟩,h3,by omega⟩,fun u2 _ hn u3 _ hb=>?_⟩
 have hC:=hn _ hN
 refine ⟨⟨⟨_,hC⟩,qx6,t0,t1⟩,fun u4 _ u5 _ h5=>?_⟩
 obtain ⟨g1,g2⟩:=h5 _ hC
 rw [qfS c0 c1,hcur] at g2
 refine ⟨fun hx=>⟨?_,fun _=>qxm (r:=0) c0 c1 t0 t1 (next:=fun h=>q4C h _ _ _ _ _ _) (fun h hC=>q6V c0 c1 t0 t1 hcur hC) g1⟩,fun hx=>⟨?_,fun _=>qxm (r:=0) c0 c1 t0 t1 (next:=fun h=>qtF h _ _ _ _) (fun h hC=>qwC c0 c1 t0 t1 hcur hC) g1⟩⟩
 ·rw [g2,<- hb,hx]
  show _ = decide ((ρ 4).i % 30 < 12)
  simp
 ·rw [g2,<- hb,hx]; simp
end Go.Proofs
