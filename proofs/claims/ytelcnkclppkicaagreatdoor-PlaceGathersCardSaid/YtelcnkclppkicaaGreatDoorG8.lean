/- Texts CW, V4, VM, VU, WF, VV, WA, WE, VX, VY, WG, WH, WI, WN, CV, CX, WO, WQ, CY, E13, E14, FB, FC, FD, FE, FF, FG, FH, FI, FJ, PF, PH, PL, PO, PR, PS, QA, QF, PG, PI. -/
import Derived.Test.YtelcnkclppkicaaGreatDoorG7
import Derived.Test.YtelcnkclppkicaaGreatDoorG1
import Derived.Test.YtelcnkclppkicaaGreatDoorProg
import Derived.Test.YtelcnkclppkicaaGreatDoorG6
import Derived.Test.YtelcnkclppkicaaGreatDoorG5
import Derived.Test.YtelcnkclppkicaaGreatDoorG4
import Derived.WalkKit
import Derived.ProofKit
import Derived.OpenShut
import Derived.Carry
import Derived.SizedLaws
import Derived.WalkCall
import Derived.Laws.Externs
import Derived.Lib.Bytealg
import Derived.Lib.BytesEntry
set_option linter.unusedSimpArgs false
set_option linter.unusedVariables false
namespace Go.Proofs
open Go Go.Eng
theorem qsh {f g I J:Nat->Int} {n:Nat} {k e:Int} (h:∀ j,j < n->f j = g j/\I j = J j) (a:qdv f I n k e):qdv g J n k e:=by
 rcases a with ⟨i,hi,h1,h2⟩ | ⟨h1,h2⟩
 ·refine .inl ⟨i,hi,fun j hj=>⟨by rw [<- (h j (by omega)).1]; exact (h1 j hj).1,fun l hl=>by rw [<- (h l (by omega)).2,<- (h j (by omega)).2]; exact (h1 j hj).2 l hl⟩,?_⟩
  rw [<- (h i hi).1,<- (h i hi).2];rcases h2 with h2 | ⟨a,⟨l,b,c⟩,d⟩
  ·exact .inl h2
  ·exact .inr ⟨a,⟨l,b,by rw [<- (h l (by omega)).2]; exact c⟩,d⟩
 ·exact .inr ⟨fun j hj=>⟨by rw [<- (h j hj).1]; exact (h1 j hj).1,fun l hl=>by rw [<- (h l (by omega)).2,<- (h j hj).2]; exact (h1 j hj).2 l hl⟩,h2⟩
theorem qnW {f I:Nat->Int} {n:Nat} {k:Int} (h:qdv f I n k 0):(∀ j,j < n->f j = 0/\∀ l,l < j->I l ≠ I j)/\k <= n:=by
 rcases h with ⟨i,hi,h1,⟨a,b⟩ | ⟨a,_,b⟩⟩ | ⟨h1,⟨a,b⟩ | ⟨a,b⟩⟩
 ·exact (a b.symm).elim
 ·omega
 ·omega
 ·exact ⟨h1,a⟩
theorem qiu {f I:Nat->Int} {i j:Nat} {e:Int} (h2:(f i ≠ 0/\e = f i)∨(f i = 0/\(∃ l,l < i/\I l = I i)/\e = 7)) (h:f i = 0/\∀ l,l < i->I l ≠ I i):False:=by
 rcases h2 with ⟨h2,_⟩ | ⟨_,⟨l,hl,hI⟩,_⟩
 ·exact h2 h.1
 ·exact h.2 l hl hI
theorem qtX {f I:Nat->Int} {n:Nat} {k e e':Int} (a:qdv f I n k e) (b:qdv f I n k e'):e = e':=by
 rcases a with ⟨i,hi,h1,h2⟩ | ⟨h1,h2⟩ <;> rcases b with ⟨i',hi',g1,g2⟩ | ⟨g1,g2⟩
 ·rcases jdz i i' with h | h | h
  ·exact (qiu (j:=0) h2 (g1 i h)).elim
  ·subst h
   rcases h2 with ⟨a,b⟩ | ⟨a,_,b⟩ <;> rcases g2 with ⟨c,d⟩ | ⟨c,_,d⟩
   ·rw [b,d]
   ·exact (a c).elim
   ·exact (c a).elim
   ·rw [b,d]
  ·exact (qiu (j:=0) g2 (h1 i' h)).elim
 ·exact (qiu (j:=0) h2 (g1 i hi)).elim
 ·exact (qiu (j:=0) g2 (h1 i' hi')).elim
 ·omega
theorem qt5 {ok:Bool} {C C':Int->Prop} {D D' O:List Int} {e e':Int} (hC:∀ x y,C x->C' y->x = y) (hD:ok = true->C 0->D = D') (a:qjs ok C D O e) (b:qjs ok C' D' O e'):e = e':=by
 rcases a with ⟨a,a1⟩ | ⟨a,a1,a2⟩ | ⟨a,a1,a2⟩ <;> rcases b with ⟨b,b1⟩ | ⟨b,b1,b2⟩ | ⟨b,b1,b2⟩
 ·rw [a1,b1]
 ·rw [a] at b; cases b
 ·rw [a] at b; cases b
 ·rw [a] at b; cases b
 ·exact hC _ _ a1 b1
 ·exact (a2 (hC _ _ a1 b1)).elim
 ·rw [a] at b; cases b
 ·exact (b2 (hC _ _ a1 b1).symm).elim
 ·obtain rfl:=hD a a1
  rcases a2 with ⟨a2,a3⟩ | ⟨a2,a3⟩ <;> rcases b2 with ⟨b2,b3⟩ | ⟨b2,b3⟩
  ·rw [a3,b3]
  ·exact (a2 b2).elim
  ·exact (b2 a2).elim
  ·rw [a3,b3]
theorem qtY {ok:Bool} {C:Int->Prop} {D O:List Int} (a:qjs ok C D O 0):ok = true/\C 0/\sha D = O:=by
 rcases a with ⟨a,a1⟩ | ⟨a,a1,a2⟩ | ⟨a,a1,⟨a2,a3⟩ | ⟨a2,a3⟩⟩
 ·omega
 ·exact (a2 rfl).elim
 ·omega
 ·exact ⟨a,a1,a2⟩
theorem qDO {ok:Bool} {C C':Int->Prop} {x t e e' y y' n n':Int} {D D' O:List Int} {R R':qe} (hC:∀ x y,C x->C' y->x = y) (hD:(ok && decide (0 <= x/\x < t)) = true->C 0->D = D') (a:qkb ok C x t e y n D O R) (b:qkb ok C' x t e' y' n' D' O R'):e = e'/\y = y'/\bI R = bI R':=by
 have h:=qt5 hC (fun h h'=>by rw [hD h h']) a.1 b.1;obtain ⟨a0,⟨a1,a2,a3,a4⟩ | ⟨a1,a2,a3,a4,a5⟩⟩:=a <;> obtain ⟨_,⟨b1,b2,b3,b4⟩ | ⟨b1,b2,b3,b4,b5⟩⟩:=b
 ·exact ⟨h,by omega,by rw [a4,b4]⟩
 ·omega
 ·omega
 ·subst a1
  exact ⟨h,by omega,by rw [a5,b5,hD (qtY a0).1 (qtY a0).2.1]⟩
section
variable {M:Bool} {C:Int->Prop} {x t:Int} {D O:List Int}
theorem qzk (h:M = false):qjs M C D O 2:=.inl ⟨h,rfl⟩
theorem qxk {e:Int} (h:M = true) (hC:C e) (he:¬ e = 0):qjs M C D O e:=.inr (.inl ⟨h,hC,he⟩)
theorem qxH (h:M = true) (hC:C 0) (hs:¬ sha D = O):qjs M C D O 20:=.inr (.inr ⟨h,hC,.inl ⟨hs,rfl⟩⟩)
theorem q1k (h:M = true) (hC:C 0) (hs:sha D = O):qjs M C D O 0:=.inr (.inr ⟨h,hC,.inr ⟨hs,rfl⟩⟩)
theorem qkI {e sz:Int} (a:qjs M C D O e) (h:¬ e = 0):qyY M C sz e 0 D O []:=⟨a,.inl ⟨h,rfl,rfl⟩⟩
theorem q0K {n:Int} {R:qe} (a:qjs M C D O 0) (n0:0 <= n) (hn:n <= R.length) (hB:qk R) (hR:bI (R.take n.toNat) = D):qyY M C n 0 n D O R:=⟨a,.inr ⟨rfl,rfl,n0,hn,hB,hR⟩⟩
theorem qyR (h:M = false):qkb M C x t 2 0 0 D O []:=⟨.inl ⟨by rw [h]; rfl,rfl⟩,.inl ⟨by omega,rfl,rfl,rfl⟩⟩
theorem qlh (h:x < 0∨t <= x):qkb M C x t 2 0 0 D O []:=⟨.inl ⟨by rw [jer (by omega),Bool.and_false],rfl⟩,.inl ⟨by omega,rfl,rfl,rfl⟩⟩
theorem qzr {e:Int} (h:M = true) (h0:0 <= x) (h1:x < t) (hC:C e) (he:¬ e = 0):qkb M C x t e 0 0 D O []:=⟨.inr (.inl ⟨by rw [h,jcl ⟨h0,h1⟩]; rfl,hC,he⟩),.inl ⟨he,rfl,rfl,rfl⟩⟩
theorem qys (h:M = true) (h0:0 <= x) (h1:x < t) (hC:C 0) (hs:¬ sha (qbb x ++ D) = O):qkb M C x t 20 0 0 D O []:=⟨.inr (.inr ⟨by rw [h,jcl ⟨h0,h1⟩]; rfl,hC,.inl ⟨hs,rfl⟩⟩),.inl ⟨by omega,rfl,rfl,rfl⟩⟩
theorem q16 {n:Int} {R:qe} (h:M = true) (h0:0 <= x) (h1:x < t) (hC:C 0) (hs:sha (qbb x ++ D) = O) (hn:n = R.length) (hB:qk R) (hR:bI R = D):qkb M C x t 0 x n D O R:=⟨.inr (.inr ⟨by rw [h,jcl ⟨h0,h1⟩]; rfl,hC,.inr ⟨hs,rfl⟩⟩),.inr ⟨rfl,rfl,hn,hB,hR⟩⟩
end
theorem qq1 {f g:Nat->List Int} {w:List Int} {l:Nat}:∀ {k:Nat},(∀ j,j < k->f j = g j)->qar f w l k = qar g w l k
 | 0,_=>rfl
 | k + 1,h=>by rw [qar,qar,qq1 fun j hj=>h j (by omega),h k (by omega)]
theorem q0e {f g:Nat->List Int} {w w':List Int} {n n' k:Nat} (hf:∀ j,j < k->f j = g j) (hw:w = w') (hn:n = n'):qar f w n k = qar g w' n' k:=by
 subst hw hn;exact qq1 (fun j hj=>hf j hj)
theorem q4i {D D':qe} {k:Nat} (h:∀ j,j < k->pcI D j = pcI D' j):qav D k = qav D' k:=by
 unfold qav;exact jbw fun j hj=>h j (jb1.1 hj)
theorem qpp {h h':Hp} {D D':qe} {k:Nat} {x:Int} (hk:0 < k) (H:∀ j,j < k->pcI D j = pcI D' j/\pcD h D j = pcD h' D' j):qfj h D k x = qfj h' D' k x:=by
 unfold qfj;rw [q4i fun j hj=>(H j hj).1];exact q0e (fun j hj=>(H j hj).2) rfl (by unfold pcN; rw [(H 0 hk).2])
theorem qq4 {k n t s l:Int} {D:List (List Int)} {h h':Hp} {P P':qe} {j:Nat} (H:pcI P j = pcI P' j/\pcD h P j = pcD h' P' j):qlN k n t s l D h P j = qlN k n t s l D h' P' j:=by
 unfold qlN; rw [H.1,H.2]
theorem qvN {f I:Nat->Int} {n:Nat} {k e x:Int} (x0:0 <= x) (x1:x < n) (h:∀ j:Nat,(j:Int) < x->f j = 0/\∀ l,l < j->¬ I l = I j) (he:e = f x.toNat) (hne:¬ e = 0):qdv f I n k e :=
 .inl ⟨x.toNat,by omega,fun j hj=>h j (by omega),.inl ⟨by rw [<- he]; exact hne,he⟩⟩
theorem qqs {f I:Nat->Int} {n:Nat} {k x:Int} (x0:0 <= x) (x1:x < n) (h:∀ j:Nat,(j:Int) < x->f j = 0/\∀ l,l < j->¬ I l = I j) (h0:f x.toNat = 0) (hl:∃ l,l < x.toNat/\I l = I x.toNat):qdv f I n k 7 :=
 .inl ⟨x.toNat,by omega,fun j hj=>h j (by omega),.inr ⟨h0,hl,rfl⟩⟩
theorem qmw {f I:Nat->Int} {n:Nat} {k e x:Int} (x1:n <= x) (h:∀ j:Nat,(j:Int) < x->f j = 0/\∀ l,l < j->¬ I l = I j) (he:((n:Int) < k/\e = 12)∨(k <= n/\e = 0)):qdv f I n k e :=
 .inr ⟨fun j hj=>h j (by omega),he⟩
theorem quV {f I:Nat->Int} {x:Int} (x0:0 <= x) (h:∀ j:Nat,(j:Int) < x->f j = 0/\∀ l,l < j->¬ I l = I j) (h0:f x.toNat = 0) (hl:∀ l,l < x.toNat->¬ I l = I x.toNat):∀ j:Nat,(j:Int) < x + 1->f j = 0/\∀ l,l < j->¬ I l = I j:=fun j hj=>by
 by_cases hjx:(j:Int) = x
 ·obtain rfl:j = x.toNat:=by omega
  exact ⟨h0,hl⟩
 ·exact h j (by omega)
theorem q83 {b:Nat} {v:Value} {h:Hp} {I:Nat->Int} (hv:v = .map (some b)) (hh:h = Hp.one b (.map #[] 0)):qw1 h v I 0:=by
 subst hh;refine ⟨b,[],0,hv,⟨by simp [Hp.one,MT.obj],⟨fun x hx=>(by cases hx),.nil⟩⟩,fun x hx=>(by cases hx),fun z=>⟨fun h=>(by cases h),fun ⟨j,hj,_⟩=>(by omega)⟩⟩
theorem q8m {l:List ME} {k:List Int} (h:∀ x ∈ l,x.v = [.bool true]):qcQ l k [.bool false] = [.bool (qaM l k)]:=by
 cases hh:qaM l k with
 | false=>exact qjQ hh
 | true =>
  obtain ⟨j,x,h1,_,_,h2⟩:=qe9 (mt:=qkQ) (i:=0) hh;rw [h2];exact h x (jbl h1)
theorem q8S {h h':Hp} {v:Value} {I:Nat->Int} {i b clock:Nat} {l:List ME} {x:Int} (hv:v = .map (some b)) (hm:qaX h b qkQ l clock) (ht:∀ x ∈ l,x.v = [.bool true]) (hs:∀ z:Int,qaM l [z] = true↔∃ j,j < i/\I j = z) (hx:x = I i)
  (hh:h' = Hp.upd h b (qkQ.obj (qbg l [x] [.bool true] clock))):qw1 h' v I (i + 1):=by
 have hw:=qkD (k:=[x]) (v:=[.bool true]) hm.2 rfl ⟨rfl,fun c k v hk hv=>by
  match c,hk,hv with
  | 0,hk,hv=>simp [qkQ] at hk hv; subst hk hv; rfl
  | c + 1,hk,hv=>simp [qkQ] at hk⟩
 refine ⟨b,(qbg l [x] [.bool true] clock).1,(qbg l [x] [.bool true] clock).2,hv,⟨by rw [hh]; simp [Hp.upd],hw⟩,?_,?_⟩
 ·intro y hy
  unfold qbg at hy;split at hy
  ·obtain ⟨z,hz,rfl⟩:=jbk.1 hy
   split
   ·rfl
   ·exact ht z hz
  ·rcases jaw.1 hy with hy | hy
   ·exact ht y hy
   ·rw [jak.1 hy]
 ·intro z
  have e:qaM (qbg l [x] [.bool true] clock).1 [z] = (qaM l [z] || decide (x = z)):=by
   unfold qbg;split
   ·rename_i hh
    have e1:qaM (l.map fun y=>if y.k = [x] then { y with v:=[.bool true] } else y) [z] = qaM l [z]:=by
     unfold qaM;rw [List.any_map];refine congrArg (fun f=>List.any l f) (funext fun y=>?_);simp only [Function.comp];split <;> rfl
    rw [e1];by_cases hxz:x = z
    ·subst hxz; simp [hh]
    ·simp [hxz]
   ·simp only [qaM,List.any_append,List.any_cons,List.any_nil,Bool.or_false]
    congr 1
    by_cases h:x = z <;> simp [h]
  rw [e,jcy,hs,ja8,hx];constructor
  ·rintro (⟨j,hj,h⟩ | h)
   ·exact ⟨j,by omega,h⟩
   ·exact ⟨i,by omega,h⟩
  ·rintro ⟨j,hj,h⟩
   by_cases hji:j = i
   ·subst hji; exact .inr h
   ·exact .inl ⟨j,by omega,h⟩
variable {rows wide c rank:Nat} {T0:Mat} {M:Nat->List Int}
theorem q5L {h:Hp} {vs:Nat->Value} {n j:Nat} {M:Nat->List Int} (ht:qdQ h vs n M) (hj:j < n):qz (M j):=by
 obtain ⟨d,_,e,hb⟩:=ht.1 j hj;rw [<- e]; exact allB_list hb
end Go.Proofs
namespace Go.Proofs
open Go Go.Eng
theorem qrX {D:qe} {i:Int} (h:0 <= i):tvs D i.toNat = qC D i 0:=by
 unfold tvs;rw [jay h]
theorem q2r {D:qe} {i:Int} {v:Value} (hr:∀ row ∈ D,row.length = 1) (i0:0 <= i) (i1:i < D.length) (j:Nat):tvs (qaQ D i 0 [v]) j = if j = i.toNat then v else tvs D j:=by
 unfold tvs qC qaQ;rw [jal,jby];by_cases h:j = i.toNat
 ·rw [jah h.symm,jah h,jah (by omega)]
  rfl
 ·rw [jaf (fun e=>h e.symm),jaf h]
theorem q9T {D:qe} {i:Int} {v:Value} (hr:∀ row ∈ D,row.length = 1) (i0:0 <= i) (i1:i < D.length):∀ row ∈ qaQ D i 0 [v],row.length = 1:=fun row h=>by
 unfold qaQ at h;rcases jc0 h with h | rfl
 ·exact hr row h
 ·rw [jac (by omega),ja2]
  have:=hr _ (jbv (l:=D) (n:=i.toNat) (by omega));unfold qas;simp [this]
theorem qxW {l:List Int} {o n i:Nat} (hi:i < n):(seg l o n).getD i 0 = l.getD (o + i) 0:=by
 rw [seg,jab,jbb,jah hi,jbc,jab]
set_option maxRecDepth 100000
@[simp] def qpl:Out:=.back 0 10 (sg 1000 [bt 1002 (.c3 (.xput 0) (tv 12) (.icell (tv 6) (tv 10) 0) (.vbool (.bl true))),bt 1000 (.arith .add .i64 (tv 10) (tl 1)),bg 1001 11])
def qu5:Out:=(.fresh 9 (tn (tl 0) (tv 4) (.inv 0 10 (sg 1000 [bt 1002 (rr 255 (.vbool (.bl false)) .rnil),bt 1000 (tl 0),bg 1001 9]) (fr 10 3 (.hyp 0 10 (.br (.cmp .lss (tv 10) (tv 4))
 (tn (tl 0) (tv 10) (ts (tv 10) (.dlen (tv 6)) (.fresh 13 (.br (.cmp .lss (.icell (tv 6) (tv 10) 0) (tl 0))
 (.ret 0 (sg 9 [bt 9 (tl 2)]))
 (.br (.cmp .geq (.icell (tv 6) (tv 10) 0) (tv 1))
 (.ret 0 (sg 9 [bt 9 (tl 2)]))
 (tn (tl 0) (.icell (tv 6) (tv 10) 0) (ts (.icell (tv 6) (tv 10) 0) (tl 255) (ts (tl 0) (.dlen (tv 12)) (.br (.c2 (.xbool 0) (tv 12) (.icell (tv 6) (tv 10) 0))
 (.ret 0 (sg 9 [bt 9 (tl 7)]))
 (.br (.cmp .lss (tv 2) (tl 0))
 (.view (.vcell (tv 6) (tv 10) 1) [CK.int .u8] [8] 14 (.br (.cmp .gtr (.dlen (tv 16)) (tl 8192))
 (.ret 0 (sg 9 [bt 9 (tl 3)]))
 (ts (tl 0) (tv 4) (ts (tl 0) (.dlen (tv 6)) (.view (.vcell (tv 6) (tl 0) 1) [CK.int .u8] [8] 17 (.view (.vcell (tv 6) (tv 10) 1) [CK.int .u8] [8] 20 (.br (.cmp .neq (.dlen (tv 22)) (.dlen (tv 19)))
 (.ret 0 (sg 9 [bt 9 (tl 10)]))
 qpl)))))))
 (.view (.vcell (tv 6) (tv 10) 1) [CK.int .u8] [8] 14 (.br (.cmp .neq (.dlen (tv 16)) (tv 2))
 (.ret 0 (sg 9 [bt 9 (tl 10)]))
 qpl))))))))))))
 (.br (.cmp .lss (tv 4) (tv 0))
 (.ret 0 (sg 9 [bt 9 (tl 12)]))
 (.ret 0 (sg 9 [bt 9 (tl 0)])))))))))
theorem q2R:qj Tryz.prog qfz [] [qyq] qu5:=qg Tryz.func110 Tryz.call110 (by kernel_rfl)
def qtO:Out:=(.inv 0 9 (sg 1000 [bt 1000 (tl 0)]) (.fresh 9 (.hyp 0 9 (tn (tl 0) (tv 4) (.br (.cmp .lss (tv 9) (tv 4))
 (tn (tl 0) (tv 9) (ts (tv 9) (.dlen (tv 6)) (.fresh 10 (.br (.cmp .lss (.icell (tv 6) (tv 9) 0) (tl 0))
 (.ret 0 (sg 9 [bt 9 (tl 2)]))
 (.br (.cmp .geq (.icell (tv 6) (tv 9) 0) (tv 1))
 (.ret 0 (sg 9 [bt 9 (tl 2)]))
 (.inv 1 11 (sg 1000 [bt 1003 (.vcell (tv 6) (tv 9) 1),bt 1002 (.icell (tv 6) (tv 9) 0),bt 1004 (tl 0),bg 1001 10,bv 1000 9]) (fr 11 5 (.hyp 1 11 (.br (.cmp .lss (tv 15) (tv 11))
 (tn (tl 0) (tv 15) (ts (tv 15) (tv 4) (ts (tv 15) (.dlen (tv 6)) (.br (.cmp .eql (.icell (tv 6) (tv 15) 0) (tv 13))
 (.ret 0 (sg 9 [bt 9 (tl 7)]))
 (.back 1 11 (sg 1000 [bv 1003 14,bv 1002 13,bt 1004 (.arith .add .i64 (tv 15) (tl 1)),bg 1001 12,bv 1000 11]))))))
 (.br (.cmp .lss (tv 2) (tl 0))
 (.view (tv 14) [CK.int .u8] [8] 16 (.br (.cmp .gtr (.dlen (tv 18)) (tl 8192))
 (.ret 0 (sg 9 [bt 9 (tl 3)]))
 (.br (.cmp .geq (tv 2) (tl 0))
 (tb (.view (tv 14) [CK.int .u8] [8] 19 (.br (.cmp .neq (.dlen (tv 21)) (tv 2))
 (.ret 0 (sg 9 [bt 9 (tl 10)]))
 (ts (tl 0) (tv 4) (ts (tl 0) (.dlen (tv 6)) (.both (.view (tv 14) [CK.int .u8] [8] 22 (tb (.view (.vcell (tv 6) (tl 0) 1) [CK.int .u8] [8] 25 (.br (.cmp .neq (.dlen (tv 24)) (.dlen (tv 27)))
 (.ret 0 (sg 9 [bt 9 (tl 10)]))
 (.back 0 9 (sg 1000 [bt 1000 (.arith .add .i64 (tv 11) (tl 1))])))))) (tb (.view (.vcell (tv 6) (tl 0) 1) [CK.int .u8] [8] 22 (tb (.view (tv 14) [CK.int .u8] [8] 25 (.br (.cmp .neq (.dlen (tv 27)) (.dlen (tv 24)))
 (.ret 0 (sg 9 [bt 9 (tl 10)]))
 (.back 0 9 (sg 1000 [bt 1000 (.arith .add .i64 (tv 11) (tl 1))])))))))))))))
 (ts (tl 0) (tv 4) (ts (tl 0) (.dlen (tv 6)) (.both (.view (tv 14) [CK.int .u8] [8] 19 (tb (.view (.vcell (tv 6) (tl 0) 1) [CK.int .u8] [8] 22 (.br (.cmp .neq (.dlen (tv 21)) (.dlen (tv 24)))
 (.ret 0 (sg 9 [bt 9 (tl 10)]))
 (.back 0 9 (sg 1000 [bt 1000 (.arith .add .i64 (tv 11) (tl 1))])))))) (tb (.view (.vcell (tv 6) (tl 0) 1) [CK.int .u8] [8] 19 (tb (.view (tv 14) [CK.int .u8] [8] 22 (.br (.cmp .neq (.dlen (tv 24)) (.dlen (tv 21)))
 (.ret 0 (sg 9 [bt 9 (tl 10)]))
 (.back 0 9 (sg 1000 [bt 1000 (.arith .add .i64 (tv 11) (tl 1))])))))))))))))
 (.br (.cmp .geq (tv 2) (tl 0))
 (tb (.view (tv 14) [CK.int .u8] [8] 16 (.br (.cmp .neq (.dlen (tv 18)) (tv 2))
 (.ret 0 (sg 9 [bt 9 (tl 10)]))
 (.back 0 9 (sg 1000 [bt 1000 (.arith .add .i64 (tv 11) (tl 1))])))))
 (.back 0 9 (sg 1000 [bt 1000 (.arith .add .i64 (tv 11) (tl 1))])))))))))))))
 (.br (.cmp .lss (tv 4) (tv 0))
 (.ret 0 (sg 9 [bt 9 (tl 12)]))
 (.ret 0 (sg 9 [bt 9 (tl 0)]))))))))
theorem q2I:qj Tryz.prog qfr [] [qyZ,qyv 9] qtO:=qg Tryz.func115 Tryz.call115 (by kernel_rfl)
def qxX:Out:=(.br (.cmp .eql (tv 4) (tl 0))
 (.ret 0 (sg 7 [bg 8 5,bv 7 1]))
 (.viewL (tv 3) [CK.int .u8] [6] 7 (.inv 0 10 (sg 1000 [bg 1003 5,bv 1001 1,bt 1000 (tl 0),bt 1002 (.dlen (tv 9)),bt 1004 (.vslice 7 (tl 0) (.dlen (tv 9)) (tv 8) 1)]) (fr 10 5 (.hyp 0 10 (.br (.cmp .lss (tv 10) (tv 12))
 (.viewL (tv 14) [CK.int .u8] [6] 15 (tn (tl 0) (tv 10) (ts (tv 10) (.dlen (tv 17)) (.both (.viewL (tv 2) [CK.int .u8] [13] 18 (ts (tv 10) (.dlen (tv 20)) (tb (.pre 0 (sg 0 [bv 1 11,bt 3 (.icell (tv 17) (tv 10) 0),bv 2 4,bg 0 0]) (tb (fr 21 2 (.post 0 0 (sg 0 [bv 1 11,bt 3 (.icell (tv 17) (tv 10) 0),bv 2 4,bg 0 0]) 21 (tb (.put 13 18 [CK.int .u8] (tv 20) (tv 10) 0 [(tu (.arith .xor .u8 (.icell (tv 20) (tv 10) 0) (tv 21)))] 23 (.back 0 10 (sg 1000 [bg 1003 23,bv 1001 22,bt 1000 (.arith .add .i64 (tv 10) (tl 1)),bv 1002 12,bt 1004 (.vslice 15 (tl 0) (.dlen (tv 17)) (tv 16) 1)]))))))))))) (tb (.pre 0 (sg 0 [bv 1 11,bt 3 (.icell (tv 17) (tv 10) 0),bv 2 4,bg 0 0]) (tb (fr 18 2 (.post 0 0 (sg 0 [bv 1 11,bt 3 (.icell (tv 17) (tv 10) 0),bv 2 4,bg 0 0]) 18 (tb (.viewL (tv 2) [CK.int .u8] [13] 20 (ts (tv 10) (.dlen (tv 22)) (tb (.put 13 20 [CK.int .u8] (tv 22) (tv 10) 0 [(tu (.arith .xor .u8 (.icell (tv 22) (tv 10) 0) (tv 18)))] 23 (.back 0 10 (sg 1000 [bg 1003 23,bv 1001 19,bt 1000 (.arith .add .i64 (tv 10) (tl 1)),bv 1002 12,bt 1004 (.vslice 15 (tl 0) (.dlen (tv 17)) (tv 16) 1)]))))))))))))))))
 (.ret 0 (sg 7 [bg 8 13,bv 7 11]))))))))
theorem q8c:qj Tryz.prog qnZ [qjc] [q1W] qxX:=qg Tryz.func124 Tryz.call124 (by kernel_rfl)
@[simp] def qoR:Sg:=sg 0 [bg 11 7,bv 9 18,bv 8 19,bv 4 5,bv 3 4,bt 10 (.dlen (tv 16)),bv 7 18,bv 6 10,bg 5 17,bv 2 3,bv 1 0,bg 0 1]
@[simp] def qoJ:Sg:=sg 0 [bg 11 7,bv 9 15,bv 8 16,bv 4 5,bv 3 4,bt 10 (.dlen (tv 19)),bv 7 15,bv 6 10,bg 5 14,bv 2 3,bv 1 0,bg 0 1]
def quR:Out:=(.fresh 8 (.inv 0 9 (sg 1000 [bt 1003 .dnil,bt 1004 (tl 0),bt 1002 (tl 0),bt 1001 (tl 0),bg 1000 8]) (fr 9 5 (.hyp 0 9 (.br (.cmp .lss (tv 13) (tv 0))
 (tn (tl 0) (tv 13) (ts (tv 13) (tv 2) (ts (tv 13) (.dlen (tv 4)) (.fresh 14 (.need (.cmp .eql (tv 10) (.dlen (tv 12))) (tn (.tims (tl 1) (.plus (tv 10) (tl 1))) (tl 140737488355328) (fr 15 2 (.back 0 9 (sg 1000 [bt 1003 (.dapp (tv 12) (.rcons (tu (.conv .u8 (.icell (tv 4) (tv 13) 0))) .rnil)),bt 1004 (.arith .add .i64 (tv 13) (tl 1)),bv 1002 16,bt 1001 (.plus (tv 10) (tl 1)),bg 1000 15])))))))))
 (tn (tl 0) (tv 2) (tn (tl 0) (tv 3) (tn (tl 0) (tv 0) (tn (tv 0) (tv 3) (ts (tl 0) (tv 2) (ts (tl 0) (.dlen (tv 4)) (.both (.pre 0 (sg 0 [bv 4 11,bv 3 12,bv 5 6,bv 2 11,bv 1 10,bg 0 9]) (tb (fr 14 3 (.post 0 0 (sg 0 [bv 4 11,bv 3 12,bv 5 6,bv 2 11,bv 1 10,bg 0 9]) 14 (tb (.view (.vcell (tv 4) (tl 0) 1) [CK.int .u8] [7] 17 (tb (.pre 1 qoJ (tb (fr 20 3 (.post 1 0 qoJ 20 (.ret 0 (sg 8 [bv 11 22,bv 10 21,bt 9 (.dlen (tv 19)),bg 8 20]))))))))))))) (tb (.view (.vcell (tv 4) (tl 0) 1) [CK.int .u8] [7] 14 (tb (.pre 0 (sg 0 [bv 4 11,bv 3 12,bv 5 6,bv 2 11,bv 1 10,bg 0 9]) (tb (fr 17 3 (.post 0 0 (sg 0 [bv 4 11,bv 3 12,bv 5 6,bv 2 11,bv 1 10,bg 0 9]) 17 (tb (.pre 1 qoR (tb (fr 20 3 (.post 1 0 qoR 20 (.ret 0 (sg 8 [bv 11 22,bv 10 21,bt 9 (.dlen (tv 16)),bg 8 20]))))))))))))))))))))))))))
theorem q2L:qj Tryz.prog qf3 [qn2,qxq] [qvS] quR:=qg Tryz.func116 Tryz.call116 (by kernel_rfl)
@[simp] def qmy:Sg:=sg 0 [bv 13 25,bv 12 26,bv 7 20,bv 6 21,bv 1 23,bt 14 (.icell (tv 11) (.plus (tv 8) (tv 22)) 0),bv 11 25,bt 10 (.dlen (tv 26)),bt 9 (tl 0),bg 8 24,bv 5 20,bv 4 19,bt 3 (tl 0),bg 2 18,bg 0 0]
def qoL:Out:=(ts (tl 0) (tv 3) (ts (tl 0) (.dlen (tv 5)) (.view (.vcell (tv 5) (tl 0) 0) [CK.int .u8] [13] 14 (tn (.tims (tl 1) (.dlen (tv 16))) (tl 281474976710656) (.fresh 17 (tn (tl 0) (tv 9) (.inv 0 18 (sg 1000 [bt 1003 (.drep (.dlen (tv 16)) (.rcons (tu (tl 0)) .rnil)),bv 1005 1,bt 1004 (tl 0),bt 1002 (.dlen (tv 16)),bt 1001 (.dlen (tv 16)),bg 1000 17]) (fr 18 6 (.hyp 0 18 (.br (.cmp .lss (tv 22) (tv 9))
 (tn (tl 0) (tv 22) (tn (tl 0) (tv 8) (tn (tl 0) (.plus (tv 8) (tv 22)) (ts (.plus (tv 8) (tv 22)) (.dlen (tv 11)) (ts (tv 22) (tv 3) (ts (tv 22) (.dlen (tv 5)) (.view (.vcell (tv 5) (tv 22) 0) [CK.int .u8] [13] 24 (.pre 0 qmy (tb (fr 27 2 (.post 0 0 qmy 27 (.back 0 18 (sg 1000 [bv 1003 28,bv 1005 27,bt 1004 (.arith .add .i64 (tv 22) (tl 1)),bv 1002 20,bv 1001 19,bg 1000 18])))))))))))))
 (.ret 0 (sg 14 [bv 18 21,bv 17 23,bv 16 20,bv 15 19,bg 14 18]))))))))))))
theorem qyo:qj Tryz.prog qgv [qeh] [qqf] qoL:=qg Tryz.func153 Tryz.call153 (by kernel_rfl)
@[simp] def qoI:Sg:=sg 0 [bg 6 9,bg 5 88,bv 1 73,bt 4 (.icell (tv 85) (.plus (tv 90) (tv 89)) 0),bt 3 (.vcell (tv 7) (tv 89) 1),bt 2 (.vcell (tv 87) (tv 72) 0),bg 0 0]
def qtU:Out:=(.fresh 10 (.pre 0 (sg 0 [bv 1 1,bv 3 3,bv 2 2,bg 0 0]) (tb (fr 11 6 (.post 0 0 (sg 0 [bv 1 1,bv 3 3,bv 2 2,bg 0 0]) 11 (.fresh 17 (tn (tl 0) (tv 2) (tn (.tims (tl 8) (tv 2)) (tl 281474976710656) (.fresh 18 (.inv 0 19 (sg 1000 [bt 1001 (.drep (tv 2) (.rcons (ti (tl 0)) .rnil)),bv 1008 15,bv 1007 13,bv 1006 12,bg 1005 11,bv 1003 14,bt 1002 (tl 0),bg 1000 18,bg 1004 17,bg 1010 10]) (fr 19 11 (.hyp 0 19 (.br (.cmp .lss (tv 21) (tv 2))
 (tn (tl 0) (tv 21) (ts (tv 21) (tv 5) (ts (tv 21) (.dlen (tv 7)) (ts (tv 21) (.dlen (tv 20)) (.back 0 19 (sg 1000 [bt 1001 (.dput (tv 20) (tv 21) 0 (.rcons (ti (.icell (tv 7) (tv 21) 0)) .rnil)),bv 1008 27,bv 1007 26,bv 1006 25,bg 1005 24,bv 1003 22,bt 1002 (.arith .add .i64 (tv 21) (tl 1)),bg 1000 19,bg 1004 23,bg 1010 29]))))))
 (.pre 1 (sg 0 [bv 11 2,bv 10 20,bv 6 26,bv 5 27,bv 9 2,bv 8 2,bg 7 19,bv 4 26,bv 3 25,bg 2 24,bv 1 2,bv 0 3]) (tb (fr 30 4 (.post 1 0 (sg 0 [bv 11 2,bv 10 20,bv 6 26,bv 5 27,bv 9 2,bv 8 2,bg 7 19,bv 4 26,bv 3 25,bg 2 24,bv 1 2,bv 0 3]) 30 (.fresh 34 (.pre 2 (sg 0 [bv 8 32,bv 7 33,bv 1 22,bv 6 32,bv 5 31,bg 4 30,bv 3 2,bv 2 2,bg 0 0]) (tb (fr 35 5 (.post 2 0 (sg 0 [bv 8 32,bv 7 33,bv 1 22,bv 6 32,bv 5 31,bg 4 30,bv 3 2,bv 2 2,bg 0 0]) 35 (.fresh 40 (tn (.tims (tl 24) (tv 2)) (tl 281474976710656) (.fresh 41 (.pack [.cells 34 200 [(ti (tv 2)),(ti (tv 2)),(.vslice 30 (tl 0) (tv 31) (tv 32) 1)],.arr 30 5 [CK.int .u8] (tv 33) (tv 32),.arr 19 3 [CK.int .i64] (tv 20) (tv 2)] 42 (.inv 1 43 (sg 1000 [bg 1018 42,bt 1017 (.drep (tv 2) (.rcons .vnils .rnil)),bv 1015 39,bv 1014 37,bv 1013 36,bg 1012 35,bv 1008 27,bv 1007 26,bv 1006 25,bg 1005 24,bv 1003 38,bt 1002 (tl 0),bg 1016 41,bg 1011 40,bg 1004 23,bg 1010 29]) (fr 43 19 (.hyp 1 43 (.br (.cmp .lss (tv 45) (tv 2))
 (ts (tl 0) (tv 5) (ts (tl 0) (.dlen (tv 7)) (.view (.vcell (tv 7) (tl 0) 1) [CK.int .u8] [61,9] 62 (tn (.tims (tl 1) (.dlen (tv 64))) (tl 281474976710656) (.fresh 65 (tn (tl 0) (tv 45) (ts (tv 45) (.dlen (tv 60)) (.pre 3 (sg 0 [bv 6 57,bv 5 58,bv 7 45,bv 4 57,bv 3 56,bg 2 55,bv 1 2,bv 0 2]) (tb (fr 66 3 (.post 3 0 (sg 0 [bv 6 57,bv 5 58,bv 7 45,bv 4 57,bv 3 56,bg 2 55,bv 1 2,bv 0 2]) 66 (tn (tl 0) (tv 67) (.pack [.arr 65 5 [CK.int .u8] (.drep (.dlen (tv 64)) (.rcons (tu (tl 0)) .rnil)) (.dlen (tv 64)),.abs 61 2] 69 (.inv 2 70 (sg 1000 [bg 1018 69,bt 1017 (.dput (tv 60) (tv 45) 0 (.rcons (.vslice 65 (tl 0) (.dlen (tv 64)) (.dlen (tv 64)) 1) .rnil)),bv 1015 58,bv 1014 57,bv 1013 56,bv 1008 51,bv 1007 50,bv 1006 49,bg 1005 48,bv 1003 46,bt 1019 (tl 0),bv 1022 68,bv 1021 67,bv 1020 66,bg 1012 55,bv 1002 45,bg 1016 59,bg 1011 54,bg 1004 47,bg 1010 53]) (fr 70 23 (.hyp 2 70 (.br (.cmp .lss (tv 89) (tv 91))
 (tn (tl 0) (tv 89) (tn (tl 0) (tv 90) (tn (tl 0) (.plus (tv 90) (tv 89)) (ts (.plus (tv 90) (tv 89)) (.dlen (tv 85)) (tn (tl 0) (tv 72) (ts (tv 72) (tv 2) (ts (tv 72) (.dlen (tv 87)) (ts (tv 89) (tv 5) (ts (tv 89) (.dlen (tv 7)) (tb (.pre 4 qoI (tb (fr 93 2 (.post 4 0 qoI 93 (.back 2 70 (sg 1000 [bg 1018 94,bv 1017 87,bv 1015 85,bv 1014 84,bv 1013 83,bv 1008 78,bv 1007 77,bv 1006 76,bg 1005 75,bv 1003 93,bt 1019 (.arith .add .i64 (tv 89) (tl 1)),bv 1022 92,bv 1021 91,bv 1020 90,bg 1012 82,bv 1002 72,bg 1016 86,bg 1011 81,bg 1004 74,bg 1010 80]))))))))))))))))
 (.back 1 43 (sg 1000 [bg 1018 88,bv 1017 87,bv 1015 85,bv 1014 84,bv 1013 83,bg 1012 82,bv 1008 78,bv 1007 77,bv 1006 76,bg 1005 75,bv 1003 73,bt 1002 (.arith .add .i64 (tv 72) (tl 1)),bg 1016 86,bg 1011 81,bg 1004 74,bg 1010 80])))))))))))))))))))
 (tb (.pack [.cells 53 200 [(ti (tv 3)),(ti (tv 2)),(.vslice 48 (tl 0) (tv 49) (tv 50) 1)],.cells 47 200 [(ti (tv 3)),(ti (tv 2)),(.vslice 48 (tl 0) (tv 49) (tv 50) 1)],.cells 54 200 [(ti (tv 2)),(ti (tv 2)),(.vslice 55 (tl 0) (tv 56) (tv 57) 1)],.arr 55 5 [CK.int .u8] (tv 58) (tv 57),.abs 61 2] 62 (.ret 0 (sg 10 [bv 17 51,bg 16 62,bv 15 60,bv 14 46,bv 13 50,bv 12 49,bg 11 48,bg 10 59]))))))))))))))))))))))))))))))))))
theorem q4y:qj Tryz.prog qf1 [q3f,q4A,q3g,qcs,qnZ] [qvZ,qxC,qwh 45] qtU:=qg Tryz.func111 Tryz.call111 (by kernel_rfl)
variable {k total len e e':Int} {n i:Nat} {I I':Nat->Int} {L L':Nat->Nat}
theorem q1b:qhT total len I L 0:=fun j hj=>by omega
theorem q12 (h:qhT total len I L i) (h1:0 <= I i/\I i < total) (h2:∀ j,j < i->I j ≠ I i) (h3:¬ (len < 0/\8192 < L i)) (h4:(L i:Int) = qcy len L):qhT total len I L (i + 1):=fun j hj=>by
 by_cases hji:j = i
 ·subst hji
  exact ⟨h1,h2,fun h=>by omega,h4⟩
 ·exact h j (by omega)
theorem qrO (hi:i < n) (h:qhT total len I L n) (hb:qou total len I L i e):False:=by
 obtain ⟨a,b,c,d⟩:=h i hi;rcases hb with ⟨h1,_⟩ | ⟨_,⟨j,h1,h2⟩,_⟩ | ⟨_,_,⟨h1,h2⟩,_⟩ | ⟨_,_,_,h1,_⟩
 ·exact h1 a
 ·exact b j h1 h2
 ·have:=c h1; omega
 ·exact h1 d
theorem qDD (h:qou total len I L i e) (h':qou total len I L i e'):e = e':=by
 rcases h with ⟨a,b⟩ | ⟨a,⟨j,b1,b2⟩,c⟩ | ⟨a,b,c,d⟩ | ⟨a,b,c,d,f⟩ <;> rcases h' with ⟨a',b'⟩ | ⟨a',⟨j',b1',b2'⟩,c'⟩ | ⟨a',b',c',d'⟩ | ⟨a',b',c',d',f'⟩ <;>
  first | omega | exact (a a').elim | exact (a' a).elim | exact (b' _ b1 b2).elim | exact (b _ b1' b2').elim | exact (c' c).elim | exact (c c').elim
theorem q8o (h:qkv k total len n I L e) (h':qkv k total len n I L e'):e = e':=by
 rcases h with ⟨i,hi,ho,hb⟩ | ⟨ho,hk⟩ <;> rcases h' with ⟨j,hj,ho',hb'⟩ | ⟨ho',hk'⟩
 ·rcases jdz i j with h | h | h
  ·exact (qrO h ho' hb).elim
  ·subst h; exact qDD hb hb'
  ·exact (qrO h ho hb').elim
 ·exact (qrO hi ho' hb).elim
 ·exact (qrO hj ho hb').elim
 ·omega
theorem q5j (h:qkv k total len n I L 0):qhT total len I L n/\k <= (n:Int):=by
 rcases h with ⟨i,hi,ho,hb⟩ | ⟨ho,⟨_,h⟩ | ⟨h,_⟩⟩
 ·rcases hb with ⟨_,h⟩ | ⟨_,_,h⟩ | ⟨_,_,_,h⟩ | ⟨_,_,_,_,h⟩ <;> omega
 ·omega
 ·exact ⟨ho,h⟩
theorem qs8 {D:qe} {m j:Nat} (hj:j < m):(qav D m).getD j 0 = pcI D j:=by
 unfold qav;rw [jab,jaq,jbp hj]; rfl
theorem qeQ {D:qe} {m:Nat}:(qav D m).length = m:=by simp [qav]
theorem q7Q {f:Nat->Int}:∀ {m:Nat},(∀ j,j < m->∀ j',j' < j->f j' ≠ f j)->((List.range m).map f).Nodup:=fun {m} h=>by
 rw [List.nodup_iff_pairwise_ne,jfv];refine List.Pairwise.imp_of_mem (R:=fun a b=>a < b) (fun {a b} ha hb hlt=>?_) List.pairwise_lt_range;exact h b (jb1.1 hb) a hlt
theorem qmC {D:qe} {L:Nat->Nat} {m:Nat} (h:qhT total len (pcI D) L n) (hm:m <= n):qce m total.toNat (qav D m):=by
 refine ⟨qeQ,q7Q fun j hj j' hj'=>(h j (by omega)).2.1 j' hj',fun x hx=>?_⟩;obtain ⟨j,hj,rfl⟩:=jbk.1 hx;have:=(h j (by rw [jb1] at hj; omega)).1;exact ⟨this.1,by omega⟩
end Go.Proofs
set_option maxRecDepth 100000
namespace Go.Proofs
open Go Go.Eng
theorem q6m:qxq.ok Tryz.prog:=⟨qvF.1,fun Z w hF hO hg hd hsub hst hro hpre=>qvF.2 Z w hF hO hg hd hsub hst (fun x hx=>by
  rcases ja9.1 hx with rfl | hx
  ·exact hro _ (jae ..)
  ·rcases ja9.1 hx with rfl | hx
   ·exact hro _ (jad _ (jae ..))
   ·rcases ja9.1 hx with rfl | hx
    ·exact hro (.abs 11 6) (jad _ (jad _ (jae ..)))
    ·cases hx) hpre⟩
theorem qfg {h:Hp} {D:qe} {n j:Int} (hp:qgE h D n.toNat) (h0:0 <= j) (h1:j < n):j < (D.length:Int)/\qb D j 0 = pcI D j.toNat/\∃ d,Rd h kB (qC D j 1) d/\qk d/\pcD h D j.toNat = bI d/\pcN h D j.toNat = d.length:=by
 obtain ⟨a,b,d,c,e,f⟩:=qnh hp h0 h1;exact ⟨a,b,d,c,e,f,by rw [pcN,f,bI_len]⟩
theorem q4S {I:Nat->Int}:qrF [List.replicate 255 (.bool false)] I 0:=by
 refine ⟨⟨_,rfl,jaz ..⟩,fun x h0 h1=>⟨fun h=>?_,fun ⟨j,hj,_⟩=>by omega⟩⟩;exfalso;have h2:qay [List.replicate 255 (Value.bool false)] x.toNat = false:=by
  unfold qay;rw [jbm,jbf,jah (by omega)]; rfl
 rw [h2] at h; cases h
theorem q4p {s:qe} {I:Nat->Int} {i:Nat} (h:qrF s I i) (h0:0 <= I i) (h1:I i < 255):qrF (qa0 s (I i).toNat (.bool true)) I (i + 1):=by
 obtain ⟨⟨row,rfl,hr⟩,h2⟩:=h;refine ⟨⟨_,rfl,by rw [jdv]; exact hr⟩,fun x x0 x1=>?_⟩;have hc:qay (qa0 [row] (I i).toNat (.bool true)) x.toNat = if x = I i then true else qay [row] x.toNat:=by
  unfold qay qa0;rw [jbm,jbm,jby];by_cases hxe:x = I i
  ·rw [jah (by rw [hxe]),jah (by omega),jah hxe]; rfl
  ·rw [jaf (fun e=>hxe (by omega)),jaf hxe]
 rw [hc];by_cases hxe:x = I i
 ·rw [jah hxe]
  exact ⟨fun _=>⟨i,by omega,hxe.symm⟩,fun _=>rfl⟩
 ·rw [jaf hxe,h2 x x0 x1]
  constructor
  ·rintro ⟨j,hj,he⟩; exact ⟨j,by omega,he⟩
  ·rintro ⟨j,hj,he⟩
   refine ⟨j,?_,he⟩;by_cases hji:j = i
   ·exact (hxe (by rw [<- he,hji])).elim
   ·omega
theorem qsq:qfz.ok Tryz.prog:=q2R (by simp) fun Z hg hp=>by
 obtain ⟨p1,p2,p3,hpc⟩:=hp;simp (config:={ maxSteps:=4000000 }) [qu5,qfz,qjO,qyq,okR];refine ⟨p2,⟨p2,q1b,q4S⟩,fun i _ s _ i0 i1 ho hs=>⟨fun hi=>?_,fun hi=>?_⟩⟩
 ·obtain ⟨hl,hI,d,hr,_,_,hL⟩:=qfg hpc i0 hi
  have bad:∀ e,qou (Z 1).i (Z 2).i (pcI (Z 6).d) (pcN (Z 8).h (Z 6).d) i.i.toNat e->qkv (Z 0).i (Z 1).i (Z 2).i (Z 4).i.toNat (pcI (Z 6).d) (pcN (Z 8).h (Z 6).d) e:=fun e hb=>.inl ⟨i.i.toNat,by omega,ho,hb⟩
  rw [hI];refine ⟨i0,by omega,fun h=>bad _ (.inl ⟨by omega,rfl⟩),fun h0=>⟨fun h=>bad _ (.inl ⟨by omega,rfl⟩),fun h1=>?_⟩⟩;have hsx:=hs.2 _ h0 (by omega);refine ⟨h0,by omega,by obtain ⟨⟨row,e,_⟩,_⟩:=hs; rw [e]; exact Nat.one_pos,fun hx=>bad _ (.inr (.inl ⟨⟨h0,h1⟩,hsx.1 hx,rfl⟩)),fun hx=>?_⟩;have hno:∀ j,j < i.i.toNat->pcI (Z 6).d j ≠ pcI (Z 6).d i.i.toNat:=fun j hj he=>by
   rw [hsx.2 ⟨j,hj,he⟩] at hx; cases hx
  have next:¬ ((Z 2).i < 0/\8192 < pcN (Z 8).h (Z 6).d i.i.toNat)->(pcN (Z 8).h (Z 6).d i.i.toNat:Int) = qcy (Z 2).i (pcN (Z 8).h (Z 6).d) ->
    (0 <= qc .add .i64 i.i 1/\qc .add .i64 i.i 1 <= (Z 4).i/\qhT (Z 1).i (Z 2).i (pcI (Z 6).d) (pcN (Z 8).h (Z 6).d) (qc .add .i64 i.i 1).toNat/\qrF (qa0 s.d (pcI (Z 6).d i.i.toNat).toNat (.bool true)) (pcI (Z 6).d) (qc .add .i64 i.i 1).toNat)/\max ((Z 4).i - qc .add .i64 i.i 1) 0 < (Z 4).i - i.i:=fun h3 h4=>by
   rw [add64 (by omega) (by omega),show (i.i + 1).toNat = i.i.toNat + 1 by omega];exact ⟨⟨by omega,by omega,q12 ho ⟨h0,h1⟩ hno h3 h4,q4p hs h0 (by omega)⟩,by omega⟩
  refine ⟨fun hneg=>⟨d,hr,fun h=>bad _ (.inr (.inr (.inl ⟨⟨h0,h1⟩,hno,⟨hneg,by omega⟩,rfl⟩))),fun h=>?_⟩,fun hpos=>⟨d,hr,fun h=>bad _ (.inr (.inr (.inr ⟨⟨h0,h1⟩,hno,fun h=>by omega,?_,rfl⟩))),fun h=>next (fun h=>by omega) ?_⟩⟩
  ·obtain ⟨hl0,_,d0,hr0,_,_,hL0⟩:=qfg hpc (j:=0) (by omega) (by omega)
   have hw:qcy (Z 2).i (pcN (Z 8).h (Z 6).d) = (d0.length:Int):=by
    unfold qcy;rw [jah hneg];exact congrArg Nat.cast hL0
   refine ⟨by omega,by omega,d0,hr0,d,hr,fun hne=>bad _ (.inr (.inr (.inr ⟨⟨h0,h1⟩,hno,fun h=>by omega,?_,rfl⟩))),fun he=>next (fun h=>by omega) ?_⟩
   ·rw [hw,hL]; exact hne
   ·rw [hw,hL]; exact he
  ·unfold qcy
   rw [jaf (by omega),hL]; exact h
  ·unfold qcy
   rw [jaf (by omega),hL]; exact h
 ·rw [show i.i.toNat = (Z 4).i.toNat by omega] at ho
  exact ⟨fun h=>.inr ⟨ho,.inl ⟨by omega,rfl⟩⟩,fun h=>.inr ⟨ho,.inr ⟨by omega,rfl⟩⟩⟩
theorem qrM:qfr.ok Tryz.prog:=q2I (by simp) fun Z hg hp=>by
 obtain ⟨p1,p2,p3,hpc⟩:=hp;simp (config:={ maxSteps:=4000000 }) [qtO,qfr,qjO,qyZ,qyv,okR];refine ⟨⟨p2,q1b⟩,fun i _ i0 i1 ho=>⟨p2,fun hi=>?_,fun hi=>?_⟩⟩
 ·obtain ⟨hl,hI,d,hr,_,_,hL⟩:=qfg hpc i0 hi
  have bad:∀ e,qou (Z 1).i (Z 2).i (pcI (Z 6).d) (pcN (Z 8).h (Z 6).d) i.i.toNat e->qkv (Z 0).i (Z 1).i (Z 2).i (Z 4).i.toNat (pcI (Z 6).d) (pcN (Z 8).h (Z 6).d) e:=fun e hb=>.inl ⟨i.i.toNat,by omega,ho,hb⟩
  rw [hI];refine ⟨i0,by omega,fun h=>bad _ (.inl ⟨by omega,rfl⟩),fun h0=>⟨fun h=>bad _ (.inl ⟨by omega,rfl⟩),fun h1=>⟨⟨i0,hi,ho,⟨h0,h1⟩,i0,fun j hj=>by omega⟩,?_⟩⟩⟩;intro i' _ x _ v _ j _ i0' i1' hii _ x0 x1 hx hv j0 j1 hno;have hie:i'.i = i.i:=hii;rw [hie] at hx hv i1' j1;rw [hie];rw [hI] at hx;refine ⟨fun hj=>?_,fun hj=>?_⟩
  ·obtain ⟨hlj,hIj,_⟩:=qfg hpc j0 (by omega)
   rw [hIj];refine ⟨j0,by omega,by omega,fun h=>bad _ (.inr (.inl ⟨⟨h0,h1⟩,⟨j.i.toNat,by omega,by rw [h,hx]⟩,rfl⟩)),fun h=>⟨⟨i0,hi,rfl,ho,⟨x0,x1⟩,by rw [hI]; exact hx,hv,?_⟩,?_⟩⟩
   ·rw [add64 (by omega) (by omega)]
    exact ⟨by omega,by omega,fun j' hj'=>by
     by_cases he:j' = j.i.toNat
     ·rw [he]; exact h
     ·exact hno j' (by omega)⟩
   ·rw [add64 (by omega) (by omega)]; omega
  ·rw [hv]
   have hno:∀ j',j' < i.i.toNat->pcI (Z 6).d j' ≠ pcI (Z 6).d i.i.toNat:=fun j' hj'=>by rw [<- hx]; exact hno j' (by omega)
   have next:¬ ((Z 2).i < 0/\8192 < pcN (Z 8).h (Z 6).d i.i.toNat)->(pcN (Z 8).h (Z 6).d i.i.toNat:Int) = qcy (Z 2).i (pcN (Z 8).h (Z 6).d) ->
     (0 <= qc .add .i64 i.i 1/\qc .add .i64 i.i 1 <= (Z 4).i/\qhT (Z 1).i (Z 2).i (pcI (Z 6).d) (pcN (Z 8).h (Z 6).d) (qc .add .i64 i.i 1).toNat)/\max ((Z 4).i - qc .add .i64 i.i 1) 0 < (Z 4).i - i.i:=fun h3 h4=>by
    rw [add64 (by omega) (by omega),show (i.i + 1).toNat = i.i.toNat + 1 by omega];exact ⟨⟨by omega,by omega,q12 ho ⟨h0,h1⟩ hno h3 h4⟩,by omega⟩
   obtain ⟨hl0,_,d0,hr0,_,_,hL0⟩:=qfg hpc (j:=0) (by omega) (by omega);have hwn:(Z 2).i < 0->qcy (Z 2).i (pcN (Z 8).h (Z 6).d) = (d0.length:Int):=fun hneg=>by
    unfold qcy;rw [jah hneg];exact congrArg Nat.cast hL0
   have hwp:0 <= (Z 2).i->qcy (Z 2).i (pcN (Z 8).h (Z 6).d) = (Z 2).i:=fun hpos=>by
    unfold qcy;rw [jaf (by omega)]
   have b10:¬ ((Z 2).i < 0/\8192 < pcN (Z 8).h (Z 6).d i.i.toNat)->(pcN (Z 8).h (Z 6).d i.i.toNat:Int) ≠ qcy (Z 2).i (pcN (Z 8).h (Z 6).d)->qkv (Z 0).i (Z 1).i (Z 2).i (Z 4).i.toNat (pcI (Z 6).d) (pcN (Z 8).h (Z 6).d) 10:=fun h3 h4=>bad _ (.inr (.inr (.inr ⟨⟨h0,h1⟩,hno,h3,h4,rfl⟩)))
   have e10:∀ hneg:(Z 2).i < 0,(d.length:Int) <= 8192->¬ (d.length:Int) = (d0.length:Int)->qkv (Z 0).i (Z 1).i (Z 2).i (Z 4).i.toNat (pcI (Z 6).d) (pcN (Z 8).h (Z 6).d) 10:=fun hneg h8 hne=>b10 (fun h=>by omega) (by rw [hwn hneg,hL]; exact hne)
   have n10:∀ hneg:(Z 2).i < 0,(d.length:Int) <= 8192->(d.length:Int) = (d0.length:Int)->_:=fun hneg h8 he=>next (fun h=>by omega) (by rw [hwn hneg,hL]; exact he)
   have p10:∀ hpos:0 <= (Z 2).i,¬ (d.length:Int) = (Z 2).i->qkv (Z 0).i (Z 1).i (Z 2).i (Z 4).i.toNat (pcI (Z 6).d) (pcN (Z 8).h (Z 6).d) 10:=fun hpos hne=>b10 (fun h=>by omega) (by rw [hwp hpos,hL]; exact hne)
   have q10:∀ hpos:0 <= (Z 2).i,(d.length:Int) = (Z 2).i->_:=fun hpos he=>next (fun h=>by omega) (by rw [hwp hpos,hL]; exact he)
   refine ⟨fun hneg=>⟨d,hr,fun h=>bad _ (.inr (.inr (.inl ⟨⟨h0,h1⟩,hno,⟨hneg,by omega⟩,rfl⟩))),fun h8=>⟨fun h=>by omega,fun _=>⟨by omega,by omega,⟨d,hr,d0,hr0,e10 hneg h8,n10 hneg h8⟩,d0,hr0,d,hr,e10 hneg h8,n10 hneg h8⟩⟩⟩,fun hpos=>⟨fun _=>⟨d,hr,p10 hpos,q10 hpos⟩,fun h=>by omega⟩⟩
 ·rw [show i.i.toNat = (Z 4).i.toNat by omega] at ho
  exact ⟨fun h=>.inr ⟨ho,.inl ⟨by omega,rfl⟩⟩,fun h=>.inr ⟨ho,.inr ⟨by omega,rfl⟩⟩⟩
theorem qAN {h:Hp} {v:Value} (hb:rdB h v):∃ d,Rd h kB v d/\qk d/\rdL h v = bI d:=by
 obtain ⟨d,hr,hB⟩:=hb;exact ⟨d,hr,hB,qeZ hr⟩
theorem qrj {h:Hp} {v:Value} {g:List Int->List Int} (hg:∀ l,qz l->g l = l):ql9 h h v g:=fun vs n M i ht hi hv =>
 qjD ht (fun _ _=>rfl) fun j hj=>by
  by_cases hji:j = i
  ·rw [jah hji,hji,hg _ (q5L ht hi)]
  ·rw [jaf hji]
theorem qAm {h h':Hp} {v:Value} {g:List Int->List Int} {l:Nat} (ht:q7m h v l) (hT:ql9 h h' v g) (hg:∀ x,(g x).length = x.length):∃ d,Rd h' kB v d/\qk d/\l <= d.length:=by
 obtain ⟨vs,n,M,i,ht,hi,hv,hl⟩:=ht;obtain ⟨d,hr,hd,hB⟩:=qqd (hT vs n M i ht hi hv) hi;rw [hv] at hr;rw [jah rfl] at hd;exact ⟨d,hr,hB,by rw [<- bI_len,hd,hg]; exact hl⟩
theorem q3t {h h1 h2:Hp} {v:Value} {s:List Int} {w:Int} {k:Nat} {r:Option Addr} {d:qe} {cap:Nat} {x:Int} (hT:ql9 h h1 v fun l=>qE l 0 (seg s 0 k) w) (hP:Put h1 h2 r kB d k [.int .u8 x]) (hv:v = .slice (qn r 0) d.length cap) (hr:Rd h1 kB v d) (hk:k < d.length) (hks:k < s.length)
  (hx:x = qek (qb d k 0) (qbC w (s.getD k 0))):ql9 h h2 v fun l=>qE l 0 (seg s 0 (k + 1)) w:=fun vs n M i ht hi hvi=>by
 have t:=hT vs n M i ht hi hvi;have hri:Rd h1 kB (vs i) d:=by rw [hvi]; exact hr
 obtain ⟨d',r',e',_⟩:=qqd t hi;obtain rfl:=qaR r' hri;rw [jah rfl] at e';have hlen:d'.length = (M i).length:=by rw [<- bI_len,e',qbK]
 have hc:(M i)[0 + k]? = some (qb d' k 0):=by
  have h0:=qcw (d:=d') (i:=(k:Int)) (by omega) (by omega);rw [jal,e',qgp (by right; rw [qdF (by omega)]; omega)] at h0;rw [jbj]; exact h0
 have hy:s[0 + k]? = some (s.getD k 0):=by
  rw [jbj,jac hks,jab,jac hks]; rfl
 refine qjD (qDf t hi hP (by rw [hvi]; exact hv) hri hk (by rw [hx]; exact qb6)) (fun _ _=>rfl) fun j _=>?_
 by_cases hji:j = i
 ·subst hji
  rw [jah rfl,jah rfl,jah rfl,hx]
  show qE (M j) 0 (seg s 0 (k + 1)) w = (qE (M j) 0 (seg s 0 k) w).set k _
  have h:=qhs (i:=k) (c:=w) hc hy;simp only [jbj] at h;exact h
 ·rw [jaf hji,jaf hji,jaf hji]
theorem q63:qnZ.ok Tryz.prog:=q8c (by simp [qse]) fun Z hg hp=>by
 obtain ⟨hf,hb,hl,hh,hw⟩:=hp;simp (config:={ maxSteps:=4000000 }) [qxX,qnZ,q1W,qjc];obtain ⟨s,hrs,hsB,hs⟩:=qAN hb;have hsl:(rdL (Z 6).h (Z 3).v).length = s.length:=by rw [hs,bI_len]
 refine ⟨fun h0=>⟨hf,qrj fun l hl=>by rw [h0]; exact qh0 hl⟩,fun h0=>⟨s,hrs,fun u0 _ u1 _ e0 _=>⟨⟨hf,by rw [hsl],e0.symm,qrj fun l hl=>by rw [show seg (rdL (Z 6).h (Z 3).v) 0 0 = [] by simp [seg],qih]⟩,?_⟩⟩⟩;intro i _ f _ n _ H _ v _ hf i0 i1 hn hv hT;have hlen:∀ (k:Nat) (x:List Int),(qE x 0 (seg (rdL (Z 6).h (Z 3).v) 0 k) (Z 4).i).length = x.length:=fun k x=>qbK
 refine ⟨fun hi=>⟨s,by rw [hv]; exact hrs,fun u2 _ u3 _ e1 _=>⟨i0,by omega,?_⟩⟩,fun hi=>⟨hf,?_⟩⟩
 ·obtain ⟨d,hrd,hdB,hld⟩:=qAm hh hT (hlen _)
  have hsb:=qbs hsB i0 (by omega:i.i < s.length);rw [add64 (x:=i.i) (by omega) (by omega)];have hsi:(rdL (Z 6).h (Z 3).v).getD i.i.toNat 0 = qb s i.i 0:=by rw [hs,qef i0 (by omega)]
  have core:∀ (a b m H':U),(Z 2).v = .slice (qn a.r 0) d.length b.i.toNat->m.i = qbC (Z 4).i (qb s i.i 0)->Put H.h H'.h a.r kB d i.i.toNat [.int .u8 (qc .xor .u8 (qb d i.i 0) m.i)] ->
    ql9 (Z 5).h H'.h (Z 2).v fun l=>qE l 0 (seg (rdL (Z 6).h (Z 3).v) 0 (i.i + 1).toNat) (Z 4).i:=fun a b m H' ea hm hP=>by
   rw [show (i.i + 1).toNat = i.i.toNat + 1 by omega];exact q3t hT hP ea hrd (by omega) (by omega) (by rw [hsi,hm,jay i0]; rfl)
  refine ⟨⟨d,hrd,fun a _ b _ ea _=>⟨by omega,⟨hf,hw.1,hw.2,hsb⟩,fun m _ f' _ hf' hm H' _ hP=>?_⟩⟩,⟨hf,hw.1,hw.2,hsb⟩,fun m _ f' _ hf' hm=>⟨d,hrd,fun a _ b _ ea _=>⟨by omega,fun H' _ hP=>?_⟩⟩⟩
  all_goals exact ⟨⟨hf',by omega,by omega,hn,by rw [<- e1]; exact hv,core a b m H' ea hm hP⟩,by omega⟩
 ·have:seg (rdL (Z 6).h (Z 3).v) 0 i.i.toNat = rdL (Z 6).h (Z 3).v:=by
   unfold seg;rw [jdl,jap (by omega)]
  rw [this] at hT;exact hT
def byF (r:F) (y:Nat->F):Nat->F:=fun l=>(if l = 0 then 0 else y (l - 1)) ^^^ qh r (y l)
theorem qlL {y:Nat->F} {x:F}:qB 1 y x = y 0:=by
 show (0:F) ^^^ qh (y 0) (qaY x 0) = y 0
 rw [qa1,show qaY x 0 = 1 from rfl,qaw]
theorem qxJ {r x:F} {y:Nat->F}:∀ n,qB (n + 1) (byF r y) x = qh (x ^^^ r) (qB n y x) ^^^ qh (qh r (y n)) (qaY x n)
 | 0=>by rw [qlL,byF,jah rfl,qa1,show qB 0 y x = 0 from rfl,q9,qa1,show qaY x 0 = 1 from rfl,qaw]
 | n + 1=>by
  have ih:=qxJ (r:=r) (x:=x) (y:=y) n;have h1:qB (n + 2) (byF r y) x = qB (n + 1) (byF r y) x ^^^ qh (byF r y (n + 1)) (qaY x (n + 1)):=rfl;have h2:qB (n + 1) y x = qB n y x ^^^ qh (y n) (qaY x n):=rfl;rw [h1,ih,h2,byF,jaf (by omega),jc9,qgL,qct (x:=y n)];have h3:qh (x ^^^ r) (qh (y n) (qaY x n)) = qh (y n) (qaY x (n + 1)) ^^^ qh (qh r (y n)) (qaY x n):=by
   rw [qct,qaY]
   congr 1
   ·rw [<- q7,qP (x:=x),q7]
    try rw [qP (x:=x)]
   ·rw [q7]
  rw [h3];generalize qh (x ^^^ r) (qB n y x) = a;generalize qh (qh r (y n)) (qaY x n) = b;generalize qh (y n) (qaY x (n + 1)) = c;generalize qh (qh r (y (n + 1))) (qaY x (n + 1)) = d;rw [jbo,jbo,jbo]
  congr 1
  rw [<- jbo,<- jbo,jc1 b c]
theorem qs3 {r x:F} {y:Nat->F} {n:Nat} (h:y n = 0):qB (n + 1) (byF r y) x = qh (x ^^^ r) (qB n y x):=by
 rw [qxJ,h,q9,qD,qaj]
theorem qui {y:Nat->F} {x:F} {n:Nat} (h:∀ l,n <= l->y l = 0):∀ m,qB (n + m) y x = qB n y x
 | 0=>rfl
 | m + 1=>by
  show qB (n + m) y x ^^^ qh (y (n + m)) (qaY x (n + m)) = _
  rw [qui h m,h _ (by omega),qD,qaj]
theorem qp5 {y z:Nat->F} {x:F} {n:Nat}:qB n (fun l=>y l ^^^ z l) x = qB n y x ^^^ qB n z x:=by
 simp only [qB];rw [<- qgP];exact qm fun j _=>qct
theorem qzg {y:Nat->F} {x c:F} {n:Nat}:qB n (fun l=>qh c (y l)) x = qh c (qB n y x):=by
 simp only [qB];rw [<- qd1];exact qm fun j _=>q7
def ddF (xs ys:Nat->F):Nat->Nat->F
 | s,0=>ys s
 | s,j + 1=>qh (ddF xs ys (s + 1) j ^^^ ddF xs ys s j) (qcd (xs (s + j + 1) ^^^ xs s))
theorem qit {n:Nat} {xs ys:Nat->F} (hd:distinct n xs):∀ j s,s + j < n->∃ y:Nat->F,(∀ l,j < l->y l = 0)/\(∀ i,i <= j->qB (j + 1) y (xs (s + i)) = ys (s + i))/\y j = ddF xs ys s j
 | 0,s,hs=>⟨fun l=>if l = 0 then ys s else 0,fun l hl=>jaf (by omega),fun i hi=>by
   obtain rfl:i = 0:=by omega
   rw [qlL,jah rfl,jci],rfl⟩
 | j + 1,s,hs=>by
  obtain ⟨y1,a1,b1,c1⟩:=qit (ys:=ys) hd j (s + 1) (by omega);obtain ⟨y0,a0,b0,c0⟩:=qit (ys:=ys) hd j s (by omega);have hne:xs (s + j + 1) ^^^ xs s ≠ 0:=fun h=>by have:=hd _ _ (by omega) (by omega) (qcP.1 h); omega
  let w:F:=qcd (xs (s + j + 1) ^^^ xs s)
  have hv:∀ x,qB (j + 2) (fun l=>qh w (byF (xs s) y1 l ^^^ byF (xs (s + j + 1)) y0 l)) x = qh w (qh (x ^^^ xs s) (qB (j + 1) y1 x) ^^^ qh (x ^^^ xs (s + j + 1)) (qB (j + 1) y0 x)):=fun x=>by
   rw [qzg,qp5,qs3 (a1 _ (by omega)),qs3 (a0 _ (by omega))]
  refine ⟨fun l=>qh w (byF (xs s) y1 l ^^^ byF (xs (s + j + 1)) y0 l),fun l hl=>?_,fun i hi=>?_,?_⟩
  ·simp only [byF]
   rw [jaf (by omega),jaf (by omega),a1 l (by omega),a0 l (by omega),a1 (l - 1) (by omega),a0 (l - 1) (by omega),q9,q9,qaJ,q9]
  ·rw [hv]
   have hw:∀ z,qh w (qh (xs (s + j + 1) ^^^ xs s) z) = z:=fun z=>by
    rw [<- q7,qP (x:=w),qcE hne,qfu]
   by_cases h0:i = 0
   ·subst h0
    have hb0:=b0 0 (by omega);simp only [jci] at hb0;rw [jci,qaJ,qD,qa1,hb0,jc1,hw]
   ·by_cases h1:i = j + 1
    ·subst h1
     have:=b1 j (ja4 _);rw [show s + 1 + j = s + (j + 1) by omega] at this;rw [this,<- jcq,qaJ,qD,qaj,hw]
    ·have h2:=b1 (i - 1) (by omega)
     rw [show s + 1 + (i - 1) = s + i by omega] at h2;rw [h2,b0 i (by omega),<- qct,qpQ,qaJ,qa1,jc1,hw]
  ·simp only [byF]
   rw [jaf (by omega),jaf (by omega),a1 (j + 1) (by omega),a0 (j + 1) (by omega),q9,q9,qaj,qaj,jc9,c1,c0,qP];rfl
def qmF (xs:Nat->F):Nat->Nat->F
 | 0=>fun l=>if l = 0 then 1 else 0
 | m + 1=>byF (xs m) (qmF xs m)
theorem qtW {xs:Nat->F}:∀ m,(∀ l,m < l->qmF xs m l = 0)/\qmF xs m m = 1/\∀ x,qB (m + 1) (qmF xs m) x = qat (fun u=>x ^^^ xs u) m
 | 0=>⟨fun l hl=>jaf (by omega),rfl,fun x=>by rw [qlL]; rfl⟩
 | m + 1=>by
  obtain ⟨h1,h2,h3⟩:=qtW (xs:=xs) m;refine ⟨fun l hl=>?_,?_,fun x=>?_⟩
  ·simp only [qmF,byF]
   rw [jaf (by omega),h1 (l - 1) (by omega),h1 l (by omega),q9,qaj]
  ·simp only [qmF,byF]
   rw [jaf (by omega),jc9,h2,h1 (m + 1) (by omega),q9,qaj]
  ·rw [qmF,qs3 (h1 _ (by omega)),h3,qat,qP]
def q2J (xs ys:Nat->F) (x:F) (m:Nat):F:=q6 (fun t=>qh (ddF xs ys 0 t) (qat (fun u=>x ^^^ xs u) t)) m
theorem quk {n:Nat} {xs ys:Nat->F} (hd:distinct n xs):∀ m,m < n->∃ y:Nat->F,(∀ l,m < l->y l = 0)/\(∀ i,i <= m->qB (m + 1) y (xs i) = ys i)/\∀ x,qB (m + 1) y x = q2J xs ys x (m + 1)
 | 0,hm=>by
  obtain ⟨y,a,b,c⟩:=qit (ys:=ys) hd 0 0 (by omega);refine ⟨y,a,fun i hi=>by have:=b i hi; simp only [jbj] at this ⊢; exact this,fun x=>?_⟩;rw [qlL,c]
  show ys 0 = (0:F) ^^^ qh (ys 0) 1
  rw [qa1,qaw]
 | m + 1,hm=>by
  obtain ⟨y0,a0,b0,c0⟩:=quk (ys:=ys) hd m (by omega);obtain ⟨y,a,b,c⟩:=qit (ys:=ys) hd (m + 1) 0 (by omega);obtain ⟨p1,p2,p3⟩:=qtW (xs:=xs) (m + 1);refine ⟨y,a,fun i hi=>by have:=b i hi; rwa [jbj] at this,fun x=>?_⟩
  let R:Nat->F:=fun l=>(y l ^^^ y0 l) ^^^ qh (ddF xs ys 0 (m + 1)) (qmF xs (m + 1) l)
  have hRv:∀ x,qB (m + 2) R x = (qB (m + 2) y x ^^^ qB (m + 1) y0 x) ^^^ qh (ddF xs ys 0 (m + 1)) (qat (fun u=>x ^^^ xs u) (m + 1)):=fun x=>by
   rw [<- p3,<- qzg,<- qui (y:=y0) (n:=m + 1) (fun l hl=>a0 l (by omega)) 1,<- qp5,<- qp5]
  have hRt:R (m + 1) = 0:=by
   simp only [R];rw [c,a0 (m + 1) (by omega),p2,qaw,qaj,qaJ]
  have hRe:∀ x,qB (m + 1) R x = qB (m + 2) R x:=fun x=>by
   show _ = qB (m + 1) R x ^^^ qh (R (m + 1)) (qaY x (m + 1))
   rw [hRt,qD,qaj]
  have h0:=qlQ (n:=m + 1) (y:=R) (xs:=xs) (fun i j hi hj=>hd i j (by omega) (by omega)) fun i hi=>by
   rw [hRe,hRv,b0 i (by omega)];have:=b i (by omega);rw [jbj] at this;rw [this,qaJ,qa1,qrp (k:=i) hi qaJ,q9]
  have hz:qB (m + 1) R x = 0:=qcC fun l hl=>by rw [h0 l hl,qD]
  rw [hRe,hRv] at hz;have h1:q2J xs ys x (m + 2) = q2J xs ys x (m + 1) ^^^ qh (ddF xs ys 0 (m + 1)) (qat (fun u=>x ^^^ xs u) (m + 1)):=rfl;rw [h1,<- c0 x];have h2:=qcP.1 hz;rw [<- h2,<- jbo,jc1,<- jbo,qaJ,qa1]
theorem qgx {f:Nat->List Int} {w:List Int} {l:Nat} (hw:qz w):∀ k,(∀ j,j < k->(f j).length = l/\qz (f j))->(qar f w l k).length = l/\qz (qar f w l k)/\∀ c,c < l->toF ((qar f w l k).getD c 0) = q6 (fun m=>qh (toF (w.getD m 0)) (toF ((f m).getD c 0))) k
 | 0,_=>⟨by simp [qar],fun x hx=>by rw [qar] at hx; rw [jc3 hx]; exact ⟨by omega,by omega⟩,fun c hc=>by
   rw [qar,jab,jbf,jah hc]; rfl⟩
 | k + 1,h=>by
  obtain ⟨h1,h2,h3⟩:=qgx hw k fun j hj=>h j (by omega)
  obtain ⟨f1,f2⟩:=h k (by omega);have hsl:seg (f k) 0 l = f k:=by rw [<- f1]; simp [seg]
  rw [qar,hsl];refine ⟨by rw [qbK,h1],qe2 h2,fun c hc=>?_⟩;rw [jab,qbN,jac (by omega),ja0,ja2,jah ⟨by omega,by omega⟩,jei,qfv,qdl (qbd hw _) (qbd f2 _),q6,<- h3 c hc,jab (l:=qar f w l k),jac (by omega),ja2]
theorem q5A {f g:Nat->List Int} {w v:List Int} {l k:Nat} (hw:qz w) (hv:qz v) (hf:∀ j,j < k->(f j).length = l/\qz (f j)) (hg:∀ j,j < k->(g j).length = l/\qz (g j))
  (h:∀ c,c < l->q6 (fun m=>qh (toF (w.getD m 0)) (toF ((f m).getD c 0))) k = q6 (fun m=>qh (toF (v.getD m 0)) (toF ((g m).getD c 0))) k):qar f w l k = qar g v l k:=by
 obtain ⟨a1,a2,a3⟩:=qgx hw k hf;obtain ⟨b1,b2,b3⟩:=qgx hv k hg;refine qm4 (by omega) fun c hc=>qgZ (qbd a2 c) (qbd b2 c) ?_
 rw [a3 c (by omega),b3 c (by omega),h c (by omega)]
theorem q7t {rs:List Int} {x:Int} {j:Nat} (hj:j < rs.length):toF ((qds rs x).getD j 0) = qdO rs.length (fun m=>toF (rs.getD m 0)) (toF x) j:=by
 unfold qds;rw [jab,jaq,jbp hj,ja0,ja2,qeG]
theorem qi8 {xs:List Int} {x:Int}:qz (qds xs x):=fun y hy=>by
 obtain ⟨m,_,rfl⟩:=jbk.1 hy;exact qg3
variable {k total:Nat} {rs:List Int}
theorem qnv (hc:qce k total rs) {j:Nat} (hj:j < k):toF (rs.getD j 0) = xsF (rs.getD j 0).toNat:=by
 have h1:=hc.1;have h2:=hc.2.2 (rs.getD j 0) (qiC (by omega));unfold xsF;rw [jay h2.1]
theorem qoS (hc:qce k total rs) (ht:total <= 255):distinct k fun m=>toF (rs.getD m 0):=fun i j hi hj he=>by
 refine qjB hc ht i j hi hj ?_;simp only [qnv hc hi,qnv hc hj] at he;exact he
theorem qu3 {xs v:Nat->F} (h1:1 <= k) (hd:distinct k xs):∃ y:Nat->F,(∀ i,i < k->qB k y (xs i) = v i)/\∀ x,qB k y x = q6 (fun j=>qh (qdO k xs x j) (v j)) k:=by
 obtain ⟨y,_,hy,_⟩:=quk (ys:=v) hd (k - 1) (by omega);rw [show k - 1 + 1 = k by omega] at hy;refine ⟨y,fun i hi=>hy i (by omega),fun x=>?_⟩;rw [qmk hd];exact qm fun j hj=>by rw [hy j (by omega)]
theorem q8b (hc:qce k total rs) (h1:1 <= k) (hk:k <= total) (ht:total <= 255) (v:Nat->F) {i:Nat} (hi:i < k) :
    q6 (fun j=>qh (qA k (qkd total k rs) i j) (v j)) k = q6 (fun j=>qh (qdO k (fun m=>toF (rs.getD m 0)) (xsF i) j) (v j)) k:=by
  obtain ⟨y,hy,hL⟩:=qu3 (v:=v) h1 (qoS hc ht);obtain ⟨g1,g2,_,g4⟩:=qfB h1 hk ht;have hlen:=qpT hc g1;have hr:=qw3 hc h1 hk ht;obtain ⟨t2,he⟩:=qov hlen (qnQ g2);rw [hr] at he;obtain ⟨m1,_⟩:=qs1 he;have hS:∀ j,j < k->∀ m,m < k->qA k (qdh (qc1 k total) k rs) j m = qdO k xsF (toF (rs.getD j 0)) m:=fun j hj m hm=>by
    have hrj:=hc.2.2 (rs.getD j 0) (qiC (by rw [hc.1]; exact hj));unfold qA;rw [qs5 g1 hc.2.2 (by rw [hc.1]; exact hj) hm,qnv hc hj,<- g4 (rs.getD j 0).toNat m (by omega) hm];rfl
  have hx:distinct k xsF:=qff (by omega);rw [<- hL]
  calc q6 (fun j=>qh (qA k (qkd total k rs) i j) (v j)) k
      = q6 (fun j=>q6 (fun m=>qh (qh (qA k (qkd total k rs) i j) (qA k (qdh (qc1 k total) k rs) j m)) (qB k y (xsF m))) k) k:=by
        refine qm fun j hj=>?_
        rw [<- hy j hj,qmk hx (x:=toF (rs.getD j 0)),<- qd1];exact qm fun m hm=>by rw [hS j hj m hm,q7]
    _ = q6 (fun m=>qh (del m i) (qB k y (xsF m))) k:=by
        rw [qf8];refine qm fun m hm=>?_
        rw [qex,qwT]
        congr 1
        exact m1 i m hi hm
    _ = qB k y (xsF i):=qpC (f:=fun m=>qB k y (xsF m)) hi
theorem q1o {m:List Int} {i j:Nat} (hj:j < k):toF ((seg m (i * k) k).getD j 0) = qA k m i j:=by
 unfold qA seg;rw [jab,jbb,jah hj,jbc,jab]
theorem quP (hc:qce k total rs) (h1:1 <= k) (hk:k <= total) (ht:total <= 255):(qkd total k rs).length = k * k/\qz (qkd total k rs):=by
 obtain ⟨g1,g2,_,_⟩:=qfB h1 hk ht;obtain ⟨t2,_⟩:=qov (qpT hc g1) (qnQ g2);exact ⟨t2.lb,t2.bb⟩
theorem qvY {l:List Int} {o n:Nat} (h:qz l):qz (seg l o n):=fun x hx=>h x (jb7 (jbx hx))
theorem q0F (hc:qce k total rs) (h1:1 <= k) (hk:k <= total) (ht:total <= 255) {f:Nat->List Int} {l i:Nat} (hf:∀ j,j < k->(f j).length = l/\qz (f j)) (hi:i < k) :
  qar f (seg (qkd total k rs) (i * k) k) l k = qar f (qds rs (i:Int)) l k:=by
 refine q5A (qvY (quP hc h1 hk ht).2) qi8 hf hf fun c hcl=>?_
 rw [qm fun m hm=>by rw [q1o hm],q8b hc h1 hk ht _ hi];exact qm fun m hm=>by rw [q7t (by rw [hc.1]; exact hm),hc.1]; rfl
theorem qAq (hc:qce k total rs) (h1:1 <= k) (hk:k <= total) (ht:total <= 255) {f:Nat->List Int} {l r:Nat} (hf:∀ j,j < k->(f j).length = l/\qz (f j)) (hr:r < total) {g:Nat->List Int} (hg:∀ i,i < k->g i = qar f (qds rs (i:Int)) l k) :
  qar g (seg (qc1 k total) (r * k) k) l k = qar f (qds rs (r:Int)) l k:=by
 obtain ⟨g1,g2,_,g4⟩:=qfB h1 hk ht;have hgf:∀ i,i < k->(g i).length = l/\qz (g i):=fun i hi=>by
  obtain ⟨a,b,_⟩:=qgx (qi8 (xs:=rs) (x:=(i:Int))) k hf;rw [hg i hi]; exact ⟨a,b⟩
 refine q5A (qvY g2) qi8 hgf hf fun c hcl=>?_
 obtain ⟨y,hy,hL⟩:=qu3 (v:=fun j=>toF ((f j).getD c 0)) h1 (qoS hc ht);have hx:distinct k xsF:=qff (by omega);have hv:∀ x:Int,q6 (fun m=>qh (toF ((qds rs x).getD m 0)) (toF ((f m).getD c 0))) k = qB k y (toF x):=fun x=>by
  rw [hL];exact qm fun m hm=>by rw [q7t (by rw [hc.1]; exact hm),hc.1]
 rw [hv,show toF ((r:Nat):Int) = xsF r from rfl,qmk hx];refine qm fun m hm=>?_
 rw [q1o hm,g4 r m hr hm,hg m hm,(qgx qi8 k hf).2.2 c hcl,hv];rfl
end Go.Proofs
namespace Go.Proofs
open Go Go.Eng
theorem qA7 {D:qe} {m:Nat}:qav D (m + 1) = qav D m ++ [pcI D m]:=by
 unfold qav;rw [jd5,jcn]; rfl
theorem qBP {d:qe} {k:IntKind} {x:Int}:bI (d ++ [[.int k x]]) = bI d ++ [x]:=by simp [bI,qbp,qX]
theorem qpM {x:Int} (h0:0 <= x) (h1:x < 256):IntKind.u8.wrap x = x:=by
 simp [IntKind.wrap,IntKind.bits,IntKind.signed]; omega
theorem q8w {D:qe} {m:Nat} (h:∀ j,j < m->0 <= pcI D j/\pcI D j < 256) (hn:(qav D m).Nodup):qj9 (qav D m):=by
 unfold qj9;rw [qeQ];intro i j hi hj he;simp only at he;rw [qs8 hi,qs8 hj] at he;have he':pcI D i = pcI D j:=qgZ (h i hi) (h j hj) he;have h1:(qav D m)[i]'(by rw [qeQ]; exact hi) = (qav D m)[j]'(by rw [qeQ]; exact hj):=by simp [qav,he']
 exact (List.getElem_inj (h₀:=by rw [qeQ]; exact hi) (h₁:=by rw [qeQ]; exact hj) hn).1 h1
set_option maxHeartbeats 1000000 in
theorem qrv:qf3.ok Tryz.prog:=q2L (by simp [qA0,q6m]) fun Z hg hp=>by
 obtain ⟨k1,k2,kn,ncap,n2,hpc,hI,hnd,l9,hL,hx⟩:=hp;simp (config:={ maxSteps:=4000000 }) [quR,qf3,qvS,qn2,qxq,qoq];refine ⟨⟨by omega,(fun r hr=>by cases hr),rfl⟩,fun n _ d _ i _ i0 i1 hn hB hd=>⟨fun hi=>?_,fun hi=>?_⟩⟩
 ·obtain ⟨hl,hIi,_⟩:=qfg hpc i0 hi
  have hb:=hI i.i.toNat (by omega);rw [hIi,qpM hb.1 hb.2,add64 (by omega) (by omega),show (i.i + 1).toNat = i.i.toNat + 1 by omega];have hdl:d.d.length = i.i.toNat:=by rw [<- bI_len,hd,qeQ]
  refine ⟨i0,by omega,hl,hn,by omega,⟨by omega,by omega,hn,fun row hrow=>?_,by rw [qBP,hd,qA7]⟩,by omega⟩;rcases jaw.1 hrow with h | h
  ·exact hB row h
  ·rw [jak.1 h]
   simp only [qbp,jav,ja2,qX];exact hb
 ·have hik:i.i = (Z 0).i:=by omega
  rw [hik] at hd;have hdl:d.d.length = (Z 0).i.toNat:=by rw [<- bI_len,hd,qeQ]
  obtain ⟨hl0,_,e,hre,heB,_,heL⟩:=qfg hpc (j:=0) (by omega) (by omega);have hel:e.length = pcN (Z 7).h (Z 4).d 0:=heL.symm;have hdist:qj9 (bI d.d):=by rw [hd]; exact q8w hI hnd
  have hwl:∀ (cw:U) (wd:U),bI wd.d = qds (bI d.d) (Z 6).i->wd.d.length = (Z 0).i.toNat/\qk wd.d:=fun cw wd hw=>by
   refine ⟨by rw [<- bI_len,hw,qA6,bI_len,hdl],qle (by rw [hw]; exact qi8)⟩
  have hside:0 <= n.i/\n.i <= 256/\n.i = (d.d.length:Int)/\qk d.d/\qhf (Z 6).i/\qj9 (bI d.d):=⟨by omega,by omega,hn,hB,hx,hdist⟩;have hmix:∀ (cw wd:U),bI wd.d = qds (bI d.d) (Z 6).i->0 <= (Z 0).i/\(Z 0).i <= 255/\(e.length:Int) <= 9000/\n.i = (Z 0).i/\n.i <= (wd.d.length:Int)/\qk wd.d/\qgE (Z 7).h (Z 4).d (Z 0).i.toNat/\∀ j:Nat,(j:Int) < (Z 0).i->e.length <= (pcD (Z 7).h (Z 4).d j).length:=fun cw wd hw=>by
   obtain ⟨h1,h2⟩:=hwl cw wd hw;refine ⟨by omega,k2,by omega,by omega,by omega,h2,hpc,fun j hj=>?_⟩;have:=hL j (by omega);unfold pcN at this hel;omega
  have hfin:∀ (wd u:U),bI wd.d = qds (bI d.d) (Z 6).i->u.d.length = e.length->qk u.d->bI u.d = qar (pcD (Z 7).h (Z 4).d) (bI wd.d) e.length (Z 0).i.toNat ->
    (e.length:Int) = (u.d.length:Int)/\u.d.length = pcN (Z 7).h (Z 4).d 0/\qk u.d/\bI u.d = qar (pcD (Z 7).h (Z 4).d) (qds (qav (Z 4).d (Z 0).i.toNat) (Z 6).i) (pcN (Z 7).h (Z 4).d 0) (Z 0).i.toNat:=fun wd u hw hul huB hue=>by
   refine ⟨by omega,by omega,huB,?_⟩;rw [hue,hw,hd,hel]
  refine ⟨by omega,by omega,by omega,by omega,by omega,by omega,⟨hside,fun cw _ wd _ _ hw=>⟨e,hre,hmix cw wd hw,fun u _ a b c=>hfin wd u hw a b c⟩⟩,e,hre,hside,fun cw _ wd _ _ hw=>⟨hmix cw wd hw,fun u _ a b c=>hfin wd u hw a b c⟩⟩
theorem qwm {h:Hp} {D:qe} {j:Int} (hb:rdB h (tvs D j.toNat)) (j0:0 <= j):∃ d,Rd h kB (qC D j 0) d/\qk d/\qaE h D j.toNat = bI d:=by
 rw [qrX j0] at hb;obtain ⟨d,hr,hB,he⟩:=qAN hb;exact ⟨d,hr,hB,by rw [qaE,qrX j0,he]⟩
set_option maxHeartbeats 1000000 in
theorem qyy:qgv.ok Tryz.prog:=qyo (by simp [qma]) fun Z hg hp=>by
 obtain ⟨hf,k1,k2,kd,hr1,h9,w0,w1,wB,hcol,l9⟩:=hp;simp (config:={ maxSteps:=4000000 }) [qoL,qgv,qqf,qeh];obtain ⟨d0,hrd0,hdB0,hc0⟩:=qwm (hcol 0 (by omega)).1 (j:=0) (by omega);have hc0:qaE (Z 13).h (Z 5).d 0 = bI d0:=hc0;have hl0:(qaE (Z 13).h (Z 5).d 0).length = d0.length:=by rw [hc0,bI_len]
 refine ⟨by omega,by omega,d0,hrd0,by omega,by omega,⟨hf,by omega,hl0.symm,qcN,by rw [qeY,hl0]; rfl⟩,fun n _ d _ i _ f _ hf' i0 i1 hn hdl hB hd=>⟨fun hi=>?_,fun hi=>⟨hf',hn,hdl,hB,by rw [hd,show i.i.toNat = (Z 3).i.toNat by omega]⟩⟩⟩;obtain ⟨e,hre,heB,hce⟩:=qwm (hcol i.i.toNat (by omega)).1 (j:=i.i) i0;have hle:e.length = d0.length:=by
  have:=(hcol i.i.toNat (by omega)).2;rw [hce,bI_len,hl0] at this;exact this
 have hcb:=qbs wB (i:=(Z 8).i + i.i) (by omega) (by omega);rw [add64 (x:=i.i) (by omega) (by omega)];refine ⟨i0,w0,by omega,by omega,by omega,by omega,e,hre,⟨hf',⟨by omega,by omega,by omega,by unfold Go.Eng.big; omega⟩,⟨by omega,by omega,by omega,by unfold Go.Eng.big; omega⟩,by omega,hB,heB,hcb⟩,fun f2 _ d2 _ hf2 hl2 hB2 he2=>⟨⟨hf2,by omega,by omega,by omega,by omega,hB2,?_⟩,by omega⟩⟩;have hsg:seg (bI e) 0 e.length = seg (qaE (Z 13).h (Z 5).d i.i.toNat) 0 (qaE (Z 13).h (Z 5).d 0).length:=by rw [hce,hl0,hle]
 have hwt:(seg (bI (Z 11).d) (Z 8).i.toNat (Z 3).i.toNat).getD i.i.toNat 0 = qb (Z 11).d ((Z 8).i + i.i) 0:=by
  rw [qxW (by omega),<- qef (by omega) (by omega),jd4 w0 i0]
 rw [he2,hd,hsg,show (i.i + 1).toNat = i.i.toNat + 1 by omega,qar,hwt]
theorem q7I {d:qe} {i j x:Int} {k:IntKind} (i0:0 <= i) (i1:i < d.length) (j0:0 <= j):qb (qaQ d i 0 [.int k x]) j 0 = if j = i then x else qb d j 0:=by
 unfold qb qC qaQ;rw [jby];by_cases h:j = i
 ·subst h
  rw [jah rfl,jah (by omega),jah rfl];simp [qas,qX]
 ·rw [jaf (by omega),jaf h]
set_option maxHeartbeats 4000000 in
theorem qq5:qf1.ok Tryz.prog:=q4y (by simp [qBK,qBJ,qBL,qgK,q63]) fun Z hg hp=>by
 obtain ⟨hf,hsz,hkn,hn2,hpc,hch,h8,hLeq⟩:=hp;obtain ⟨k1,k2,k3⟩:=qbn.1 hsz;have s1:∀ {x:Int},-1 <= x->x <= 1000->qc .add .i64 x 1 = x + 1:=fun h1 h2=>add64 (by omega) (by omega)
 simp (config:={ maxSteps:=4000000 }) [qtU,qf1,qvZ,qxC,qwh,q9L,qAC,qsV,q3f,qgs,q4A,qjb,q3g,qbQ,qcs,qnZ];intro n10 _;refine ⟨⟨hf,hsz⟩,fun g _ lg _ cg _ f1 _ dg _ ab _ hf1 _ hMg _ hGg u7 _=>⟨by omega,by omega,fun u8 _=>⟨⟨hf1,⟨hMg,hGg⟩,by omega,fun j h1 h2=>by omega⟩,?_⟩⟩⟩;clear hMg hGg hf1;intro _ _ R _ i _ f _ _ _ _ _ lg _ cg _ dg _ _ _ _ _ hf1 hMg hGg i0 i1 hRl hR;refine ⟨fun hi=>?_,fun hi=>?_⟩
 ·obtain ⟨hl,_⟩:=qfg hpc i0 (by omega)
  rw [s1 (by omega) (by omega)];refine ⟨i0,by omega,hl,by omega,⟨hf1,⟨hMg,hGg⟩,by omega,by omega,by rw [qaU]; exact hRl,fun j j0 j1=>?_⟩,by omega⟩;rw [q7I i0 (by omega) j0];by_cases hji:j = i.i
  ·rw [jah hji,hji]
  ·rw [jaf hji]; exact hR j j0 (by omega)
 have hidx:iI R.d = qav (Z 7).d (Z 2).i.toNat:=by
  refine qm4 (by rw [qw8,qeQ]; exact hRl) fun j hj=>?_
  rw [qw8] at hj;rw [qs8 (by omega)];have h1:=qk3 (d:=R.d) (i:=(j:Int)) (by omega) (by omega);rw [jal] at h1;rw [h1,hR _ (by omega) (by omega)];rfl
 have hMg':=hMg;obtain ⟨⟨g1,g2,g3,g4,g5,g6,g7,g8⟩,g9⟩:=hMg';have hb:=qL (x:=(Z 2).i) (y:=(Z 2).i) (by omega) (show (Z 2).i <= 255 by omega) (by omega) (show (Z 2).i <= 255 by omega);have hrk:=qw3 hch (by omega) (by omega) (by omega);refine ⟨⟨⟨by omega,g6,g7,g8,by omega,by omega⟩,qrs ⟨⟨by omega,g2,k1,by omega,g5⟩,k1,by omega⟩ fun x hx=>by
  rw [hidx] at hx;have:=hch.2.2 x hx;omega⟩,fun sr _ ls _ cs _ ds _ _ hMs hLs hSs u24 _=>?_⟩
 obtain ⟨s2,s3,s4,s5,s6,s7,s8,s9⟩:=hMs;have hte:(bI ds.d).take ls.i.toNat = bI ds.d:=jap (by rw [bI_len]; omega);have hS:bI ds.d = qdh (qc1 (Z 2).i.toNat (Z 3).i.toNat) (Z 2).i.toNat (qav (Z 7).d (Z 2).i.toNat):=by rw [hSs,hGg,hidx]
 rw [hte,hS];refine ⟨⟨⟨hf1,by omega,s7,s8,s9⟩,⟨k1,by omega,k1,by omega,s6⟩,hrk⟩,fun iv _ li _ ci _ f2 _ di _ hf2 _ hMi _ hIi u30 _=>⟨by omega,fun u31 _ H _ _=>⟨⟨⟨hf2,⟨hMg,hGg⟩,hMi,hIi,by omega⟩,⟨fun j hj=>by omega,fun i j hi=>by omega⟩⟩,?_⟩⟩⟩;clear hMg hGg hf1 hf2 hMi hIi hSs hS hte hLs s2 s3 s4 s5 s6 s7 s8 s9 g1 g2 g3 g4 g5 g6 g7 g8 g9 hidx hR hRl hi i0 i1;have hINV:=quP hch (by omega:1 <= (Z 2).i.toNat) (by omega) (by omega);intro _ _ _ _ i _ f _ _ _ _ _ lg _ cg _ dg _ _ _ _ _ _ _ _ _ li _ ci _ di _ _ _ C _ H _ hf1 hMg hGg hMi hIi hCl hCr i0 i1 ht;refine ⟨fun hi=>?_,fun hi u52 _ hst=>?_⟩
 ·obtain ⟨hl0,_,d0,hrd0,_,_,hN0⟩:=qfg hpc (j:=0) (by omega) (by omega)
  have hN0:pcN (Z 9).h (Z 7).d 0 = d0.length:=hN0;refine ⟨by omega,by omega,d0,.inr hrd0,fun u0 _ u1 _=>⟨by omega,fun nr _=>⟨i0,by omega,⟨i0,hi,hMi.1⟩,fun o _ n _ c _ ho hn hc=>⟨by omega,fun H' _ hst=>⟨⟨⟨hf1,⟨hMg,hGg⟩,hMi,hIi,by rw [qaU]; exact hCl,q9T hCr i0 (by omega),i0,i1⟩,hi,ho,hn,by omega,?_⟩,?_⟩⟩⟩⟩⟩
  ·obtain ⟨hx,hy,hdis,lx,ly,dx,dy⟩:=qzm (l1:=[]) hst (y:=SH.abs 61 2) (by simp)
   have hrd:=qvV (n:=d0.length) (k:=d0.length) dx (Hp.le_refl _) (by simp) (by simp);have hrd:Rd hx kB (.slice (qn nr.r 0) d0.length d0.length) (List.replicate d0.length [.int .u8 0]):=by simpa [kB] using hrd
   have hab:Hp.le H.h hy/\Hp.free H.h:=by simpa [SH.den] using dy
   refine qCl ht (Hp.le_trans hab.1 ly) hrd lx (qBW hdis hab.1) qcN (fun j hj=>by rw [q2r hCr i0 (by omega),jaf (by omega)]) (by rw [q2r hCr i0 (by omega),jah rfl]) (fun j hj=>jaf (by omega)) ?_;rw [jah rfl,qeY,hN0]; rfl
  clear hMg hGg hf1 hMi hIi hCl hCr ht;intro i' _ f _ lg _ cg _ dg _ li _ ci _ di _ C _ H _ j _ o _ n _ hf1 hMg hGg hMi hIi hCl hCr i0' i1' hi' hii ho hn j0 j1 ht;have hbo:=qL (x:=i'.i) (y:=(Z 2).i) i0' (by omega) (by omega) (show (Z 2).i <= 255 by omega);have hMi':=hMi;obtain ⟨⟨m1,m2,m3,m4,m5,m6,m7,m8⟩,m9⟩:=hMi';refine ⟨fun hj=>?_,fun hj=>?_⟩
  ·obtain ⟨hlj,_,d,hrd,hdB,hdD,hdN⟩:=qfg hpc j0 (show j.i < (Z 5).i by omega)
   have hlen:d.length = pcN (Z 9).h (Z 7).d 0:=by rw [<- hdN]; exact hLeq _ (by omega)
   have hrl:rdL (Z 9).h (qC (Z 7).d j.i 1) = bI d:=qeZ hrd;have hltG:i'.i * (Z 2).i + j.i < (Z 2).i * (Z 2).i:=by
    have:=ja1 (show i'.i + 1 <= (Z 2).i by omega) (show 0 <= (Z 2).i by omega);rw [jcb,jcc] at this; omega
   have hcb:=qbs m8 (i:=o.i + j.i) (by omega) (by omega);rw [s1 (by omega) (by omega),hrl];refine ⟨j0,by omega,by omega,by omega,i0',hi',by omega,by omega,hlj,⟨hf1,⟨d,hrd,hdB⟩,by rw [bI_len]; omega,⟨tvs C.d,_,_,i'.i.toNat,ht,by omega,qrX i0',?_⟩,hcb⟩,fun f' _ H' _ hf' hT=>⟨⟨⟨hf',⟨hMg,hGg⟩,hMi,hIi,hCl,hCr,i0',i1'⟩,hi',hii,ho,hn,by omega,by omega,?_⟩,by omega⟩⟩
   ·simp only [jah]
    rw [bI_len,qlk]; omega
   ·refine qjD (hT (tvs C.d) _ _ i'.i.toNat ht (by omega) (qrX i0')) (fun _ _=>rfl) fun r hr=>?_
    by_cases hri:r = i'.i.toNat
    ·subst hri
     rw [jah rfl,jah rfl]
     show _ = qE _ 0 _ _
     rw [jah rfl,show (j.i + 1).toNat = j.i.toNat + 1 by omega,qar];have e1:seg (pcD (Z 9).h (Z 7).d j.i.toNat) 0 (pcN (Z 9).h (Z 7).d 0) = bI d:=by
      rw [hdD,<- hlen,<- bI_len (d:=d)]; simp [seg]
     have e2:(seg (qkd (Z 3).i.toNat (Z 2).i.toNat (qav (Z 7).d (Z 2).i.toNat)) (i'.i.toNat * (Z 2).i.toNat) (Z 2).i.toNat).getD j.i.toNat 0 = qb di.d (o.i + j.i) 0:=by
      rw [qxW (by omega),<- hIi,<- qef (by omega) (by omega),ho,jd4 hbo.1 j0,jb0 i0' (by omega)]
     rw [e1,e2]
    ·rw [jaf hri,jaf hri,jaf hri]
  ·rw [s1 (by omega) (by omega),show (i'.i + 1).toNat = i'.i.toNat + 1 by omega]
   refine ⟨⟨⟨hf1,⟨hMg,hGg⟩,hMi,hIi,hCl,hCr,by omega,by omega⟩,qjD ht (fun _ _=>rfl) fun r hr=>?_⟩,by omega⟩;by_cases hri:r = i'.i.toNat
   ·subst hri
    rw [jah rfl,show j.i.toNat = (Z 2).i.toNat by omega]; rfl
   ·rw [jaf hri]
 ·obtain ⟨hb2,lb2,db2⟩:=qbR hst (n:=61) (t:=2) (by simp)
  rw [show i.i.toNat = (Z 2).i.toNat by omega] at ht;exact ⟨hf1,hCl,hCr,q9B ht (Hp.le_trans (by simpa using db2) lb2),hMg,hGg⟩
@[simp] def qmz:Sg:=sg 0 [bg 13 20,bv 12 17,bv 11 21,bv 6 2,bv 5 19,bv 1 18,bv 10 25,bv 9 24,bv 8 23,bg 7 15,bv 4 2,bv 3 2,bg 2 14,bg 0 0]
def qoX:Out:=(.fresh 11 (.br (.and (.cmp .eql (.dlen (tv 1)) (tl 0)) (.isnil 0))
 (.ret 0 (sg 11 [bv 12 1,bt 11 (tl 1)]))
 (.pre 0 (sg 0 [bv 1 3,bv 0 2]) (tb (.fresh 12 (.post 0 0 (sg 0 [bv 1 3,bv 0 2]) 12 (.br (.not (tv 12))
 (.ret 0 (sg 11 [bv 12 1,bt 11 (tl 2)]))
 (.br (.cmp .lss (tv 7) (tl 0))
 (.ret 0 (sg 11 [bv 12 1,bt 11 (tl 2)]))
 (.br (.cmp .geq (tv 7) (tv 3))
 (.ret 0 (sg 11 [bv 12 1,bt 11 (tl 2)]))
 (.pre 1 (sg 0 [bg 8 10,bv 7 9,bv 6 8,bv 5 6,bv 4 5,bg 3 4,bt 2 (.lit (-1)),bv 1 3,bv 0 2]) (tb (.fresh 13 (.post 1 0 (sg 0 [bg 8 10,bv 7 9,bv 6 8,bv 5 6,bv 4 5,bg 3 4,bt 2 (.lit (-1)),bv 1 3,bv 0 2]) 13 (.br (.cmp .neq (tv 13) (tl 0))
 (.ret 0 (sg 11 [bv 12 1,bv 11 13]))
 (.pre 2 (sg 0 [bg 9 10,bv 8 9,bv 7 8,bv 1 1,bv 6 6,bv 5 5,bg 4 4,bv 3 3,bv 2 2,bg 0 0]) (tb (fr 14 8 (.post 2 0 (sg 0 [bg 9 10,bv 8 9,bv 7 8,bv 1 1,bv 6 6,bv 5 5,bg 4 4,bv 3 3,bv 2 2,bg 0 0]) 14 (.fresh 22 (.pre 3 (sg 0 [bv 6 17,bv 5 21,bv 7 7,bv 4 17,bv 3 16,bg 2 15,bv 1 2,bv 0 3]) (tb (fr 23 3 (.post 3 0 (sg 0 [bv 6 17,bv 5 21,bv 7 7,bv 4 17,bv 3 16,bg 2 15,bv 1 2,bv 0 3]) 23 (.pre 4 qmz (tb (fr 26 5 (.post 4 0 qmz 26 (.ret 1 (sg 11 [bv 15 30,bv 14 29,bv 13 28,bv 12 27,bg 11 26])))))))))))))))))))))))))))))
theorem qvB:qj Tryz.prog qfR [qbv,qfz,qf1,qcs,qgv] [] qoX:=qg Tryz.func125 Tryz.call125 (by kernel_rfl)
def quI:Out:=(.fresh 9 (.pre 0 (sg 0 [bv 1 1,bv 0 0]) (tb (.fresh 10 (.post 0 0 (sg 0 [bv 1 1,bv 0 0]) 10 (.br (.not (tv 10))
 (.ret 0 (sg 9 [bt 9 (tl 2)]))
 (.br (.cmp .lss (tv 5) (tl 0))
 (.ret 0 (sg 9 [bt 9 (tl 2)]))
 (.br (.cmp .geq (tv 5) (tv 1))
 (.ret 0 (sg 9 [bt 9 (tl 2)]))
 (.pre 1 (sg 0 [bg 8 8,bv 7 7,bv 6 6,bv 5 4,bv 4 3,bg 3 2,bt 2 (.lit (-1)),bv 1 1,bv 0 0]) (tb (.fresh 11 (.post 1 0 (sg 0 [bg 8 8,bv 7 7,bv 6 6,bv 5 4,bv 4 3,bg 3 2,bt 2 (.lit (-1)),bv 1 1,bv 0 0]) 11 (.br (.cmp .neq (tv 11) (tl 0))
 (.ret 0 (sg 9 [bv 9 11]))
 (.pre 2 (sg 0 [bg 7 8,bv 5 7,bv 4 6,bt 6 (.conv .u8 (tv 5)),bv 3 4,bv 2 3,bg 1 2,bv 0 0]) (tb (fr 12 4 (.post 2 0 (sg 0 [bg 7 8,bv 5 7,bv 4 6,bt 6 (.conv .u8 (tv 5)),bv 3 4,bv 2 3,bg 1 2,bv 0 0]) 12 (.ret 1 (sg 9 [bv 12 15,bv 11 14,bv 10 13,bg 9 12])))))))))))))))))))
theorem q2G:qj Tryz.prog qjk [qfs,qfr,qf3] [] quI:=qg Tryz.func128 Tryz.call128 (by kernel_rfl)
theorem qib {d:qe} (h:ql d):d ≠ []:=(qbT h).1
structure PcIn (h:Hp) (D:qe) (k total n:Int):Prop where
 k1:1 <= k
 k2:k <= total
 k3:total <= 255
 kn:k <= n
 sol:q7z h D k total n
 idx:∀ j,j < n.toNat->0 <= pcI D j/\pcI D j < total
 len:∀ j,j < n.toNat->pcN h D j = pcN h D 0
 fs:∀ j,j < n.toNat->(pcD h D j).length = pcN h D 0/\qz (pcD h D j)
theorem qEf {h:Hp} {D:qe} {k total n:Int} (hs:qM k total = true) (hp:qdV h D n) (hc:qvR h D k total (-1) n 0):PcIn h D k total n:=by
 obtain ⟨k1,k2,k3⟩:=qbn.1 hs;obtain ⟨n0,n1,hpc⟩:=hp;obtain ⟨ho,hk⟩:=q5j hc;have hw:qcy (-1) (pcN h D) = (pcN h D 0:Int):=jah (by omega);have hL:∀ j,j < n.toNat->pcN h D j = pcN h D 0:=fun j hj=>by
  have:=(ho j hj).2.2.2;rw [hw] at this; omega
 exact ⟨k1,k2,k3,by omega,⟨hs,by omega,n1,hpc,qmC ho (by omega),(ho 0 (by omega)).2.2.1 (by omega),fun j hj=>hL j (by omega)⟩,fun j hj=>(ho j hj).1,hL,fun j hj=>by
  obtain ⟨v,d,_,_,_,hB,hd⟩:=qv3 hpc hj;exact ⟨hL j hj,by rw [hd]; exact allB_list hB⟩⟩
variable {h:Hp} {D:qe} {k total n:Int}
theorem PcIn.f (p:PcIn h D k total n):∀ j,j < k.toNat->(pcD h D j).length = pcN h D 0/\qz (pcD h D j):=fun j hj=>p.fs j (by have:=p.kn; omega)
theorem PcIn.cols (p:PcIn h D k total n) {hc:Hp} {C:qe} (ht:qdQ hc (tvs C) k.toNat (qm8 h D total.toNat k.toNat)) :
  (∀ j,j < k.toNat->rdB hc (tvs C j)/\(qaE hc C j).length = (qaE hc C 0).length)/\(qaE hc C 0).length = pcN h D 0/\∀ r:Int,0 <= r->r < total->qar (qaE hc C) (seg (qc1 k.toNat total.toNat) (r.toNat * k.toNat) k.toNat) (qaE hc C 0).length k.toNat = qfj h D k.toNat r:=by
 have h1:=p.k1;have h2:=p.k2;have h3:=p.k3;have hch:=p.sol.2.2.2.2.1;have hcol:∀ j,j < k.toNat->rdB hc (tvs C j)/\qaE hc C j = qm8 h D total.toNat k.toNat j:=fun j hj=>by
  obtain ⟨d,hr,hd,hB⟩:=qqd ht hj;exact ⟨⟨d,hr,hB⟩,by rw [qaE,qeZ hr,hd]⟩
 have hl:∀ j,j < k.toNat->(qaE hc C j).length = pcN h D 0:=fun j hj=>by
  rw [(hcol j hj).2,qm8,qlk]
 refine ⟨fun j hj=>⟨(hcol j hj).1,by rw [hl j hj,hl 0 (by omega)]⟩,hl 0 (by omega),fun r r0 r1=>?_⟩;rw [hl 0 (by omega),qAq hch (by omega) (by omega) (by omega) (f:=pcD h D) p.f (by omega) (r:=r.toNat) (fun i hi=>by
  rw [(hcol i hi).2,qm8,q0F hch (by omega) (by omega) (by omega) p.f hi]),jay r0]
 rfl
theorem PcIn.value (p:PcIn h D k total n):(∀ j:Nat,(j:Int) < k->0 <= pcI D j/\pcI D j < 256)/\(qav D k.toNat).Nodup/\pcN h D 0 <= 9000/\(∀ j:Nat,(j:Int) < k->pcN h D j = pcN h D 0)/\qgE h D k.toNat:=by
 have h1:=p.k1;have h2:=p.k2;have h3:=p.k3;have h4:=p.kn;have h5:=p.sol.2.2.2.2.2.1;refine ⟨fun j hj=>?_,p.sol.2.2.2.2.1.2.1,by omega,fun j hj=>p.len j (by omega),fun j hj=>p.sol.2.2.2.1 j (by omega)⟩;have:=p.idx j (by omega);omega
set_option maxHeartbeats 1000000 in
theorem qwK:qfR.ok Tryz.prog:=qvB (by simp [qim,qsq,qq5,qgK,qyy]) fun Z hg hp=>by
 obtain ⟨hf,hpre⟩:=hp;have hpre':=hpre;obtain ⟨n0,n1,hpc⟩:=hpre';simp (config:={ maxSteps:=4000000 }) [qoX,qfR,qbv,qfz,qjO,qf1,qsV,qcs,qgv];refine ⟨fun h=>(qib hf h).elim,fun _ b _ hb=>⟨fun h=>⟨hf,.inl ⟨.inl (by rw [<- hb,h]),rfl⟩⟩,fun h=>⟨fun hi=>⟨hf,.inl ⟨.inr (.inl hi),rfl⟩⟩,fun i0=>⟨fun hi=>⟨hf,.inl ⟨.inr (.inr hi),rfl⟩⟩,fun i1=>?_⟩⟩⟩⟩;have hs:qM (Z 2).i (Z 3).i = true:=by rw [<- hb,h]
 obtain ⟨k1,k2,k3⟩:=qbn.1 hs;refine ⟨⟨k3,n0,n1,hpc⟩,fun e _ he=>⟨fun hne=>⟨hf,.inr ⟨hs,i0,i1,he,hne⟩⟩,fun he0=>?_⟩⟩;rw [he0] at he;have P:PcIn (Z 10).h (Z 8).d (Z 2).i (Z 3).i (Z 5).i:=qEf hs hpre he;refine ⟨⟨hf,P.sol⟩,fun lg _ cg _ f1 _ C _ H _ dg _ hf1 hCl hCr ht hMg hGg=>⟨⟨i0,i1,hMg.1⟩,fun o _ m _ c _ ho hm hc=>?_⟩⟩;obtain ⟨c1,c2,c3⟩:=P.cols ht;obtain ⟨⟨g1,g2,g3,g4,g5,g6,g7,g8⟩,g9⟩:=hMg;have hbo:=qL (x:=(Z 7).i) (y:=(Z 2).i) (a:=255) i0 (by omega) (by omega) (show (Z 2).i <= 255 by omega);have hrow:=ja1 (show (Z 7).i + 1 <= (Z 3).i by omega) (show 0 <= (Z 2).i by omega);rw [jcb,jcc] at hrow;have h8:=P.sol.2.2.2.2.2.1;refine ⟨⟨hf1,k1,by omega,by omega,hCr,hm,by omega,by omega,g8,fun j hj=>c1 j (by omega),by omega⟩,fun n _ f2 _ d _ hf2 hn hl hB hd=>⟨hf2,⟨hs,i0,i1,he⟩,hn,by omega,hB,?_⟩⟩;rw [hd,hGg,ho,jb0 i0 (by omega),c3 _ i0 i1]
set_option maxHeartbeats 1000000 in
theorem q3H:qjk.ok Tryz.prog:=q2G (by simp [qrg,qrM,qrv]) fun Z hg hp=>by
 obtain ⟨hpre,hcap⟩:=hp;have hpre':=hpre;obtain ⟨n0,n1,hpc⟩:=hpre';simp (config:={ maxSteps:=4000000 }) [quI,qjk,qfs,qbv,qfr,qjO,qf3];refine fun b _ hb=>⟨fun h=>.inl ⟨.inl (by rw [<- hb,h]),rfl⟩,fun h=>⟨fun hi=>.inl ⟨.inr (.inl hi),rfl⟩,fun i0=>⟨fun hi=>.inl ⟨.inr (.inr hi),rfl⟩,fun i1=>?_⟩⟩⟩
 have hs:qM (Z 0).i (Z 1).i = true:=by rw [<- hb,h]
 obtain ⟨k1,k2,k3⟩:=qbn.1 hs;refine ⟨⟨k3,n0,n1,hpc⟩,fun e _ he=>⟨fun hne=>.inr ⟨hs,i0,i1,he,hne⟩,fun he0=>?_⟩⟩;rw [he0] at he;have P:PcIn (Z 8).h (Z 6).d (Z 0).i (Z 1).i (Z 3).i:=qEf hs hpre he;obtain ⟨v1,v2,v3,v4,v5⟩:=P.value;have hkn:=P.kn;rw [qpM i0 (by omega)];exact ⟨⟨k1,by omega,hkn,hcap,n1,v5,v1,v2,v3,v4,⟨i0,by omega⟩⟩,fun n _ d _ hn hl hB hd=>⟨⟨hs,i0,i1,he⟩,hn,hl,hB,hd⟩⟩
end Go.Proofs
namespace Go.Proofs
open Go Go.Eng
variable {h h':Hp} {D D':qe} {k total n index len e e':Int} {b b':Bool}
end Go.Proofs
namespace Go.Proofs
open Go Go.Eng
theorem qly {f:Nat->List Int} {l:Nat}:∀ {n:Nat},(∀ j,j < n->(f j).length = l)->(qcv f n).length = n * l
 | 0,_=>by simp [qcv]
 | n + 1,h=>by
  rw [qcv,jaj,qly fun j hj=>h j (by omega),h n (by omega),jbt,jd0]
theorem q1u {f:Nat->List Int} {l:Nat}:∀ {n:Nat},(∀ j,j < n->(f j).length <= l)->(qcv f n).length <= n * l
 | 0,_=>by simp [qcv]
 | n + 1,h=>by
  have h1:=q1u (n:=n) fun j hj=>h j (by omega)
  have h2:=h n (by omega);rw [qcv,jaj,jbt,jd0]; omega
theorem qlV {f g:Nat->List Int}:∀ {n:Nat},(∀ j,j < n->f j = g j)->qcv f n = qcv g n
 | 0,_=>rfl
 | n + 1,h=>by rw [qcv,qcv,qlV fun j hj=>h j (by omega),h n (by omega)]
theorem q22 {h:Hp} {D:qe} {k total n size:Int} (hp:qdV h D n) (hd:qlw h D k total size n):PcIn h D k total n/\pcN h D 0 = qF k.toNat size.toNat:=by
 obtain ⟨hs,s0,s1,hc⟩:=hd;obtain ⟨k1,k2,k3⟩:=qbn.1 hs;obtain ⟨n0,n1,hpc⟩:=hp;obtain ⟨ho,hk⟩:=q5j hc;have hw:qcy (plI k size) (pcN h D) = plI k size:=jaf (by unfold plI; omega);have hL:∀ j,j < n.toNat->pcN h D j = qF k.toNat size.toNat:=fun j hj=>by
  have:=(ho j hj).2.2.2;rw [hw] at this; unfold plI at this; omega
 have hpl:=qhu (k:=k.toNat) (n:=size.toNat) (by omega);have h0:=hL 0 (by omega);refine ⟨⟨k1,k2,k3,by omega,⟨hs,by omega,n1,hpc,qmC ho (by omega),by omega,fun j hj=>by rw [hL j (by omega),h0]⟩,fun j hj=>(ho j hj).1,fun j hj=>by rw [hL j hj,h0],fun j hj=>?_⟩,h0⟩;obtain ⟨v,d,_,_,_,hB,hd⟩:=qv3 hpc hj;exact ⟨by rw [h0,<- hL j hj]; rfl,by rw [hd]; exact allB_list hB⟩
theorem qoy {h:Hp} {D:qe} {k:Nat} {x:Int}:(qfj h D k x).length = pcN h D 0:=qlk _
theorem PcIn.cat {h:Hp} {D:qe} {k total n:Int} (p:PcIn h D k total n) {hc:Hp} {C:qe} (ht:qdQ hc (tvs C) k.toNat (qm8 h D total.toNat k.toNat)) :
  (∀ j,j < k.toNat->rdB hc (tvs C j)/\(qaE hc C j).length = pcN h D 0)/\qcv (qaE hc C) k.toNat = qob h D k.toNat/\(qob h D k.toNat).length = k.toNat * pcN h D 0:=by
 have h1:=p.k1;have h2:=p.k2;have h3:=p.k3;have hch:=p.sol.2.2.2.2.1;have hcol:∀ j,j < k.toNat->rdB hc (tvs C j)/\qaE hc C j = qfj h D k.toNat (j:Int):=fun j hj=>by
  obtain ⟨d,hr,hd,hB⟩:=qqd ht hj;refine ⟨⟨d,hr,hB⟩,?_⟩;rw [qaE,qeZ hr,hd,qm8,q0F hch (by omega) (by omega) (by omega) p.f hj];rfl
 refine ⟨fun j hj=>⟨(hcol j hj).1,by rw [(hcol j hj).2,qoy]⟩,qlV fun j hj=>(hcol j hj).2,qly fun j hj=>qoy⟩
theorem qj4 {k n t s l i:Int} {D:List (List Int)} {m:List Int} (h:qci k n t s l D i m = 0):qy k n t s l = true/\0 <= i/\i < t/\(m.length:Int) = qcD k s/\sha (qbb i ++ m) = D.getD i.toNat []:=by
 unfold qci at h;by_cases h1:qy k n t s l = false
 ·rw [jah h1] at h; omega
 rw [jaf h1] at h;by_cases h2:i < 0∨t <= i
 ·rw [jah h2] at h; omega
 rw [jaf h2] at h;by_cases h3:(m.length:Int) ≠ qcD k s
 ·rw [jah h3] at h; omega
 rw [jaf h3] at h;by_cases h4:sha (qbb i ++ m) ≠ D.getD i.toNat []
 ·rw [jah h4] at h; omega
 exact ⟨by simpa using h1,by omega,by omega,by omega,by simpa using h4⟩
theorem qdj {k n t s l:Int}:qy k n t s l = true↔1 <= k/\k <= n/\n <= t/\t <= 255/\0 <= s/\s <= 8192/\l = t:=by
 simp [qy,qam,and_assoc]
theorem qyB {k s:Int} (hk:1 <= k) (hs:0 <= s):qcD k s = plI k s:=by
 obtain ⟨k,rfl⟩:=Int.eq_ofNat_of_zero_le (show 0 <= k by omega);obtain ⟨s,rfl⟩:=Int.eq_ofNat_of_zero_le hs;have e:((s:Int) + (k:Int) - 1) = ((s + k - 1:Nat):Int):=by omega
 unfold qcD plI qF;rw [e,Int.ofNat_tdiv];simp
theorem qqb {k n t s l:Int} {D:List (List Int)} {h:Hp} {P:qe} (hc:qdv (qlN k n t s l D h P) (pcI P) P.length k 0) (hm:qy k n t s l = true) (len:Int) (hl:len = -1∨len = plI k s) :
  qhT t len (pcI P) (pcN h P) P.length/\k <= (P.length:Int)/\∀ j,j < P.length->(pcN h P j:Int) = plI k s:=by
 obtain ⟨k1,k2,k3,k4,s0,s1,_⟩:=qdj.1 hm;obtain ⟨h1,h2⟩:=qnW hc;have hp:qcD k s = plI k s:=qyB (by omega) s0;have hL:∀ j,j < P.length->(pcN h P j:Int) = plI k s:=fun j hj=>by
  rw [<- hp]; exact (qj4 (h1 j hj).1).2.2.2.1
 have hs:plI k s <= 8192:=by
  have:=qhu (k:=k.toNat) (n:=s.toNat) (by omega);unfold plI; omega
 have hpos:0 <= plI k s:=by unfold plI; omega
 have h0:=hL 0 (by omega);have hw:qcy len (pcN h P) = plI k s:=by
  unfold qcy;by_cases hn:len < 0
  ·rw [jah hn,h0]
  ·rw [jaf hn]; omega
 refine ⟨fun j hj=>⟨⟨(qj4 (h1 j hj).1).2.1,(qj4 (h1 j hj).1).2.2.1⟩,(h1 j hj).2,fun _=>by have:=hL j hj; omega,by rw [hw,hL j hj]⟩,h2,hL⟩
theorem quQ {k n t s l:Int} (hm:qy k n t s l = true):qM k t = true:=by
 obtain ⟨k1,k2,k3,k4,s0,s1,_⟩:=qdj.1 hm;exact qbn.2 ⟨k1,by omega,k4⟩
theorem qvJ {k n t s l x m:Int} {D:List (List Int)} {h:Hp} {P:qe} (hc:qdv (qlN k n t s l D h P) (pcI P) P.length k 0) (hm:qy k n t s l = true) (hn:m = P.length) (h0:0 <= x) (h1:x < t):q32 h P k t m x:=by
 subst hn;obtain ⟨a,b,_⟩:=qqb hc hm (-1) (.inl rfl);exact ⟨quQ hm,h0,h1,.inr ⟨a,.inr ⟨by simpa using b,rfl⟩⟩⟩
theorem qv7 {k n t s l m:Int} {D:List (List Int)} {h:Hp} {P:qe} (hc:qdv (qlN k n t s l D h P) (pcI P) P.length k 0) (hm:qy k n t s l = true) (hn:m = P.length):qlw h P k t s m:=by
 subst hn;obtain ⟨a,b,_⟩:=qqb hc hm (plI k s) (.inr rfl);obtain ⟨k1,k2,k3,k4,s0,s1,_⟩:=qdj.1 hm;exact ⟨quQ hm,s0,s1,.inr ⟨a,.inr ⟨by simpa using b,rfl⟩⟩⟩
theorem q2o {h:Hp} {D:qe} {k t n x e:Int} (a:q32 h D k t n x) (b:qAe h D k t n x e):False:=by
 obtain ⟨a1,a2,a3,a4⟩:=a;rcases b with ⟨b1,_⟩ | ⟨_,_,_,b4,b5⟩
 ·rcases b1 with b1 | b1 | b1
  ·rw [a1] at b1; cases b1
  ·omega
  ·omega
 ·exact b5 (q8o b4 a4)
theorem q13 {h:Hp} {D:qe} {k t s n e:Int} (a:qlw h D k t s n) (b:q3b h D k t s n e):False:=by
 obtain ⟨a1,a2,a3,a4⟩:=a;rcases b with ⟨b1,_⟩ | ⟨_,_,_,b4,b5⟩
 ·rcases b1 with b1 | b1 | b1
  ·rw [a1] at b1; cases b1
  ·omega
  ·omega
 ·exact b5 (q8o b4 a4)
@[simp] def qyH:Sg:=sg 0 [bv 17 17,bv 15 27,bv 14 28,bv 9 9,bv 8 8,bv 13 27,bt 12 (.dlen (tv 28)),bg 11 26,bt 10 (.icell (tv 13) (tv 24) 0),bv 7 7,bv 6 6,bg 5 5,bv 3 3,bv 2 2,bv 1 1,bv 0 0,bt 4 (r8 4),bg 16 16]
def q6P:Out:=(.fresh 18 (.mop .new 19 (tn (tl 0) (tv 11) (.inv 0 21 (sg 1000 [bg 1000 19,bt 1003 (tl 0),bv 1001 20,bg 1002 18]) (fr 21 4 (.hyp 0 21 (.br (.cmp .lss (tv 24) (tv 11))
 (tn (tl 0) (tv 24) (ts (tv 24) (.dlen (tv 13)) (.fresh 25 (.viewL (.vcell (tv 13) (tv 24) 1) [CK.int .u8] [15] 26 (.pre 0 qyH (tb (.fresh 29 (.post 0 0 qyH 29 (.br (.cmp .neq (tv 29) (tl 0))
 (.ret 0 (sg 18 [bv 18 29]))
 (.mop (.get (tv 22) [(.icell (tv 13) (tv 24) 0)] ⟨false,[.i64],false,[CK.bool],[(.vbool (.bl false))]⟩ [21]) 30 (.br (.c2 (.xbool 0) (tv 30) (tl 0))
 (.ret 0 (sg 18 [bt 18 (tl 7)]))
 (.mop (.put 21 (tv 22) [(.icell (tv 13) (tv 24) 0)] [(.vbool (.bl true))] ⟨false,[.i64],false,[CK.bool],[(.vbool (.bl false))]⟩) 31 (.back 0 21 (sg 1000 [bg 1000 31,bt 1003 (.arith .add .i64 (tv 24) (tl 1)),bv 1001 22,bg 1002 23])) .top)) .top))))))))))
 (.br (.cmp .lss (tv 11) (tv 0))
 (.ret 0 (sg 18 [bt 18 (tl 12)]))
 (.ret 0 (sg 18 [bt 18 (tl 0)])))))))) .top))
theorem qCd:qj Tryz.prog qmc [qhc] [qBj] q6P:=qg Tryz.func75 Tryz.call75 (by kernel_rfl)
@[simp] def quF:Sg:=sg 0 [bv 17 17,bv 15 22,bv 14 23,bv 9 9,bv 8 8,bv 13 22,bt 12 (.dlen (tv 23)),bg 11 21,bt 10 (.icell (tv 13) (tv 20) 0),bv 7 7,bv 6 6,bg 5 5,bv 3 3,bv 2 2,bv 1 1,bv 0 0,bt 4 (r8 4),bg 16 16]
def q1a:Out:=(.fresh 18 (.inv 0 19 (sg 1000 [bt 1001 (tl 0),bg 1000 18]) (fr 19 2 (.hyp 0 19 (tn (tl 0) (tv 11) (.br (.cmp .lss (tv 20) (tv 11))
 (tn (tl 0) (tv 20) (ts (tv 20) (.dlen (tv 13)) (tb (.viewL (.vcell (tv 13) (tv 20) 1) [CK.int .u8] [15] 21 (.pre 0 quF (tb (.fresh 24 (.post 0 0 quF 24 (.br (.cmp .neq (tv 24) (tl 0))
 (.ret 0 (sg 18 [bv 18 24]))
 (.inv 1 25 (sg 1000 [bt 1001 (tl 0),bg 1000 19]) (fr 25 2 (.hyp 1 25 (.br (.cmp .lss (tv 26) (tv 20))
 (tn (tl 0) (tv 26) (ts (tv 26) (tv 11) (ts (tv 26) (.dlen (tv 13)) (.br (.cmp .eql (.icell (tv 13) (tv 26) 0) (.icell (tv 13) (tv 20) 0))
 (.ret 0 (sg 18 [bt 18 (tl 7)]))
 (.back 1 25 (sg 1000 [bt 1001 (.arith .add .i64 (tv 26) (tl 1)),bg 1000 25]))))))
 (.back 0 19 (sg 1000 [bt 1001 (.arith .add .i64 (tv 20) (tl 1)),bg 1000 25])))))))))))))))
 (.br (.cmp .lss (tv 11) (tv 0))
 (.ret 0 (sg 18 [bt 18 (tl 12)]))
 (.ret 0 (sg 18 [bt 18 (tl 0)])))))))))
theorem q9G:qj Tryz.prog qiH [qgC] [q8j,q8l] q1a:=qg Tryz.func77 Tryz.call77 (by kernel_rfl)
@[simp] def qsH:Sg:=sg 0 [bg 10 17,bv 9 16,bv 8 15,bv 1 1,bv 7 14,bv 6 13,bg 5 12,bv 4 5,bv 3 4,bv 2 2,bg 0 0]
@[simp] def q2a:Sg:=sg 0 [bv 7 19,bt 5 (tl 0),bt 4 .dnil,bt 3 (tl 0),bt 2 (tl 0),bt 1 (tl 0),(0,.nil),bg 6 18]
@[simp] def q05:Out:=.ret 0 (sg 20 [bt 22 (tl 0),bt 23 .dnil,bv 25 24,bt 24 (tl 20),bt 26 (tl 0),bt 21 (tl 0),(20,.nil)])
@[simp] def q2d:Sg:=sg 0 [bv 17 19,bg 15 17,bv 14 16,bv 13 15,bv 9 11,bv 8 10,bv 12 14,bv 11 13,bg 10 12,bv 7 9,bv 6 8,bg 5 7,bv 3 5,bv 2 4,bv 1 3,bv 0 2,bt 4 (r8 6),bg 16 18]
def qBs:Out:=(.fresh 20 (.br (.and (.cmp .eql (.dlen (tv 1)) (tl 0)) (.isnil 0))
 (.ret 0 (sg 20 [bt 22 (tl 0),bt 23 .dnil,bv 25 1,bt 24 (tl 1),bt 26 (tl 0),bt 21 (tl 0),(20,.nil)]))
 (.pre 0 (sg 0 [bv 9 11,bv 8 10,bv 7 9,bv 6 8,bg 5 7,bv 3 5,bv 2 4,bv 1 3,bv 0 2,bt 4 (r8 6)]) (tb (.fresh 21 (.post 0 0 (sg 0 [bv 9 11,bv 8 10,bv 7 9,bv 6 8,bg 5 7,bv 3 5,bv 2 4,bv 1 3,bv 0 2,bt 4 (r8 6)]) 21 (.br (.cmp .neq (tv 21) (tl 0))
 (.ret 0 (sg 20 [bt 22 (tl 0),bt 23 .dnil,bv 25 1,bv 24 21,bt 26 (tl 0),bt 21 (tl 0),(20,.nil)]))
 (.pre 1 q2d (tb (.fresh 22 (.post 1 0 q2d 22 (.br (.cmp .neq (tv 22) (tl 0))
 (.ret 0 (sg 20 [bt 22 (tl 0),bt 23 .dnil,bv 25 1,bv 24 22,bt 26 (tl 0),bt 21 (tl 0),(20,.nil)]))
 (.pre 2 qsH (.both (fr 23 2 (.post 2 0 qsH 23 (.br (.cmp .neq (tv 23) (tl 0))
 (.ret 0 (sg 20 [bt 22 (tl 0),bt 23 .dnil,bv 25 24,bv 24 23,bt 26 (tl 0),bt 21 (tl 0),(20,.nil)]))
 (tb (.pre 3 q2a (tb (.fresh 25 (.post 3 0 q2a 25 (.br (.not (.c2 .req (r8 25) (r8 6)))
 q05
 (.ret 0 (sg 20 [bt 22 (tl 0),bt 23 .dnil,bv 25 24,bt 24 (tl 0),bt 26 (tl 0),bt 21 (tl 0),(20,.nil)]))))))))))) (tb (fr 23 4 (.post 2 1 qsH 23 (tb (.know (.cmp .leq (.dlen (tv 25)) (tv 26)) (.pre 3 (sg 0 [bv 7 19,bv 5 26,bv 4 25,bv 3 5,bv 2 5,bt 1 (tl 0),bg 0 23,bg 6 18]) (tb (.fresh 27 (.post 3 0 (sg 0 [bv 7 19,bv 5 26,bv 4 25,bv 3 5,bv 2 5,bt 1 (tl 0),bg 0 23,bg 6 18]) 27 (.br (.not (.c2 .req (r8 27) (r8 6)))
 q05
 (.ret 0 (sg 20 [bv 22 26,bv 23 25,bv 25 24,bt 24 (tl 0),bv 26 5,bv 21 5,bg 20 23]))))))))))))))))))))))))))
theorem qDL:qj Tryz.prog qsU [qdd,qmc,qh8,qdb] [] qBs:=qg Tryz.func19 Tryz.call19 (by kernel_rfl)
@[simp] def qtl:Sg:=sg 0 [bg 10 17,bv 9 16,bv 8 15,bv 1 1,bv 7 20,bv 6 14,bv 5 13,bg 4 12,bv 3 4,bv 2 2,bg 0 0]
@[simp] def q1s:Out:=.ret 0 (sg 21 [bt 25 .dnil,bv 27 1,bt 26 (tl 2),bt 24 (tl 0),bt 23 (tl 0),(22,.nil),bt 21 (tl 0)])
@[simp] def q1Y:Sg:=sg 0 [bv 8 19,bt 6 (tl 0),bt 5 .dnil,bt 4 (tl 0),bt 3 (tl 0),bt 2 (tl 0),(1,.nil),bv 0 20,bg 7 18]
@[simp] def q0V:Sg:=sg 0 [bv 17 19,bg 15 17,bv 14 16,bv 13 15,bv 9 11,bv 8 10,bv 12 14,bv 11 13,bg 10 12,bv 7 9,bv 6 8,bg 5 7,bv 3 5,bv 2 4,bv 1 3,bv 0 2,bt 4 (r8 6),bg 16 18]
@[simp] def q1D:T:=.rcons (i8 10 20 0) (.rcons (i8 10 20 1) (.rcons (i8 10 20 2) (.rcons (i8 10 20 3) (.rcons (i8 10 20 4) (.rcons (i8 10 20 5) (.rcons (i8 10 20 6) (.rcons (i8 10 20 7) (.rcons (i8 10 20 8) (.rcons (i8 10 20 9) (.rcons (i8 10 20 10) (.rcons (i8 10 20 11) (.rcons (i8 10 20 12) (.rcons (i8 10 20 13) (.rcons (i8 10 20 14) (.rcons (i8 10 20 15) (.rcons (i8 10 20 16) (.rcons (i8 10 20 17) (.rcons (i8 10 20 18) (.rcons (i8 10 20 19) (.rcons (i8 10 20 20) (.rcons (i8 10 20 21) (.rcons (i8 10 20 22) (.rcons (i8 10 20 23) (.rcons (i8 10 20 24) (.rcons (i8 10 20 25) (.rcons (i8 10 20 26) (.rcons (i8 10 20 27) (.rcons (i8 10 20 28) (.rcons (i8 10 20 29) (.rcons (i8 10 20 30) (.rcons (i8 10 20 31) .rnil)))))))))))))))))))))))))))))))
def qBx:Out:=(fr 21 2 (.br (.and (.cmp .eql (.dlen (tv 1)) (tl 0)) (.isnil 0))
 (.ret 0 (sg 21 [bt 25 .dnil,bv 27 1,bt 26 (tl 1),bt 24 (tl 0),bt 23 (tl 0),(22,.nil),bt 21 (tl 0)]))
 (.pre 0 (sg 0 [bv 9 11,bv 8 10,bv 7 9,bv 6 8,bg 5 7,bv 3 5,bv 2 4,bv 1 3,bv 0 2,bt 4 (r8 6)]) (tb (.fresh 23 (.post 0 0 (sg 0 [bv 9 11,bv 8 10,bv 7 9,bv 6 8,bg 5 7,bv 3 5,bv 2 4,bv 1 3,bv 0 2,bt 4 (r8 6)]) 23 (.br (.cmp .neq (tv 23) (tl 0))
 (.ret 0 (sg 21 [bt 25 .dnil,bv 27 1,bv 26 23,bt 24 (tl 0),bt 23 (tl 0),(22,.nil),bt 21 (tl 0)]))
 (.br (.cmp .lss (tv 20) (tl 0))
 q1s
 (.br (.cmp .geq (tv 20) (tv 4))
 q1s
 (.pre 1 q0V (tb (.fresh 24 (.post 1 0 q0V 24 (.br (.cmp .neq (tv 24) (tl 0))
 (.ret 0 (sg 21 [bt 25 .dnil,bv 27 1,bv 26 24,bt 24 (tl 0),bt 23 (tl 0),(22,.nil),bt 21 (tl 0)]))
 (.pre 2 qtl (.both (fr 25 2 (.post 2 0 qtl 25 (.fresh 27 (.br (.cmp .neq (tv 25) (tl 0))
 (.ret 0 (sg 21 [bt 25 .dnil,bv 27 26,bv 26 25,bt 24 (tl 0),bt 23 (tl 0),(22,.nil),bt 21 (tl 0)]))
 (tn (tl 0) (tv 20) (ts (tv 20) (tv 8) (ts (tv 20) (.dlen (tv 10)) (tb (.pre 3 q1Y (tb (.fresh 28 (.post 3 0 q1Y 28 (.br (.not (.c2 .req (r8 28) q1D))
 (.ret 0 (sg 21 [bt 25 .dnil,bv 27 26,bt 26 (tl 20),bt 24 (tl 0),bt 23 (tl 0),(22,.nil),bt 21 (tl 0)]))
 (.ret 0 (sg 21 [bt 25 .dnil,bv 27 26,bt 26 (tl 0),bt 24 (tl 0),bt 23 (tl 0),(22,.nil),bt 21 (tl 0)]))))))))))))))) (tb (fr 25 5 (.post 2 1 qtl 25 (.fresh 30 (tn (tl 0) (tv 20) (ts (tv 20) (tv 8) (ts (tv 20) (.dlen (tv 10)) (tb (.know (.cmp .leq (.dlen (tv 29)) (tv 27)) (.pre 3 (sg 0 [bv 8 19,bv 6 27,bv 5 29,bv 4 27,bv 3 26,bt 2 (tl 0),bg 1 25,bv 0 20,bg 7 18]) (tb (.fresh 31 (.post 3 0 (sg 0 [bv 8 19,bv 6 27,bv 5 29,bv 4 27,bv 3 26,bt 2 (tl 0),bg 1 25,bv 0 20,bg 7 18]) 31 (.br (.not (.c2 .req (r8 31) q1D))
 (.ret 0 (sg 21 [bt 25 .dnil,bv 27 28,bt 26 (tl 20),bt 24 (tl 0),bt 23 (tl 0),(22,.nil),bt 21 (tl 0)]))
 (.ret 0 (sg 21 [bv 25 29,bv 27 28,bt 26 (tl 0),bv 24 27,bv 23 26,bg 22 25,bv 21 20]))))))))))))))))))))))))))))))))
theorem qDo:qj Tryz.prog qtj [qdd,qmc,qfR,qd8] [] qBx:=qg Tryz.func92 Tryz.call92 (by kernel_rfl)
@[simp] def qp3:Sg:=sg 0 [bg 8 15,bv 7 14,bv 6 13,bv 5 18,bv 4 12,bv 3 11,bg 2 10,bv 1 2,bv 0 0]
@[simp] def qpK:Out:=.ret 0 (sg 19 [bt 23 .dnil,bt 24 (tl 2),bt 22 (tl 0),bt 21 (tl 0),(20,.nil),bt 19 (tl 0)])
@[simp] def qxa:Sg:=sg 0 [bv 17 17,bg 15 15,bv 14 14,bv 13 13,bv 9 9,bv 8 8,bv 12 12,bv 11 11,bg 10 10,bv 7 7,bv 6 6,bg 5 5,bv 3 3,bv 2 2,bv 1 1,bv 0 0,bt 4 (r8 4),bg 16 16]
@[simp] def qx0:T:=.rcons (i8 8 18 0) (.rcons (i8 8 18 1) (.rcons (i8 8 18 2) (.rcons (i8 8 18 3) (.rcons (i8 8 18 4) (.rcons (i8 8 18 5) (.rcons (i8 8 18 6) (.rcons (i8 8 18 7) (.rcons (i8 8 18 8) (.rcons (i8 8 18 9) (.rcons (i8 8 18 10) (.rcons (i8 8 18 11) (.rcons (i8 8 18 12) (.rcons (i8 8 18 13) (.rcons (i8 8 18 14) (.rcons (i8 8 18 15) (.rcons (i8 8 18 16) (.rcons (i8 8 18 17) (.rcons (i8 8 18 18) (.rcons (i8 8 18 19) (.rcons (i8 8 18 20) (.rcons (i8 8 18 21) (.rcons (i8 8 18 22) (.rcons (i8 8 18 23) (.rcons (i8 8 18 24) (.rcons (i8 8 18 25) (.rcons (i8 8 18 26) (.rcons (i8 8 18 27) (.rcons (i8 8 18 28) (.rcons (i8 8 18 29) (.rcons (i8 8 18 30) (.rcons (i8 8 18 31) .rnil)))))))))))))))))))))))))))))))
def q5Q:Out:=(fr 19 2 (.pre 0 (sg 0 [bv 9 9,bv 8 8,bv 7 7,bv 6 6,bg 5 5,bv 3 3,bv 2 2,bv 1 1,bv 0 0,bt 4 (r8 4)]) (tb (.fresh 21 (.post 0 0 (sg 0 [bv 9 9,bv 8 8,bv 7 7,bv 6 6,bg 5 5,bv 3 3,bv 2 2,bv 1 1,bv 0 0,bt 4 (r8 4)]) 21 (.br (.not (tv 21))
 qpK
 (.br (.cmp .lss (tv 18) (tl 0))
 qpK
 (.br (.cmp .geq (tv 18) (tv 2))
 qpK
 (.pre 1 qxa (tb (.fresh 22 (.post 1 0 qxa 22 (.br (.cmp .neq (tv 22) (tl 0))
 (.ret 0 (sg 19 [bt 23 .dnil,bv 24 22,bt 22 (tl 0),bt 21 (tl 0),(20,.nil),bt 19 (tl 0)]))
 (.pre 2 qp3 (.both (.fresh 23 (.post 2 0 qp3 23 (.fresh 24 (tn (tl 0) (tv 18) (ts (tv 18) (tv 6) (ts (tv 18) (.dlen (tv 8)) (tb (.pre 3 (sg 0 [bv 7 17,bt 5 (tl 0),bt 4 .dnil,bt 3 (tl 0),bt 2 (tl 0),(1,.nil),bv 0 18,bg 6 16]) (tb (.fresh 25 (.post 3 0 (sg 0 [bv 7 17,bt 5 (tl 0),bt 4 .dnil,bt 3 (tl 0),bt 2 (tl 0),(1,.nil),bv 0 18,bg 6 16]) 25 (.br (.not (.c2 .req (r8 25) qx0))
 (.ret 0 (sg 19 [bt 23 .dnil,bt 24 (tl 20),bt 22 (tl 0),bt 21 (tl 0),(20,.nil),bt 19 (tl 0)]))
 (.ret 0 (sg 19 [bt 23 .dnil,bt 24 (tl 0),bt 22 (tl 0),bt 21 (tl 0),(20,.nil),bt 19 (tl 0)])))))))))))))) (tb (fr 23 4 (.post 2 1 qp3 23 (.fresh 27 (tn (tl 0) (tv 18) (ts (tv 18) (tv 6) (ts (tv 18) (.dlen (tv 8)) (tb (.pre 3 (sg 0 [bv 7 17,bv 5 25,bv 4 26,bv 3 25,bv 2 24,bg 1 23,bv 0 18,bg 6 16]) (tb (.fresh 28 (.post 3 0 (sg 0 [bv 7 17,bv 5 25,bv 4 26,bv 3 25,bv 2 24,bg 1 23,bv 0 18,bg 6 16]) 28 (.br (.not (.c2 .req (r8 28) qx0))
 (.ret 0 (sg 19 [bt 23 .dnil,bt 24 (tl 20),bt 22 (tl 0),bt 21 (tl 0),(20,.nil),bt 19 (tl 0)]))
 (.ret 0 (sg 19 [bv 23 26,bt 24 (tl 0),bv 22 25,bv 21 24,bg 20 23,bv 19 18]))))))))))))))))))))))))))))))
theorem qBV:qj Tryz.prog qo2 [qe3,qiH,qjk,qft] [] q5Q:=qg Tryz.func95 Tryz.call95 (by kernel_rfl)
def qxT:Out:=(.br (.cmp .lss (tv 0) (tl 0))
 (.stuck 15 0 0)
 (.br (.cmp .gtr (.arith .sub .i64 (tv 0) (tl 0)) (tl 0))
 (tn (tl 0) (.arith .sub .i64 (tv 0) (tl 0)) (tn (.tims (tl 1) (.arith .sub .i64 (tv 0) (tl 0))) (tl 140737488355328) (fr 1 2 (.know (.cmp .leq (.dlen (.drep (.arith .sub .i64 (tv 0) (tl 0)) (.rcons (tu (tl 0)) .rnil))) (tv 2)) (tn (tl 0) (tv 2) (.ret 0 (sg 1 [bt 2 (.drep (.arith .sub .i64 (tv 0) (tl 0)) (.rcons (tu (tl 0)) .rnil)),bv 3 2,bg 1 1])))))))
 (.ret 0 (sg 1 [bt 2 .dnil,bt 3 (tl 0),(1,.nil)]))))
theorem q57:qj Tryz.prog qld [] [] qxT:=qg Tryz.func135 Tryz.call135 (by kernel_rfl)
def qrl:Out:=(tn (tl 0) (tv 1) (.inv 0 6 (sg 1000 [bt 1000 (tl 0),bt 1001 (tl 0)]) (fr 6 2 (.hyp 0 6 (.br (.cmp .lss (tv 6) (tv 1))
 (tn (tl 0) (tv 6) (ts (tv 6) (.dlen (tv 3)) (.view (.vcell (tv 3) (tv 6) 0) [CK.int .u8] [5] 8 (.br (.cmp .lss (.arith .add .i64 (tv 7) (.dlen (tv 10))) (tl 0))
 (.stuck 15 0 0)
 (.back 0 6 (sg 1000 [bt 1000 (.arith .add .i64 (tv 6) (tl 1)),bt 1001 (.arith .add .i64 (tv 7) (.dlen (tv 10)))]))))))
 (.pre 0 (sg 0 [bv 0 7]) (tb (fr 8 3 (.post 0 0 (sg 0 [bv 0 7]) 8 (.inv 1 11 (sg 1000 [bv 1003 9,bt 1004 (tl 0),bv 1002 10,bt 1001 (tl 0),bg 1000 8]) (fr 11 5 (.hyp 1 11 (.br (.cmp .lss (tv 15) (tv 1))
 (tn (tl 0) (tv 15) (ts (tv 15) (.dlen (tv 3)) (.view (.vcell (tv 3) (tv 15) 0) [CK.int .u8] [5] 16 (.need (.cmp .eql (tv 12) (.dlen (.dtake (tv 14) (tv 12)))) (tn (.tims (tl 1) (.plus (tv 12) (.dlen (tv 18)))) (tl 140737488355328) (fr 19 2 (.back 1 11 (sg 1000 [bt 1003 (.dapp (.dtake (tv 14) (tv 12)) (tv 18)),bt 1004 (.arith .add .i64 (tv 15) (tl 1)),bv 1002 20,bt 1001 (.plus (tv 12) (.dlen (tv 18))),bg 1000 19]))))))))
 (.ret 0 (sg 6 [bv 9 14,bv 8 13,bv 7 12,bg 6 11])))))))))))))))
theorem qz7:qj Tryz.prog qhG [qld] [qtC,qtQ] qrl:=qg Tryz.func112 Tryz.call112 (by kernel_rfl)
def qsi:Out:=(.br (.and (.cmp .eql (.dlen (tv 1)) (tl 0)) (.isnil 0))
 (.ret 0 (sg 11 [bv 12 1,bt 11 (tl 1)]))
 (.pre 0 (sg 0 [bv 1 3,bv 0 2]) (tb (.fresh 11 (.post 0 0 (sg 0 [bv 1 3,bv 0 2]) 11 (.br (.not (tv 11))
 (.ret 0 (sg 11 [bv 12 1,bt 11 (tl 2)]))
 (.br (.cmp .lss (tv 4) (tl 0))
 (.ret 0 (sg 11 [bv 12 1,bt 11 (tl 2)]))
 (.br (.cmp .gtr (tv 4) (tl 8192))
 (.ret 0 (sg 11 [bv 12 1,bt 11 (tl 2)]))
 (.pre 1 (sg 0 [bv 1 4,bv 0 2]) (tb (fr 12 2 (.post 1 0 (sg 0 [bv 1 4,bv 0 2]) 12 (.pre 2 (sg 0 [bg 8 10,bv 7 9,bv 6 8,bv 5 7,bv 4 6,bg 3 5,bv 2 12,bv 1 3,bv 0 2]) (tb (.fresh 14 (.post 2 0 (sg 0 [bg 8 10,bv 7 9,bv 6 8,bv 5 7,bv 4 6,bg 3 5,bv 2 12,bv 1 3,bv 0 2]) 14 (.br (.cmp .neq (tv 14) (tl 0))
 (.ret 0 (sg 11 [bv 12 1,bv 11 14]))
 (.pre 3 (sg 0 [bg 9 10,bv 8 9,bv 7 8,bv 1 1,bv 6 7,bv 5 6,bg 4 5,bv 3 3,bv 2 2,bg 0 0]) (tb (fr 15 8 (.post 3 0 (sg 0 [bg 9 10,bv 8 9,bv 7 8,bv 1 1,bv 6 7,bv 5 6,bg 4 5,bv 3 3,bv 2 2,bg 0 0]) 15 (.fresh 23 (.pre 4 (sg 0 [bg 5 21,bv 4 2,bv 3 20,bv 2 2,bv 1 2,bg 0 15]) (tb (fr 24 4 (.post 4 0 (sg 0 [bg 5 21,bv 4 2,bv 3 20,bv 2 2,bv 1 2,bg 0 15]) 24 (.know (.cmp .leq (.dlen (tv 27)) (tv 26)) (tn (tl 0) (tv 25) (tn (tl 0) (tv 26) (tn (tl 0) (tv 4) (tn (tv 4) (tv 26) (.ret 1 (sg 11 [bv 14 26,bv 13 27,bv 12 19,bg 11 24])))))))))))))))))))))))))))))))))
theorem qzH:qj Tryz.prog qh8 [qbv,qbH,qfz,qf1,qhG] [] qsi:=qg Tryz.func76 Tryz.call76 (by kernel_rfl)
theorem q7n:qld.ok Tryz.prog:=q57 (by simp) fun Z hg hp=>by
 obtain ⟨n0,n1⟩:=hp;simp (config:={ maxSteps:=4000000 }) [qxT,qld];rw [sub64 (by omega) (by omega)];exact ⟨n0,fun _=>⟨fun _=>⟨by omega,by omega,fun u _ h=>⟨by omega,qcN⟩⟩,fun _ r hr=>(by cases hr)⟩⟩
theorem qzK:qhG.ok Tryz.prog:=qz7 (by simp [q7n]) fun Z hg hp=>by
 obtain ⟨n0,n1,nd,hr1,hcol⟩:=hp;simp (config:={ maxSteps:=4000000 }) [qrl,qhG,qtC,qtQ,qld];have hle:∀ i:Nat,(i:Int) <= (Z 1).i->(qcv (qaE (Z 5).h (Z 3).d) i).length <= i * 9000:=fun i hi=>q1u fun j hj=>(hcol j (by omega)).2
 have hat:∀ i:Int,0 <= i->i < (Z 1).i->∃ d,Rd (Z 5).h kB (qC (Z 3).d i 0) d/\qk d/\qaE (Z 5).h (Z 3).d i.toNat = bI d/\d.length <= 9000:=fun i i0 i1=>by
  obtain ⟨d,h1,h2,h3⟩:=qwm (hcol i.toNat (by omega)).1 i0;refine ⟨d,h1,h2,h3,?_⟩;have:=(hcol i.toNat (by omega)).2
  rwa [h3,bI_len] at this
 have hnext:∀ i:Int,0 <= i->qcv (qaE (Z 5).h (Z 3).d) (i + 1).toNat = qcv (qaE (Z 5).h (Z 3).d) i.toNat ++ qaE (Z 5).h (Z 3).d i.toNat:=fun i i0=>by
  rw [show (i + 1).toNat = i.toNat + 1 by omega]; rfl
 refine ⟨n0,⟨n0,rfl⟩,fun i _ t _ i0 i1 ht=>⟨fun hi=>?_,fun hi=>?_⟩⟩
 ·obtain ⟨d,h1,h2,h3,h4⟩:=hat i.i i0 hi
  have h5:=hle i.i.toNat (by omega);have e1:qc .add .i64 t.i (d.length:Int) = t.i + d.length:=add64 (by omega) (by omega);have e2:qc .add .i64 i.i 1 = i.i + 1:=add64 (by omega) (by omega);refine ⟨i0,by omega,d,h1,?_⟩;rw [e1,e2];exact ⟨by omega,fun _=>⟨⟨by omega,by omega,by rw [hnext _ i0,jaj,h3,bI_len]; omega⟩,by omega⟩⟩
 ·have h5:=hle i.i.toNat (by omega)
  refine ⟨⟨by omega,by omega⟩,fun u _ hGB=>⟨⟨n0,rfl,fun r hr=>(by cases hr),rfl,hGB⟩,fun l _ D _ j _ j0 j1 hl hlD hB hb hBB=>⟨fun hj=>?_,fun hj=>?_⟩⟩⟩
  ·obtain ⟨d,h1,h2,h3,h4⟩:=hat j.i j0 hj
   have h6:=hle j.i.toNat (by omega);have hmin:min l.i.toNat D.d.length = l.i.toNat:=jb8 (by omega);rw [hmin];have e2:qc .add .i64 j.i 1 = j.i + 1:=add64 (by omega) (by omega);rw [e2];have htk:(D.d.take l.i.toNat ++ d).take (l.i + (d.length:Int)).toNat = D.d.take l.i.toNat ++ d:=jap (by rw [jaj,jbe,hmin]; omega);refine ⟨j0,by omega,d,h1,?_⟩;rw [htk];exact ⟨by omega,by omega,⟨by omega,by omega,by rw [hnext _ j0,jaj,h3,bI_len]; omega,by omega,qee hB h2,by rw [qgf,hb,hnext _ j0,h3],qee hB h2⟩,by omega⟩
  ·have he:j.i = (Z 1).i:=by omega
   rw [he] at hl hb;exact ⟨hl,hlD,hB,hb,hBB⟩
theorem q1i {h:Hp} {D:qe} {k total n size:Int} (hp:qdV h D n) (hd:qlw h D k total size n) (h0:0 <= size):size.toNat <= k.toNat * pcN h D 0/\pcN h D 0 <= 8192/\1 <= k/\k <= 255:=by
 obtain ⟨P,hl⟩:=q22 hp hd;have h1:=P.k1;have h2:=P.k2;have h3:=P.k3;have h8:=P.sol.2.2.2.2.2.1;refine ⟨?_,h8,h1,by omega⟩;rw [hl];exact qkj (by omega)
theorem qxe {k size:Int} {a b:Int} (k1:1 <= k) (k2:k <= 255) (s0:0 <= size) (s1:size <= 8192) (h:¬ qcr k size->a = (size + k - 1).tdiv k/\b = 0):a = plI k size/\b = 0:=by
 obtain ⟨h1,h2⟩:=h (by unfold qcr; omega);refine ⟨?_,h2⟩;have hd:=qm1 (k:=k) (n:=size.toNat) k1;rw [jay s0] at hd;rw [h1,hd]; rfl
theorem qzU:qh8.ok Tryz.prog:=qzH (by simp [qim,ql8,qsq,qq5,qzK]) fun Z hg hp=>by
 obtain ⟨hf,hpre⟩:=hp;have hpre':=hpre;obtain ⟨n0,n1,hpc⟩:=hpre';simp (config:={ maxSteps:=4000000 }) [qsi,qh8,qbv,qbH,qfz,qjO,qf1,qsV,qhG];refine ⟨fun h=>(qib hf h).elim,fun _ b _ hb=>⟨fun h=>⟨hf,.inl ⟨.inl (by rw [<- hb,h]),rfl⟩⟩,fun h=>⟨fun hi=>⟨hf,.inl ⟨.inr (.inl hi),rfl⟩⟩,fun s0=>⟨fun hi=>⟨hf,.inl ⟨.inr (.inr hi),rfl⟩⟩,fun s1 l _ e0 _ _ hl=>?_⟩⟩⟩⟩;have hs:qM (Z 2).i (Z 3).i = true:=by rw [<- hb,h]
 obtain ⟨k1,k2,k3⟩:=qbn.1 hs;obtain ⟨hl,_⟩:=qxe k1 (by omega) s0 s1 hl;rw [hl];refine ⟨⟨k3,n0,n1,hpc⟩,fun e _ he=>⟨fun hne=>⟨hf,.inr ⟨hs,s0,s1,he,hne⟩⟩,fun he0=>?_⟩⟩;rw [he0] at he;have hK:qlw (Z 10).h (Z 8).d (Z 2).i (Z 3).i (Z 4).i (Z 6).i:=⟨hs,s0,s1,he⟩;obtain ⟨P,hN⟩:=q22 hpre hK;obtain ⟨hd1,hd2,_,_⟩:=q1i hpre hK s0;refine ⟨⟨hf,P.sol⟩,fun _ _ _ _ f1 _ C _ H _ _ _ hf1 hCl hCr ht _ _=>?_⟩;obtain ⟨c1,c2,c3⟩:=P.cat ht;refine ⟨⟨by omega,by omega,by omega,hCr,fun j hj=>⟨(c1 j (by omega)).1,by rw [(c1 j (by omega)).2]; omega⟩⟩,fun m _ cp _ d _ hm hmd hB hb hBB hcp=>?_⟩;rw [c2] at hm hb;rw [c3] at hm;have htk:(d.d.take (Z 4).i.toNat) = (d.d.take m.i.toNat).take (Z 4).i.toNat:=by rw [jeg,jb8 (by omega)]
 exact ⟨by omega,by omega,s0,by omega,hf1,hK,by omega,by rw [htk]; exact qjF hB,by rw [htk,qgQ,hb],hBB⟩
set_option maxRecDepth 20000
set_option maxHeartbeats 1000000 in
theorem q15:qmc.ok Tryz.prog:=qCd (by simp [qu9]) fun Z hg hp=>by
 obtain ⟨⟨⟨m0,m1,m2,m3,hl,hD⟩,⟨p0,p1,hpc⟩,hn,h9⟩,hGr,hGd⟩:=hp;simp only [Nat.reduceAdd] at m0 m1 m2 m3 hl hD p0 p1 hpc hn h9;simp (config:={ maxSteps:=4000000 }) [q6P,qmc,qBj,qep,qhc,qfE,qlc,qcI,gOk,qbS,qbe,qN,qd6,MK.sem,mF,hGr,hGd,hD,hl,m0,m3];intro u _ u1 _ v hv x hx hm;refine ⟨p0,⟨p0,fun j hj=>by omega,q83 hx hm⟩,?_⟩;intro H _ M _ u4 _ i _ i0 i1 hall hseen;refine ⟨fun hi=>⟨i0,by omega,fun u6 _=>?_⟩,fun hi=>⟨fun hk=>?_,fun hk=>?_⟩⟩
 ·obtain ⟨hj,hI,d,hr,hB,hDd⟩:=qnh hpc i0 hi
  have hdl:d.length <= 9000:=by
   have:=h9 i.i.toNat (by omega)
   rwa [hDd,bI_len] at this
  refine ⟨d,hr,fun r _ c _ hv hc=>⟨⟨hc,by omega,hB⟩,fun e _ he=>?_⟩⟩;rw [hI,<- hDd] at he;refine ⟨fun hne=>qvN i0 hj hall he hne,fun h0=>?_⟩;obtain ⟨b,l,ck,hM,hmap,ht,hs⟩:=hseen;refine ⟨l,.inr ⟨b,hM,ck,hmap⟩,?_⟩;have hz:∀ (Z:Env) (b:Bool),qd Z [.vbool (.bl b)] = [.bool b]:=fun _ _=>rfl
  have hcx:∀ b:Bool,qay [[Value.bool b]] 0 = b:=fun _=>rfl
  rw [h0] at he;simp only [hz,q8m ht,hI,hcx];refine ⟨fun h7=>qqs i0 hj hall he.symm ((hs _).1 h7),fun hno=>⟨b,hM,l,ck,hmap,fun u' _ hu'=>?_⟩⟩;rw [add64 (x:=i.i) (by omega) (by omega)];refine ⟨⟨by omega,by omega,quV i0 hall he.symm fun l' hl' h=>?_,?_⟩,by omega⟩
  ·rw [(hs _).2 ⟨l',hl',h⟩] at hno; cases hno
  ·rw [show (i.i + 1).toNat = i.i.toNat + 1 by omega]
   exact q8S hM hmap ht hs rfl hu'
 ·exact qmw (by omega) hall (.inl ⟨by omega,rfl⟩)
 ·exact qmw (by omega) hall (.inr ⟨by omega,rfl⟩)
set_option maxHeartbeats 1000000 in
theorem qxh:qiH.ok Tryz.prog:=q9G (by simp [qu7]) fun Z hg hp=>by
 obtain ⟨⟨⟨m0,m1,m2,m3,hl,hD⟩,⟨p0,p1,hpc⟩,hn,h9⟩,hGr,hGd⟩:=hp;simp only [Nat.reduceAdd] at m0 m1 m2 m3 hl hD p0 p1 hpc hn h9;simp (config:={ maxSteps:=4000000 }) [q1a,qiH,q8j,q8l,qep,qgC,qfE,qlc,qcI,gOk,qbS,qbe,qN,qd6,mF,hGr,hGd,hD,hl,m0,m3];refine ⟨⟨p0,fun j hj=>by omega⟩,fun i _ i0 i1 hall=>⟨p0,fun hi=>⟨i0,by omega,?_⟩,fun hi=>⟨fun hk=>qmw (by omega) hall (.inl ⟨by omega,rfl⟩),fun hk=>qmw (by omega) hall (.inr ⟨by omega,rfl⟩)⟩⟩⟩;obtain ⟨hj,hI,d,hr,hB,hDd⟩:=qnh hpc i0 hi;have hdl:d.length <= 9000:=by
  have:=h9 i.i.toNat (by omega)
  rwa [hDd,bI_len] at this
 refine ⟨d,hr,fun r _ c _ hv hc=>⟨⟨hc,by omega,hB⟩,fun e _ he=>?_⟩⟩;rw [hI,<- hDd] at he;refine ⟨fun hne=>qvN i0 hj hall he hne,fun h0=>?_⟩;rw [h0] at he;have hcI:∀ x:Int,0 <= x->x < (Z 11).i->qb (Z 13).d x 0 = pcI (Z 13).d x.toNat:=fun x x0 x1=>(qnh hpc x0 x1).2.1
 refine ⟨⟨i0,fun l hl=>by omega⟩,fun u _ u0 u1 hno=>⟨fun hlt=>⟨u0,by omega,by omega,fun he2=>?_,fun hne=>?_⟩,fun hge=>?_⟩⟩
 ·rw [hcI _ u0 (by omega),hI] at he2
  exact qqs i0 hj hall he.symm ⟨u.i.toNat,by omega,he2⟩
 ·rw [hcI _ u0 (by omega),hI] at hne
  rw [add64 (x:=u.i) (by omega) (by omega)];refine ⟨⟨by omega,by omega,fun l hl=>?_⟩,by omega⟩;by_cases hlu:(l:Int) = u.i
  ·obtain rfl:l = u.i.toNat:=by omega
   exact hne
  ·exact hno l (by omega)
 ·rw [add64 (x:=i.i) (by omega) (by omega)]
  exact ⟨⟨by omega,by omega,quV i0 hall he.symm fun l hl=>hno l (by omega)⟩,by omega⟩
set_option maxHeartbeats 1000000 in
theorem qD6:qtj.ok Tryz.prog:=qDo (by simp [qj6,q15,qwK,qmv]) fun Z hg hp=>by
 obtain ⟨hf,⟨m0,m1,m2,m3,hl,hD⟩,⟨⟨p0,p1,hpc⟩,hn,h9⟩,⟨hGr,hGd⟩,hx⟩:=hp;simp only [Nat.reduceAdd] at m0 m1 m2 m3 hl hD p0 p1 hpc hn h9;have hne:=qib hf;simp (config:={ maxSteps:=4000000 }) [qBx,qtj,qdd,qmc,qep,qi1,qgB,psP,qfR,qd8,qdV,qbS,qbe,qN,gOk,mF,qhN,mOk,qsw,hf,hne,hGr,hGd,hD,hl,m0,m1,m2,m3,hx,p0,p1,hpc];cases hM:qy (Z 2).i (Z 3).i (Z 4).i (Z 5).i ((Z 10).d.length:Int)
 ·intro u2 _ hu2
  simp only [jas,jbd] at hu2;exact ⟨fun _=>by rw [hu2]; exact qyR rfl,fun h=>by omega⟩
 ·intro u2 _ hu2
  simp only [jbz] at hu2;refine ⟨fun h=>absurd hu2 h,fun _=>⟨fun hx=>qlh (.inl hx),fun x0=>⟨fun hx=>qlh (.inr hx),fun x1=>⟨⟨hn,h9⟩,fun u3 _ hC=>⟨fun hne=>qzr rfl x0 x1 hC hne,fun h0=>?_⟩⟩⟩⟩⟩;rw [h0] at hC;have hK:=qvJ hC hM hn x0 x1;obtain ⟨k1,k2,k3,k4,s0,s1,htl⟩:=qdj.1 hM;have hcz:=(qnW hC).2;have h90:=h9 0 (by omega);have hrow:qj0 (Z 10).d (Z 20).i = (dgs (Z 10).d)[(Z 20).i.toNat]?.getD []:=by rw [qjV x0 (by omega),jab]
  refine ⟨fun u4 _ u5 _ _ hE=>(q2o hK hE).elim,fun n' _ c _ f2 _ d _ hf2 _ hnd hdl hdB hdb=>⟨x0,by omega,fun hcap=>⟨⟨by omega,by omega,by unfold pcN at hdl; omega,by omega,hdB⟩,fun u10 _ hs=>?_⟩⟩⟩;rw [hs,qjr hnd,hdb,hrow];exact ⟨fun h=>⟨hf2,qys rfl x0 x1 hC h⟩,fun h=>⟨hf2,q16 rfl x0 x1 hC h hnd hdB hdb⟩⟩
set_option maxHeartbeats 1000000 in
theorem qBZ:qo2.ok Tryz.prog:=qBV (by simp [qmq,qxh,q3H,qrz]) fun Z hg hp=>by
 obtain ⟨⟨m0,m1,m2,m3,hl,hD⟩,⟨⟨p0,p1,hpc⟩,hn,h9⟩,hc,⟨hGr,hGd⟩,hx⟩:=hp;simp only [Nat.reduceAdd] at m0 m1 m2 m3 hl hD p0 p1 hpc hn h9;simp (config:={ maxSteps:=4000000 }) [q5Q,qo2,qe3,qiH,qep,qi1,qgB,psP,qjk,qft,qdV,qbS,qbe,qgc,qN,gOk,mF,qhN,mOk,qsw,hGr,hGd,hD,hl,m0,m1,m2,m3,hx,p0,p1,hpc,hc];cases hM:qy (Z 0).i (Z 1).i (Z 2).i (Z 3).i ((Z 8).d.length:Int)
 ·intro u2 _ hu2
  exact ⟨fun _=>qyR rfl,fun h=>(by rw [hu2] at h; cases h)⟩
 ·intro u2 _ hu2
  refine ⟨fun h=>(by rw [hu2] at h; cases h),fun _=>⟨fun hx=>qlh (.inl hx),fun x0=>⟨fun hx=>qlh (.inr hx),fun x1=>⟨⟨hn,h9⟩,fun u3 _ hC=>⟨fun hne=>qzr rfl x0 x1 hC hne,fun h0=>?_⟩⟩⟩⟩⟩;rw [h0] at hC;have hK:=qvJ hC hM hn x0 x1;obtain ⟨k1,k2,k3,k4,s0,s1,htl⟩:=qdj.1 hM;have hcz:=(qnW hC).2;have h90:=h9 0 (by omega);have hrow:qj0 (Z 8).d (Z 18).i = (dgs (Z 8).d)[(Z 18).i.toNat]?.getD []:=by rw [qjV x0 (by omega),jab]
  refine ⟨fun u4 _ hE=>(q2o hK hE).elim,fun n' _ d _ _ hnd hdl hdB hdb=>⟨x0,by omega,⟨hnd,by unfold pcN at hdl; omega,hdB⟩,fun u10 _ hs=>?_⟩⟩;rw [hs,hdb,hrow];exact ⟨fun h=>qys rfl x0 x1 hC h,fun h=>q16 rfl x0 x1 hC h hnd hdB hdb⟩
set_option maxHeartbeats 1000000 in
theorem qEu:qsU.ok Tryz.prog:=qDL (by simp [qj6,q15,qzU,qj8]) fun Z hg hp=>by
 obtain ⟨hf,⟨m0,m1,m2,m3,hl,hD⟩,hO,⟨⟨p0,p1,hpc⟩,hn,h9⟩,⟨hGr,hGd⟩⟩:=hp;simp only [Nat.reduceAdd] at m0 m1 m2 m3 hl hD p0 p1 hpc hn h9;have hne:=qib hf;simp (config:={ maxSteps:=4000000 }) [qBs,qsU,qdd,qmc,qep,qi1,qgB,psP,qh8,qdb,qkB,qdV,qbS,qbe,qN,gOk,mF,qhN,mOk,qti,hf,hne,hGr,hGd,hD,hl,hO,m0,m1,m2,m3,p0,p1,hpc];cases hM:qy (Z 2).i (Z 3).i (Z 4).i (Z 5).i ((Z 10).d.length:Int)
 ·intro u2 _ hu2
  simp only [jas,jbd] at hu2;exact ⟨fun hne=>qkI (by rw [hu2]; exact qzk rfl) hne,fun h=>by omega⟩
 ·intro u2 _ hu2
  simp only [jbz] at hu2;refine ⟨fun h=>absurd hu2 h,fun _=>⟨⟨hn,h9⟩,fun u3 _ hC=>⟨fun hne=>qkI (qxk rfl hC hne) hne,fun h0=>?_⟩⟩⟩;rw [h0] at hC;have hK:=qv7 hC hM hn;obtain ⟨k1,k2,k3,k4,s0,s1,htl⟩:=qdj.1 hM;refine ⟨fun u4 _ u5 _ _ hE=>(q13 hK hE).elim,fun f2 _ d _ c _ hf2 _ hsz hB hb hBB hcap=>⟨⟨s0,by omega,hsz,hBB⟩,fun u10 _ hs=>?_⟩⟩;have hsg:qaB d.d 0 (Z 5).i = bI (d.d.take (Z 5).i.toNat):=by rw [qgQ]; rfl
  rw [hs,hsg,hb];exact ⟨fun h=>⟨hf2,qkI (qxH rfl hC h) (by decide)⟩,fun h=>⟨hf2,q0K (q1k rfl hC h) s0 hsz hBB hb⟩⟩
end Go.Proofs
namespace Go.Eng
open Go Go.ChangeShapes Go.WideShapes Go.ChangeAt Go.RowKit
structure Grew (W w':World):Prop where
 os:w'.os = W.os
 out:w'.output = W.output
 blk:∀ (b:Nat) (o:Obj),W.heap[b]? = some o->w'.heap[b]? = some o
theorem Grew.block {W w':World} (h:Grew W w') {i:Nat} (hi:i < W.heap.size):w'.heap[i]? = W.heap[i]?:=by
 rw [jcp hi]; exact h.blk i _ (jcp hi)
theorem Grew.kept {W w':World} (h:Grew W w') (may:MemPlace->Prop):W.keptBut w' may:=by
 refine ⟨h.os,h.out,fun i hi=>?_⟩;rw [h.block hi,jcp hi];cases W.heap[i] <;> simp
theorem Grew.trodAll {H:Type} {enc:TypeId × Value->H} {P:Program} {W W':World} (hg:Grew W W') (hl:laidOutB P = true) {sp:Nat->Bool}:∀ {ts:List TypeId} {vs:List Value} {ds:List (DataW H)} {ps:List MemPlace},
  (∀ t ∈ ts,P.readableRec t = true/\t < P.types.size)->DataW.TrodAll enc P W 0 (fun _=>true) true ts vs ds ps->(∀ p ∈ ps,p.block < W.heap.size)->(∀ p ∈ ps,sp p.block = true) ->
  DataW.TrodAll enc P W' 0 sp true ts vs ds ps
 | [],[],[],_,_,h,_,_=>h
 | _ :: _,_ :: _,_ :: _,_,hT,⟨p,q,h1,h2,e⟩,hlt,hs=>by
  subst e;refine ⟨p,q,?_,Grew.trodAll hg hl (fun t ht=>hT t (jad _ ht)) h2 (fun x hx=>hlt x (jcs _ hx)) (fun x hx=>hs x (jcs _ hx)),rfl⟩;have hr:=hT _ (jae ..);refine WideElems.Trod_stays hl hr.1 hr.2 h1 (fun x hx=>?_) (fun x hx=>hs x (jb3 _ hx));have hb:=hg.block (hlt x (jb3 _ hx));cases x with
  | cell b o=>exact World.cell?_of_block (w:=W) hb
  | map b=>exact hb
theorem q6S {P:Program} {c:Ctr} (hok:c.ok P) (hheap:c.heap = []) (halts:∀ al ∈ c.alts,al.ret = .one (.vbool (.bl true))) {Z:Env} (hg:Z.good) (W:World)
  (hro:∀ x ∈ c.ro,x.roden Z (fun b=>W.heap[b]?)) (hpre:c.pre Z) :
  Calls P c.fn (c.args.map (SV.den Z)).toArray W fun e W'=>e = .returned (.bool true)/\Grew W W':=by
 have h:=hok.2 Z W ⟨fun b=>W.heap[b]?,W.os,W.output⟩ Hp.emp hg (Hp.disj_emp _)
  ⟨fun b o hb=>by simpa [Hp.union,Hp.emp] using hb,rfl,rfl⟩ (by rw [hheap]; trivial) hro hpre
 refine h.mono fun e w' hq=>?_
 obtain ⟨ai,al,Z',hal,_,_,rfl,_,hO,_,_,hsub,hwi⟩:=hq;refine ⟨by rw [halts al (jbl hal)]; rfl,⟨hwi.1,hwi.2,fun b o hb=>hsub b o ?_⟩⟩;simp [Hp.union,hb]
theorem qAJ {H:Type} {enc:TypeId × Value->H} {P:Program} {f:Func} {s:ChangeSpec} {W W':World} {args:Array Value} {ds gs:List (DataW H)} {before:List MemPlace} {bt:TypeId}
  (hl:laidOutB P = true) (hT:∀ t ∈ f.params.toList,P.readableRec t = true/\t < P.types.size) (hvars:s.vars = []) (hrt:f.resultTypes = #[bt]) (hbt:P.underlying bt = some .bool)
  (hfn:∀ ds':List (DataW H),ds'.length = f.params.size->s.fn H ds' = { results:=[.lit (.bool true)],args:=ds' })
  (hW:DataW.Whole enc P f.params.toList s.vars false W args.toList ds gs before) (hg:Grew W W'):s.post enc P f false true false false W args (.bool true) W':=by
 have hlt:=hW.lt;have hW0:=hW;obtain ⟨p,q,hA,hV,hpq,hz,hn⟩:=hW;rw [hvars] at hV;obtain ⟨rfl,rfl⟩:=trodVars_none hV;have hlen:ds.length = f.params.size:=by
  have:∀ {ts:List TypeId} {vs:List Value} {ds:List (DataW H)} {ps:List MemPlace},DataW.TrodAll enc P W 0 (fun _=>true) true ts vs ds ps->ds.length = ts.length:=by
   intro ts
   induction ts with
   | nil=>intro vs ds ps h; cases vs <;> cases ds <;> simp_all [DataW.TrodAll]
   | cons t ts ih =>
    intro vs ds ps h;cases vs <;> cases ds <;> simp_all [DataW.TrodAll];obtain ⟨p,q,_,h2,_⟩:=h;exact ih h2
  simpa using this hA
 have hlt':∀ x ∈ p,x.block < W.heap.size:=fun x hx=>hlt x (by rw [hpq]; exact jb3 _ hx)
 refine ⟨ds,[],before,[],p,[],hW0,?_,?_,?_,hg.kept _,fun h=>by cases h⟩
 ·rw [jc6,hfn ds hlen,hrt]
  exact ⟨[],[],⟨1,by simp [DataW.trod,hbt,Value.cells]⟩,rfl,rfl⟩
 ·rw [jc6,hfn ds hlen]
  exact hg.trodAll hl hT hA hlt' (fun x hx=>by simpa using hlt' x hx)
 ·rw [jc6,hfn ds hlen,hvars]
  rfl
theorem q8T {H:Type} {enc:TypeId × Value->H} {P:Program} {f:Func} {s:ChangeSpec} {c:Ctr} {W:World} {args:Array Value} {ds gs:List (DataW H)} {before:List MemPlace} {bt:TypeId} {Z:Env}
  (hok:c.ok P) (hheap:c.heap = []) (halts:∀ al ∈ c.alts,al.ret = .one (.vbool (.bl true)))
  (hl:laidOutB P = true) (hT:∀ t ∈ f.params.toList,P.readableRec t = true/\t < P.types.size) (hvars:s.vars = []) (hrt:f.resultTypes = #[bt]) (hbt:P.underlying bt = some .bool)
  (hfn:∀ ds':List (DataW H),ds'.length = f.params.size->s.fn H ds' = { results:=[.lit (.bool true)],args:=ds' })
  (hW:DataW.Whole enc P f.params.toList s.vars false W args.toList ds gs before)
  (hg:Z.good) (hargs:args = (c.args.map (SV.den Z)).toArray) (hro:∀ x ∈ c.ro,x.roden Z (fun b=>W.heap[b]?)) (hpre:c.pre Z) :
  Calls P c.fn args W fun e W'=>∃ v,e = .returned v/\s.post enc P f false true false false W args v W':=by
 rw [hargs];refine (q6S hok hheap halts hg W hro hpre).mono fun e W' ⟨he,hgr⟩=>⟨_,he,?_⟩
 rw [<- hargs];exact qAJ hl hT hvars hrt hbt hfn hW hgr
def qqO (P:Program) (f:TypeId->Option (List CK)):List Field->Nat->Option (List CK)
 | [],_=>some []
 | x :: fs,off =>
  if Nat.beq x.offset off then
   match f x.type with
   | some p=>if Nat.beq p.length (P.cellsOf x.type) then (qqO P f fs (off + p.length)).map (p ++ ·) else none
   | none=>none
  else none
def qmI (p:List CK):Nat->List CK
 | 0=>[]
 | n + 1=>p ++ qmI p n
def qjq (P:Program):Nat->TypeId->Option (List CK)
 | 0,_=>none
 | n + 1,t =>
  match P.underlying t with
  | some (.int k)=>some [.int k]
  | some .bool=>some [.bool]
  | some .string=>some [.any]
  | some (.slice _)=>some [.any]
  | some (.pointer _)=>some [.any]
  | some (.struct fs)=>match qqO P (qjq P n) fs.toList 0 with
   | some p=>if Nat.beq p.length (P.cellsOf t) then some p else none
   | none=>none
  | some (.array m e)=>match qjq P n e with
   | some p=>if Nat.beq p.length (P.cellsOf e) && Nat.beq (P.cellsOf t) (m * P.cellsOf e) then some (qmI p m) else none
   | none=>none
  | _=>none
theorem qkX {p q:List CK} {cs:List Value} (h1:qv p (cs.take p.length)) (h2:qv q (cs.drop p.length)):qv (p ++ q) cs:=by
 obtain ⟨a1,a2⟩:=h1;obtain ⟨b1,b2⟩:=h2;have hle:p.length <= cs.length:=by simp at a1; omega
 refine ⟨by simp at a1 b1 ⊢; omega,fun c k v hk hv=>?_⟩;by_cases hc:c < p.length
 ·rw [jar hc] at hk
  exact a2 c k v hk (by rw [jbb,jah hc]; exact hv)
 ·rw [jao (by omega)] at hk
  exact b2 (c - p.length) k v hk (by rw [jbc,show p.length + (c - p.length) = c by omega]; exact hv)
section
variable {H:Type} {enc:TypeId × Value->H} {P:Program} {w:World} {base:Nat} {spare:Nat->Bool} {held:Bool}
theorem qfU {v:Value} (h:v.oneCell' = true):qv [.any] [v]:=⟨rfl,fun c k v' hk hv=>by
 cases c with
 | zero=>simp at hk hv; subst hk; subst hv; exact h
 | succ c=>simp at hk⟩
theorem qst {f:TypeId->Option (List CK)} {cs:List Value} (hf:∀ t p,f t = some p->∀ cs',(∃ fuel x,DataW.trod enc P w base spare held fuel t cs' = some x)->qv p cs') :
  ∀ {fs:List Field} {off:Nat} {p:List CK},qqO P f fs off = some p->(∀ x ∈ fs,∃ fuel y,DataW.trod enc P w base spare held fuel x.type ((cs.drop x.offset).take (P.cellsOf x.type)) = some y)->off + p.length = cs.length->qv p (cs.drop off)
 | [],off,p,h,_,hl=>by
  simp only [qqO,jaa] at h; subst h;simp at hl;refine ⟨by simp; omega,fun c k v hk=>by simp at hk⟩
 | x :: fs,off,p,h,ht,hl=>by
  simp only [qqO] at h;split at h
  ·rename_i ho
   have ho:=Nat.eq_of_beq_eq_true ho;split at h
   ·rename_i p1 hp1
    split at h
    ·rename_i hc
     have hc:=Nat.eq_of_beq_eq_true hc;simp only [jai] at h;obtain ⟨p2,hp2,rfl⟩:=h;simp only [jaj] at hl;have h1:=hf x.type p1 hp1 _ (ht x (jae ..));rw [ho,<- hc] at h1;have h2:=qst hf hp2 (fun y hy=>ht y (jad _ hy)) (by omega);exact qkX h1 (by rw [je0]; exact h2)
    ·simp at h
   ·simp at h
  ·simp at h
theorem qoD {p:List CK}:∀ {m:Nat} {cs:List Value},cs.length = m * p.length->(∀ i,i < m->qv p ((cs.drop (i * p.length)).take p.length))->qv (qmI p m) cs
 | 0,cs,hl,_=>by
  simp at hl; subst hl;exact ⟨rfl,fun c k v hk=>by simp [qmI] at hk⟩
 | m + 1,cs,hl,h=>by
  simp only [qmI];refine qkX (by simpa using h 0 (by omega)) (qoD (by rw [jc2,hl,jbt]; omega) fun i hi=>?_);rw [je0,show p.length + i * p.length = (i + 1) * p.length by rw [jbt]; omega];exact h (i + 1) (by omega)
theorem qnR:∀ (n:Nat) {t:TypeId} {pat:List CK},qjq P n t = some pat->∀ cs,(∃ fuel x,DataW.trod enc P w base spare held fuel t cs = some x)->qv pat cs
 | 0,t,pat,h,_,_=>by simp [qjq] at h
 | n + 1,t,pat,h,cs,⟨fuel,x,hx⟩=>by
  simp only [qjq] at h;split at h
  ·rename_i k hu
   simp only [jaa] at h; subst h;obtain ⟨z,rfl,_,_⟩:=DataW.trod_int hu hx;refine ⟨rfl,fun c k' v hk hv=>?_⟩;cases c with
   | zero=>simp at hk hv; subst hk; subst hv; simp [CK.fits]
   | succ c=>simp at hk
  ·rename_i hu
   simp only [jaa] at h; subst h;cases fuel with
   | zero=>simp [DataW.trod] at hx
   | succ m =>
    unfold DataW.trod at hx;rw [hu] at hx;split at hx <;> simp_all;refine ⟨rfl,fun c k' v hk hv=>?_⟩;cases c with
    | zero=>simp at hk hv; subst hk; subst hv; simp [CK.fits]
    | succ c=>simp at hk
  ·rename_i hu
   simp only [jaa] at h; subst h;cases fuel with
   | zero=>simp [DataW.trod] at hx
   | succ m =>
    unfold DataW.trod at hx;rw [hu] at hx;split at hx <;> simp_all;exact qfU rfl
  ·rename_i e hu
   simp only [jaa] at h; subst h;rcases DataW.trod_slice hu hx with ⟨rfl,_⟩ | ⟨a,len,cap,elems,rest,m,_,rfl,_⟩
   ·exact qfU rfl
   ·exact qfU rfl
  ·rename_i e hu
   simp only [jaa] at h; subst h;cases fuel with
   | zero=>simp [DataW.trod] at hx
   | succ m =>
    unfold DataW.trod at hx;rw [hu] at hx;split at hx <;> simp_all
    all_goals exact qfU rfl
  ·rename_i fs hu
   split at h
   ·rename_i p hp
    split at h
    ·rename_i hc
     have hc:=Nat.eq_of_beq_eq_true hc;simp only [jaa] at h; subst h;obtain ⟨xs,m,_,_,hl,hxl,hall⟩:=DataW.trod_struct hu hx;have:=qst (cs:=cs) (f:=qjq P n) (fun t p hp cs' hh=>qnR n hp cs' hh) hp (fun y hy=>by
      obtain ⟨i,hi⟩:=jbi hy;have hi':fs[i]? = some y:=by simpa using hi
      have h1:=hall i y hi';have hlt:i < xs.length:=by
       rw [hxl]; exact (jcm.1 hi').1
      exact ⟨m,xs[i],by rw [h1]; simp [hlt]⟩) (by omega)
     simpa using this
    ·simp at h
   ·simp at h
  ·rename_i m e hu
   split at h
   ·rename_i p hp
    split at h
    ·rename_i hc
     simp only [jag] at hc;have hc1:=Nat.eq_of_beq_eq_true hc.1;have hc2:=Nat.eq_of_beq_eq_true hc.2;simp only [jaa] at h; subst h;obtain ⟨xs,k,_,_,hl,hxl,hall⟩:=DataW.trod_array hu hx;refine qoD (by rw [hl,hc2,hc1]) fun i hi=>?_
     have h1:=hall i hi;rw [<- hc1] at h1;exact qnR n hp _ ⟨k,xs[i]'(by omega),by rw [h1]; simp [hxl,hi]⟩
    ·simp at h
   ·simp at h
  ·simp at h
theorem qqW {a:Addr} {n:Nat} {cs:List Value} (h:w.cells? base a n = some cs):cs.length = n/\∀ i,i < n->w.cell? (a.add i) = cs[i]?:=by
 unfold World.cells? at h;split at h
 ·exact ⟨by simpa using mapM_some_length h,fun i hi=>by simpa using mapM_some_get h i i (by simp [hi])⟩
 ·simp at h
theorem qnm {t e:TypeId} {pat:List CK} {n:Nat} {v:Value} {d:DataW H} {ps:List MemPlace} (ht:P.underlying t = some (.slice e)) (hpat:qjq P n e = some pat) (hce:P.cellsOf e = pat.length) (hpos:0 < pat.length)
  {fuel:Nat} (hsp:∀ b,spare b = true) (hf:DataW.trod enc P w base spare held fuel t [v] = some (d,ps)) :
  ∃ rows:List (List Value),Rd (fun b=>w.heap[b]?) pat v rows/\(∀ row ∈ rows,∃ fuel x,DataW.trod enc P w base spare held fuel e row = some x) /\
   ((d = .nil/\rows = [])∨∃ elems sp,d = .slice elems sp/\elems.length = rows.length/\∀ (i:Nat) (row:List Value),rows[i]? = some row->∃ fuel x,DataW.trod enc P w base spare held fuel e row = some x/\elems[i]? = some x.1):=by
 rcases DataW.trod_slice ht hf with ⟨h1,h2⟩ | ⟨a,len,cap,elems,rest,m,_,h1,h2,hb,hlc,hcm,hel,hall,hrest,_⟩
 ·simp at h1 h2
  exact ⟨[],.inl ⟨_,h1,rfl⟩,by simp,.inl ⟨h2.1,rfl⟩⟩
 ·simp at h1 h2
  subst h1;have hrow:∀ i,i < len->∃ cs x,w.cells? base (a.add (i * P.cellsOf e)) (P.cellsOf e) = some cs/\DataW.trod enc P w base spare held m e cs = some x/\elems[i]? = some x:=fun i hi=>by
   have:=hall i hi;rw [jac (by omega)] at this;obtain ⟨cs,g1,g2⟩:=jam.1 this;exact ⟨cs,_,g1,g2,jac _⟩
  let rows:List (List Value):=(List.range len).map fun i=>((w.cells? base (a.add (i * P.cellsOf e)) (P.cellsOf e)).getD [])
  have hget:∀ i row,rows[i]? = some row->i < len/\w.cells? base (a.add (i * P.cellsOf e)) (P.cellsOf e) = some row:=fun i row hr=>by
   simp only [rows,jaq,jai] at hr;obtain ⟨j,hj,rfl⟩:=hr;have hlt:i < len:=by
    have:=(jan.1 hj).1; simpa using this
   rw [jbp hlt] at hj;simp only [jaa] at hj; subst hj;obtain ⟨cs,x,g1,_,_⟩:=hrow i hlt;exact ⟨hlt,by rw [g1]; rfl⟩
  have hrl:rows.length = len:=by simp [rows]
  have htr:∀ row ∈ rows,∃ fuel x,DataW.trod enc P w base spare held fuel e row = some x:=fun row hr=>by
   obtain ⟨i,hi⟩:=jbi hr;obtain ⟨hlt,hc⟩:=hget i row hi;obtain ⟨cs,x,g1,g2,_⟩:=hrow i hlt;rw [hc] at g1;simp only [jaa] at g1; subst g1;exact ⟨m,x,g2⟩
  refine ⟨rows,?_,htr,.inr ⟨_,_,h2.1,by simp [hel,hrl],fun i row hi=>?_⟩⟩
  rotate_left
  ·obtain ⟨hlt,hc⟩:=hget i row hi
   obtain ⟨cs,x,g1,g2,g3⟩:=hrow i hlt;rw [hc] at g1;simp only [jaa] at g1; subst g1;exact ⟨m,x,g2,by simp [g3]⟩
  by_cases hcap:cap = 0
  ·have hl0:len = 0:=by omega
   have:rows = []:=by apply jdi; omega
   exact .inl ⟨some a,by rw [hl0,hcap],this⟩
  have hfirst:∃ cs,w.cells? base (a.add 0) (P.cellsOf e) = some cs:=by
   by_cases hl:0 < len
   ·obtain ⟨cs,_,g1,_,_⟩:=hrow 0 hl
    rw [jff] at g1;exact ⟨cs,g1⟩
   ·obtain ⟨r1,r2⟩:=hrest (hsp _)
    have:=r2 0 (by omega);rw [show (len + 0) * P.cellsOf e = 0 by rw [show len + 0 = 0 by omega]; simp,jac (by omega)] at this;obtain ⟨cs,g1,_⟩:=jam.1 this;exact ⟨cs,g1⟩
  obtain ⟨cs0,hc0⟩:=hfirst;obtain ⟨hl0,hg0⟩:=qqW hc0;have h00:=hg0 0 (by omega);rw [show (a.add 0).add 0 = a from rfl,jac (by omega)] at h00;obtain ⟨ab,ao,asp⟩:=a;have hblk0:=h00;unfold World.cell? at hblk0;split at hblk0
  ·rename_i c ty fr hblk
   simp only at hblk;have hsp0:asp = none:=by
    cases asp with
    | none=>rfl
    | some s=>simp at hblk0
   subst hsp0;refine .inr ⟨ab,ao,cap,c,ty,fr,by rw [hrl],by omega,hblk,fun i row hi=>?_⟩;obtain ⟨hlt,hc⟩:=hget i row hi;refine ⟨qnR n hpat row (htr row (jbl hi)),fun k x hk=>?_⟩;obtain ⟨hl1,hg⟩:=qqW hc;have hkl:k < P.cellsOf e:=by
    rw [<- hl1]; exact (jan.1 hk).1
   have:=hg k hkl;rw [hk,hce] at this;rw [Go.Eng.addr_add,Go.Eng.addr_add,qbl hblk] at this;exact this
  ·simp at hblk0
end
theorem okWide_slice {P:Program} {w:World} {r:Go.Reach} {b:Nat} {t e:TypeId} {v:Value} (ht:P.underlying t = some (.slice e)) (h:Value.okWide P w r b t v) :
  v.cells = #[v]/\∀ a len cap,v = .slice (some a) len cap->a.spot = none/\(w.shape? a.block).isSome = true:=by
 simp only [Value.okWide,ht,Cell.okWide,Cell.ok] at h;cases v <;> simp_all [Value.cells];rename_i a len cap;intro a' ha;subst ha;obtain ⟨_,_,_,h1,row,cells,h2,_⟩:=h;exact ⟨h1,by rw [h2]; rfl⟩
end Go.Eng
namespace Go.Proofs
open Go Go.Eng
section
variable {k n t s l x y e m v z:Int} {h:Hp} {P G G0 G3 R:qe}
end
end Go.Proofs
namespace Go.Eng
open Go Go.Proofs
def qrb:Ctr:={ qlP with pre:=fun Z=>qlP.pre Z/\qam (Z 2).i (Z 3).i (Z 4).i = true/\(Z 6).i <= 8192,alts:=[{ k:=9,ret:=.tup [(true,qbe 2 3 4 6 12 13 4 14),(false,[.vslice 15 (.lit 0) (.var 4) (.var 16) 2]),qa7 (.lit 0)],heap:=[fHp 17,qaC 13 18 14,.arr 15 86 qk7 (.var 19) (.var 16),.abs 20 10],post:=fun Z=>ql (Z 17).d/\qam (Z 2).i (Z 3).i (Z 4).i = true/\(Z 6).i <= 8192/\(Z 19).d.length = (Z 4).i.toNat/\qgi (Z 20).h (Z 19).d (Z 4).i.toNat (qdR (Z 2).i.toNat (Z 4).i.toNat (bI (Z 8).d))/\qf (Z 12).d 32 = sha (bI (Z 8).d)/\qbJ (Z 18).d/\dgs (Z 18).d = qdC (qdR (Z 2).i.toNat (Z 4).i.toNat (bI (Z 8).d)) (Z 4).i.toNat }] }
end Go.Eng
namespace Go.Proofs
open Go Go.Eng
section
variable {k total:Nat} {data:List Int}
end
section
variable {h:Hp} {P:qe} {k n t s l:Int} {data:List Int} {G:qe}
theorem qAx {f:Nat->List Int} {m:Nat} {x:Int} (x0:0 <= x) (x1:x < m):(qdC f m).getD x.toNat [] = sha (qbb x ++ f x.toNat):=by
 unfold qdC;rw [jab,jaq,jbp (by omega)];simp only [ja0,ja2];rw [jay x0]
theorem q80 {x:Int} {m:List Int} (hM:qy k n t s l = true) (hb:qz data) (hsz:s = data.length) (hG:dgs G = qdC (qdR k.toNat t.toNat data) t.toNat) (x0:0 <= x) (x1:x < t) (hm:m = qdR k.toNat t.toNat data x.toNat):qci k n t s l (dgs G) x m = 0:=by
 obtain ⟨k1,k2,k3,k4,s0,s1,htl⟩:=qdj.1 hM;have hl:(m.length:Int) = qcD k s:=by
  rw [hm,(q6p (by omega) (by omega) (by omega) hb _).1,qyB k1 s0,hsz];unfold plI;simp
 have hS:sha (qbb x ++ m) = (dgs G).getD x.toNat []:=by rw [hm,hG,qAx x0 (by omega)]
 rw [qci,jaf (by rw [hM]; decide),jaf (by omega),jaf (fun h=>h hl),jaf (fun h=>h hS)]
end
section
variable {h h':Hp} {D S L:qe} {n i:Nat} {t:Int} {f:Nat->List Int}
end
section
variable {h h0:Hp} {P P0 G R:qe} {k n t s l x e y m:Int} {data O:List Int} {N N':Nat}
end
section
variable {h h':Hp} {S L:qe} {i n j i':Int} {t:Int} {f:Nat->List Int}
end
section
variable {h h0:Hp} {D D0 G:qe} {T:Nat} {t:Int} {f:Nat->List Int} {N N' M:Nat}
end
theorem qAt:qrb.ok Tryz.prog:=by
 refine ⟨q1c.1,fun Z w hF hO hg hd hw hs hro hp=>?_⟩;obtain ⟨hp,hs3,h8⟩:=hp;refine (q1c.2 Z w hF hO hg hd hw hs hro hp).mono fun e w' h=>?_
 obtain ⟨ai,al,Z',h1,h2,hZ,h4,hpost,h6⟩:=h
 match ai,h1 with
 | 0,h1 =>
  obtain rfl:=(jax h1).symm;exfalso;have e2:=hZ 2 (by decide);have e3:=hZ 3 (by decide);have e4:=hZ 4 (by decide);have e6:=hZ 6 (by decide);obtain ⟨_,⟨h1,_⟩ | ⟨_,h1,_⟩⟩:=hpost
  ·change qam (Z' 2).i (Z' 3).i (Z' 4).i = false at h1
   rw [e2,e3,e4,hs3] at h1; cases h1
  ·change 8192 < (Z' 6).i at h1
   rw [e6] at h1; omega
 | 1,h1 =>
  obtain rfl:=(jax h1).symm;exact ⟨0,_,Z',rfl,h2,hZ,h4,hpost,h6⟩
 | ai + 2,h1=>simp [qlP] at h1
end Go.Proofs
namespace Go.Eng
open Go Go.Proofs
def qt (d:qe):List Int:=d.map fun row=>qbp row 0
def qtt:List CK:=List.replicate 16 .bool
def b16 (n:Nat):SV:=.agg ((List.range 16).map fun i=>.c1 .vbool (.var (n + i)))
def qqo (x:Int):Bool:=decide (0 <= x/\x < 16)
def qfW:Ctr:={ fn := 100,nv:=1,args:=[iv .i64 (.var 0)],heap:=[],ro:=[],pre:=fun _=>True,alts:=[{ k:=1,ret:=.one (.vbool (.var 1)),heap:=[],post:=fun Z=>(Z 1).b = qqo (Z 0).i }] }
def qdm (r:Nat):SH:=iHp r (r + 3) (r + 4)
def qbx (Z:Env) (r:Nat):Prop:=(Z (r + 1)).i = (Z (r + 3)).d.length/\(Z (r + 1)).i <= 1000000000000/\∀ row ∈ (Z (r + 3)).d,row.length = 1
def qeW (l:List Bool) (L:List Int):Prop:=l.length = 16/\∀ j:Nat,j < 16->(l.getD j false = true↔(j:Int) ∈ L)
def qkq:Ctr:={ fn := 82,nv:=5,args:=[bS 0],heap:=[],ro:=[qdm 0],pre:=fun Z=>qbx Z 0,alts:=[
 { k:=16,ret:=b16 5,heap:=[],post:=fun Z=>qeW [(Z 5).b,(Z 6).b,(Z 7).b,(Z 8).b,(Z 9).b,(Z 10).b,(Z 11).b,(Z 12).b,(Z 13).b,(Z 14).b,(Z 15).b,(Z 16).b,(Z 17).b,(Z 18).b,(Z 19).b,(Z 20).b] (qt (Z 3).d) }] }
def qdA (s:qe) (l:List Int) (n:Nat):Prop:=(∃ row,s = [row]/\row.length = 16)/\∀ x:Int,0 <= x->x < 16->(qay s x.toNat = true↔x ∈ l.take n)
def qx5:Inv:={ key:=2,nv:=3,env:=[(2,.one (.vptr 1000 (.lit 0) 16 0)),(5,bS 0),(6,iv .i64 (.var 1)),(7,iv .i64 (.var 1002))],heap:=[.arr 1000 157 qtt (.var 1001) (.lit 1)],inv:=(fun Z=>0 <= (Z 1002).i/\(Z 1002).i <= (Z 1).i/\qdA (Z 1001).d (qt (Z 3).d) (Z 1002).i.toNat),mu:=(fun Z=>((Z 1).i - (Z 1002).i).toNat) }
def qW (o:List Int) (p:Int):List Int:=sha (o ++ [p % 256])
def qh6:Ctr:={ fn := 24,nv:=4,ip:=[gIp 2,(1005,9)],args:=[dgV 0,iv .i64 (.var 1)],heap:=[],ro:=[gHp 2 3],pre:=fun Z=>qH (qf (Z 0).d 32)/\gOk Z 2 3 gR,alts:=[
 { k:=1,ret:=dgV 4,heap:=[],post:=fun Z=>qf (Z 4).d 32 = qW (qf (Z 0).d 32) (Z 1).i }] }
def rkV (p d:Nat):SV:=.agg (.vint .i64 (.var p) :: qN .u8 d 32)
def qlJ:Ctr:={ fn := 80,nv:=4,ip:=[gIp 2],args:=[dgV 0,iv .i64 (.var 1)],heap:=[],ro:=[gHp 2 3],pre:=fun Z=>qH (qf (Z 0).d 32)/\gOk Z 2 3 gR,alts:=[
 { k:=2,ret:=.agg (.vint .i64 (.var 1) :: qN .u8 4 32),heap:=[],post:=fun Z=>qf (Z 4).d 32 = qW (qf (Z 0).d 32) (Z 1).i }] }
def qbE:List Int->List Int->Int
 | [],[]=>0
 | [],_ :: _=>-1
 | _ :: _,[]=>1
 | a :: l,b :: m=>if a < b then -1 else if b < a then 1 else qbE l m
def kRk:List CK:=.int .i64 :: List.replicate 32 (.int .u8)
def qr1:Ctr:={ fn := 118,nv:=4,args:=[.one (.vslice 0 (.lit 1) (.lit 32) (.lit 32) 1),.one (.vslice 1 (.lit 1) (.lit 32) (.lit 32) 1)],heap:=[],ro:=[.arr 0 153 kRk (.var 2) (.lit 1),.arr 1 153 kRk (.var 3) (.lit 1)],pre:=fun Z=>qG (Z 2).d 33/\qG (Z 3).d 33/\qH ((qf (Z 2).d 33).drop 1)/\qH ((qf (Z 3).d 33).drop 1),alts:=[
 { k:=1,ret:=iv .i64 (.var 4),heap:=[],post:=fun Z=>(Z 4).i = qbE ((qf (Z 2).d 33).drop 1) ((qf (Z 3).d 33).drop 1) }] }
def qiU:Ctr:={ fn := 81,nv:=4,args:=[rkV 0 1,rkV 2 3],heap:=[],ro:=[],pre:=fun Z=>qH (qf (Z 1).d 32)/\qH (qf (Z 3).d 32),alts:=[
 { k:=1,ret:=iv .i64 (.var 4),heap:=[],post:=fun Z=>(Z 4).i = if qbE (qf (Z 1).d 32) (qf (Z 3).d 32) = 0 then qc .sub .i64 (Z 0).i (Z 2).i else qbE (qf (Z 1).d 32) (qf (Z 3).d 32) }] }
def qZ (o:List Int) (a b:Int):Bool:=if qW o a = qW o b then decide (a < b) else decide (qbE (qW o a) (qW o b) < 0)
def qeJ:Ctr:={ fn := 26,nv:=5,ip:=[gIp 3],args:=[dgV 0,iv .i64 (.var 1),iv .i64 (.var 2)],heap:=[],ro:=[gHp 3 4],pre:=fun Z=>qH (qf (Z 0).d 32)/\gOk Z 3 4 gR,alts:=[
 { k:=1,ret:=.one (.vbool (.var 5)),heap:=[],post:=fun Z=>(Z 5).b = qZ (qf (Z 0).d 32) (Z 1).i (Z 2).i }] }
def qdy (o:List Int) (a b:Int):Int:=if qW o a = qW o b then a - b else qbE (qW o a) (qW o b)
def qos (o:List Int) (s out:List Int):Prop:=out.Perm s/\out.Pairwise fun a b=>qZ o a b = true
def qc4 (l:List Int):List Int:=((List.range 16).map fun (i:Nat)=>(i:Int)).filter fun x=>decide (x ∈ l)
end Go.Eng
namespace Go.Proofs
open Go Go.Eng
theorem qfJ:∀ {a b:List Int},qbE a b = 0↔a = b
 | [],[]=>by simp [qbE]
 | [],_ :: _=>by simp [qbE]
 | _ :: _,[]=>by simp [qbE]
 | x :: a,y :: b=>by
  unfold qbE;by_cases h1:x < y
  ·rw [jah h1]
   constructor
   ·intro h; omega
   ·intro h; injection h; omega
  ·rw [jaf h1]
   by_cases h2:y < x
   ·rw [jah h2]
    constructor
    ·intro h; omega
    ·intro h; injection h; omega
   ·rw [jaf h2,qfJ]
    have:x = y:=by omega
    subst this;simp
theorem qy5:∀ {a b:List Int},qbE b a = - qbE a b
 | [],[]=>rfl
 | [],_ :: _=>rfl
 | _ :: _,[]=>rfl
 | x :: a,y :: b=>by
  unfold qbE;by_cases h1:x < y
  ·rw [jah h1,jaf (by omega),jah h1]; rfl
  ·by_cases h2:y < x
   ·rw [jah h2,jaf h1,jah h2]
   ·rw [jaf h2,jaf h1,jaf h1,jaf h2]; exact qy5
theorem qrx:∀ {a b c:List Int},qbE a b < 0->qbE b c < 0->qbE a c < 0
 | [],[],_,h,_=>by simp [qbE] at h
 | [],_ :: _,[],_,h=>by simp [qbE] at h
 | [],_ :: _,_ :: _,_,_=>by simp [qbE]
 | _ :: _,[],_,h,_=>by simp [qbE] at h
 | _ :: _,_ :: _,[],_,h=>by simp [qbE] at h
 | x :: a,y :: b,z :: c,h1,h2=>by
  unfold qbE at h1 h2 ⊢;by_cases a1:x < y
  ·by_cases b1:y < z
   ·rw [jah (by omega)]; decide
   ·rw [jaf b1] at h2
    by_cases b2:z < y
    ·rw [jah b2] at h2; omega
    ·rw [jah (by omega)]; decide
  ·rw [jaf a1] at h1
   by_cases a2:y < x
   ·rw [jah a2] at h1; omega
   ·rw [jaf a2] at h1
    have e:x = y:=by omega
    subst e;by_cases b1:x < z
    ·rw [jah b1]; decide
    ·rw [jaf b1] at h2 ⊢
     by_cases b2:z < x
     ·rw [jah b2] at h2; omega
     ·rw [jaf b2] at h2 ⊢
      exact qrx h1 h2
variable {o:List Int} {a b c:Int}
theorem qfN:qZ o a b = decide (qdy o a b < 0):=by
 unfold qZ qdy;by_cases h:qW o a = qW o b
 ·rw [jah h,jah h]
  exact jfz.2 ⟨fun h=>by omega,fun h=>by omega⟩
 ·rw [jaf h,jaf h]
theorem qfG:qdy o a b = 0↔a = b:=by
 unfold qdy;by_cases h:qW o a = qW o b
 ·rw [jah h]; omega
 ·rw [jaf h,qfJ]
  exact ⟨fun h'=>(h h').elim,fun h'=>by rw [h']⟩
theorem qlM:qdy o b a = - qdy o a b:=by
 unfold qdy;by_cases h:qW o a = qW o b
 ·rw [jah h,jah h.symm]; omega
 ·rw [jaf h,jaf (fun h'=>h h'.symm),qy5]
theorem qlU (h1:qdy o a b < 0) (h2:qdy o b c < 0):qdy o a c < 0:=by
 unfold qdy at h1 h2 ⊢;by_cases e1:qW o a = qW o b
 ·rw [jah e1] at h1
  by_cases e2:qW o b = qW o c
  ·rw [jah e2] at h2
   rw [jah (e1.trans e2)]; omega
  ·rw [jaf e2] at h2
   rw [jaf (by rw [e1]; exact e2),e1]; exact h2
 ·rw [jaf e1] at h1
  by_cases e2:qW o b = qW o c
  ·rw [jaf (by rw [<- e2]; exact e1),<- e2]; exact h1
  ·rw [jaf e2] at h2
   have h3:=qrx h1 h2;by_cases e3:qW o a = qW o c
   ·rw [e3,qfJ.2 rfl] at h3; omega
   ·rw [jaf e3]; exact h3
theorem q6F (h1:qZ o a b = true) (h2:qZ o b c = true):qZ o a c = true:=by
 rw [qfN,ja8] at h1 h2 ⊢;exact qlU h1 h2
theorem q4x:qZ o a a = false:=by
 rw [qfN,qfG.2 rfl]; rfl
theorem q6v (h:qZ o a b = true):qZ o b a = false:=by
 rw [qfN,ja8] at h;rw [qfN,decide_eq_false_iff_not,qlM]; omega
theorem qtV (h:a ≠ b):qZ o a b = true∨qZ o b a = true:=by
 rw [qfN,qfN,ja8,ja8,qlM (a:=a) (b:=b)];have:¬ qdy o a b = 0:=fun h'=>h (qfG.1 h')
 omega
theorem quE:∀ {l m:List Int},l.Perm m->(l.Pairwise fun a b=>qZ o a b = true)->(m.Pairwise fun a b=>qZ o a b = true)->l = m
 | [],m,h,_,_=>(List.Perm.nil_eq h)
 | x :: l,[],h,_,_=>by simp at h
 | x :: l,y :: m,h,h1,h2=>by
  rw [List.pairwise_cons] at h1 h2;have hxy:x = y:=by
   rcases ja9.1 (h.subset (jae ..)) with e | e
   ·exact e
   ·rcases ja9.1 (h.symm.subset (jae ..)) with e' | e'
    ·exact e'.symm
    ·have a1:=h2.1 x e
     have a2:=h1.1 y e';rw [q6v a1] at a2; cases a2
  subst hxy;rw [quE (List.Perm.cons_inv h) h1.2 h2.2]
theorem q0q {s l m:List Int} (h1:qos o s l) (h2:qos o s m):l = m:=quE (h1.1.trans h2.1.symm) h1.2 h2.2
end Go.Proofs
namespace Go.Eng
open Go Go.Proofs
def qwj:Ctr:={ fn := 34,nv:=6,args:=[bS 0,iv .i64 (.var 5)],heap:=[],ro:=[qdm 0],pre:=fun Z=>qbx Z 0,alts:=[{ k:=1,ret:=.one (.vbool (.var 6)),heap:=[],post:=fun Z=>(Z 6).b = decide ((Z 5).i ∈ qt (Z 3).d) }] }
def qD8:Inv:={ key:=2,nv:=1,env:=[(0,bS 0),(1,iv .i64 (.var 5)),(5,iv .i64 (.var 1000))],heap:=[],inv:=(fun Z=>0 <= (Z 1000).i/\(Z 1000).i <= (Z 1).i/\(Z 5).i ∉ (qt (Z 3).d).take (Z 1000).i.toNat),mu:=(fun Z=>((Z 1).i - (Z 1000).i).toNat) }
def qkP:Ctr:={ fn := 28,nv:=10,args:=[bS 0,bS 5],heap:=[],ro:=[qdm 0,qdm 5],pre:=fun Z=>qbx Z 0/\qbx Z 5,alts:=[{ k:=1,ret:=.one (.vbool (.var 10)),heap:=[],post:=fun Z=>(Z 10).b = decide (qt (Z 3).d = qt (Z 8).d) }] }
def q6R:Inv:={ key:=4,nv:=1,env:=[(0,bS 0),(1,bS 5),(5,iv .i64 (.var 1000))],heap:=[],inv:=(fun Z=>0 <= (Z 1000).i/\(Z 1000).i <= (Z 1).i/\(qt (Z 3).d).take (Z 1000).i.toNat = (qt (Z 8).d).take (Z 1000).i.toNat),mu:=(fun Z=>((Z 1).i - (Z 1000).i).toNat) }
def qR (L:List Int) (n:Nat):List Int:=((List.range n).map fun (i:Nat)=>(i:Int)).filter fun x=>decide (x ∈ L)
def qnP:Ctr:={ fn := 121,nv:=6,args:=[bS 0,iv .i64 (.var 5)],heap:=[],ro:=[qdm 0],pre:=fun Z=>qbx Z 0,alts:=[{ k:=1,ret:=iv .i64 (.var 6),heap:=[],post:=fun Z=>0 <= (Z 6).i↔(Z 5).i ∈ qt (Z 3).d }] }
def q7a:Inv:={ key:=2,nv:=1,env:=[(0,bS 0),(1,iv .i64 (.var 5)),(6,bS 0),(7,iv .i64 (.var 1)),(8,iv .i64 (.var 1000))],heap:=[],inv:=(fun Z=>0 <= (Z 1000).i/\(Z 1000).i <= (Z 1).i/\(Z 5).i ∉ (qt (Z 3).d).take (Z 1000).i.toNat),mu:=(fun Z=>((Z 1).i - (Z 1000).i).toNat) }
def qev:Ctr:={ fn := 84,nv:=6,args:=[bS 0,iv .i64 (.var 5)],heap:=[],ro:=[qdm 0],pre:=fun Z=>qbx Z 0,alts:=[{ k:=1,ret:=.one (.vbool (.var 6)),heap:=[],post:=fun Z=>(Z 6).b = decide ((Z 5).i ∈ qt (Z 3).d) }] }
def qng (o:List Int) (self n:Int) (L:List Int):Bool:=decide (1 <= n) && decide (n <= (((qc4 L).filter fun i=>qZ o i self).length:Int))
def qDQ (Z:Env) (g:Nat):Prop:=qH (qf (Z 0).d 32)/\qbx Z 3/\gOk Z 8 9 g
def q9o:Ctr:={ fn := 37,nv:=10,ip:=[gIp 8],args:=[dgV 0,iv .i64 (.var 1),iv .i64 (.var 2),bS 3],heap:=[],ro:=[qdm 3,gHp 8 9],pre:=fun Z=>qDQ Z gR,alts:=[{ k:=1,ret:=.one (.vbool (.var 10)),heap:=[],post:=fun Z=>(Z 10).b = qng (qf (Z 0).d 32) (Z 1).i (Z 2).i (qt (Z 6).d) }] }
def qD3:Inv:={ key:=3,nv:=3,env:=[(1,iv .i64 (.var 1)),(2,iv .i64 (.var 2)),(4,.one (.vptr 1000 (.lit 0) 32 0)),(9,iv .i64 (.var 1002)),(13,b16 11),(14,iv .i64 (.var 1001))],heap:=[.cells 1000 24 (qN .u8 0 32)],inv:=(fun Z=>0 <= (Z 1001).i/\(Z 1001).i <= 16/\(Z 1002).i = (((qR (qt (Z 6).d) (Z 1001).i.toNat).filter fun i=>qZ (qf (Z 0).d 32) i (Z 1).i).length:Int)),mu:=(fun Z=>(16 - (Z 1001).i).toNat) }
def qI (o:List Int) (p:Int):List Value:=.int .i64 p :: (qW o p).map (Value.int .u8)
def qa2 (o l:List Int):List Int:=l.mergeSort fun a b=>!qZ o b a
def qb1 (o live:List Int) (n:Int):List Int:=(qa2 o (qc4 live)).take n.toNat
def qcg (d:qe) (n:Int) (l:List Int):Prop:=n = d.length/\qt d = l/\∀ row ∈ d,row.length = 1
def qxF (r d c:Nat):SH:=.arr r 153 kRk (.var d) (.var c)
def rkS (r l c:Nat):SV:=.one (.vslice r (.lit 0) (.var l) (.var c) 33)
def qga:Ctr:={ fn := 83,nv:=4,args:=[rkS 0 1 2,.fn (.func 81) [] []],heap:=[qxF 0 3 2],ro:=[],pre:=fun Z=>(Z 1).i = (Z 3).d.length/\(Z 1).i <= 1000000/\∃ o L:List Int,qH o/\(Z 3).d = L.map (qI o)/\∀ x ∈ L,0 <= x/\x < 16,alts:=[
 { k:=1,ret:=.tup [],heap:=[qxF 0 4 2],post:=fun Z=>∀ o L:List Int,qH o->(Z 3).d = L.map (qI o)->(∀ x ∈ L,0 <= x/\x < 16)->(Z 4).d = (qa2 o L).map (qI o) }] }
def q2F (r:Nat):SH:=.cells r 24 (qN .u8 0 32)
def q29 (r:Nat):SV:=.one (.vptr r (.lit 0) 32 0)
def qv5 (Z:Env) (g:Nat):Prop:=qH (qf (Z 0).d 32)/\qbx Z 1/\gOk Z 7 8 g
def qdM:Ctr:={ fn := 32,nv:=9,ip:=[gIp 7],args:=[dgV 0,bS 1,iv .i64 (.var 6)],heap:=[],ro:=[qdm 1,gHp 7 8],pre:=fun Z=>qv5 Z gR,alts:=[
 { k:=4,ret:=.one (.vslice 9 (.lit 0) (.var 10) (.var 11) 1),heap:=[iHp 9 12 11],post:=fun Z=>qcg (Z 12).d (Z 10).i (qb1 (qf (Z 0).d 32) (qt (Z 4).d) (Z 6).i) }] }
def q0Y:Inv:={ key:=3,nv:=6,env:=[(2,iv .i64 (.var 6)),(3,q29 1000),(7,rkS 1002 1003 1004),(14,b16 10),(15,iv .i64 (.var 1001))],heap:=[q2F 1000,qxF 1002 1005 1004],inv:=(fun Z=>0 <= (Z 1001).i/\(Z 1001).i <= 16/\(Z 1003).i = (Z 1005).d.length/\(Z 1005).d = (qR (qt (Z 4).d) (Z 1001).i.toNat).map (qI (qf (Z 0).d 32))),mu:=(fun Z=>(16 - (Z 1001).i).toNat) }
def q1z:Inv:={ key:=11,nv:=9,env:=[(36,rkS 1000 1001 1002),(37,iv .i64 (.var 1001)),(38,iv .i64 (.var 1003)),(10,.one (.vslice 1004 (.lit 0) (.var 1005) (.var 1006) 1))],heap:=[qxF 1000 1007 1002,iHp 1004 1008 1006],inv:=(fun Z=>0 <= (Z 1003).i/\(Z 1003).i <= (Z 1001).i/\(Z 1001).i <= (Z 1007).d.length/\(Z 1007).d = (qa2 (qf (Z 0).d 32) (qc4 (qt (Z 4).d))).map (qI (qf (Z 0).d 32))/\(Z 1001).i = min (max (Z 6).i 0) ((qa2 (qf (Z 0).d 32) (qc4 (qt (Z 4).d))).length:Int)/\qcg (Z 1008).d (Z 1005).i ((qa2 (qf (Z 0).d 32) (qc4 (qt (Z 4).d))).take (Z 1003).i.toNat)),mu:=(fun Z=>((Z 1001).i - (Z 1003).i).toNat) }
def qgS (n:Int):List Int:=(List.range (min (max n 0) 16).toNat).map fun (i:Nat)=>(i:Int)
def qlT (o:List Int) (n:Int):List Int:=qb1 o (qgS n) 16
def qg8:Ctr:={ fn := 29,nv:=4,ip:=[gIp 2],args:=[dgV 0,iv .i64 (.var 1)],heap:=[],ro:=[gHp 2 3],pre:=fun Z=>qH (qf (Z 0).d 32)/\gOk Z 2 3 gR,alts:=[
 { k:=4,ret:=.one (.vslice 4 (.lit 0) (.var 5) (.var 6) 1),heap:=[iHp 4 7 6],post:=fun Z=>qcg (Z 7).d (Z 5).i (qlT (qf (Z 0).d 32) (Z 1).i) }] }
def qzs:Inv:={ key:=3,nv:=7,env:=[(2,q29 1000),(5,.one (.vslice 1001 (.lit 0) (.var 1002) (.var 1003) 1)),(10,iv .i64 (.var 1006)),(11,iv .i64 (.var 1005))],heap:=[q2F 1000,iHp 1001 1004 1003],inv:=(fun Z=>0 <= (Z 1005).i/\(Z 1005).i <= (Z 1006).i/\(Z 1006).i = min (max (Z 1).i 0) 16/\qcg (Z 1004).d (Z 1002).i (qgS (Z 1005).i)),mu:=(fun Z=>((Z 1006).i - (Z 1005).i).toNat) }
def qh2 (o:List Int) (self:Int) (L:List Int) (n:Int) (held buried:Bool):Int :=
 if buried then (if held then 3 else 0) else if n < 1 then 0 else if self ∈ qb1 o L n then (if held then 0 else 1) else if held = true/\((qb1 o L n).length:Int) = n then 2 else 0
def qAO (Z:Env) (g:Nat):Prop:=qH (qf (Z 0).d 32)/\qbx Z 2/\gOk Z 10 11 g
def qoh:Ctr:={ fn := 35,nv:=12,ip:=[gIp 10],args:=[dgV 0,iv .i64 (.var 1),bS 2,iv .i64 (.var 7),.one (.vbool (.var 8)),.one (.vbool (.var 9))],heap:=[],ro:=[qdm 2,gHp 10 11],pre:=fun Z=>qAO Z gR,alts:=[
 { k:=1,ret:=iv .u8 (.var 12),heap:=[],post:=fun Z=>(Z 12).i = qh2 (qf (Z 0).d 32) (Z 1).i (qt (Z 5).d) (Z 7).i (Z 8).b (Z 9).b }] }
def mtI:MT:=⟨false,[.i64],false,[.int .u64],[.vint .u64 (.lit 0)]⟩
def mtO:MT:=⟨true,List.replicate 32 .u8,false,[.any],[.vnilm]⟩
abbrev Cl:=List Int->Int->Option Int
def qdS (l:List ME) (i:Int):Option Int:=(l.find? fun x=>x.k == [i]).map fun x=>qX (x.v.headD .nilFunc)
def qad (h:Hp) (v:Value) (cl:Cl):Prop:=∃ b l c,v = .map (some b)/\qaX h b mtO l c /\
 (∀ x ∈ l,∃ b' m c',x.v = [.map (some b')]/\b' ≠ b/\qaX h b' mtI m c'/\∀ i,cl x.k i = qdS m i) /\
 (∀ x ∈ l,∀ y ∈ l,x.k ≠ y.k->x.v ≠ y.v)/\(∀ o i,(∀ x ∈ l,x.k ≠ o)->cl o i = none)/\∀ o i t,cl o i = some t->0 <= i/\i < 16/\0 <= t/\t < 18446744073709551616
def qeA (cl:Cl) (o:List Int) (i t:Int):Cl:=if 0 <= i/\i < 16 then fun o' i'=>if o' = o/\i' = i then some t else cl o' i' else cl
def qmo (t clock:Int):Bool:=decide (t <= clock) && decide (clock - t < 12)
def qej (cl:Cl) (o:List Int) (self clock:Int) (L H:List Int):Bool:=(List.range 16).any fun (i:Nat)=>match cl o i with
 | some t=>qmo t clock && decide ((i:Int) ∈ L) && !decide ((i:Int) ∈ H) && qZ o i self
 | none=>false
def qsB (r v:Nat):SH:=.cells r 179 [.var v]
def clP (r:Nat):SV:=.one (.vptr r (.lit 0) 1 0)
def qDA (r v:Nat):SH:=.cells r 24 (qN .u8 v 32)
def qk1:Ctr:={ fn := 61,nv:=0,args:=[],heap:=[],ro:=[],pre:=fun _=>True,alts:=[
 { k:=3,ret:=clP 0,heap:=[qsB 0 1,.abs 2 1003],post:=fun Z=>qad (Z 2).h (Z 1).v fun _ _=>none }] }
def qvC:Ctr:={ fn := 101,nv:=2,args:=[iv .u64 (.var 0),iv .u64 (.var 1)],heap:=[],ro:=[],pre:=fun Z=>0 <= (Z 0).i/\(Z 0).i < 18446744073709551616/\0 <= (Z 1).i/\(Z 1).i < 18446744073709551616,alts:=[
 { k:=1,ret:=.one (.vbool (.var 2)),heap:=[],post:=fun Z=>(Z 2).b = qmo (Z 0).i (Z 1).i }] }
def qo1:Ctr:={ fn := 62,nv:=6,args:=[clP 0,dgV 1,iv .i64 (.var 2),iv .u64 (.var 3)],heap:=[qsB 0 4,.abs 5 1003],ro:=[],pre:=fun Z=>(∃ cl,qad (Z 5).h (Z 4).v cl)/\0 <= (Z 3).i/\(Z 3).i < 18446744073709551616,alts:=[
 { k:=1,ret:=.tup [],heap:=[qsB 0 4,.abs 6 1003],post:=fun Z=>∀ cl,qad (Z 5).h (Z 4).v cl->qad (Z 6).h (Z 4).v (qeA cl (qf (Z 1).d 32) (Z 2).i (Z 3).i) }] }
def qDw (h:Hp) (it:Value) (m:List ME) (seen:List Nat):Prop:=∃ b' mo since st,it = .pointer (some ⟨b',0,none⟩)/\h b' = some (.mapIter mo since seen.toArray st) /\
 ((mo = none/\m = [])∨∃ b c,mo = some b/\b' ≠ b/\qaX h b mtI m c/\c <= since/\(seen = []∨m = []∨∃ e ∈ m,e.born < st)/\∀ n ∈ seen,∃ e ∈ m,e.born = n)
def qiT (h:Hp) (it:Value):Nat :=
 match it with
 | .pointer (some a) =>
  match h a.block with
  | some (.mapIter (some b) _ seen _) =>
   match h b with
   | some (.map es _)=>(es.toList.filter fun e=>!(seen.contains e.born)).length
   | _=>0
  | _=>0
 | _=>0
def qBw (Z:Env):Prop:=(∃ cl,qad (Z 5).h (Z 4).v cl)/\qH (qf (Z 1).d 32)/\qbx Z 6/\qbx Z 11/\gOk Z 16 17 gR/\0 <= (Z 3).i/\(Z 3).i < 18446744073709551616
def qhd:Ctr:={ fn := 68,nv:=18,ip:=[gIp 16,(5030, 181)],args:=[clP 0,dgV 1,iv .i64 (.var 2),iv .u64 (.var 3),bS 6,bS 11],heap:=[qsB 0 4,.abs 5 1003],ro:=[qdm 6,qdm 11,gHp 16 17],pre:=qBw,alts:=[
 { k:=2,ret:=.one (.vbool (.var 18)),heap:=[qsB 0 4,.abs 19 1003],post:=fun Z=>∀ cl,qad (Z 5).h (Z 4).v cl->qad (Z 19).h (Z 4).v cl/\(Z 18).b = qej cl (qf (Z 1).d 32) (Z 2).i (Z 3).i (qt (Z 9).d) (qt (Z 14).d) }] }
def qkf (o:List Int) (self clock:Int) (L H:List Int) (x:ME):Bool:=qmo (qX (x.v.headD .nilFunc)) clock && decide (x.k.headD 0 ∈ L) && !decide (x.k.headD 0 ∈ H) && qZ o (x.k.headD 0) self
def qs2 (h0 h:Hp) (v it:Value) (o:List Int) (self clock:Int) (L H:List Int) (x:Bool):Prop:=∀ cl,qad h0 v cl->qad h v cl/\∃ m seen,qDw h it m seen/\(∀ i,cl o i = qdS m i)/\x = (m.filter fun e=>seen.contains e.born).any (qkf o self clock L H)
def qxl:Inv:={ key:=6,nv:=8,env:=[(2,iv .i64 (.var 2)),(3,iv .u64 (.var 3)),(7,q29 1000),(13,.one (.vptr 1001 (.lit 0) 16 0)),(14,.one (.vptr 1003 (.lit 0) 16 0)),(15,.one (.vbool (.var 1005))),(30,.one (.var 1006))],heap:=[qDA 1000 1,.arr 1001 157 qtt (.var 1002) (.lit 1),.arr 1003 157 qtt (.var 1004) (.lit 1),qsB 0 4,.abs 1007 1003],inv:=(fun Z=>qdA (Z 1002).d (qt (Z 14).d) (Z 14).d.length/\qdA (Z 1004).d (qt (Z 9).d) (Z 9).d.length/\qs2 (Z 5).h (Z 1007).h (Z 4).v (Z 1006).v (qf (Z 1).d 32) (Z 2).i (Z 3).i (qt (Z 9).d) (qt (Z 14).d) (Z 1005).b),mu:=(fun Z=>qiT (Z 1007).h (Z 1006).v) }
structure ManV where
 k:Int
 n:Int
 t:Int
 s:Int
 o:List Int
 D:List (List Int)
def ManV.ok (m:ManV):Bool:=qy m.k m.n m.t m.s m.D.length
def ManV.bytes (m:ManV):List Int:=qan m.k m.n m.t m.s m.o ++ m.D.flatten
abbrev PcL:=List (Int × List Int)
def qEr (m d c:Nat):SH:=.arr m 27 qsG (.var d) (.var c)
def qDH (g o m p l q:Nat):SH:=.cells g 165 (qN .u8 o 32 ++ [.vptr m (.lit 0) 37 0,.vslice p (.lit 0) (.var l) (.var q) 2])
def gaP (g:Nat):SV:=.one (.vptr g (.lit 0) 34 0)
def qip (b tag:Nat):List SH:=[qDH b (b + 1) (b + 2) (b + 5) (b + 6) (b + 7),qEr (b + 2) (b + 3) (b + 4),qc0 (b + 5) (b + 8) (b + 7),.abs (b + 9) tag]
def qgl (h:Hp) (d:qe) (m:ManV):Prop:=∃ row D,d = [row]/\qv qsG row/\Rd h k32 (row[36]?.getD .nilFunc) D/\qbJ D/\dgs D = m.D/\qbp row 0 = m.k/\qbp row 1 = m.n/\qbp row 2 = m.t/\qbp row 3 = m.s/\((List.range 32).map fun j=>qbp row (4 + j)) = m.o/\qH m.o/\m.ok = true
def qcX (h:Hp) (P:qe) (L:PcL):Prop:=P.length = L.length/\qgE h P P.length/\∀ j,j < P.length->(pcI P j,pcD h P j) = L.getD j (0,[])
def qbt (h:Hp) (r:Option Addr) (d:qe) (c n:Int) (P:qe) (M:Option ManV) (L:PcL):Prop:=n = P.length/\qcX h P L/\(∀ x ∈ L,(x.2.length:Int) <= 9000)/\L.length <= 255/\((M = none/\r = none/\c = 0/\d = []/\L = [])∨∃ m,M = some m/\c = 1/\qgl h d m/\L ≠ [])
def qa3 (M:Option ManV) (L:PcL):Bool:=match M with
 | some m=>decide (m.k <= L.length)
 | none=>false
def gaB (Z:Env) (b:Nat) (M:Option ManV) (L:PcL):Prop:=qbt (Z (b + 9)).h (Z (b + 2)).r (Z (b + 3)).d (Z (b + 4)).i (Z (b + 6)).i (Z (b + 8)).d M L
def qg1:Ctr:={ fn := 45,nv:=1,args:=[dgV 0],heap:=[],ro:=[],pre:=fun _=>True,alts:=[
 { k:=1,ret:=gaP 1,heap:=[.cells 1 165 (qN .u8 0 32 ++ [.vnilp,.vnils])],post:=fun _=>True }] }
def qda:Ctr:={ fn := 47,nv:=10,args:=[gaP 0],heap:=[],ro:=qip 0 20,pre:=fun Z=>∃ M L,gaB Z 0 M L,alts:=[
 { k:=1,ret:=.one (.vbool (.var 10)),heap:=[],post:=fun Z=>∀ M L,gaB Z 0 M L->(Z 10).b = qa3 M L }] }
def qju:Ctr:={ fn := 89,nv:=10,args:=[gaP 0],heap:=[],ro:=qip 0 20,pre:=fun Z=>∃ M L,gaB Z 0 M L,alts:=[
 { k:=1,ret:=iv .i64 (.var 10),heap:=[],post:=fun Z=>∀ M L,gaB Z 0 M L->(Z 10).i = if qa3 M L then 0 else 12 }] }
def qge:Ctr:={ fn := 55,nv:=10,args:=[gaP 0],heap:=[],ro:=qip 0 20,pre:=fun Z=>∃ M L,gaB Z 0 M L,alts:=[
 { k:=4,ret:=.one (.vslice 10 (.lit 0) (.var 11) (.var 12) 1),heap:=[iHp 10 13 12],post:=fun Z=>∀ M L,gaB Z 0 M L->qcg (Z 13).d (Z 11).i (L.map Prod.fst) }] }
def qBf:Inv:={ key:=5,nv:=5,env:=[(3,.one (.vslice 1000 (.lit 0) (.var 1001) (.var 1002) 1)),(12,pcS 5 6 7),(13,iv .i64 (.var 6)),(14,iv .i64 (.var 1004))],heap:=[iHp 1000 1003 1002],inv:=(fun Z=>0 <= (Z 1004).i/\(Z 1004).i <= (Z 6).i/\qcg (Z 1003).d (Z 1001).i (qav (Z 8).d (Z 1004).i.toNat)),mu:=(fun Z=>((Z 6).i - (Z 1004).i).toNat) }
def qeI:Ctr:={ fn := 90,nv:=5,args:=[.one (.vslice 0 (.lit 0) (.var 1) (.var 2) 32)],heap:=[],ro:=[qaC 0 3 4],pre:=fun Z=>0 <= (Z 1).i/\(Z 1).i = (Z 3).d.length/\(Z 1).i <= 4398046510976,alts:=[
 { k:=3,ret:=.one (.vslice 5 (.lit 0) (.var 1) (.var 6) 32),heap:=[qaC 5 7 6],post:=fun Z=>(Z 7).d = (Z 3).d }] }
def qfw (o:List Int) (M:Option ManV) (L:PcL) (m:ManV) (i:Int) (b:List Int):Int :=
 if m.ok = false then 2 else if sha m.bytes ≠ o then 20 else if qci m.k m.n m.t m.s m.D.length m.D i b ≠ 0 then qci m.k m.n m.t m.s m.D.length m.D i b else if i ∈ L.map Prod.fst then 7 else if qa3 M L then 8 else 0
def qf4 (Z:Env) (r:Nat):ManV:=⟨(Z r).i,(Z (r + 1)).i,(Z (r + 2)).i,(Z (r + 3)).i,qf (Z (r + 4)).d 32,dgs (Z (r + 8)).d⟩
def qw5 (Z:Env):Prop:=(∃ M L,gaB Z 0 M L)/\qH (qf (Z 1).d 32)/\qgw Z 10/\qa8 (Z 20).i/\qcI Z 20/\(Z 22).i <= 9000
def qgd:Ctr:={ fn := 48,nv:=28,ip:=[gIp 26,(1002,9)],args:=[gaP 0,qo5 10,qd6 20],heap:=qip 0 20,ro:=[qaC 15 18 19,qkU 20,gHp 26 27],pre:=fun Z=>qw5 Z/\gOk Z 26 27 gR,alts:=[
 { k:=9,ret:=iv .i64 (.var 36),heap:=[qDH 0 1 28 31 32 33,qEr 28 29 30,qc0 31 34 33,.abs 35 20],post:=fun Z=>∀ M L,gaB Z 0 M L->(Z 36).i = qfw (qf (Z 1).d 32) M L (qf4 Z 10) (Z 20).i (bI (Z 24).d)/\qbt (Z 35).h (Z 28).r (Z 29).d (Z 30).i (Z 32).i (Z 34).d (if (Z 36).i = 0 then some (qf4 Z 10) else M) (if (Z 36).i = 0 then L ++ [((Z 20).i,bI (Z 24).d)] else L) }] }
end Go.Eng
namespace Go.Proofs
open Go Go.Eng Go.RowKit Go.Lib
theorem q99 {P:Program} (a b:Addr) (xs ys:List Int) (c c':Nat) (w:World) (hx:∀ j x,xs[j]? = some x->w.cell? (a.add j) = some (.int .u8 x)) (hy:∀ j x,ys[j]? = some x->w.cell? (b.add j) = some (.int .u8 x)) :
  (Extern.BytealgCompare.compare #[.slice (some a) xs.length c,.slice (some b) ys.length c']).run P w = .ok (.int .i64 (compareBytes (Lib.bytesOf xs) (Lib.bytesOf ys))) w:=by
 have h1:=run_loadBytesX (P:=P) w xs a .empty hx;have h2:=run_loadBytesX (P:=P) w ys b .empty hy;change Sem.run P (do pure (goInt (Extern.BytealgCompare.cmp (<- Extern.Bytes.bytesOf (.slice (some a) xs.length c)) (<- Extern.Bytes.bytesOf (.slice (some b) ys.length c'))))) w = _;simp only [Extern.Bytes.bytesOf,Sem.run_bind,h1,h2,Sem.run_pure,Result.andThen];rw [cmp_eq];simp [goInt]
set_option maxHeartbeats 1000000 in
set_option maxRecDepth 100000 in
theorem qrd (a b:Addr) (xs ys:List Int) (c c':Nat) (w:World) (hx:∀ j x,xs[j]? = some x->w.cell? (a.add j) = some (.int .u8 x)) (hy:∀ j x,ys[j]? = some x->w.cell? (b.add j) = some (.int .u8 x)) :
  Calls Tryz.prog 118 #[.slice (some a) xs.length c,.slice (some b) ys.length c'] w fun e w'=>e = .returned (.int .i64 (compareBytes (Lib.bytesOf xs) (Lib.bytesOf ys)))/\w' = w:=by
 go_enter Tryz.func118,Tryz.ntmps118
 go_wp2
 rw [run_callFunc_extern Tryz.func139 (by kernel_rfl) (by kernel_rfl) (by kernel_rfl) (e:=Extern.BytealgCompare.compare) (by kernel_rfl),q99 a b xs ys c c' w hx hy];simp only [Result.andThen];rw [Oper.upon_value]
 go_wp2
 go_ret
 exact ⟨rfl,rfl⟩
end Go.Proofs
namespace Go.Proofs
open Go Go.Eng
theorem qAT {x y:Int} (hx:0 <= x/\x < 256) (hy:0 <= y/\y < 256):x.toNat.toUInt8 < y.toNat.toUInt8↔x < y:=by
 rw [UInt8.lt_iff_toNat_lt];have h1:x.toNat.toUInt8.toNat = x.toNat:=by
  show x.toNat % 256 = x.toNat
  omega
 have h2:y.toNat.toUInt8.toNat = y.toNat:=by
  show y.toNat % 256 = y.toNat
  omega
 rw [h1,h2]; omega
theorem qnS:∀ {xs ys:List Int},qH xs->qH ys->Lib.compareBytes (Lib.bytesOf xs) (Lib.bytesOf ys) = qbE xs ys
 | [],[],_,_=>rfl
 | [],_ :: _,_,_=>rfl
 | _ :: _,[],_,_=>rfl
 | x :: xs,y :: ys,hx,hy=>by
  have h1:=qAT (hx x (jae ..)) (hy y (jae ..));have h2:=qAT (hy y (jae ..)) (hx x (jae ..));have h3:=qnS (xs:=xs) (ys:=ys) (fun z hz=>hx z (jad _ hz)) (fun z hz=>hy z (jad _ hz))
  show (if x.toNat.toUInt8 < y.toNat.toUInt8 then -1 else if y.toNat.toUInt8 < x.toNat.toUInt8 then 1 else Lib.compareBytes (Lib.bytesOf xs) (Lib.bytesOf ys)) = _
  rw [h3,qbE];simp only [h1,h2]
theorem qDl {k:IntKind} {v:Value} (h:CK.fits (.int k) v = true):∃ z,v = .int k z:=by
 cases v <;> simp [CK.fits] at h;subst h;exact ⟨_,rfl⟩
theorem qyC {c:Array Value} {b o:Nat} {ty:TypeId} {fr:Nat × Nat} {d:qe} {w:World} (hb:w.heap[b]? = some (.cells c ty fr)) (hd:qG d 33) (hr:qT c o kRk d) :
  ∀ j x,((qf d 33).drop 1)[j]? = some x->w.cell? ((⟨b,o + 1,none⟩:Addr).add j) = some (.int .u8 x):=fun j x hx=>by
 obtain ⟨row,rfl,hl⟩:=hd;obtain ⟨hf,hc⟩:=hr 0 row rfl;rw [jbc] at hx;have hj:1 + j < 33:=by
  rcases jbu (1 + j) 33 with h | h
  ·exact h
  ·rw [jat (by simp [qf]; omega)] at hx; cases hx
 have hx2:x = qX (row[1 + j]?.getD .nilFunc):=by
  rw [qf,jaq,jbp hj] at hx;have:=(jax hx).symm;rw [this]; rfl
 have hrow:row[1 + j]? = some row[1 + j]:=jac (by omega);have hk:kRk[1 + j]? = some (.int .u8):=by
  have:kRk = .int .i64 :: List.replicate 32 (.int .u8):=rfl;rw [this,jdq,ja6,jbf,jah (by omega)]
 obtain ⟨z,hz⟩:=qDl (hf.2 (1 + j) (.int .u8) row[1 + j] hk hrow);have hv:=hc (1 + j) row[1 + j] hrow;rw [hx2,hrow];simp only [ja2];rw [hz] at hv ⊢;have e:((⟨b,o + 1,none⟩:Addr).add j) = ⟨b,o + 1 + j,none⟩:=by
  unfold Addr.add;by_cases hj0:j = 0
  ·subst hj0; simp
  ·simp [hj0]
 rw [e];simp only [World.cell?,hb]
 show c[o + 1 + j]? = _
 rw [show o + 1 + j = o + 0 * kRk.length + (1 + j) by omega,hv];rfl
theorem qC6:qr1.ok Tryz.prog:=by
 refine ⟨fun args w=>Tryz.call118 args w,fun Z w hF hO hg hd hw hs hro hp=>?_⟩;obtain ⟨h2,h3,b2,b3⟩:=hp;have hr0:=hro _ (jae ..);have hr1:=hro _ (jad _ (jae ..));obtain ⟨row2,e2,l2⟩:=h2;obtain ⟨row3,e3,l3⟩:=h3;rcases hr0 with h | ⟨b,o,c,ty,fr,q1,q2,q3⟩
 ·have h:(Z 2).d = []:=h
  rw [e2] at h; cases h
 rcases hr1 with h | ⟨b',o',c',ty',fr',p1,p2,p3⟩
 ·have h:(Z 3).d = []:=h
  rw [e3] at h; cases h
 have hsub:∀ {x:Nat} {X:Obj},hF.h x = some X->w.heap[x]? = some X:=fun h=>hw.1 _ _ (by simp [Hp.union,h])
 have hx:=qyC (w:=w) (hsub q2) ⟨row2,e2,l2⟩ q3;have hy:=qyC (w:=w) (hsub p2) ⟨row3,e3,l3⟩ p3;have hlen:∀ d:qe,((qf d 33).drop 1).length = 32:=fun d=>by simp [qf]
 have hc:=qrd ⟨b,o + 1,none⟩ ⟨b',o' + 1,none⟩ _ _ 32 32 w hx hy;rw [hlen,hlen] at hc;have hargs:(List.map (SV.den Z) qr1.args).toArray = #[.slice (some ⟨b,o + 1,none⟩) 32 32,.slice (some ⟨b',o' + 1,none⟩) 32 32]:=by
  simp [qr1,SV.den,T.den,O0.den,O3.den,q1,p1,qn]
 rw [hargs];refine hc.mono fun e w' h=>?_
 obtain ⟨rfl,rfl⟩:=h;refine ⟨0,_,Z.set 4 { i:=qbE ((qf (Z 2).d 33).drop 1) ((qf (Z 3).d 33).drop 1) },rfl,fun n=>?_,fun n hn=>Env.set_ne _ _ (by have:n < 4:=hn; omega),?_,?_,hO,hd,trivial,hw.1,hw.2⟩
 ·by_cases hn:n = 4
  ·subst hn; rw [Env.set_same]; exact ⟨rfl,fun row hr=>(by cases hr)⟩
  ·rw [Env.set_ne _ _ hn]; exact hg n
 ·rw [qnS b2 b3]; rfl
 ·rfl
end Go.Proofs
