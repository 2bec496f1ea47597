/- Texts E5, E6, E7, E8, E8b. -/
import Derived.Test.YtelcnkclppkicaaGreatDoorG1
import Derived.Great.BuildSlice
set_option linter.unusedSimpArgs false
set_option linter.unusedVariables false
namespace Go.Eng
open Go
theorem Hp.disj.symm {a b:Hp} (h:Hp.disj a b):Hp.disj b a:=fun x=>(h x).symm
theorem Hp.union_comm {a b:Hp} (h:Hp.disj a b):Hp.union a b = Hp.union b a:=by
 funext x; unfold Hp.union; rcases h x with h | h <;> rw [h] <;> simp
theorem Hp.union_assoc (a b c:Hp):Hp.union (Hp.union a b) c = Hp.union a (Hp.union b c):=by
 funext x; simp [Hp.union,Option.or_assoc]
theorem Hp.disj_union {a b c:Hp}:Hp.disj a (Hp.union b c)↔Hp.disj a b/\Hp.disj a c:=by
 constructor
 ·intro h
  refine ⟨fun x=>?_,fun x=>?_⟩
  ·rcases h x with h | h
   ·exact .inl h
   ·simp only [Hp.union,jcr] at h; exact .inr h.1
  ·rcases h x with h | h
   ·exact .inl h
   ·simp only [Hp.union,jcr] at h; exact .inr h.2
 ·rintro ⟨h1,h2⟩ x
  rcases h1 x with h | h
  ·exact .inl h
  ·rcases h2 x with h' | h'
   ·exact .inl h'
   ·exact .inr (by simp [Hp.union,h,h'])
theorem Hp.disj_union' {a b c:Hp}:Hp.disj (Hp.union b c) a↔Hp.disj b a/\Hp.disj c a:=by
 rw [show Hp.disj (Hp.union b c) a↔Hp.disj a (Hp.union b c) from ⟨Hp.disj.symm,Hp.disj.symm⟩,Hp.disj_union];exact ⟨fun h=>⟨h.1.symm,h.2.symm⟩,fun h=>⟨h.1.symm,h.2.symm⟩⟩
theorem Hp.emp_union (a:Hp):Hp.union Hp.emp a = a:=by funext x; simp [Hp.union,Hp.emp]
theorem Hp.disj_emp (a:Hp):Hp.disj a Hp.emp:=fun _=>.inr rfl
theorem Hp.emp_disj (a:Hp):Hp.disj Hp.emp a:=fun _=>.inl rfl
theorem Hp.le_refl (a:Hp):Hp.le a a:=fun _ _ h=>h
theorem Hp.le_trans {a b c:Hp} (h:Hp.le a b) (h':Hp.le b c):Hp.le a c:=fun x o hx=>h' x o (h x o hx)
theorem Hp.le_left (a b:Hp):Hp.le a (Hp.union a b):=fun x o h=>by simp [Hp.union,h]
theorem Hp.le_right {a b:Hp} (hd:Hp.disj a b):Hp.le b (Hp.union a b):=fun x o h=>by
 rcases hd x with h' | h'
 ·simp [Hp.union,h',h]
 ·rw [h'] at h; cases h
theorem Hp.sub_le {a b:Hp} {w:World} (h:b.sub w) (hl:Hp.le a b):a.sub w:=fun x o hx=>h x o (hl x o hx)
theorem qae {Z:Env}:∀ {l:List SH} {k:Nat} {x:SH} {h:Hp},qac Z l h->l[k]? = some x ->
  ∃ h1 h2,Hp.disj h1 h2/\h = Hp.union h1 h2/\x.den Z h1/\qac Z (l.eraseIdx k) h2
 | [],k,x,h,_,hx=>by simp at hx
 | y :: ys,0,x,h,⟨h1,h2,hd,hu,hy,hs⟩,hx=>by
  simp only [jav,jaa] at hx;subst hx;exact ⟨h1,h2,hd,hu,hy,by simpa using hs⟩
 | y :: ys,k + 1,x,h,⟨h1,h2,hd,hu,hy,hs⟩,hx=>by
  simp only [ja6] at hx;obtain ⟨g1,g2,gd,gu,gx,gs⟩:=qae hs hx;subst hu; subst gu;rw [Hp.disj_union] at hd;refine ⟨g1,Hp.union h1 g2,Hp.disj_union.2 ⟨hd.1.symm,gd⟩,?_,gx,?_⟩
  ·rw [<- Hp.union_assoc,<- Hp.union_assoc,Hp.union_comm hd.1]
  ·simp only [List.eraseIdx_cons_succ]
   exact ⟨h1,g2,hd.2,rfl,hy,gs⟩
theorem qdr {Z:Env}:∀ {l:List SH} {k:Nat} {x x':SH} {g1 g2:Hp},l[k]? = some x->qac Z (l.eraseIdx k) g2->Hp.disj g1 g2->x'.den Z g1 ->
  qac Z (l.set k x') (Hp.union g1 g2)
 | [],k,x,x',g1,g2,hx,_,_,_=>by simp at hx
 | y :: ys,0,x,x',g1,g2,hx,hs,hd,hx'=>by
  simp only [List.set_cons_zero];exact ⟨g1,g2,hd,rfl,hx',by simpa using hs⟩
 | y :: ys,k + 1,x,x',g1,g2,hx,hs,hd,hx'=>by
  simp only [ja6] at hx;simp only [List.eraseIdx_cons_succ] at hs;obtain ⟨h1,h2,hd',hu,hy,hs'⟩:=hs;subst hu;rw [Hp.disj_union] at hd;simp only [List.set_cons_succ];refine ⟨h1,Hp.union g1 h2,Hp.disj_union.2 ⟨hd.1.symm,hd'⟩,?_,hy,qdr hx hs' hd.2 hx'⟩;rw [<- Hp.union_assoc,<- Hp.union_assoc,Hp.union_comm hd.1]
theorem qkw {Z:Env}:∀ {l l':List SH} {g1 g2:Hp},qac Z l g1->qac Z l' g2->Hp.disj g1 g2->qac Z (l ++ l') (Hp.union g1 g2)
 | [],l',g1,g2,_,h2,hd=>by
  simp only [jdd];cases l' with
  | nil=>trivial
  | cons y ys =>
   obtain ⟨a,b,hd',hu,hy,hs⟩:=h2;subst hu;rw [Hp.disj_union] at hd;refine ⟨a,Hp.union g1 b,Hp.disj_union.2 ⟨hd.1.symm,hd'⟩,?_,hy,?_⟩
   ·rw [<- Hp.union_assoc,<- Hp.union_assoc,Hp.union_comm hd.1]
   ·exact star_weaken hs (Hp.le_right hd.2)
 | x :: xs,l',g1,g2,⟨a,b,hd',hu,hx,hs⟩,h2,hd=>by
  subst hu;rw [Hp.disj_union'] at hd;exact ⟨a,Hp.union b g2,Hp.disj_union.2 ⟨hd',hd.1⟩,Hp.union_assoc _ _ _,hx,qkw hs h2 hd.2⟩
where
 star_weaken {Z:Env}:∀ {l:List SH} {h h':Hp},qac Z l h->Hp.le h h'->qac Z l h'
 | [],_,_,_,_=>trivial
 | x :: xs,h,h',⟨a,b,hd,hu,hx,hs⟩,hl=>by
  subst hu;refine ⟨a,fun y=>if (a y).isSome then none else h' y,fun y=>?_,?_,hx,star_weaken hs fun y o hy=>?_⟩
  ·cases ha:a y <;> simp [ha]
  ·funext y
   cases ha:a y with
   | none=>simp [Hp.union,ha]
   | some o=>simp [Hp.union,ha]; exact hl y o (by simp [Hp.union,ha])
  ·rcases hd y with h0 | h0
   ·simp only [h0,Option.isSome_none,jas,jbd]; exact hl y o (by simp [Hp.union,h0,hy])
   ·rw [h0] at hy; cases hy
theorem star_weaken {Z:Env} {l:List SH} {h h':Hp} (hs:qac Z l h) (hl:Hp.le h h'):qac Z l h':=qkw.star_weaken hs hl
theorem SH.den_ro {Z:Env} {x:SH} {h H:Hp} (hx:x.den Z h) (hl:Hp.le h H):x.roden Z H:=by
 cases x with
 | cells r ty cs =>
  obtain ⟨b,hb,ho⟩:=hx;exact ⟨b,0,_,ty,(0,0),hb,hl _ _ ho,fun k v hv=>by simpa using hv⟩
 | arr r ty pat d cap =>
  rcases hx with ⟨_,h2,_⟩ | ⟨b,c,h1,h2,_,_,h5⟩
  ·exact .inl h2
  ·exact .inr ⟨b,0,c,ty,(0,0),h1,hl _ _ h2,h5⟩
 | abs n t=>exact Hp.le_trans hx.1 hl
theorem SH.ro_mono {Z:Env} {x:SH} {h H:Hp} (hx:x.roden Z h) (hl:Hp.le h H):x.roden Z H:=by
 cases x with
 | cells r ty cs =>
  obtain ⟨b,o,c,ty',fr,hb,ho,hc⟩:=hx;exact ⟨b,o,c,ty',fr,hb,hl _ _ ho,hc⟩
 | arr r ty pat d cap =>
  rcases hx with h2 | ⟨b,o,c,ty',fr,h1,h2,h5⟩
  ·exact .inl h2
  ·exact .inr ⟨b,o,c,ty',fr,h1,hl _ _ h2,h5⟩
 | abs n t=>exact Hp.le_trans hx hl
theorem qO {r:Nat}:∀ {l:List SH} {k:Nat} {x:SH},qal r l = some (k,x)->l[k]? = some x/\x.reg = some r
 | [],k,x,h=>by simp [qal] at h
 | .cells r' ty cs :: l,k,x,h=>by
  simp only [qal] at h;split at h
  ·rename_i hr
   simp only [jaa,jau] at h;obtain ⟨rfl,rfl⟩:=h;have:=Nat.eq_of_beq_eq_true hr;simp [SH.reg,this]
  ·simp only [jai,jau,jdo] at h
   obtain ⟨k',x',h',rfl,rfl⟩:=h;have:=qO h';simpa using this
 | .arr r' ty pat d cap :: l,k,x,h=>by
  simp only [qal] at h;split at h
  ·rename_i hr
   simp only [jaa,jau] at h;obtain ⟨rfl,rfl⟩:=h;have:=Nat.eq_of_beq_eq_true hr;simp [SH.reg,this]
  ·simp only [jai,jau,jdo] at h
   obtain ⟨k',x',h',rfl,rfl⟩:=h;have:=qO h';simpa using this
 | .abs n t :: l,k,x,h=>by
  simp only [qal] at h;simp only [jai,jau,jdo] at h;obtain ⟨k',x',h',rfl,rfl⟩:=h;have:=qO h';simpa using this
structure Ext (V V':Sg):Prop where
 th:V'.th = V.th
 bd:∀ n b,look n V.bd = some b->look n V'.bd = some b
 eqI:∀ x ∈ V.eqI,x ∈ V'.eqI
 eqB:∀ x ∈ V.eqB,x ∈ V'.eqB
 eqD:∀ x ∈ V.eqD,x ∈ V'.eqD
theorem Ext.refl (V:Sg):Ext V V:=⟨rfl,fun _ _ h=>h,fun _ h=>h,fun _ h=>h,fun _ h=>h⟩
theorem Ext.trans {a b c:Sg} (h:Ext a b) (h':Ext b c):Ext a c :=
 ⟨h'.th.trans h.th,fun n x hx=>h'.bd n x (h.bd n x hx),fun x hx=>h'.eqI x (h.eqI x hx),fun x hx=>h'.eqB x (h.eqB x hx),fun x hx=>h'.eqD x (h.eqD x hx)⟩
structure Sat (V:Sg) (Z:Env):Prop where
 eqI:∀ p a,(p,a) ∈ V.eqI->(p.den (V.env Z)).i = (a.den Z).i
 eqB:∀ p a,(p,a) ∈ V.eqB->(p.den (V.env Z)).b = (a.den Z).b
 eqD:∀ p a,(p,a) ∈ V.eqD->(p.den (V.env Z)).d = (a.den Z).d
theorem Ext.bind {V:Sg} {n:Nat} {b:Bd} (h:look n V.bd = none):Ext V (V.bind n b) :=
 ⟨rfl,fun m x hx=>by
  simp only [Sg.bind,look];split
  ·rename_i hm; rw [Nat.eq_of_beq_eq_true hm,h] at hx; cases hx
  ·exact hx,fun _ h=>h,fun _ h=>h,fun _ h=>h⟩
theorem qeg (V:Sg) (n:Nat) (b:Bd):look n (V.bind n b).bd = some b:=by simp [Sg.bind,look]
variable {Z:Env}
theorem qbu (p a:T) (V:Sg):Ext V (mI p a V)/\∀ Vf,Ext (mI p a V) Vf->Sat Vf Z->(p.den (Vf.env Z)).i = (a.den Z).i:=by
 have other:Ext V { V with eqI:=(p,a) :: V.eqI }/\∀ Vf,Ext { V with eqI:=(p,a) :: V.eqI } Vf->Sat Vf Z->(p.den (Vf.env Z)).i = (a.den Z).i :=
  ⟨⟨rfl,fun _ _ h=>h,fun x h=>jad _ h,fun _ h=>h,fun _ h=>h⟩,fun Vf he hs=>hs.eqI p a (he.eqI _ (jae ..))⟩
 unfold mI;split
 ·rename_i n
  split
  ·rename_i hc
   simp only [jag,jbg,jcz] at hc;refine ⟨Ext.bind hc.2,fun Vf he _=>?_⟩;have hn:¬ n < Vf.th:=by rw [he.th]; intro h; rw [show (V.bind n (.t a)).th = V.th from rfl] at h; rw [qbr h] at hc; simp at hc
   simp only [T.den,Sg.env_look hn (he.bd _ _ (qeg V n (.t a))),Bd.den]
  ·exact other
 ·exact other
theorem q8x (p a:T) (V:Sg):Ext V (mB p a V)/\∀ Vf,Ext (mB p a V) Vf->Sat Vf Z->(p.den (Vf.env Z)).b = (a.den Z).b:=by
 have other:Ext V { V with eqB:=(p,a) :: V.eqB }/\∀ Vf,Ext { V with eqB:=(p,a) :: V.eqB } Vf->Sat Vf Z->(p.den (Vf.env Z)).b = (a.den Z).b :=
  ⟨⟨rfl,fun _ _ h=>h,fun _ h=>h,fun x h=>jad _ h,fun _ h=>h⟩,fun Vf he hs=>hs.eqB p a (he.eqB _ (jae ..))⟩
 unfold mB;split
 ·rename_i n
  split
  ·rename_i hc
   simp only [jag,jbg,jcz] at hc;refine ⟨Ext.bind hc.2,fun Vf he _=>?_⟩;have hn:¬ n < Vf.th:=by rw [he.th]; intro h; rw [show (V.bind n (.t a)).th = V.th from rfl] at h; rw [qbr h] at hc; simp at hc
   simp only [T.den,Sg.env_look hn (he.bd _ _ (qeg V n (.t a))),Bd.den]
  ·exact other
 ·exact other
theorem qe0 {p a:Nat} {V V':Sg} (h:mR p a V = some V'):Ext V V'/\∀ Vf,Ext V' Vf->Vf.env Z p = Z a:=by
 unfold mR at h;by_cases hp:p < V.th
 ·rw [qbr hp] at h
  simp only [jbz] at h;split at h
  ·rename_i he
   simp only [jaa] at h; subst h;have:=Nat.eq_of_beq_eq_true he;exact ⟨Ext.refl _,fun Vf hx=>by rw [Sg.env_lt (by rw [hx.th]; exact hp),this]⟩
  ·simp at h
 ·rw [qem hp] at h
  simp only [jas,jbd] at h;split at h
  ·rename_i hl
   simp only [jaa] at h; subst h;exact ⟨Ext.bind hl,fun Vf hx=>by rw [Sg.env_look (by rw [hx.th]; exact hp) (hx.bd _ _ (qeg _ _ _))]; rfl⟩
  ·rename_i a' hl
   split at h
   ·rename_i he
    simp only [jaa] at h; subst h;have:=Nat.eq_of_beq_eq_true he;exact ⟨Ext.refl _,fun Vf hx=>by rw [Sg.env_look (by rw [hx.th]; exact hp) (hx.bd _ _ hl),this]; rfl⟩
   ·simp at h
  ·simp at h
theorem qr5 {p:Nat} {V V':Sg} (h:q3G p V = some V'):Ext V V'/\∀ Vf,Ext V' Vf->(Vf.env Z p).r = none:=by
 unfold q3G at h;by_cases hp:p < V.th
 ·rw [qbr hp] at h; simp at h
 ·rw [qem hp] at h
  simp only [jas,jbd] at h;split at h
  ·rename_i hl
   simp only [jaa] at h; subst h;exact ⟨Ext.bind hl,fun Vf hx=>by rw [Sg.env_look (by rw [hx.th]; exact hp) (hx.bd _ _ (qeg _ _ _))]; rfl⟩
  ·rename_i hl
   simp only [jaa] at h; subst h;exact ⟨Ext.refl _,fun Vf hx=>by rw [Sg.env_look (by rw [hx.th]; exact hp) (hx.bd _ _ hl)]; rfl⟩
  ·simp at h
theorem qc8 {t:T} (h:qeX t = true):∃ s:ByteArray,(t.den Z).v = .string s:=by
 unfold qeX at h;split at h
 ·exact ⟨_,rfl⟩
 ·exact ⟨_,rfl⟩
 ·exact ⟨_,rfl⟩
 ·exact ⟨_,rfl⟩
 ·exact ⟨_,rfl⟩
 ·cases h
theorem qnu:∀ {r:T} {ts:List T},qaW r = some ts->(r.den Z).d = [qd Z ts]
 | .c0 o,ts,h=>by
  cases o <;> simp only [qaW] at h
  case rnil=>simp only [jaa] at h; subst h; simp [T.den,O0.den,qd]
  all_goals cases h
 | .c1 o x,n,h=>by simp [qaW] at h
 | .c2 o x y,n,h=>by
  cases o <;> simp only [qaW] at h
  case rcons =>
   split at h
   ·rename_i ts h1
    simp only [jaa] at h; subst h;simp [T.den,O2.den,qnu h1,qd]
   ·cases h
  all_goals cases h
 | .c3 o x y z,n,h=>by simp [qaW] at h
 | .var m,n,h=>by simp [qaW] at h
 | .ife x y u v,n,h=>by simp [qaW] at h
theorem qvO {x y:T} {V:Sg} (h:qyb x y V = true):∀ Vf,Ext V Vf->(x.den (Vf.env Z)).i = (y.den Z).i:=by
 intro Vf he;unfold qyb at h;split at h
 ·rename_i c n
  split at h
  ·cases h
  ·rename_i hn
   split at h
   ·rename_i d hl
    split at h
    ·rename_i ts hr
     split at h
     ·rename_i k y' hc
      have hlk:=he.bd _ _ hl;have hn':¬ n < Vf.th:=by rw [he.th]; intro h'; rw [qbr h'] at hn; exact hn rfl
      simp only [T.den,O0.den,O2.den,qa,Sg.env_look hn' hlk,Bd.den,qnu hr,jbm];rw [<- T.same_eq h];simp [qd,hc,T.den,O1.den,qX]
     ·cases h
    ·cases h
   ·cases h
 ·cases h
theorem qpN {p a:T} {V V':Sg} (h:mV p a V = some V'):Ext V V'/\∀ Vf,Ext V' Vf->Sat Vf Z->(p.den (Vf.env Z)).v = (a.den Z).v:=by
 unfold mV at h;split at h
 ·rename_i k x k' y
  split at h
  ·rename_i hk
   subst hk;split at h
   ·rename_i hx
    simp only [jaa] at h; subst h;exact ⟨Ext.refl _,fun Vf he hs=>by simp only [T.den,O1.den]; rw [qvO hx Vf he]⟩
   ·simp only [jaa] at h; subst h
    have:=qbu (Z:=Z) x y V;exact ⟨this.1,fun Vf he hs=>by simp only [T.den,O1.den]; rw [this.2 Vf he hs]⟩
  ·simp at h
 ·rename_i x y
  simp only [jaa] at h; subst h;have:=q8x (Z:=Z) x y V;exact ⟨this.1,fun Vf he hs=>by simp only [T.den,O1.den]; rw [this.2 Vf he hs]⟩
 ·rename_i r p c e r' p' c' e'
  split at h
  ·rename_i hpc
   obtain ⟨rfl,rfl⟩:=hpc;simp only [jai] at h;obtain ⟨V1,h1,rfl⟩:=h;have g1:=qe0 (Z:=Z) h1;have g2:=qbu (Z:=Z) e e' V1;exact ⟨g1.1.trans g2.1,fun Vf he hs=>by simp only [T.den,O1.den]; rw [g2.2 Vf he hs,g1.2 Vf (g2.1.trans he)]⟩
  ·split at h
   ·rename_i hpc
    obtain ⟨rfl,h1,h2⟩:=hpc;have g1:=qe0 (Z:=Z) h;refine ⟨g1.1,fun Vf he hs=>?_⟩;have k1:∀ {t:T},t.isLit = some 0->t = .lit 0:=fun {t} h=>by
     unfold T.isLit at h; split at h <;> simp_all
    rw [k1 h1,k1 h2];simp only [T.den,O1.den,O0.den];rw [g1.2 Vf he]; simp
   ·simp at h
 ·rename_i r p o l c r' p' o' l' c'
  split at h
  ·rename_i hp
   subst hp;simp only [jai] at h;obtain ⟨V1,h1,rfl⟩:=h;have g1:=qe0 (Z:=Z) h1;have g2:=qbu (Z:=Z) o o' V1;have g3:=qbu (Z:=Z) l l' (mI o o' V1);have g4:=qbu (Z:=Z) c c' (mI l l' (mI o o' V1));exact ⟨((g1.1.trans g2.1).trans g3.1).trans g4.1,fun Vf he hs=>by
    simp only [T.den,O3.den];rw [g2.2 Vf ((g3.1.trans g4.1).trans he) hs,g3.2 Vf (g4.1.trans he) hs,g4.2 Vf he hs,g1.2 Vf (((g2.1.trans g3.1).trans g4.1).trans he)]⟩
  ·simp at h
 ·rename_i r p o l c
  simp only [jai] at h;obtain ⟨V1,h1,rfl⟩:=h;have g1:=qr5 (Z:=Z) h1;have g2:=qbu (Z:=Z) o (.lit 0) V1;have g3:=qbu (Z:=Z) l (.lit 0) (mI o (.lit 0) V1);have g4:=qbu (Z:=Z) c (.lit 0) (mI l (.lit 0) (mI o (.lit 0) V1));exact ⟨((g1.1.trans g2.1).trans g3.1).trans g4.1,fun Vf he hs=>by
   simp only [T.den,O3.den,O0.den];rw [g3.2 Vf (g4.1.trans he) hs,g4.2 Vf he hs,g1.2 Vf (((g2.1.trans g3.1).trans g4.1).trans he)];simp [T.den,O0.den,qn]⟩
 ·rename_i r p c e
  simp only [jai] at h;obtain ⟨V1,h1,rfl⟩:=h;have g1:=qr5 (Z:=Z) h1;have g2:=qbu (Z:=Z) e (.lit 0) V1;exact ⟨g1.1.trans g2.1,fun Vf he hs=>by
   simp only [T.den,O1.den,O0.den];rw [g1.2 Vf (g2.1.trans he)];simp [qn]⟩
 ·simp only [jaa] at h; subst h; exact ⟨Ext.refl _,fun _ _ _=>rfl⟩
 ·simp only [jaa] at h; subst h; exact ⟨Ext.refl _,fun _ _ _=>rfl⟩
 ·simp only [jaa] at h; subst h; exact ⟨Ext.refl _,fun _ _ _=>rfl⟩
 ·rename_i n
  split at h
  ·rename_i hst
   obtain ⟨sa,hsa⟩:=qc8 (Z:=Z) hst;split at h
   ·rename_i hc
    simp only [jag,jbg,jcz] at hc;simp only [jaa] at h; subst h;refine ⟨Ext.bind hc.2,fun Vf he _=>?_⟩;have hn:¬ n < Vf.th:=by rw [he.th]; intro h; rw [show (V.bind n (.t a)).th = V.th from rfl] at h; rw [qbr h] at hc; simp at hc
    simp only [T.den,O1.den,Sg.env_look hn (he.bd _ _ (qeg V n (.t a))),Bd.den,hsa,qwO]
   ·split at h
    ·rename_i hc
     simp only [jag,jbn] at hc;simp only [jaa] at h; subst h;refine ⟨Ext.refl _,fun Vf he _=>?_⟩;rw [<- T.same_eq hc.2];simp only [T.den,O1.den,Sg.env_lt (show n < Vf.th by rw [he.th]; exact hc.1)]
    ·simp at h
  ·simp at h
 ·rename_i n
  split at h
  ·rename_i hc
   simp only [jag,jbg,jcz] at hc;simp only [jaa] at h; subst h;refine ⟨Ext.bind hc.2,fun Vf he _=>?_⟩;have hn:¬ n < Vf.th:=by rw [he.th]; intro h; rw [show (V.bind n (.t a)).th = V.th from rfl] at h; rw [qbr h] at hc; simp at hc
   simp only [T.den,Sg.env_look hn (he.bd _ _ (qeg V n (.t a))),Bd.den]
  ·split at h
   ·rename_i hc
    simp only [jag,jbn] at hc;simp only [jaa] at h; subst h;refine ⟨Ext.refl _,fun Vf he _=>?_⟩;rw [<- T.same_eq hc.2];simp only [T.den,Sg.env_lt (show n < Vf.th by rw [he.th]; exact hc.1)]
   ·simp at h
 ·simp at h
theorem quB:∀ {p a:T} {V V':Sg},mRw p a V = some V'->Ext V V'/\∀ Vf,Ext V' Vf->Sat Vf Z->(p.den (Vf.env Z)).d = (a.den Z).d:=by
 intro p
 induction p with
 | c2 o v r _ ih =>
  intro a V V' h;cases a with
  | c2 o' v' r' =>
   cases o <;> cases o' <;> simp only [mRw] at h <;> try (cases h; done)
   simp only [jam] at h;obtain ⟨V1,h1,h2⟩:=h;have g1:=qpN (Z:=Z) h1;have g2:=ih h2;exact ⟨g1.1.trans g2.1,fun Vf he hs=>by simp only [T.den,O2.den]; rw [g1.2 Vf (g2.1.trans he) hs,g2.2 Vf he hs]⟩
  | _=>cases o <;> simp [mRw] at h
 | c0 o =>
  intro a V V' h;cases a with
  | c0 o' =>
   cases o <;> cases o' <;> simp only [mRw] at h <;> try (cases h; done)
   simp only [jaa] at h; subst h;exact ⟨Ext.refl _,fun _ _ _=>rfl⟩
  | _=>cases o <;> simp [mRw] at h
 | _=>intro a V V' h; cases a <;> simp [mRw] at h
theorem qjf:∀ (p a:T) (V:Sg),Ext V (mD p a V)/\∀ Vf,Ext (mD p a V) Vf->Sat Vf Z->(p.den (Vf.env Z)).d = (a.den Z).d:=by
 have other:∀ (p a:T) (V:Sg),Ext V { V with eqD:=(p,a) :: V.eqD }/\∀ Vf,Ext { V with eqD:=(p,a) :: V.eqD } Vf->Sat Vf Z->(p.den (Vf.env Z)).d = (a.den Z).d:=fun p a V =>
  ⟨⟨rfl,fun _ _ h=>h,fun _ h=>h,fun _ h=>h,fun x h=>jad _ h⟩,fun Vf he hs=>hs.eqD p a (he.eqD _ (jae ..))⟩
 intro p a V
 fun_induction mD p a V with
 | case1 n a V hc =>
  simp only [jag,jbg,jcz] at hc;refine ⟨Ext.bind hc.2,fun Vf he _=>?_⟩;have hn:¬ n < Vf.th:=by rw [he.th]; intro h; rw [show (V.bind n (.t a)).th = V.th from rfl] at h; rw [qbr h] at hc; simp at hc
  simp only [T.den,Sg.env_look hn (he.bd _ _ (qeg V n (.t a))),Bd.den]
 | case2=>exact other _ _ _
 | case3 d e r c d' e' r' V V1 hr ih =>
  have g1:=quB (Z:=Z) hr;have g3:=qbu (Z:=Z) e e' (mD d d' V1);exact ⟨(g1.1.trans ih.1).trans g3.1,fun Vf he hs=>by
   simp only [T.den,O3.den];rw [g1.2 Vf ((ih.1.trans g3.1).trans he) hs,ih.2 Vf (g3.1.trans he) hs,g3.2 Vf he hs]⟩
 | case4=>exact other _ _ _
 | case5=>exact other _ _ _
 | case6 x y x' y' V ih1 ih2 =>
  exact ⟨ih1.1.trans ih2.1,fun Vf he hs=>by
   simp only [T.den,O2.den];rw [ih1.2 Vf (ih2.1.trans he) hs,ih2.2 Vf he hs]⟩
 | case7 v r a V V1 hr=>exact quB (Z:=Z) hr
 | case8=>exact other _ _ _
 | case9=>exact other _ _ _
theorem qq0:∀ {ps as:List T} {V V':Sg},qp1 ps as V = some V'->Ext V V'/\∀ Vf,Ext V' Vf->Sat Vf Z->qd (Vf.env Z) ps = qd Z as
 | [],[],V,V',h=>by simp only [qp1,jaa] at h; subst h; exact ⟨Ext.refl _,fun _ _ _=>rfl⟩
 | p :: ps,a :: as,V,V',h=>by
  simp only [qp1,jam] at h;obtain ⟨V1,h1,h2⟩:=h;have g1:=qpN (Z:=Z) h1;have g2:=qq0 h2;exact ⟨g1.1.trans g2.1,fun Vf he hs=>by
   have:=g2.2 Vf he hs;simp only [qd,ja5] at this ⊢;rw [this,g1.2 Vf (g2.1.trans he) hs]⟩
 | [],_ :: _,V,V',h=>by simp [qp1] at h
 | _ :: _,[],V,V',h=>by simp [qp1] at h
theorem qxN:∀ (ps as:List T) (V:Sg),Ext V (qgA ps as V):=by
 intro ps as V
 fun_induction qgA ps as V with
 | case1 k c n ps a as V hc ih =>
  simp only [jag,jbg,jcz] at hc;exact (Ext.bind hc.2).trans ih
 | case2=>assumption
 | case3=>assumption
 | case4=>exact Ext.refl _
theorem qh3 {ps as:List T} {V V':Sg} (h:mVs ps as V = some V'):Ext V V'/\∀ Vf,Ext V' Vf->Sat Vf Z->qd (Vf.env Z) ps = qd Z as:=by
 have g:=qq0 (Z:=Z) h;exact ⟨(qxN ps as V).trans g.1,g.2⟩
theorem qrB:∀ {ps as:List (Bool × List T)} {V V':Sg},mSV.mTup ps as V = some V'->Ext V V'/\∀ Vf,Ext V' Vf->Sat Vf Z->ps.map (qeS (Vf.env Z)) = as.map (qeS Z)
 | [],[],V,V',h=>by simp only [mSV.mTup,jaa] at h; subst h; exact ⟨Ext.refl _,fun _ _ _=>rfl⟩
 | (g,p) :: ps,(g',a) :: as,V,V',h=>by
  simp only [mSV.mTup] at h;split at h
  ·rename_i hg
   subst hg;simp only [jam] at h;obtain ⟨V1,h1,h2⟩:=h;have g1:=qh3 (Z:=Z) h1;have g2:=qrB h2;exact ⟨g1.1.trans g2.1,fun Vf he hs=>by
    simp only [ja5];rw [g2.2 Vf he hs];have:=g1.2 Vf (g2.1.trans he) hs;cases g <;> simp only [qeS] <;> rw [this]⟩
  ·simp at h
 | [],_ :: _,V,V',h=>by simp [mSV.mTup] at h
 | _ :: _,[],V,V',h=>by simp [mSV.mTup] at h
theorem qmR {p a:SV} {V V':Sg} (h:mSV p a V = some V'):Ext V V'/\∀ Vf,Ext V' Vf->Sat Vf Z->p.den (Vf.env Z) = a.den Z:=by
 unfold mSV at h;split at h
 ·have g:=qpN (Z:=Z) h
  exact ⟨g.1,fun Vf he hs=>by simp only [SV.den]; rw [g.2 Vf he hs]⟩
 ·have g:=qh3 (Z:=Z) h
  exact ⟨g.1,fun Vf he hs=>by simp only [SV.den]; rw [g.2 Vf he hs]⟩
 ·split at h
  ·rename_i hf
   subst hf;simp only [jam] at h;obtain ⟨V1,h1,h2⟩:=h;have g1:=qh3 (Z:=Z) h1;have g2:=qh3 (Z:=Z) h2;exact ⟨g1.1.trans g2.1,fun Vf he hs=>by simp only [SV.den]; rw [g2.2 Vf he hs,g1.2 Vf (g2.1.trans he) hs]⟩
  ·simp at h
 ·have g:=qrB (Z:=Z) h
  exact ⟨g.1,fun Vf he hs=>by simp only [SV.den]; rw [g.2 Vf he hs]⟩
 ·simp at h
theorem qqY:∀ {ps as:List SV} {V V':Sg},qkr ps as V = some V'->Ext V V'/\∀ Vf,Ext V' Vf->Sat Vf Z->ps.map (SV.den (Vf.env Z)) = as.map (SV.den Z)
 | [],[],V,V',h=>by simp only [qkr,jaa] at h; subst h; exact ⟨Ext.refl _,fun _ _ _=>rfl⟩
 | p :: ps,a :: as,V,V',h=>by
  simp only [qkr,jam] at h;obtain ⟨V1,h1,h2⟩:=h;have g1:=qmR (Z:=Z) h1;have g2:=qqY h2;exact ⟨g1.1.trans g2.1,fun Vf he hs=>by
   simp only [ja5];rw [g2.2 Vf he hs,g1.2 Vf (g2.1.trans he) hs]⟩
 | [],_ :: _,V,V',h=>by simp [qkr] at h
 | _ :: _,[],V,V',h=>by simp [qkr] at h
theorem qh9 (hg:Z.good) {p a:SH} {V V':Sg} (h:mH1 p a V = some V'):Ext V V'/\∀ Vf r r',p.reg = some r->a.reg = some r'->Vf.env Z r = Z r'->Ext V' Vf->Sat Vf Z ->
  (∀ hp,a.den Z hp->p.den (Vf.env Z) hp)/\(∀ hp,a.roden Z hp->p.roden (Vf.env Z) hp):=by
 unfold mH1 at h;split at h
 ·rename_i r0 ty ps r1 ty' as
  split at h
  ·rename_i ht
   have ht:=Nat.eq_of_beq_eq_true ht;subst ht;have g:=qh3 (Z:=Z) h;refine ⟨g.1,fun Vf r r' hr hr' hrr he hs=>?_⟩;simp only [SH.reg,jaa] at hr hr';subst hr; subst hr';have:=g.2 Vf he hs;refine ⟨fun hp=>?_,fun hp=>?_⟩
   ·simp only [SH.den]; rw [this,hrr]; exact id
   ·simp only [SH.roden]; rw [this,hrr]; exact id
  ·simp at h
 ·rename_i r0 ty pat d cap r1 ty' pat' d' cap'
  split at h
  ·rename_i ht
   simp only [jag,ja8] at ht;obtain ⟨ht,hpat⟩:=ht;have ht:=Nat.eq_of_beq_eq_true ht;subst ht; subst hpat;simp only [jaa] at h; subst h;have g1:=qjf (Z:=Z) d d' V;have g2:=qbu (Z:=Z) cap cap' (mD d d' V);refine ⟨g1.1.trans g2.1,fun Vf r r' hr hr' hrr he hs=>?_⟩;simp only [SH.reg,jaa] at hr hr';subst hr; subst hr';have e1:=g1.2 Vf (g2.1.trans he) hs;have e2:=g2.2 Vf he hs;refine ⟨fun hp=>?_,fun hp=>?_⟩
   ·simp only [SH.den]; rw [e1,e2,hrr]; exact id
   ·simp only [SH.roden]; rw [e1,hrr]; exact id
  ·simp at h
 ·rename_i r0 ty pat d cap r1 ty' as
  split at h
  ·rename_i ht
   simp only [jag] at ht;obtain ⟨⟨ht,hpos⟩,hmod⟩:=ht;have ht:=Nat.eq_of_beq_eq_true ht;have hmod:=Nat.eq_of_beq_eq_true hmod;simp only [jbn] at hpos;subst ht;split at h
   ·rename_i D hD
    simp only [jaa] at h; subst h;have g1:=qjf (Z:=Z) d D V;have g2:=qbu (Z:=Z) cap (.lit ((as.length / pat.length:Nat):Int)) (mD d D V);refine ⟨g1.1.trans g2.1,fun Vf r r' hr hr' hrr he hs=>?_⟩;simp only [SH.reg,jaa] at hr hr';subst hr; subst hr';have e1:=g1.2 Vf (g2.1.trans he) hs;have e2:=g2.2 Vf he hs;obtain ⟨l1,l2,l3⟩:=qhe hg rfl hD;have hlen:(as.length / pat.length) * pat.length = as.length:=by
     have:=jdf as.length pat.length;rw [hmod,jce] at this; omega
    refine ⟨fun hp hx=>?_,fun hp hx=>?_⟩
    ·obtain ⟨b,h1,h2⟩:=hx
     refine .inr ⟨b,_,by rw [hrr]; exact h1,h2,?_,?_,?_⟩
     ·rw [e2]; show _ = (((as.length / pat.length:Nat):Int)).toNat * pat.length; rw [jal,hlen]; simp [qd]
     ·rw [e1,e2,l1]; exact Int.le_refl _
     ·rw [e1]; exact qcp l3 (fun j v hv=>by rw [l2] at hv; simpa using hv)
    ·obtain ⟨b,o,c,ty',fr,h1,h2,h3⟩:=hx
     refine .inr ⟨b,o,c,ty',fr,by rw [hrr]; exact h1,h2,?_⟩;rw [e1]; exact qcp l3 (fun j v hv=>by rw [l2] at hv; exact h3 j v hv)
   ·simp at h
  ·simp at h
 ·simp at h
theorem qsb {p:SH} {n t:Nat} (h:p.isAbs = some (n,t)):p = .abs n t:=by
 cases p <;> simp_all [SH.isAbs]
theorem qdp {t:Nat}:∀ {l:List SH} {k m:Nat},qh1 t l = some (k,m)->l[k]? = some (.abs m t)
 | [],k,m,h=>by simp [qh1] at h
 | .abs m' t' :: l,k,m,h=>by
  simp only [qh1] at h;split at h
  ·rename_i ht
   simp only [jaa,jau] at h;obtain ⟨rfl,rfl⟩:=h;rw [Nat.eq_of_beq_eq_true ht]; rfl
  ·simp only [jai,jau,jdo] at h
   obtain ⟨k',x',h',rfl,rfl⟩:=h;simpa using qdp h'
 | .cells _ _ _ :: l,k,m,h=>by
  simp only [qh1,jai,jau,jdo] at h;obtain ⟨k',x',h',rfl,rfl⟩:=h;simpa using qdp h'
 | .arr _ _ _ _ _ :: l,k,m,h=>by
  simp only [qh1,jai,jau,jdo] at h;obtain ⟨k',x',h',rfl,rfl⟩:=h;simpa using qdp h'
theorem qiz (hg:Z.good):∀ {ps h ro rest:List SH} {V V':Sg} {hO:Hp},mHs true ps h ro V = some (rest,V')->qac Z h hO->Ext V V'/\∀ Vf,Ext V' Vf->Sat Vf Z ->
  ∃ h1 h2,Hp.disj h1 h2/\hO = Hp.union h1 h2/\qac (Vf.env Z) ps h1/\qac Z rest h2
 | [],h,ro,rest,V,V',hO,hm,hs=>by
  simp only [mHs,jaa,jau] at hm;obtain ⟨rfl,rfl⟩:=hm;exact ⟨Ext.refl _,fun _ _ _=>⟨Hp.emp,hO,Hp.emp_disj _,(Hp.emp_union _).symm,trivial,hs⟩⟩
 | p :: ps,h,ro,rest,V,V',hO,hm,hs=>by
  simp only [mHs] at hm;split at hm
  ·rename_i n t hp
   have hp:=qsb hp;subst hp;split at hm
   ·rename_i k m hat
    simp only [jam,jbz] at hm;obtain ⟨V1,h1,h2⟩:=hm;have hk:=qdp hat;have g1:=qe0 (Z:=Z) h1;obtain ⟨t1,t2,td,tu,tx,ts⟩:=qae hs hk;have g2:=qiz hg h2 ts;refine ⟨g1.1.trans g2.1,fun Vf he hsat=>?_⟩;obtain ⟨u1,u2,ud,uu,a1,a2⟩:=g2.2 Vf he hsat;have hx:SH.den (Vf.env Z) (.abs n t) t1:=by
     simp only [SH.den];rw [g1.2 Vf (g2.1.trans he)]; exact tx
    subst tu; subst uu;rw [Hp.disj_union] at td;exact ⟨Hp.union t1 u1,u2,Hp.disj_union'.2 ⟨td.2,ud⟩,(Hp.union_assoc _ _ _).symm,⟨t1,u1,td.1,rfl,hx,a1⟩,a2⟩
   ·simp at hm
  split at hm
  ·simp at hm
  ·rename_i r hr
   split at hm
   ·rename_i hc
    simp only [jag,jbg] at hc;obtain ⟨hc1,hc2⟩:=hc;have hn:¬ r < V.th:=fun h=>by rw [qbr h] at hc1; cases hc1
    have hl:look r V.bd = some .nil:=by
     revert hc2; cases hl:look r V.bd with
     | none=>simp [qkO]
     | some b=>cases b <;> simp [qkO]
    split at hm
    ·rename_i r' ty pat d cap _
     simp only [SH.reg,jaa] at hr; subst hr;have g1:=qjf (Z:=Z) d .dnil V;have g2:=qbu (Z:=Z) cap (.lit 0) (mD d .dnil V);have g3:=qiz hg hm hs;refine ⟨(g1.1.trans g2.1).trans g3.1,fun Vf he hsat=>?_⟩;obtain ⟨h1,h2,hd,hu,a1,a2⟩:=g3.2 Vf he hsat;refine ⟨h1,h2,hd,hu,⟨Hp.emp,h1,Hp.emp_disj _,(Hp.emp_union _).symm,.inl ⟨?_,?_,?_⟩,a1⟩,a2⟩
     ·rw [Sg.env_look (by rw [he.th,g3.1.th,g2.1.th,g1.1.th]; exact hn) (he.bd _ _ (g3.1.bd _ _ (g2.1.bd _ _ (g1.1.bd _ _ hl))))]; rfl
     ·rw [g1.2 Vf ((g2.1.trans g3.1).trans he) hsat]; rfl
     ·rw [g2.2 Vf (g3.1.trans he) hsat]; rfl
    ·simp at hm
   ·split at hm
    ·simp at hm
    ·rename_i r' hreg
     split at hm
     ·rename_i k a hat
      simp only [jam,jbz] at hm;obtain ⟨V1,h1,h2⟩:=hm;obtain ⟨hk,ha⟩:=qO hat;have g1:=qh9 hg h1;obtain ⟨t1,t2,td,tu,tx,ts⟩:=qae hs hk;have g2:=qiz hg h2 ts;refine ⟨g1.1.trans g2.1,fun Vf he hsat=>?_⟩;obtain ⟨u1,u2,ud,uu,a1,a2⟩:=g2.2 Vf he hsat;have hrr:Vf.env Z r = Z r':=by
       have hx:Ext V Vf:=(g1.1.trans g2.1).trans he;unfold Sg.reg at hreg;by_cases hlt:r < V.th
       ·rw [qbr hlt] at hreg
        simp only [jbz,jaa] at hreg;rw [Sg.env_lt (by rw [hx.th]; exact hlt),hreg]
       ·rw [qem hlt] at hreg
        simp only [jas,jbd] at hreg;split at hreg
        ·rename_i m hl
         simp only [jaa] at hreg;rw [Sg.env_look (by rw [hx.th]; exact hlt) (hx.bd _ _ hl),<- hreg]; rfl
        ·simp at hreg
      have hx:=(g1.2 Vf r r' hr ha hrr (g2.1.trans he) hsat).1 t1 tx;subst tu; subst uu;rw [Hp.disj_union] at td;refine ⟨Hp.union t1 u1,u2,Hp.disj_union'.2 ⟨td.2,ud⟩,(Hp.union_assoc _ _ _).symm,⟨t1,u1,td.1,rfl,hx,a1⟩,a2⟩
     ·simp at hm
theorem q21 {V Vf:Sg} {r r':Nat} (hreg:V.reg r = some r') (hx:Ext V Vf):Vf.env Z r = Z r':=by
 unfold Sg.reg at hreg;by_cases hlt:r < V.th
 ·rw [qbr hlt] at hreg
  simp only [jbz,jaa] at hreg;rw [Sg.env_lt (by rw [hx.th]; exact hlt),hreg]
 ·rw [qem hlt] at hreg
  simp only [jas,jbd] at hreg;split at hreg
  ·rename_i m hl
   simp only [jaa] at hreg;rw [Sg.env_look (by rw [hx.th]; exact hlt) (hx.bd _ _ hl),<- hreg]; rfl
  ·simp at hreg
theorem qkE (hg:Z.good):∀ {ps h ro rest:List SH} {V V':Sg} {hF hO H:Hp},mHs false ps h ro V = some (rest,V')->qac Z h hO->(∀ x ∈ ro,x.roden Z hF)->Hp.le hO H->Hp.le hF H ->
  Ext V V'/\rest = h/\∀ Vf,Ext V' Vf->Sat Vf Z->∀ p ∈ ps,p.roden (Vf.env Z) H
 | [],h,ro,rest,V,V',hF,hO,H,hm,hs,hr,_,_=>by
  simp only [mHs,jaa,jau] at hm;obtain ⟨rfl,rfl⟩:=hm;exact ⟨Ext.refl _,rfl,fun _ _ _ p hp=>by cases hp⟩
 | p :: ps,h,ro,rest,V,V',hF,hO,H,hm,hs,hro,hl1,hl2=>by
  simp only [mHs] at hm;split at hm
  ·rename_i n t hp
   have hp:=qsb hp;subst hp;split at hm
   ·rename_i k m hat
    simp only [jam,jas,jbd] at hm;obtain ⟨V1,h1,h2⟩:=hm;have hk:=qdp hat;have g1:=qe0 (Z:=Z) h1;have g2:=qkE hg h2 hs hro hl1 hl2;refine ⟨g1.1.trans g2.1,g2.2.1,fun Vf he hsat q hq=>?_⟩;cases hq with
    | head =>
     obtain ⟨t1,t2,td,tu,tx,ts⟩:=qae hs hk;simp only [SH.roden];rw [g1.2 Vf (g2.1.trans he)];exact Hp.le_trans tx.1 (Hp.le_trans (tu ▸ Hp.le_left t1 t2) hl1)
    | tail _ hq=>exact g2.2.2 Vf he hsat q hq
   ·simp only [jas,jbd] at hm
    split at hm
    ·rename_i k m hat
     simp only [jam] at hm;obtain ⟨V1,h1,h2⟩:=hm;have hk:=qdp hat;have g1:=qe0 (Z:=Z) h1;have g2:=qkE hg h2 hs hro hl1 hl2;refine ⟨g1.1.trans g2.1,g2.2.1,fun Vf he hsat q hq=>?_⟩;cases hq with
     | head =>
      simp only [SH.roden];rw [g1.2 Vf (g2.1.trans he)];exact Hp.le_trans (hro _ (jbl hk)) hl2
     | tail _ hq=>exact g2.2.2 Vf he hsat q hq
    ·simp at hm
  split at hm
  ·simp at hm
  ·rename_i r hr
   split at hm
   ·rename_i hc
    simp only [jag,jbg] at hc;obtain ⟨hc1,hc2⟩:=hc;have hn:¬ r < V.th:=fun h=>by rw [qbr h] at hc1; cases hc1
    have hl:look r V.bd = some .nil:=by
     revert hc2; cases hl:look r V.bd with
     | none=>simp [qkO]
     | some b=>cases b <;> simp [qkO]
    split at hm
    ·rename_i r' ty pat d cap _
     simp only [SH.reg,jaa] at hr; subst hr;have g1:=qjf (Z:=Z) d .dnil V;have g2:=qbu (Z:=Z) cap (.lit 0) (mD d .dnil V);have g3:=qkE hg hm hs hro hl1 hl2;refine ⟨(g1.1.trans g2.1).trans g3.1,g3.2.1,fun Vf he hsat q hq=>?_⟩;cases hq with
     | head =>
      refine .inl ?_;rw [g1.2 Vf ((g2.1.trans g3.1).trans he) hsat]; rfl
     | tail _ hq=>exact g3.2.2 Vf he hsat q hq
    ·simp at hm
   ·split at hm
    ·simp at hm
    ·rename_i r' hreg
     split at hm
     ·rename_i k a hat
      simp only [jam,jas,jbd] at hm;obtain ⟨V1,h1,h2⟩:=hm;obtain ⟨hk,ha⟩:=qO hat;have g1:=qh9 hg h1;have g2:=qkE hg h2 hs hro hl1 hl2;refine ⟨g1.1.trans g2.1,g2.2.1,fun Vf he hsat q hq=>?_⟩;cases hq with
      | head =>
       obtain ⟨t1,t2,td,tu,tx,ts⟩:=qae hs hk;have hrr:=q21 (Z:=Z) hreg ((g1.1.trans g2.1).trans he);refine (g1.2 Vf r r' hr ha hrr (g2.1.trans he) hsat).2 H (SH.den_ro tx ?_);exact Hp.le_trans (tu ▸ Hp.le_left t1 t2) hl1
      | tail _ hq=>exact g2.2.2 Vf he hsat q hq
     ·simp only [jas,jbd] at hm
      split at hm
      ·rename_i k a hat
       simp only [jam] at hm;obtain ⟨V1,h1,h2⟩:=hm;obtain ⟨hk,ha⟩:=qO hat;have g1:=qh9 hg h1;have g2:=qkE hg h2 hs hro hl1 hl2;refine ⟨g1.1.trans g2.1,g2.2.1,fun Vf he hsat q hq=>?_⟩;cases hq with
       | head =>
        have hrr:=q21 (Z:=Z) hreg ((g1.1.trans g2.1).trans he);exact (g1.2 Vf r r' hr ha hrr (g2.1.trans he) hsat).2 H (SH.ro_mono (hro a (jbl hk)) hl2)
       | tail _ hq=>exact g2.2.2 Vf he hsat q hq
      ·simp at hm
theorem qeH:∀ {ps h ro rest:List SH} {V V':Sg},mHs false ps h ro V = some (rest,V')->Ext V V'
 | [],h,ro,rest,V,V',hm=>by
  simp only [mHs,jaa,jau] at hm;obtain ⟨rfl,rfl⟩:=hm;exact Ext.refl _
 | p :: ps,h,ro,rest,V,V',hm=>by
  simp only [mHs] at hm;split at hm
  ·split at hm
   ·simp only [jam,jas,jbd] at hm
    obtain ⟨V1,h1,h2⟩:=hm;exact (qe0 (Z:=fun _=>{}) h1).1.trans (qeH h2)
   ·simp only [jas,jbd] at hm
    split at hm
    ·simp only [jam] at hm
     obtain ⟨V1,h1,h2⟩:=hm;exact (qe0 (Z:=fun _=>{}) h1).1.trans (qeH h2)
    ·simp at hm
  split at hm
  ·simp at hm
  ·rename_i r hr
   split at hm
   ·split at hm
    ·rename_i r' ty pat d cap _
     exact ((qjf (Z:=fun _=>{}) d .dnil V).1.trans (qbu (Z:=fun _=>{}) cap (.lit 0) (mD d .dnil V)).1).trans (qeH hm)
    ·simp at hm
   ·split at hm
    ·simp at hm
    ·split at hm
     ·simp only [jam,jas,jbd] at hm
      obtain ⟨V1,h1,h2⟩:=hm;exact (qh9 (Z:=fun _=>{}) (fun _=>⟨rfl,by simp⟩) h1).1.trans (qeH h2)
     ·simp only [jas,jbd] at hm
      split at hm
      ·simp only [jam] at hm
       obtain ⟨V1,h1,h2⟩:=hm;exact (qh9 (Z:=fun _=>{}) (fun _=>⟨rfl,by simp⟩) h1).1.trans (qeH h2)
      ·simp at hm
theorem qhI {V:Sg} (f:T->T->Option T) (R:T->T->Prop) (hsame:∀ p p' a,V.sub p = some p'->p'.same a = true->R p a)
  (hf:∀ p p' a c,V.sub p = some p'->f p' a = some c->(c.den Z).b = true->R p a) :
  ∀ {l:List (T × T)} {cs:List T},V.eqs f l = some cs->(∀ c ∈ cs,(c.den Z).b = true)->∀ p a,(p,a) ∈ l->R p a
 | [],_,_,_,p,a,h=>by cases h
 | (p,a) :: r,cs,hm,hc,q,b,hq=>by
  simp only [Sg.eqs] at hm;split at hm
  ·rename_i p' cs' hp hcs
   split at hm
   ·rename_i hs
    simp only [jaa] at hm; subst hm;cases hq with
    | head=>exact hsame _ _ _ hp hs
    | tail _ hq=>exact qhI f R hsame hf hcs hc q b hq
   ·split at hm
    ·rename_i c hfc
     simp only [jaa] at hm; subst hm;cases hq with
     | head=>exact hf _ _ _ _ hp hfc (hc c (jae ..))
     | tail _ hq=>exact qhI f R hsame hf hcs (fun c h=>hc c (jad _ h)) q b hq
    ·simp at hm
  ·simp at hm
end Go.Eng
namespace Go.Eng
open Go
structure Fr where
 h:Hp
 os:Os
 out:Array (Nat × ByteArray)
instance:Coe Fr Hp:=⟨Fr.h⟩
instance:CoeFun Fr (fun _=>Hp):=⟨Fr.h⟩
def Fr.wi (F:Fr) (w:World):Prop:=w.os = F.os/\w.output = F.out
structure Holds (Z:Env) (hF:Fr) (s:S) (a:Act) (w:World):Prop where
 gd:Z.good
 nt:s.nt <= a.tmps.size
 df:a.defers = []
 env:∀ t v,qbc t s.env = some v->a.tmps.getD t undef = v.den Z
 ro:∀ x ∈ s.ro,x.roden Z hF
 hp:∃ hO,Hp.disj hF hO/\qac Z s.heap hO/\(Hp.union hF hO).sub w/\hF.wi w
 pc:∀ c b,(c,b) ∈ s.pc->(c.den Z).b = b
 vw:∀ x ∈ s.vw,∃ m ∈ x.1,x.2.roden Z (Z m).h
variable {P:Program} {Z:Env} {hF:Fr} {s:S} {a:Act} {w:World}
theorem qqm {v:Value} {t:T} (h:qkK v = some t):(t.den Z).v = v:=by
 unfold qkK at h;split at h <;> simp only [jaa,reduceCtorEq] at h <;> subst h <;> simp [T.den,O0.den,O1.den]
theorem quq {v:Value} {t:T} {n:Nat} (h:qkK v = some t):t.inB n = true:=by
 unfold qkK at h;split at h <;> simp only [jaa,reduceCtorEq] at h <;> subst h <;> simp [T.inB]
theorem qhz:∀ {l:List Value} {ts:List T},qe8 l = some ts->qd Z ts = l
 | [],ts,h=>by simp only [qe8,jaa] at h; subst h; rfl
 | v :: r,ts,h=>by
  simp only [qe8] at h;split at h
  ·rename_i t ts' h1 h2
   simp only [jaa] at h; subst h;have:=qhz h2;simp only [qd,ja5] at this ⊢;rw [this,qqm h1]
  ·simp at h
theorem qlW {n:Nat}:∀ {l:List Value} {ts:List T},qe8 l = some ts->ts.all (T.inB n) = true
 | [],ts,h=>by simp only [qe8,jaa] at h; subst h; rfl
 | v :: r,ts,h=>by
  simp only [qe8] at h;split at h
  ·rename_i t ts' h1 h2
   simp only [jaa] at h; subst h;simp only [jdh,quq h1,qlW h2,jft]
  ·simp at h
theorem qz8 {v:Value} {x:SV} (h:ofValue v = some x):x.den Z = v:=by
 unfold ofValue at h;split at h
 ·rename_i cs
  simp only [jai] at h;obtain ⟨ts,h1,rfl⟩:=h;simp only [SV.den,qhz h1]
 ·simp only [jai] at h
  obtain ⟨t,h1,rfl⟩:=h;simp only [SV.den,qqm h1]
theorem q37 {v:Value} {x:SV} {n:Nat} (h:ofValue v = some x):x.inB n = true:=by
 unfold ofValue at h;split at h
 ·rename_i cs
  simp only [jai] at h;obtain ⟨ts,h1,rfl⟩:=h;exact qlW h1
 ·simp only [jai] at h
  obtain ⟨t,h1,rfl⟩:=h;exact quq h1
theorem Holds.opd (hs:Holds Z hF s a w) {x:Operand} {v:SV} (h:opd s x = some v):a.eval x = v.den Z:=by
 cases x with
 | tmp t=>exact hs.env t v h
 | const c=>exact (qz8 h).symm
 | global g=>simp [Eng.opd] at h
 | func f =>
  simp only [Eng.opd,jaa] at h; subst h;simp [Act.eval,SV.den,qd]
theorem Holds.opds (hs:Holds Z hF s a w):∀ {xs:List Operand} {vs:List SV},opds s xs = some vs->xs.map a.eval = vs.map (SV.den Z)
 | [],vs,h=>by simp only [Eng.opds,jaa] at h; subst h; rfl
 | x :: r,vs,h=>by
  simp only [Eng.opds] at h;split at h
  ·rename_i v vs' h1 h2
   simp only [jaa] at h; subst h;simp only [ja5];rw [hs.opd h1,Holds.opds hs h2]
  ·simp at h
theorem qpB {n:Nat}:∀ {l:List (Nat × SV)} {t:Nat} {v:SV},l.all (fun x=>x.2.inB n) = true->qbc t l = some v->v.inB n = true
 | [],t,v,_,h=>by simp [qbc] at h
 | (k,u) :: r,t,v,hb,h=>by
  simp only [jdh,jag] at hb;simp only [qbc] at h;split at h
  ·simp only [jaa] at h; rw [<- h]; exact hb.1
  ·exact qpB hb.2 h
theorem qmX (hsc:s.scopedEH = true) {x:Operand} {v:SV} (h:opd s x = some v):v.inB s.nx = true:=by
 simp only [S.scopedEH,jag] at hsc;cases x with
 | tmp t=>exact qpB hsc.1 h
 | const c=>exact q37 h
 | global g=>simp [Eng.opd] at h
 | func f=>simp only [Eng.opd,jaa] at h; subst h; rfl
theorem qwR {v:SV} {cs:List T} {n:Nat} (h:v.cells = some cs) (hv:v.inB n = true):cs.all (T.inB n) = true:=by
 cases v <;> simp only [SV.cells,jaa,reduceCtorEq] at h <;> subst h
 ·simpa [SV.inB] using hv
 ·exact hv
theorem qia {d:List (List Value)} (h:∀ row ∈ d,∀ v ∈ row,v.oneCell' = true):∀ v ∈ d.headD [],v.oneCell' = true:=by
 cases d with
 | nil=>simp
 | cons r _=>simpa using h r (by simp)
theorem T.den_good (hg:Z.good):∀ (t:T),(t.den Z).good
 | .var n=>hg n
 | .c0 o=>by cases o <;> simp [T.den,O0.den,U.good,Value.oneCell']
 | .c1 o x=>by cases o <;> simp [T.den,O1.den,U.good,Value.oneCell']
 | .c2 o x y=>by
  have hx:=T.den_good hg x;have hy:=T.den_good hg y;cases o <;> simp only [T.den,O2.den] <;> (try (simp [U.good,Value.oneCell']; done))
  case vcell c=>exact ⟨qrH hx.2 _ _,by simp⟩
  case dsnoc=>exact ⟨rfl,fun row hr=>(jaw.1 hr).elim (hx.2 row) (hy.2 row)⟩
  case rcons =>
   refine ⟨rfl,fun row hr v hv=>?_⟩;simp only [jak] at hr;subst hr;rcases ja9.1 hv with rfl | hv
   ·exact hx.1
   ·exact qia hy.2 v hv
  case drep =>
   refine ⟨rfl,fun row hr v hv=>?_⟩;rw [(jfp.1 hr).2] at hv;exact qia hy.2 v hv
  case dapp=>exact ⟨rfl,fun row hr=>(jaw.1 hr).elim (hx.2 row) (hy.2 row)⟩
  case dtake=>exact ⟨rfl,fun row hr=>hx.2 row (jbx hr)⟩
  case ddrop=>exact ⟨rfl,fun row hr=>hx.2 row (jb7 hr)⟩
 | .c3 o x y z=>by
  have hx:=T.den_good hg x;have hz:=T.den_good hg z;cases o
  ·simp [T.den,O3.den,U.good,Value.oneCell']
  ·simp only [T.den,O3.den]
   refine ⟨rfl,fun row hr v hv=>?_⟩;unfold qaQ at hr;rcases jc0 hr with hr | rfl
   ·exact hx.2 row hr v hv
   ·unfold qas at hv
    rcases jaw.1 hv with hv | hv
    ·rcases jaw.1 hv with hv | hv
     ·have hv:=jbx hv
      cases h1:(x.den Z).d[(y.den Z).i.toNat]? with
      | none=>rw [h1] at hv; simp at hv
      | some row=>rw [h1] at hv; exact hx.2 row (jbl h1) v hv
     ·exact qia hz.2 v hv
    ·have hv:=jb7 hv
     cases h1:(x.den Z).d[(y.den Z).i.toNat]? with
     | none=>rw [h1] at hv; simp at hv
     | some row=>rw [h1] at hv; exact hx.2 row (jbl h1) v hv
  ·simp only [T.den,O3.den]
   refine ⟨rfl,fun row hr v hv=>?_⟩;cases hd:(x.den Z).d with
   | nil=>rw [hd] at hr; simp [qa0] at hr
   | cons r0 rest =>
    rw [hd] at hr;simp only [qa0,ja9] at hr;rcases hr with rfl | hr
    ·rcases jc0 hv with hv | rfl
     ·exact hx.2 r0 (by rw [hd]; exact jae ..) v hv
     ·exact hz.1
    ·exact hx.2 row (by rw [hd]; exact jad _ hr) v hv
  ·simp only [T.den,O3.den]
   refine ⟨rfl,fun row hr=>?_⟩;simp only [qaZ,jaw] at hr;rcases hr with (hr | hr) | hr
   ·exact hx.2 row (jbx hr)
   ·exact hz.2 row hr
   ·exact hx.2 row (jb7 hr)
  ·simp [T.den,O3.den,U.good,Value.oneCell']
  ·simp only [T.den,O3.den]
   refine ⟨rfl,fun row hr v hv=>?_⟩;obtain ⟨u,hu,rfl⟩:=jbk.1 hr;rw [jak.1 hv];exact qia hx.2 u (jb7 (jbx hu))
  ·simp only [T.den,O3.den]
   refine ⟨rfl,fun row hr v hv=>?_⟩;cases hd:(x.den Z).d with
   | nil=>rw [hd] at hr; simp [qa6] at hr
   | cons r0 rest =>
    rw [hd] at hr;simp only [qa6,ja9] at hr;rcases hr with rfl | hr
    ·unfold qas at hv
     rcases jaw.1 hv with hv | hv
     ·rcases jaw.1 hv with hv | hv
      ·exact hx.2 r0 (by rw [hd]; exact jae ..) v (jbx hv)
      ·obtain ⟨q,hq,rfl⟩:=jbk.1 hv
       cases q with
       | nil=>rfl
       | cons u q=>exact hz.2 _ hq _ (jae ..)
     ·exact hx.2 r0 (by rw [hd]; exact jae ..) v (jb7 hv)
    ·exact hx.2 row (by rw [hd]; exact jad _ hr) v hv
 | .ife x y u v=>by simp [T.den,U.good,Value.oneCell']
theorem qhY (hg:Z.good) (ts:List T):∀ v ∈ qd Z ts,v.oneCell' = true:=by
 intro v hv;obtain ⟨t,_,rfl⟩:=jbk.1 hv;exact (T.den_good hg t).1
theorem qjK (hg:Z.good) {v:SV} {cs:List T} (h:v.cells = some cs):(v.den Z).cells = (qd Z cs).toArray:=by
 cases v with
 | one t =>
  simp only [SV.cells,jaa] at h; subst h;have:=(T.den_good hg t).1;simp only [SV.den,qd,ja5,jb5];cases hv:(t.den Z).v <;> simp_all [Value.cells,Value.oneCell']
 | agg ts=>simp only [SV.cells,jaa] at h; subst h; simp [SV.den,Value.cells]
 | tup vs=>simp [SV.cells] at h
 | fn f x y=>simp [SV.cells] at h
theorem qfo {t:TypeId} {b:Bool} (h:qdf P t = some b) (w:World):(isAgg t).run P w = .ok b w:=by
 unfold qdf at h;unfold isAgg;simp only [Sem.run_bind];have hu:∀ d,P.underlying t = some d->(underlying t).run P w = .ok d w:=fun d hd=>by simp [underlying,hd]
 split at h
 ·rename_i fs hd; simp only [jaa] at h; subst h; simp [hu _ hd]
 ·rename_i n e hd; simp only [jaa] at h; subst h; simp [hu _ hd]
 ·rename_i d h1 h2 hd
  simp only [jaa] at h; subst h;rw [hu _ hd];simp only [Result.andThen_ok];cases d <;> simp_all
 ·simp at h
theorem qaI {t:TypeId} {n:Nat} (h:qV P t = some n) (w:World):(sizeOf t).run P w = .ok n w:=by
 unfold qV at h;simp only [jai] at h;obtain ⟨i,hi,rfl⟩:=h;simp [sizeOf,typeInfo,hi]
theorem qnU {t:TypeId} {cs:List T} (h:qbP P t = some cs) (w:World):∃ v,(zeroValue t).run P w = .ok v w/\v.cells = (qd Z cs).toArray:=by
 unfold qbP at h;split at h
 ·rename_i v hv
  simp only [jam] at hv;obtain ⟨i,hi,hz⟩:=hv;refine ⟨v,by simp [zeroValue,typeInfo,hi,hz],?_⟩;rw [qhz h]
 ·simp at h
theorem qu {t:TypeId} {d:TypeDesc} (h:P.underlying t = some d) (w:World):(underlying t).run P w = .ok d w:=by simp [underlying,h]
theorem qfV {n:Nat}:∀ {l:List SH},qc7 n l = true->∃ t,.abs n t ∈ l
 | [],h=>by simp [qc7] at h
 | .abs m t :: l,h=>by
  simp only [qc7,jcy] at h;rcases h with h | h
  ·rw [Nat.eq_of_beq_eq_true h]; exact ⟨t,jae ..⟩
  ·obtain ⟨t',ht⟩:=qfV h; exact ⟨t',jad _ ht⟩
 | .cells _ _ _ :: l,h=>by
  simp only [qc7] at h;obtain ⟨t',ht⟩:=qfV h; exact ⟨t',jad _ ht⟩
 | .arr _ _ _ _ _ :: l,h=>by
  simp only [qc7] at h;obtain ⟨t',ht⟩:=qfV h; exact ⟨t',jad _ ht⟩
theorem qpz {heap ro:List SH} {hO hF:Hp} (hst:qac Z heap hO) (hro:∀ x ∈ ro,x.roden Z hF) {n:Nat} (h:(qc7 n heap || qc7 n ro) = true):Hp.le (Z n).h hO∨Hp.le (Z n).h hF:=by
 simp only [jcy] at h;rcases h with h | h
 ·obtain ⟨t,ht⟩:=qfV h
  obtain ⟨k,hk⟩:=jbi ht;obtain ⟨t1,t2,td,tu,tx,ts⟩:=qae hst hk;exact .inl (Hp.le_trans tx.1 (tu ▸ Hp.le_left t1 t2))
 ·obtain ⟨t,ht⟩:=qfV h
  exact .inr (hro _ ht)
theorem quA {s':S} {r:Nat}:∀ {l:List (List Nat × SH)} {k:Nat} {x:SH},qsz s' r l = some (k,x)->∃ ms,(ms,x) ∈ l/\x.reg = some r/\ms.all s'.piece = true
 | [],k,x,h=>by simp [qsz] at h
 | (ms,y) :: l,k,x,h=>by
  simp only [qsz] at h;split at h
  ·rename_i hc
   simp only [jag] at hc;simp only [jaa,jau] at h;obtain ⟨_,rfl⟩:=h;refine ⟨ms,jae ..,?_,hc.2⟩;have:=hc.1;unfold qBe at this;split at this
   ·rename_i q hq
    rw [hq,Nat.eq_of_beq_eq_true this]
   ·cases this
  ·obtain ⟨ms',h1,h2⟩:=quA h
   exact ⟨ms',jad _ h1,h2⟩
theorem Holds.found (hs:Holds Z hF s a w) {r k:Nat} {x:SH} (h:s.look r = some (k,x)) :
  ∃ H,Hp.sub H w/\x.roden Z H/\x.reg = some r:=by
 obtain ⟨hO,hd,hst,hsub,hwi⟩:=hs.hp;unfold S.look at h;rcases h1:qal r s.heap with _ | y
 ·rcases h2:qal r s.ro with _ | y
  ·rw [h1,h2] at h
   have h:qsz s r s.vw = some (k,x):=h;obtain ⟨ms,hm,hr,hall⟩:=quA h;obtain ⟨m,hmm,hx⟩:=hs.vw _ hm;have hp:=ja3.1 hall m hmm;refine ⟨Hp.union hF hO,hsub,SH.ro_mono hx ?_,hr⟩;rcases qpz hst hs.ro hp with h | h
   ·exact Hp.le_trans h (Hp.le_right hd)
   ·exact Hp.le_trans h (Hp.le_left _ _)
  ·rw [h1,h2] at h
   have h:y = (k,x):=jax h;subst h;obtain ⟨hk,hr⟩:=qO h2;exact ⟨Hp.union hF hO,hsub,SH.ro_mono (hs.ro x (jbl hk)) (Hp.le_left _ _),hr⟩
 ·rw [h1] at h
  have h:y = (k,x):=jax h;subst h;obtain ⟨hk,hr⟩:=qO h1;obtain ⟨t1,t2,td,tu,tx,ts⟩:=qae hst hk;exact ⟨Hp.union hF hO,hsub,SH.den_ro tx (Hp.le_trans (tu ▸ Hp.le_left t1 t2) (Hp.le_right hd)),hr⟩
theorem qK (op:BinOp) (x y:T) (hop:op = .eql∨op = .neq∨op = .lss∨op = .leq∨op = .gtr∨op = .geq):((qr op x y).den Z).b = qJ op (x.den Z).i (y.den Z).i:=by
 unfold qr;split
 ·rename_i u v hu hv
  have:x = .lit u:=by unfold T.isLit at hu; split at hu <;> simp_all
  have:y = .lit v:=by unfold T.isLit at hv; split at hv <;> simp_all
  subst_vars; simp [T.den,O0.den]
 ·split
  ·rename_i h
   rw [T.same_eq h];rcases hop with rfl | rfl | rfl | rfl | rfl | rfl <;> simp [T.den,O0.den,qJ]
  ·rfl
theorem qfY:∀ {t:T},qdD t = true->0 <= (t.den Z).i
 | .c0 o,h=>by
  cases o <;> simp [qdD] at h;simpa [T.den,O0.den] using h
 | .c1 o x,h=>by
  cases o <;> simp [qdD] at h <;> simp [T.den,O1.den]
 | .c2 o x y,h=>by
  cases o <;> simp [qdD] at h
  ·have h1:=qfY h.1; have h2:=qfY h.2
   simp only [T.den,O2.den]; omega
  ·have h1:=qfY h.1; have h2:=qfY h.2
   simp only [T.den,O2.den]; split <;> assumption
 | .var n,h=>by simp [qdD] at h
 | .c3 o x y z,h=>by simp [qdD] at h
 | .ife x y u v,h=>by simp [qdD] at h
theorem qw {t:T} (h:((qaf t).den Z).b = true):0 <= (t.den Z).i:=by
 unfold qaf at h;split at h
 ·rename_i hn; exact qfY hn
 ·rw [qK _ _ _ (by simp)] at h; exact jbh h
theorem qhp:∀ (d:T),((qbz d).den Z).i = ((d.den Z).d.length:Int)
 | .c0 o=>by cases o <;> simp [qbz,T.den,O0.den,O1.den]
 | .c1 o x=>by simp [qbz,T.den,O1.den]
 | .c2 o x y=>by cases o <;> simp [qbz,T.den,O1.den]
 | .c3 o x y z=>by
  cases o
  ·simp [qbz,T.den,O1.den]
  ·simp only [qbz,qhp x,T.den,O3.den,qaQ,jdv]
  ·simp only [qbz,qhp x,T.den,O3.den]
   cases (x.den Z).d <;> simp [qa0]
  ·simp [qbz,T.den,O1.den]
  ·simp [qbz,T.den,O1.den]
  ·simp [qbz,T.den,O1.den]
  ·simp only [qbz,qhp x,T.den,O3.den]
   cases (x.den Z).d <;> simp [qa6]
 | .var n=>by simp [qbz,T.den,O1.den]
 | .ife x y u v=>by simp [qbz,T.den,O1.den]
theorem qhS (l:List T) (i:Nat) (vs:List T):qd Z (qdi l i vs) = qas (qd Z l) i (qd Z vs):=by
 simp [qdi,qas,qd]
theorem qc5 {t:T} {z:Int} (h:t.isLit = some z):(t.den Z).i = z:=by
 unfold T.isLit at h; split at h <;> simp_all [T.den,O0.den]
theorem qed:∀ {d:T} {n:Nat},slen d = some n->(d.den Z).d.length = n
 | .c0 o,n,h=>by cases o <;> simp_all [slen,T.den,O0.den]
 | .c1 o x,n,h=>by simp [slen] at h
 | .c2 o x y,n,h=>by
  cases o <;> simp only [slen] at h
  case rcons=>simp only [jaa] at h; subst h; simp [T.den,O2.den]
  case drep =>
   split at h
   ·rename_i z hz
    simp only [jaa] at h; subst h;simp [T.den,O2.den,qc5 hz]
   ·cases h
  case dapp =>
   split at h
   ·rename_i n1 m1 h1 h2
    simp only [jaa] at h; subst h;simp [T.den,O2.den,qed h1,qed h2]
   ·cases h
  all_goals cases h
 | .c3 o x y z,n,h=>by
  cases o <;> simp only [slen] at h
  case dput c=>simp [T.den,O3.den,qaQ,qed h]
  case xput c =>
   simp only [T.den,O3.den];rw [<- qed h];cases (x.den Z).d <;> simp [qa0]
  case xcopy =>
   simp only [T.den,O3.den];rw [<- qed h];cases (x.den Z).d <;> simp [qa6]
  all_goals cases h
 | .var m,n,h=>by simp [slen] at h
 | .ife x y u v,n,h=>by simp [slen] at h
theorem qhk:∀ {r:T} {ts:List T},qaW r = some ts->(r.den Z).d = [qd Z ts]
 | .c0 o,ts,h=>by
  cases o <;> simp only [qaW] at h
  case rnil=>simp only [jaa] at h; subst h; simp [T.den,O0.den,qd]
  all_goals cases h
 | .c1 o x,n,h=>by simp [qaW] at h
 | .c2 o x y,n,h=>by
  cases o <;> simp only [qaW] at h
  case rcons =>
   split at h
   ·rename_i ts h1
    simp only [jaa] at h; subst h;simp [T.den,O2.den,qhk h1,qd]
   ·cases h
  all_goals cases h
 | .c3 o x y z,n,h=>by simp [qaW] at h
 | .var m,n,h=>by simp [qaW] at h
 | .ife x y u v,n,h=>by simp [qaW] at h
theorem qhK:∀ {d:T} {i:Nat} {ts:List T},qU d i = some ts->(d.den Z).d[i]? = some (qd Z ts)
 | .c0 o,i,ts,h=>by
  cases o <;> cases i <;> simp only [qU] at h
  case rnil.zero=>simp only [jaa] at h; subst h; simp [T.den,O0.den,qd]
  all_goals cases h
 | .c1 o x,i,n,h=>by simp [qU] at h
 | .c2 .rcons v r,0,ts,h=>by
  simp only [qU] at h;rw [qhk h]; rfl
 | .c2 .rcons v r,i + 1,ts,h=>by simp [qU] at h
 | .c2 .drep n r,i,ts,h=>by
  simp only [qU] at h;split at h
  ·rename_i z hz
   split at h
   ·rename_i hlt
    simp only [jbn] at hlt;simp only [T.den,O2.den,qc5 hz,qhk h];rw [jbf,jah hlt]; rfl
   ·cases h
  ·cases h
 | .c2 .dapp a b,i,ts,h=>by
  simp only [qU] at h;split at h
  ·rename_i n hn
   have hl:=qed (Z:=Z) hn;split at h
   ·rename_i hlt
    simp only [jbn] at hlt;simp only [T.den,O2.den];rw [jar (by omega)];exact qhK h
   ·rename_i hlt
    simp only [jbn] at hlt;simp only [T.den,O2.den];rw [jao (by omega),hl];exact qhK h
  ·cases h
 | .c2 (.arith _ _) _ _,i,ts,h=>by simp [qU] at h
 | .c2 .plus _ _,i,ts,h=>by simp [qU] at h
 | .c2 .minus _ _,i,ts,h=>by simp [qU] at h
 | .c2 .tims _ _,i,ts,h=>by simp [qU] at h
 | .c2 .imin _ _,i,ts,h=>by simp [qU] at h
 | .c2 .imax _ _,i,ts,h=>by simp [qU] at h
 | .c2 (.icell _) _ _,i,ts,h=>by simp [qU] at h
 | .c2 (.cmp _) _ _,i,ts,h=>by simp [qU] at h
 | .c2 .beq _ _,i,ts,h=>by simp [qU] at h
 | .c2 .and _ _,i,ts,h=>by simp [qU] at h
 | .c2 .or _ _,i,ts,h=>by simp [qU] at h
 | .c2 (.bcell _) _ _,i,ts,h=>by simp [qU] at h
 | .c2 (.vcell _) _ _,i,ts,h=>by simp [qU] at h
 | .c2 .dsnoc _ _,i,ts,h=>by simp [qU] at h
 | .c2 .dtake _ _,i,ts,h=>by simp [qU] at h
 | .c2 .ddrop _ _,i,ts,h=>by simp [qU] at h
 | .c2 (.xint _) _ _,i,ts,h=>by simp [qU] at h
 | .c2 (.xbool _) _ _,i,ts,h=>by simp [qU] at h
 | .c2 .veq _ _,i,ts,h=>by simp [qU] at h
 | .c2 .slt _ _,i,ts,h=>by simp [qU] at h
 | .c2 .sapp _ _,i,ts,h=>by simp [qU] at h
 | .c2 .sat _ _,i,ts,h=>by simp [qU] at h
 | .c2 .req _ _,i,ts,h=>by simp [qU] at h
 | .c3 .xrows _ _ _,i,ts,h=>by simp [qU] at h
 | .c3 .xcopy _ _ _,i,ts,h=>by simp [qU] at h
 | .c3 .ssub _ _ _,i,ts,h=>by simp [qU] at h
 | .c3 (.xput _) _ _ _,i,ts,h=>by simp [qU] at h
 | .c3 .dsplice _ _ _,i,ts,h=>by simp [qU] at h
 | .c3 (.dput c) d e r,i,ts,h=>by
  simp only [qU] at h;split at h
  ·rename_i z ts0 vs hz h0 hr
   have g0:=qhK h0;have gr:=qhk (Z:=Z) hr;have hlt:i < (d.den Z).d.length:=by
    rcases jbu i (d.den Z).d.length with h' | h'
    ·exact h'
    ·rw [jat h'] at g0; cases g0
   split at h
   ·rename_i hzi
    have hzi:=Nat.eq_of_beq_eq_true hzi;split at h
    ·simp only [jaa] at h; subst h
     simp only [T.den,O3.den,qaQ,qc5 hz,hzi,gr,g0,jbm,ja2,qhS];rw [List.getElem?_set_self hlt]
    ·cases h
   ·rename_i hzi
    simp only [jaa] at h; subst h;simp only [T.den,O3.den,qaQ,qc5 hz];rw [List.getElem?_set_ne (fun he=>hzi (by rw [he]; simp))];exact g0
  ·cases h
 | .c3 (.vslice _ _) _ _ _,i,ts,h=>by simp [qU] at h
 | .var m,i,n,h=>by simp [qU] at h
 | .ife x y u v,i,n,h=>by simp [qU] at h
theorem qzW {d e:T} {ts:List T} (h:qsQ d e = some ts):(d.den Z).d[(e.den Z).i.toNat]? = some (qd Z ts):=by
 unfold qsQ at h;split at h
 ·rename_i z hz
  rw [qc5 hz]; exact qhK h
 ·cases h
theorem qaV (d:T):((qaa d).den Z).i = ((d.den Z).d.length:Int):=by
 unfold qaa;split
 ·rename_i n hn; rw [qed hn]; simp [T.den,O0.den]
 ·exact qhp d
theorem qdn {e d:T} (h:((qr .lss e (qaa d)).den Z).b = true):(e.den Z).i < ((d.den Z).d.length:Int):=by
 rw [qK _ _ _ (by simp),qaV] at h;simpa [qJ] using h
theorem qmQ {d e:T} {row:List Value} (hrow:(d.den Z).d[(e.den Z).i.toNat]? = some row) :
  ∀ (pat:List CK) (c:Nat),(∀ (j:Nat) (k:CK),pat[j]? = some k->∃ v,row[c + j]? = some v/\CK.fits k v = true) ->
   qd Z (qbq d e pat c) = (row.drop c).take pat.length
 | [],c,_=>by simp [qbq,qd]
 | k :: ks,c,h=>by
  obtain ⟨v,hv,hk⟩:=h 0 k (by simp);simp only [jci] at hv;have hcell:qC (d.den Z).d (e.den Z).i c = v:=by simp [qC,hrow,hv]
  have ih:=qmQ hrow ks (c + 1) (fun j k' hk'=>by
   have:=h (j + 1) k' (by simpa using hk')
   rwa [show c + (j + 1) = c + 1 + j from by omega] at this)
  have hdrop:row.drop c = v :: row.drop (c + 1):=by
   have hc:c < row.length:=by
    rcases jbu c row.length with h | h
    ·exact h
    ·rw [jat h] at hv; cases hv
   rw [jcf hc]
   congr 1
   rw [jac hc,jaa] at hv;exact hv
  have hx:qd Z (qbq d e (k :: ks) c) = v :: qd Z (qbq d e ks (c + 1)):=by
   cases k with
   | int k =>
    simp only [qbq,qd,ja5,T.den,O1.den,O2.den,qb,hcell]
    congr 1
    cases v <;> simp_all [CK.fits,qX]
   | bool =>
    simp only [qbq,qd,ja5,T.den,O1.den,O2.den,qBp,hcell]
    congr 1
    cases v <;> simp_all [CK.fits,qv0]
   | any=>simp only [qbq,qd,ja5,T.den,O2.den,hcell]
  rw [hx,ih,hdrop];simp
theorem qeb (d e:T):∀ (pat:List CK) (c:Nat),(qbq d e pat c).length = pat.length
 | [],_=>rfl
 | .int _ :: ks,c=>by simp [qbq,qeb d e ks]
 | .bool :: ks,c=>by simp [qbq,qeb d e ks]
 | .any :: ks,c=>by simp [qbq,qeb d e ks]
theorem qeO {k:CK}:∀ {l:List CK} {i:Nat},i < qbX k l->l[i]? = some k
 | [],i,h=>by simp [qbX] at h
 | x :: l,i,h=>by
  simp only [qbX] at h;split at h
  ·rename_i hx
   cases i with
   | zero=>rw [hx]; rfl
   | succ i=>simpa using qeO (l:=l) (i:=i) (by omega)
  ·omega
theorem qvK {x:SH} {e:T} {p c n r:Nat} {cs needs:List T} (h:qqg x e p c n = some (cs,needs)) {H:Hp} (hx:x.roden Z H) (hr:x.reg = some r)
  (hn:∀ c ∈ needs,(c.den Z).b = true) :
  cs.length = n/\∃ b o c' ty fr,(Z r).r = some ⟨b,o,none⟩/\H b = some (.cells c' ty fr) /\
   ∀ (k:Nat) (v:Value),(qd Z cs)[k]? = some v->c'[o + ((e.den Z).i.toNat * p + c) + k]? = some v:=by
 cases x with
 | cells r' ty ts =>
  simp only [SH.reg,jaa] at hr; subst hr;simp only [qqg] at h;split at h
  ·rename_i z hz
   split at h
   ·rename_i hc
    simp only [jaa,jau] at h;obtain ⟨rfl,rfl⟩:=h;have he:(e.den Z).i = z:=by unfold T.isLit at hz; split at hz <;> simp_all [T.den,O0.den]
    obtain ⟨b,o,c',ty',fr,h1,h2,h3⟩:=hx;refine ⟨by simp; omega,b,o,c',ty',fr,h1,h2,fun k v hv=>?_⟩;rw [he];have:=h3 (z.toNat * p + c + k) v ?_
    ·rw [show o + (z.toNat * p + c) + k = o + (z.toNat * p + c + k) from by omega]; exact this
    ·simp only [qd,jc4,jd3] at hv ⊢
     rw [jbb] at hv;split at hv
     ·rw [jbc] at hv; exact hv
     ·cases hv
   ·simp at h
  ·simp at h
 | arr r' ty pat d cap =>
  simp only [SH.reg,jaa] at hr; subst hr;simp only [qqg] at h;split at h
  ·rename_i hc
   simp only [jag,jd6] at hc;have hp:=Nat.eq_of_beq_eq_true hc.1;split at h
   ·rename_i ts hts
    simp only [jaa,jau] at h;obtain ⟨rfl,rfl⟩:=h;have hrow:=qzW (Z:=Z) hts;rcases hx with hd | ⟨b,o,c',ty',fr,g1,g2,g3⟩
    ·rw [hd] at hrow; simp at hrow
    ·obtain ⟨hfit,hcells⟩:=g3 _ _ hrow
     have hl:=hfit.1;simp only [qd,ja7] at hl;refine ⟨by simp; omega,b,o,c',ty',fr,g1,g2,fun k v hv=>?_⟩;simp only [qd,jc4,jd3] at hv;rw [jbb] at hv;split at hv
     ·rw [jbc] at hv
      have:=hcells _ _ hv;rw [hp,show o + ((e.den Z).i.toNat * pat.length + c) + k = o + (e.den Z).i.toNat * pat.length + (c + k) from by omega];exact this
     ·cases hv
   rename_i hstat;simp only [jaa,jau] at h;obtain ⟨rfl,rfl⟩:=h;have h0:=qw (hn _ (jae ..));have h1:=qdn (hn _ (jad _ (jae ..)));have hlt:(e.den Z).i.toNat < (d.den Z).d.length:=by omega
   have hrow:=jac hlt;rcases hx with hd | ⟨b,o,c',ty',fr,g1,g2,g3⟩
   ·rw [hd] at hlt; simp at hlt
   ·obtain ⟨hfit,hcells⟩:=g3 _ _ hrow
    refine ⟨by rw [qeb]; simp; omega,b,o,c',ty',fr,g1,g2,fun k v hv=>?_⟩;rw [qmQ hrow _ c (fun j kk hj=>?_)] at hv
    ·rw [jbb] at hv
     split at hv
     ·rw [jbc] at hv
      have:=hcells _ _ hv;rw [hp,show o + ((e.den Z).i.toNat * pat.length + c) + k = o + (e.den Z).i.toNat * pat.length + (c + k) from by omega];exact this
     ·cases hv
    ·rw [jbb] at hj
     split at hj
     ·rw [jbc] at hj
      have hlt2:c + j < ((d.den Z).d[(e.den Z).i.toNat]).length:=by
       rw [hfit.1];rcases jbu (c + j) pat.length with h | h
       ·exact h
       ·rw [jat h] at hj; cases hj
      exact ⟨_,jac hlt2,hfit.2 _ _ _ hj (jac hlt2)⟩
     ·cases hj
  ·split at h
   ·rename_i hc1
    simp only [jag] at hc1;have hp1:=Nat.eq_of_beq_eq_true hc1.1;have hn1:=Nat.eq_of_beq_eq_true hc1.2;subst hp1; subst hn1;split at h
    ·rename_i kk hk
     simp only [jaa,jau] at h;obtain ⟨rfl,rfl⟩:=h;have h0:=qw (hn _ (jae ..));have h1:=hn _ (jad _ (jae ..));rw [qK _ _ _ (by simp)] at h1;have h1:(e.den Z).i < ((qbX (.int kk) (pat.drop c):Nat):Int):=jbh h1;have h2:=qdn (hn _ (jad _ (jad _ (jae ..))));simp only [T.den,O0.den] at h2;rcases hx with hd | ⟨b,o,c',ty',fr,g1,g2,g3⟩
     ·rw [hd] at h2; simp at h2
     ·obtain ⟨row,rest,hdd⟩:∃ row rest,(d.den Z).d = row :: rest:=by
       cases hdd:(d.den Z).d with
       | nil=>rw [hdd] at h2; simp at h2
       | cons row rest=>exact ⟨row,rest,rfl⟩
      obtain ⟨hfit,hcells⟩:=g3 0 row (by rw [hdd]; rfl);have hki:pat[c + (e.den Z).i.toNat]? = some (.int kk):=by
       have:=qeO (k:=.int kk) (l:=pat.drop c) (i:=(e.den Z).i.toNat) (by omega);rw [jbc] at this; exact this
      have hlt:c + (e.den Z).i.toNat < row.length:=by
       rw [hfit.1]; exact (jan.1 hki).1
      have hrow:=jac hlt;have hf:=hfit.2 _ _ _ hki hrow;obtain ⟨z,hz⟩:∃ z,row[c + (e.den Z).i.toNat] = .int kk z:=by
       cases hv:row[c + (e.den Z).i.toNat] <;> rw [hv] at hf <;> simp [CK.fits] at hf;subst hf; exact ⟨_,rfl⟩
      refine ⟨rfl,b,o,c',ty',fr,g1,g2,fun k v hv=>?_⟩;cases k with
      | zero =>
       simp only [qd,ja5,jb5,jav,jaa] at hv;subst hv;have hcell:=hcells _ _ hrow;rw [show o + ((e.den Z).i.toNat * 1 + c) + 0 = o + 0 * pat.length + (c + (e.den Z).i.toNat) by omega,hcell,hz];simp only [T.den,O1.den,O2.den,qa,hdd,jbm];rw [show (e.den Z).i.toNat + c = c + (e.den Z).i.toNat by omega,hrow,hz]; rfl
      | succ k=>simp [qd] at hv
    ·rename_i hk
     simp only [jaa,jau] at h;obtain ⟨rfl,rfl⟩:=h;have h0:=qw (hn _ (jae ..));have h1:=hn _ (jad _ (jae ..));rw [qK _ _ _ (by simp)] at h1;have h1:(e.den Z).i < ((qbX .bool (pat.drop c):Nat):Int):=jbh h1;have h2:=qdn (hn _ (jad _ (jad _ (jae ..))));simp only [T.den,O0.den] at h2;rcases hx with hd | ⟨b,o,c',ty',fr,g1,g2,g3⟩
     ·rw [hd] at h2; simp at h2
     ·obtain ⟨row,rest,hdd⟩:∃ row rest,(d.den Z).d = row :: rest:=by
       cases hdd:(d.den Z).d with
       | nil=>rw [hdd] at h2; simp at h2
       | cons row rest=>exact ⟨row,rest,rfl⟩
      obtain ⟨hfit,hcells⟩:=g3 0 row (by rw [hdd]; rfl);have hki:pat[c + (e.den Z).i.toNat]? = some .bool:=by
       have:=qeO (k:=.bool) (l:=pat.drop c) (i:=(e.den Z).i.toNat) (by omega);rw [jbc] at this; exact this
      have hlt:c + (e.den Z).i.toNat < row.length:=by
       rw [hfit.1]; exact (jan.1 hki).1
      have hrow:=jac hlt;have hf:=hfit.2 _ _ _ hki hrow;obtain ⟨z,hz⟩:∃ z,row[c + (e.den Z).i.toNat] = .bool z:=by
       cases hv:row[c + (e.den Z).i.toNat] <;> rw [hv] at hf <;> first | exact ⟨_,rfl⟩ | simp [CK.fits] at hf
      refine ⟨rfl,b,o,c',ty',fr,g1,g2,fun k v hv=>?_⟩;cases k with
      | zero =>
       simp only [qd,ja5,jb5,jav,jaa] at hv;subst hv;have hcell:=hcells _ _ hrow;rw [show o + ((e.den Z).i.toNat * 1 + c) + 0 = o + 0 * pat.length + (c + (e.den Z).i.toNat) by omega,hcell,hz];simp only [T.den,O1.den,O2.den,qay,hdd,jbm];rw [show (e.den Z).i.toNat + c = c + (e.den Z).i.toNat by omega,hrow,hz]; rfl
      | succ k=>simp [qd] at hv
    ·simp at h
   ·simp at h
 | abs m t=>simp [SH.reg] at hr
theorem q2C {x:SH} {e:T} {p:Nat}:(e.den Z).i.toNat * qvG x e p = (e.den Z).i.toNat * p:=by
 unfold qvG;split
 ·rename_i hz
  have he:(e.den Z).i = 0:=by unfold T.isLit at hz; split at hz <;> simp_all [T.den,O0.den]
  rw [he]; simp
 ·rfl
theorem qfa {x:SH} {e:T} {p c n r:Nat} {cs needs:List T} (h:qvy x e p c n = some (cs,needs)) {H:Hp} (hx:x.roden Z H) (hr:x.reg = some r)
  (hn:∀ c ∈ needs,(c.den Z).b = true) :
  cs.length = n/\∃ b o c' ty fr,(Z r).r = some ⟨b,o,none⟩/\H b = some (.cells c' ty fr) /\
   ∀ (k:Nat) (v:Value),(qd Z cs)[k]? = some v->c'[o + ((e.den Z).i.toNat * p + c) + k]? = some v:=by
 have:=qvK h hx hr hn
 rwa [q2C] at this
theorem qbl {b off:Nat} {c:Array Value} {ty:TypeId} {fr:Nat × Nat} (h:w.heap[b]? = some (.cells c ty fr)):w.cell? ⟨b,off,none⟩ = c[off]?:=by
 simp [World.cell?,h]
theorem addr_add {b off j:Nat}:(⟨b,off,none⟩:Addr).add j = ⟨b,off + j,none⟩:=by
 unfold Addr.add; split <;> simp_all
theorem qdJ {t:TypeId} {ag:Bool} {n b off:Nat} {c:Array Value} {ty:TypeId} {fr:Nat × Nat} {vs:List Value}
  (ha:qdf P t = some ag) (hn:qV P t = some n) (hb:w.heap[b]? = some (.cells c ty fr)) (hl:vs.length = n)
  (hc:∀ (k:Nat) (v:Value),vs[k]? = some v->c[off + k]? = some v) (h1:ag = false->n = 1) :
  (loadVar t ⟨b,off,none⟩).run P w = .ok (if ag then .agg vs.toArray else vs.headD .nilFunc) w:=by
 unfold loadVar;simp only [Sem.run_bind,qfo ha,Result.andThen_ok];cases ag with
 | true =>
  simp only [jbz,Sem.run_bind,qaI hn,Result.andThen_ok];rw [<- hl,run_loadCells_list (P:=P) w ⟨b,off,none⟩ vs (fun j v hv=>by rw [addr_add,qbl hb]; exact hc j v hv)];rfl
 | false =>
  have h1:=h1 rfl
  match vs,hl with
  | [v],_ =>
   have:=hc 0 v (by simp);simp only [jci] at this;simp [qbl hb,this]
  | [],hl=>simp at hl; omega
  | _ :: _ :: _,hl=>simp at hl; omega
end Go.Eng
namespace Go.Eng
open Go
variable {P:Program} {Z:Env} {hF:Fr} {s:S} {a:Act} {w:World}
def qs (Z:Env) (hF:Fr) (heap:List SH) (w:World):Prop:=∃ hO,Hp.disj hF hO/\qac Z heap hO/\(Hp.union hF hO).sub w/\hF.wi w
def qir (c0 c1:Array Value) (i:Nat) (vs:List Value):Prop :=
 c1.size = c0.size/\∀ j,c1[j]? = if i <= j/\j < i + vs.length then vs[j - i]? else c0[j]?
def Put (h h':Hp) (r:Option Addr) (pat:List CK) (d:List (List Value)) (k:Nat) (vs:List Value):Prop :=
 ∃ b o c0 c1 ty,r = some ⟨b,o,none⟩/\h b = some (.cells c0 ty (0,0))/\qT c0 o pat d/\qir c0 c1 (o + k) vs/\h' = Hp.upd h b (.cells c1 ty (0,0))
theorem qdg {b off:Nat} {ty:TypeId}:∀ (vs:List Value) (i:Nat) (c0:Array Value) (w:World),w.heap[b]? = some (.cells c0 ty (0,0)) ->
  (∀ v ∈ vs,v.oneCell' = true)->off + i + vs.length <= c0.size ->
  ∃ w' c1,(storeCells ⟨b,off,none⟩ vs i).run P w = .ok () w'/\w'.heap[b]? = some (.cells c1 ty (0,0))/\(∀ b',b' ≠ b->w'.heap[b']? = w.heap[b']?)/\qir c0 c1 (off + i) vs/\w'.os = w.os/\w'.output = w.output
 | [],i,c0,w,hb,_,_=>⟨w,c0,by simp [storeCells],hb,fun _ _=>rfl,⟨rfl,fun j=>by rw [jaf (by simp)]⟩,rfl,rfl⟩
 | v :: vs,i,c0,w,hb,hv,hl=>by
  simp only [jba] at hl;have hlt:off + i < c0.size:=by omega
  have hcell:w.cell? ⟨b,off + i,none⟩ = some c0[off + i]:=by simp [qbl hb,hlt]
  have hfr:w.frozen? ⟨b,off + i,none⟩ = false:=by simp [World.frozen?,hb]
  have hset:(w.setCell ⟨b,off + i,none⟩ v).heap[b]? = some (.cells (c0.setIfInBounds (off + i) v) ty (0,0)):=by
   simp only [World.setCell,jb9,jbz,hb,ja0];simp
  have hoth:∀ b',b' ≠ b->(w.setCell ⟨b,off + i,none⟩ v).heap[b']? = w.heap[b']?:=fun b' hne=>by
   simp only [World.setCell,jb9];rw [jaf (fun h=>hne h.symm)]
  obtain ⟨w',c1,hrun,h1,h2,⟨h3,h4⟩,ho⟩:=qdg (off:=off) vs (i + 1) (c0.setIfInBounds (off + i) v) _ hset (fun x hx=>hv x (jad _ hx)) (by simp only [Array.size_setIfInBounds]; omega);refine ⟨w',c1,?_,h1,fun b' hne=>(h2 b' hne).trans (hoth b' hne),⟨by simpa using h3,fun j=>?_⟩,ho⟩
  ·simp only [storeCells,addr_add,Sem.run_bind]
   rw [run_store P w _ v _ (hv v (jae ..)),hcell];simp only [hfr,jas,jbd,Result.andThen_ok];exact hrun
  ·rw [h4 j]
   simp only [jba];by_cases hj:j = off + i
   ·subst hj
    rw [jaf (by omega),jah (by omega)];simp [hlt]
   ·by_cases hin:off + (i + 1) <= j/\j < off + (i + 1) + vs.length
    ·rw [jah hin,jah (by omega)]
     rw [show j - (off + i) = (j - (off + (i + 1))) + 1 from by omega,ja6]
    ·rw [jaf hin,jaf (by omega)]
     rw [jdc (fun h=>hj h.symm)]
theorem qnE {t:TypeId} {n b off:Nat} {c0:Array Value} {ty:TypeId} {v:Value} {vs:List Value} (hn:qV P t = some n) (hcs:v.cells = vs.toArray) (hl:vs.length = n)
  (hb:w.heap[b]? = some (.cells c0 ty (0,0))) (hv:∀ v ∈ vs,v.oneCell' = true) (hs:off + vs.length <= c0.size) :
  ∃ w' c1,(storeVar t ⟨b,off,none⟩ v).run P w = .ok () w'/\w'.heap[b]? = some (.cells c1 ty (0,0))/\(∀ b',b' ≠ b->w'.heap[b']? = w.heap[b']?)/\qir c0 c1 off vs/\w'.os = w.os/\w'.output = w.output:=by
 obtain ⟨w',c1,h1,h2,h3,h4,ho⟩:=qdg (P:=P) (b:=b) (off:=off) vs 0 c0 w hb hv (by simpa using hs);refine ⟨w',c1,?_,h2,h3,by simpa using h4,ho⟩;unfold storeVar;simp only [Sem.run_bind,qaI hn,Result.andThen_ok,hcs];have:vs.toArray.size = n:=by simpa using hl
 simp only [this,ne_eq,not_true_eq_false,jbd,Sem.run_pure,Result.andThen_ok];simpa using h1
theorem qdt {row:List Value} {c:Nat} {vs:List Value} (h:c + vs.length <= row.length) (j:Nat) :
  (qas row c vs)[j]? = if c <= j/\j < c + vs.length then vs[j - c]? else row[j]?:=by
 unfold qas;by_cases h1:j < c
 ·rw [jaf (by omega),jbr,jar (by simp; omega),jex h1]
 ·by_cases h2:j < c + vs.length
  ·rw [jah (by omega),jbr,jao (by simp; omega)]
   simp only [jbe];rw [jb8 (by omega),jar (by omega)]
  ·rw [jaf (by omega),jbr,jao (by simp; omega)]
   simp only [jbe];rw [jb8 (by omega),jao (by omega),jbc]
   congr 1; omega
theorem qm0 {row:List Value} {c:Nat} {vs:List Value} (h:c + vs.length <= row.length):(qas row c vs).length = row.length:=by
 simp [qas]; omega
theorem qnC (hg:Z.good) {x x':SH} {e:T} {p c r:Nat} {vs needs:List T} (h:qkF x e p c vs = some (x',needs)) {H:Hp} (hx:x.den Z H) (hr:x.reg = some r)
  (hn:∀ c ∈ needs,(c.den Z).b = true) :
  ∃ b c0 ty,(Z r).r = some ⟨b,0,none⟩/\H b = some (.cells c0 ty (0,0))/\(e.den Z).i.toNat * p + c + vs.length <= c0.size /\
   ∀ c1,qir c0 c1 ((e.den Z).i.toNat * p + c) (qd Z vs)->x'.den Z (Hp.upd H b (.cells c1 ty (0,0))):=by
 cases x with
 | cells r' ty ts =>
  simp only [SH.reg,jaa] at hr; subst hr;simp only [qkF] at h;split at h
  ·rename_i z hz
   split at h
   ·rename_i hc
    simp only [jaa,jau] at h;obtain ⟨rfl,rfl⟩:=h;have he:(e.den Z).i = z:=by unfold T.isLit at hz; split at hz <;> simp_all [T.den,O0.den]
    obtain ⟨b,h1,h2⟩:=hx;refine ⟨b,_,ty,h1,h2,by rw [he]; simp [qd]; omega,fun c1 hw=>?_⟩;rw [he] at hw;refine ⟨b,h1,?_⟩;simp only [Hp.upd,jbz,jaa]
    congr 1
    apply jfq;intro j;rw [hw.2 j];simp only [jda,qhS];rw [qdt (by simp [qd]; omega)]
   ·simp at h
  ·simp at h
 | arr r' ty pat d cap =>
  simp only [SH.reg,jaa] at hr; subst hr;simp only [qkF] at h;split at h
  ·rename_i hc
   simp only [jag,jd6] at hc;have hp:=Nat.eq_of_beq_eq_true hc.1.1;simp only [jaa,jau] at h;obtain ⟨rfl,rfl⟩:=h;have h0:=qw (hn _ (jae ..));have h1:=qdn (hn _ (jad _ (jae ..)));have hlt:(e.den Z).i.toNat < (d.den Z).d.length:=by omega
   have hrow:=jac hlt;rcases hx with ⟨_,hd,_⟩ | ⟨b,c0,g1,g2,g3,g4,g5⟩
   ·rw [hd] at hlt; simp at hlt
   ·obtain ⟨hfit,hcells⟩:=g5 _ _ hrow
    have hvl:(qd Z vs).length = vs.length:=by simp [qd]
    have hcapn:(d.den Z).d.length <= (cap.den Z).i.toNat:=by omega
    have hmul:((e.den Z).i.toNat + 1) * p <= (cap.den Z).i.toNat * p:=jbq _ (by omega);have hsz:(e.den Z).i.toNat * p + c + vs.length <= c0.size:=by
     rw [g3,<- hp];rw [jbt,jd0] at hmul;omega
    refine ⟨b,c0,ty,g1,g2,hsz,fun c1 hw=>.inr ⟨b,c1,g1,by simp [Hp.upd],by rw [hw.1,g3],?_,?_⟩⟩
    ·simp only [T.den,O3.den,qaQ,jdv]; exact g4
    ·simp only [T.den,O3.den,qi5,qaQ,hrow,ja2]
     intro i row hi;rw [jby] at hi;split at hi
     ·rename_i hie
      subst hie;simp only [hlt,jbz,jaa] at hi;subst hi;have hle:c + (qd Z vs).length <= ((d.den Z).d[(e.den Z).i.toNat]).length:=by rw [hfit.1,hvl]; omega
      refine ⟨⟨by rw [qm0 hle,hfit.1],fun j k v hk hv=>?_⟩,fun k v hv=>?_⟩
      ·rw [qdt hle] at hv
       split at hv
       ·rename_i hin
        refine qg0 hg hc.2 (j - c) k v ?_ hv;rw [jbc,show c + (j - c) = j from by omega]; exact hk
       ·exact hfit.2 j k v hk hv
      ·rw [qdt hle] at hv
       rw [hw.2];rw [hp];split at hv
       ·rename_i hin
        rw [jah (by omega)];rw [show 0 + (e.den Z).i.toNat * pat.length + k - ((e.den Z).i.toNat * pat.length + c) = k - c from by omega];exact hv
       ·rw [jaf (by omega)]
        exact hcells k v hv
     ·rename_i hie
      obtain ⟨hf2,hc2⟩:=g5 i row hi;refine ⟨hf2,fun k v hv=>?_⟩;have hkl:k < pat.length:=by
       rw [<- hf2.1];rcases jbu k row.length with h | h
       ·exact h
       ·rw [jat h] at hv; cases hv
      rw [hw.2,jaf ?_]
      ·exact hc2 k v hv
      ·rintro ⟨q1,q2⟩
       rw [hvl] at q2;rw [hp] at q1 q2;have hcl:c + vs.length <= pat.length:=by rw [<- hp]; exact hc.1.2
       have e1:(i * pat.length + k) / pat.length = i:=by
        rw [jce,jfg (by omega),jfb hkl]; omega
       have e2:(i * pat.length + k) / pat.length = (e.den Z).i.toNat:=by
        have:i * pat.length + k = pat.length * (e.den Z).i.toNat + (i * pat.length + k - (e.den Z).i.toNat * pat.length):=by
         rw [jce pat.length]; omega
        rw [this,jfg (by omega),jfb (by omega)]; omega
       exact hie (e2.symm.trans e1)
  ·split at h
   ·rename_i hc1
    have hp1:=Nat.eq_of_beq_eq_true hc1;subst hp1;split at h
    ·rename_i kk v hk hvs
     split at h
     ·rename_i hfv
      simp only [jaa,jau] at h;obtain ⟨rfl,rfl⟩:=h;have h0:=qw (hn _ (jae ..));have h1:=hn _ (jad _ (jae ..));rw [qK _ _ _ (by simp)] at h1;have h1:(e.den Z).i < ((qbX (.int kk) (pat.drop c):Nat):Int):=jbh h1;have h2:=qdn (hn _ (jad _ (jad _ (jae ..))));simp only [T.den,O0.den] at h2;rcases hx with ⟨_,hd,_⟩ | ⟨b,c0,g1,g2,g3,g4,g5⟩
      ·rw [hd] at h2; simp at h2
      ·obtain ⟨row,rest,hdd⟩:∃ row rest,(d.den Z).d = row :: rest:=by
        cases hdd:(d.den Z).d with
        | nil=>rw [hdd] at h2; simp at h2
        | cons row rest=>exact ⟨row,rest,rfl⟩
       obtain ⟨hfit,hcells⟩:=g5 0 row (by rw [hdd]; rfl);have hki:pat[(e.den Z).i.toNat + c]? = some (.int kk):=by
        have:=qeO (k:=.int kk) (l:=pat.drop c) (i:=(e.den Z).i.toNat) (by omega);rw [jbc,jdq] at this; exact this
       have hlt:(e.den Z).i.toNat + c < pat.length:=(jan.1 hki).1;have hcap:1 <= (cap.den Z).i.toNat:=by rw [hdd] at g4; simp at g4; omega
       have hsize:pat.length <= c0.size:=by
        rw [g3];have:=jbq pat.length hcap;omega
       refine ⟨b,c0,ty,g1,g2,by simp [qd]; omega,fun c1 hw=>.inr ⟨b,c1,g1,by simp [Hp.upd],by rw [hw.1,g3],?_,?_⟩⟩
       ·simp only [T.den,O3.den,hdd,qa0,jba]
        rw [hdd] at g4; simpa using g4
       ·simp only [T.den,O3.den,hdd,qa0]
        have hw2:=hw.2;simp only [qd,ja5,jb5,jba,jct,je5] at hw2;intro i row' hi;cases i with
        | zero =>
         simp only [jav,jaa] at hi;subst hi;refine ⟨⟨by rw [jdv,hfit.1],fun j k v' hk' hv'=>?_⟩,fun k v' hv'=>?_⟩
         ·rw [jby] at hv'
          split at hv'
          ·rename_i hj
           split at hv'
           ·simp only [jaa] at hv'; subst hv'
            subst hj;rw [hki] at hk';obtain rfl:=jax hk';have:=qg0 hg (ks:=[.int kk]) (ts:=[v]) (by simp only [qfi,hfv,jft]) 0 (.int kk) ((v.den Z).v) rfl rfl;exact this
           ·cases hv'
          ·exact hfit.2 j k v' hk' hv'
         ·rw [hw2]
          rw [jby] at hv';split at hv'
          ·rename_i hj
           split at hv'
           ·rw [jah (by omega),show 0 + 0 * pat.length + k - ((e.den Z).i.toNat + c) = 0 by omega]
            exact hv'
           ·cases hv'
          ·rename_i hj
           rw [jaf (by omega)];exact hcells k v' hv'
        | succ i =>
         simp only [ja6] at hi;obtain ⟨f2,c2⟩:=g5 (i + 1) row' (by rw [hdd]; simpa using hi);refine ⟨f2,fun k v' hv'=>?_⟩;rw [hw2,jaf ?_]
         ·exact c2 k v' hv'
         ·rw [jbt]; omega
     ·simp at h
    ·rename_i v hk hvs
     split at h
     ·rename_i hfv
      simp only [jaa,jau] at h;obtain ⟨rfl,rfl⟩:=h;have h0:=qw (hn _ (jae ..));have h1:=hn _ (jad _ (jae ..));rw [qK _ _ _ (by simp)] at h1;have h1:(e.den Z).i < ((qbX .bool (pat.drop c):Nat):Int):=jbh h1;have h2:=qdn (hn _ (jad _ (jad _ (jae ..))));simp only [T.den,O0.den] at h2;rcases hx with ⟨_,hd,_⟩ | ⟨b,c0,g1,g2,g3,g4,g5⟩
      ·rw [hd] at h2; simp at h2
      ·obtain ⟨row,rest,hdd⟩:∃ row rest,(d.den Z).d = row :: rest:=by
        cases hdd:(d.den Z).d with
        | nil=>rw [hdd] at h2; simp at h2
        | cons row rest=>exact ⟨row,rest,rfl⟩
       obtain ⟨hfit,hcells⟩:=g5 0 row (by rw [hdd]; rfl);have hki:pat[(e.den Z).i.toNat + c]? = some .bool:=by
        have:=qeO (k:=.bool) (l:=pat.drop c) (i:=(e.den Z).i.toNat) (by omega);rw [jbc,jdq] at this; exact this
       have hlt:(e.den Z).i.toNat + c < pat.length:=(jan.1 hki).1;have hcap:1 <= (cap.den Z).i.toNat:=by rw [hdd] at g4; simp at g4; omega
       have hsize:pat.length <= c0.size:=by
        rw [g3];have:=jbq pat.length hcap;omega
       refine ⟨b,c0,ty,g1,g2,by simp [qd]; omega,fun c1 hw=>.inr ⟨b,c1,g1,by simp [Hp.upd],by rw [hw.1,g3],?_,?_⟩⟩
       ·simp only [T.den,O3.den,hdd,qa0,jba]
        rw [hdd] at g4; simpa using g4
       ·simp only [T.den,O3.den,hdd,qa0]
        have hw2:=hw.2;simp only [qd,ja5,jb5,jba,jct,je5] at hw2;intro i row' hi;cases i with
        | zero =>
         simp only [jav,jaa] at hi;subst hi;refine ⟨⟨by rw [jdv,hfit.1],fun j k v' hk' hv'=>?_⟩,fun k v' hv'=>?_⟩
         ·rw [jby] at hv'
          split at hv'
          ·rename_i hj
           split at hv'
           ·simp only [jaa] at hv'; subst hv'
            subst hj;rw [hki] at hk';obtain rfl:=jax hk';have:=qg0 hg (ks:=[.bool]) (ts:=[v]) (by simp only [qfi,hfv,jft]) 0 .bool ((v.den Z).v) rfl rfl;exact this
           ·cases hv'
          ·exact hfit.2 j k v' hk' hv'
         ·rw [hw2]
          rw [jby] at hv';split at hv'
          ·rename_i hj
           split at hv'
           ·rw [jah (by omega),show 0 + 0 * pat.length + k - ((e.den Z).i.toNat + c) = 0 by omega]
            exact hv'
           ·cases hv'
          ·rename_i hj
           rw [jaf (by omega)];exact hcells k v' hv'
        | succ i =>
         simp only [ja6] at hi;obtain ⟨f2,c2⟩:=g5 (i + 1) row' (by rw [hdd]; simpa using hi);refine ⟨f2,fun k v' hv'=>?_⟩;rw [hw2,jaf ?_]
         ·exact c2 k v' hv'
         ·rw [jbt]; omega
     ·simp at h
    ·simp at h
   ·simp at h
 | abs m t=>simp [SH.reg] at hr
theorem qs.alloc {heap:List SH} {w:World} {nx:Nat} {cs:List T} {ty:TypeId} {c:Array Value} (h:qs Z hF heap w) (hsc:heap.all (SH.inB nx) = true)
  (hcs:qd (Z.set nx { r:=some ⟨w.heap.size,0,none⟩ }) cs = c.toList) :
  qs (Z.set nx { r:=some ⟨w.heap.size,0,none⟩ }) hF (.cells nx ty cs :: heap) { w with heap:=w.heap.push (.cells c ty) }:=by
 obtain ⟨hO,hd,hst,hsub,hwi⟩:=h;have hlt:∀ y o,Hp.union hF hO y = some o->y < w.heap.size:=fun y o hy=>by
  have:=hsub y o hy;rcases jbu y w.heap.size with h | h
  ·exact h
  ·rw [jcx h] at this; cases this
 have hno:∀ h',Hp.le h' (Hp.union hF hO)->Hp.disj h' (Hp.one w.heap.size (.cells c ty)):=fun h' hl y=>by
  by_cases hy:y = w.heap.size
  ·left
   cases hx:h' y with
   | none=>rfl
   | some o=>have:=hlt y o (hl y o hx); omega
  ·right; simp [Hp.one,hy]
 refine ⟨Hp.union (Hp.one w.heap.size (.cells c ty)) hO,?_,⟨_,hO,(hno hO (Hp.le_right hd)).symm,rfl,⟨w.heap.size,by simp,?_⟩,?_⟩,?_⟩
 ·exact Hp.disj_union.2 ⟨hno hF (Hp.le_left _ _),hd⟩
 ·rw [hcs]; simp [Hp.one]
 ·exact qaA (n:=nx) (fun m hm=>(Env.set_ne Z _ (by omega)).symm) _ hsc _ hst
 ·refine ⟨fun y o hy=>?_,hwi⟩
  by_cases hyb:y = w.heap.size
  ·subst hyb
   have:hF w.heap.size = none:=by
    cases hx:hF w.heap.size with
    | none=>rfl
    | some o'=>have:=hlt w.heap.size o' (Hp.le_left _ _ _ _ hx); omega
   simp only [Hp.union,this,Hp.one,jbz,jb2,jc5,jaa] at hy;subst hy;simp
  ·have hy':Hp.union hF hO y = some o:=by
    simp only [Hp.union,Hp.one,hyb,jbd,jb2] at hy ⊢;exact hy
   have h1:=hsub y o hy';have h2:=hlt y o hy';rw [je6 h2]
   rwa [jcp h2] at h1
end Go.Eng
namespace Go.Eng
open Go
variable {P:Program} {Z:Env} {hF:Fr} {s:S} {a:Act} {w:World} {o:Oper} {r:R1}
def qq (Z:Env) (n:Nat):List U->Env
 | []=>Z
 | u :: us=>qq (Z.set n u) (n + 1) us
def Ran (P:Program) (a:Act) (o:Oper) (Z:Env) (val:Option SV) (w w':World):Prop :=
 match val with
 | some v=>(execOp a.eval o).run P w = .ok (.value (v.den Z)) w'
 | none=>(execOp a.eval o).run P w = .ok .skip w'
def qi (P:Program) (Z:Env) (hF:Fr) (s:S) (a:Act) (w:World) (o:Oper) (r:R1):Prop :=
 ∃ us w',us.length = r.fresh/\(∀ u ∈ us,u.good)/\qs (qq Z s.nx us) hF r.heap w'/\Ran P a o (qq Z s.nx us) r.val w w'/\(r.fresh = 0->r.val.isSome = true->w' = w)
theorem qi.quiet {needs:List T} {v:SV} (hs:Holds Z hF s a w) (h:(execOp a.eval o).run P w = .ok (.value (v.den Z)) w) :
  qi P Z hF s a w o { needs,fresh:=0,heap:=s.heap,val:=some v } :=
 ⟨[],w,rfl,by simp,hs.hp,h,fun _ _=>rfl⟩
theorem quO {x:Operand} (hs:Holds Z hF s a w) (hop:o.op = .move x∨o.op = .assign x) (h:(opd s x).map (quiet s) = some r):qi P Z hF s a w o r:=by
 simp only [jai] at h;obtain ⟨v,hv,rfl⟩:=h;refine qi.quiet hs ?_;have:=hs.opd hv;rcases hop with hop | hop <;> simp [execOp,hop,this]
theorem qdK (hs:Holds Z hF s a w) {c:T} {b:Bool} (h:qcx c s.pc = some b):(c.den Z).b = b:=by
 have look:∀ {l:List (T × Bool)} {c:T} {b:Bool},(∀ c b,(c,b) ∈ l->(c.den Z).b = b)->qoj c l = some b->(c.den Z).b = b:=by
  intro l
  induction l with
  | nil=>intro c b _ h; simp [qoj] at h
  | cons x l ih =>
   intro c b hl h;obtain ⟨k,b'⟩:=x;simp only [qoj] at h;split at h
   ·rename_i hsame
    simp only [jaa] at h;rw [T.same_eq hsame,<- h];exact hl k b' (jae ..)
   ·exact ih (fun c b hm=>hl c b (jad _ hm)) h
 unfold qcx at h;split at h
 ·simp only [jaa] at h; subst h; rfl
 ·simp only [jai] at h
  obtain ⟨b',h1,rfl⟩:=h;simp [T.den,O1.den,look hs.pc h1]
 ·exact look hs.pc h
theorem q6c {c x y:Operand} (hs:Holds Z hF s a w) (hop:o.op = .pick c x y) (h:qp P s o = some r):qi P Z hF s a w o r:=by
 simp only [qp,hop] at h;split at h
 ·rename_i t ht
  have hc:=hs.opd ht;simp only [SV.den,T.den,O1.den] at hc;split at h
  ·rename_i hk
   have hk:=qdK hs hk;simp only [jai] at h;obtain ⟨v,hv,rfl⟩:=h;refine qi.quiet hs ?_;simp [execOp,hop,hc,hk,asBool,hs.opd hv]
  ·rename_i hk
   have hk:=qdK hs hk;simp only [jai] at h;obtain ⟨v,hv,rfl⟩:=h;refine qi.quiet hs ?_;simp [execOp,hop,hc,hk,asBool,hs.opd hv]
  ·simp at h
 ·simp at h
theorem q1e (Z:Env) (n b:Nat):SV.den (Z.set n { r:=some ⟨b,0,none⟩ }) (.one (.vptr n (.lit 0) 0 0)) = .pointer (some ⟨b,0,none⟩):=by
 simp [SV.den,T.den,O0.den,O1.den,qn]
theorem qAv {ty:TypeId} {x:Operand} (hs:Holds Z hF s a w) (hop:o.op = .box ty x) (hsc:s.scopedEH = true) (h:qp P s o = some r):qi P Z hF s a w o r:=by
 simp only [qp,hop] at h;split at h
 ·rename_i cs hcs
  simp only [jaa] at h; subst h;simp only [jam] at hcs;obtain ⟨v,hv,hc⟩:=hcs;have hin:=qwR hc (qmX hsc hv);have hev:=hs.opd hv;have hcd:=qjK hs.gd hc;have hg:qd (Z.set s.nx { r:=some ⟨w.heap.size,0,none⟩ }) cs = qd Z cs:=qbk (fun m hm=>Env.set_ne Z _ (by omega)) cs hin;have hsh:s.heap.all (SH.inB s.nx) = true:=by simp only [S.scopedEH,jag] at hsc; exact hsc.2
  refine ⟨[{ r:=some ⟨w.heap.size,0,none⟩ }],_,rfl,by simp [U.good,Value.oneCell'],qs.alloc hs.hp hsh (c:=(v.den Z).cells) (by rw [hg,hcd]),?_,fun h=>by cases h⟩;simp only [Ran,qq,q1e];simp [execOp,hop,hev,Instr.box,newVar,newRow]
 ·simp at h
theorem q4M {ty:TypeId} (hs:Holds Z hF s a w) (hop:o.op = .alloc ty) (hsc:s.scopedEH = true) (h:qp P s o = some r):qi P Z hF s a w o r:=by
 simp only [qp,hop] at h;split at h
 ·rename_i cs hcs
  simp only [jaa] at h; subst h;obtain ⟨v,hz,hcd⟩:=qnU (P:=P) (Z:=Z.set s.nx { r:=some ⟨w.heap.size,0,none⟩ }) hcs w;have hsh:s.heap.all (SH.inB s.nx) = true:=by simp only [S.scopedEH,jag] at hsc; exact hsc.2
  refine ⟨[{ r:=some ⟨w.heap.size,0,none⟩ }],_,rfl,by simp [U.good,Value.oneCell'],qs.alloc hs.hp hsh (c:=v.cells) (by rw [hcd]),?_,fun h=>by cases h⟩;simp only [Ran,qq,q1e];simp [execOp,hop,Instr.alloc,hz,newVar,newRow]
 ·simp at h
theorem qY {t:T} {z:Int} (h:t.isLit = some z):t = .lit z:=by
 unfold T.isLit at h; split at h <;> simp_all
theorem q7R {t:TypeId} {x:Operand} (hs:Holds Z hF s a w) (hop:o.op = .load t x) (h:qp P s o = some r) (hn:∀ c ∈ r.needs,(c.den Z).b = true):qi P Z hF s a w o r:=by
 simp only [qp,hop] at h;split at h
 ·rename_i rg p c e ag n hx hag hsz
  have hev:=hs.opd hx;split at h
  ·rename_i k y hf
   obtain ⟨H,hsub,hro,hreg⟩:=hs.found hf;split at h
   ·rename_i cs needs hrd
    split at h
    ·rename_i hagt
     simp only [jaa] at h; subst h; subst hagt;obtain ⟨hl,b,off,c',ty,fr,h1,h2,h3⟩:=qfa hrd hro hreg hn;refine qi.quiet hs ?_;have hrun:=qdJ (P:=P) (w:=w) hag hsz (hsub _ _ h2) (by simp [qd,hl]) h3 (by simp);simp only [SV.den,T.den,O1.den,h1,qn,ja0] at hev ⊢;simp [execOp,hop,hev,Instr.loadAt,Instr.sureAddr,hrun]
    ·rename_i hagf
     split at h
     ·rename_i t' _
      simp only [jaa] at h; subst h;obtain ⟨hl,b,off,c',ty,fr,h1,h2,h3⟩:=qfa hrd hro hreg hn;refine qi.quiet hs ?_;have hagf':ag = false:=by simpa using hagf
      have hrun:=qdJ (P:=P) (w:=w) hag hsz (hsub _ _ h2) (by rw [<- hl]; simp [qd]) h3 (fun _=>by rw [<- hl]; rfl);subst hagf';simp only [SV.den,T.den,O1.den,h1,qn,ja0] at hev ⊢;simp [execOp,hop,hev,Instr.loadAt,Instr.sureAddr,hrun,qd]
     ·simp at h
   ·simp at h
  ·simp at h
 ·simp at h
theorem q4N {t:TypeId} {x y:Operand} (hs:Holds Z hF s a w) (hop:o.op = .store t x y) (h:qp P s o = some r) (hn:∀ c ∈ r.needs,(c.den Z).b = true):qi P Z hF s a w o r:=by
 simp only [qp,hop] at h;split at h
 ·rename_i rg p c e vs n hx hvs hsz
  have hev:=hs.opd hx;split at h
  ·rename_i hlen
   have hlen:=Nat.eq_of_beq_eq_true hlen;split at h
   ·rename_i k x0 hat
    simp only [jai,jdo] at h;obtain ⟨x',needs,hwr,rfl⟩:=h;simp only [jam] at hvs;obtain ⟨v,hv,hc⟩:=hvs;have hvev:=hs.opd hv;have hcd:=qjK hs.gd hc;obtain ⟨hk,hreg⟩:=qO hat;obtain ⟨hO,hd,hst,hsub,hwi⟩:=hs.hp;obtain ⟨t1,t2,td,tu,tx,ts⟩:=qae hst hk;obtain ⟨b,c0,ty,g1,g2,g3,g4⟩:=qnC hs.gd hwr tx hreg hn;have hle:Hp.le t1 (Hp.union hF hO):=Hp.le_trans (tu ▸ Hp.le_left t1 t2) (Hp.le_right hd);obtain ⟨w',c1,hrun,hw1,hw2,hwrote,hos⟩:=qnE (P:=P) (w:=w) (off:=(e.den Z).i.toNat * p + c) hsz hcd (by simp [qd,hlen]) (hsub _ _ (hle _ _ g2)) (qhY hs.gd vs)
     (by simpa [qd] using g3)
    have hdisj:Hp.disj (Hp.upd t1 b (.cells c1 ty (0,0))) t2:=fun y=>by
     rcases td y with h | h
     ·unfold Hp.upd
      split
      ·rename_i he; subst he; rw [g2] at h; cases h
      ·exact .inl h
     ·exact .inr h
    refine ⟨[],w',rfl,by simp,⟨Hp.union (Hp.upd t1 b (.cells c1 ty (0,0))) t2,?_,qdr hk ts hdisj (g4 c1 hwrote),?_,⟨hos.1.trans hwi.1,hos.2.trans hwi.2⟩⟩,?_,fun _ h=>by cases h⟩
    ·intro y
     rcases hd y with h | h
     ·exact .inl h
     ·right
      rw [tu] at h;simp only [Hp.union,jcr] at h ⊢;refine ⟨?_,h.2⟩;unfold Hp.upd;split
      ·rename_i he; subst he; rw [g2] at h; cases h.1
      ·exact h.1
    ·intro y ob hy
     by_cases hyb:y = b
     ·subst hyb
      have hFn:hF y = none:=(hd y).resolve_right (by rw [tu]; simp [Hp.union,g2]);simp only [Hp.union,hFn,Hp.upd,jbz,jb2,jc5,jaa] at hy;rw [hw1,hy]
     ·rw [hw2 y hyb]
      refine hsub y ob ?_;rw [tu];simp only [Hp.union,Hp.upd,hyb,jbd] at hy ⊢;exact hy
    ·simp only [Ran]
     simp only [SV.den,T.den,O1.den,g1,qn,ja0] at hev;simp [execOp,hop,hev,hvev,Instr.storeAt,Instr.sureAddr,hrun]
   ·simp at h
  ·simp at h
 ·simp at h
theorem qdH (hs:Holds Z hF s a w) {r:Nat} {e:T} (h:∀ c ∈ qig s r e,(c.den Z).b = true):(Z r).r.isSome = true:=by
 unfold qig at h;split at h
 ·rename_i r' ty cs hf
  obtain ⟨H,_,hro,hreg⟩:=hs.found hf;simp only [SH.reg,jaa] at hreg; subst hreg;obtain ⟨b,o,c,ty',fr,h1,_⟩:=hro;rw [h1]; rfl
 ·rename_i r' ty pat d cap hf
  obtain ⟨H,_,hro,hreg⟩:=hs.found hf;simp only [SH.reg,jaa] at hreg; subst hreg;have h0:=qw (h _ (jae ..));have h1:=qdn (h _ (jad _ (jae ..)));rcases hro with hd | ⟨b,o,c,ty',fr,h1,_⟩
  ·rw [hd] at h1; simp at h1; omega
  ·rw [h1]; rfl
 ·have:=h _ (jak.2 rfl)
  simp only [T.den,O0.den,O1.den] at this;cases hr:(Z r).r <;> simp_all
theorem qvg {x:Operand} (hs:Holds Z hF s a w) (hop:o.op = .nilCheck x) (h:qp P s o = some r) (hn:∀ c ∈ r.needs,(c.den Z).b = true):qi P Z hF s a w o r:=by
 simp only [qp,hop] at h;split at h
 ·rename_i rg p c e hx
  have hev:=hs.opd hx;simp only [jaa] at h; subst h;have ht:=qdH hs hn;refine qi.quiet hs ?_;simp only [SV.den,T.den,O1.den] at hev ⊢;obtain ⟨bo,hb⟩:=qcO ht ((e.den Z).i.toNat * p + c);rw [hb] at hev;simp [execOp,hop,hev,hb]
 ·simp at h
theorem qm5 {t:TypeId} {f:Nat} {off:Nat} {u:TypeId} (h:qrI P t f = some (off,u)):∃ fs fd n,P.underlying t = some (.struct fs)/\fs[f]? = some fd/\qV P fd.type = some (n + 1)/\fd.offset = off/\fd.type = u:=by
 unfold qrI at h;split at h
 ·rename_i fs hu
  split at h
  ·rename_i fd hfd
   split at h
   ·rename_i n hn
    simp only [jaa,jau] at h;exact ⟨fs,fd,n,hu,hfd,hn,h.1,h.2⟩
   ·simp at h
  ·simp at h
 ·simp at h
theorem qsY {t:TypeId} {x:Operand} {f:Nat} (hs:Holds Z hF s a w) (hop:o.op = .fieldAddr t x f) (h:qp P s o = some r) (hn:∀ c ∈ r.needs,(c.den Z).b = true):qi P Z hF s a w o r:=by
 simp only [qp,hop] at h;split at h
 ·rename_i rg p c e off u hx hf
  have hev:=hs.opd hx;simp only [jaa] at h; subst h;have ht:=qdH hs hn;obtain ⟨fs,fd,n,hu,hfd,hsz,rfl,rfl⟩:=qm5 hf;refine qi.quiet hs ?_;simp only [SV.den,T.den,O1.den] at hev ⊢;obtain ⟨bo,hb⟩:=qcO ht ((e.den Z).i.toNat * p + c);rw [hb] at hev;rw [<- jcq,qeD _ hb];simp [execOp,hop,hev,Instr.fieldAt,Instr.sureAddr,qu hu,hfd,fieldPlace,qaI hsz]
 ·simp at h
theorem q4a {t:TypeId} {x:Operand} {f:Nat} (hs:Holds Z hF s a w) (hop:o.op = .field t x f) (h:qp P s o = some r):qi P Z hF s a w o r:=by
 simp only [qp,hop] at h;split at h
 ·rename_i cs off u hx hf
  have hev:=hs.opd hx;obtain ⟨fs,fd,n0,hu,hfd,hsz0,rfl,rfl⟩:=qm5 hf;split at h
  ·rename_i n hag hsz
   split at h
   ·rename_i hle
    simp only [jaa] at h; subst h;refine qi.quiet hs ?_;simp only [SV.den] at hev ⊢;simp [execOp,hop,hev,Instr.field,qu hu,hfd,asAgg,part,qfo hag,qaI hsz,qd,jes]
   ·simp at h
  ·rename_i hag
   simp only [jai] at h;obtain ⟨t',ht',rfl⟩:=h;refine qi.quiet hs ?_;simp only [SV.den] at hev ⊢;simp [execOp,hop,hev,Instr.field,qu hu,hfd,asAgg,part,qfo hag,qd,ht']
  ·simp at h
 ·simp at h
theorem qaO (x y:T):((qau x y).den Z).i = (x.den Z).i + (y.den Z).i:=by
 unfold qau;split
 ·rename_i u v hu hv; rw [qY hu,qY hv]; simp [T.den,O0.den]
 ·rename_i u hu hv
  split
  ·rename_i h0; rw [qY hu,h0]; simp [T.den,O0.den]
  ·rfl
 ·rename_i u hu hv
  split
  ·rename_i h0; rw [qY hv,h0]; simp [T.den,O0.den]
  ·rfl
 ·rfl
theorem qtr {t:TypeId} {x i:Operand} (hs:Holds Z hF s a w) (hop:o.op = .indexAddr t x i) (h:qp P s o = some r) (hn:∀ c ∈ r.needs,(c.den Z).b = true):qi P Z hF s a w o r:=by
 simp only [qp,hop] at h;split at h
 ·rename_i el rg p off len cap kk j hu hx hi
  have hev:=hs.opd hx;have hei:=hs.opd hi;split at h
  ·rename_i n hsz
   split at h
   ·rename_i hnp
    have hnp:=Nat.eq_of_beq_eq_true hnp;simp only [jaa] at h; subst h;simp only [jd1,jdd] at hn;have h0:=qw (hn _ (jae ..));have h1:=hn _ (jad _ (jae ..));rw [qK _ _ _ (by simp)] at h1;have h1:(j.den Z).i < (len.den Z).i:=jbh h1;have h2:=qw (hn _ (jad _ (jad _ (jae ..))));have ht:=qdH hs (e:=qau off j) (fun c hc=>hn c (jad _ (jad _ (jad _ hc))));obtain ⟨bo,hb⟩:=qcO ht ((off.den Z).i.toNat * p);refine qi.quiet hs ?_;have hpl:(off.den Z).i.toNat * p + (j.den Z).i.toNat * p = ((off.den Z).i + (j.den Z).i).toNat * p:=by
     rw [<- jbt]; congr 1; omega
    have hcond:¬ (max (len.den Z).i 0 <= (j.den Z).i):=by omega
    simp only [SV.den,T.den,O1.den,O3.den,qaO] at hev hei ⊢;rw [hb] at hev;rw [<- hpl,jci,qeD _ hb];subst hnp;simp [execOp,hop,hev,hei,Instr.indexAt,asIntOf,qu hu,h0,hcond,qaI hsz]
   ·simp at h
  ·simp at h
 ·rename_i m el rg p c e kk j hu hx hi
  have hev:=hs.opd hx;have hei:=hs.opd hi;split at h
  ·rename_i n z hsz hz
   split at h
   ·rename_i hc
    simp only [jaa] at h; subst h;have ht:=qdH hs hn;obtain ⟨bo,hb⟩:=qcO ht ((e.den Z).i.toNat * p + c);rw [qY hz] at hei;refine qi.quiet hs ?_;simp only [SV.den,T.den,O0.den,O1.den] at hev hei ⊢;rw [hb] at hev;rw [<- jcq,qeD _ hb];simp [execOp,hop,hev,hei,Instr.indexAt,Instr.sureAddr,asIntOf,qu hu,hc,qaI hsz]
   ·simp at h
  ·rename_i n hsz hz
   split at h
   ·rename_i hz0
    simp only [jaa] at h; subst h;have h0:=qw (hn _ (jae ..));have h1:=hn _ (jad _ (jae ..));rw [qK _ _ _ (by simp)] at h1;have h1:(j.den Z).i < (m:Int):=jbh h1;have ht:=qdH hs (e:=e) (fun c hc=>hn c (jad _ (jad _ hc)));obtain ⟨bo,hb⟩:=qcO ht c;have he0:(e.den Z).i = 0:=by rw [qY hz0]; simp [T.den,O0.den]
    refine qi.quiet hs ?_;simp only [SV.den,T.den,O0.den,O1.den,he0,jdk,jff,jbj] at hev hei ⊢;rw [hb] at hev;rw [jdq,qeD _ hb];simp [execOp,hop,hev,hei,Instr.indexAt,Instr.sureAddr,asIntOf,qu hu,h0,h1,qaI hsz]
   ·simp at h
  ·simp at h
 ·simp at h
theorem qcL (op:BinOp) (k:IntKind) (x y:T):((qgH op k x y).den Z).i = qc op k (x.den Z).i (y.den Z).i:=by
 unfold qgH;split
 ·rename_i u v hu hv; rw [qY hu,qY hv]; simp [T.den,O0.den]
 ·rfl
theorem q3U (k:IntKind) (x:T):((qx8 k x).den Z).i = k.wrap (x.den Z).i:=by
 unfold qx8;split
 ·rename_i u hu; rw [qY hu]; simp [T.den,O0.den]
 ·rfl
theorem qfK (x:T):((qjz x).den Z).b = !(x.den Z).b:=by
 unfold qjz;split <;> simp [T.den,O0.den,O1.den]
theorem qjR (x y:T):((qoi x y).den Z).b = ((x.den Z).b == (y.den Z).b):=by
 unfold qoi;split
 ·simp [T.den,O0.den]
 ·split
  ·rename_i h; rw [T.same_eq h]; simp [T.den,O0.den]
  ·rfl
theorem q5Y (x y:T):((q3r x y).den Z).i = if (y.den Z).i < (x.den Z).i then (y.den Z).i else (x.den Z).i:=by
 unfold q3r;split
 ·rename_i u v hu hv
  rw [qY hu,qY hv];simp only [T.den,O0.den];by_cases h:v < u <;> simp [h]
 ·rfl
theorem q5r (x y:T):((q36 x y).den Z).i = if (y.den Z).i > (x.den Z).i then (y.den Z).i else (x.den Z).i:=by
 unfold q36;split
 ·rename_i u v hu hv; rw [qY hu,qY hv]; simp [T.den,O0.den]
 ·rfl
theorem qna (x y:T):((qv1 x y).den Z).b = ((x.den Z).b && (y.den Z).b):=by
 unfold qv1; split <;> simp [T.den,O0.den,O2.den]
theorem qmh (hs:Holds Z hF s a w) (r:Nat):((qto s r).den Z).b = (Z r).r.isNone:=by
 unfold qto;split
 ·rename_i r' ty cs hf
  obtain ⟨H,_,hro,hreg⟩:=hs.found hf;simp only [SH.reg,jaa] at hreg; subst hreg;obtain ⟨b,o,c,ty',fr,h1,_⟩:=hro;simp [T.den,O0.den,h1]
 ·rename_i r' ty pat d cap hf
  obtain ⟨H,_,hro,hreg⟩:=hs.found hf;simp only [SH.reg,jaa] at hreg; subst hreg;rw [qna,qK _ _ _ (by simp),qaV];rcases hro with h2 | ⟨b,o,c,ty',fr,h1,_⟩
  ·simp [T.den,O0.den,h2,qJ]
  ·simp [T.den,O0.den,h1]
 ·rfl
theorem qcc {op:BinOp} {t:TypeId} {x y:Operand} {k k':IntKind} {m n:Int}:(eqGuard op t x y (.int k m) (.int k' n)).run P w = .ok () w:=by
 unfold eqGuard; split <;> simp
theorem qiD {op:BinOp} {t:TypeId} {x y:Operand} {m n:Bool}:(eqGuard op t x y (.bool m) (.bool n)).run P w = .ok () w:=by
 unfold eqGuard; split <;> simp
theorem qdW {op:BinOp} {t:TypeId} {x y:Operand} {m n:Option Addr}:(eqGuard op t x y (.pointer m) (.pointer n)).run P w = .ok () w:=by
 unfold eqGuard; split <;> simp
theorem qxL {ty:TypeId} (hu:P.underlying ty = some .bool) (m n:Bool):(binOp .eql ty (.bool m) (.bool n)).run P w = .ok (.bool (m == n)) w:=by
 simp only [binOp,Op.equal];rw [show Op.maxDepth = 9999 + 1 from rfl];simp only [Sem.run_bind,run_equalIn_bool' w 9999 ty m n hu,Result.andThen_ok,Sem.run_pure]
theorem qvX {ty:TypeId} (hu:P.underlying ty = some .bool) (m n:Bool):(binOp .neq ty (.bool m) (.bool n)).run P w = .ok (.bool (!(m == n))) w:=by
 simp only [binOp,Op.equal];rw [show Op.maxDepth = 9999 + 1 from rfl];simp only [Sem.run_bind,run_equalIn_bool' w 9999 ty m n hu,Result.andThen_ok,Sem.run_pure]
theorem qhE (d:Nat) {ty el:TypeId} (hu:P.underlying ty = some (.pointer el)) (m:Option Addr):(Op.equalIn (d + 1) ty (.pointer m) (.pointer none)).run P w = .ok m.isNone w:=by
 unfold Op.equalIn;simp only [Sem.run_bind,qu hu,Result.andThen_ok];cases m <;> simp
theorem qlf {ty el:TypeId} (hu:P.underlying ty = some (.pointer el)) (m:Option Addr):(binOp .eql ty (.pointer m) (.pointer none)).run P w = .ok (.bool m.isNone) w:=by
 have h:binOp .eql ty (.pointer m) (.pointer none) = (do pure (.bool (<- Op.equal ty (.pointer m) (.pointer none)))):=by cases m <;> rfl
 rw [h];simp only [Op.equal];rw [show Op.maxDepth = 9999 + 1 from rfl];simp only [Sem.run_bind,qhE 9999 hu,Result.andThen_ok,Sem.run_pure]
theorem qk8 {ty el:TypeId} (hu:P.underlying ty = some (.pointer el)) (m:Option Addr):(binOp .neq ty (.pointer m) (.pointer none)).run P w = .ok (.bool (!m.isNone)) w:=by
 have h:binOp .neq ty (.pointer m) (.pointer none) = (do pure (.bool (!(<- Op.equal ty (.pointer m) (.pointer none))))):=by cases m <;> rfl
 rw [h];simp only [Op.equal];rw [show Op.maxDepth = 9999 + 1 from rfl];simp only [Sem.run_bind,qhE 9999 hu,Result.andThen_ok,Sem.run_pure]
theorem qeN:∀ t:T,((qbW t).den Z).i = ((qaS (t.den Z).v).length:Int)
 | .c0 o=>by cases o <;> simp [qbW,T.den,O0.den,O1.den,qlb]
 | .c1 o x=>by cases o <;> simp [qbW,T.den,O1.den,qaV,bytesOf,qlb]
 | .c2 o x y=>by
  cases o <;> simp only [qbW,T.den,O1.den,O2.den];rw [qaO,qeN x,qeN y];simp [qlb]
 | .var n=>by simp [qbW,T.den,O1.den]
 | .c3 o x y z=>by simp [qbW,T.den,O1.den]
 | .ife x y u v=>by simp [qbW,T.den,O1.den]
theorem q4C {x y:T} (hx:qeX x = true) (hy:qeX y = true):((qwP x y).den Z).v = .string ⟨(qaS (x.den Z).v ++ qaS (y.den Z).v).toArray⟩:=by
 obtain ⟨sx,ex⟩:=qc8 (Z:=Z) hx;obtain ⟨sy,ey⟩:=qc8 (Z:=Z) hy;unfold qwP;split
 ·have e:qaS ((T.c0 (.vstr [])).den Z).v = []:=by simp [T.den,O0.den,qlb]
  rw [e,jdd,ey,qwO]
 ·have e:qaS ((T.c0 (.vstr [])).den Z).v = []:=by simp [T.den,O0.den,qlb]
  rw [e,jc6,ex,qwO]
 ·rfl
theorem qzD {ty:TypeId} {m n:ByteArray} (h:((qaS (.string m)).length:Int) + ((qaS (.string n)).length:Int) <= 9223372036854775807):(binOp .add ty (.string m) (.string n)).run P w = .ok (.string ⟨(qaS (.string m) ++ qaS (.string n)).toArray⟩) w:=by
 simp only [qaS,qfP,jfj] at h ⊢;have hs:¬ (((m.size + n.size:Nat):Int) > IntKind.i64.max):=by
  have h1:m.size = m.data.size:=rfl;have h2:n.size = n.data.size:=rfl;simp [IntKind.max,IntKind.signed,IntKind.bits]; omega
 have he:m ++ n = ⟨(m.data.toList ++ n.data.toList).toArray⟩:=by
  apply ByteArray.ext;apply jcv;simp
 simp only [binOp,Op.stringOp,jaf hs,he];rfl
theorem qea {op:BinOp} {t:TypeId} {x y:Operand} {m n:ByteArray}:(eqGuard op t x y (.string m) (.string n)).run P w = .ok () w:=by
 unfold eqGuard; split <;> simp
theorem q0p {ty:TypeId} {m n:ByteArray}:(binOp .eql ty (.string m) (.string n)).run P w = .ok (.bool (m.toList == n.toList)) w:=by
 simp [binOp,Op.stringOp]
theorem q0u {ty:TypeId} {m n:ByteArray}:(binOp .neq ty (.string m) (.string n)).run P w = .ok (.bool (!(m.toList == n.toList))) w:=by
 simp [binOp,Op.stringOp]
theorem q0k {ty:TypeId} {m n:ByteArray}:(binOp .lss ty (.string m) (.string n)).run P w = .ok (.bool (Op.bytesLess m.toList n.toList)) w:=by
 simp [binOp,Op.stringOp]
theorem qcY {op:BinOp} {t:TypeId} {x y:Operand} {m n:Option Addr} {i j k l:Nat}:(eqGuard op t x y (.slice m i j) (.slice n k l)).run P w = .ok () w:=by
 cases op <;> simp [eqGuard]
theorem qgh (d:Nat) {ty el:TypeId} (hu:P.underlying ty = some (.slice el)) (m:Option Addr) (i j:Nat):(Op.equalIn (d + 1) ty (.slice m i j) (.slice none 0 0)).run P w = .ok m.isNone w:=by
 unfold Op.equalIn;simp only [Sem.run_bind,qu hu,Result.andThen_ok];cases m <;> simp
theorem qiP {ty el:TypeId} (hu:P.underlying ty = some (.slice el)) (m:Option Addr) (i j:Nat):(binOp .eql ty (.slice m i j) (.slice none 0 0)).run P w = .ok (.bool m.isNone) w:=by
 have h:binOp .eql ty (.slice m i j) (.slice none 0 0) = (do pure (.bool (<- Op.equal ty (.slice m i j) (.slice none 0 0)))):=by cases m <;> rfl
 rw [h];simp only [Op.equal];rw [show Op.maxDepth = 9999 + 1 from rfl];simp only [Sem.run_bind,qgh 9999 hu,Result.andThen_ok,Sem.run_pure]
theorem qi7 {ty el:TypeId} (hu:P.underlying ty = some (.slice el)) (m:Option Addr) (i j:Nat):(binOp .neq ty (.slice m i j) (.slice none 0 0)).run P w = .ok (.bool (!m.isNone)) w:=by
 have h:binOp .neq ty (.slice m i j) (.slice none 0 0) = (do pure (.bool (!(<- Op.equal ty (.slice m i j) (.slice none 0 0))))):=by cases m <;> rfl
 rw [h];simp only [Op.equal];rw [show Op.maxDepth = 9999 + 1 from rfl];simp only [Sem.run_bind,qgh 9999 hu,Result.andThen_ok,Sem.run_pure]
def qfT (P:Program) (Z:Env) (t:TypeId) (cs:List T):Value :=
 match qdf P t with
 | some true=>.agg (qd Z cs).toArray
 | _=>(qd Z cs).headD .nilFunc
theorem qyN {t:TypeId} {ag:Bool} {n off:Nat} {cs:List T} (hag:qdf P t = some ag) (hn:qV P t = some n) (h1:(ag || Nat.beq n 1) = true) (hl:off + n <= cs.length) (w:World) :
  (part t (qd Z cs).toArray off).run P w = .ok (qfT P Z t ((cs.drop off).take n)) w:=by
 cases ag with
 | true=>simp [part,qfo hag,qaI hn,qfT,hag,qd,jes]
 | false =>
  simp only [Bool.false_or] at h1;have:=Nat.eq_of_beq_eq_true h1;subst this;have hlt:off < cs.length:=by omega
  simp only [part,Sem.run_bind,qfo hag,Result.andThen_ok,qfT,hag];have e1:(qd Z cs).toArray[off]? = some ((cs[off]).den Z).v:=by simp [qd,hlt]
  have e2:(cs.drop off).take 1 = [cs[off]]:=by rw [jcf hlt]; rfl
  rw [e2];simp [e1,qd,hlt]
theorem ql7 {f:TypeId->List T->List T->Option T} {d:Nat} {cs ds:List T} (hf:∀ t a b c (w:World),f t a b = some c->(Op.equalIn d t (qfT P Z t a) (qfT P Z t b)).run P w = .ok (c.den Z).b w) :
  ∀ {fs:List Field} {c:T} (w:World),qsL P f cs ds fs = some c->(Op.eqFields d (qd Z cs).toArray (qd Z ds).toArray fs).run P w = .ok (c.den Z).b w
 | [],c,w,h=>by simp only [qsL,jaa] at h; subst h; simp [Op.eqFields,T.den,O0.den]
 | x :: fs,c,w,h=>by
  simp only [qsL] at h;split at h
  ·rename_i hname
   split at h
   ·rename_i ag n r hag hn hr
    split at h
    ·rename_i hc
     simp only [jag,jd6] at hc;simp only [jai] at h;obtain ⟨a,ha,rfl⟩:=h;simp only [Op.eqFields,hname,ne_eq,not_false_eq_true,jbz,Sem.run_bind,qyN (Z:=Z) hag hn hc.1.1 hc.1.2,qyN (Z:=Z) hag hn hc.1.1 hc.2,Result.andThen_ok,hf _ _ _ _ _ ha];have:=ql7 hf w hr;cases hb:(a.den Z).b with
     | true=>simp [this,qna,hb]
     | false=>simp [qna,hb]
    ·simp at h
   ·simp at h
  ·rename_i hname
   simp only [Op.eqFields,hname,jbd];exact ql7 hf w h
theorem q6a:∀ (n d:Nat),n <= d->∀ (t:TypeId) (cs ds:List T) (c:T) (w:World),eqT P n t cs ds = some c->(Op.equalIn d t (qfT P Z t cs) (qfT P Z t ds)).run P w = .ok (c.den Z).b w:=by
 intro n
 induction n with
 | zero=>intro d _ t cs ds c w h; simp [eqT] at h
 | succ n ih =>
  intro d hd t cs ds c w h;obtain ⟨d',rfl⟩:∃ d',d = d' + 1:=⟨d - 1,by omega⟩;simp only [eqT] at h;split at h
  ·rename_i k0 hu
   split at h
   ·rename_i k a k' b
    split at h
    ·rename_i hk
     subst hk;simp only [jaa] at h; subst h;simp only [qfT,qdf,hu,qd,ja5,jb5,jbm,T.den,O1.den];rw [run_equalIn_int w d' t k k0 _ _ hu,qK _ _ _ (by simp)]; rfl
    ·simp at h
   ·simp at h
  ·rename_i hu
   split at h
   ·rename_i a b
    simp only [jaa] at h; subst h;simp only [qfT,qdf,hu,qd,ja5,jb5,jbm,T.den,O1.den];rw [run_equalIn_bool' w d' t _ _ hu,qjR]
   ·simp at h
  ·rename_i fs hu
   split at h
   ·simp at h
   ·rename_i hst
    have hfs:P.fieldsOf t = fs:=by simp [Program.fieldsOf,hu]
    simp only [qfT,qdf,hu];rw [run_equalIn_struct w d' t _ _ (by rw [hfs]; exact hu) (by simpa using hst),hfs];exact ql7 (fun t a b c w hc=>ih d' (by omega) t a b c w hc) w h
  ·simp at h
theorem q0l {t:TypeId} {cs ds:List T} {c:T} (h:q3C P t cs ds = some c):P.eqGuardType P.depth t = false/\(Op.equalIn 10000 t (.agg (qd Z cs).toArray) (.agg (qd Z ds).toArray)).run P w = .ok (c.den Z).b w:=by
 unfold q3C at h;split at h
 ·simp at h
 ·rename_i hg
  split at h
  ·rename_i fs hu
   refine ⟨by simpa using hg,?_⟩;have:=q6a (P:=P) (Z:=Z) 8 10000 (by omega) t cs ds c w h;simpa only [qfT,qdf,hu] using this
  ·simp at h
theorem qhw {k:IntKind}:∀ {ts:List T},qaH k ts = true->∃ zs:List Int,qd Z ts = zs.map (Value.int k)
 | [],_=>⟨[],rfl⟩
 | .c1 (.vint k') x :: l,h=>by
  simp only [qaH,jag,ja8] at h;obtain ⟨hk,hl⟩:=h;subst hk;obtain ⟨zs,hz⟩:=qhw hl;exact ⟨(x.den Z).i :: zs,by simp only [qd,ja5,T.den,O1.den] at hz ⊢; rw [hz]⟩
 | .var _ :: _,h=>by simp [qaH] at h
 | .c0 _ :: _,h=>by simp [qaH] at h
 | .c2 _ _ _ :: _,h=>by simp [qaH] at h
 | .c3 _ _ _ _ :: _,h=>by simp [qaH] at h
 | .ife _ _ _ _ :: _,h=>by simp [qaH] at h
 | .c1 (.conv _) _ :: _,h=>by simp [qaH] at h
 | .c1 .dlen _ :: _,h=>by simp [qaH] at h
 | .c1 .not _ :: _,h=>by simp [qaH] at h
 | .c1 .vbool _ :: _,h=>by simp [qaH] at h
 | .c1 (.vptr _ _ _) _ :: _,h=>by simp [qaH] at h
 | .c1 .vbytes _ :: _,h=>by simp [qaH] at h
 | .c1 .sval _ :: _,h=>by simp [qaH] at h
 | .c1 .slen _ :: _,h=>by simp [qaH] at h
 | .c1 .srows _ :: _,h=>by simp [qaH] at h
 | .c1 (.isg _) _ :: _,h=>by simp [qaH] at h
theorem qnM (ts:List T):(((T.row ts).den Z).d.headD []) = qd Z ts:=by rw [qi5]
theorem qm2:∀ (xs ys:List Int),xs.length = ys.length->((List.range xs.length).all fun i=>xs.getD i 0 == ys.getD i 0) = (xs == ys)
 | [],[],_=>rfl
 | x :: xs,y :: ys,h=>by
  have ih:=qm2 xs ys (by simpa using h);rw [jba,List.range_succ_eq_map,jdh,List.all_map];simp only [jfk,Function.comp_def,jfl,ih];simp [List.cons_beq_cons]
 | [],_ :: _,h=>by simp at h
 | _ :: _,[],h=>by simp at h
theorem qjv {e:TypeId} {k:IntKind} {zs:List Int} {i:Nat} (he:qdf P e = some false) (hi:i < zs.length) (w:World):(part e (zs.map (Value.int k)).toArray (i * 1)).run P w = .ok (.int k (zs.getD i 0)) w:=by
 have ha:(isAgg e).run P w = .ok false w:=qfo he w;simp [part,ha,List.getD,jac hi]
theorem qiJ (d:Nat) (t e:TypeId) (n:Nat) (k:IntKind) (ht:P.underlying t = some (.array n e)) (he:P.underlying e = some (.int k)) (hag:qdf P e = some false) (hsz:qV P e = some 1) (xs ys:List Int) (hx:xs.length = n) (hy:ys.length = n) (w:World) :
  (Op.equalIn (d + 2) t (.agg (xs.map (Value.int k)).toArray) (.agg (ys.map (Value.int k)).toArray)).run P w = .ok (xs == ys) w:=by
 rw [<- qm2 xs ys (hx.trans hy.symm),hx,List.range_eq_range',Op.equalIn];simp only [Sem.run_bind,run_underlying ht,Result.andThen_ok,qaI hsz,Std.Legacy.Range.forIn_eq_forIn_range',Std.Legacy.Range.size,jei,jc9,Nat.div_one];have hl:∀ i ∈ List.range' 0 n 1,i < n:=fun i hi=>by simpa using (List.mem_range'_1.1 hi).2
 generalize List.range' 0 n 1 = l at hl ⊢
 induction l with
 | nil=>simp
 | cons i l ih =>
  have hi:i < n:=hl i (by simp);have px:=qjv (P:=P) (k:=k) (zs:=xs) hag (i:=i) (by omega) w;have py:=qjv (P:=P) (k:=k) (zs:=ys) hag (i:=i) (by omega) w;have pe:(Op.equalIn (d + 1) e (.int k (xs.getD i 0)) (.int k (ys.getD i 0))).run P w = .ok (xs.getD i 0 == ys.getD i 0) w:=run_equalIn_int w d e k k _ _ he;simp only [List.forIn_cons,Sem.run_bind,px,py,pe,Result.andThen_ok,jdh];cases hb:(xs.getD i 0 == ys.getD i 0)
  ·simp
  ·simp only [jfu,jas,jbd,Sem.run_pure,Result.andThen_ok,jel]
   exact ih fun j hj=>hl j (by simp [hj])
theorem q9D (k:IntKind) (zs:List Int):(zs.map (Value.int k)).map qX = zs:=by
 rw [jdr]; exact List.map_id' zs
theorem q0h {t:TypeId} {cs ds:List T} {c:T} (h:q28 P t cs ds = some c):P.eqGuardType P.depth t = false/\(Op.equalIn 10000 t (.agg (qd Z cs).toArray) (.agg (qd Z ds).toArray)).run P w = .ok (c.den Z).b w:=by
 unfold q28 at h;split at h
 ·simp at h
 ·rename_i hg
  split at h
  ·rename_i n el hu
   split at h
   ·rename_i k hk hsz hag
    split at h
    ·rename_i hc
     simp only [jag] at hc;obtain ⟨⟨⟨l1,l2⟩,a1⟩,a2⟩:=hc;have l1:=Nat.eq_of_beq_eq_true l1;have l2:=Nat.eq_of_beq_eq_true l2;simp only [jaa] at h; subst h;refine ⟨by simpa using hg,?_⟩;obtain ⟨xs,hx⟩:=qhw (Z:=Z) a1;obtain ⟨ys,hy⟩:=qhw (Z:=Z) a2;have hxl:xs.length = n:=by have:=congrArg List.length hx; simp [qd] at this; omega
     have hyl:ys.length = n:=by have:=congrArg List.length hy; simp [qd] at this; omega
     rw [hx,hy,show (10000:Nat) = 9998 + 2 from rfl,qiJ 9998 t el n k hu hk hag hsz xs ys hxl hyl w];simp only [T.den,O2.den,qnM,hx,hy,q9D]
    ·simp at h
   ·simp at h
  ·simp at h
theorem qo7 {t:TypeId} {cs ds:List T} {c:T} (h:q3O P t cs ds = some c):P.eqGuardType P.depth t = false/\(Op.equalIn 10000 t (.agg (qd Z cs).toArray) (.agg (qd Z ds).toArray)).run P w = .ok (c.den Z).b w:=by
 unfold q3O at h;split at h
 ·rename_i c' hc
  simp only [jaa] at h; subst h;exact q0l hc
 ·exact q0h h
theorem qfn (r:Option Addr) (n:Nat):(qn r n).isNone = r.isNone:=by cases r <;> rfl
theorem q9Q {op:BinOp} {ty u:TypeId} {x y:Operand} (hs:Holds Z hF s a w) (hop:o.op = .binOp op ty x y u) (h:qp P s o = some r) (hn:∀ c ∈ r.needs,(c.den Z).b = true):qi P Z hF s a w o r:=by
 simp only [qp,hop] at h;split at h
 ·rename_i va vb hx hy
  have hex:=hs.opd hx;have hey:=hs.opd hy;unfold q0S at h;split at h
  ·rename_i k x1 k' y1
   simp only [SV.den,T.den,O1.den] at hex hey;split at h
   ·simp only [jaa] at h; subst h
    have h0:=hn _ (jak.2 rfl);rw [qK _ _ _ (by simp)] at h0;have h0:(y1.den Z).i ≥ 0:=jbh h0;refine qi.quiet hs ?_;simp [execOp,hop,hex,hey,qcc,binOp,Op.shift,Int.not_lt.2 h0,SV.den,T.den,O1.den,qcL,qc]
   ·simp only [jaa] at h; subst h
    have h0:=hn _ (jak.2 rfl);rw [qK _ _ _ (by simp)] at h0;have h0:(y1.den Z).i ≥ 0:=jbh h0;refine qi.quiet hs ?_;simp [execOp,hop,hex,hey,qcc,binOp,Op.shift,Int.not_lt.2 h0,SV.den,T.den,O1.den,qcL,qc]
   all_goals split at h
   all_goals first | (simp at h; done) | skip
   all_goals (rename_i hk; subst hk; simp only [jaa] at h; subst h)
   ·have h0:=hn _ (jak.2 rfl)
    rw [qK _ _ _ (by simp)] at h0;have h0:(y1.den Z).i ≠ 0:=by simpa [qJ,T.den,O0.den] using h0
    refine qi.quiet hs ?_;simp [execOp,hop,hex,hey,qcc,binOp,Op.intDiv,h0,SV.den,T.den,O1.den,qcL,qc]
   ·have h0:=hn _ (jak.2 rfl)
    rw [qK _ _ _ (by simp)] at h0;have h0:(y1.den Z).i ≠ 0:=by simpa [qJ,T.den,O0.den] using h0
    refine qi.quiet hs ?_;simp [execOp,hop,hex,hey,qcc,binOp,Op.intDiv,h0,SV.den,T.den,O1.den,qcL,qc]
   all_goals
    refine qi.quiet hs ?_
    first
     | (simp [execOp,hop,hex,hey,qcc,binOp,Op.intArith,Op.intBits,SV.den,T.den,O1.den,qcL,qc]; done)
     | (simp [execOp,hop,hex,hey,qcc,binOp,Op.intCmp,SV.den,T.den,O1.den,qK,qJ]; done)
  ·rename_i x1 y1
   simp only [SV.den,T.den,O1.den] at hex hey;split at h
   ·rename_i hu
    simp only [jaa] at h; subst h;refine qi.quiet hs ?_;simp only [execOp,hop,hex,hey,Sem.run_bind,qiD,qxL hu,Result.andThen_ok,Sem.run_pure,SV.den,T.den,O1.den,qjR]
   ·rename_i hu
    simp only [jaa] at h; subst h;refine qi.quiet hs ?_;simp only [execOp,hop,hex,hey,Sem.run_bind,qiD,qvX hu,Result.andThen_ok,Sem.run_pure,SV.den,T.den,O1.den,qjR,qfK]
   ·simp at h
  ·rename_i rg p c e
   simp only [SV.den,T.den,O0.den,O1.den] at hex hey;split at h
   ·rename_i el hu
    simp only [jaa] at h; subst h;refine qi.quiet hs ?_;simp only [execOp,hop,hex,hey,Sem.run_bind,qdW,qlf hu,Result.andThen_ok,Sem.run_pure,SV.den,T.den,O1.den,qmh hs,qfn]
   ·rename_i el hu
    simp only [jaa] at h; subst h;refine qi.quiet hs ?_;simp only [execOp,hop,hex,hey,Sem.run_bind,qdW,qk8 hu,Result.andThen_ok,Sem.run_pure,SV.den,T.den,O1.den,qfK,qmh hs,qfn]
   ·simp at h
  ·simp only [SV.den,T.den,O0.den,O1.den] at hex hey
   split at h
   ·rename_i el hu
    simp only [jaa] at h; subst h;refine qi.quiet hs ?_;simp only [execOp,hop,hex,hey,Sem.run_bind,qdW,qlf hu,Result.andThen_ok,Sem.run_pure,SV.den,T.den,O0.den,O1.den,jez]
   ·rename_i el hu
    simp only [jaa] at h; subst h;refine qi.quiet hs ?_;simp only [execOp,hop,hex,hey,Sem.run_bind,qdW,qk8 hu,Result.andThen_ok,Sem.run_pure,SV.den,T.den,O0.den,O1.den,jez,jfu]
   ·simp at h
  ·rename_i rg p off len cap
   simp only [SV.den,T.den,O0.den,O3.den] at hex hey;split at h
   ·rename_i el hu
    simp only [jaa] at h; subst h;refine qi.quiet hs ?_;simp only [execOp,hop,hex,hey,Sem.run_bind,qcY,qiP hu,Result.andThen_ok,Sem.run_pure,SV.den,T.den,O1.den,qmh hs,qfn]
   ·rename_i el hu
    simp only [jaa] at h; subst h;refine qi.quiet hs ?_;simp only [execOp,hop,hex,hey,Sem.run_bind,qcY,qi7 hu,Result.andThen_ok,Sem.run_pure,SV.den,T.den,O1.den,qfK,qmh hs,qfn]
   ·simp at h
  ·simp only [SV.den,T.den,O0.den,O3.den] at hex hey
   split at h
   ·rename_i el hu
    simp only [jaa] at h; subst h;refine qi.quiet hs ?_;simp only [execOp,hop,hex,hey,Sem.run_bind,qcY,qiP hu,Result.andThen_ok,Sem.run_pure,SV.den,T.den,O0.den,O1.den,jez]
   ·rename_i el hu
    simp only [jaa] at h; subst h;refine qi.quiet hs ?_;simp only [execOp,hop,hex,hey,Sem.run_bind,qcY,qi7 hu,Result.andThen_ok,Sem.run_pure,SV.den,T.den,O0.den,O1.den,jez,jfu]
   ·simp at h
  ·rename_i cs ds
   simp only [SV.den] at hex hey;split at h
   ·rename_i c hc
    simp only [jaa] at h; subst h;obtain ⟨g1,g2⟩:=qo7 (Z:=Z) (w:=w) hc;refine qi.quiet hs ?_;simp only [execOp,hop,hex,hey,Sem.run_bind,run_eqGuard_agg w _ _ _ _ _ _ g1,run_eql_struct,g2,Result.andThen_ok,Sem.run_pure,SV.den,T.den,O1.den]
   ·rename_i c hc
    simp only [jaa] at h; subst h;obtain ⟨g1,g2⟩:=qo7 (Z:=Z) (w:=w) hc;refine qi.quiet hs ?_;simp only [execOp,hop,hex,hey,Sem.run_bind,run_eqGuard_agg w _ _ _ _ _ _ g1,run_neq_struct,g2,Result.andThen_ok,Sem.run_pure,SV.den,T.den,O1.den,qfK]
   ·simp at h
  ·rename_i ta tb _ _ _ _ _ _ _
   split at h
   ·rename_i hstr
    simp only [jag] at hstr;obtain ⟨sa,hsa⟩:=qc8 (Z:=Z) hstr.1;obtain ⟨sb,hsb⟩:=qc8 (Z:=Z) hstr.2;simp only [SV.den,hsa,hsb] at hex hey;split at h
    ·simp only [jaa] at h; subst h
     refine qi.quiet hs ?_;simp only [execOp,hop,hex,hey,Sem.run_bind,qea,q0p,Result.andThen_ok,Sem.run_pure,SV.den,T.den,O1.den,O2.den,hsa,hsb,qaS]
    ·simp only [jaa] at h; subst h
     refine qi.quiet hs ?_;simp only [execOp,hop,hex,hey,Sem.run_bind,qea,q0u,Result.andThen_ok,Sem.run_pure,SV.den,qfK,T.den,O1.den,O2.den,hsa,hsb,qaS]
    ·simp only [jaa] at h; subst h
     refine qi.quiet hs ?_;simp only [execOp,hop,hex,hey,Sem.run_bind,qea,q0k,Result.andThen_ok,Sem.run_pure,SV.den,T.den,O1.den,O2.den,hsa,hsb,qaS]
    ·simp only [jaa] at h; subst h
     have hle:=hn _ (jak.2 rfl);rw [qK _ _ _ (by simp)] at hle;simp only [qJ,qaO,qeN,hsa,hsb,T.den,O0.den,ja8] at hle;refine qi.quiet hs ?_;simp only [execOp,hop,hex,hey,Sem.run_bind,qea,qzD hle,Result.andThen_ok,Sem.run_pure,SV.den,q4C hstr.1 hstr.2,hsa,hsb]
    ·simp at h
   ·simp at h
  ·simp at h
 ·simp at h
theorem q6n {op:UnOp} {t:TypeId} {x:Operand} (hs:Holds Z hF s a w) (hop:o.op = .unOp op t x) (h:qp P s o = some r):qi P Z hF s a w o r:=by
 simp only [qp,hop] at h;split at h
 ·rename_i t' hx
  have hev:=hs.opd hx;simp only [jaa] at h; subst h;refine qi.quiet hs ?_;simp only [SV.den,T.den,O1.den] at hev ⊢;simp [execOp,hop,hev,Op.unary,qfK]
 ·rename_i k t' hx
  have hev:=hs.opd hx;simp only [jaa] at h; subst h;refine qi.quiet hs ?_;simp only [SV.den,T.den,O1.den] at hev ⊢;simp [execOp,hop,hev,Op.unary,Op.intArith,qcL,qc,T.den,O0.den]
 ·rename_i k t' hx
  have hev:=hs.opd hx;simp only [jaa] at h; subst h;refine qi.quiet hs ?_;simp only [SV.den,T.den,O1.den] at hev ⊢;simp [execOp,hop,hev,Op.unary,Op.intBits,qcL,qc,T.den,O0.den]
 ·simp at h
theorem qxs {x:Operand} {i:Nat} (hs:Holds Z hF s a w) (hop:o.op = .extract x i) (h:qp P s o = some r):qi P Z hF s a w o r:=by
 simp only [qp,hop] at h;split at h
 ·rename_i vs hx
  have hev:=hs.opd hx;split at h
  ·rename_i ts hi
   simp only [jaa] at h; subst h;refine qi.quiet hs ?_;simp only [SV.den] at hev ⊢;simp [execOp,hop,hev,Instr.extract,hi,qeS]
  ·rename_i t' hi
   simp only [jaa] at h; subst h;refine qi.quiet hs ?_;simp only [SV.den] at hev ⊢;simp [execOp,hop,hev,Instr.extract,hi,qeS,qd]
  ·simp at h
 ·simp at h
theorem qiM:∀ {vs:List SV} {ts:List T},qd0 vs = some ts->vs.map (SV.den Z) = qd Z ts
 | [],ts,h=>by simp only [qd0,jaa] at h; subst h; rfl
 | .one t :: r,ts,h=>by
  simp only [qd0,jai] at h;obtain ⟨ts',h1,rfl⟩:=h;have:=qiM h1;simp only [ja5,this,qd,SV.den]
 | .agg _ :: r,ts,h=>by simp [qd0] at h
 | .tup _ :: r,ts,h=>by simp [qd0] at h
 | .fn _ _ _ :: r,ts,h=>by simp [qd0] at h
theorem qvs {fn:Fn} {first captured:Array Operand} (hs:Holds Z hF s a w) (hop:o.op = .makeFunc fn first captured) (h:qp P s o = some r):qi P Z hF s a w o r:=by
 simp only [qp,hop] at h;split at h
 ·rename_i x y hx hy
  simp only [jam] at hx hy;obtain ⟨vx,hx1,hx2⟩:=hx;obtain ⟨vy,hy1,hy2⟩:=hy;simp only [jaa] at h; subst h;refine qi.quiet hs ?_;have ex:=hs.opds hx1;have ey:=hs.opds hy1;rw [qiM hx2] at ex;rw [qiM hy2] at ey;simp only [SV.den];simp only [execOp,hop,Instr.makeFunc,Sem.run_bind,Sem.run_pure,Result.andThen_ok];rw [<- ex,<- ey]
  congr 3
  ·apply jcv; simp
  ·apply jcv; simp
 ·simp at h
theorem q85 {args:Array Operand} {tys:Array TypeId} (hs:Holds Z hF s a w) (hop:o.op = .call { callee:=.builtin .len,args,argTypes:=tys }) (h:qp P s o = some r) (hn:∀ c ∈ r.needs,(c.den Z).b = true):qi P Z hF s a w o r:=by
 simp only [qp,hop] at h;split at h
 ·rename_i el x ht ha
  simp only [jam] at ht;obtain ⟨t,ht0,htu⟩:=ht;have hargs:args = #[x]:=by apply jcv; simpa using ha
  split at h
  ·rename_i rg p off len cap hx
   have hev:=hs.opd hx;simp only [jaa] at h; subst h;have h0:=qw (hn _ (jak.2 rfl));refine qi.quiet hs ?_;simp only [SV.den,T.den,O1.den,O3.den] at hev ⊢;have:((len.den Z).i.toNat:Int) = (len.den Z).i:=by omega
   simp [execOp,hop,resolve,invoke,builtin,Builtin.len_,hargs,ht0,qu htu,hev,goInt];omega
  ·rename_i hx
   have hev:=hs.opd hx;simp only [jaa] at h; subst h;refine qi.quiet hs ?_;simp only [SV.den,T.den,O0.den,O1.den] at hev ⊢;simp [execOp,hop,resolve,invoke,builtin,Builtin.len_,hargs,ht0,qu htu,hev,goInt]
  ·simp at h
 ·rename_i x ht ha
  simp only [jam] at ht;obtain ⟨t,ht0,htu⟩:=ht;have hargs:args = #[x]:=by apply jcv; simpa using ha
  split at h
  ·rename_i u hx
   split at h
   ·rename_i hu
    have hev:=hs.opd hx;simp only [jaa] at h; subst h;obtain ⟨su,hsu⟩:=qc8 (Z:=Z) hu;refine qi.quiet hs ?_;simp only [SV.den,hsu] at hev;have hz:((qbW u).den Z).i = (su.size:Int):=by
     rw [qeN,hsu]; simp [qaS,qfP]
    simp only [SV.den,T.den,O1.den,hz];simp [execOp,hop,resolve,invoke,builtin,Builtin.len_,hargs,ht0,qu htu,hev,goInt]
   ·simp at h
  ·simp at h
 ·simp at h
theorem q8E {args:Array Operand} {tys:Array TypeId} (hs:Holds Z hF s a w) (hop:o.op = .call { callee:=.builtin .cap,args,argTypes:=tys }) (h:qp P s o = some r) (hn:∀ c ∈ r.needs,(c.den Z).b = true):qi P Z hF s a w o r:=by
 simp only [qp,hop] at h;split at h
 ·rename_i el x ht ha
  simp only [jam] at ht;obtain ⟨t,ht0,htu⟩:=ht;have hargs:args = #[x]:=by apply jcv; simpa using ha
  split at h
  ·rename_i rg p off len cap hx
   have hev:=hs.opd hx;simp only [jaa] at h; subst h;have h0:=qw (hn _ (jak.2 rfl));refine qi.quiet hs ?_;simp only [SV.den,T.den,O1.den,O3.den] at hev ⊢;have:((cap.den Z).i.toNat:Int) = (cap.den Z).i:=by omega
   simp [execOp,hop,resolve,invoke,builtin,Builtin.cap_,hargs,ht0,qu htu,hev,goInt];omega
  ·rename_i hx
   have hev:=hs.opd hx;simp only [jaa] at h; subst h;refine qi.quiet hs ?_;simp only [SV.den,T.den,O0.den,O1.den] at hev ⊢;simp [execOp,hop,resolve,invoke,builtin,Builtin.cap_,hargs,ht0,qu htu,hev,goInt]
  ·simp at h
 ·simp at h
theorem qn1:∀ {ts:List T},qlB ts = true->∃ zs:List Bool,qd Z ts = zs.map Value.bool
 | [],_=>⟨[],rfl⟩
 | t :: l,h=>by
  unfold qlB at h;split at h
  ·rename_i heq; cases heq
  ·rename_i x l' heq
   injection heq with h1 h2
   subst h1 h2;obtain ⟨zs,hz⟩:=qn1 h;exact ⟨(x.den Z).b :: zs,by simp only [qd,ja5] at hz ⊢; rw [hz]; rfl⟩
  ·cases h
theorem q3V {t:TypeId} {x i:Operand} (hs:Holds Z hF s a w) (hop:o.op = .index t x i) (h:qp P s o = some r) (hn:∀ c ∈ r.needs,(c.den Z).b = true):qi P Z hF s a w o r:=by
 simp only [qp,hop] at h;split at h
 ·rename_i u k j htu hx hi
  split at h
  ·rename_i hu
   have hev:=hs.opd hx;have hei:=hs.opd hi;simp only [jaa] at h; subst h;obtain ⟨su,hsu⟩:=qc8 (Z:=Z) hu;have h0:=qw (hn _ (jae ..));have h1:=hn _ (jad _ (jak.2 rfl));rw [qK _ _ _ (by simp)] at h1;simp only [qJ,qeN,hsu,ja8] at h1;refine qi.quiet hs ?_;simp only [SV.den,T.den,O1.den,hsu] at hev hei;have hl:(j.den Z).i.toNat < (qaS (.string su)).length:=by omega
   have hlz:(j.den Z).i.toNat < su.size:=by simpa [qaS,qfP] using hl
   have hg:su[(j.den Z).i.toNat]? = some ((qaS (.string su))[(j.den Z).i.toNat]'hl):=by
    rw [getElem?_pos su _ hlz];simp only [qaS,qfP,Array.getElem_toList];rfl
   simp only [SV.den,T.den,O1.den,O2.den,hsu,jac hl,ja2];simp only [execOp,hop,Sem.run_bind,hev,hei,Instr.index,asIntOf,Sem.run_pure,Result.andThen_ok,qu htu,jah h0,hg]
  ·simp at h
 ·rename_i n el ts k j htu hx hi
  have hev:=hs.opd hx;have hei:=hs.opd hi;simp only [SV.den,T.den,O1.den] at hev hei;unfold qx3 at h;split at h
  ·rename_i hsz hag
   split at h
   ·rename_i hl
    have hl:=Nat.eq_of_beq_eq_true hl;have hrun:∀ (z:Int) (v:Value),(j.den Z).i = z->0 <= z->z < n->(qd Z ts)[z.toNat]? = some v->(execOp a.eval o).run P w = .ok (.value v) w:=fun z v hz z0 z1 hv=>by
     have hcond:0 <= z/\z < (n:Int):=⟨z0,z1⟩;have ha:(isAgg el).run P w = .ok false w:=qfo hag w;simp only [execOp,hop,Sem.run_bind,hev,hei,hz,Instr.index,asIntOf,Sem.run_pure,Result.andThen_ok,qu htu,jah hcond,qaI hsz,part,ha,je5,jas,jbd,jda,hv]
    split at h
    ·rename_i z hz
     have hz':=qc5 (Z:=Z) hz;split at h
     ·rename_i hzc
      simp only [jai] at h;obtain ⟨t',ht',rfl⟩:=h;refine qi.quiet hs ?_;exact hrun z _ hz' hzc.1 hzc.2 (by simp [qd,ht',SV.den])
     ·simp at h
    ·split at h
     ·rename_i k0 _
      split at h
      ·rename_i hall
       simp only [jaa] at h; subst h;have h0:=qw (hn _ (jae ..));have h1:=hn _ (jad _ (jak.2 rfl));rw [qK _ _ _ (by simp)] at h1;have h1:(j.den Z).i < (n:Int):=jbh h1;obtain ⟨zs,hzs⟩:=qhw (Z:=Z) hall;refine qi.quiet hs ?_;have hzl:zs.length = n:=by
        have hq:=congrArg List.length hzs;rw [qd,ja7,ja7,hl] at hq;exact hq.symm
       have hget:zs[(j.den Z).i.toNat]? = some (zs[(j.den Z).i.toNat]'(by omega)):=jac (by omega);have hcell:((T.c2 (.xint 0) (T.row ts) j).den Z).i = zs[(j.den Z).i.toNat]'(by omega):=by
        simp only [T.den,O2.den,qa,qnM,hzs,jci,jaq,hget,ja0,ja2,qX]
       refine hrun _ _ rfl h0 h1 ?_;simp only [SV.den,T.den,O1.den] at hcell ⊢;rw [hcell,hzs,jaq,hget];rfl
      ·simp at h
     ·split at h
      ·rename_i hall
       simp only [jaa] at h; subst h;have h0:=qw (hn _ (jae ..));have h1:=hn _ (jad _ (jak.2 rfl));rw [qK _ _ _ (by simp)] at h1;have h1:(j.den Z).i < (n:Int):=jbh h1;obtain ⟨zs,hzs⟩:=qn1 (Z:=Z) hall;refine qi.quiet hs ?_;have hzl:zs.length = n:=by
        have hq:=congrArg List.length hzs;rw [qd,ja7,ja7,hl] at hq;exact hq.symm
       have hget:zs[(j.den Z).i.toNat]? = some (zs[(j.den Z).i.toNat]'(by omega)):=jac (by omega);have hcell:((T.c2 (.xbool 0) (T.row ts) j).den Z).b = zs[(j.den Z).i.toNat]'(by omega):=by
        simp only [T.den,O2.den,qay,qnM,hzs,jci,jaq,hget,ja0,ja2];rfl
       refine hrun _ _ rfl h0 h1 ?_;simp only [SV.den,T.den,O1.den] at hcell ⊢;rw [hcell,hzs,jaq,hget];rfl
      ·simp at h
   ·simp at h
  ·simp at h
 ·simp at h
theorem q8y {args:Array Operand} {tys:Array TypeId} (hs:Holds Z hF s a w) (hop:o.op = .call { callee:=.builtin .min,args,argTypes:=tys }) (h:qp P s o = some r):qi P Z hF s a w o r:=by
 simp only [qp,hop] at h;split at h
 ·rename_i k x k' y hx
  have he:=hs.opds hx;simp only [jaa] at h; subst h;refine qi.quiet hs ?_;simp only [ja5,jb5,SV.den,T.den,O1.den] at he ⊢;have hargs:args.map a.eval = #[.int k (x.den Z).i,.int k' (y.den Z).i]:=by apply jcv; simpa using he
  simp [execOp,hop,resolve,invoke,builtin,Builtin.min_,hargs,Builtin.min2,q5Y]
 ·simp at h
theorem q8F {args:Array Operand} {tys:Array TypeId} (hs:Holds Z hF s a w) (hop:o.op = .call { callee:=.builtin .max,args,argTypes:=tys }) (h:qp P s o = some r):qi P Z hF s a w o r:=by
 simp only [qp,hop] at h;split at h
 ·rename_i k x k' y hx
  have he:=hs.opds hx;simp only [jaa] at h; subst h;refine qi.quiet hs ?_;simp only [ja5,jb5,SV.den,T.den,O1.den] at he ⊢;have hargs:args.map a.eval = #[.int k (x.den Z).i,.int k' (y.den Z).i]:=by apply jcv; simpa using he
  simp [execOp,hop,resolve,invoke,builtin,Builtin.max_,hargs,Builtin.max2,q5r]
 ·simp at h
theorem qyS {n:Nat} {l vs:List T} {i:Nat} (h:l.all (T.inB n) = true) (h':vs.all (T.inB n) = true):(qdi l i vs).all (T.inB n) = true:=by
 rw [ja3] at *;intro x hx;unfold qdi at hx;rcases jaw.1 hx with hx | hx
 ·rcases jaw.1 hx with hx | hx
  ·exact h x (jbx hx)
  ·exact h' x hx
 ·exact h x (jb7 hx)
theorem qoE (off:Nat):∀ (l:List Value) (k:Nat) (cells:Array Value),off + k + l.length <= cells.size ->
  let r:=(l.zipIdx k).foldl (fun (cs:Array Value) (x:Value × Nat)=>cs.setIfInBounds (off + x.2) x.1) cells
  r.size = cells.size/\∀ j,r[j]? = if off + k <= j/\j < off + k + l.length then l[j - (off + k)]? else cells[j]?
 | [],k,cells,_=>⟨rfl,fun j=>by rw [jaf (by simp)]; rfl⟩
 | v :: l,k,cells,h=>by
  simp only [jba] at h;have ih:=qoE off l (k + 1) (cells.setIfInBounds (off + k) v) (by simp only [Array.size_setIfInBounds]; omega);simp only [List.zipIdx_cons,List.foldl_cons] at ih ⊢;refine ⟨by simpa using ih.1,fun j=>?_⟩;rw [ih.2 j];simp only [jba];by_cases hj:j = off + k
  ·subst hj
   rw [jaf (by omega),jah (by omega)];have:off + k < cells.size:=by omega
   simp [this]
  ·by_cases hin:off + (k + 1) <= j/\j < off + (k + 1) + l.length
   ·rw [jah hin,jah (by omega),show j - (off + k) = (j - (off + (k + 1))) + 1 from by omega,ja6]
   ·rw [jaf hin,jaf (by omega),jdc (fun h=>hj h.symm)]
theorem qs6 (off:Nat) (l:List Value) (cells:List Value) (h:off + l.length <= cells.length) :
  l.toArray.zipIdx.foldl (fun (cs:Array Value) (x:Value × Nat)=>cs.setIfInBounds (off + x.2) x.1) cells.toArray = (qas cells off l).toArray:=by
 have:=qoE off l 0 cells.toArray (by simpa using h);simp only [jci] at this;have e:l.toArray.zipIdx.foldl (fun (cs:Array Value) (x:Value × Nat)=>cs.setIfInBounds (off + x.2) x.1) cells.toArray =
   (l.zipIdx 0).foldl (fun (cs:Array Value) (x:Value × Nat)=>cs.setIfInBounds (off + x.2) x.1) cells.toArray:=by
  rw [<- Array.foldl_toList]; simp
 rw [e];apply jfq;intro j;rw [this.2 j];simp only [jda];rw [qdt h]
def qpF (Z:Env):List (Nat × List T)->List (Nat × Value)->Prop
 | [],[]=>True
 | (i,ts) :: r,(j,v) :: r'=>i = j/\v.cells = (qd Z ts).toArray/\qpF Z r r'
 | _,_=>False
theorem qjZ {pl:Nat->Option (Nat × Nat)}:∀ {ps:List (Nat × List T)} {vs:List (Nat × Value)} {z cs:List T},qpF Z ps vs->qhX pl z ps = some cs ->
  Instr.fill pl (qd Z z).toArray vs = some (qd Z cs).toArray
 | [],[],z,cs,_,h=>by simp only [qhX,jaa] at h; subst h; rfl
 | (i,ts) :: r,(j,v) :: r',z,cs,hd,h=>by
  obtain ⟨rfl,hv,hr⟩:=hd;simp only [qhX] at h;split at h
  ·simp at h
  ·rename_i off size hpl
   split at h
   ·rename_i hc
    simp only [jag,jd6] at hc;have hsz:=Nat.eq_of_beq_eq_true hc.1;have hl:(qd Z ts).length = ts.length:=by simp [qd]
    have hl2:(qd Z z).length = z.length:=by simp [qd]
    simp only [Instr.fill,hpl,hv];rw [jaf]
    ·have:=qjZ (pl:=pl) (z:=qdi z off ts) hr h
     rw [qhS] at this;rw [<- this]
     congr 1
     exact qs6 off _ _ (by rw [hl,hl2]; exact hc.2)
    ·simp [hl,hl2,hsz]
     omega
   ·simp at h
 | [],_ :: _,_,_,hd,_=>hd.elim
 | _ :: _,[],_,_,hd,_=>hd.elim
theorem qlZ (hs:Holds Z hF s a w):∀ {l:List (Nat × Operand)} {ps:List (Nat × List T)},qgn s l = some ps->qpF Z ps (l.map fun x=>(x.1,a.eval x.2))
 | [],ps,h=>by simp only [qgn,jaa] at h; subst h; trivial
 | (i,x) :: r,ps,h=>by
  simp only [qgn] at h;split at h
  ·rename_i cs l' hc hl
   simp only [jaa] at h; subst h;simp only [jam] at hc;obtain ⟨v,hv,hcs⟩:=hc;exact ⟨rfl,by rw [hs.opd hv]; exact qjK hs.gd hcs,qlZ hs hl⟩
  ·simp at h
theorem qm6:∀ {fs:List Field} {l:List (Nat × Nat)},qiL P fs = some l->fs.mapM (fun f=>(P.info? f.type).map fun i=>(f.offset,i.size)) = some l
 | [],l,h=>by simp only [qiL,jaa] at h; subst h; rfl
 | f :: fs,l,h=>by
  simp only [qiL] at h;split at h
  ·rename_i i l' hi hl
   simp only [jaa] at h; subst h;simp [jf3,hi,qm6 hl]
  ·simp at h
theorem qdu {t:TypeId} {cs:List T} (h:qbP P t = some cs):∃ i v,P.info? t = some i/\i.zero = some v/\v.cells = (qd Z cs).toArray:=by
 unfold qbP at h;split at h
 ·rename_i v hv
  simp only [jam] at hv;obtain ⟨i,hi,hz⟩:=hv;exact ⟨i,v,hi,hz,by rw [qhz h]⟩
 ·simp at h
theorem q4U {t:TypeId} {parts:Array (Nat × Operand)} (hs:Holds Z hF s a w) (hop:o.op = .build t parts) (h:qp P s o = some r):qi P Z hF s a w o r:=by
 simp only [qp,hop] at h;split at h
 ·rename_i z pl ps hz hpl hps
  simp only [jai] at h;obtain ⟨cs,hfill,rfl⟩:=h;refine qi.quiet hs ?_;obtain ⟨i,v,hi,hiz,hzc⟩:=qdu (Z:=Z) hz;have hfs:=qjZ (qlZ hs hps) hfill;have hb:P.built t (parts.map fun x=>(x.1,a.eval x.2)).toList = some (qd Z cs).toArray:=by
   rw [je9];unfold q6i at hpl;unfold Program.built;split at hpl
   ·rename_i fs hu
    simp only [jai] at hpl;obtain ⟨l,hl,rfl⟩:=hpl;simp only [hi,hu,hiz,qm6 hl,hzc];simpa using hfs
   ·rename_i n e hu
    simp only [jai,qV] at hpl;obtain ⟨n',⟨ie,hie,rfl⟩,rfl⟩:=hpl;simp only [hi,hu,hiz,hie,hzc];exact hfs
   ·simp at hpl
  simp only [SV.den];simp only [execOp,hop,Sem.run_bind,run_build w t _ _ hb,Result.andThen_ok,Sem.run_pure]
 ·simp at h
theorem qo9 (z:List T):∀ n,(qbG z n).length = n * z.length
 | 0=>by simp [qbG]
 | n + 1=>by simp [qbG,qo9 z n,jbt]; omega
theorem qoU (z:List Value) (hz:0 < z.length):∀ (n j:Nat) (l:List T),qd Z l = z->j < n * z.length->(qd Z (qbG l n))[j]? = z[j % z.length]?
 | 0,j,l,_,hj=>by simp at hj
 | n + 1,j,l,hl,hj=>by
  have hd:qd Z (qbG l (n + 1)) = z ++ qd Z (qbG l n):=by simp only [qbG,qd,jcn] at hl ⊢; rw [hl]
  rw [hd];by_cases h:j < z.length
  ·rw [jar h,jdm h]
  ·rw [jao (by omega),qoU z hz n (j - z.length) l hl (by rw [jbt] at hj; omega)]
   rw [Nat.mod_eq_sub_mod (Nat.le_of_not_lt h)]
theorem qrD {n:Nat} {z:List T} (h:z.all (T.inB n) = true):∀ m,(qbG z m).all (T.inB n) = true
 | 0=>rfl
 | m + 1=>by simp [qbG,List.all_append,h,qrD h m]
theorem qze {n:Nat} {pl:Nat->Option (Nat × Nat)}:∀ {ps:List (Nat × List T)} {z cs:List T},z.all (T.inB n) = true->(∀ x ∈ ps,x.2.all (T.inB n) = true)->qhX pl z ps = some cs->cs.all (T.inB n) = true
 | [],z,cs,hz,_,h=>by simp only [qhX,jaa] at h; subst h; exact hz
 | (i,ts) :: r,z,cs,hz,hp,h=>by
  simp only [qhX] at h;split at h
  ·simp at h
  ·split at h
   ·exact qze (qyS hz (hp _ (jae ..))) (fun x hx=>hp x (jad _ hx)) h
   ·simp at h
theorem quM (hsc:s.scopedEH = true):∀ {l:List (Nat × Operand)} {ps:List (Nat × List T)},qgn s l = some ps->∀ x ∈ ps,x.2.all (T.inB s.nx) = true
 | [],ps,h,x,hx=>by simp only [qgn,jaa] at h; subst h; cases hx
 | (i,y) :: r,ps,h,x,hx=>by
  simp only [qgn] at h;split at h
  ·rename_i cs l' hc hl
   simp only [jaa] at h; subst h;simp only [jam] at hc;obtain ⟨v,hv,hcs⟩:=hc;cases hx with
   | head=>exact qwR hcs (qmX hsc hv)
   | tail _ hx=>exact quM hsc hl x hx
  ·simp at h
theorem qlx {t:TypeId} {cs:List T} {n:Nat} (h:qbP P t = some cs):cs.all (T.inB n) = true:=by
 unfold qbP at h;split at h
 ·exact qlW h
 ·simp at h
theorem qq9 {t:TypeId} {len:Nat} {parts:Array (Nat × Operand)} (hs:Holds Z hF s a w) (hop:o.op = .buildSlice t len parts) (hsc:s.scopedEH = true) (h:qp P s o = some r):qi P Z hF s a w o r:=by
 simp only [qp,hop] at h;split at h
 ·rename_i el hu
  split at h
  ·rename_i z n ps hz hn hps
   split at h
   ·rename_i hc
    simp only [jag,jd6,jbn] at hc;have hzl:=Nat.eq_of_beq_eq_true hc.1.1;split at h
    ·rename_i cs hfill
     simp only [jaa] at h; subst h;obtain ⟨i,v,hi,hiz,hzc⟩:=qdu (Z:=Z) hz;have hin:i.size = n:=by simpa [qV,hi] using hn
     have hfs:=qjZ (qlZ hs hps) hfill;have hcin:cs.all (T.inB s.nx) = true:=qze (qrD (qlx hz) len) (quM hsc hps) hfill;have hg:qd (Z.set s.nx { r:=some ⟨w.heap.size,0,none⟩ }) cs = qd Z cs:=qbk (fun m hm=>Env.set_ne Z _ (by omega)) cs hcin;have hsh:s.heap.all (SH.inB s.nx) = true:=by simp only [S.scopedEH,jag] at hsc; exact hsc.2
     have hdl:(qd Z z).length = n:=by simp [qd,hzl]
     have hzero:(Array.range (len * n)).map (fun x=>(qd Z z).toArray[x % (qd Z z).toArray.size]!) = (qd Z (qbG z len)).toArray:=by
      apply jfq;intro j;by_cases hj:j < len * n
      ·have:=qoU (Z:=Z) (qd Z z) (by rw [hdl]; exact hc.1.2) len j z rfl (by rw [hdl]; exact hj)
       rw [show (qd Z (qbG z len)).toArray[j]? = (qd Z (qbG z len))[j]? from jda,this,hdl];have hm:j % n < (qd Z z).length:=by rw [hdl]; exact jd8 _ hc.1.2
       simp [hj,hdl,jac hm]
      ·rw [jcx (by simp; omega),jcx (by simp [qd,qo9,hzl]; omega)]
     refine ⟨[{ r:=some ⟨w.heap.size,0,none⟩ }],_,rfl,by simp [U.good,Value.oneCell'],qs.alloc hs.hp hsh (c:=(qd Z cs).toArray) (by rw [hg]),?_,fun h=>by cases h⟩;have hv:SV.den (Z.set s.nx { r:=some ⟨w.heap.size,0,none⟩ }) (.one (.vslice s.nx (.lit 0) (.lit len) (.lit len) n)) = .slice (some ⟨w.heap.size,0,none⟩) len len:=by
      simp [SV.den,T.den,O0.den,O3.den,qn]
     simp only [Ran,qq,hv];have hparts:(parts.map fun x=>(x.1,a.eval x.2)).toList = parts.toList.map fun x=>(x.1,a.eval x.2):=je9 ..
     by_cases h0:len * n = 0
     ·have hl0:len = 0:=by rcases Nat.mul_eq_zero.1 h0 with h | h; exact h; omega
      subst hl0;have hz0:(qd Z (qbG z 0)).toArray = #[]:=rfl;rw [hz0] at hfs;have hfs2:Instr.fill (fun i=>some (i * n,n)) (Array.map (fun _=>(default:Value)) (Array.range 0)) (List.map (fun x=>(x.fst,a.eval x.snd)) parts.toList) = some (qd Z cs).toArray:=by rw [show (Array.map (fun _=>(default:Value)) (Array.range 0)) = #[] from by simp]; exact hfs
      simp [execOp,hop,Instr.buildSlice,qu hu,sizeOf,typeInfo,hi,hin,newRow,hfs2]
     ·have hrun:=run_buildSlice (P:=P) w t el len (parts.map fun x=>(x.1,a.eval x.2)) (qd Z cs).toArray i v hu hi hiz (by rw [hin]; have:=hc.2; omega) (by rw [hin]; exact h0)
       (by rw [hin,hzc,hparts]; rw [hzero]; exact hfs)
      simp only [execOp,hop,Sem.run_bind,Result.andThen_ok,Sem.run_pure];rw [show (parts.map fun x=>(x.1,a.eval x.2)) = (parts.map fun (i,x)=>(i,a.eval x)) from rfl] at hrun;rw [hrun];rfl
    ·simp at h
   ·simp at h
  ·simp at h
 ·simp at h
end Go.Eng
namespace Go.Eng
open Go
variable {P:Program} {Z:Env} {hF:Fr} {s:S} {a:Act} {w:World} {o:Oper} {r:R1}
theorem qzu {t:TypeId} {n:Nat} (h:qey P t = some n):∃ i,P.info? t = some i/\i.bytes = n:=by
 unfold qey at h; simpa [jai] using h
theorem qlp {t:TypeId} {n:Nat} (h:qV P t = some n):∃ i,P.info? t = some i/\i.size = n:=by
 unfold qV at h; simpa [jai] using h
theorem qaP {x y:T} (h:((qr .leq x y).den Z).b = true):(x.den Z).i <= (y.den Z).i:=by
 rw [qK _ _ _ (by simp)] at h; exact jbh h
theorem qfA {x y:T} (h:((qr .eql x y).den Z).b = true):(x.den Z).i = (y.den Z).i:=by
 rw [qK _ _ _ (by simp)] at h; simpa [qJ] using h
theorem qs.new {heap:List SH} {w:World} {n:Nat} {Z':Env} {x:SH} {ob:Obj} {d:Nat} (h:qs Z hF heap w) (hsc:heap.all (SH.inB n) = true) (hag:∀ m,m < n->Z m = Z' m)
  (hx:x.den Z' (Hp.one w.heap.size ob)):qs Z' hF (x :: heap) { w with heap:=w.heap.push ob,drawn:=d }:=by
 obtain ⟨hO,hd,hst,hsub,hwi⟩:=h;have hlt:∀ y o,Hp.union hF hO y = some o->y < w.heap.size:=fun y o hy=>by
  have:=hsub y o hy;rcases jbu y w.heap.size with h | h
  ·exact h
  ·rw [jcx h] at this; cases this
 have hno:∀ h',Hp.le h' (Hp.union hF hO)->Hp.disj h' (Hp.one w.heap.size ob):=fun h' hl y=>by
  by_cases hy:y = w.heap.size
  ·left
   cases hx:h' y with
   | none=>rfl
   | some o=>have:=hlt y o (hl y o hx); omega
  ·right; simp [Hp.one,hy]
 refine ⟨Hp.union (Hp.one w.heap.size ob) hO,?_,⟨_,hO,(hno hO (Hp.le_right hd)).symm,rfl,hx,?_⟩,?_⟩
 ·exact Hp.disj_union.2 ⟨hno hF (Hp.le_left _ _),hd⟩
 ·exact qaA (n:=n) hag _ hsc _ hst
 ·refine ⟨fun y o hy=>?_,hwi⟩
  by_cases hyb:y = w.heap.size
  ·subst hyb
   have:hF w.heap.size = none:=by
    cases hx:hF w.heap.size with
    | none=>rfl
    | some o'=>have:=hlt w.heap.size o' (Hp.le_left _ _ _ _ hx); omega
   simp only [Hp.union,this,Hp.one,jbz,jb2,jc5,jaa] at hy;subst hy;simp
  ·have hy':Hp.union hF hO y = some o:=by
    simp only [Hp.union,Hp.one,hyb,jbd,jb2] at hy ⊢;exact hy
   have h1:=hsub y o hy';have h2:=hlt y o hy';simp only;rw [je6 h2]
   rwa [jcp h2] at h1
theorem q0n (hg:Z.good) (t:T):CK.fits (qa4 t) (t.den Z).v = true:=by
 have:=(T.den_good hg t).1;unfold qa4;split
 ·simp [T.den,O1.den,CK.fits]
 ·simp [T.den,O1.den,CK.fits]
 ·exact this
theorem qmT (hg:Z.good) (z:List T):qv (z.map qa4) (qd Z z):=by
 refine ⟨by simp [qd],fun c k v hk hv=>?_⟩;simp only [jaq,jai] at hk;obtain ⟨t,ht,rfl⟩:=hk;simp only [qd,jaq,ht,ja0,jaa] at hv;subst hv;exact q0n hg t
theorem ql0 {t:TypeId} {z:List T} (h:qbP P t = some z) (Z:Env):qv (z.map qa4) (qd Z z):=by
 have h1:=qlx (n:=0) h;have:qd Z z = qd (fun _=>{}) z:=qbk (n:=0) (fun m hm=>by omega) z h1;rw [this];exact qmT (fun n=>by simp [U.good,Value.oneCell']) z
theorem qvi (z:List Value) (hz:0 < z.length) (n j:Nat) (hj:j < n):(madeCells z.toArray n)[j]? = z[j % z.length]?:=by
 have hm:j % z.length < z.length:=jd8 _ hz;simp [madeCells,hj,jac hm]
theorem q6M {t:TypeId} {l c:Operand} (hs:Holds Z hF s a w) (hop:o.op = .makeSlice t l c) (hsc:s.scopedEH = true) (h:qp P s o = some r) (hn:∀ c ∈ r.needs,(c.den Z).b = true):qi P Z hF s a w o r:=by
 simp only [qp,hop] at h;split at h
 ·rename_i va vb hl hc
  have hel:=hs.opd hl;have hec:=hs.opd hc;have hil:=qmX hsc hl;have hic:=qmX hsc hc;unfold qpD at h;split at h
  ·rename_i el kl lt kc ct hu
   simp only [SV.den,T.den,O1.den] at hel hec;split at h
   ·rename_i z n bz hz hsz hbz
    split at h
    ·rename_i hchk
     simp only [jag,jbn] at hchk;have hzl:=Nat.eq_of_beq_eq_true hchk.1.1;simp only [jaa] at h; subst h;have h0:=qw (hn _ (jae ..));have h1:=qaP (hn _ (jad _ (jae ..)));have h2:=qaP (hn _ (jad _ (jad _ (jae ..))));simp only [T.den,O0.den,O2.den] at h2;obtain ⟨i,v,hi,hiz,hzc⟩:=qdu (Z:=Z) hz;have his:i.size = n:=by simpa [qV,hi] using hsz
     have hib:i.bytes = bz:=by simpa [qey,hi] using hbz
     have hc63:(ct.den Z).i <= 9223372036854775807:=by
      have:(ct.den Z).i <= (bz:Int) * (ct.den Z).i:=by
       have hb1:(1:Int) <= bz:=by omega
       have:=ja1 hb1 (show 0 <= (ct.den Z).i by omega);omega
      omega
     have hrun:=run_make (P:=P) w t el i v hu hi hiz kl kc (lt.den Z).i (ct.den Z).i h0 h1 (by rw [hib]; exact h2) hc63;rw [hzc,his] at hrun;have hdl:(qd Z z).length = n:=by simp [qd,hzl]
     let u:U:={ r:=some ⟨w.heap.size,0,none⟩ }
     have hag:∀ m,m < s.nx->Z m = (Z.set s.nx u) m:=fun m hm=>(Env.set_ne Z u (by omega)).symm
     have hsh:s.heap.all (SH.inB s.nx) = true:=by simp only [S.scopedEH,jag] at hsc; exact hsc.2
     have hlt:lt.den (Z.set s.nx u) = lt.den Z:=(T.den_congr hag lt hil).symm;have hct:ct.den (Z.set s.nx u) = ct.den Z:=(T.den_congr hag ct hic).symm;have hzd:qd (Z.set s.nx u) z = qd Z z:=(qbk hag z (qlx hz)).symm;refine ⟨[u],_,rfl,by simp [U.good,u,Value.oneCell'],qs.new (Z':=Z.set s.nx u) (d:=w.drawn) hs.hp hsh hag (ob:=.cells (madeCells (qd Z z).toArray ((ct.den Z).i.toNat * n)) el) ?_,?_,fun h=>by cases h⟩
     ·refine .inr ⟨w.heap.size,madeCells (qd Z z).toArray ((ct.den Z).i.toNat * n),by simp [u],by simp [Hp.one],?_,?_,?_⟩
      ·rw [size_madeCells,hct]; simp [hzl]
      ·simp only [T.den,O2.den,jaz,hlt,hct]; omega
      ·intro i row hrow
       simp only [T.den,O2.den,hlt] at hrow;rw [jbf] at hrow;split at hrow
       ·rename_i hil2
        simp only [jaa,qi5,hzd] at hrow;subst hrow;refine ⟨ql0 hz Z,fun k v hv=>?_⟩;have hk:k < n:=by
         rw [<- hdl];rcases jbu k (qd Z z).length with h | h
         ·exact h
         ·rw [jat h] at hv; cases hv
        have hmul:(i + 1) * n <= (ct.den Z).i.toNat * n:=jbq _ (by omega);rw [jbt,jd0] at hmul;rw [ja7,hzl];rw [qvi _ (by omega) _ _ (by omega),hdl];rw [show (0 + i * n + k) % n = k from by rw [jbj,jce,jfh,jdm hk]];exact hv
       ·cases hrow
     ·have hv:SV.den (Z.set s.nx u) (.one (.vslice s.nx (.lit 0) lt ct n)) = .slice (some ⟨w.heap.size,0,none⟩) (lt.den Z).i.toNat (ct.den Z).i.toNat:=by
       simp [SV.den,T.den,O0.den,O3.den,qn,hlt,hct,u]
      simp only [Ran,qq,hv];simp only [execOp,hop,hel,hec,Sem.run_bind,hrun,Result.andThen_ok,Sem.run_pure];rfl
    ·simp at h
   ·simp at h
  ·simp at h
 ·simp at h
theorem qbj (hs:Holds Z hF s a w) {dflt t:T} {x:Option Operand} (h:qbZ s dflt x = some t) :
  match x with
  | none=>t = dflt
  | some y=>∃ k,a.eval y = .int k (t.den Z).i:=by
 cases x with
 | none=>simp only [qbZ,jaa] at h; exact h.symm
 | some y =>
  simp only [qbZ] at h;split at h
  ·rename_i k t' hx
   simp only [jaa] at h; subst h;exact ⟨k,by have:=hs.opd hx; simpa [SV.den,T.den,O1.den] using this⟩
  ·simp at h
theorem qpr (x y:T):((qi6 x y).den Z).i = (x.den Z).i - (y.den Z).i:=by
 unfold qi6;split
 ·rename_i u v hu hv; rw [qY hu,qY hv]; simp [T.den,O0.den]
 ·rename_i v hu hv
  split
  ·rename_i h0; rw [qY hv,h0]; simp [T.den,O0.den]
  ·rfl
 ·split
  ·rename_i h; rw [T.same_eq h]; simp [T.den,O0.den]
  ·rfl
theorem qns (x y u v:T):((qeM x y u v).den Z).i = if (x.den Z).i = (y.den Z).i then (u.den Z).i else (v.den Z).i:=by
 unfold qeM;split
 ·rename_i p q hp hq
  rw [qY hp,qY hq];simp only [T.den,O0.den];by_cases h:p = q <;> simp [h]
 ·split
  ·rename_i h; rw [T.same_eq h]; simp
  ·rfl
theorem qdZ (w:World) {isS:Bool} {len cap:Nat} {L H M:Option Value} {l h m:Int} (hL:match L with | none=>l = 0 | some v=>∃ k,v = .int k l) (hH:match H with | none=>h = len | some v=>∃ k,v = .int k h)
  (hM:match M with | none=>m = cap | some v=>∃ k,v = .int k m) (hHM:M = none∨H.isSome = true) (h0:0 <= l) (h1:l <= h) (h2:h <= m) (h3:m <= cap) :
  (Instr.sliceBounds isS len cap L H M).run P w = .ok (l.toNat,h.toNat,m.toNat) w:=by
 have e1:(h.toNat:Int) = h:=by omega
 have e2:(m.toNat:Int) = m:=by omega
 cases M with
 | none =>
  have hM:m = cap:=hM;subst hM;cases H with
  | none =>
   have hH:h = len:=hH;subst hH;cases L with
   | none=>have hL:l = 0:=hL; subst hL; simp [Instr.sliceBounds]
   | some v=>obtain ⟨k,rfl⟩:=hL; simp [Instr.sliceBounds,Instr.sliceBound,asIntOf,h0,h1]
  | some vh =>
   obtain ⟨kh,rfl⟩:=hH;have hh0:0 <= h:=by omega
   cases L with
   | none=>have hL:l = 0:=hL; subst hL; simp [Instr.sliceBounds,Instr.sliceBound,asIntOf,hh0,h2]
   | some v =>
    obtain ⟨k,rfl⟩:=hL;have:l <= max h 0:=by omega
    simp [Instr.sliceBounds,Instr.sliceBound,asIntOf,h0,hh0,h2,this]
 | some vm =>
  obtain ⟨km,rfl⟩:=hM;have hm0:0 <= m:=by omega
  cases H with
  | none=>simp at hHM
  | some vh =>
   obtain ⟨kh,rfl⟩:=hH;have hh0:0 <= h:=by omega
   have hmx:h <= max m 0:=by omega
   cases L with
   | none=>have hL:l = 0:=hL; subst hL; simp [Instr.sliceBounds,Instr.sliceBound,asIntOf,hm0,h3,hh0,hmx]
   | some v =>
    obtain ⟨k,rfl⟩:=hL;have:l <= max h 0:=by omega
    simp [Instr.sliceBounds,Instr.sliceBound,asIntOf,h0,hm0,h3,hh0,hmx,this]
theorem q4e {t:TypeId} {x:Operand} {lo hi mx:Option Operand} (hs:Holds Z hF s a w) (hop:o.op = .slice t x lo hi mx) (h:qp P s o = some r) (hn:∀ c ∈ r.needs,(c.den Z).b = true):qi P Z hF s a w o r:=by
 simp only [qp,hop] at h;split at h
 ·rename_i va hx
  have hev:=hs.opd hx;unfold quH at h;split at h
  ·rename_i el hu
   simp only [SV.den,T.den,O0.den] at hev;split at h
   ·rename_i n hsz hl hh' hm
    split at h
    ·rename_i hchk
     simp only [jaa] at h; subst h;refine qi.quiet hs ?_;have bl:=qbj hs hl;have bh:=qbj hs hh';have bm:=qbj hs hm;have hbounds:(Instr.sliceBounds true 0 0 (lo.map a.eval) (hi.map a.eval) (mx.map a.eval)).run P w = .ok ((0:Int).toNat,(0:Int).toNat,(0:Int).toNat) w:=by
      refine qdZ w (l:=0) (h:=0) (m:=0) ?_ ?_ ?_ ?_ (by omega) (by omega) (by omega) (by omega)
      ·cases lo with
       | none=>simp only [jch]
       | some v=>exact bl
      ·cases hi with
       | none=>simp only [jch]; rfl
       | some v=>exact bh
      ·cases mx with
       | none=>simp only [jch]; rfl
       | some v=>exact bm
      ·cases hi <;> cases mx <;> simp_all
     simp only [SV.den,T.den,O0.den];simp only [execOp,hop,Instr.sliceAt,Sem.run_bind,qu hu,Result.andThen_ok,hev,Instr.slice,hbounds,qaI hsz,Sem.run_pure];simp
    ·simp at h
   ·simp at h
  ·rename_i el rg p off len cap hu
   simp only [SV.den,T.den,O3.den] at hev;split at h
   ·rename_i n l hh m hsz hl hh' hm
    split at h
    ·rename_i hchk
     simp only [jag] at hchk;have hnp:=Nat.eq_of_beq_eq_true hchk.1;subst hnp;simp only [jaa] at h; subst h;have n1:=qw (hn _ (jae ..));have n2:=qw (hn _ (jad _ (jae ..)));have n3:=qw (hn _ (jad _ (jad _ (jae ..))));have n4:=qw (hn _ (jad _ (jad _ (jad _ (jae ..)))));have n5:=qaP (hn _ (jad _ (jad _ (jad _ (jad _ (jae ..))))));have n6:=qaP (hn _ (jad _ (jad _ (jad _ (jad _ (jad _ (jae ..)))))));have n7:=qaP (hn _ (jad _ (jad _ (jad _ (jad _ (jad _ (jad _ (jae ..))))))));refine qi.quiet hs ?_;have bl:=qbj hs hl;have bh:=qbj hs hh';have bm:=qbj hs hm
     -- the three bounds
     have hbounds:(Instr.sliceBounds true (len.den Z).i.toNat (cap.den Z).i.toNat (lo.map a.eval) (hi.map a.eval) (mx.map a.eval)).run P w = .ok ((l.den Z).i.toNat,(hh.den Z).i.toNat,(m.den Z).i.toNat) w:=by
      refine qdZ w ?_ ?_ ?_ ?_ n4 n5 n6 (by omega)
      ·cases lo with
       | none=>simp only [jch]; rw [bl]; simp [T.den,O0.den]
       | some v=>exact bl
      ·cases hi with
       | none=>simp only [jch]; rw [bh]; omega
       | some v=>exact bh
      ·cases mx with
       | none=>simp only [jch]; rw [bm]; omega
       | some v=>exact bm
      ·have:=hchk.2
       cases hi <;> cases mx <;> simp_all
     have hoff:((qwe l m off).den Z).i = if (m.den Z).i = (l.den Z).i then (off.den Z).i else (off.den Z).i + (l.den Z).i:=by
      unfold qwe;split
      ·rename_i hz
       have:(l.den Z).i = 0:=by rw [qY hz]; simp [T.den,O0.den]
       rw [this]; simp
      ·rw [qns,qaO]
     simp only [SV.den,T.den,O3.den,hoff,qpr];simp only [execOp,hop,Instr.sliceAt,Sem.run_bind,qu hu,Result.andThen_ok,hev,Instr.slice,hbounds,qaI hsz,Sem.run_pure];have e1:(hh.den Z).i.toNat - (l.den Z).i.toNat = ((hh.den Z).i - (l.den Z).i).toNat:=by omega
     have e2:(m.den Z).i.toNat - (l.den Z).i.toNat = ((m.den Z).i - (l.den Z).i).toNat:=by omega
     rw [e1,e2]
     congr 3
     by_cases hml:(m.den Z).i = (l.den Z).i
     ·rw [jah (by rw [hml]),jah hml]
     ·rw [jaf (by omega),jaf hml]
      cases hr:(Z rg).r with
      | none=>rfl
      | some bo =>
       have:((off.den Z).i + (l.den Z).i).toNat * n = (off.den Z).i.toNat * n + (l.den Z).i.toNat * n:=by
        rw [<- jbt]; congr 1; omega
       obtain ⟨a',ha'⟩:=qcO (r:=some bo) rfl ((off.den Z).i.toNat * n);rw [this,qeD _ ha',ha',ja0]
    ·simp at h
   ·simp at h
  ·rename_i n el rg p c e hu
   split at h
   ·rename_i l hh m hsz he hl hh' hm
    split at h
    ·rename_i hchk
     simp only [jaa] at h; subst h;have n1:=qw (hn _ (jae ..));have n2:=qaP (hn _ (jad _ (jae ..)));have n3:=qaP (hn _ (jad _ (jad _ (jae ..))));have n4:=qaP (hn _ (jad _ (jad _ (jad _ (jae ..)))));have ht:=qdH hs (fun c' hc'=>hn c' (jcs _ hc'));have n4:(m.den Z).i <= (n:Int):=n4;have bl:=qbj hs hl;have bh:=qbj hs hh';have bm:=qbj hs hm;have hbounds:(Instr.sliceBounds false n n (lo.map a.eval) (hi.map a.eval) (mx.map a.eval)).run P w = .ok ((l.den Z).i.toNat,(hh.den Z).i.toNat,(m.den Z).i.toNat) w:=by
      refine qdZ w ?_ ?_ ?_ ?_ n1 n2 n3 n4
      ·cases lo with
       | none=>simp only [jch]; rw [bl]; simp [T.den,O0.den]
       | some v=>exact bl
      ·cases hi with
       | none=>simp only [jch]; rw [bh]; simp [T.den,O0.den]
       | some v=>exact bh
      ·cases mx with
       | none=>simp only [jch]; rw [bm]; simp [T.den,O0.den]
       | some v=>exact bm
      ·cases hi <;> cases mx <;> simp_all
     refine qi.quiet hs ?_;have he0:(e.den Z).i = 0:=qc5 he;simp only [SV.den,T.den,O1.den,he0] at hev;obtain ⟨ad,hb⟩:=qcO ht ((0:Int).toNat * p + c);rw [hb] at hev;have hb':qn (Z rg).r c = some ad:=by simpa using hb
     have hoff:((qsu l m c).den Z).i = if (m.den Z).i = (l.den Z).i then (c:Int) else (c:Int) + (l.den Z).i:=by
      unfold qsu;split
      ·rename_i hz
       have:(l.den Z).i = 0:=qc5 hz;rw [this]; simp [T.den,O0.den]
      ·rw [qns]; simp [T.den,O0.den,O2.den]
     simp only [SV.den,T.den,O3.den,hoff,qpr];simp only [execOp,hop,Instr.sliceAt,Sem.run_bind,qu hu,Result.andThen_ok,hev,Instr.sureAddr,Sem.run_pure];rw [hbounds];simp only [Result.andThen_ok,qaI hsz,Sem.run_pure];have e1:(hh.den Z).i.toNat - (l.den Z).i.toNat = ((hh.den Z).i - (l.den Z).i).toNat:=by omega
     have e2:(m.den Z).i.toNat - (l.den Z).i.toNat = ((m.den Z).i - (l.den Z).i).toNat:=by omega
     rw [e1,e2]
     congr 3
     by_cases hml:(m.den Z).i = (l.den Z).i
     ·rw [jah (by rw [hml]),jah hml]
      simp [hb']
     ·rw [jaf (by omega),jaf hml]
      rw [show ((c:Int) + (l.den Z).i).toNat * 1 = c + (l.den Z).i.toNat * 1 by omega,qeD _ hb']
    ·simp at h
   ·simp at h
  ·rename_i u hu
   split at h
   ·rename_i hchk
    simp only [jag] at hchk;obtain ⟨su,hsu⟩:=qc8 (Z:=Z) hchk.1;have hmx:mx = none:=by simpa using hchk.2
    subst hmx;split at h
    ·rename_i l hh hl hh'
     simp only [jaa] at h; subst h;have n1:=qw (hn _ (jae ..));have n2:=qaP (hn _ (jad _ (jae ..)));have n3:=qaP (hn _ (jad _ (jad _ (jae ..))));simp only [SV.den,hsu] at hev;have bl:=qbj hs hl;have bh:=qbj hs hh';have hsz:((qbW u).den Z).i = (su.size:Int):=by
      rw [qeN,hsu]; simp [qaS,qfP]
     rw [hsz] at n3;have hbounds:(Instr.sliceBounds false su.size su.size (lo.map a.eval) (hi.map a.eval) none).run P w = .ok ((l.den Z).i.toNat,(hh.den Z).i.toNat,(su.size:Int).toNat) w:=by
      refine qdZ w ?_ ?_ ?_ (.inl rfl) n1 n2 n3 (by omega)
      ·cases lo with
       | none=>simp only [jch]; rw [bl]; simp [T.den,O0.den]
       | some v=>exact bl
      ·cases hi with
       | none=>simp only [jch]; rw [bh,hsz]
       | some v=>exact bh
      ·rfl
     refine qi.quiet hs ?_;simp only [SV.den,T.den,O3.den,hsu];have he:su.extract (l.den Z).i.toNat (hh.den Z).i.toNat = ⟨(((qaS (.string su)).drop (l.den Z).i.toNat).take ((hh.den Z).i.toNat - (l.den Z).i.toNat)).toArray⟩:=by
      apply ByteArray.ext;apply jcv;simp [qaS,qfP,ByteArray.data_extract,jes]
     simp only [execOp,hop,Instr.sliceAt,Sem.run_bind,qu hu,Result.andThen_ok,hev,Instr.slice,jch,Option.isSome_none,jas,jbd,Sem.run_pure];rw [hbounds];simp only [Result.andThen_ok,he]
    ·simp at h
   ·simp at h
  ·simp at h
 ·simp at h
end Go.Eng
