/- Texts E5, E6, E7, E8, E8b. -/
import Derived.Test.YtlmkkphojjodhaaG1
import Derived.Great.BuildSlice
set_option linter.unusedSimpArgs false
set_option linter.unusedVariables false
namespace Go.Eng
open Go
theorem Hp.disj.symm {a b:Hp} (h:Hp.disj a b):Hp.disj b a:=fun x=>(h x).symm
theorem Hp.union_comm {a b:Hp} (h:Hp.disj a b):Hp.union a b = Hp.union b a:=by
 funext x; unfold Hp.union; rcases h x with h | h <;> rw [h] <;> simp
theorem Hp.union_assoc (a b c:Hp):Hp.union (Hp.union a b) c = Hp.union a (Hp.union b c):=by
 funext x; simp [Hp.union,Option.or_assoc]
theorem Hp.disj_union {a b c:Hp}:Hp.disj a (Hp.union b c)↔Hp.disj a b/\Hp.disj a c:=by
 constructor
 ·intro h
  refine ⟨fun x=>?_,fun x=>?_⟩
  ·rcases h x with h | h
   ·exact .inl h
   ·simp only [Hp.union,jbx] at h; exact .inr h.1
  ·rcases h x with h | h
   ·exact .inl h
   ·simp only [Hp.union,jbx] at h; exact .inr h.2
 ·rintro ⟨h1,h2⟩ x
  rcases h1 x with h | h
  ·exact .inl h
  ·rcases h2 x with h' | h'
   ·exact .inl h'
   ·exact .inr (by simp [Hp.union,h,h'])
theorem Hp.disj_union' {a b c:Hp}:Hp.disj (Hp.union b c) a↔Hp.disj b a/\Hp.disj c a:=by
 rw [show Hp.disj (Hp.union b c) a↔Hp.disj a (Hp.union b c) from ⟨Hp.disj.symm,Hp.disj.symm⟩,Hp.disj_union];exact ⟨fun h=>⟨h.1.symm,h.2.symm⟩,fun h=>⟨h.1.symm,h.2.symm⟩⟩
theorem Hp.emp_union (a:Hp):Hp.union Hp.emp a = a:=by funext x; simp [Hp.union,Hp.emp]
theorem Hp.disj_emp (a:Hp):Hp.disj a Hp.emp:=fun _=>.inr rfl
theorem Hp.emp_disj (a:Hp):Hp.disj Hp.emp a:=fun _=>.inl rfl
theorem Hp.le_refl (a:Hp):Hp.le a a:=fun _ _ h=>h
theorem Hp.le_trans {a b c:Hp} (h:Hp.le a b) (h':Hp.le b c):Hp.le a c:=fun x o hx=>h' x o (h x o hx)
theorem Hp.le_left (a b:Hp):Hp.le a (Hp.union a b):=fun x o h=>by simp [Hp.union,h]
theorem Hp.le_right {a b:Hp} (hd:Hp.disj a b):Hp.le b (Hp.union a b):=fun x o h=>by
 rcases hd x with h' | h'
 ·simp [Hp.union,h',h]
 ·rw [h'] at h; cases h
theorem Hp.sub_le {a b:Hp} {w:World} (h:b.sub w) (hl:Hp.le a b):a.sub w:=fun x o hx=>h x o (hl x o hx)
theorem qax {Z:Env}:∀ {l:List SH} {k:Nat} {x:SH} {h:Hp},qav Z l h->l[k]? = some x ->
  ∃ h1 h2,Hp.disj h1 h2/\h = Hp.union h1 h2/\x.den Z h1/\qav Z (l.eraseIdx k) h2
 | [],k,x,h,_,hx=>by simp at hx
 | y :: ys,0,x,h,⟨h1,h2,hd,hu,hy,hs⟩,hx=>by
  simp only [jaz,jaa] at hx;subst hx;exact ⟨h1,h2,hd,hu,hy,by simpa using hs⟩
 | y :: ys,k + 1,x,h,⟨h1,h2,hd,hu,hy,hs⟩,hx=>by
  simp only [jau] at hx;obtain ⟨g1,g2,gd,gu,gx,gs⟩:=qax hs hx;subst hu; subst gu;rw [Hp.disj_union] at hd;refine ⟨g1,Hp.union h1 g2,Hp.disj_union.2 ⟨hd.1.symm,gd⟩,?_,gx,?_⟩
  ·rw [<- Hp.union_assoc,<- Hp.union_assoc,Hp.union_comm hd.1]
  ·simp only [List.eraseIdx_cons_succ]
   exact ⟨h1,g2,hd.2,rfl,hy,gs⟩
theorem qcF {Z:Env}:∀ {l:List SH} {k:Nat} {x x':SH} {g1 g2:Hp},l[k]? = some x->qav Z (l.eraseIdx k) g2->Hp.disj g1 g2->x'.den Z g1 ->
  qav Z (l.set k x') (Hp.union g1 g2)
 | [],k,x,x',g1,g2,hx,_,_,_=>by simp at hx
 | y :: ys,0,x,x',g1,g2,hx,hs,hd,hx'=>by
  simp only [List.set_cons_zero];exact ⟨g1,g2,hd,rfl,hx',by simpa using hs⟩
 | y :: ys,k + 1,x,x',g1,g2,hx,hs,hd,hx'=>by
  simp only [jau] at hx;simp only [List.eraseIdx_cons_succ] at hs;obtain ⟨h1,h2,hd',hu,hy,hs'⟩:=hs;subst hu;rw [Hp.disj_union] at hd;simp only [List.set_cons_succ];refine ⟨h1,Hp.union g1 h2,Hp.disj_union.2 ⟨hd.1.symm,hd'⟩,?_,hy,qcF hx hs' hd.2 hx'⟩;rw [<- Hp.union_assoc,<- Hp.union_assoc,Hp.union_comm hd.1]
theorem qhn {Z:Env}:∀ {l l':List SH} {g1 g2:Hp},qav Z l g1->qav Z l' g2->Hp.disj g1 g2->qav Z (l ++ l') (Hp.union g1 g2)
 | [],l',g1,g2,_,h2,hd=>by
  simp only [jcm];cases l' with
  | nil=>trivial
  | cons y ys =>
   obtain ⟨a,b,hd',hu,hy,hs⟩:=h2;subst hu;rw [Hp.disj_union] at hd;refine ⟨a,Hp.union g1 b,Hp.disj_union.2 ⟨hd.1.symm,hd'⟩,?_,hy,?_⟩
   ·rw [<- Hp.union_assoc,<- Hp.union_assoc,Hp.union_comm hd.1]
   ·exact star_weaken hs (Hp.le_right hd.2)
 | x :: xs,l',g1,g2,⟨a,b,hd',hu,hx,hs⟩,h2,hd=>by
  subst hu;rw [Hp.disj_union'] at hd;exact ⟨a,Hp.union b g2,Hp.disj_union.2 ⟨hd',hd.1⟩,Hp.union_assoc _ _ _,hx,qhn hs h2 hd.2⟩
where
 star_weaken {Z:Env}:∀ {l:List SH} {h h':Hp},qav Z l h->Hp.le h h'->qav Z l h'
 | [],_,_,_,_=>trivial
 | x :: xs,h,h',⟨a,b,hd,hu,hx,hs⟩,hl=>by
  subst hu;refine ⟨a,fun y=>if (a y).isSome then none else h' y,fun y=>?_,?_,hx,star_weaken hs fun y o hy=>?_⟩
  ·cases ha:a y <;> simp [ha]
  ·funext y
   cases ha:a y with
   | none=>simp [Hp.union,ha]
   | some o=>simp [Hp.union,ha]; exact hl y o (by simp [Hp.union,ha])
  ·rcases hd y with h0 | h0
   ·simp only [h0,Option.isSome_none,jal,jaw]; exact hl y o (by simp [Hp.union,h0,hy])
   ·rw [h0] at hy; cases hy
theorem star_weaken {Z:Env} {l:List SH} {h h':Hp} (hs:qav Z l h) (hl:Hp.le h h'):qav Z l h':=qhn.star_weaken hs hl
theorem SH.den_ro {Z:Env} {x:SH} {h H:Hp} (hx:x.den Z h) (hl:Hp.le h H):x.roden Z H:=by
 cases x with
 | cells r ty cs =>
  obtain ⟨b,hb,ho⟩:=hx;exact ⟨b,0,_,ty,(0,0),hb,hl _ _ ho,fun k v hv=>by simpa using hv⟩
 | arr r ty pat d cap =>
  rcases hx with ⟨_,h2,_⟩ | ⟨b,c,h1,h2,_,_,h5⟩
  ·exact .inl h2
  ·exact .inr ⟨b,0,c,ty,(0,0),h1,hl _ _ h2,h5⟩
 | abs n t=>exact Hp.le_trans hx.1 hl
theorem SH.ro_mono {Z:Env} {x:SH} {h H:Hp} (hx:x.roden Z h) (hl:Hp.le h H):x.roden Z H:=by
 cases x with
 | cells r ty cs =>
  obtain ⟨b,o,c,ty',fr,hb,ho,hc⟩:=hx;exact ⟨b,o,c,ty',fr,hb,hl _ _ ho,hc⟩
 | arr r ty pat d cap =>
  rcases hx with h2 | ⟨b,o,c,ty',fr,h1,h2,h5⟩
  ·exact .inl h2
  ·exact .inr ⟨b,o,c,ty',fr,h1,hl _ _ h2,h5⟩
 | abs n t=>exact Hp.le_trans hx hl
theorem qac {r:Nat}:∀ {l:List SH} {k:Nat} {x:SH},qa1 r l = some (k,x)->l[k]? = some x/\x.reg = some r
 | [],k,x,h=>by simp [qa1] at h
 | .cells r' ty cs :: l,k,x,h=>by
  simp only [qa1] at h;split at h
  ·rename_i hr
   simp only [jaa,jak] at h;obtain ⟨rfl,rfl⟩:=h;have:=Nat.eq_of_beq_eq_true hr;simp [SH.reg,this]
  ·simp only [jag,jak,jcs] at h
   obtain ⟨k',x',h',rfl,rfl⟩:=h;have:=qac h';simpa using this
 | .arr r' ty pat d cap :: l,k,x,h=>by
  simp only [qa1] at h;split at h
  ·rename_i hr
   simp only [jaa,jak] at h;obtain ⟨rfl,rfl⟩:=h;have:=Nat.eq_of_beq_eq_true hr;simp [SH.reg,this]
  ·simp only [jag,jak,jcs] at h
   obtain ⟨k',x',h',rfl,rfl⟩:=h;have:=qac h';simpa using this
 | .abs n t :: l,k,x,h=>by
  simp only [qa1] at h;simp only [jag,jak,jcs] at h;obtain ⟨k',x',h',rfl,rfl⟩:=h;have:=qac h';simpa using this
structure Ext (Y Y':Sg):Prop where
 th:Y'.th = Y.th
 bd:∀ n b,look n Y.bd = some b->look n Y'.bd = some b
 eqI:∀ x ∈ Y.eqI,x ∈ Y'.eqI
 eqB:∀ x ∈ Y.eqB,x ∈ Y'.eqB
 eqD:∀ x ∈ Y.eqD,x ∈ Y'.eqD
theorem Ext.refl (Y:Sg):Ext Y Y:=⟨rfl,fun _ _ h=>h,fun _ h=>h,fun _ h=>h,fun _ h=>h⟩
theorem Ext.trans {a b c:Sg} (h:Ext a b) (h':Ext b c):Ext a c :=
 ⟨h'.th.trans h.th,fun n x hx=>h'.bd n x (h.bd n x hx),fun x hx=>h'.eqI x (h.eqI x hx),fun x hx=>h'.eqB x (h.eqB x hx),fun x hx=>h'.eqD x (h.eqD x hx)⟩
structure Sat (Y:Sg) (Z:Env):Prop where
 eqI:∀ p a,(p,a) ∈ Y.eqI->(p.den (Y.env Z)).i = (a.den Z).i
 eqB:∀ p a,(p,a) ∈ Y.eqB->(p.den (Y.env Z)).b = (a.den Z).b
 eqD:∀ p a,(p,a) ∈ Y.eqD->(p.den (Y.env Z)).d = (a.den Z).d
theorem Ext.bind {Y:Sg} {n:Nat} {b:Bd} (h:look n Y.bd = none):Ext Y (Y.bind n b) :=
 ⟨rfl,fun m x hx=>by
  simp only [Sg.bind,look];split
  ·rename_i hm; rw [Nat.eq_of_beq_eq_true hm,h] at hx; cases hx
  ·exact hx,fun _ h=>h,fun _ h=>h,fun _ h=>h⟩
theorem qdv (Y:Sg) (n:Nat) (b:Bd):look n (Y.bind n b).bd = some b:=by simp [Sg.bind,look]
variable {Z:Env}
theorem qbs (p a:T) (Y:Sg):Ext Y (mI p a Y)/\∀ Yf,Ext (mI p a Y) Yf->Sat Yf Z->(p.den (Yf.env Z)).i = (a.den Z).i:=by
 have other:Ext Y { Y with eqI:=(p,a) :: Y.eqI }/\∀ Yf,Ext { Y with eqI:=(p,a) :: Y.eqI } Yf->Sat Yf Z->(p.den (Yf.env Z)).i = (a.den Z).i :=
  ⟨⟨rfl,fun _ _ h=>h,fun x h=>jab _ h,fun _ h=>h,fun _ h=>h⟩,fun Yf he hs=>hs.eqI p a (he.eqI _ (jac ..))⟩
 unfold mI;split
 ·rename_i n
  split
  ·rename_i hc
   simp only [jad,jas,jb8] at hc;refine ⟨Ext.bind hc.2,fun Yf he _=>?_⟩;have hn:¬ n < Yf.th:=by rw [he.th]; intro h; rw [show (Y.bind n (.t a)).th = Y.th from rfl] at h; rw [qbu h] at hc; simp at hc
   simp only [T.den,Sg.env_look hn (he.bd _ _ (qdv Y n (.t a))),Bd.den]
  ·exact other
 ·exact other
theorem qxo (p a:T) (Y:Sg):Ext Y (mB p a Y)/\∀ Yf,Ext (mB p a Y) Yf->Sat Yf Z->(p.den (Yf.env Z)).b = (a.den Z).b:=by
 have other:Ext Y { Y with eqB:=(p,a) :: Y.eqB }/\∀ Yf,Ext { Y with eqB:=(p,a) :: Y.eqB } Yf->Sat Yf Z->(p.den (Yf.env Z)).b = (a.den Z).b :=
  ⟨⟨rfl,fun _ _ h=>h,fun _ h=>h,fun x h=>jab _ h,fun _ h=>h⟩,fun Yf he hs=>hs.eqB p a (he.eqB _ (jac ..))⟩
 unfold mB;split
 ·rename_i n
  split
  ·rename_i hc
   simp only [jad,jas,jb8] at hc;refine ⟨Ext.bind hc.2,fun Yf he _=>?_⟩;have hn:¬ n < Yf.th:=by rw [he.th]; intro h; rw [show (Y.bind n (.t a)).th = Y.th from rfl] at h; rw [qbu h] at hc; simp at hc
   simp only [T.den,Sg.env_look hn (he.bd _ _ (qdv Y n (.t a))),Bd.den]
  ·exact other
 ·exact other
theorem qdt {p a:Nat} {Y Y':Sg} (h:mR p a Y = some Y'):Ext Y Y'/\∀ Yf,Ext Y' Yf->Yf.env Z p = Z a:=by
 unfold mR at h;by_cases hp:p < Y.th
 ·rw [qbu hp] at h
  simp only [ja9] at h;split at h
  ·rename_i he
   simp only [jaa] at h; subst h;have:=Nat.eq_of_beq_eq_true he;exact ⟨Ext.refl _,fun Yf hx=>by rw [Sg.env_lt (by rw [hx.th]; exact hp),this]⟩
  ·simp at h
 ·rw [qdw hp] at h
  simp only [jal,jaw] at h;split at h
  ·rename_i hl
   simp only [jaa] at h; subst h;exact ⟨Ext.bind hl,fun Yf hx=>by rw [Sg.env_look (by rw [hx.th]; exact hp) (hx.bd _ _ (qdv _ _ _))]; rfl⟩
  ·rename_i a' hl
   split at h
   ·rename_i he
    simp only [jaa] at h; subst h;have:=Nat.eq_of_beq_eq_true he;exact ⟨Ext.refl _,fun Yf hx=>by rw [Sg.env_look (by rw [hx.th]; exact hp) (hx.bd _ _ hl),this]; rfl⟩
   ·simp at h
  ·simp at h
theorem ql2 {p:Nat} {Y Y':Sg} (h:qt9 p Y = some Y'):Ext Y Y'/\∀ Yf,Ext Y' Yf->(Yf.env Z p).r = none:=by
 unfold qt9 at h;by_cases hp:p < Y.th
 ·rw [qbu hp] at h; simp at h
 ·rw [qdw hp] at h
  simp only [jal,jaw] at h;split at h
  ·rename_i hl
   simp only [jaa] at h; subst h;exact ⟨Ext.bind hl,fun Yf hx=>by rw [Sg.env_look (by rw [hx.th]; exact hp) (hx.bd _ _ (qdv _ _ _))]; rfl⟩
  ·rename_i hl
   simp only [jaa] at h; subst h;exact ⟨Ext.refl _,fun Yf hx=>by rw [Sg.env_look (by rw [hx.th]; exact hp) (hx.bd _ _ hl)]; rfl⟩
  ·simp at h
theorem qcc {t:T} (h:qdH t = true):∃ s:ByteArray,(t.den Z).v = .string s:=by
 unfold qdH at h;split at h
 ·exact ⟨_,rfl⟩
 ·exact ⟨_,rfl⟩
 ·exact ⟨_,rfl⟩
 ·exact ⟨_,rfl⟩
 ·exact ⟨_,rfl⟩
 ·cases h
theorem qjQ:∀ {r:T} {ts:List T},qbg r = some ts->(r.den Z).d = [qa Z ts]
 | .c0 o,ts,h=>by
  cases o <;> simp only [qbg] at h
  case rnil=>simp only [jaa] at h; subst h; simp [T.den,O0.den,qa]
  all_goals cases h
 | .c1 o x,n,h=>by simp [qbg] at h
 | .c2 o x y,n,h=>by
  cases o <;> simp only [qbg] at h
  case rcons =>
   split at h
   ·rename_i ts h1
    simp only [jaa] at h; subst h;simp [T.den,O2.den,qjQ h1,qa]
   ·cases h
  all_goals cases h
 | .c3 o x y z,n,h=>by simp [qbg] at h
 | .var m,n,h=>by simp [qbg] at h
 | .ife x y u v,n,h=>by simp [qbg] at h
theorem qrm {x y:T} {Y:Sg} (h:qpK x y Y = true):∀ Yf,Ext Y Yf->(x.den (Yf.env Z)).i = (y.den Z).i:=by
 intro Yf he;unfold qpK at h;split at h
 ·rename_i c n
  split at h
  ·cases h
  ·rename_i hn
   split at h
   ·rename_i d hl
    split at h
    ·rename_i ts hr
     split at h
     ·rename_i k y' hc
      have hlk:=he.bd _ _ hl;have hn':¬ n < Yf.th:=by rw [he.th]; intro h'; rw [qbu h'] at hn; exact hn rfl
      simp only [T.den,O0.den,O2.den,qmg,Sg.env_look hn' hlk,Bd.den,qjQ hr,jb1];rw [<- T.same_eq h];simp [qa,hc,T.den,O1.den,qbk]
     ·cases h
    ·cases h
   ·cases h
 ·cases h
theorem qkX {p a:T} {Y Y':Sg} (h:mV p a Y = some Y'):Ext Y Y'/\∀ Yf,Ext Y' Yf->Sat Yf Z->(p.den (Yf.env Z)).v = (a.den Z).v:=by
 unfold mV at h;split at h
 ·rename_i k x k' y
  split at h
  ·rename_i hk
   subst hk;split at h
   ·rename_i hx
    simp only [jaa] at h; subst h;exact ⟨Ext.refl _,fun Yf he hs=>by simp only [T.den,O1.den]; rw [qrm hx Yf he]⟩
   ·simp only [jaa] at h; subst h
    have:=qbs (Z:=Z) x y Y;exact ⟨this.1,fun Yf he hs=>by simp only [T.den,O1.den]; rw [this.2 Yf he hs]⟩
  ·simp at h
 ·rename_i x y
  simp only [jaa] at h; subst h;have:=qxo (Z:=Z) x y Y;exact ⟨this.1,fun Yf he hs=>by simp only [T.den,O1.den]; rw [this.2 Yf he hs]⟩
 ·rename_i r p c e r' p' c' e'
  split at h
  ·rename_i hpc
   obtain ⟨rfl,rfl⟩:=hpc;simp only [jag] at h;obtain ⟨Y1,h1,rfl⟩:=h;have g1:=qdt (Z:=Z) h1;have g2:=qbs (Z:=Z) e e' Y1;exact ⟨g1.1.trans g2.1,fun Yf he hs=>by simp only [T.den,O1.den]; rw [g2.2 Yf he hs,g1.2 Yf (g2.1.trans he)]⟩
  ·split at h
   ·rename_i hpc
    obtain ⟨rfl,h1,h2⟩:=hpc;have g1:=qdt (Z:=Z) h;refine ⟨g1.1,fun Yf he hs=>?_⟩;have k1:∀ {t:T},t.isLit = some 0->t = .lit 0:=fun {t} h=>by
     unfold T.isLit at h; split at h <;> simp_all
    rw [k1 h1,k1 h2];simp only [T.den,O1.den,O0.den];rw [g1.2 Yf he]; simp
   ·simp at h
 ·rename_i r p o l c r' p' o' l' c'
  split at h
  ·rename_i hp
   subst hp;simp only [jag] at h;obtain ⟨Y1,h1,rfl⟩:=h;have g1:=qdt (Z:=Z) h1;have g2:=qbs (Z:=Z) o o' Y1;have g3:=qbs (Z:=Z) l l' (mI o o' Y1);have g4:=qbs (Z:=Z) c c' (mI l l' (mI o o' Y1));exact ⟨((g1.1.trans g2.1).trans g3.1).trans g4.1,fun Yf he hs=>by
    simp only [T.den,O3.den];rw [g2.2 Yf ((g3.1.trans g4.1).trans he) hs,g3.2 Yf (g4.1.trans he) hs,g4.2 Yf he hs,g1.2 Yf (((g2.1.trans g3.1).trans g4.1).trans he)]⟩
  ·simp at h
 ·rename_i r p o l c
  simp only [jag] at h;obtain ⟨Y1,h1,rfl⟩:=h;have g1:=ql2 (Z:=Z) h1;have g2:=qbs (Z:=Z) o (.lit 0) Y1;have g3:=qbs (Z:=Z) l (.lit 0) (mI o (.lit 0) Y1);have g4:=qbs (Z:=Z) c (.lit 0) (mI l (.lit 0) (mI o (.lit 0) Y1));exact ⟨((g1.1.trans g2.1).trans g3.1).trans g4.1,fun Yf he hs=>by
   simp only [T.den,O3.den,O0.den];rw [g3.2 Yf (g4.1.trans he) hs,g4.2 Yf he hs,g1.2 Yf (((g2.1.trans g3.1).trans g4.1).trans he)];simp [T.den,O0.den,qg]⟩
 ·rename_i r p c e
  simp only [jag] at h;obtain ⟨Y1,h1,rfl⟩:=h;have g1:=ql2 (Z:=Z) h1;have g2:=qbs (Z:=Z) e (.lit 0) Y1;exact ⟨g1.1.trans g2.1,fun Yf he hs=>by
   simp only [T.den,O1.den,O0.den];rw [g1.2 Yf (g2.1.trans he)];simp [qg]⟩
 ·simp only [jaa] at h; subst h; exact ⟨Ext.refl _,fun _ _ _=>rfl⟩
 ·simp only [jaa] at h; subst h; exact ⟨Ext.refl _,fun _ _ _=>rfl⟩
 ·simp only [jaa] at h; subst h; exact ⟨Ext.refl _,fun _ _ _=>rfl⟩
 ·rename_i n
  split at h
  ·rename_i hst
   obtain ⟨sa,hsa⟩:=qcc (Z:=Z) hst;split at h
   ·rename_i hc
    simp only [jad,jas,jb8] at hc;simp only [jaa] at h; subst h;refine ⟨Ext.bind hc.2,fun Yf he _=>?_⟩;have hn:¬ n < Yf.th:=by rw [he.th]; intro h; rw [show (Y.bind n (.t a)).th = Y.th from rfl] at h; rw [qbu h] at hc; simp at hc
    simp only [T.den,O1.den,Sg.env_look hn (he.bd _ _ (qdv Y n (.t a))),Bd.den,hsa,qq2]
   ·split at h
    ·rename_i hc
     simp only [jad,jay] at hc;simp only [jaa] at h; subst h;refine ⟨Ext.refl _,fun Yf he _=>?_⟩;rw [<- T.same_eq hc.2];simp only [T.den,O1.den,Sg.env_lt (show n < Yf.th by rw [he.th]; exact hc.1)]
    ·simp at h
  ·simp at h
 ·rename_i n
  split at h
  ·rename_i hc
   simp only [jad,jas,jb8] at hc;simp only [jaa] at h; subst h;refine ⟨Ext.bind hc.2,fun Yf he _=>?_⟩;have hn:¬ n < Yf.th:=by rw [he.th]; intro h; rw [show (Y.bind n (.t a)).th = Y.th from rfl] at h; rw [qbu h] at hc; simp at hc
   simp only [T.den,Sg.env_look hn (he.bd _ _ (qdv Y n (.t a))),Bd.den]
  ·split at h
   ·rename_i hc
    simp only [jad,jay] at hc;simp only [jaa] at h; subst h;refine ⟨Ext.refl _,fun Yf he _=>?_⟩;rw [<- T.same_eq hc.2];simp only [T.den,Sg.env_lt (show n < Yf.th by rw [he.th]; exact hc.1)]
   ·simp at h
 ·simp at h
theorem qoZ:∀ {p a:T} {Y Y':Sg},mRw p a Y = some Y'->Ext Y Y'/\∀ Yf,Ext Y' Yf->Sat Yf Z->(p.den (Yf.env Z)).d = (a.den Z).d:=by
 intro p
 induction p with
 | c2 o v r _ ih =>
  intro a Y Y' h;cases a with
  | c2 o' v' r' =>
   cases o <;> cases o' <;> simp only [mRw] at h <;> try (cases h; done)
   simp only [jai] at h;obtain ⟨Y1,h1,h2⟩:=h;have g1:=qkX (Z:=Z) h1;have g2:=ih h2;exact ⟨g1.1.trans g2.1,fun Yf he hs=>by simp only [T.den,O2.den]; rw [g1.2 Yf (g2.1.trans he) hs,g2.2 Yf he hs]⟩
  | _=>cases o <;> simp [mRw] at h
 | c0 o =>
  intro a Y Y' h;cases a with
  | c0 o' =>
   cases o <;> cases o' <;> simp only [mRw] at h <;> try (cases h; done)
   simp only [jaa] at h; subst h;exact ⟨Ext.refl _,fun _ _ _=>rfl⟩
  | _=>cases o <;> simp [mRw] at h
 | _=>intro a Y Y' h; cases a <;> simp [mRw] at h
theorem qgA:∀ (p a:T) (Y:Sg),Ext Y (mD p a Y)/\∀ Yf,Ext (mD p a Y) Yf->Sat Yf Z->(p.den (Yf.env Z)).d = (a.den Z).d:=by
 have other:∀ (p a:T) (Y:Sg),Ext Y { Y with eqD:=(p,a) :: Y.eqD }/\∀ Yf,Ext { Y with eqD:=(p,a) :: Y.eqD } Yf->Sat Yf Z->(p.den (Yf.env Z)).d = (a.den Z).d:=fun p a Y =>
  ⟨⟨rfl,fun _ _ h=>h,fun _ h=>h,fun _ h=>h,fun x h=>jab _ h⟩,fun Yf he hs=>hs.eqD p a (he.eqD _ (jac ..))⟩
 intro p a Y
 fun_induction mD p a Y with
 | case1 n a Y hc =>
  simp only [jad,jas,jb8] at hc;refine ⟨Ext.bind hc.2,fun Yf he _=>?_⟩;have hn:¬ n < Yf.th:=by rw [he.th]; intro h; rw [show (Y.bind n (.t a)).th = Y.th from rfl] at h; rw [qbu h] at hc; simp at hc
  simp only [T.den,Sg.env_look hn (he.bd _ _ (qdv Y n (.t a))),Bd.den]
 | case2=>exact other _ _ _
 | case3 d e r c d' e' r' Y Y1 hr ih =>
  have g1:=qoZ (Z:=Z) hr;have g3:=qbs (Z:=Z) e e' (mD d d' Y1);exact ⟨(g1.1.trans ih.1).trans g3.1,fun Yf he hs=>by
   simp only [T.den,O3.den];rw [g1.2 Yf ((ih.1.trans g3.1).trans he) hs,ih.2 Yf (g3.1.trans he) hs,g3.2 Yf he hs]⟩
 | case4=>exact other _ _ _
 | case5=>exact other _ _ _
 | case6 x y x' y' Y ih1 ih2 =>
  exact ⟨ih1.1.trans ih2.1,fun Yf he hs=>by
   simp only [T.den,O2.den];rw [ih1.2 Yf (ih2.1.trans he) hs,ih2.2 Yf he hs]⟩
 | case7 v r a Y Y1 hr=>exact qoZ (Z:=Z) hr
 | case8=>exact other _ _ _
 | case9=>exact other _ _ _
theorem qlG:∀ {ps avs:List T} {Y Y':Sg},qlj ps avs Y = some Y'->Ext Y Y'/\∀ Yf,Ext Y' Yf->Sat Yf Z->qa (Yf.env Z) ps = qa Z avs
 | [],[],Y,Y',h=>by simp only [qlj,jaa] at h; subst h; exact ⟨Ext.refl _,fun _ _ _=>rfl⟩
 | p :: ps,a :: avs,Y,Y',h=>by
  simp only [qlj,jai] at h;obtain ⟨Y1,h1,h2⟩:=h;have g1:=qkX (Z:=Z) h1;have g2:=qlG h2;exact ⟨g1.1.trans g2.1,fun Yf he hs=>by
   have:=g2.2 Yf he hs;simp only [qa,jao] at this ⊢;rw [this,g1.2 Yf (g2.1.trans he) hs]⟩
 | [],_ :: _,Y,Y',h=>by simp [qlj] at h
 | _ :: _,[],Y,Y',h=>by simp [qlj] at h
theorem qqf:∀ (ps avs:List T) (Y:Sg),Ext Y (qeP ps avs Y):=by
 intro ps avs Y
 fun_induction qeP ps avs Y with
 | case1 k c n ps a avs Y hc ih =>
  simp only [jad,jas,jb8] at hc;exact (Ext.bind hc.2).trans ih
 | case2=>assumption
 | case3=>assumption
 | case4=>exact Ext.refl _
theorem qf4 {ps avs:List T} {Y Y':Sg} (h:mVs ps avs Y = some Y'):Ext Y Y'/\∀ Yf,Ext Y' Yf->Sat Yf Z->qa (Yf.env Z) ps = qa Z avs:=by
 have g:=qlG (Z:=Z) h;exact ⟨(qqf ps avs Y).trans g.1,g.2⟩
theorem qm5:∀ {ps avs:List (Bool × List T)} {Y Y':Sg},mSV.mTup ps avs Y = some Y'->Ext Y Y'/\∀ Yf,Ext Y' Yf->Sat Yf Z->ps.map (qdD (Yf.env Z)) = avs.map (qdD Z)
 | [],[],Y,Y',h=>by simp only [mSV.mTup,jaa] at h; subst h; exact ⟨Ext.refl _,fun _ _ _=>rfl⟩
 | (g,p) :: ps,(g',a) :: avs,Y,Y',h=>by
  simp only [mSV.mTup] at h;split at h
  ·rename_i hg
   subst hg;simp only [jai] at h;obtain ⟨Y1,h1,h2⟩:=h;have g1:=qf4 (Z:=Z) h1;have g2:=qm5 h2;exact ⟨g1.1.trans g2.1,fun Yf he hs=>by
    simp only [jao];rw [g2.2 Yf he hs];have:=g1.2 Yf (g2.1.trans he) hs;cases g <;> simp only [qdD] <;> rw [this]⟩
  ·simp at h
 | [],_ :: _,Y,Y',h=>by simp [mSV.mTup] at h
 | _ :: _,[],Y,Y',h=>by simp [mSV.mTup] at h
theorem qj5 {p a:SV} {Y Y':Sg} (h:mSV p a Y = some Y'):Ext Y Y'/\∀ Yf,Ext Y' Yf->Sat Yf Z->p.den (Yf.env Z) = a.den Z:=by
 unfold mSV at h;split at h
 ·have g:=qkX (Z:=Z) h
  exact ⟨g.1,fun Yf he hs=>by simp only [SV.den]; rw [g.2 Yf he hs]⟩
 ·have g:=qf4 (Z:=Z) h
  exact ⟨g.1,fun Yf he hs=>by simp only [SV.den]; rw [g.2 Yf he hs]⟩
 ·split at h
  ·rename_i hf
   subst hf;simp only [jai] at h;obtain ⟨Y1,h1,h2⟩:=h;have g1:=qf4 (Z:=Z) h1;have g2:=qf4 (Z:=Z) h2;exact ⟨g1.1.trans g2.1,fun Yf he hs=>by simp only [SV.den]; rw [g2.2 Yf he hs,g1.2 Yf (g2.1.trans he) hs]⟩
  ·simp at h
 ·have g:=qm5 (Z:=Z) h
  exact ⟨g.1,fun Yf he hs=>by simp only [SV.den]; rw [g.2 Yf he hs]⟩
 ·simp at h
theorem qm8:∀ {ps avs:List SV} {Y Y':Sg},qhl ps avs Y = some Y'->Ext Y Y'/\∀ Yf,Ext Y' Yf->Sat Yf Z->ps.map (SV.den (Yf.env Z)) = avs.map (SV.den Z)
 | [],[],Y,Y',h=>by simp only [qhl,jaa] at h; subst h; exact ⟨Ext.refl _,fun _ _ _=>rfl⟩
 | p :: ps,a :: avs,Y,Y',h=>by
  simp only [qhl,jai] at h;obtain ⟨Y1,h1,h2⟩:=h;have g1:=qj5 (Z:=Z) h1;have g2:=qm8 h2;exact ⟨g1.1.trans g2.1,fun Yf he hs=>by
   simp only [jao];rw [g2.2 Yf he hs,g1.2 Yf (g2.1.trans he) hs]⟩
 | [],_ :: _,Y,Y',h=>by simp [qhl] at h
 | _ :: _,[],Y,Y',h=>by simp [qhl] at h
theorem qf9 (hg:Z.good) {p a:SH} {Y Y':Sg} (h:mH1 p a Y = some Y'):Ext Y Y'/\∀ Yf r r',p.reg = some r->a.reg = some r'->Yf.env Z r = Z r'->Ext Y' Yf->Sat Yf Z ->
  (∀ hp,a.den Z hp->p.den (Yf.env Z) hp)/\(∀ hp,a.roden Z hp->p.roden (Yf.env Z) hp):=by
 unfold mH1 at h;split at h
 ·rename_i r0 ty ps r1 ty' avs
  split at h
  ·rename_i ht
   have ht:=Nat.eq_of_beq_eq_true ht;subst ht;have g:=qf4 (Z:=Z) h;refine ⟨g.1,fun Yf r r' hr hr' hrr he hs=>?_⟩;simp only [SH.reg,jaa] at hr hr';subst hr; subst hr';have:=g.2 Yf he hs;refine ⟨fun hp=>?_,fun hp=>?_⟩
   ·simp only [SH.den]; rw [this,hrr]; exact id
   ·simp only [SH.roden]; rw [this,hrr]; exact id
  ·simp at h
 ·rename_i r0 ty pat d cap r1 ty' pat' d' cap'
  split at h
  ·rename_i ht
   simp only [jad,jav] at ht;obtain ⟨ht,hpat⟩:=ht;have ht:=Nat.eq_of_beq_eq_true ht;subst ht; subst hpat;simp only [jaa] at h; subst h;have g1:=qgA (Z:=Z) d d' Y;have g2:=qbs (Z:=Z) cap cap' (mD d d' Y);refine ⟨g1.1.trans g2.1,fun Yf r r' hr hr' hrr he hs=>?_⟩;simp only [SH.reg,jaa] at hr hr';subst hr; subst hr';have e1:=g1.2 Yf (g2.1.trans he) hs;have e2:=g2.2 Yf he hs;refine ⟨fun hp=>?_,fun hp=>?_⟩
   ·simp only [SH.den]; rw [e1,e2,hrr]; exact id
   ·simp only [SH.roden]; rw [e1,hrr]; exact id
  ·simp at h
 ·rename_i r0 ty pat d cap r1 ty' avs
  split at h
  ·rename_i ht
   simp only [jad] at ht;obtain ⟨⟨ht,hpos⟩,hmod⟩:=ht;have ht:=Nat.eq_of_beq_eq_true ht;have hmod:=Nat.eq_of_beq_eq_true hmod;simp only [jay] at hpos;subst ht;split at h
   ·rename_i D hD
    simp only [jaa] at h; subst h;have g1:=qgA (Z:=Z) d D Y;have g2:=qbs (Z:=Z) cap (.lit ((avs.length / pat.length:Nat):Int)) (mD d D Y);refine ⟨g1.1.trans g2.1,fun Yf r r' hr hr' hrr he hs=>?_⟩;simp only [SH.reg,jaa] at hr hr';subst hr; subst hr';have e1:=g1.2 Yf (g2.1.trans he) hs;have e2:=g2.2 Yf he hs;obtain ⟨l1,l2,l3⟩:=qfj hg rfl hD;have hlen:(avs.length / pat.length) * pat.length = avs.length:=by
     have:=jee avs.length pat.length;rw [hmod,jcz] at this; omega
    refine ⟨fun hp hx=>?_,fun hp hx=>?_⟩
    ·obtain ⟨b,h1,h2⟩:=hx
     refine .inr ⟨b,_,by rw [hrr]; exact h1,h2,?_,?_,?_⟩
     ·rw [e2]; show _ = (((avs.length / pat.length:Nat):Int)).toNat * pat.length; rw [Int.toNat_natCast,hlen]; simp [qa]
     ·rw [e1,e2,l1]; exact Int.le_refl _
     ·rw [e1]; exact qbU l3 (fun j v hv=>by rw [l2] at hv; simpa using hv)
    ·obtain ⟨b,o,c,ty',fr,h1,h2,h3⟩:=hx
     refine .inr ⟨b,o,c,ty',fr,by rw [hrr]; exact h1,h2,?_⟩;rw [e1]; exact qbU l3 (fun j v hv=>by rw [l2] at hv; exact h3 j v hv)
   ·simp at h
  ·simp at h
 ·simp at h
theorem qmP {p:SH} {n t:Nat} (h:p.isAbs = some (n,t)):p = .abs n t:=by
 cases p <;> simp_all [SH.isAbs]
theorem qcI {t:Nat}:∀ {l:List SH} {k m:Nat},qfm t l = some (k,m)->l[k]? = some (.abs m t)
 | [],k,m,h=>by simp [qfm] at h
 | .abs m' t' :: l,k,m,h=>by
  simp only [qfm] at h;split at h
  ·rename_i ht
   simp only [jaa,jak] at h;obtain ⟨rfl,rfl⟩:=h;rw [Nat.eq_of_beq_eq_true ht]; rfl
  ·simp only [jag,jak,jcs] at h
   obtain ⟨k',x',h',rfl,rfl⟩:=h;simpa using qcI h'
 | .cells _ _ _ :: l,k,m,h=>by
  simp only [qfm,jag,jak,jcs] at h;obtain ⟨k',x',h',rfl,rfl⟩:=h;simpa using qcI h'
 | .arr _ _ _ _ _ :: l,k,m,h=>by
  simp only [qfm,jag,jak,jcs] at h;obtain ⟨k',x',h',rfl,rfl⟩:=h;simpa using qcI h'
theorem qgi (hg:Z.good):∀ {ps h ro rest:List SH} {Y Y':Sg} {hO:Hp},mHs true ps h ro Y = some (rest,Y')->qav Z h hO->Ext Y Y'/\∀ Yf,Ext Y' Yf->Sat Yf Z ->
  ∃ h1 h2,Hp.disj h1 h2/\hO = Hp.union h1 h2/\qav (Yf.env Z) ps h1/\qav Z rest h2
 | [],h,ro,rest,Y,Y',hO,hm,hs=>by
  simp only [mHs,jaa,jak] at hm;obtain ⟨rfl,rfl⟩:=hm;exact ⟨Ext.refl _,fun _ _ _=>⟨Hp.emp,hO,Hp.emp_disj _,(Hp.emp_union _).symm,trivial,hs⟩⟩
 | p :: ps,h,ro,rest,Y,Y',hO,hm,hs=>by
  simp only [mHs] at hm;split at hm
  ·rename_i n t hp
   have hp:=qmP hp;subst hp;split at hm
   ·rename_i k m hat
    simp only [jai,ja9] at hm;obtain ⟨Y1,h1,h2⟩:=hm;have hk:=qcI hat;have g1:=qdt (Z:=Z) h1;obtain ⟨t1,t2,td,tu,tx,ts⟩:=qax hs hk;have g2:=qgi hg h2 ts;refine ⟨g1.1.trans g2.1,fun Yf he hsat=>?_⟩;obtain ⟨u1,u2,ud,uu,a1,a2⟩:=g2.2 Yf he hsat;have hx:SH.den (Yf.env Z) (.abs n t) t1:=by
     simp only [SH.den];rw [g1.2 Yf (g2.1.trans he)]; exact tx
    subst tu; subst uu;rw [Hp.disj_union] at td;exact ⟨Hp.union t1 u1,u2,Hp.disj_union'.2 ⟨td.2,ud⟩,(Hp.union_assoc _ _ _).symm,⟨t1,u1,td.1,rfl,hx,a1⟩,a2⟩
   ·simp at hm
  split at hm
  ·simp at hm
  ·rename_i r hr
   split at hm
   ·rename_i hc
    simp only [jad,jas] at hc;obtain ⟨hc1,hc2⟩:=hc;have hn:¬ r < Y.th:=fun h=>by rw [qbu h] at hc1; cases hc1
    have hl:look r Y.bd = some .nil:=by
     revert hc2; cases hl:look r Y.bd with
     | none=>simp [qhM]
     | some b=>cases b <;> simp [qhM]
    split at hm
    ·rename_i r' ty pat d cap _
     simp only [SH.reg,jaa] at hr; subst hr;have g1:=qgA (Z:=Z) d .dnil Y;have g2:=qbs (Z:=Z) cap (.lit 0) (mD d .dnil Y);have g3:=qgi hg hm hs;refine ⟨(g1.1.trans g2.1).trans g3.1,fun Yf he hsat=>?_⟩;obtain ⟨h1,h2,hd,hu,a1,a2⟩:=g3.2 Yf he hsat;refine ⟨h1,h2,hd,hu,⟨Hp.emp,h1,Hp.emp_disj _,(Hp.emp_union _).symm,.inl ⟨?_,?_,?_⟩,a1⟩,a2⟩
     ·rw [Sg.env_look (by rw [he.th,g3.1.th,g2.1.th,g1.1.th]; exact hn) (he.bd _ _ (g3.1.bd _ _ (g2.1.bd _ _ (g1.1.bd _ _ hl))))]; rfl
     ·rw [g1.2 Yf ((g2.1.trans g3.1).trans he) hsat]; rfl
     ·rw [g2.2 Yf (g3.1.trans he) hsat]; rfl
    ·simp at hm
   ·split at hm
    ·simp at hm
    ·rename_i r' hreg
     split at hm
     ·rename_i k a hat
      simp only [jai,ja9] at hm;obtain ⟨Y1,h1,h2⟩:=hm;obtain ⟨hk,ha⟩:=qac hat;have g1:=qf9 hg h1;obtain ⟨t1,t2,td,tu,tx,ts⟩:=qax hs hk;have g2:=qgi hg h2 ts;refine ⟨g1.1.trans g2.1,fun Yf he hsat=>?_⟩;obtain ⟨u1,u2,ud,uu,a1,a2⟩:=g2.2 Yf he hsat;have hrr:Yf.env Z r = Z r':=by
       have hx:Ext Y Yf:=(g1.1.trans g2.1).trans he;unfold Sg.reg at hreg;by_cases hlt:r < Y.th
       ·rw [qbu hlt] at hreg
        simp only [ja9,jaa] at hreg;rw [Sg.env_lt (by rw [hx.th]; exact hlt),hreg]
       ·rw [qdw hlt] at hreg
        simp only [jal,jaw] at hreg;split at hreg
        ·rename_i m hl
         simp only [jaa] at hreg;rw [Sg.env_look (by rw [hx.th]; exact hlt) (hx.bd _ _ hl),<- hreg]; rfl
        ·simp at hreg
      have hx:=(g1.2 Yf r r' hr ha hrr (g2.1.trans he) hsat).1 t1 tx;subst tu; subst uu;rw [Hp.disj_union] at td;refine ⟨Hp.union t1 u1,u2,Hp.disj_union'.2 ⟨td.2,ud⟩,(Hp.union_assoc _ _ _).symm,⟨t1,u1,td.1,rfl,hx,a1⟩,a2⟩
     ·simp at hm
theorem qs4 {Y Yf:Sg} {r r':Nat} (hreg:Y.reg r = some r') (hx:Ext Y Yf):Yf.env Z r = Z r':=by
 unfold Sg.reg at hreg;by_cases hlt:r < Y.th
 ·rw [qbu hlt] at hreg
  simp only [ja9,jaa] at hreg;rw [Sg.env_lt (by rw [hx.th]; exact hlt),hreg]
 ·rw [qdw hlt] at hreg
  simp only [jal,jaw] at hreg;split at hreg
  ·rename_i m hl
   simp only [jaa] at hreg;rw [Sg.env_look (by rw [hx.th]; exact hlt) (hx.bd _ _ hl),<- hreg]; rfl
  ·simp at hreg
theorem qh6 (hg:Z.good):∀ {ps h ro rest:List SH} {Y Y':Sg} {hF hO H:Hp},mHs false ps h ro Y = some (rest,Y')->qav Z h hO->(∀ x ∈ ro,x.roden Z hF)->Hp.le hO H->Hp.le hF H ->
  Ext Y Y'/\rest = h/\∀ Yf,Ext Y' Yf->Sat Yf Z->∀ p ∈ ps,p.roden (Yf.env Z) H
 | [],h,ro,rest,Y,Y',hF,hO,H,hm,hs,hr,_,_=>by
  simp only [mHs,jaa,jak] at hm;obtain ⟨rfl,rfl⟩:=hm;exact ⟨Ext.refl _,rfl,fun _ _ _ p hp=>by cases hp⟩
 | p :: ps,h,ro,rest,Y,Y',hF,hO,H,hm,hs,hro,hl1,hl2=>by
  simp only [mHs] at hm;split at hm
  ·rename_i n t hp
   have hp:=qmP hp;subst hp;split at hm
   ·rename_i k m hat
    simp only [jai,jal,jaw] at hm;obtain ⟨Y1,h1,h2⟩:=hm;have hk:=qcI hat;have g1:=qdt (Z:=Z) h1;have g2:=qh6 hg h2 hs hro hl1 hl2;refine ⟨g1.1.trans g2.1,g2.2.1,fun Yf he hsat q hq=>?_⟩;cases hq with
    | head =>
     obtain ⟨t1,t2,td,tu,tx,ts⟩:=qax hs hk;simp only [SH.roden];rw [g1.2 Yf (g2.1.trans he)];exact Hp.le_trans tx.1 (Hp.le_trans (tu ▸ Hp.le_left t1 t2) hl1)
    | tail _ hq=>exact g2.2.2 Yf he hsat q hq
   ·simp only [jal,jaw] at hm
    split at hm
    ·rename_i k m hat
     simp only [jai] at hm;obtain ⟨Y1,h1,h2⟩:=hm;have hk:=qcI hat;have g1:=qdt (Z:=Z) h1;have g2:=qh6 hg h2 hs hro hl1 hl2;refine ⟨g1.1.trans g2.1,g2.2.1,fun Yf he hsat q hq=>?_⟩;cases hq with
     | head =>
      simp only [SH.roden];rw [g1.2 Yf (g2.1.trans he)];exact Hp.le_trans (hro _ (jar hk)) hl2
     | tail _ hq=>exact g2.2.2 Yf he hsat q hq
    ·simp at hm
  split at hm
  ·simp at hm
  ·rename_i r hr
   split at hm
   ·rename_i hc
    simp only [jad,jas] at hc;obtain ⟨hc1,hc2⟩:=hc;have hn:¬ r < Y.th:=fun h=>by rw [qbu h] at hc1; cases hc1
    have hl:look r Y.bd = some .nil:=by
     revert hc2; cases hl:look r Y.bd with
     | none=>simp [qhM]
     | some b=>cases b <;> simp [qhM]
    split at hm
    ·rename_i r' ty pat d cap _
     simp only [SH.reg,jaa] at hr; subst hr;have g1:=qgA (Z:=Z) d .dnil Y;have g2:=qbs (Z:=Z) cap (.lit 0) (mD d .dnil Y);have g3:=qh6 hg hm hs hro hl1 hl2;refine ⟨(g1.1.trans g2.1).trans g3.1,g3.2.1,fun Yf he hsat q hq=>?_⟩;cases hq with
     | head =>
      refine .inl ?_;rw [g1.2 Yf ((g2.1.trans g3.1).trans he) hsat]; rfl
     | tail _ hq=>exact g3.2.2 Yf he hsat q hq
    ·simp at hm
   ·split at hm
    ·simp at hm
    ·rename_i r' hreg
     split at hm
     ·rename_i k a hat
      simp only [jai,jal,jaw] at hm;obtain ⟨Y1,h1,h2⟩:=hm;obtain ⟨hk,ha⟩:=qac hat;have g1:=qf9 hg h1;have g2:=qh6 hg h2 hs hro hl1 hl2;refine ⟨g1.1.trans g2.1,g2.2.1,fun Yf he hsat q hq=>?_⟩;cases hq with
      | head =>
       obtain ⟨t1,t2,td,tu,tx,ts⟩:=qax hs hk;have hrr:=qs4 (Z:=Z) hreg ((g1.1.trans g2.1).trans he);refine (g1.2 Yf r r' hr ha hrr (g2.1.trans he) hsat).2 H (SH.den_ro tx ?_);exact Hp.le_trans (tu ▸ Hp.le_left t1 t2) hl1
      | tail _ hq=>exact g2.2.2 Yf he hsat q hq
     ·simp only [jal,jaw] at hm
      split at hm
      ·rename_i k a hat
       simp only [jai] at hm;obtain ⟨Y1,h1,h2⟩:=hm;obtain ⟨hk,ha⟩:=qac hat;have g1:=qf9 hg h1;have g2:=qh6 hg h2 hs hro hl1 hl2;refine ⟨g1.1.trans g2.1,g2.2.1,fun Yf he hsat q hq=>?_⟩;cases hq with
       | head =>
        have hrr:=qs4 (Z:=Z) hreg ((g1.1.trans g2.1).trans he);exact (g1.2 Yf r r' hr ha hrr (g2.1.trans he) hsat).2 H (SH.ro_mono (hro a (jar hk)) hl2)
       | tail _ hq=>exact g2.2.2 Yf he hsat q hq
      ·simp at hm
theorem qd4:∀ {ps h ro rest:List SH} {Y Y':Sg},mHs false ps h ro Y = some (rest,Y')->Ext Y Y'
 | [],h,ro,rest,Y,Y',hm=>by
  simp only [mHs,jaa,jak] at hm;obtain ⟨rfl,rfl⟩:=hm;exact Ext.refl _
 | p :: ps,h,ro,rest,Y,Y',hm=>by
  simp only [mHs] at hm;split at hm
  ·split at hm
   ·simp only [jai,jal,jaw] at hm
    obtain ⟨Y1,h1,h2⟩:=hm;exact (qdt (Z:=fun _=>{}) h1).1.trans (qd4 h2)
   ·simp only [jal,jaw] at hm
    split at hm
    ·simp only [jai] at hm
     obtain ⟨Y1,h1,h2⟩:=hm;exact (qdt (Z:=fun _=>{}) h1).1.trans (qd4 h2)
    ·simp at hm
  split at hm
  ·simp at hm
  ·rename_i r hr
   split at hm
   ·split at hm
    ·rename_i r' ty pat d cap _
     exact ((qgA (Z:=fun _=>{}) d .dnil Y).1.trans (qbs (Z:=fun _=>{}) cap (.lit 0) (mD d .dnil Y)).1).trans (qd4 hm)
    ·simp at hm
   ·split at hm
    ·simp at hm
    ·split at hm
     ·simp only [jai,jal,jaw] at hm
      obtain ⟨Y1,h1,h2⟩:=hm;exact (qf9 (Z:=fun _=>{}) (fun _=>⟨rfl,by simp⟩) h1).1.trans (qd4 h2)
     ·simp only [jal,jaw] at hm
      split at hm
      ·simp only [jai] at hm
       obtain ⟨Y1,h1,h2⟩:=hm;exact (qf9 (Z:=fun _=>{}) (fun _=>⟨rfl,by simp⟩) h1).1.trans (qd4 h2)
      ·simp at hm
theorem qf2 {Y:Sg} (f:T->T->Option T) (R:T->T->Prop) (hsame:∀ p p' a,Y.sub p = some p'->p'.same a = true->R p a)
  (hf:∀ p p' a c,Y.sub p = some p'->f p' a = some c->(c.den Z).b = true->R p a) :
  ∀ {l:List (T × T)} {cs:List T},Y.eqs f l = some cs->(∀ c ∈ cs,(c.den Z).b = true)->∀ p a,(p,a) ∈ l->R p a
 | [],_,_,_,p,a,h=>by cases h
 | (p,a) :: r,cs,hm,hc,q,b,hq=>by
  simp only [Sg.eqs] at hm;split at hm
  ·rename_i p' cs' hp hcs
   split at hm
   ·rename_i hs
    simp only [jaa] at hm; subst hm;cases hq with
    | head=>exact hsame _ _ _ hp hs
    | tail _ hq=>exact qf2 f R hsame hf hcs hc q b hq
   ·split at hm
    ·rename_i c hfc
     simp only [jaa] at hm; subst hm;cases hq with
     | head=>exact hf _ _ _ _ hp hfc (hc c (jac ..))
     | tail _ hq=>exact qf2 f R hsame hf hcs (fun c h=>hc c (jab _ h)) q b hq
    ·simp at hm
  ·simp at hm
end Go.Eng
namespace Go.Eng
open Go
structure Fr where
 h:Hp
 os:Os
 out:Array (Nat × ByteArray)
instance:Coe Fr Hp:=⟨Fr.h⟩
instance:CoeFun Fr (fun _=>Hp):=⟨Fr.h⟩
def Fr.wi (F:Fr) (w:World):Prop:=w.os = F.os/\w.output = F.out
structure Holds (Z:Env) (hF:Fr) (s:S) (a:Act) (w:World):Prop where
 gd:Z.good
 nt:s.nt <= a.tmps.size
 df:a.defers = []
 env:∀ t v,qbj t s.env = some v->a.tmps.getD t undef = v.den Z
 ro:∀ x ∈ s.ro,x.roden Z hF
 hp:∃ hO,Hp.disj hF hO/\qav Z s.heap hO/\(Hp.union hF hO).sub w/\hF.wi w
 pc:∀ c b,(c,b) ∈ s.pc->(c.den Z).b = b
 vw:∀ x ∈ s.vw,∃ m ∈ x.1,x.2.roden Z (Z m).h
variable {P:Program} {Z:Env} {hF:Fr} {s:S} {a:Act} {w:World}
theorem ql5 {v:Value} {t:T} (h:qh0 v = some t):(t.den Z).v = v:=by
 unfold qh0 at h;split at h <;> simp only [jaa,reduceCtorEq] at h <;> subst h <;> simp [T.den,O0.den,O1.den]
theorem qnP {v:Value} {t:T} {n:Nat} (h:qh0 v = some t):t.inB n = true:=by
 unfold qh0 at h;split at h <;> simp only [jaa,reduceCtorEq] at h <;> subst h <;> simp [T.inB]
theorem qfh:∀ {l:List Value} {ts:List T},qd8 l = some ts->qa Z ts = l
 | [],ts,h=>by simp only [qd8,jaa] at h; subst h; rfl
 | v :: r,ts,h=>by
  simp only [qd8] at h;split at h
  ·rename_i t ts' h1 h2
   simp only [jaa] at h; subst h;have:=qfh h2;simp only [qa,jao] at this ⊢;rw [this,ql5 h1]
  ·simp at h
theorem qii {n:Nat}:∀ {l:List Value} {ts:List T},qd8 l = some ts->ts.all (T.inB n) = true
 | [],ts,h=>by simp only [qd8,jaa] at h; subst h; rfl
 | v :: r,ts,h=>by
  simp only [qd8] at h;split at h
  ·rename_i t ts' h1 h2
   simp only [jaa] at h; subst h;simp only [jcp,qnP h1,qii h2,Bool.and_self]
  ·simp at h
theorem qrF {v:Value} {x:SV} (h:ofValue v = some x):x.den Z = v:=by
 unfold ofValue at h;split at h
 ·rename_i cs
  simp only [jag] at h;obtain ⟨ts,h1,rfl⟩:=h;simp only [SV.den,qfh h1]
 ·simp only [jag] at h
  obtain ⟨t,h1,rfl⟩:=h;simp only [SV.den,ql5 h1]
theorem quY {v:Value} {x:SV} {n:Nat} (h:ofValue v = some x):x.inB n = true:=by
 unfold ofValue at h;split at h
 ·rename_i cs
  simp only [jag] at h;obtain ⟨ts,h1,rfl⟩:=h;exact qii h1
 ·simp only [jag] at h
  obtain ⟨t,h1,rfl⟩:=h;exact qnP h1
theorem Holds.opd (hs:Holds Z hF s a w) {x:Operand} {v:SV} (h:opd s x = some v):a.eval x = v.den Z:=by
 cases x with
 | tmp t=>exact hs.env t v h
 | const c=>exact (qrF h).symm
 | global g=>simp [Eng.opd] at h
 | func f =>
  simp only [Eng.opd,jaa] at h; subst h;simp [Act.eval,SV.den,qa]
theorem Holds.opds (hs:Holds Z hF s a w):∀ {xs:List Operand} {vs:List SV},opds s xs = some vs->xs.map a.eval = vs.map (SV.den Z)
 | [],vs,h=>by simp only [Eng.opds,jaa] at h; subst h; rfl
 | x :: r,vs,h=>by
  simp only [Eng.opds] at h;split at h
  ·rename_i v vs' h1 h2
   simp only [jaa] at h; subst h;simp only [jao];rw [hs.opd h1,Holds.opds hs h2]
  ·simp at h
theorem qlc {n:Nat}:∀ {l:List (Nat × SV)} {t:Nat} {v:SV},l.all (fun x=>x.2.inB n) = true->qbj t l = some v->v.inB n = true
 | [],t,v,_,h=>by simp [qbj] at h
 | (k,u) :: r,t,v,hb,h=>by
  simp only [jcp,jad] at hb;simp only [qbj] at h;split at h
  ·simp only [jaa] at h; rw [<- h]; exact hb.1
  ·exact qlc hb.2 h
theorem qiW (hsc:s.scopedEH = true) {x:Operand} {v:SV} (h:opd s x = some v):v.inB s.nx = true:=by
 simp only [S.scopedEH,jad] at hsc;cases x with
 | tmp t=>exact qlc hsc.1 h
 | const c=>exact quY h
 | global g=>simp [Eng.opd] at h
 | func f=>simp only [Eng.opd,jaa] at h; subst h; rfl
theorem qqv {v:SV} {cs:List T} {n:Nat} (h:v.cells = some cs) (hv:v.inB n = true):cs.all (T.inB n) = true:=by
 cases v <;> simp only [SV.cells,jaa,reduceCtorEq] at h <;> subst h
 ·simpa [SV.inB] using hv
 ·exact hv
theorem qfZ {d:List (List Value)} (h:∀ row ∈ d,∀ v ∈ row,v.oneCell' = true):∀ v ∈ d.headD [],v.oneCell' = true:=by
 cases d with
 | nil=>simp
 | cons r _=>simpa using h r (by simp)
theorem T.den_good (hg:Z.good):∀ (t:T),(t.den Z).good
 | .var n=>hg n
 | .c0 o=>by cases o <;> simp [T.den,O0.den,U.good,Value.oneCell']
 | .c1 o x=>by cases o <;> simp [T.den,O1.den,U.good,Value.oneCell']
 | .c2 o x y=>by
  have hx:=T.den_good hg x;have hy:=T.den_good hg y;cases o <;> simp only [T.den,O2.den] <;> (try (simp [U.good,Value.oneCell']; done))
  case vcell c=>exact ⟨qne hx.2 _ _,by simp⟩
  case dsnoc=>exact ⟨rfl,fun row hr=>(ja4.1 hr).elim (hx.2 row) (hy.2 row)⟩
  case rcons =>
   refine ⟨rfl,fun row hr v hv=>?_⟩;simp only [jan] at hr;subst hr;rcases jba.1 hv with rfl | hv
   ·exact hx.1
   ·exact qfZ hy.2 v hv
  case drep =>
   refine ⟨rfl,fun row hr v hv=>?_⟩;rw [(List.mem_replicate.1 hr).2] at hv;exact qfZ hy.2 v hv
  case dapp=>exact ⟨rfl,fun row hr=>(ja4.1 hr).elim (hx.2 row) (hy.2 row)⟩
  case dtake=>exact ⟨rfl,fun row hr=>hx.2 row (jb4 hr)⟩
  case ddrop=>exact ⟨rfl,fun row hr=>hx.2 row (jcn hr)⟩
 | .c3 o x y z=>by
  have hx:=T.den_good hg x;have hz:=T.den_good hg z;cases o
  ·simp [T.den,O3.den,U.good,Value.oneCell']
  ·simp only [T.den,O3.den]
   refine ⟨rfl,fun row hr v hv=>?_⟩;unfold qL at hr;rcases jdi hr with hr | rfl
   ·exact hx.2 row hr v hv
   ·unfold qbb at hv
    rcases ja4.1 hv with hv | hv
    ·rcases ja4.1 hv with hv | hv
     ·have hv:=jb4 hv
      cases h1:(x.den Z).d[(y.den Z).i.toNat]? with
      | none=>rw [h1] at hv; simp at hv
      | some row=>rw [h1] at hv; exact hx.2 row (jar h1) v hv
     ·exact qfZ hz.2 v hv
    ·have hv:=jcn hv
     cases h1:(x.den Z).d[(y.den Z).i.toNat]? with
     | none=>rw [h1] at hv; simp at hv
     | some row=>rw [h1] at hv; exact hx.2 row (jar h1) v hv
  ·simp only [T.den,O3.den]
   refine ⟨rfl,fun row hr v hv=>?_⟩;cases hd:(x.den Z).d with
   | nil=>rw [hd] at hr; simp [qip] at hr
   | cons r0 rest =>
    rw [hd] at hr;simp only [qip,jba] at hr;rcases hr with rfl | hr
    ·rcases jdi hv with hv | rfl
     ·exact hx.2 r0 (by rw [hd]; exact jac ..) v hv
     ·exact hz.1
    ·exact hx.2 row (by rw [hd]; exact jab _ hr) v hv
  ·simp only [T.den,O3.den]
   refine ⟨rfl,fun row hr=>?_⟩;simp only [qcT,ja4] at hr;rcases hr with (hr | hr) | hr
   ·exact hx.2 row (jb4 hr)
   ·exact hz.2 row hr
   ·exact hx.2 row (jcn hr)
  ·simp [T.den,O3.den,U.good,Value.oneCell']
  ·simp only [T.den,O3.den]
   refine ⟨rfl,fun row hr v hv=>?_⟩;obtain ⟨u,hu,rfl⟩:=jb5.1 hr;rw [jan.1 hv];exact qfZ hx.2 u (jcn (jb4 hu))
  ·simp only [T.den,O3.den]
   refine ⟨rfl,fun row hr v hv=>?_⟩;cases hd:(x.den Z).d with
   | nil=>rw [hd] at hr; simp [qcO] at hr
   | cons r0 rest =>
    rw [hd] at hr;simp only [qcO,jba] at hr;rcases hr with rfl | hr
    ·unfold qbb at hv
     rcases ja4.1 hv with hv | hv
     ·rcases ja4.1 hv with hv | hv
      ·exact hx.2 r0 (by rw [hd]; exact jac ..) v (jb4 hv)
      ·obtain ⟨q,hq,rfl⟩:=jb5.1 hv
       cases q with
       | nil=>rfl
       | cons u q=>exact hz.2 _ hq _ (jac ..)
     ·exact hx.2 r0 (by rw [hd]; exact jac ..) v (jcn hv)
    ·exact hx.2 row (by rw [hd]; exact jab _ hr) v hv
 | .ife x y u v=>by simp [T.den,U.good,Value.oneCell']
theorem qfY (hg:Z.good) (ts:List T):∀ v ∈ qa Z ts,v.oneCell' = true:=by
 intro v hv;obtain ⟨t,_,rfl⟩:=jb5.1 hv;exact (T.den_good hg t).1
theorem qgT (hg:Z.good) {v:SV} {cs:List T} (h:v.cells = some cs):(v.den Z).cells = (qa Z cs).toArray:=by
 cases v with
 | one t =>
  simp only [SV.cells,jaa] at h; subst h;have:=(T.den_good hg t).1;simp only [SV.den,qa,jao,jbf];cases hv:(t.den Z).v <;> simp_all [Value.cells,Value.oneCell']
 | agg ts=>simp only [SV.cells,jaa] at h; subst h; simp [SV.den,Value.cells]
 | tup vs=>simp [SV.cells] at h
 | fn f x y=>simp [SV.cells] at h
theorem qdW {t:TypeId} {b:Bool} (h:qcz P t = some b) (w:World):(isAgg t).run P w = .ok b w:=by
 unfold qcz at h;unfold isAgg;simp only [Sem.run_bind];have hu:∀ d,P.underlying t = some d->(underlying t).run P w = .ok d w:=fun d hd=>by simp [underlying,hd]
 split at h
 ·rename_i fs hd; simp only [jaa] at h; subst h; simp [hu _ hd]
 ·rename_i n e hd; simp only [jaa] at h; subst h; simp [hu _ hd]
 ·rename_i d h1 h2 hd
  simp only [jaa] at h; subst h;rw [hu _ hd];simp only [Result.andThen_ok];cases d <;> simp_all
 ·simp at h
theorem qaT {t:TypeId} {n:Nat} (h:qam P t = some n) (w:World):(sizeOf t).run P w = .ok n w:=by
 unfold qam at h;simp only [jag] at h;obtain ⟨i,hi,rfl⟩:=h;simp [sizeOf,typeInfo,hi]
theorem qiQ {t:TypeId} {cs:List T} (h:qbC P t = some cs) (w:World):∃ v,(zeroValue t).run P w = .ok v w/\v.cells = (qa Z cs).toArray:=by
 unfold qbC at h;split at h
 ·rename_i v hv
  simp only [jai] at hv;obtain ⟨i,hi,hz⟩:=hv;refine ⟨v,by simp [zeroValue,typeInfo,hi,hz],?_⟩;rw [qfh h]
 ·simp at h
theorem qx {t:TypeId} {d:TypeDesc} (h:P.underlying t = some d) (w:World):(underlying t).run P w = .ok d w:=by simp [underlying,h]
theorem qe8 {n:Nat}:∀ {l:List SH},qcm n l = true->∃ t,.abs n t ∈ l
 | [],h=>by simp [qcm] at h
 | .abs m t :: l,h=>by
  simp only [qcm,jbu] at h;rcases h with h | h
  ·rw [Nat.eq_of_beq_eq_true h]; exact ⟨t,jac ..⟩
  ·obtain ⟨t',ht⟩:=qe8 h; exact ⟨t',jab _ ht⟩
 | .cells _ _ _ :: l,h=>by
  simp only [qcm] at h;obtain ⟨t',ht⟩:=qe8 h; exact ⟨t',jab _ ht⟩
 | .arr _ _ _ _ _ :: l,h=>by
  simp only [qcm] at h;obtain ⟨t',ht⟩:=qe8 h; exact ⟨t',jab _ ht⟩
theorem qkT {heap ro:List SH} {hO hF:Hp} (hst:qav Z heap hO) (hro:∀ x ∈ ro,x.roden Z hF) {n:Nat} (h:(qcm n heap || qcm n ro) = true):Hp.le (Z n).h hO∨Hp.le (Z n).h hF:=by
 simp only [jbu] at h;rcases h with h | h
 ·obtain ⟨t,ht⟩:=qe8 h
  obtain ⟨k,hk⟩:=jbp ht;obtain ⟨t1,t2,td,tu,tx,ts⟩:=qax hst hk;exact .inl (Hp.le_trans tx.1 (tu ▸ Hp.le_left t1 t2))
 ·obtain ⟨t,ht⟩:=qe8 h
  exact .inr (hro _ ht)
theorem qos {s':S} {r:Nat}:∀ {l:List (List Nat × SH)} {k:Nat} {x:SH},qn0 s' r l = some (k,x)->∃ ms,(ms,x) ∈ l/\x.reg = some r/\ms.all s'.piece = true
 | [],k,x,h=>by simp [qn0] at h
 | (ms,y) :: l,k,x,h=>by
  simp only [qn0] at h;split at h
  ·rename_i hc
   simp only [jad] at hc;simp only [jaa,jak] at h;obtain ⟨_,rfl⟩:=h;refine ⟨ms,jac ..,?_,hc.2⟩;have:=hc.1;unfold qyo at this;split at this
   ·rename_i q hq
    rw [hq,Nat.eq_of_beq_eq_true this]
   ·cases this
  ·obtain ⟨ms',h1,h2⟩:=qos h
   exact ⟨ms',jab _ h1,h2⟩
theorem Holds.found (hs:Holds Z hF s a w) {r k:Nat} {x:SH} (h:s.look r = some (k,x)) :
  ∃ H,Hp.sub H w/\x.roden Z H/\x.reg = some r:=by
 obtain ⟨hO,hd,hst,hsub,hwi⟩:=hs.hp;unfold S.look at h;rcases h1:qa1 r s.heap with _ | y
 ·rcases h2:qa1 r s.ro with _ | y
  ·rw [h1,h2] at h
   have h:qn0 s r s.vw = some (k,x):=h;obtain ⟨ms,hm,hr,hall⟩:=qos h;obtain ⟨m,hmm,hx⟩:=hs.vw _ hm;have hp:=jam.1 hall m hmm;refine ⟨Hp.union hF hO,hsub,SH.ro_mono hx ?_,hr⟩;rcases qkT hst hs.ro hp with h | h
   ·exact Hp.le_trans h (Hp.le_right hd)
   ·exact Hp.le_trans h (Hp.le_left _ _)
  ·rw [h1,h2] at h
   have h:y = (k,x):=jax h;subst h;obtain ⟨hk,hr⟩:=qac h2;exact ⟨Hp.union hF hO,hsub,SH.ro_mono (hs.ro x (jar hk)) (Hp.le_left _ _),hr⟩
 ·rw [h1] at h
  have h:y = (k,x):=jax h;subst h;obtain ⟨hk,hr⟩:=qac h1;obtain ⟨t1,t2,td,tu,tx,ts⟩:=qax hst hk;exact ⟨Hp.union hF hO,hsub,SH.den_ro tx (Hp.le_trans (tu ▸ Hp.le_left t1 t2) (Hp.le_right hd)),hr⟩
theorem qY (op:BinOp) (x y:T) (hop:op = .eql∨op = .neq∨op = .lss∨op = .leq∨op = .gtr∨op = .geq):((qs op x y).den Z).b = qO op (x.den Z).i (y.den Z).i:=by
 unfold qs;split
 ·rename_i u v hu hv
  have:x = .lit u:=by unfold T.isLit at hu; split at hu <;> simp_all
  have:y = .lit v:=by unfold T.isLit at hv; split at hv <;> simp_all
  subst_vars; simp [T.den,O0.den]
 ·split
  ·rename_i h
   rw [T.same_eq h];rcases hop with rfl | rfl | rfl | rfl | rfl | rfl <;> simp [T.den,O0.den,qO]
  ·rfl
theorem qeu:∀ {t:T},qcN t = true->0 <= (t.den Z).i
 | .c0 o,h=>by
  cases o <;> simp [qcN] at h;simpa [T.den,O0.den] using h
 | .c1 o x,h=>by
  cases o <;> simp [qcN] at h <;> simp [T.den,O1.den]
 | .c2 o x y,h=>by
  cases o <;> simp [qcN] at h
  ·have h1:=qeu h.1; have h2:=qeu h.2
   simp only [T.den,O2.den]; omega
  ·have h1:=qeu h.1; have h2:=qeu h.2
   simp only [T.den,O2.den]; split <;> assumption
 | .var n,h=>by simp [qcN] at h
 | .c3 o x y z,h=>by simp [qcN] at h
 | .ife x y u v,h=>by simp [qcN] at h
theorem qD {t:T} (h:((qay t).den Z).b = true):0 <= (t.den Z).i:=by
 unfold qay at h;split at h
 ·rename_i hn; exact qeu hn
 ·rw [qY _ _ _ (by simp)] at h; exact ja1 h
theorem qff:∀ (d:T),((qbw d).den Z).i = ((d.den Z).d.length:Int)
 | .c0 o=>by cases o <;> simp [qbw,T.den,O0.den,O1.den]
 | .c1 o x=>by simp [qbw,T.den,O1.den]
 | .c2 o x y=>by cases o <;> simp [qbw,T.den,O1.den]
 | .c3 o x y z=>by
  cases o
  ·simp [qbw,T.den,O1.den]
  ·simp only [qbw,qff x,T.den,O3.den,qL,jco]
  ·simp only [qbw,qff x,T.den,O3.den]
   cases (x.den Z).d <;> simp [qip]
  ·simp [qbw,T.den,O1.den]
  ·simp [qbw,T.den,O1.den]
  ·simp [qbw,T.den,O1.den]
  ·simp only [qbw,qff x,T.den,O3.den]
   cases (x.den Z).d <;> simp [qcO]
 | .var n=>by simp [qbw,T.den,O1.den]
 | .ife x y u v=>by simp [qbw,T.den,O1.den]
theorem qfD (l:List T) (i:Nat) (vs:List T):qa Z (qc6 l i vs) = qbb (qa Z l) i (qa Z vs):=by
 simp [qc6,qbb,qa]
theorem qck {t:T} {z:Int} (h:t.isLit = some z):(t.den Z).i = z:=by
 unfold T.isLit at h; split at h <;> simp_all [T.den,O0.den]
theorem qdi:∀ {d:T} {n:Nat},slen d = some n->(d.den Z).d.length = n
 | .c0 o,n,h=>by cases o <;> simp_all [slen,T.den,O0.den]
 | .c1 o x,n,h=>by simp [slen] at h
 | .c2 o x y,n,h=>by
  cases o <;> simp only [slen] at h
  case rcons=>simp only [jaa] at h; subst h; simp [T.den,O2.den]
  case drep =>
   split at h
   ·rename_i z hz
    simp only [jaa] at h; subst h;simp [T.den,O2.den,qck hz]
   ·cases h
  case dapp =>
   split at h
   ·rename_i n1 m1 h1 h2
    simp only [jaa] at h; subst h;simp [T.den,O2.den,qdi h1,qdi h2]
   ·cases h
  all_goals cases h
 | .c3 o x y z,n,h=>by
  cases o <;> simp only [slen] at h
  case dput c=>simp [T.den,O3.den,qL,qdi h]
  case xput c =>
   simp only [T.den,O3.den];rw [<- qdi h];cases (x.den Z).d <;> simp [qip]
  case xcopy =>
   simp only [T.den,O3.den];rw [<- qdi h];cases (x.den Z).d <;> simp [qcO]
  all_goals cases h
 | .var m,n,h=>by simp [slen] at h
 | .ife x y u v,n,h=>by simp [slen] at h
theorem qfq:∀ {r:T} {ts:List T},qbg r = some ts->(r.den Z).d = [qa Z ts]
 | .c0 o,ts,h=>by
  cases o <;> simp only [qbg] at h
  case rnil=>simp only [jaa] at h; subst h; simp [T.den,O0.den,qa]
  all_goals cases h
 | .c1 o x,n,h=>by simp [qbg] at h
 | .c2 o x y,n,h=>by
  cases o <;> simp only [qbg] at h
  case rcons =>
   split at h
   ·rename_i ts h1
    simp only [jaa] at h; subst h;simp [T.den,O2.den,qfq h1,qa]
   ·cases h
  all_goals cases h
 | .c3 o x y z,n,h=>by simp [qbg] at h
 | .var m,n,h=>by simp [qbg] at h
 | .ife x y u v,n,h=>by simp [qbg] at h
theorem qf0:∀ {d:T} {i:Nat} {ts:List T},qan d i = some ts->(d.den Z).d[i]? = some (qa Z ts)
 | .c0 o,i,ts,h=>by
  cases o <;> cases i <;> simp only [qan] at h
  case rnil.zero=>simp only [jaa] at h; subst h; simp [T.den,O0.den,qa]
  all_goals cases h
 | .c1 o x,i,n,h=>by simp [qan] at h
 | .c2 .rcons v r,0,ts,h=>by
  simp only [qan] at h;rw [qfq h]; rfl
 | .c2 .rcons v r,i + 1,ts,h=>by simp [qan] at h
 | .c2 .drep n r,i,ts,h=>by
  simp only [qan] at h;split at h
  ·rename_i z hz
   split at h
   ·rename_i hlt
    simp only [jay] at hlt;simp only [T.den,O2.den,qck hz,qfq h];rw [jc2,jah hlt]; rfl
   ·cases h
  ·cases h
 | .c2 .dapp a b,i,ts,h=>by
  simp only [qan] at h;split at h
  ·rename_i n hn
   have hl:=qdi (Z:=Z) hn;split at h
   ·rename_i hlt
    simp only [jay] at hlt;simp only [T.den,O2.den];rw [jbm (by omega)];exact qf0 h
   ·rename_i hlt
    simp only [jay] at hlt;simp only [T.den,O2.den];rw [ja6 (by omega),hl];exact qf0 h
  ·cases h
 | .c2 (.arith _ _) _ _,i,ts,h=>by simp [qan] at h
 | .c2 .plus _ _,i,ts,h=>by simp [qan] at h
 | .c2 .minus _ _,i,ts,h=>by simp [qan] at h
 | .c2 .tims _ _,i,ts,h=>by simp [qan] at h
 | .c2 .imin _ _,i,ts,h=>by simp [qan] at h
 | .c2 .imax _ _,i,ts,h=>by simp [qan] at h
 | .c2 (.icell _) _ _,i,ts,h=>by simp [qan] at h
 | .c2 (.cmp _) _ _,i,ts,h=>by simp [qan] at h
 | .c2 .beq _ _,i,ts,h=>by simp [qan] at h
 | .c2 .and _ _,i,ts,h=>by simp [qan] at h
 | .c2 .or _ _,i,ts,h=>by simp [qan] at h
 | .c2 (.bcell _) _ _,i,ts,h=>by simp [qan] at h
 | .c2 (.vcell _) _ _,i,ts,h=>by simp [qan] at h
 | .c2 .dsnoc _ _,i,ts,h=>by simp [qan] at h
 | .c2 .dtake _ _,i,ts,h=>by simp [qan] at h
 | .c2 .ddrop _ _,i,ts,h=>by simp [qan] at h
 | .c2 (.xint _) _ _,i,ts,h=>by simp [qan] at h
 | .c2 (.xbool _) _ _,i,ts,h=>by simp [qan] at h
 | .c2 .veq _ _,i,ts,h=>by simp [qan] at h
 | .c2 .slt _ _,i,ts,h=>by simp [qan] at h
 | .c2 .sapp _ _,i,ts,h=>by simp [qan] at h
 | .c2 .sat _ _,i,ts,h=>by simp [qan] at h
 | .c2 .req _ _,i,ts,h=>by simp [qan] at h
 | .c3 .xrows _ _ _,i,ts,h=>by simp [qan] at h
 | .c3 .xcopy _ _ _,i,ts,h=>by simp [qan] at h
 | .c3 .ssub _ _ _,i,ts,h=>by simp [qan] at h
 | .c3 (.xput _) _ _ _,i,ts,h=>by simp [qan] at h
 | .c3 .dsplice _ _ _,i,ts,h=>by simp [qan] at h
 | .c3 (.dput c) d e r,i,ts,h=>by
  simp only [qan] at h;split at h
  ·rename_i z ts0 vs hz h0 hr
   have g0:=qf0 h0;have gr:=qfq (Z:=Z) hr;have hlt:i < (d.den Z).d.length:=by
    rcases jbn i (d.den Z).d.length with h' | h'
    ·exact h'
    ·rw [jat h'] at g0; cases g0
   split at h
   ·rename_i hzi
    have hzi:=Nat.eq_of_beq_eq_true hzi;split at h
    ·simp only [jaa] at h; subst h
     simp only [T.den,O3.den,qL,qck hz,hzi,gr,g0,jb1,jbc,qfD];rw [jc8 hlt]
    ·cases h
   ·rename_i hzi
    simp only [jaa] at h; subst h;simp only [T.den,O3.den,qL,qck hz];rw [List.getElem?_set_ne (fun he=>hzi (by rw [he]; simp))];exact g0
  ·cases h
 | .c3 (.vslice _ _) _ _ _,i,ts,h=>by simp [qan] at h
 | .var m,i,n,h=>by simp [qan] at h
 | .ife x y u v,i,n,h=>by simp [qan] at h
theorem qru {d e:T} {ts:List T} (h:qn8 d e = some ts):(d.den Z).d[(e.den Z).i.toNat]? = some (qa Z ts):=by
 unfold qn8 at h;split at h
 ·rename_i z hz
  rw [qck hz]; exact qf0 h
 ·cases h
theorem qbi (d:T):((qar d).den Z).i = ((d.den Z).d.length:Int):=by
 unfold qar;split
 ·rename_i n hn; rw [qdi hn]; simp [T.den,O0.den]
 ·exact qff d
theorem qcJ {e d:T} (h:((qs .lss e (qar d)).den Z).b = true):(e.den Z).i < ((d.den Z).d.length:Int):=by
 rw [qY _ _ _ (by simp),qbi] at h;simpa [qO] using h
theorem qjk {d e:T} {row:List Value} (hrow:(d.den Z).d[(e.den Z).i.toNat]? = some row) :
  ∀ (pat:List CK) (c:Nat),(∀ (j:Nat) (k:CK),pat[j]? = some k->∃ v,row[c + j]? = some v/\CK.fits k v = true) ->
   qa Z (qbt d e pat c) = (row.drop c).take pat.length
 | [],c,_=>by simp [qbt,qa]
 | k :: ks,c,h=>by
  obtain ⟨v,hv,hk⟩:=h 0 k (by simp);simp only [jcd] at hv;have hcell:qba (d.den Z).d (e.den Z).i c = v:=by simp [qba,hrow,hv]
  have ih:=qjk hrow ks (c + 1) (fun j k' hk'=>by
   have:=h (j + 1) k' (by simpa using hk')
   rwa [show c + (j + 1) = c + 1 + j from by omega] at this)
  have hdrop:row.drop c = v :: row.drop (c + 1):=by
   have hc:c < row.length:=by
    rcases jbn c row.length with h | h
    ·exact h
    ·rw [jat h] at hv; cases hv
   rw [jbq hc]
   congr 1
   rw [jae hc,jaa] at hv;exact hv
  have hx:qa Z (qbt d e (k :: ks) c) = v :: qa Z (qbt d e ks (c + 1)):=by
   cases k with
   | int k =>
    simp only [qbt,qa,jao,T.den,O1.den,O2.den,qc,hcell]
    congr 1
    cases v <;> simp_all [CK.fits,qbk]
   | bool =>
    simp only [qbt,qa,jao,T.den,O1.den,O2.den,qcw,hcell]
    congr 1
    cases v <;> simp_all [CK.fits,qew]
   | any=>simp only [qbt,qa,jao,T.den,O2.den,hcell]
  rw [hx,ih,hdrop];simp
theorem qcZ (d e:T):∀ (pat:List CK) (c:Nat),(qbt d e pat c).length = pat.length
 | [],_=>rfl
 | .int _ :: ks,c=>by simp [qbt,qcZ d e ks]
 | .bool :: ks,c=>by simp [qbt,qcZ d e ks]
 | .any :: ks,c=>by simp [qbt,qcZ d e ks]
theorem qdA {k:CK}:∀ {l:List CK} {i:Nat},i < qbJ k l->l[i]? = some k
 | [],i,h=>by simp [qbJ] at h
 | x :: l,i,h=>by
  simp only [qbJ] at h;split at h
  ·rename_i hx
   cases i with
   | zero=>rw [hx]; rfl
   | succ i=>simpa using qdA (l:=l) (i:=i) (by omega)
  ·omega
theorem qqL {x:SH} {e:T} {p c n r:Nat} {cs needs:List T} (h:qmc x e p c n = some (cs,needs)) {H:Hp} (hx:x.roden Z H) (hr:x.reg = some r)
  (hn:∀ c ∈ needs,(c.den Z).b = true) :
  cs.length = n/\∃ b o c' ty fr,(Z r).r = some ⟨b,o,none⟩/\H b = some (.cells c' ty fr) /\
   ∀ (k:Nat) (v:Value),(qa Z cs)[k]? = some v->c'[o + ((e.den Z).i.toNat * p + c) + k]? = some v:=by
 cases x with
 | cells r' ty ts =>
  simp only [SH.reg,jaa] at hr; subst hr;simp only [qmc] at h;split at h
  ·rename_i z hz
   split at h
   ·rename_i hc
    simp only [jaa,jak] at h;obtain ⟨rfl,rfl⟩:=h;have he:(e.den Z).i = z:=by unfold T.isLit at hz; split at hz <;> simp_all [T.den,O0.den]
    obtain ⟨b,o,c',ty',fr,h1,h2,h3⟩:=hx;refine ⟨by simp; omega,b,o,c',ty',fr,h1,h2,fun k v hv=>?_⟩;rw [he];have:=h3 (z.toNat * p + c + k) v ?_
    ·rw [show o + (z.toNat * p + c) + k = o + (z.toNat * p + c + k) from by omega]; exact this
    ·simp only [qa,jcu,List.map_drop] at hv ⊢
     rw [ja8] at hv;split at hv
     ·rw [ja7] at hv; exact hv
     ·cases hv
   ·simp at h
  ·simp at h
 | arr r' ty pat d cap =>
  simp only [SH.reg,jaa] at hr; subst hr;simp only [qmc] at h;split at h
  ·rename_i hc
   simp only [jad,jc4] at hc;have hp:=Nat.eq_of_beq_eq_true hc.1;split at h
   ·rename_i ts hts
    simp only [jaa,jak] at h;obtain ⟨rfl,rfl⟩:=h;have hrow:=qru (Z:=Z) hts;rcases hx with hd | ⟨b,o,c',ty',fr,g1,g2,g3⟩
    ·rw [hd] at hrow; simp at hrow
    ·obtain ⟨hfit,hcells⟩:=g3 _ _ hrow
     have hl:=hfit.1;simp only [qa,ja3] at hl;refine ⟨by simp; omega,b,o,c',ty',fr,g1,g2,fun k v hv=>?_⟩;simp only [qa,jcu,List.map_drop] at hv;rw [ja8] at hv;split at hv
     ·rw [ja7] at hv
      have:=hcells _ _ hv;rw [hp,show o + ((e.den Z).i.toNat * pat.length + c) + k = o + (e.den Z).i.toNat * pat.length + (c + k) from by omega];exact this
     ·cases hv
   rename_i hstat;simp only [jaa,jak] at h;obtain ⟨rfl,rfl⟩:=h;have h0:=qD (hn _ (jac ..));have h1:=qcJ (hn _ (jab _ (jac ..)));have hlt:(e.den Z).i.toNat < (d.den Z).d.length:=by omega
   have hrow:=jae hlt;rcases hx with hd | ⟨b,o,c',ty',fr,g1,g2,g3⟩
   ·rw [hd] at hlt; simp at hlt
   ·obtain ⟨hfit,hcells⟩:=g3 _ _ hrow
    refine ⟨by rw [qcZ]; simp; omega,b,o,c',ty',fr,g1,g2,fun k v hv=>?_⟩;rw [qjk hrow _ c (fun j kk hj=>?_)] at hv
    ·rw [ja8] at hv
     split at hv
     ·rw [ja7] at hv
      have:=hcells _ _ hv;rw [hp,show o + ((e.den Z).i.toNat * pat.length + c) + k = o + (e.den Z).i.toNat * pat.length + (c + k) from by omega];exact this
     ·cases hv
    ·rw [ja8] at hj
     split at hj
     ·rw [ja7] at hj
      have hlt2:c + j < ((d.den Z).d[(e.den Z).i.toNat]).length:=by
       rw [hfit.1];rcases jbn (c + j) pat.length with h | h
       ·exact h
       ·rw [jat h] at hj; cases hj
      exact ⟨_,jae hlt2,hfit.2 _ _ _ hj (jae hlt2)⟩
     ·cases hj
  ·split at h
   ·rename_i hc1
    simp only [jad] at hc1;have hp1:=Nat.eq_of_beq_eq_true hc1.1;have hn1:=Nat.eq_of_beq_eq_true hc1.2;subst hp1; subst hn1;split at h
    ·rename_i kk hk
     simp only [jaa,jak] at h;obtain ⟨rfl,rfl⟩:=h;have h0:=qD (hn _ (jac ..));have h1:=hn _ (jab _ (jac ..));rw [qY _ _ _ (by simp)] at h1;have h1:(e.den Z).i < ((qbJ (.int kk) (pat.drop c):Nat):Int):=ja1 h1;have h2:=qcJ (hn _ (jab _ (jab _ (jac ..))));simp only [T.den,O0.den] at h2;rcases hx with hd | ⟨b,o,c',ty',fr,g1,g2,g3⟩
     ·rw [hd] at h2; simp at h2
     ·obtain ⟨row,rest,hdd⟩:∃ row rest,(d.den Z).d = row :: rest:=by
       cases hdd:(d.den Z).d with
       | nil=>rw [hdd] at h2; simp at h2
       | cons row rest=>exact ⟨row,rest,rfl⟩
      obtain ⟨hfit,hcells⟩:=g3 0 row (by rw [hdd]; rfl);have hki:pat[c + (e.den Z).i.toNat]? = some (.int kk):=by
       have:=qdA (k:=.int kk) (l:=pat.drop c) (i:=(e.den Z).i.toNat) (by omega);rw [ja7] at this; exact this
      have hlt:c + (e.den Z).i.toNat < row.length:=by
       rw [hfit.1]; exact (jaj.1 hki).1
      have hrow:=jae hlt;have hf:=hfit.2 _ _ _ hki hrow;obtain ⟨z,hz⟩:∃ z,row[c + (e.den Z).i.toNat] = .int kk z:=by
       cases hv:row[c + (e.den Z).i.toNat] <;> rw [hv] at hf <;> simp [CK.fits] at hf;subst hf; exact ⟨_,rfl⟩
      refine ⟨rfl,b,o,c',ty',fr,g1,g2,fun k v hv=>?_⟩;cases k with
      | zero =>
       simp only [qa,jao,jbf,jaz,jaa] at hv;subst hv;have hcell:=hcells _ _ hrow;rw [show o + ((e.den Z).i.toNat * 1 + c) + 0 = o + 0 * pat.length + (c + (e.den Z).i.toNat) by omega,hcell,hz];simp only [T.den,O1.den,O2.den,qmg,hdd,jb1];rw [show (e.den Z).i.toNat + c = c + (e.den Z).i.toNat by omega,hrow,hz]; rfl
      | succ k=>simp [qa] at hv
    ·rename_i hk
     simp only [jaa,jak] at h;obtain ⟨rfl,rfl⟩:=h;have h0:=qD (hn _ (jac ..));have h1:=hn _ (jab _ (jac ..));rw [qY _ _ _ (by simp)] at h1;have h1:(e.den Z).i < ((qbJ .bool (pat.drop c):Nat):Int):=ja1 h1;have h2:=qcJ (hn _ (jab _ (jab _ (jac ..))));simp only [T.den,O0.den] at h2;rcases hx with hd | ⟨b,o,c',ty',fr,g1,g2,g3⟩
     ·rw [hd] at h2; simp at h2
     ·obtain ⟨row,rest,hdd⟩:∃ row rest,(d.den Z).d = row :: rest:=by
       cases hdd:(d.den Z).d with
       | nil=>rw [hdd] at h2; simp at h2
       | cons row rest=>exact ⟨row,rest,rfl⟩
      obtain ⟨hfit,hcells⟩:=g3 0 row (by rw [hdd]; rfl);have hki:pat[c + (e.den Z).i.toNat]? = some .bool:=by
       have:=qdA (k:=.bool) (l:=pat.drop c) (i:=(e.den Z).i.toNat) (by omega);rw [ja7] at this; exact this
      have hlt:c + (e.den Z).i.toNat < row.length:=by
       rw [hfit.1]; exact (jaj.1 hki).1
      have hrow:=jae hlt;have hf:=hfit.2 _ _ _ hki hrow;obtain ⟨z,hz⟩:∃ z,row[c + (e.den Z).i.toNat] = .bool z:=by
       cases hv:row[c + (e.den Z).i.toNat] <;> rw [hv] at hf <;> first | exact ⟨_,rfl⟩ | simp [CK.fits] at hf
      refine ⟨rfl,b,o,c',ty',fr,g1,g2,fun k v hv=>?_⟩;cases k with
      | zero =>
       simp only [qa,jao,jbf,jaz,jaa] at hv;subst hv;have hcell:=hcells _ _ hrow;rw [show o + ((e.den Z).i.toNat * 1 + c) + 0 = o + 0 * pat.length + (c + (e.den Z).i.toNat) by omega,hcell,hz];simp only [T.den,O1.den,O2.den,qng,hdd,jb1];rw [show (e.den Z).i.toNat + c = c + (e.den Z).i.toNat by omega,hrow,hz]; rfl
      | succ k=>simp [qa] at hv
    ·simp at h
   ·simp at h
 | abs m t=>simp [SH.reg] at hr
theorem qt1 {x:SH} {e:T} {p:Nat}:(e.den Z).i.toNat * qpG x e p = (e.den Z).i.toNat * p:=by
 unfold qpG;split
 ·rename_i hz
  have he:(e.den Z).i = 0:=by unfold T.isLit at hz; split at hz <;> simp_all [T.den,O0.den]
  rw [he]; simp
 ·rfl
theorem qdJ {x:SH} {e:T} {p c n r:Nat} {cs needs:List T} (h:qp7 x e p c n = some (cs,needs)) {H:Hp} (hx:x.roden Z H) (hr:x.reg = some r)
  (hn:∀ c ∈ needs,(c.den Z).b = true) :
  cs.length = n/\∃ b o c' ty fr,(Z r).r = some ⟨b,o,none⟩/\H b = some (.cells c' ty fr) /\
   ∀ (k:Nat) (v:Value),(qa Z cs)[k]? = some v->c'[o + ((e.den Z).i.toNat * p + c) + k]? = some v:=by
 have:=qqL h hx hr hn
 rwa [qt1] at this
theorem qb4 {b off:Nat} {c:Array Value} {ty:TypeId} {fr:Nat × Nat} (h:w.heap[b]? = some (.cells c ty fr)):w.cell? ⟨b,off,none⟩ = c[off]?:=by
 simp [World.cell?,h]
theorem addr_add {b off j:Nat}:(⟨b,off,none⟩:Addr).add j = ⟨b,off + j,none⟩:=by
 unfold Addr.add; split <;> simp_all
theorem qcS {t:TypeId} {ag:Bool} {n b off:Nat} {c:Array Value} {ty:TypeId} {fr:Nat × Nat} {vs:List Value}
  (ha:qcz P t = some ag) (hn:qam P t = some n) (hb:w.heap[b]? = some (.cells c ty fr)) (hl:vs.length = n)
  (hc:∀ (k:Nat) (v:Value),vs[k]? = some v->c[off + k]? = some v) (h1:ag = false->n = 1) :
  (loadVar t ⟨b,off,none⟩).run P w = .ok (if ag then .agg vs.toArray else vs.headD .nilFunc) w:=by
 unfold loadVar;simp only [Sem.run_bind,qdW ha,Result.andThen_ok];cases ag with
 | true =>
  simp only [ja9,Sem.run_bind,qaT hn,Result.andThen_ok];rw [<- hl,run_loadCells_list (P:=P) w ⟨b,off,none⟩ vs (fun j v hv=>by rw [addr_add,qb4 hb]; exact hc j v hv)];rfl
 | false =>
  have h1:=h1 rfl
  match vs,hl with
  | [v],_ =>
   have:=hc 0 v (by simp);simp only [jcd] at this;simp [qb4 hb,this]
  | [],hl=>simp at hl; omega
  | _ :: _ :: _,hl=>simp at hl; omega
end Go.Eng
namespace Go.Eng
open Go
variable {P:Program} {Z:Env} {hF:Fr} {s:S} {a:Act} {w:World}
def qB (Z:Env) (hF:Fr) (heap:List SH) (w:World):Prop:=∃ hO,Hp.disj hF hO/\qav Z heap hO/\(Hp.union hF hO).sub w/\hF.wi w
def qfT (c0 c1:Array Value) (i:Nat) (vs:List Value):Prop :=
 c1.size = c0.size/\∀ j,c1[j]? = if i <= j/\j < i + vs.length then vs[j - i]? else c0[j]?
def Put (h h':Hp) (r:Option Addr) (pat:List CK) (d:List (List Value)) (k:Nat) (vs:List Value):Prop :=
 ∃ b o c0 c1 ty,r = some ⟨b,o,none⟩/\h b = some (.cells c0 ty (0,0))/\qa8 c0 o pat d/\qfT c0 c1 (o + k) vs/\h' = Hp.upd h b (.cells c1 ty (0,0))
theorem qc0 {b off:Nat} {ty:TypeId}:∀ (vs:List Value) (i:Nat) (c0:Array Value) (w:World),w.heap[b]? = some (.cells c0 ty (0,0)) ->
  (∀ v ∈ vs,v.oneCell' = true)->off + i + vs.length <= c0.size ->
  ∃ w' c1,(storeCells ⟨b,off,none⟩ vs i).run P w = .ok () w'/\w'.heap[b]? = some (.cells c1 ty (0,0))/\(∀ b',b' ≠ b->w'.heap[b']? = w.heap[b']?)/\qfT c0 c1 (off + i) vs/\w'.os = w.os/\w'.output = w.output
 | [],i,c0,w,hb,_,_=>⟨w,c0,by simp [storeCells],hb,fun _ _=>rfl,⟨rfl,fun j=>by rw [jaf (by simp)]⟩,rfl,rfl⟩
 | v :: vs,i,c0,w,hb,hv,hl=>by
  simp only [jbb] at hl;have hlt:off + i < c0.size:=by omega
  have hcell:w.cell? ⟨b,off + i,none⟩ = some c0[off + i]:=by simp [qb4 hb,hlt]
  have hfr:w.frozen? ⟨b,off + i,none⟩ = false:=by simp [World.frozen?,hb]
  have hset:(w.setCell ⟨b,off + i,none⟩ v).heap[b]? = some (.cells (c0.setIfInBounds (off + i) v) ty (0,0)):=by
   simp only [World.setCell,jcg,ja9,hb,ja5];simp
  have hoth:∀ b',b' ≠ b->(w.setCell ⟨b,off + i,none⟩ v).heap[b']? = w.heap[b']?:=fun b' hne=>by
   simp only [World.setCell,jcg];rw [jaf (fun h=>hne h.symm)]
  obtain ⟨w',c1,hrun,h1,h2,⟨h3,h4⟩,ho⟩:=qc0 (off:=off) vs (i + 1) (c0.setIfInBounds (off + i) v) _ hset (fun x hx=>hv x (jab _ hx)) (by simp only [Array.size_setIfInBounds]; omega);refine ⟨w',c1,?_,h1,fun b' hne=>(h2 b' hne).trans (hoth b' hne),⟨by simpa using h3,fun j=>?_⟩,ho⟩
  ·simp only [storeCells,addr_add,Sem.run_bind]
   rw [run_store P w _ v _ (hv v (jac ..)),hcell];simp only [hfr,jal,jaw,Result.andThen_ok];exact hrun
  ·rw [h4 j]
   simp only [jbb];by_cases hj:j = off + i
   ·subst hj
    rw [jaf (by omega),jah (by omega)];simp [hlt]
   ·by_cases hin:off + (i + 1) <= j/\j < off + (i + 1) + vs.length
    ·rw [jah hin,jah (by omega)]
     rw [show j - (off + i) = (j - (off + (i + 1))) + 1 from by omega,jau]
    ·rw [jaf hin,jaf (by omega)]
     rw [jci (fun h=>hj h.symm)]
theorem qjI {t:TypeId} {n b off:Nat} {c0:Array Value} {ty:TypeId} {v:Value} {vs:List Value} (hn:qam P t = some n) (hcs:v.cells = vs.toArray) (hl:vs.length = n)
  (hb:w.heap[b]? = some (.cells c0 ty (0,0))) (hv:∀ v ∈ vs,v.oneCell' = true) (hs:off + vs.length <= c0.size) :
  ∃ w' c1,(storeVar t ⟨b,off,none⟩ v).run P w = .ok () w'/\w'.heap[b]? = some (.cells c1 ty (0,0))/\(∀ b',b' ≠ b->w'.heap[b']? = w.heap[b']?)/\qfT c0 c1 off vs/\w'.os = w.os/\w'.output = w.output:=by
 obtain ⟨w',c1,h1,h2,h3,h4,ho⟩:=qc0 (P:=P) (b:=b) (off:=off) vs 0 c0 w hb hv (by simpa using hs);refine ⟨w',c1,?_,h2,h3,by simpa using h4,ho⟩;unfold storeVar;simp only [Sem.run_bind,qaT hn,Result.andThen_ok,hcs];have:vs.toArray.size = n:=by simpa using hl
 simp only [this,ne_eq,not_true_eq_false,jaw,Sem.run_pure,Result.andThen_ok];simpa using h1
theorem qcB {row:List Value} {c:Nat} {vs:List Value} (h:c + vs.length <= row.length) (j:Nat) :
  (qbb row c vs)[j]? = if c <= j/\j < c + vs.length then vs[j - c]? else row[j]?:=by
 unfold qbb;by_cases h1:j < c
 ·rw [jaf (by omega),jbw,jbm (by simp; omega),List.getElem?_take_of_lt h1]
 ·by_cases h2:j < c + vs.length
  ·rw [jah (by omega),jbw,ja6 (by simp; omega)]
   simp only [jbe];rw [jdw (by omega),jbm (by omega)]
  ·rw [jaf (by omega),jbw,ja6 (by simp; omega)]
   simp only [jbe];rw [jdw (by omega),ja6 (by omega),ja7]
   congr 1; omega
theorem qp1 {row:List Value} {c:Nat} {vs:List Value} (h:c + vs.length <= row.length):(qbb row c vs).length = row.length:=by
 simp [qbb]; omega
theorem qjs (hg:Z.good) {x x':SH} {e:T} {p c r:Nat} {vs needs:List T} (h:qhO x e p c vs = some (x',needs)) {H:Hp} (hx:x.den Z H) (hr:x.reg = some r)
  (hn:∀ c ∈ needs,(c.den Z).b = true) :
  ∃ b c0 ty,(Z r).r = some ⟨b,0,none⟩/\H b = some (.cells c0 ty (0,0))/\(e.den Z).i.toNat * p + c + vs.length <= c0.size /\
   ∀ c1,qfT c0 c1 ((e.den Z).i.toNat * p + c) (qa Z vs)->x'.den Z (Hp.upd H b (.cells c1 ty (0,0))):=by
 cases x with
 | cells r' ty ts =>
  simp only [SH.reg,jaa] at hr; subst hr;simp only [qhO] at h;split at h
  ·rename_i z hz
   split at h
   ·rename_i hc
    simp only [jaa,jak] at h;obtain ⟨rfl,rfl⟩:=h;have he:(e.den Z).i = z:=by unfold T.isLit at hz; split at hz <;> simp_all [T.den,O0.den]
    obtain ⟨b,h1,h2⟩:=hx;refine ⟨b,_,ty,h1,h2,by rw [he]; simp [qa]; omega,fun c1 hw=>?_⟩;rw [he] at hw;refine ⟨b,h1,?_⟩;simp only [Hp.upd,ja9,jaa]
    congr 1
    apply jd0;intro j;rw [hw.2 j];simp only [jch,qfD];rw [qcB (by simp [qa]; omega)]
   ·simp at h
  ·simp at h
 | arr r' ty pat d cap =>
  simp only [SH.reg,jaa] at hr; subst hr;simp only [qhO] at h;split at h
  ·rename_i hc
   simp only [jad,jc4] at hc;have hp:=Nat.eq_of_beq_eq_true hc.1.1;simp only [jaa,jak] at h;obtain ⟨rfl,rfl⟩:=h;have h0:=qD (hn _ (jac ..));have h1:=qcJ (hn _ (jab _ (jac ..)));have hlt:(e.den Z).i.toNat < (d.den Z).d.length:=by omega
   have hrow:=jae hlt;rcases hx with ⟨_,hd,_⟩ | ⟨b,c0,g1,g2,g3,g4,g5⟩
   ·rw [hd] at hlt; simp at hlt
   ·obtain ⟨hfit,hcells⟩:=g5 _ _ hrow
    have hvl:(qa Z vs).length = vs.length:=by simp [qa]
    have hcapn:(d.den Z).d.length <= (cap.den Z).i.toNat:=by omega
    have hmul:((e.den Z).i.toNat + 1) * p <= (cap.den Z).i.toNat * p:=jbr _ (by omega);have hsz:(e.den Z).i.toNat * p + c + vs.length <= c0.size:=by
     rw [g3,<- hp];rw [jbk,Nat.one_mul] at hmul;omega
    refine ⟨b,c0,ty,g1,g2,hsz,fun c1 hw=>.inr ⟨b,c1,g1,by simp [Hp.upd],by rw [hw.1,g3],?_,?_⟩⟩
    ·simp only [T.den,O3.den,qL,jco]; exact g4
    ·simp only [T.den,O3.den,qgm,qL,hrow,jbc]
     intro i row hi;rw [ja0] at hi;split at hi
     ·rename_i hie
      subst hie;simp only [hlt,ja9,jaa] at hi;subst hi;have hle:c + (qa Z vs).length <= ((d.den Z).d[(e.den Z).i.toNat]).length:=by rw [hfit.1,hvl]; omega
      refine ⟨⟨by rw [qp1 hle,hfit.1],fun j k v hk hv=>?_⟩,fun k v hv=>?_⟩
      ·rw [qcB hle] at hv
       split at hv
       ·rename_i hin
        refine qe6 hg hc.2 (j - c) k v ?_ hv;rw [ja7,show c + (j - c) = j from by omega]; exact hk
       ·exact hfit.2 j k v hk hv
      ·rw [qcB hle] at hv
       rw [hw.2];rw [hp];split at hv
       ·rename_i hin
        rw [jah (by omega)];rw [show 0 + (e.den Z).i.toNat * pat.length + k - ((e.den Z).i.toNat * pat.length + c) = k - c from by omega];exact hv
       ·rw [jaf (by omega)]
        exact hcells k v hv
     ·rename_i hie
      obtain ⟨hf2,hc2⟩:=g5 i row hi;refine ⟨hf2,fun k v hv=>?_⟩;have hkl:k < pat.length:=by
       rw [<- hf2.1];rcases jbn k row.length with h | h
       ·exact h
       ·rw [jat h] at hv; cases hv
      rw [hw.2,jaf ?_]
      ·exact hc2 k v hv
      ·rintro ⟨q1,q2⟩
       rw [hvl] at q2;rw [hp] at q1 q2;have hcl:c + vs.length <= pat.length:=by rw [<- hp]; exact hc.1.2
       have e1:(i * pat.length + k) / pat.length = i:=by
        rw [jcz,Nat.mul_add_div (by omega),Nat.div_eq_of_lt hkl]; omega
       have e2:(i * pat.length + k) / pat.length = (e.den Z).i.toNat:=by
        have:i * pat.length + k = pat.length * (e.den Z).i.toNat + (i * pat.length + k - (e.den Z).i.toNat * pat.length):=by
         rw [jcz pat.length]; omega
        rw [this,Nat.mul_add_div (by omega),Nat.div_eq_of_lt (by omega)]; omega
       exact hie (e2.symm.trans e1)
  ·split at h
   ·rename_i hc1
    have hp1:=Nat.eq_of_beq_eq_true hc1;subst hp1;split at h
    ·rename_i kk v hk hvs
     split at h
     ·rename_i hfv
      simp only [jaa,jak] at h;obtain ⟨rfl,rfl⟩:=h;have h0:=qD (hn _ (jac ..));have h1:=hn _ (jab _ (jac ..));rw [qY _ _ _ (by simp)] at h1;have h1:(e.den Z).i < ((qbJ (.int kk) (pat.drop c):Nat):Int):=ja1 h1;have h2:=qcJ (hn _ (jab _ (jab _ (jac ..))));simp only [T.den,O0.den] at h2;rcases hx with ⟨_,hd,_⟩ | ⟨b,c0,g1,g2,g3,g4,g5⟩
      ·rw [hd] at h2; simp at h2
      ·obtain ⟨row,rest,hdd⟩:∃ row rest,(d.den Z).d = row :: rest:=by
        cases hdd:(d.den Z).d with
        | nil=>rw [hdd] at h2; simp at h2
        | cons row rest=>exact ⟨row,rest,rfl⟩
       obtain ⟨hfit,hcells⟩:=g5 0 row (by rw [hdd]; rfl);have hki:pat[(e.den Z).i.toNat + c]? = some (.int kk):=by
        have:=qdA (k:=.int kk) (l:=pat.drop c) (i:=(e.den Z).i.toNat) (by omega);rw [ja7,jda] at this; exact this
       have hlt:(e.den Z).i.toNat + c < pat.length:=(jaj.1 hki).1;have hcap:1 <= (cap.den Z).i.toNat:=by rw [hdd] at g4; simp at g4; omega
       have hsize:pat.length <= c0.size:=by
        rw [g3];have:=jbr pat.length hcap;omega
       refine ⟨b,c0,ty,g1,g2,by simp [qa]; omega,fun c1 hw=>.inr ⟨b,c1,g1,by simp [Hp.upd],by rw [hw.1,g3],?_,?_⟩⟩
       ·simp only [T.den,O3.den,hdd,qip,jbb]
        rw [hdd] at g4; simpa using g4
       ·simp only [T.den,O3.den,hdd,qip]
        have hw2:=hw.2;simp only [qa,jao,jbf,jbb,jck,Nat.mul_one] at hw2;intro i row' hi;cases i with
        | zero =>
         simp only [jaz,jaa] at hi;subst hi;refine ⟨⟨by rw [jco,hfit.1],fun j k v' hk' hv'=>?_⟩,fun k v' hv'=>?_⟩
         ·rw [ja0] at hv'
          split at hv'
          ·rename_i hj
           split at hv'
           ·simp only [jaa] at hv'; subst hv'
            subst hj;rw [hki] at hk';obtain rfl:=jax hk';have:=qe6 hg (ks:=[.int kk]) (ts:=[v]) (by simp only [qdI,hfv,Bool.and_self]) 0 (.int kk) ((v.den Z).v) rfl rfl;exact this
           ·cases hv'
          ·exact hfit.2 j k v' hk' hv'
         ·rw [hw2]
          rw [ja0] at hv';split at hv'
          ·rename_i hj
           split at hv'
           ·rw [jah (by omega),show 0 + 0 * pat.length + k - ((e.den Z).i.toNat + c) = 0 by omega]
            exact hv'
           ·cases hv'
          ·rename_i hj
           rw [jaf (by omega)];exact hcells k v' hv'
        | succ i =>
         simp only [jau] at hi;obtain ⟨f2,c2⟩:=g5 (i + 1) row' (by rw [hdd]; simpa using hi);refine ⟨f2,fun k v' hv'=>?_⟩;rw [hw2,jaf ?_]
         ·exact c2 k v' hv'
         ·rw [jbk]; omega
     ·simp at h
    ·rename_i v hk hvs
     split at h
     ·rename_i hfv
      simp only [jaa,jak] at h;obtain ⟨rfl,rfl⟩:=h;have h0:=qD (hn _ (jac ..));have h1:=hn _ (jab _ (jac ..));rw [qY _ _ _ (by simp)] at h1;have h1:(e.den Z).i < ((qbJ .bool (pat.drop c):Nat):Int):=ja1 h1;have h2:=qcJ (hn _ (jab _ (jab _ (jac ..))));simp only [T.den,O0.den] at h2;rcases hx with ⟨_,hd,_⟩ | ⟨b,c0,g1,g2,g3,g4,g5⟩
      ·rw [hd] at h2; simp at h2
      ·obtain ⟨row,rest,hdd⟩:∃ row rest,(d.den Z).d = row :: rest:=by
        cases hdd:(d.den Z).d with
        | nil=>rw [hdd] at h2; simp at h2
        | cons row rest=>exact ⟨row,rest,rfl⟩
       obtain ⟨hfit,hcells⟩:=g5 0 row (by rw [hdd]; rfl);have hki:pat[(e.den Z).i.toNat + c]? = some .bool:=by
        have:=qdA (k:=.bool) (l:=pat.drop c) (i:=(e.den Z).i.toNat) (by omega);rw [ja7,jda] at this; exact this
       have hlt:(e.den Z).i.toNat + c < pat.length:=(jaj.1 hki).1;have hcap:1 <= (cap.den Z).i.toNat:=by rw [hdd] at g4; simp at g4; omega
       have hsize:pat.length <= c0.size:=by
        rw [g3];have:=jbr pat.length hcap;omega
       refine ⟨b,c0,ty,g1,g2,by simp [qa]; omega,fun c1 hw=>.inr ⟨b,c1,g1,by simp [Hp.upd],by rw [hw.1,g3],?_,?_⟩⟩
       ·simp only [T.den,O3.den,hdd,qip,jbb]
        rw [hdd] at g4; simpa using g4
       ·simp only [T.den,O3.den,hdd,qip]
        have hw2:=hw.2;simp only [qa,jao,jbf,jbb,jck,Nat.mul_one] at hw2;intro i row' hi;cases i with
        | zero =>
         simp only [jaz,jaa] at hi;subst hi;refine ⟨⟨by rw [jco,hfit.1],fun j k v' hk' hv'=>?_⟩,fun k v' hv'=>?_⟩
         ·rw [ja0] at hv'
          split at hv'
          ·rename_i hj
           split at hv'
           ·simp only [jaa] at hv'; subst hv'
            subst hj;rw [hki] at hk';obtain rfl:=jax hk';have:=qe6 hg (ks:=[.bool]) (ts:=[v]) (by simp only [qdI,hfv,Bool.and_self]) 0 .bool ((v.den Z).v) rfl rfl;exact this
           ·cases hv'
          ·exact hfit.2 j k v' hk' hv'
         ·rw [hw2]
          rw [ja0] at hv';split at hv'
          ·rename_i hj
           split at hv'
           ·rw [jah (by omega),show 0 + 0 * pat.length + k - ((e.den Z).i.toNat + c) = 0 by omega]
            exact hv'
           ·cases hv'
          ·rename_i hj
           rw [jaf (by omega)];exact hcells k v' hv'
        | succ i =>
         simp only [jau] at hi;obtain ⟨f2,c2⟩:=g5 (i + 1) row' (by rw [hdd]; simpa using hi);refine ⟨f2,fun k v' hv'=>?_⟩;rw [hw2,jaf ?_]
         ·exact c2 k v' hv'
         ·rw [jbk]; omega
     ·simp at h
    ·simp at h
   ·simp at h
 | abs m t=>simp [SH.reg] at hr
theorem qB.alloc {heap:List SH} {w:World} {nx:Nat} {cs:List T} {ty:TypeId} {c:Array Value} (h:qB Z hF heap w) (hsc:heap.all (SH.inB nx) = true)
  (hcs:qa (Z.set nx { r:=some ⟨w.heap.size,0,none⟩ }) cs = c.toList) :
  qB (Z.set nx { r:=some ⟨w.heap.size,0,none⟩ }) hF (.cells nx ty cs :: heap) { w with heap:=w.heap.push (.cells c ty) }:=by
 obtain ⟨hO,hd,hst,hsub,hwi⟩:=h;have hlt:∀ y o,Hp.union hF hO y = some o->y < w.heap.size:=fun y o hy=>by
  have:=hsub y o hy;rcases jbn y w.heap.size with h | h
  ·exact h
  ·rw [jb6 h] at this; cases this
 have hno:∀ h',Hp.le h' (Hp.union hF hO)->Hp.disj h' (Hp.one w.heap.size (.cells c ty)):=fun h' hl y=>by
  by_cases hy:y = w.heap.size
  ·left
   cases hx:h' y with
   | none=>rfl
   | some o=>have:=hlt y o (hl y o hx); omega
  ·right; simp [Hp.one,hy]
 refine ⟨Hp.union (Hp.one w.heap.size (.cells c ty)) hO,?_,⟨_,hO,(hno hO (Hp.le_right hd)).symm,rfl,⟨w.heap.size,by simp,?_⟩,?_⟩,?_⟩
 ·exact Hp.disj_union.2 ⟨hno hF (Hp.le_left _ _),hd⟩
 ·rw [hcs]; simp [Hp.one]
 ·exact qaN (n:=nx) (fun m hm=>(Env.set_ne Z _ (by omega)).symm) _ hsc _ hst
 ·refine ⟨fun y o hy=>?_,hwi⟩
  by_cases hyb:y = w.heap.size
  ·subst hyb
   have:hF w.heap.size = none:=by
    cases hx:hF w.heap.size with
    | none=>rfl
    | some o'=>have:=hlt w.heap.size o' (Hp.le_left _ _ _ _ hx); omega
   simp only [Hp.union,this,Hp.one,ja9,jbg,jca,jaa] at hy;subst hy;simp
  ·have hy':Hp.union hF hO y = some o:=by
    simp only [Hp.union,Hp.one,hyb,jaw,jbg] at hy ⊢;exact hy
   have h1:=hsub y o hy';have h2:=hlt y o hy';rw [jdp h2]
   rwa [jb7 h2] at h1
end Go.Eng
namespace Go.Eng
open Go
variable {P:Program} {Z:Env} {hF:Fr} {s:S} {a:Act} {w:World} {o:Oper} {r:R1}
def qr (Z:Env) (n:Nat):List U->Env
 | []=>Z
 | u :: us=>qr (Z.set n u) (n + 1) us
def Ran (P:Program) (a:Act) (o:Oper) (Z:Env) (val:Option SV) (w w':World):Prop :=
 match val with
 | some v=>(execOp a.eval o).run P w = .ok (.value (v.den Z)) w'
 | none=>(execOp a.eval o).run P w = .ok .skip w'
def qd (P:Program) (Z:Env) (hF:Fr) (s:S) (a:Act) (w:World) (o:Oper) (r:R1):Prop :=
 ∃ us w',us.length = r.fresh/\(∀ u ∈ us,u.good)/\qB (qr Z s.nx us) hF r.heap w'/\Ran P a o (qr Z s.nx us) r.val w w'/\(r.fresh = 0->r.val.isSome = true->w' = w)
theorem qd.quiet {needs:List T} {v:SV} (hs:Holds Z hF s a w) (h:(execOp a.eval o).run P w = .ok (.value (v.den Z)) w) :
  qd P Z hF s a w o { needs,fresh:=0,heap:=s.heap,val:=some v } :=
 ⟨[],w,rfl,by simp,hs.hp,h,fun _ _=>rfl⟩
theorem qoo {x:Operand} (hs:Holds Z hF s a w) (hop:o.op = .move x∨o.op = .assign x) (h:(opd s x).map (quiet s) = some r):qd P Z hF s a w o r:=by
 simp only [jag] at h;obtain ⟨v,hv,rfl⟩:=h;refine qd.quiet hs ?_;have:=hs.opd hv;rcases hop with hop | hop <;> simp [execOp,hop,this]
theorem qcV (hs:Holds Z hF s a w) {c:T} {b:Bool} (h:qfi c s.pc = some b):(c.den Z).b = b:=by
 have look:∀ {l:List (T × Bool)} {c:T} {b:Bool},(∀ c b,(c,b) ∈ l->(c.den Z).b = b)->qkh c l = some b->(c.den Z).b = b:=by
  intro l
  induction l with
  | nil=>intro c b _ h; simp [qkh] at h
  | cons x l ih =>
   intro c b hl h;obtain ⟨k,b'⟩:=x;simp only [qkh] at h;split at h
   ·rename_i hsame
    simp only [jaa] at h;rw [T.same_eq hsame,<- h];exact hl k b' (jac ..)
   ·exact ih (fun c b hm=>hl c b (jab _ hm)) h
 unfold qfi at h;split at h
 ·simp only [jaa] at h; subst h; rfl
 ·simp only [jag] at h
  obtain ⟨b',h1,rfl⟩:=h;simp [T.den,O1.den,look hs.pc h1]
 ·exact look hs.pc h
theorem qw5 {c x y:Operand} (hs:Holds Z hF s a w) (hop:o.op = .pick c x y) (h:qq P s o = some r):qd P Z hF s a w o r:=by
 simp only [qq,hop] at h;split at h
 ·rename_i t ht
  have hc:=hs.opd ht;simp only [SV.den,T.den,O1.den] at hc;split at h
  ·rename_i hk
   have hk:=qcV hs hk;simp only [jag] at h;obtain ⟨v,hv,rfl⟩:=h;refine qd.quiet hs ?_;simp [execOp,hop,hc,hk,asBool,hs.opd hv]
  ·rename_i hk
   have hk:=qcV hs hk;simp only [jag] at h;obtain ⟨v,hv,rfl⟩:=h;refine qd.quiet hs ?_;simp [execOp,hop,hc,hk,asBool,hs.opd hv]
  ·simp at h
 ·simp at h
theorem qsF (Z:Env) (n b:Nat):SV.den (Z.set n { r:=some ⟨b,0,none⟩ }) (.one (.vptr n (.lit 0) 0 0)) = .pointer (some ⟨b,0,none⟩):=by
 simp [SV.den,T.den,O0.den,O1.den,qg]
theorem qwV {ty:TypeId} {x:Operand} (hs:Holds Z hF s a w) (hop:o.op = .box ty x) (hsc:s.scopedEH = true) (h:qq P s o = some r):qd P Z hF s a w o r:=by
 simp only [qq,hop] at h;split at h
 ·rename_i cs hcs
  simp only [jaa] at h; subst h;simp only [jai] at hcs;obtain ⟨v,hv,hc⟩:=hcs;have hin:=qqv hc (qiW hsc hv);have hev:=hs.opd hv;have hcd:=qgT hs.gd hc;have hg:qa (Z.set s.nx { r:=some ⟨w.heap.size,0,none⟩ }) cs = qa Z cs:=qbq (fun m hm=>Env.set_ne Z _ (by omega)) cs hin;have hsh:s.heap.all (SH.inB s.nx) = true:=by simp only [S.scopedEH,jad] at hsc; exact hsc.2
  refine ⟨[{ r:=some ⟨w.heap.size,0,none⟩ }],_,rfl,by simp [U.good,Value.oneCell'],qB.alloc hs.hp hsh (c:=(v.den Z).cells) (by rw [hg,hcd]),?_,fun h=>by cases h⟩;simp only [Ran,qr,qsF];simp [execOp,hop,hev,Instr.box,newVar,newRow]
 ·simp at h
theorem qtN {ty:TypeId} (hs:Holds Z hF s a w) (hop:o.op = .alloc ty) (hsc:s.scopedEH = true) (h:qq P s o = some r):qd P Z hF s a w o r:=by
 simp only [qq,hop] at h;split at h
 ·rename_i cs hcs
  simp only [jaa] at h; subst h;obtain ⟨v,hz,hcd⟩:=qiQ (P:=P) (Z:=Z.set s.nx { r:=some ⟨w.heap.size,0,none⟩ }) hcs w;have hsh:s.heap.all (SH.inB s.nx) = true:=by simp only [S.scopedEH,jad] at hsc; exact hsc.2
  refine ⟨[{ r:=some ⟨w.heap.size,0,none⟩ }],_,rfl,by simp [U.good,Value.oneCell'],qB.alloc hs.hp hsh (c:=v.cells) (by rw [hcd]),?_,fun h=>by cases h⟩;simp only [Ran,qr,qsF];simp [execOp,hop,Instr.alloc,hz,newVar,newRow]
 ·simp at h
theorem qaq {t:T} {z:Int} (h:t.isLit = some z):t = .lit z:=by
 unfold T.isLit at h; split at h <;> simp_all
theorem qvS {t:TypeId} {x:Operand} (hs:Holds Z hF s a w) (hop:o.op = .load t x) (h:qq P s o = some r) (hn:∀ c ∈ r.needs,(c.den Z).b = true):qd P Z hF s a w o r:=by
 simp only [qq,hop] at h;split at h
 ·rename_i rg p c e ag n hx hag hsz
  have hev:=hs.opd hx;split at h
  ·rename_i k y hf
   obtain ⟨H,hsub,hro,hreg⟩:=hs.found hf;split at h
   ·rename_i cs needs hrd
    split at h
    ·rename_i hagt
     simp only [jaa] at h; subst h; subst hagt;obtain ⟨hl,b,off,c',ty,fr,h1,h2,h3⟩:=qdJ hrd hro hreg hn;refine qd.quiet hs ?_;have hrun:=qcS (P:=P) (w:=w) hag hsz (hsub _ _ h2) (by simp [qa,hl]) h3 (by simp);simp only [SV.den,T.den,O1.den,h1,qg,ja5] at hev ⊢;simp [execOp,hop,hev,Instr.loadAt,Instr.sureAddr,hrun]
    ·rename_i hagf
     split at h
     ·rename_i t' _
      simp only [jaa] at h; subst h;obtain ⟨hl,b,off,c',ty,fr,h1,h2,h3⟩:=qdJ hrd hro hreg hn;refine qd.quiet hs ?_;have hagf':ag = false:=by simpa using hagf
      have hrun:=qcS (P:=P) (w:=w) hag hsz (hsub _ _ h2) (by rw [<- hl]; simp [qa]) h3 (fun _=>by rw [<- hl]; rfl);subst hagf';simp only [SV.den,T.den,O1.den,h1,qg,ja5] at hev ⊢;simp [execOp,hop,hev,Instr.loadAt,Instr.sureAddr,hrun,qa]
     ·simp at h
   ·simp at h
  ·simp at h
 ·simp at h
theorem qua {t:TypeId} {x y:Operand} (hs:Holds Z hF s a w) (hop:o.op = .store t x y) (h:qq P s o = some r) (hn:∀ c ∈ r.needs,(c.den Z).b = true):qd P Z hF s a w o r:=by
 simp only [qq,hop] at h;split at h
 ·rename_i rg p c e vs n hx hvs hsz
  have hev:=hs.opd hx;split at h
  ·rename_i hlen
   have hlen:=Nat.eq_of_beq_eq_true hlen;split at h
   ·rename_i k x0 hat
    simp only [jag,jcs] at h;obtain ⟨x',needs,hwr,rfl⟩:=h;simp only [jai] at hvs;obtain ⟨v,hv,hc⟩:=hvs;have hvev:=hs.opd hv;have hcd:=qgT hs.gd hc;obtain ⟨hk,hreg⟩:=qac hat;obtain ⟨hO,hd,hst,hsub,hwi⟩:=hs.hp;obtain ⟨t1,t2,td,tu,tx,ts⟩:=qax hst hk;obtain ⟨b,c0,ty,g1,g2,g3,g4⟩:=qjs hs.gd hwr tx hreg hn;have hle:Hp.le t1 (Hp.union hF hO):=Hp.le_trans (tu ▸ Hp.le_left t1 t2) (Hp.le_right hd);obtain ⟨w',c1,hrun,hw1,hw2,hwrote,hos⟩:=qjI (P:=P) (w:=w) (off:=(e.den Z).i.toNat * p + c) hsz hcd (by simp [qa,hlen]) (hsub _ _ (hle _ _ g2)) (qfY hs.gd vs)
     (by simpa [qa] using g3)
    have hdisj:Hp.disj (Hp.upd t1 b (.cells c1 ty (0,0))) t2:=fun y=>by
     rcases td y with h | h
     ·unfold Hp.upd
      split
      ·rename_i he; subst he; rw [g2] at h; cases h
      ·exact .inl h
     ·exact .inr h
    refine ⟨[],w',rfl,by simp,⟨Hp.union (Hp.upd t1 b (.cells c1 ty (0,0))) t2,?_,qcF hk ts hdisj (g4 c1 hwrote),?_,⟨hos.1.trans hwi.1,hos.2.trans hwi.2⟩⟩,?_,fun _ h=>by cases h⟩
    ·intro y
     rcases hd y with h | h
     ·exact .inl h
     ·right
      rw [tu] at h;simp only [Hp.union,jbx] at h ⊢;refine ⟨?_,h.2⟩;unfold Hp.upd;split
      ·rename_i he; subst he; rw [g2] at h; cases h.1
      ·exact h.1
    ·intro y ob hy
     by_cases hyb:y = b
     ·subst hyb
      have hFn:hF y = none:=(hd y).resolve_right (by rw [tu]; simp [Hp.union,g2]);simp only [Hp.union,hFn,Hp.upd,ja9,jbg,jca,jaa] at hy;rw [hw1,hy]
     ·rw [hw2 y hyb]
      refine hsub y ob ?_;rw [tu];simp only [Hp.union,Hp.upd,hyb,jaw] at hy ⊢;exact hy
    ·simp only [Ran]
     simp only [SV.den,T.den,O1.den,g1,qg,ja5] at hev;simp [execOp,hop,hev,hvev,Instr.storeAt,Instr.sureAddr,hrun]
   ·simp at h
  ·simp at h
 ·simp at h
theorem qcR (hs:Holds Z hF s a w) {r:Nat} {e:T} (h:∀ c ∈ qgb s r e,(c.den Z).b = true):(Z r).r.isSome = true:=by
 unfold qgb at h;split at h
 ·rename_i r' ty cs hf
  obtain ⟨H,_,hro,hreg⟩:=hs.found hf;simp only [SH.reg,jaa] at hreg; subst hreg;obtain ⟨b,o,c,ty',fr,h1,_⟩:=hro;rw [h1]; rfl
 ·rename_i r' ty pat d cap hf
  obtain ⟨H,_,hro,hreg⟩:=hs.found hf;simp only [SH.reg,jaa] at hreg; subst hreg;have h0:=qD (h _ (jac ..));have h1:=qcJ (h _ (jab _ (jac ..)));rcases hro with hd | ⟨b,o,c,ty',fr,h1,_⟩
  ·rw [hd] at h1; simp at h1; omega
  ·rw [h1]; rfl
 ·have:=h _ (jan.2 rfl)
  simp only [T.den,O0.den,O1.den] at this;cases hr:(Z r).r <;> simp_all
theorem qpf {x:Operand} (hs:Holds Z hF s a w) (hop:o.op = .nilCheck x) (h:qq P s o = some r) (hn:∀ c ∈ r.needs,(c.den Z).b = true):qd P Z hF s a w o r:=by
 simp only [qq,hop] at h;split at h
 ·rename_i rg p c e hx
  have hev:=hs.opd hx;simp only [jaa] at h; subst h;have ht:=qcR hs hn;refine qd.quiet hs ?_;simp only [SV.den,T.den,O1.den] at hev ⊢;obtain ⟨bo,hb⟩:=qct ht ((e.den Z).i.toNat * p + c);rw [hb] at hev;simp [execOp,hop,hev,hb]
 ·simp at h
theorem qiI {t:TypeId} {f:Nat} {off:Nat} {u:TypeId} (h:qmQ P t f = some (off,u)):∃ fs fd n,P.underlying t = some (.struct fs)/\fs[f]? = some fd/\qam P fd.type = some (n + 1)/\fd.offset = off/\fd.type = u:=by
 unfold qmQ at h;split at h
 ·rename_i fs hu
  split at h
  ·rename_i fd hfd
   split at h
   ·rename_i n hn
    simp only [jaa,jak] at h;exact ⟨fs,fd,n,hu,hfd,hn,h.1,h.2⟩
   ·simp at h
  ·simp at h
 ·simp at h
theorem qnD {t:TypeId} {x:Operand} {f:Nat} (hs:Holds Z hF s a w) (hop:o.op = .fieldAddr t x f) (h:qq P s o = some r) (hn:∀ c ∈ r.needs,(c.den Z).b = true):qd P Z hF s a w o r:=by
 simp only [qq,hop] at h;split at h
 ·rename_i rg p c e off u hx hf
  have hev:=hs.opd hx;simp only [jaa] at h; subst h;have ht:=qcR hs hn;obtain ⟨fs,fd,n,hu,hfd,hsz,rfl,rfl⟩:=qiI hf;refine qd.quiet hs ?_;simp only [SV.den,T.den,O1.den] at hev ⊢;obtain ⟨bo,hb⟩:=qct ht ((e.den Z).i.toNat * p + c);rw [hb] at hev;rw [<- jc3,qd5 _ hb];simp [execOp,hop,hev,Instr.fieldAt,Instr.sureAddr,qx hu,hfd,fieldPlace,qaT hsz]
 ·simp at h
theorem qtA {t:TypeId} {x:Operand} {f:Nat} (hs:Holds Z hF s a w) (hop:o.op = .field t x f) (h:qq P s o = some r):qd P Z hF s a w o r:=by
 simp only [qq,hop] at h;split at h
 ·rename_i cs off u hx hf
  have hev:=hs.opd hx;obtain ⟨fs,fd,n0,hu,hfd,hsz0,rfl,rfl⟩:=qiI hf;split at h
  ·rename_i n hag hsz
   split at h
   ·rename_i hle
    simp only [jaa] at h; subst h;refine qd.quiet hs ?_;simp only [SV.den] at hev ⊢;simp [execOp,hop,hev,Instr.field,qx hu,hfd,asAgg,part,qdW hag,qaT hsz,qa,jdj]
   ·simp at h
  ·rename_i hag
   simp only [jag] at h;obtain ⟨t',ht',rfl⟩:=h;refine qd.quiet hs ?_;simp only [SV.den] at hev ⊢;simp [execOp,hop,hev,Instr.field,qx hu,hfd,asAgg,part,qdW hag,qa,ht']
  ·simp at h
 ·simp at h
theorem qaX (x y:T):((qaD x y).den Z).i = (x.den Z).i + (y.den Z).i:=by
 unfold qaD;split
 ·rename_i u v hu hv; rw [qaq hu,qaq hv]; simp [T.den,O0.den]
 ·rename_i u hu hv
  split
  ·rename_i h0; rw [qaq hu,h0]; simp [T.den,O0.den]
  ·rfl
 ·rename_i u hu hv
  split
  ·rename_i h0; rw [qaq hv,h0]; simp [T.den,O0.den]
  ·rfl
 ·rfl
theorem qnu {t:TypeId} {x i:Operand} (hs:Holds Z hF s a w) (hop:o.op = .indexAddr t x i) (h:qq P s o = some r) (hn:∀ c ∈ r.needs,(c.den Z).b = true):qd P Z hF s a w o r:=by
 simp only [qq,hop] at h;split at h
 ·rename_i el rg p off len cap kk j hu hx hi
  have hev:=hs.opd hx;have hei:=hs.opd hi;split at h
  ·rename_i n hsz
   split at h
   ·rename_i hnp
    have hnp:=Nat.eq_of_beq_eq_true hnp;simp only [jaa] at h; subst h;simp only [jdc,jcm] at hn;have h0:=qD (hn _ (jac ..));have h1:=hn _ (jab _ (jac ..));rw [qY _ _ _ (by simp)] at h1;have h1:(j.den Z).i < (len.den Z).i:=ja1 h1;have h2:=qD (hn _ (jab _ (jab _ (jac ..))));have ht:=qcR hs (e:=qaD off j) (fun c hc=>hn c (jab _ (jab _ (jab _ hc))));obtain ⟨bo,hb⟩:=qct ht ((off.den Z).i.toNat * p);refine qd.quiet hs ?_;have hpl:(off.den Z).i.toNat * p + (j.den Z).i.toNat * p = ((off.den Z).i + (j.den Z).i).toNat * p:=by
     rw [<- jbk]; congr 1; omega
    have hcond:¬ (max (len.den Z).i 0 <= (j.den Z).i):=by omega
    simp only [SV.den,T.den,O1.den,O3.den,qaX] at hev hei ⊢;rw [hb] at hev;rw [<- hpl,jcd,qd5 _ hb];subst hnp;simp [execOp,hop,hev,hei,Instr.indexAt,asIntOf,qx hu,h0,hcond,qaT hsz]
   ·simp at h
  ·simp at h
 ·rename_i m el rg p c e kk j hu hx hi
  have hev:=hs.opd hx;have hei:=hs.opd hi;split at h
  ·rename_i n z hsz hz
   split at h
   ·rename_i hc
    simp only [jaa] at h; subst h;have ht:=qcR hs hn;obtain ⟨bo,hb⟩:=qct ht ((e.den Z).i.toNat * p + c);rw [qaq hz] at hei;refine qd.quiet hs ?_;simp only [SV.den,T.den,O0.den,O1.den] at hev hei ⊢;rw [hb] at hev;rw [<- jc3,qd5 _ hb];simp [execOp,hop,hev,hei,Instr.indexAt,Instr.sureAddr,asIntOf,qx hu,hc,qaT hsz]
   ·simp at h
  ·rename_i n hsz hz
   split at h
   ·rename_i hz0
    simp only [jaa] at h; subst h;have h0:=qD (hn _ (jac ..));have h1:=hn _ (jab _ (jac ..));rw [qY _ _ _ (by simp)] at h1;have h1:(j.den Z).i < (m:Int):=ja1 h1;have ht:=qcR hs (e:=e) (fun c hc=>hn c (jab _ (jab _ hc)));obtain ⟨bo,hb⟩:=qct ht c;have he0:(e.den Z).i = 0:=by rw [qaq hz0]; simp [T.den,O0.den]
    refine qd.quiet hs ?_;simp only [SV.den,T.den,O0.den,O1.den,he0,jei,jd8,jbh] at hev hei ⊢;rw [hb] at hev;rw [jda,qd5 _ hb];simp [execOp,hop,hev,hei,Instr.indexAt,Instr.sureAddr,asIntOf,qx hu,h0,h1,qaT hsz]
   ·simp at h
  ·simp at h
 ·simp at h
theorem qco (op:BinOp) (k:IntKind) (x y:T):((qeF op k x y).den Z).i = qk op k (x.den Z).i (y.den Z).i:=by
 unfold qeF;split
 ·rename_i u v hu hv; rw [qaq hu,qaq hv]; simp [T.den,O0.den]
 ·rfl
theorem quB (k:IntKind) (x:T):((qq4 k x).den Z).i = k.wrap (x.den Z).i:=by
 unfold qq4;split
 ·rename_i u hu; rw [qaq hu]; simp [T.den,O0.den]
 ·rfl
theorem qej (x:T):((qhc x).den Z).b = !(x.den Z).b:=by
 unfold qhc;split <;> simp [T.den,O0.den,O1.den]
theorem qgX (x y:T):((qkg x y).den Z).b = ((x.den Z).b == (y.den Z).b):=by
 unfold qkg;split
 ·simp [T.den,O0.den]
 ·split
  ·rename_i h; rw [T.same_eq h]; simp [T.den,O0.den]
  ·rfl
theorem qwR (x y:T):((qvf x y).den Z).i = if (y.den Z).i < (x.den Z).i then (y.den Z).i else (x.den Z).i:=by
 unfold qvf;split
 ·rename_i u v hu hv
  rw [qaq hu,qaq hv];simp only [T.den,O0.den];by_cases h:v < u <;> simp [h]
 ·rfl
theorem qw9 (x y:T):((quc x y).den Z).i = if (y.den Z).i > (x.den Z).i then (y.den Z).i else (x.den Z).i:=by
 unfold quc;split
 ·rename_i u v hu hv; rw [qaq hu,qaq hv]; simp [T.den,O0.den]
 ·rfl
theorem qj4 (x y:T):((qp5 x y).den Z).b = ((x.den Z).b && (y.den Z).b):=by
 unfold qp5; split <;> simp [T.den,O0.den,O2.den]
theorem qiq (hs:Holds Z hF s a w) (r:Nat):((qni s r).den Z).b = (Z r).r.isNone:=by
 unfold qni;split
 ·rename_i r' ty cs hf
  obtain ⟨H,_,hro,hreg⟩:=hs.found hf;simp only [SH.reg,jaa] at hreg; subst hreg;obtain ⟨b,o,c,ty',fr,h1,_⟩:=hro;simp [T.den,O0.den,h1]
 ·rename_i r' ty pat d cap hf
  obtain ⟨H,_,hro,hreg⟩:=hs.found hf;simp only [SH.reg,jaa] at hreg; subst hreg;rw [qj4,qY _ _ _ (by simp),qbi];rcases hro with h2 | ⟨b,o,c,ty',fr,h1,_⟩
  ·simp [T.den,O0.den,h2,qO]
  ·simp [T.den,O0.den,h1]
 ·rfl
theorem qbL {op:BinOp} {t:TypeId} {x y:Operand} {k k':IntKind} {m n:Int}:(eqGuard op t x y (.int k m) (.int k' n)).run P w = .ok () w:=by
 unfold eqGuard; split <;> simp
theorem qgy {op:BinOp} {t:TypeId} {x y:Operand} {m n:Bool}:(eqGuard op t x y (.bool m) (.bool n)).run P w = .ok () w:=by
 unfold eqGuard; split <;> simp
theorem qdf {op:BinOp} {t:TypeId} {x y:Operand} {m n:Option Addr}:(eqGuard op t x y (.pointer m) (.pointer n)).run P w = .ok () w:=by
 unfold eqGuard; split <;> simp
theorem qqu {ty:TypeId} (hu:P.underlying ty = some .bool) (m n:Bool):(binOp .eql ty (.bool m) (.bool n)).run P w = .ok (.bool (m == n)) w:=by
 simp only [binOp,Op.equal];rw [show Op.maxDepth = 9999 + 1 from rfl];simp only [Sem.run_bind,run_equalIn_bool' w 9999 ty m n hu,Result.andThen_ok,Sem.run_pure]
theorem qqy {ty:TypeId} (hu:P.underlying ty = some .bool) (m n:Bool):(binOp .neq ty (.bool m) (.bool n)).run P w = .ok (.bool (!(m == n))) w:=by
 simp only [binOp,Op.equal];rw [show Op.maxDepth = 9999 + 1 from rfl];simp only [Sem.run_bind,run_equalIn_bool' w 9999 ty m n hu,Result.andThen_ok,Sem.run_pure]
theorem qfu (d:Nat) {ty el:TypeId} (hu:P.underlying ty = some (.pointer el)) (m:Option Addr):(Op.equalIn (d + 1) ty (.pointer m) (.pointer none)).run P w = .ok m.isNone w:=by
 unfold Op.equalIn;simp only [Sem.run_bind,qx hu,Result.andThen_ok];cases m <;> simp
theorem qhC {ty el:TypeId} (hu:P.underlying ty = some (.pointer el)) (m:Option Addr):(binOp .eql ty (.pointer m) (.pointer none)).run P w = .ok (.bool m.isNone) w:=by
 have h:binOp .eql ty (.pointer m) (.pointer none) = (do pure (.bool (<- Op.equal ty (.pointer m) (.pointer none)))):=by cases m <;> rfl
 rw [h];simp only [Op.equal];rw [show Op.maxDepth = 9999 + 1 from rfl];simp only [Sem.run_bind,qfu 9999 hu,Result.andThen_ok,Sem.run_pure]
theorem qhK {ty el:TypeId} (hu:P.underlying ty = some (.pointer el)) (m:Option Addr):(binOp .neq ty (.pointer m) (.pointer none)).run P w = .ok (.bool (!m.isNone)) w:=by
 have h:binOp .neq ty (.pointer m) (.pointer none) = (do pure (.bool (!(<- Op.equal ty (.pointer m) (.pointer none))))):=by cases m <;> rfl
 rw [h];simp only [Op.equal];rw [show Op.maxDepth = 9999 + 1 from rfl];simp only [Sem.run_bind,qfu 9999 hu,Result.andThen_ok,Sem.run_pure]
theorem qd9:∀ t:T,((qbH t).den Z).i = ((qbd (t.den Z).v).length:Int)
 | .c0 o=>by cases o <;> simp [qbH,T.den,O0.den,O1.den,qhD]
 | .c1 o x=>by cases o <;> simp [qbH,T.den,O1.den,qbi,bytesOf,qhD]
 | .c2 o x y=>by
  cases o <;> simp only [qbH,T.den,O1.den,O2.den];rw [qaX,qd9 x,qd9 y];simp [qhD]
 | .var n=>by simp [qbH,T.den,O1.den]
 | .c3 o x y z=>by simp [qbH,T.den,O1.den]
 | .ife x y u v=>by simp [qbH,T.den,O1.den]
theorem qvg {x y:T} (hx:qdH x = true) (hy:qdH y = true):((qqh x y).den Z).v = .string ⟨(qbd (x.den Z).v ++ qbd (y.den Z).v).toArray⟩:=by
 obtain ⟨sx,ex⟩:=qcc (Z:=Z) hx;obtain ⟨sy,ey⟩:=qcc (Z:=Z) hy;unfold qqh;split
 ·have e:qbd ((T.c0 (.vstr [])).den Z).v = []:=by simp [T.den,O0.den,qhD]
  rw [e,jcm,ey,qq2]
 ·have e:qbd ((T.c0 (.vstr [])).den Z).v = []:=by simp [T.den,O0.den,qhD]
  rw [e,jbz,ex,qq2]
 ·rfl
theorem qsm {ty:TypeId} {m n:ByteArray} (h:((qbd (.string m)).length:Int) + ((qbd (.string n)).length:Int) <= 9223372036854775807):(binOp .add ty (.string m) (.string n)).run P w = .ok (.string ⟨(qbd (.string m) ++ qbd (.string n)).toArray⟩) w:=by
 simp only [qbd,qen,Array.length_toList] at h ⊢;have hs:¬ (((m.size + n.size:Nat):Int) > IntKind.i64.max):=by
  have h1:m.size = m.data.size:=rfl;have h2:n.size = n.data.size:=rfl;simp [IntKind.max,IntKind.signed,IntKind.bits]; omega
 have he:m ++ n = ⟨(m.data.toList ++ n.data.toList).toArray⟩:=by
  apply ByteArray.ext;apply jb3;simp
 simp only [binOp,Op.stringOp,jaf hs,he];rfl
theorem qdd {op:BinOp} {t:TypeId} {x y:Operand} {m n:ByteArray}:(eqGuard op t x y (.string m) (.string n)).run P w = .ok () w:=by
 unfold eqGuard; split <;> simp
theorem qrD {ty:TypeId} {m n:ByteArray}:(binOp .eql ty (.string m) (.string n)).run P w = .ok (.bool (m.toList == n.toList)) w:=by
 simp [binOp,Op.stringOp]
theorem qsc {ty:TypeId} {m n:ByteArray}:(binOp .neq ty (.string m) (.string n)).run P w = .ok (.bool (!(m.toList == n.toList))) w:=by
 simp [binOp,Op.stringOp]
theorem qrR {ty:TypeId} {m n:ByteArray}:(binOp .lss ty (.string m) (.string n)).run P w = .ok (.bool (Op.bytesLess m.toList n.toList)) w:=by
 simp [binOp,Op.stringOp]
theorem qcu {op:BinOp} {t:TypeId} {x y:Operand} {m n:Option Addr} {i j k l:Nat}:(eqGuard op t x y (.slice m i j) (.slice n k l)).run P w = .ok () w:=by
 cases op <;> simp [eqGuard]
theorem qe0 (d:Nat) {ty el:TypeId} (hu:P.underlying ty = some (.slice el)) (m:Option Addr) (i j:Nat):(Op.equalIn (d + 1) ty (.slice m i j) (.slice none 0 0)).run P w = .ok m.isNone w:=by
 unfold Op.equalIn;simp only [Sem.run_bind,qx hu,Result.andThen_ok];cases m <;> simp
theorem qg8 {ty el:TypeId} (hu:P.underlying ty = some (.slice el)) (m:Option Addr) (i j:Nat):(binOp .eql ty (.slice m i j) (.slice none 0 0)).run P w = .ok (.bool m.isNone) w:=by
 have h:binOp .eql ty (.slice m i j) (.slice none 0 0) = (do pure (.bool (<- Op.equal ty (.slice m i j) (.slice none 0 0)))):=by cases m <;> rfl
 rw [h];simp only [Op.equal];rw [show Op.maxDepth = 9999 + 1 from rfl];simp only [Sem.run_bind,qe0 9999 hu,Result.andThen_ok,Sem.run_pure]
theorem qgs {ty el:TypeId} (hu:P.underlying ty = some (.slice el)) (m:Option Addr) (i j:Nat):(binOp .neq ty (.slice m i j) (.slice none 0 0)).run P w = .ok (.bool (!m.isNone)) w:=by
 have h:binOp .neq ty (.slice m i j) (.slice none 0 0) = (do pure (.bool (!(<- Op.equal ty (.slice m i j) (.slice none 0 0))))):=by cases m <;> rfl
 rw [h];simp only [Op.equal];rw [show Op.maxDepth = 9999 + 1 from rfl];simp only [Sem.run_bind,qe0 9999 hu,Result.andThen_ok,Sem.run_pure]
def qet (P:Program) (Z:Env) (t:TypeId) (cs:List T):Value :=
 match qcz P t with
 | some true=>.agg (qa Z cs).toArray
 | _=>(qa Z cs).headD .nilFunc
theorem qq6 {t:TypeId} {ag:Bool} {n off:Nat} {cs:List T} (hag:qcz P t = some ag) (hn:qam P t = some n) (h1:(ag || Nat.beq n 1) = true) (hl:off + n <= cs.length) (w:World) :
  (part t (qa Z cs).toArray off).run P w = .ok (qet P Z t ((cs.drop off).take n)) w:=by
 cases ag with
 | true=>simp [part,qdW hag,qaT hn,qet,hag,qa,jdj]
 | false =>
  simp only [Bool.false_or] at h1;have:=Nat.eq_of_beq_eq_true h1;subst this;have hlt:off < cs.length:=by omega
  simp only [part,Sem.run_bind,qdW hag,Result.andThen_ok,qet,hag];have e1:(qa Z cs).toArray[off]? = some ((cs[off]).den Z).v:=by simp [qa,hlt]
  have e2:(cs.drop off).take 1 = [cs[off]]:=by rw [jbq hlt]; rfl
  rw [e2];simp [e1,qa,hlt]
theorem qie {f:TypeId->List T->List T->Option T} {d:Nat} {cs ds:List T} (hf:∀ t a b c (w:World),f t a b = some c->(Op.equalIn d t (qet P Z t a) (qet P Z t b)).run P w = .ok (c.den Z).b w) :
  ∀ {fs:List Field} {c:T} (w:World),qnE P f cs ds fs = some c->(Op.eqFields d (qa Z cs).toArray (qa Z ds).toArray fs).run P w = .ok (c.den Z).b w
 | [],c,w,h=>by simp only [qnE,jaa] at h; subst h; simp [Op.eqFields,T.den,O0.den]
 | x :: fs,c,w,h=>by
  simp only [qnE] at h;split at h
  ·rename_i hname
   split at h
   ·rename_i ag n r hag hn hr
    split at h
    ·rename_i hc
     simp only [jad,jc4] at hc;simp only [jag] at h;obtain ⟨a,ha,rfl⟩:=h;simp only [Op.eqFields,hname,ne_eq,not_false_eq_true,ja9,Sem.run_bind,qq6 (Z:=Z) hag hn hc.1.1 hc.1.2,qq6 (Z:=Z) hag hn hc.1.1 hc.2,Result.andThen_ok,hf _ _ _ _ _ ha];have:=qie hf w hr;cases hb:(a.den Z).b with
     | true=>simp [this,qj4,hb]
     | false=>simp [qj4,hb]
    ·simp at h
   ·simp at h
  ·rename_i hname
   simp only [Op.eqFields,hname,jaw];exact qie hf w h
theorem qvV:∀ (n d:Nat),n <= d->∀ (t:TypeId) (cs ds:List T) (c:T) (w:World),eqT P n t cs ds = some c->(Op.equalIn d t (qet P Z t cs) (qet P Z t ds)).run P w = .ok (c.den Z).b w:=by
 intro n
 induction n with
 | zero=>intro d _ t cs ds c w h; simp [eqT] at h
 | succ n ih =>
  intro d hd t cs ds c w h;obtain ⟨d',rfl⟩:∃ d',d = d' + 1:=⟨d - 1,by omega⟩;simp only [eqT] at h;split at h
  ·rename_i k0 hu
   split at h
   ·rename_i k a k' b
    split at h
    ·rename_i hk
     subst hk;simp only [jaa] at h; subst h;simp only [qet,qcz,hu,qa,jao,jbf,jb1,T.den,O1.den];rw [run_equalIn_int w d' t k k0 _ _ hu,qY _ _ _ (by simp)]; rfl
    ·simp at h
   ·simp at h
  ·rename_i hu
   split at h
   ·rename_i a b
    simp only [jaa] at h; subst h;simp only [qet,qcz,hu,qa,jao,jbf,jb1,T.den,O1.den];rw [run_equalIn_bool' w d' t _ _ hu,qgX]
   ·simp at h
  ·rename_i fs hu
   split at h
   ·simp at h
   ·rename_i hst
    have hfs:P.fieldsOf t = fs:=by simp [Program.fieldsOf,hu]
    simp only [qet,qcz,hu];rw [run_equalIn_struct w d' t _ _ (by rw [hfs]; exact hu) (by simpa using hst),hfs];exact qie (fun t a b c w hc=>ih d' (by omega) t a b c w hc) w h
  ·simp at h
theorem qrC {t:TypeId} {cs ds:List T} {c:T} (h:quE P t cs ds = some c):P.eqGuardType P.depth t = false/\(Op.equalIn 10000 t (.agg (qa Z cs).toArray) (.agg (qa Z ds).toArray)).run P w = .ok (c.den Z).b w:=by
 unfold quE at h;split at h
 ·simp at h
 ·rename_i hg
  split at h
  ·rename_i fs hu
   refine ⟨by simpa using hg,?_⟩;have:=qvV (P:=P) (Z:=Z) 8 10000 (by omega) t cs ds c w h;simpa only [qet,qcz,hu] using this
  ·simp at h
theorem qeY {k:IntKind}:∀ {ts:List T},qaS k ts = true->∃ zs:List Int,qa Z ts = zs.map (Value.int k)
 | [],_=>⟨[],rfl⟩
 | .c1 (.vint k') x :: l,h=>by
  simp only [qaS,jad,jav] at h;obtain ⟨hk,hl⟩:=h;subst hk;obtain ⟨zs,hz⟩:=qeY hl;exact ⟨(x.den Z).i :: zs,by simp only [qa,jao,T.den,O1.den] at hz ⊢; rw [hz]⟩
 | .var _ :: _,h=>by simp [qaS] at h
 | .c0 _ :: _,h=>by simp [qaS] at h
 | .c2 _ _ _ :: _,h=>by simp [qaS] at h
 | .c3 _ _ _ _ :: _,h=>by simp [qaS] at h
 | .ife _ _ _ _ :: _,h=>by simp [qaS] at h
 | .c1 (.conv _) _ :: _,h=>by simp [qaS] at h
 | .c1 .dlen _ :: _,h=>by simp [qaS] at h
 | .c1 .not _ :: _,h=>by simp [qaS] at h
 | .c1 .vbool _ :: _,h=>by simp [qaS] at h
 | .c1 (.vptr _ _ _) _ :: _,h=>by simp [qaS] at h
 | .c1 .vbytes _ :: _,h=>by simp [qaS] at h
 | .c1 .sval _ :: _,h=>by simp [qaS] at h
 | .c1 .slen _ :: _,h=>by simp [qaS] at h
 | .c1 .srows _ :: _,h=>by simp [qaS] at h
 | .c1 (.isg _) _ :: _,h=>by simp [qaS] at h
theorem qjM (ts:List T):(((T.row ts).den Z).d.headD []) = qa Z ts:=by rw [qgm]
theorem qiM:∀ (xs ys:List Int),xs.length = ys.length->((List.range xs.length).all fun i=>xs.getD i 0 == ys.getD i 0) = (xs == ys)
 | [],[],_=>rfl
 | x :: xs,y :: ys,h=>by
  have ih:=qiM xs ys (by simpa using h);rw [jbb,List.range_succ_eq_map,jcp,List.all_map];simp only [List.getD_cons_zero,Function.comp_def,List.getD_cons_succ,ih];simp [List.cons_beq_cons]
 | [],_ :: _,h=>by simp at h
 | _ :: _,[],h=>by simp at h
theorem qg7 {e:TypeId} {k:IntKind} {zs:List Int} {i:Nat} (he:qcz P e = some false) (hi:i < zs.length) (w:World):(part e (zs.map (Value.int k)).toArray (i * 1)).run P w = .ok (.int k (zs.getD i 0)) w:=by
 have ha:(isAgg e).run P w = .ok false w:=qdW he w;simp [part,ha,List.getD,jae hi]
theorem qg6 (d:Nat) (t e:TypeId) (n:Nat) (k:IntKind) (ht:P.underlying t = some (.array n e)) (he:P.underlying e = some (.int k)) (hag:qcz P e = some false) (hsz:qam P e = some 1) (xs ys:List Int) (hx:xs.length = n) (hy:ys.length = n) (w:World) :
  (Op.equalIn (d + 2) t (.agg (xs.map (Value.int k)).toArray) (.agg (ys.map (Value.int k)).toArray)).run P w = .ok (xs == ys) w:=by
 rw [<- qiM xs ys (hx.trans hy.symm),hx,List.range_eq_range',Op.equalIn];simp only [Sem.run_bind,run_underlying ht,Result.andThen_ok,qaT hsz,Std.Legacy.Range.forIn_eq_forIn_range',Std.Legacy.Range.size,jd7,jdz,Nat.div_one];have hl:∀ i ∈ List.range' 0 n 1,i < n:=fun i hi=>by simpa using (List.mem_range'_1.1 hi).2
 generalize List.range' 0 n 1 = l at hl ⊢
 induction l with
 | nil=>simp
 | cons i l ih =>
  have hi:i < n:=hl i (by simp);have px:=qg7 (P:=P) (k:=k) (zs:=xs) hag (i:=i) (by omega) w;have py:=qg7 (P:=P) (k:=k) (zs:=ys) hag (i:=i) (by omega) w;have pe:(Op.equalIn (d + 1) e (.int k (xs.getD i 0)) (.int k (ys.getD i 0))).run P w = .ok (xs.getD i 0 == ys.getD i 0) w:=run_equalIn_int w d e k k _ _ he;simp only [List.forIn_cons,Sem.run_bind,px,py,pe,Result.andThen_ok,jcp];cases hb:(xs.getD i 0 == ys.getD i 0)
  ·simp
  ·simp only [jd1,jal,jaw,Sem.run_pure,Result.andThen_ok,Bool.true_and]
   exact ih fun j hj=>hl j (by simp [hj])
theorem qxk (k:IntKind) (zs:List Int):(zs.map (Value.int k)).map qbk = zs:=by
 rw [List.map_map]; exact List.map_id' zs
theorem qrv {t:TypeId} {cs ds:List T} {c:T} (h:quZ P t cs ds = some c):P.eqGuardType P.depth t = false/\(Op.equalIn 10000 t (.agg (qa Z cs).toArray) (.agg (qa Z ds).toArray)).run P w = .ok (c.den Z).b w:=by
 unfold quZ at h;split at h
 ·simp at h
 ·rename_i hg
  split at h
  ·rename_i n el hu
   split at h
   ·rename_i k hk hsz hag
    split at h
    ·rename_i hc
     simp only [jad] at hc;obtain ⟨⟨⟨l1,l2⟩,a1⟩,a2⟩:=hc;have l1:=Nat.eq_of_beq_eq_true l1;have l2:=Nat.eq_of_beq_eq_true l2;simp only [jaa] at h; subst h;refine ⟨by simpa using hg,?_⟩;obtain ⟨xs,hx⟩:=qeY (Z:=Z) a1;obtain ⟨ys,hy⟩:=qeY (Z:=Z) a2;have hxl:xs.length = n:=by have:=congrArg List.length hx; simp [qa] at this; omega
     have hyl:ys.length = n:=by have:=congrArg List.length hy; simp [qa] at this; omega
     rw [hx,hy,show (10000:Nat) = 9998 + 2 from rfl,qg6 9998 t el n k hu hk hag hsz xs ys hxl hyl w];simp only [T.den,O2.den,qjM,hx,hy,qxk]
    ·simp at h
   ·simp at h
  ·simp at h
theorem qkL {t:TypeId} {cs ds:List T} {c:T} (h:qtX P t cs ds = some c):P.eqGuardType P.depth t = false/\(Op.equalIn 10000 t (.agg (qa Z cs).toArray) (.agg (qa Z ds).toArray)).run P w = .ok (c.den Z).b w:=by
 unfold qtX at h;split at h
 ·rename_i c' hc
  simp only [jaa] at h; subst h;exact qrC hc
 ·exact qrv h
theorem qdT (r:Option Addr) (n:Nat):(qg r n).isNone = r.isNone:=by cases r <;> rfl
theorem qxY {op:BinOp} {ty u:TypeId} {x y:Operand} (hs:Holds Z hF s a w) (hop:o.op = .binOp op ty x y u) (h:qq P s o = some r) (hn:∀ c ∈ r.needs,(c.den Z).b = true):qd P Z hF s a w o r:=by
 simp only [qq,hop] at h;split at h
 ·rename_i va vb hx hy
  have hex:=hs.opd hx;have hey:=hs.opd hy;unfold qtc at h;split at h
  ·rename_i k x1 k' y1
   simp only [SV.den,T.den,O1.den] at hex hey;split at h
   ·simp only [jaa] at h; subst h
    have h0:=hn _ (jan.2 rfl);rw [qY _ _ _ (by simp)] at h0;have h0:(y1.den Z).i ≥ 0:=ja1 h0;refine qd.quiet hs ?_;simp [execOp,hop,hex,hey,qbL,binOp,Op.shift,Int.not_lt.2 h0,SV.den,T.den,O1.den,qco,qk]
   ·simp only [jaa] at h; subst h
    have h0:=hn _ (jan.2 rfl);rw [qY _ _ _ (by simp)] at h0;have h0:(y1.den Z).i ≥ 0:=ja1 h0;refine qd.quiet hs ?_;simp [execOp,hop,hex,hey,qbL,binOp,Op.shift,Int.not_lt.2 h0,SV.den,T.den,O1.den,qco,qk]
   all_goals split at h
   all_goals first | (simp at h; done) | skip
   all_goals (rename_i hk; subst hk; simp only [jaa] at h; subst h)
   ·have h0:=hn _ (jan.2 rfl)
    rw [qY _ _ _ (by simp)] at h0;have h0:(y1.den Z).i ≠ 0:=by simpa [qO,T.den,O0.den] using h0
    refine qd.quiet hs ?_;simp [execOp,hop,hex,hey,qbL,binOp,Op.intDiv,h0,SV.den,T.den,O1.den,qco,qk]
   ·have h0:=hn _ (jan.2 rfl)
    rw [qY _ _ _ (by simp)] at h0;have h0:(y1.den Z).i ≠ 0:=by simpa [qO,T.den,O0.den] using h0
    refine qd.quiet hs ?_;simp [execOp,hop,hex,hey,qbL,binOp,Op.intDiv,h0,SV.den,T.den,O1.den,qco,qk]
   all_goals
    refine qd.quiet hs ?_
    first
     | (simp [execOp,hop,hex,hey,qbL,binOp,Op.intArith,Op.intBits,SV.den,T.den,O1.den,qco,qk]; done)
     | (simp [execOp,hop,hex,hey,qbL,binOp,Op.intCmp,SV.den,T.den,O1.den,qY,qO]; done)
  ·rename_i x1 y1
   simp only [SV.den,T.den,O1.den] at hex hey;split at h
   ·rename_i hu
    simp only [jaa] at h; subst h;refine qd.quiet hs ?_;simp only [execOp,hop,hex,hey,Sem.run_bind,qgy,qqu hu,Result.andThen_ok,Sem.run_pure,SV.den,T.den,O1.den,qgX]
   ·rename_i hu
    simp only [jaa] at h; subst h;refine qd.quiet hs ?_;simp only [execOp,hop,hex,hey,Sem.run_bind,qgy,qqy hu,Result.andThen_ok,Sem.run_pure,SV.den,T.den,O1.den,qgX,qej]
   ·simp at h
  ·rename_i rg p c e
   simp only [SV.den,T.den,O0.den,O1.den] at hex hey;split at h
   ·rename_i el hu
    simp only [jaa] at h; subst h;refine qd.quiet hs ?_;simp only [execOp,hop,hex,hey,Sem.run_bind,qdf,qhC hu,Result.andThen_ok,Sem.run_pure,SV.den,T.den,O1.den,qiq hs,qdT]
   ·rename_i el hu
    simp only [jaa] at h; subst h;refine qd.quiet hs ?_;simp only [execOp,hop,hex,hey,Sem.run_bind,qdf,qhK hu,Result.andThen_ok,Sem.run_pure,SV.den,T.den,O1.den,qej,qiq hs,qdT]
   ·simp at h
  ·simp only [SV.den,T.den,O0.den,O1.den] at hex hey
   split at h
   ·rename_i el hu
    simp only [jaa] at h; subst h;refine qd.quiet hs ?_;simp only [execOp,hop,hex,hey,Sem.run_bind,qdf,qhC hu,Result.andThen_ok,Sem.run_pure,SV.den,T.den,O0.den,O1.den,jdm]
   ·rename_i el hu
    simp only [jaa] at h; subst h;refine qd.quiet hs ?_;simp only [execOp,hop,hex,hey,Sem.run_bind,qdf,qhK hu,Result.andThen_ok,Sem.run_pure,SV.den,T.den,O0.den,O1.den,jdm,jd1]
   ·simp at h
  ·rename_i rg p off len cap
   simp only [SV.den,T.den,O0.den,O3.den] at hex hey;split at h
   ·rename_i el hu
    simp only [jaa] at h; subst h;refine qd.quiet hs ?_;simp only [execOp,hop,hex,hey,Sem.run_bind,qcu,qg8 hu,Result.andThen_ok,Sem.run_pure,SV.den,T.den,O1.den,qiq hs,qdT]
   ·rename_i el hu
    simp only [jaa] at h; subst h;refine qd.quiet hs ?_;simp only [execOp,hop,hex,hey,Sem.run_bind,qcu,qgs hu,Result.andThen_ok,Sem.run_pure,SV.den,T.den,O1.den,qej,qiq hs,qdT]
   ·simp at h
  ·simp only [SV.den,T.den,O0.den,O3.den] at hex hey
   split at h
   ·rename_i el hu
    simp only [jaa] at h; subst h;refine qd.quiet hs ?_;simp only [execOp,hop,hex,hey,Sem.run_bind,qcu,qg8 hu,Result.andThen_ok,Sem.run_pure,SV.den,T.den,O0.den,O1.den,jdm]
   ·rename_i el hu
    simp only [jaa] at h; subst h;refine qd.quiet hs ?_;simp only [execOp,hop,hex,hey,Sem.run_bind,qcu,qgs hu,Result.andThen_ok,Sem.run_pure,SV.den,T.den,O0.den,O1.den,jdm,jd1]
   ·simp at h
  ·rename_i cs ds
   simp only [SV.den] at hex hey;split at h
   ·rename_i c hc
    simp only [jaa] at h; subst h;obtain ⟨g1,g2⟩:=qkL (Z:=Z) (w:=w) hc;refine qd.quiet hs ?_;simp only [execOp,hop,hex,hey,Sem.run_bind,run_eqGuard_agg w _ _ _ _ _ _ g1,run_eql_struct,g2,Result.andThen_ok,Sem.run_pure,SV.den,T.den,O1.den]
   ·rename_i c hc
    simp only [jaa] at h; subst h;obtain ⟨g1,g2⟩:=qkL (Z:=Z) (w:=w) hc;refine qd.quiet hs ?_;simp only [execOp,hop,hex,hey,Sem.run_bind,run_eqGuard_agg w _ _ _ _ _ _ g1,run_neq_struct,g2,Result.andThen_ok,Sem.run_pure,SV.den,T.den,O1.den,qej]
   ·simp at h
  ·rename_i ta tb _ _ _ _ _ _ _
   split at h
   ·rename_i hstr
    simp only [jad] at hstr;obtain ⟨sa,hsa⟩:=qcc (Z:=Z) hstr.1;obtain ⟨sb,hsb⟩:=qcc (Z:=Z) hstr.2;simp only [SV.den,hsa,hsb] at hex hey;split at h
    ·simp only [jaa] at h; subst h
     refine qd.quiet hs ?_;simp only [execOp,hop,hex,hey,Sem.run_bind,qdd,qrD,Result.andThen_ok,Sem.run_pure,SV.den,T.den,O1.den,O2.den,hsa,hsb,qbd]
    ·simp only [jaa] at h; subst h
     refine qd.quiet hs ?_;simp only [execOp,hop,hex,hey,Sem.run_bind,qdd,qsc,Result.andThen_ok,Sem.run_pure,SV.den,qej,T.den,O1.den,O2.den,hsa,hsb,qbd]
    ·simp only [jaa] at h; subst h
     refine qd.quiet hs ?_;simp only [execOp,hop,hex,hey,Sem.run_bind,qdd,qrR,Result.andThen_ok,Sem.run_pure,SV.den,T.den,O1.den,O2.den,hsa,hsb,qbd]
    ·simp only [jaa] at h; subst h
     have hle:=hn _ (jan.2 rfl);rw [qY _ _ _ (by simp)] at hle;simp only [qO,qaX,qd9,hsa,hsb,T.den,O0.den,jav] at hle;refine qd.quiet hs ?_;simp only [execOp,hop,hex,hey,Sem.run_bind,qdd,qsm hle,Result.andThen_ok,Sem.run_pure,SV.den,qvg hstr.1 hstr.2,hsa,hsb]
    ·simp at h
   ·simp at h
  ·simp at h
 ·simp at h
theorem qvJ {op:UnOp} {t:TypeId} {x:Operand} (hs:Holds Z hF s a w) (hop:o.op = .unOp op t x) (h:qq P s o = some r):qd P Z hF s a w o r:=by
 simp only [qq,hop] at h;split at h
 ·rename_i t' hx
  have hev:=hs.opd hx;simp only [jaa] at h; subst h;refine qd.quiet hs ?_;simp only [SV.den,T.den,O1.den] at hev ⊢;simp [execOp,hop,hev,Op.unary,qej]
 ·rename_i k t' hx
  have hev:=hs.opd hx;simp only [jaa] at h; subst h;refine qd.quiet hs ?_;simp only [SV.den,T.den,O1.den] at hev ⊢;simp [execOp,hop,hev,Op.unary,Op.intArith,qco,qk,T.den,O0.den]
 ·rename_i k t' hx
  have hev:=hs.opd hx;simp only [jaa] at h; subst h;refine qd.quiet hs ?_;simp only [SV.den,T.den,O1.den] at hev ⊢;simp [execOp,hop,hev,Op.unary,Op.intBits,qco,qk,T.den,O0.den]
 ·simp at h
theorem qrq {x:Operand} {i:Nat} (hs:Holds Z hF s a w) (hop:o.op = .extract x i) (h:qq P s o = some r):qd P Z hF s a w o r:=by
 simp only [qq,hop] at h;split at h
 ·rename_i vs hx
  have hev:=hs.opd hx;split at h
  ·rename_i ts hi
   simp only [jaa] at h; subst h;refine qd.quiet hs ?_;simp only [SV.den] at hev ⊢;simp [execOp,hop,hev,Instr.extract,hi,qdD]
  ·rename_i t' hi
   simp only [jaa] at h; subst h;refine qd.quiet hs ?_;simp only [SV.den] at hev ⊢;simp [execOp,hop,hev,Instr.extract,hi,qdD,qa]
  ·simp at h
 ·simp at h
theorem qgJ:∀ {vs:List SV} {ts:List T},qcC vs = some ts->vs.map (SV.den Z) = qa Z ts
 | [],ts,h=>by simp only [qcC,jaa] at h; subst h; rfl
 | .one t :: r,ts,h=>by
  simp only [qcC,jag] at h;obtain ⟨ts',h1,rfl⟩:=h;have:=qgJ h1;simp only [jao,this,qa,SV.den]
 | .agg _ :: r,ts,h=>by simp [qcC] at h
 | .tup _ :: r,ts,h=>by simp [qcC] at h
 | .fn _ _ _ :: r,ts,h=>by simp [qcC] at h
theorem qpk {fn:Fn} {first captured:Array Operand} (hs:Holds Z hF s a w) (hop:o.op = .makeFunc fn first captured) (h:qq P s o = some r):qd P Z hF s a w o r:=by
 simp only [qq,hop] at h;split at h
 ·rename_i x y hx hy
  simp only [jai] at hx hy;obtain ⟨vx,hx1,hx2⟩:=hx;obtain ⟨vy,hy1,hy2⟩:=hy;simp only [jaa] at h; subst h;refine qd.quiet hs ?_;have ex:=hs.opds hx1;have ey:=hs.opds hy1;rw [qgJ hx2] at ex;rw [qgJ hy2] at ey;simp only [SV.den];simp only [execOp,hop,Instr.makeFunc,Sem.run_bind,Sem.run_pure,Result.andThen_ok];rw [<- ex,<- ey]
  congr 3
  ·apply jb3; simp
  ·apply jb3; simp
 ·simp at h
theorem qxc {args:Array Operand} {tys:Array TypeId} (hs:Holds Z hF s a w) (hop:o.op = .call { callee:=.builtin .len,args,argTypes:=tys }) (h:qq P s o = some r) (hn:∀ c ∈ r.needs,(c.den Z).b = true):qd P Z hF s a w o r:=by
 simp only [qq,hop] at h;split at h
 ·rename_i el x ht ha
  simp only [jai] at ht;obtain ⟨t,ht0,htu⟩:=ht;have hargs:args = #[x]:=by apply jb3; simpa using ha
  split at h
  ·rename_i rg p off len cap hx
   have hev:=hs.opd hx;simp only [jaa] at h; subst h;have h0:=qD (hn _ (jan.2 rfl));refine qd.quiet hs ?_;simp only [SV.den,T.den,O1.den,O3.den] at hev ⊢;have:((len.den Z).i.toNat:Int) = (len.den Z).i:=by omega
   simp [execOp,hop,resolve,invoke,builtin,Builtin.len_,hargs,ht0,qx htu,hev,goInt];omega
  ·rename_i hx
   have hev:=hs.opd hx;simp only [jaa] at h; subst h;refine qd.quiet hs ?_;simp only [SV.den,T.den,O0.den,O1.den] at hev ⊢;simp [execOp,hop,resolve,invoke,builtin,Builtin.len_,hargs,ht0,qx htu,hev,goInt]
  ·simp at h
 ·rename_i x ht ha
  simp only [jai] at ht;obtain ⟨t,ht0,htu⟩:=ht;have hargs:args = #[x]:=by apply jb3; simpa using ha
  split at h
  ·rename_i u hx
   split at h
   ·rename_i hu
    have hev:=hs.opd hx;simp only [jaa] at h; subst h;obtain ⟨su,hsu⟩:=qcc (Z:=Z) hu;refine qd.quiet hs ?_;simp only [SV.den,hsu] at hev;have hz:((qbH u).den Z).i = (su.size:Int):=by
     rw [qd9,hsu]; simp [qbd,qen]
    simp only [SV.den,T.den,O1.den,hz];simp [execOp,hop,resolve,invoke,builtin,Builtin.len_,hargs,ht0,qx htu,hev,goInt]
   ·simp at h
  ·simp at h
 ·simp at h
theorem qxC {args:Array Operand} {tys:Array TypeId} (hs:Holds Z hF s a w) (hop:o.op = .call { callee:=.builtin .cap,args,argTypes:=tys }) (h:qq P s o = some r) (hn:∀ c ∈ r.needs,(c.den Z).b = true):qd P Z hF s a w o r:=by
 simp only [qq,hop] at h;split at h
 ·rename_i el x ht ha
  simp only [jai] at ht;obtain ⟨t,ht0,htu⟩:=ht;have hargs:args = #[x]:=by apply jb3; simpa using ha
  split at h
  ·rename_i rg p off len cap hx
   have hev:=hs.opd hx;simp only [jaa] at h; subst h;have h0:=qD (hn _ (jan.2 rfl));refine qd.quiet hs ?_;simp only [SV.den,T.den,O1.den,O3.den] at hev ⊢;have:((cap.den Z).i.toNat:Int) = (cap.den Z).i:=by omega
   simp [execOp,hop,resolve,invoke,builtin,Builtin.cap_,hargs,ht0,qx htu,hev,goInt];omega
  ·rename_i hx
   have hev:=hs.opd hx;simp only [jaa] at h; subst h;refine qd.quiet hs ?_;simp only [SV.den,T.den,O0.den,O1.den] at hev ⊢;simp [execOp,hop,resolve,invoke,builtin,Builtin.cap_,hargs,ht0,qx htu,hev,goInt]
  ·simp at h
 ·simp at h
theorem qiS:∀ {ts:List T},qhW ts = true->∃ zs:List Bool,qa Z ts = zs.map Value.bool
 | [],_=>⟨[],rfl⟩
 | t :: l,h=>by
  unfold qhW at h;split at h
  ·rename_i heq; cases heq
  ·rename_i x l' heq
   injection heq with h1 h2
   subst h1 h2;obtain ⟨zs,hz⟩:=qiS h;exact ⟨(x.den Z).b :: zs,by simp only [qa,jao] at hz ⊢; rw [hz]; rfl⟩
  ·cases h
theorem quy {t:TypeId} {x i:Operand} (hs:Holds Z hF s a w) (hop:o.op = .index t x i) (h:qq P s o = some r) (hn:∀ c ∈ r.needs,(c.den Z).b = true):qd P Z hF s a w o r:=by
 simp only [qq,hop] at h;split at h
 ·rename_i u k j htu hx hi
  split at h
  ·rename_i hu
   have hev:=hs.opd hx;have hei:=hs.opd hi;simp only [jaa] at h; subst h;obtain ⟨su,hsu⟩:=qcc (Z:=Z) hu;have h0:=qD (hn _ (jac ..));have h1:=hn _ (jab _ (jan.2 rfl));rw [qY _ _ _ (by simp)] at h1;simp only [qO,qd9,hsu,jav] at h1;refine qd.quiet hs ?_;simp only [SV.den,T.den,O1.den,hsu] at hev hei;have hl:(j.den Z).i.toNat < (qbd (.string su)).length:=by omega
   have hlz:(j.den Z).i.toNat < su.size:=by simpa [qbd,qen] using hl
   have hg:su[(j.den Z).i.toNat]? = some ((qbd (.string su))[(j.den Z).i.toNat]'hl):=by
    rw [getElem?_pos su _ hlz];simp only [qbd,qen,Array.getElem_toList];rfl
   simp only [SV.den,T.den,O1.den,O2.den,hsu,jae hl,jbc];simp only [execOp,hop,Sem.run_bind,hev,hei,Instr.index,asIntOf,Sem.run_pure,Result.andThen_ok,qx htu,jah h0,hg]
  ·simp at h
 ·rename_i n el ts k j htu hx hi
  have hev:=hs.opd hx;have hei:=hs.opd hi;simp only [SV.den,T.den,O1.den] at hev hei;unfold qpT at h;split at h
  ·rename_i hsz hag
   split at h
   ·rename_i hl
    have hl:=Nat.eq_of_beq_eq_true hl;have hrun:∀ (z:Int) (v:Value),(j.den Z).i = z->0 <= z->z < n->(qa Z ts)[z.toNat]? = some v->(execOp a.eval o).run P w = .ok (.value v) w:=fun z v hz z0 z1 hv=>by
     have hcond:0 <= z/\z < (n:Int):=⟨z0,z1⟩;have ha:(isAgg el).run P w = .ok false w:=qdW hag w;simp only [execOp,hop,Sem.run_bind,hev,hei,hz,Instr.index,asIntOf,Sem.run_pure,Result.andThen_ok,qx htu,jah hcond,qaT hsz,part,ha,Nat.mul_one,jal,jaw,jch,hv]
    split at h
    ·rename_i z hz
     have hz':=qck (Z:=Z) hz;split at h
     ·rename_i hzc
      simp only [jag] at h;obtain ⟨t',ht',rfl⟩:=h;refine qd.quiet hs ?_;exact hrun z _ hz' hzc.1 hzc.2 (by simp [qa,ht',SV.den])
     ·simp at h
    ·split at h
     ·rename_i k0 _
      split at h
      ·rename_i hall
       simp only [jaa] at h; subst h;have h0:=qD (hn _ (jac ..));have h1:=hn _ (jab _ (jan.2 rfl));rw [qY _ _ _ (by simp)] at h1;have h1:(j.den Z).i < (n:Int):=ja1 h1;obtain ⟨zs,hzs⟩:=qeY (Z:=Z) hall;refine qd.quiet hs ?_;have hzl:zs.length = n:=by
        have hq:=congrArg List.length hzs;rw [qa,ja3,ja3,hl] at hq;exact hq.symm
       have hget:zs[(j.den Z).i.toNat]? = some (zs[(j.den Z).i.toNat]'(by omega)):=jae (by omega);have hcell:((T.c2 (.xint 0) (T.row ts) j).den Z).i = zs[(j.den Z).i.toNat]'(by omega):=by
        simp only [T.den,O2.den,qmg,qjM,hzs,jcd,jaq,hget,ja5,jbc,qbk]
       refine hrun _ _ rfl h0 h1 ?_;simp only [SV.den,T.den,O1.den] at hcell ⊢;rw [hcell,hzs,jaq,hget];rfl
      ·simp at h
     ·split at h
      ·rename_i hall
       simp only [jaa] at h; subst h;have h0:=qD (hn _ (jac ..));have h1:=hn _ (jab _ (jan.2 rfl));rw [qY _ _ _ (by simp)] at h1;have h1:(j.den Z).i < (n:Int):=ja1 h1;obtain ⟨zs,hzs⟩:=qiS (Z:=Z) hall;refine qd.quiet hs ?_;have hzl:zs.length = n:=by
        have hq:=congrArg List.length hzs;rw [qa,ja3,ja3,hl] at hq;exact hq.symm
       have hget:zs[(j.den Z).i.toNat]? = some (zs[(j.den Z).i.toNat]'(by omega)):=jae (by omega);have hcell:((T.c2 (.xbool 0) (T.row ts) j).den Z).b = zs[(j.den Z).i.toNat]'(by omega):=by
        simp only [T.den,O2.den,qng,qjM,hzs,jcd,jaq,hget,ja5,jbc];rfl
       refine hrun _ _ rfl h0 h1 ?_;simp only [SV.den,T.den,O1.den] at hcell ⊢;rw [hcell,hzs,jaq,hget];rfl
      ·simp at h
   ·simp at h
  ·simp at h
 ·simp at h
theorem qxS {args:Array Operand} {tys:Array TypeId} (hs:Holds Z hF s a w) (hop:o.op = .call { callee:=.builtin .min,args,argTypes:=tys }) (h:qq P s o = some r):qd P Z hF s a w o r:=by
 simp only [qq,hop] at h;split at h
 ·rename_i k x k' y hx
  have he:=hs.opds hx;simp only [jaa] at h; subst h;refine qd.quiet hs ?_;simp only [jao,jbf,SV.den,T.den,O1.den] at he ⊢;have hargs:args.map a.eval = #[.int k (x.den Z).i,.int k' (y.den Z).i]:=by apply jb3; simpa using he
  simp [execOp,hop,resolve,invoke,builtin,Builtin.min_,hargs,Builtin.min2,qwR]
 ·simp at h
theorem qxz {args:Array Operand} {tys:Array TypeId} (hs:Holds Z hF s a w) (hop:o.op = .call { callee:=.builtin .max,args,argTypes:=tys }) (h:qq P s o = some r):qd P Z hF s a w o r:=by
 simp only [qq,hop] at h;split at h
 ·rename_i k x k' y hx
  have he:=hs.opds hx;simp only [jaa] at h; subst h;refine qd.quiet hs ?_;simp only [jao,jbf,SV.den,T.den,O1.den] at he ⊢;have hargs:args.map a.eval = #[.int k (x.den Z).i,.int k' (y.den Z).i]:=by apply jb3; simpa using he
  simp [execOp,hop,resolve,invoke,builtin,Builtin.max_,hargs,Builtin.max2,qw9]
 ·simp at h
theorem qrg {n:Nat} {l vs:List T} {i:Nat} (h:l.all (T.inB n) = true) (h':vs.all (T.inB n) = true):(qc6 l i vs).all (T.inB n) = true:=by
 rw [jam] at *;intro x hx;unfold qc6 at hx;rcases ja4.1 hx with hx | hx
 ·rcases ja4.1 hx with hx | hx
  ·exact h x (jb4 hx)
  ·exact h' x hx
 ·exact h x (jcn hx)
theorem qkE (off:Nat):∀ (l:List Value) (k:Nat) (cells:Array Value),off + k + l.length <= cells.size ->
  let r:=(l.zipIdx k).foldl (fun (cs:Array Value) (x:Value × Nat)=>cs.setIfInBounds (off + x.2) x.1) cells
  r.size = cells.size/\∀ j,r[j]? = if off + k <= j/\j < off + k + l.length then l[j - (off + k)]? else cells[j]?
 | [],k,cells,_=>⟨rfl,fun j=>by rw [jaf (by simp)]; rfl⟩
 | v :: l,k,cells,h=>by
  simp only [jbb] at h;have ih:=qkE off l (k + 1) (cells.setIfInBounds (off + k) v) (by simp only [Array.size_setIfInBounds]; omega);simp only [List.zipIdx_cons,jct] at ih ⊢;refine ⟨by simpa using ih.1,fun j=>?_⟩;rw [ih.2 j];simp only [jbb];by_cases hj:j = off + k
  ·subst hj
   rw [jaf (by omega),jah (by omega)];have:off + k < cells.size:=by omega
   simp [this]
  ·by_cases hin:off + (k + 1) <= j/\j < off + (k + 1) + l.length
   ·rw [jah hin,jah (by omega),show j - (off + k) = (j - (off + (k + 1))) + 1 from by omega,jau]
   ·rw [jaf hin,jaf (by omega),jci (fun h=>hj h.symm)]
theorem qnn (off:Nat) (l:List Value) (cells:List Value) (h:off + l.length <= cells.length) :
  l.toArray.zipIdx.foldl (fun (cs:Array Value) (x:Value × Nat)=>cs.setIfInBounds (off + x.2) x.1) cells.toArray = (qbb cells off l).toArray:=by
 have:=qkE off l 0 cells.toArray (by simpa using h);simp only [jcd] at this;have e:l.toArray.zipIdx.foldl (fun (cs:Array Value) (x:Value × Nat)=>cs.setIfInBounds (off + x.2) x.1) cells.toArray =
   (l.zipIdx 0).foldl (fun (cs:Array Value) (x:Value × Nat)=>cs.setIfInBounds (off + x.2) x.1) cells.toArray:=by
  rw [<- Array.foldl_toList]; simp
 rw [e];apply jd0;intro j;rw [this.2 j];simp only [jch];rw [qcB h]
def qkV (Z:Env):List (Nat × List T)->List (Nat × Value)->Prop
 | [],[]=>True
 | (i,ts) :: r,(j,v) :: r'=>i = j/\v.cells = (qa Z ts).toArray/\qkV Z r r'
 | _,_=>False
theorem qho {pl:Nat->Option (Nat × Nat)}:∀ {ps:List (Nat × List T)} {vs:List (Nat × Value)} {z cs:List T},qkV Z ps vs->qfP pl z ps = some cs ->
  Instr.fill pl (qa Z z).toArray vs = some (qa Z cs).toArray
 | [],[],z,cs,_,h=>by simp only [qfP,jaa] at h; subst h; rfl
 | (i,ts) :: r,(j,v) :: r',z,cs,hd,h=>by
  obtain ⟨rfl,hv,hr⟩:=hd;simp only [qfP] at h;split at h
  ·simp at h
  ·rename_i off size hpl
   split at h
   ·rename_i hc
    simp only [jad,jc4] at hc;have hsz:=Nat.eq_of_beq_eq_true hc.1;have hl:(qa Z ts).length = ts.length:=by simp [qa]
    have hl2:(qa Z z).length = z.length:=by simp [qa]
    simp only [Instr.fill,hpl,hv];rw [jaf]
    ·have:=qho (pl:=pl) (z:=qc6 z off ts) hr h
     rw [qfD] at this;rw [<- this]
     congr 1
     exact qnn off _ _ (by rw [hl,hl2]; exact hc.2)
    ·simp [hl,hl2,hsz]
     omega
   ·simp at h
 | [],_ :: _,_,_,hd,_=>hd.elim
 | _ :: _,[],_,_,hd,_=>hd.elim
theorem qhS (hs:Holds Z hF s a w):∀ {l:List (Nat × Operand)} {ps:List (Nat × List T)},qe7 s l = some ps->qkV Z ps (l.map fun x=>(x.1,a.eval x.2))
 | [],ps,h=>by simp only [qe7,jaa] at h; subst h; trivial
 | (i,x) :: r,ps,h=>by
  simp only [qe7] at h;split at h
  ·rename_i cs l' hc hl
   simp only [jaa] at h; subst h;simp only [jai] at hc;obtain ⟨v,hv,hcs⟩:=hc;exact ⟨rfl,by rw [hs.opd hv]; exact qgT hs.gd hcs,qhS hs hl⟩
  ·simp at h
theorem qiG:∀ {fs:List Field} {l:List (Nat × Nat)},qg5 P fs = some l->fs.mapM (fun f=>(P.info? f.type).map fun i=>(f.offset,i.size)) = some l
 | [],l,h=>by simp only [qg5,jaa] at h; subst h; rfl
 | f :: fs,l,h=>by
  simp only [qg5] at h;split at h
  ·rename_i i l' hi hl
   simp only [jaa] at h; subst h;simp [jeh,hi,qiG hl]
  ·simp at h
theorem qc9 {t:TypeId} {cs:List T} (h:qbC P t = some cs):∃ i v,P.info? t = some i/\i.zero = some v/\v.cells = (qa Z cs).toArray:=by
 unfold qbC at h;split at h
 ·rename_i v hv
  simp only [jai] at hv;obtain ⟨i,hi,hz⟩:=hv;exact ⟨i,v,hi,hz,by rw [qfh h]⟩
 ·simp at h
theorem qtZ {t:TypeId} {parts:Array (Nat × Operand)} (hs:Holds Z hF s a w) (hop:o.op = .build t parts) (h:qq P s o = some r):qd P Z hF s a w o r:=by
 simp only [qq,hop] at h;split at h
 ·rename_i z pl ps hz hpl hps
  simp only [jag] at h;obtain ⟨cs,hfill,rfl⟩:=h;refine qd.quiet hs ?_;obtain ⟨i,v,hi,hiz,hzc⟩:=qc9 (Z:=Z) hz;have hfs:=qho (qhS hs hps) hfill;have hb:P.built t (parts.map fun x=>(x.1,a.eval x.2)).toList = some (qa Z cs).toArray:=by
   rw [jdq];unfold qvK at hpl;unfold Program.built;split at hpl
   ·rename_i fs hu
    simp only [jag] at hpl;obtain ⟨l,hl,rfl⟩:=hpl;simp only [hi,hu,hiz,qiG hl,hzc];simpa using hfs
   ·rename_i n e hu
    simp only [jag,qam] at hpl;obtain ⟨n',⟨ie,hie,rfl⟩,rfl⟩:=hpl;simp only [hi,hu,hiz,hie,hzc];exact hfs
   ·simp at hpl
  simp only [SV.den];simp only [execOp,hop,Sem.run_bind,run_build w t _ _ hb,Result.andThen_ok,Sem.run_pure]
 ·simp at h
theorem qk4 (z:List T):∀ n,(qb9 z n).length = n * z.length
 | 0=>by simp [qb9]
 | n + 1=>by simp [qb9,qk4 z n,jbk]; omega
theorem qkB (z:List Value) (hz:0 < z.length):∀ (n j:Nat) (l:List T),qa Z l = z->j < n * z.length->(qa Z (qb9 l n))[j]? = z[j % z.length]?
 | 0,j,l,_,hj=>by simp at hj
 | n + 1,j,l,hl,hj=>by
  have hd:qa Z (qb9 l (n + 1)) = z ++ qa Z (qb9 l n):=by simp only [qb9,qa,jcj] at hl ⊢; rw [hl]
  rw [hd];by_cases h:j < z.length
  ·rw [jbm h,jd9 h]
  ·rw [ja6 (by omega),qkB z hz n (j - z.length) l hl (by rw [jbk] at hj; omega)]
   rw [Nat.mod_eq_sub_mod (Nat.le_of_not_lt h)]
theorem qmq {n:Nat} {z:List T} (h:z.all (T.inB n) = true):∀ m,(qb9 z m).all (T.inB n) = true
 | 0=>rfl
 | m + 1=>by simp [qb9,jef,h,qmq h m]
theorem qqC {n:Nat} {pl:Nat->Option (Nat × Nat)}:∀ {ps:List (Nat × List T)} {z cs:List T},z.all (T.inB n) = true->(∀ x ∈ ps,x.2.all (T.inB n) = true)->qfP pl z ps = some cs->cs.all (T.inB n) = true
 | [],z,cs,hz,_,h=>by simp only [qfP,jaa] at h; subst h; exact hz
 | (i,ts) :: r,z,cs,hz,hp,h=>by
  simp only [qfP] at h;split at h
  ·simp at h
  ·split at h
   ·exact qqC (qrg hz (hp _ (jac ..))) (fun x hx=>hp x (jab _ hx)) h
   ·simp at h
theorem qo3 (hsc:s.scopedEH = true):∀ {l:List (Nat × Operand)} {ps:List (Nat × List T)},qe7 s l = some ps->∀ x ∈ ps,x.2.all (T.inB s.nx) = true
 | [],ps,h,x,hx=>by simp only [qe7,jaa] at h; subst h; cases hx
 | (i,y) :: r,ps,h,x,hx=>by
  simp only [qe7] at h;split at h
  ·rename_i cs l' hc hl
   simp only [jaa] at h; subst h;simp only [jai] at hc;obtain ⟨v,hv,hcs⟩:=hc;cases hx with
   | head=>exact qqv hcs (qiW hsc hv)
   | tail _ hx=>exact qo3 hsc hl x hx
  ·simp at h
theorem qhZ {t:TypeId} {cs:List T} {n:Nat} (h:qbC P t = some cs):cs.all (T.inB n) = true:=by
 unfold qbC at h;split at h
 ·exact qii h
 ·simp at h
theorem qlB {t:TypeId} {len:Nat} {parts:Array (Nat × Operand)} (hs:Holds Z hF s a w) (hop:o.op = .buildSlice t len parts) (hsc:s.scopedEH = true) (h:qq P s o = some r):qd P Z hF s a w o r:=by
 simp only [qq,hop] at h;split at h
 ·rename_i el hu
  split at h
  ·rename_i z n ps hz hn hps
   split at h
   ·rename_i hc
    simp only [jad,jc4,jay] at hc;have hzl:=Nat.eq_of_beq_eq_true hc.1.1;split at h
    ·rename_i cs hfill
     simp only [jaa] at h; subst h;obtain ⟨i,v,hi,hiz,hzc⟩:=qc9 (Z:=Z) hz;have hin:i.size = n:=by simpa [qam,hi] using hn
     have hfs:=qho (qhS hs hps) hfill;have hcin:cs.all (T.inB s.nx) = true:=qqC (qmq (qhZ hz) len) (qo3 hsc hps) hfill;have hg:qa (Z.set s.nx { r:=some ⟨w.heap.size,0,none⟩ }) cs = qa Z cs:=qbq (fun m hm=>Env.set_ne Z _ (by omega)) cs hcin;have hsh:s.heap.all (SH.inB s.nx) = true:=by simp only [S.scopedEH,jad] at hsc; exact hsc.2
     have hdl:(qa Z z).length = n:=by simp [qa,hzl]
     have hzero:(Array.range (len * n)).map (fun x=>(qa Z z).toArray[x % (qa Z z).toArray.size]!) = (qa Z (qb9 z len)).toArray:=by
      apply jd0;intro j;by_cases hj:j < len * n
      ·have:=qkB (Z:=Z) (qa Z z) (by rw [hdl]; exact hc.1.2) len j z rfl (by rw [hdl]; exact hj)
       rw [show (qa Z (qb9 z len)).toArray[j]? = (qa Z (qb9 z len))[j]? from jch,this,hdl];have hm:j % n < (qa Z z).length:=by rw [hdl]; exact jd4 _ hc.1.2
       simp [hj,hdl,jae hm]
      ·rw [jb6 (by simp; omega),jb6 (by simp [qa,qk4,hzl]; omega)]
     refine ⟨[{ r:=some ⟨w.heap.size,0,none⟩ }],_,rfl,by simp [U.good,Value.oneCell'],qB.alloc hs.hp hsh (c:=(qa Z cs).toArray) (by rw [hg]),?_,fun h=>by cases h⟩;have hv:SV.den (Z.set s.nx { r:=some ⟨w.heap.size,0,none⟩ }) (.one (.vslice s.nx (.lit 0) (.lit len) (.lit len) n)) = .slice (some ⟨w.heap.size,0,none⟩) len len:=by
      simp [SV.den,T.den,O0.den,O3.den,qg]
     simp only [Ran,qr,hv];have hparts:(parts.map fun x=>(x.1,a.eval x.2)).toList = parts.toList.map fun x=>(x.1,a.eval x.2):=jdq ..
     by_cases h0:len * n = 0
     ·have hl0:len = 0:=by rcases Nat.mul_eq_zero.1 h0 with h | h; exact h; omega
      subst hl0;have hz0:(qa Z (qb9 z 0)).toArray = #[]:=rfl;rw [hz0] at hfs;have hfs2:Instr.fill (fun i=>some (i * n,n)) (Array.map (fun _=>(default:Value)) (Array.range 0)) (List.map (fun x=>(x.fst,a.eval x.snd)) parts.toList) = some (qa Z cs).toArray:=by rw [show (Array.map (fun _=>(default:Value)) (Array.range 0)) = #[] from by simp]; exact hfs
      simp [execOp,hop,Instr.buildSlice,qx hu,sizeOf,typeInfo,hi,hin,newRow,hfs2]
     ·have hrun:=run_buildSlice (P:=P) w t el len (parts.map fun x=>(x.1,a.eval x.2)) (qa Z cs).toArray i v hu hi hiz (by rw [hin]; have:=hc.2; omega) (by rw [hin]; exact h0)
       (by rw [hin,hzc,hparts]; rw [hzero]; exact hfs)
      simp only [execOp,hop,Sem.run_bind,Result.andThen_ok,Sem.run_pure];rw [show (parts.map fun x=>(x.1,a.eval x.2)) = (parts.map fun (i,x)=>(i,a.eval x)) from rfl] at hrun;rw [hrun];rfl
    ·simp at h
   ·simp at h
  ·simp at h
 ·simp at h
end Go.Eng
namespace Go.Eng
open Go
variable {P:Program} {Z:Env} {hF:Fr} {s:S} {a:Act} {w:World} {o:Oper} {r:R1}
theorem qsd {t:TypeId} {n:Nat} (h:qdg P t = some n):∃ i,P.info? t = some i/\i.bytes = n:=by
 unfold qdg at h; simpa [jag] using h
theorem qin {t:TypeId} {n:Nat} (h:qam P t = some n):∃ i,P.info? t = some i/\i.size = n:=by
 unfold qam at h; simpa [jag] using h
theorem qaZ {x y:T} (h:((qs .leq x y).den Z).b = true):(x.den Z).i <= (y.den Z).i:=by
 rw [qY _ _ _ (by simp)] at h; exact ja1 h
theorem qei {x y:T} (h:((qs .eql x y).den Z).b = true):(x.den Z).i = (y.den Z).i:=by
 rw [qY _ _ _ (by simp)] at h; simpa [qO] using h
theorem qB.new {heap:List SH} {w:World} {n:Nat} {Z':Env} {x:SH} {ob:Obj} {d:Nat} (h:qB Z hF heap w) (hsc:heap.all (SH.inB n) = true) (hag:∀ m,m < n->Z m = Z' m)
  (hx:x.den Z' (Hp.one w.heap.size ob)):qB Z' hF (x :: heap) { w with heap:=w.heap.push ob,drawn:=d }:=by
 obtain ⟨hO,hd,hst,hsub,hwi⟩:=h;have hlt:∀ y o,Hp.union hF hO y = some o->y < w.heap.size:=fun y o hy=>by
  have:=hsub y o hy;rcases jbn y w.heap.size with h | h
  ·exact h
  ·rw [jb6 h] at this; cases this
 have hno:∀ h',Hp.le h' (Hp.union hF hO)->Hp.disj h' (Hp.one w.heap.size ob):=fun h' hl y=>by
  by_cases hy:y = w.heap.size
  ·left
   cases hx:h' y with
   | none=>rfl
   | some o=>have:=hlt y o (hl y o hx); omega
  ·right; simp [Hp.one,hy]
 refine ⟨Hp.union (Hp.one w.heap.size ob) hO,?_,⟨_,hO,(hno hO (Hp.le_right hd)).symm,rfl,hx,?_⟩,?_⟩
 ·exact Hp.disj_union.2 ⟨hno hF (Hp.le_left _ _),hd⟩
 ·exact qaN (n:=n) hag _ hsc _ hst
 ·refine ⟨fun y o hy=>?_,hwi⟩
  by_cases hyb:y = w.heap.size
  ·subst hyb
   have:hF w.heap.size = none:=by
    cases hx:hF w.heap.size with
    | none=>rfl
    | some o'=>have:=hlt w.heap.size o' (Hp.le_left _ _ _ _ hx); omega
   simp only [Hp.union,this,Hp.one,ja9,jbg,jca,jaa] at hy;subst hy;simp
  ·have hy':Hp.union hF hO y = some o:=by
    simp only [Hp.union,Hp.one,hyb,jaw,jbg] at hy ⊢;exact hy
   have h1:=hsub y o hy';have h2:=hlt y o hy';simp only;rw [jdp h2]
   rwa [jb7 h2] at h1
theorem qrK (hg:Z.good) (t:T):CK.fits (qaK t) (t.den Z).v = true:=by
 have:=(T.den_good hg t).1;unfold qaK;split
 ·simp [T.den,O1.den,CK.fits]
 ·simp [T.den,O1.den,CK.fits]
 ·exact this
theorem qiT (hg:Z.good) (z:List T):qaa (z.map qaK) (qa Z z):=by
 refine ⟨by simp [qa],fun c k v hk hv=>?_⟩;simp only [jaq,jag] at hk;obtain ⟨t,ht,rfl⟩:=hk;simp only [qa,jaq,ht,ja5,jaa] at hv;subst hv;exact qrK hg t
theorem qhR {t:TypeId} {z:List T} (h:qbC P t = some z) (Z:Env):qaa (z.map qaK) (qa Z z):=by
 have h1:=qhZ (n:=0) h;have:qa Z z = qa (fun _=>{}) z:=qbq (n:=0) (fun m hm=>by omega) z h1;rw [this];exact qiT (fun n=>by simp [U.good,Value.oneCell']) z
theorem qpo (z:List Value) (hz:0 < z.length) (n j:Nat) (hj:j < n):(madeCells z.toArray n)[j]? = z[j % z.length]?:=by
 have hm:j % z.length < z.length:=jd4 _ hz;simp [madeCells,hj,jae hm]
theorem qvv {t:TypeId} {l c:Operand} (hs:Holds Z hF s a w) (hop:o.op = .makeSlice t l c) (hsc:s.scopedEH = true) (h:qq P s o = some r) (hn:∀ c ∈ r.needs,(c.den Z).b = true):qd P Z hF s a w o r:=by
 simp only [qq,hop] at h;split at h
 ·rename_i va vb hl hc
  have hel:=hs.opd hl;have hec:=hs.opd hc;have hil:=qiW hsc hl;have hic:=qiW hsc hc;unfold qlf at h;split at h
  ·rename_i el kl lt kc ct hu
   simp only [SV.den,T.den,O1.den] at hel hec;split at h
   ·rename_i z n bz hz hsz hbz
    split at h
    ·rename_i hchk
     simp only [jad,jay] at hchk;have hzl:=Nat.eq_of_beq_eq_true hchk.1.1;simp only [jaa] at h; subst h;have h0:=qD (hn _ (jac ..));have h1:=qaZ (hn _ (jab _ (jac ..)));have h2:=qaZ (hn _ (jab _ (jab _ (jac ..))));simp only [T.den,O0.den,O2.den] at h2;obtain ⟨i,v,hi,hiz,hzc⟩:=qc9 (Z:=Z) hz;have his:i.size = n:=by simpa [qam,hi] using hsz
     have hib:i.bytes = bz:=by simpa [qdg,hi] using hbz
     have hc63:(ct.den Z).i <= 9223372036854775807:=by
      have:(ct.den Z).i <= (bz:Int) * (ct.den Z).i:=by
       have hb1:(1:Int) <= bz:=by omega
       have:=jdx hb1 (show 0 <= (ct.den Z).i by omega);omega
      omega
     have hrun:=run_make (P:=P) w t el i v hu hi hiz kl kc (lt.den Z).i (ct.den Z).i h0 h1 (by rw [hib]; exact h2) hc63;rw [hzc,his] at hrun;have hdl:(qa Z z).length = n:=by simp [qa,hzl]
     let u:U:={ r:=some ⟨w.heap.size,0,none⟩ }
     have hag:∀ m,m < s.nx->Z m = (Z.set s.nx u) m:=fun m hm=>(Env.set_ne Z u (by omega)).symm
     have hsh:s.heap.all (SH.inB s.nx) = true:=by simp only [S.scopedEH,jad] at hsc; exact hsc.2
     have hlt:lt.den (Z.set s.nx u) = lt.den Z:=(T.den_congr hag lt hil).symm;have hct:ct.den (Z.set s.nx u) = ct.den Z:=(T.den_congr hag ct hic).symm;have hzd:qa (Z.set s.nx u) z = qa Z z:=(qbq hag z (qhZ hz)).symm;refine ⟨[u],_,rfl,by simp [U.good,u,Value.oneCell'],qB.new (Z':=Z.set s.nx u) (d:=w.drawn) hs.hp hsh hag (ob:=.cells (madeCells (qa Z z).toArray ((ct.den Z).i.toNat * n)) el) ?_,?_,fun h=>by cases h⟩
     ·refine .inr ⟨w.heap.size,madeCells (qa Z z).toArray ((ct.den Z).i.toNat * n),by simp [u],by simp [Hp.one],?_,?_,?_⟩
      ·rw [size_madeCells,hct]; simp [hzl]
      ·simp only [T.den,O2.den,jb9,hlt,hct]; omega
      ·intro i row hrow
       simp only [T.den,O2.den,hlt] at hrow;rw [jc2] at hrow;split at hrow
       ·rename_i hil2
        simp only [jaa,qgm,hzd] at hrow;subst hrow;refine ⟨qhR hz Z,fun k v hv=>?_⟩;have hk:k < n:=by
         rw [<- hdl];rcases jbn k (qa Z z).length with h | h
         ·exact h
         ·rw [jat h] at hv; cases hv
        have hmul:(i + 1) * n <= (ct.den Z).i.toNat * n:=jbr _ (by omega);rw [jbk,Nat.one_mul] at hmul;rw [ja3,hzl];rw [qpo _ (by omega) _ _ (by omega),hdl];rw [show (0 + i * n + k) % n = k from by rw [jbh,jcz,Nat.mul_add_mod,jd9 hk]];exact hv
       ·cases hrow
     ·have hv:SV.den (Z.set s.nx u) (.one (.vslice s.nx (.lit 0) lt ct n)) = .slice (some ⟨w.heap.size,0,none⟩) (lt.den Z).i.toNat (ct.den Z).i.toNat:=by
       simp [SV.den,T.den,O0.den,O3.den,qg,hlt,hct,u]
      simp only [Ran,qr,hv];simp only [execOp,hop,hel,hec,Sem.run_bind,hrun,Result.andThen_ok,Sem.run_pure];rfl
    ·simp at h
   ·simp at h
  ·simp at h
 ·simp at h
theorem qbn (hs:Holds Z hF s a w) {dflt t:T} {x:Option Operand} (h:qbK s dflt x = some t) :
  match x with
  | none=>t = dflt
  | some y=>∃ k,a.eval y = .int k (t.den Z).i:=by
 cases x with
 | none=>simp only [qbK,jaa] at h; exact h.symm
 | some y =>
  simp only [qbK] at h;split at h
  ·rename_i k t' hx
   simp only [jaa] at h; subst h;exact ⟨k,by have:=hs.opd hx; simpa [SV.den,T.den,O1.den] using this⟩
  ·simp at h
theorem qkt (x y:T):((qgp x y).den Z).i = (x.den Z).i - (y.den Z).i:=by
 unfold qgp;split
 ·rename_i u v hu hv; rw [qaq hu,qaq hv]; simp [T.den,O0.den]
 ·rename_i v hu hv
  split
  ·rename_i h0; rw [qaq hv,h0]; simp [T.den,O0.den]
  ·rfl
 ·split
  ·rename_i h; rw [T.same_eq h]; simp [T.den,O0.den]
  ·rfl
theorem qjb (x y u v:T):((qd6 x y u v).den Z).i = if (x.den Z).i = (y.den Z).i then (u.den Z).i else (v.den Z).i:=by
 unfold qd6;split
 ·rename_i p q hp hq
  rw [qaq hp,qaq hq];simp only [T.den,O0.den];by_cases h:p = q <;> simp [h]
 ·split
  ·rename_i h; rw [T.same_eq h]; simp
  ·rfl
theorem qda (w:World) {isS:Bool} {len cap:Nat} {L H M:Option Value} {l h m:Int} (hL:match L with | none=>l = 0 | some v=>∃ k,v = .int k l) (hH:match H with | none=>h = len | some v=>∃ k,v = .int k h)
  (hM:match M with | none=>m = cap | some v=>∃ k,v = .int k m) (hHM:M = none∨H.isSome = true) (h0:0 <= l) (h1:l <= h) (h2:h <= m) (h3:m <= cap) :
  (Instr.sliceBounds isS len cap L H M).run P w = .ok (l.toNat,h.toNat,m.toNat) w:=by
 have e1:(h.toNat:Int) = h:=by omega
 have e2:(m.toNat:Int) = m:=by omega
 cases M with
 | none =>
  have hM:m = cap:=hM;subst hM;cases H with
  | none =>
   have hH:h = len:=hH;subst hH;cases L with
   | none=>have hL:l = 0:=hL; subst hL; simp [Instr.sliceBounds]
   | some v=>obtain ⟨k,rfl⟩:=hL; simp [Instr.sliceBounds,Instr.sliceBound,asIntOf,h0,h1]
  | some vh =>
   obtain ⟨kh,rfl⟩:=hH;have hh0:0 <= h:=by omega
   cases L with
   | none=>have hL:l = 0:=hL; subst hL; simp [Instr.sliceBounds,Instr.sliceBound,asIntOf,hh0,h2]
   | some v =>
    obtain ⟨k,rfl⟩:=hL;have:l <= max h 0:=by omega
    simp [Instr.sliceBounds,Instr.sliceBound,asIntOf,h0,hh0,h2,this]
 | some vm =>
  obtain ⟨km,rfl⟩:=hM;have hm0:0 <= m:=by omega
  cases H with
  | none=>simp at hHM
  | some vh =>
   obtain ⟨kh,rfl⟩:=hH;have hh0:0 <= h:=by omega
   have hmx:h <= max m 0:=by omega
   cases L with
   | none=>have hL:l = 0:=hL; subst hL; simp [Instr.sliceBounds,Instr.sliceBound,asIntOf,hm0,h3,hh0,hmx]
   | some v =>
    obtain ⟨k,rfl⟩:=hL;have:l <= max h 0:=by omega
    simp [Instr.sliceBounds,Instr.sliceBound,asIntOf,h0,hm0,h3,hh0,hmx,this]
theorem qvo {t:TypeId} {x:Operand} {lo hi mx:Option Operand} (hs:Holds Z hF s a w) (hop:o.op = .slice t x lo hi mx) (h:qq P s o = some r) (hn:∀ c ∈ r.needs,(c.den Z).b = true):qd P Z hF s a w o r:=by
 simp only [qq,hop] at h;split at h
 ·rename_i va hx
  have hev:=hs.opd hx;unfold qnQ at h;split at h
  ·rename_i el hu
   simp only [SV.den,T.den,O0.den] at hev;split at h
   ·rename_i n hsz hl hh' hm
    split at h
    ·rename_i hchk
     simp only [jaa] at h; subst h;refine qd.quiet hs ?_;have bl:=qbn hs hl;have bh:=qbn hs hh';have bm:=qbn hs hm;have hbounds:(Instr.sliceBounds true 0 0 (lo.map a.eval) (hi.map a.eval) (mx.map a.eval)).run P w = .ok ((0:Int).toNat,(0:Int).toNat,(0:Int).toNat) w:=by
      refine qda w (l:=0) (h:=0) (m:=0) ?_ ?_ ?_ ?_ (by omega) (by omega) (by omega) (by omega)
      ·cases lo with
       | none=>simp only [jbv]
       | some v=>exact bl
      ·cases hi with
       | none=>simp only [jbv]; rfl
       | some v=>exact bh
      ·cases mx with
       | none=>simp only [jbv]; rfl
       | some v=>exact bm
      ·cases hi <;> cases mx <;> simp_all
     simp only [SV.den,T.den,O0.den];simp only [execOp,hop,Instr.sliceAt,Sem.run_bind,qx hu,Result.andThen_ok,hev,Instr.slice,hbounds,qaT hsz,Sem.run_pure];simp
    ·simp at h
   ·simp at h
  ·rename_i el rg p off len cap hu
   simp only [SV.den,T.den,O3.den] at hev;split at h
   ·rename_i n l hh m hsz hl hh' hm
    split at h
    ·rename_i hchk
     simp only [jad] at hchk;have hnp:=Nat.eq_of_beq_eq_true hchk.1;subst hnp;simp only [jaa] at h; subst h;have n1:=qD (hn _ (jac ..));have n2:=qD (hn _ (jab _ (jac ..)));have n3:=qD (hn _ (jab _ (jab _ (jac ..))));have n4:=qD (hn _ (jab _ (jab _ (jab _ (jac ..)))));have n5:=qaZ (hn _ (jab _ (jab _ (jab _ (jab _ (jac ..))))));have n6:=qaZ (hn _ (jab _ (jab _ (jab _ (jab _ (jab _ (jac ..)))))));have n7:=qaZ (hn _ (jab _ (jab _ (jab _ (jab _ (jab _ (jab _ (jac ..))))))));refine qd.quiet hs ?_;have bl:=qbn hs hl;have bh:=qbn hs hh';have bm:=qbn hs hm
     -- the three bounds
     have hbounds:(Instr.sliceBounds true (len.den Z).i.toNat (cap.den Z).i.toNat (lo.map a.eval) (hi.map a.eval) (mx.map a.eval)).run P w = .ok ((l.den Z).i.toNat,(hh.den Z).i.toNat,(m.den Z).i.toNat) w:=by
      refine qda w ?_ ?_ ?_ ?_ n4 n5 n6 (by omega)
      ·cases lo with
       | none=>simp only [jbv]; rw [bl]; simp [T.den,O0.den]
       | some v=>exact bl
      ·cases hi with
       | none=>simp only [jbv]; rw [bh]; omega
       | some v=>exact bh
      ·cases mx with
       | none=>simp only [jbv]; rw [bm]; omega
       | some v=>exact bm
      ·have:=hchk.2
       cases hi <;> cases mx <;> simp_all
     have hoff:((qpR l m off).den Z).i = if (m.den Z).i = (l.den Z).i then (off.den Z).i else (off.den Z).i + (l.den Z).i:=by
      unfold qpR;split
      ·rename_i hz
       have:(l.den Z).i = 0:=by rw [qaq hz]; simp [T.den,O0.den]
       rw [this]; simp
      ·rw [qjb,qaX]
     simp only [SV.den,T.den,O3.den,hoff,qkt];simp only [execOp,hop,Instr.sliceAt,Sem.run_bind,qx hu,Result.andThen_ok,hev,Instr.slice,hbounds,qaT hsz,Sem.run_pure];have e1:(hh.den Z).i.toNat - (l.den Z).i.toNat = ((hh.den Z).i - (l.den Z).i).toNat:=by omega
     have e2:(m.den Z).i.toNat - (l.den Z).i.toNat = ((m.den Z).i - (l.den Z).i).toNat:=by omega
     rw [e1,e2]
     congr 3
     by_cases hml:(m.den Z).i = (l.den Z).i
     ·rw [jah (by rw [hml]),jah hml]
     ·rw [jaf (by omega),jaf hml]
      cases hr:(Z rg).r with
      | none=>rfl
      | some bo =>
       have:((off.den Z).i + (l.den Z).i).toNat * n = (off.den Z).i.toNat * n + (l.den Z).i.toNat * n:=by
        rw [<- jbk]; congr 1; omega
       obtain ⟨a',ha'⟩:=qct (r:=some bo) rfl ((off.den Z).i.toNat * n);rw [this,qd5 _ ha',ha',ja5]
    ·simp at h
   ·simp at h
  ·rename_i n el rg p c e hu
   split at h
   ·rename_i l hh m hsz he hl hh' hm
    split at h
    ·rename_i hchk
     simp only [jaa] at h; subst h;have n1:=qD (hn _ (jac ..));have n2:=qaZ (hn _ (jab _ (jac ..)));have n3:=qaZ (hn _ (jab _ (jab _ (jac ..))));have n4:=qaZ (hn _ (jab _ (jab _ (jab _ (jac ..)))));have ht:=qcR hs (fun c' hc'=>hn c' (jby _ hc'));have n4:(m.den Z).i <= (n:Int):=n4;have bl:=qbn hs hl;have bh:=qbn hs hh';have bm:=qbn hs hm;have hbounds:(Instr.sliceBounds false n n (lo.map a.eval) (hi.map a.eval) (mx.map a.eval)).run P w = .ok ((l.den Z).i.toNat,(hh.den Z).i.toNat,(m.den Z).i.toNat) w:=by
      refine qda w ?_ ?_ ?_ ?_ n1 n2 n3 n4
      ·cases lo with
       | none=>simp only [jbv]; rw [bl]; simp [T.den,O0.den]
       | some v=>exact bl
      ·cases hi with
       | none=>simp only [jbv]; rw [bh]; simp [T.den,O0.den]
       | some v=>exact bh
      ·cases mx with
       | none=>simp only [jbv]; rw [bm]; simp [T.den,O0.den]
       | some v=>exact bm
      ·cases hi <;> cases mx <;> simp_all
     refine qd.quiet hs ?_;have he0:(e.den Z).i = 0:=qck he;simp only [SV.den,T.den,O1.den,he0] at hev;obtain ⟨ad,hb⟩:=qct ht ((0:Int).toNat * p + c);rw [hb] at hev;have hb':qg (Z rg).r c = some ad:=by simpa using hb
     have hoff:((qnF l m c).den Z).i = if (m.den Z).i = (l.den Z).i then (c:Int) else (c:Int) + (l.den Z).i:=by
      unfold qnF;split
      ·rename_i hz
       have:(l.den Z).i = 0:=qck hz;rw [this]; simp [T.den,O0.den]
      ·rw [qjb]; simp [T.den,O0.den,O2.den]
     simp only [SV.den,T.den,O3.den,hoff,qkt];simp only [execOp,hop,Instr.sliceAt,Sem.run_bind,qx hu,Result.andThen_ok,hev,Instr.sureAddr,Sem.run_pure];rw [hbounds];simp only [Result.andThen_ok,qaT hsz,Sem.run_pure];have e1:(hh.den Z).i.toNat - (l.den Z).i.toNat = ((hh.den Z).i - (l.den Z).i).toNat:=by omega
     have e2:(m.den Z).i.toNat - (l.den Z).i.toNat = ((m.den Z).i - (l.den Z).i).toNat:=by omega
     rw [e1,e2]
     congr 3
     by_cases hml:(m.den Z).i = (l.den Z).i
     ·rw [jah (by rw [hml]),jah hml]
      simp [hb']
     ·rw [jaf (by omega),jaf hml]
      rw [show ((c:Int) + (l.den Z).i).toNat * 1 = c + (l.den Z).i.toNat * 1 by omega,qd5 _ hb']
    ·simp at h
   ·simp at h
  ·rename_i u hu
   split at h
   ·rename_i hchk
    simp only [jad] at hchk;obtain ⟨su,hsu⟩:=qcc (Z:=Z) hchk.1;have hmx:mx = none:=by simpa using hchk.2
    subst hmx;split at h
    ·rename_i l hh hl hh'
     simp only [jaa] at h; subst h;have n1:=qD (hn _ (jac ..));have n2:=qaZ (hn _ (jab _ (jac ..)));have n3:=qaZ (hn _ (jab _ (jab _ (jac ..))));simp only [SV.den,hsu] at hev;have bl:=qbn hs hl;have bh:=qbn hs hh';have hsz:((qbH u).den Z).i = (su.size:Int):=by
      rw [qd9,hsu]; simp [qbd,qen]
     rw [hsz] at n3;have hbounds:(Instr.sliceBounds false su.size su.size (lo.map a.eval) (hi.map a.eval) none).run P w = .ok ((l.den Z).i.toNat,(hh.den Z).i.toNat,(su.size:Int).toNat) w:=by
      refine qda w ?_ ?_ ?_ (.inl rfl) n1 n2 n3 (by omega)
      ·cases lo with
       | none=>simp only [jbv]; rw [bl]; simp [T.den,O0.den]
       | some v=>exact bl
      ·cases hi with
       | none=>simp only [jbv]; rw [bh,hsz]
       | some v=>exact bh
      ·rfl
     refine qd.quiet hs ?_;simp only [SV.den,T.den,O3.den,hsu];have he:su.extract (l.den Z).i.toNat (hh.den Z).i.toNat = ⟨(((qbd (.string su)).drop (l.den Z).i.toNat).take ((hh.den Z).i.toNat - (l.den Z).i.toNat)).toArray⟩:=by
      apply ByteArray.ext;apply jb3;simp [qbd,qen,ByteArray.data_extract,jdj]
     simp only [execOp,hop,Instr.sliceAt,Sem.run_bind,qx hu,Result.andThen_ok,hev,Instr.slice,jbv,Option.isSome_none,jal,jaw,Sem.run_pure];rw [hbounds];simp only [Result.andThen_ok,he]
    ·simp at h
   ·simp at h
  ·simp at h
 ·simp at h
end Go.Eng
