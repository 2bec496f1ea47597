/- Texts E5, E6, E7, E8, E8b. -/
import Derived.Test.YtlmkkphojjodhaaG1
import Derived.Great.BuildSlice
set_option linter.unusedSimpArgs false
set_option linter.unusedVariables false
set_option linter.unusedSectionVars false
namespace Go.Eng
open Go
theorem Hp.disj.symm {a b:Hp} (h:Hp.disj a b):Hp.disj b a:=fun x=>(h x).symm
theorem Hp.union_comm {a b:Hp} (h:Hp.disj a b):Hp.union a b = Hp.union b a:=by
 funext x; unfold Hp.union; rcases h x with h | h <;> rw [h] <;> simp
theorem Hp.union_assoc (a b c:Hp):Hp.union (Hp.union a b) c = Hp.union a (Hp.union b c):=by
 funext x; simp [Hp.union,Option.or_assoc]
theorem Hp.disj_union {a b c:Hp}:Hp.disj a (Hp.union b c)↔Hp.disj a b/\Hp.disj a c:=by
 constructor
 ·intro h
  refine ⟨fun x=>?_,fun x=>?_⟩
  ·rcases h x with h | h
   ·exact .inl h
   ·simp only [Hp.union,jb3] at h; exact .inr h.1
  ·rcases h x with h | h
   ·exact .inl h
   ·simp only [Hp.union,jb3] at h; exact .inr h.2
 ·rintro ⟨h1,h2⟩ x
  rcases h1 x with h | h
  ·exact .inl h
  ·rcases h2 x with h' | h'
   ·exact .inl h'
   ·exact .inr (by simp [Hp.union,h,h'])
theorem Hp.disj_union' {a b c:Hp}:Hp.disj (Hp.union b c) a↔Hp.disj b a/\Hp.disj c a:=by
 rw [show Hp.disj (Hp.union b c) a↔Hp.disj a (Hp.union b c) from ⟨Hp.disj.symm,Hp.disj.symm⟩,Hp.disj_union];exact ⟨fun h=>⟨h.1.symm,h.2.symm⟩,fun h=>⟨h.1.symm,h.2.symm⟩⟩
theorem Hp.union_emp (a:Hp):Hp.union a Hp.emp = a:=by funext x; simp [Hp.union,Hp.emp]
theorem Hp.emp_union (a:Hp):Hp.union Hp.emp a = a:=by funext x; simp [Hp.union,Hp.emp]
theorem Hp.disj_emp (a:Hp):Hp.disj a Hp.emp:=fun _=>.inr rfl
theorem Hp.emp_disj (a:Hp):Hp.disj Hp.emp a:=fun _=>.inl rfl
theorem Hp.le_refl (a:Hp):Hp.le a a:=fun _ _ h=>h
theorem Hp.le_trans {a b c:Hp} (h:Hp.le a b) (h':Hp.le b c):Hp.le a c:=fun x o hx=>h' x o (h x o hx)
theorem Hp.le_left (a b:Hp):Hp.le a (Hp.union a b):=fun x o h=>by simp [Hp.union,h]
theorem Hp.le_right {a b:Hp} (hd:Hp.disj a b):Hp.le b (Hp.union a b):=fun x o h=>by
 rcases hd x with h' | h'
 ·simp [Hp.union,h',h]
 ·rw [h'] at h; cases h
theorem Hp.sub_le {a b:Hp} {w:World} (h:b.sub w) (hl:Hp.le a b):a.sub w:=fun x o hx=>h x o (hl x o hx)
theorem qaz {Z:Env}:∀ {l:List SH} {k:Nat} {x:SH} {h:Hp},qD Z l h->l[k]? = some x ->
  ∃ h1 h2,Hp.disj h1 h2/\h = Hp.union h1 h2/\x.den Z h1/\qD Z (l.eraseIdx k) h2
 | [],k,x,h,_,hx=>by simp at hx
 | y :: ys,0,x,h,⟨h1,h2,hd,hu,hy,hs⟩,hx=>by
  simp only [ja7,jaa] at hx;subst hx;exact ⟨h1,h2,hd,hu,hy,by simpa using hs⟩
 | y :: ys,k + 1,x,h,⟨h1,h2,hd,hu,hy,hs⟩,hx=>by
  simp only [ja1] at hx;obtain ⟨g1,g2,gd,gu,gx,gs⟩:=qaz hs hx;subst hu; subst gu;rw [Hp.disj_union] at hd;refine ⟨g1,Hp.union h1 g2,Hp.disj_union.2 ⟨hd.1.symm,gd⟩,?_,gx,?_⟩
  ·rw [<- Hp.union_assoc,<- Hp.union_assoc,Hp.union_comm hd.1]
  ·simp only [List.eraseIdx_cons_succ]
   exact ⟨h1,g2,hd.2,rfl,hy,gs⟩
theorem qcO {Z:Env}:∀ {l:List SH} {k:Nat} {x x':SH} {g1 g2:Hp},l[k]? = some x->qD Z (l.eraseIdx k) g2->Hp.disj g1 g2->x'.den Z g1 ->
  qD Z (l.set k x') (Hp.union g1 g2)
 | [],k,x,x',g1,g2,hx,_,_,_=>by simp at hx
 | y :: ys,0,x,x',g1,g2,hx,hs,hd,hx'=>by
  simp only [List.set_cons_zero];exact ⟨g1,g2,hd,rfl,hx',by simpa using hs⟩
 | y :: ys,k + 1,x,x',g1,g2,hx,hs,hd,hx'=>by
  simp only [ja1] at hx;simp only [List.eraseIdx_cons_succ] at hs;obtain ⟨h1,h2,hd',hu,hy,hs'⟩:=hs;subst hu;rw [Hp.disj_union] at hd;simp only [List.set_cons_succ];refine ⟨h1,Hp.union g1 h2,Hp.disj_union.2 ⟨hd.1.symm,hd'⟩,?_,hy,qcO hx hs' hd.2 hx'⟩;rw [<- Hp.union_assoc,<- Hp.union_assoc,Hp.union_comm hd.1]
theorem qdT {Z:Env}:∀ {l l':List SH} {g1 g2:Hp},qD Z l g1->qD Z l' g2->Hp.disj g1 g2->qD Z (l ++ l') (Hp.union g1 g2)
 | [],l',g1,g2,_,h2,hd=>by
  simp only [jco];cases l' with
  | nil=>trivial
  | cons y ys =>
   obtain ⟨a,b,hd',hu,hy,hs⟩:=h2;subst hu;rw [Hp.disj_union] at hd;refine ⟨a,Hp.union g1 b,Hp.disj_union.2 ⟨hd.1.symm,hd'⟩,?_,hy,?_⟩
   ·rw [<- Hp.union_assoc,<- Hp.union_assoc,Hp.union_comm hd.1]
   ·exact star_weaken hs (Hp.le_right hd.2)
 | x :: xs,l',g1,g2,⟨a,b,hd',hu,hx,hs⟩,h2,hd=>by
  subst hu;rw [Hp.disj_union'] at hd;exact ⟨a,Hp.union b g2,Hp.disj_union.2 ⟨hd',hd.1⟩,Hp.union_assoc _ _ _,hx,qdT hs h2 hd.2⟩
where
 star_weaken {Z:Env}:∀ {l:List SH} {h h':Hp},qD Z l h->Hp.le h h'->qD Z l h'
 | [],_,_,_,_=>trivial
 | x :: xs,h,h',⟨a,b,hd,hu,hx,hs⟩,hl=>by
  subst hu;refine ⟨a,fun y=>if (a y).isSome then none else h' y,fun y=>?_,?_,hx,star_weaken hs fun y o hy=>?_⟩
  ·cases ha:a y <;> simp [ha]
  ·funext y
   cases ha:a y with
   | none=>simp [Hp.union,ha]
   | some o=>simp [Hp.union,ha]; exact hl y o (by simp [Hp.union,ha])
  ·rcases hd y with h0 | h0
   ·simp only [h0,Option.isSome_none,jan,ja3]; exact hl y o (by simp [Hp.union,h0,hy])
   ·rw [h0] at hy; cases hy
theorem star_weaken {Z:Env} {l:List SH} {h h':Hp} (hs:qD Z l h) (hl:Hp.le h h'):qD Z l h':=qdT.star_weaken hs hl
theorem SH.den_ro {Z:Env} {x:SH} {h H:Hp} (hx:x.den Z h) (hl:Hp.le h H):x.roden Z H:=by
 cases x with
 | cells r ty cs =>
  obtain ⟨b,hb,ho⟩:=hx;exact ⟨b,0,_,ty,(0,0),hb,hl _ _ ho,fun k v hv=>by simpa using hv⟩
 | arr r ty pat d cap =>
  rcases hx with ⟨_,h2,_⟩ | ⟨b,c,h1,h2,_,_,h5⟩
  ·exact .inl h2
  ·exact .inr ⟨b,0,c,ty,(0,0),h1,hl _ _ h2,h5⟩
 | abs n t=>exact Hp.le_trans hx.1 hl
theorem SH.ro_mono {Z:Env} {x:SH} {h H:Hp} (hx:x.roden Z h) (hl:Hp.le h H):x.roden Z H:=by
 cases x with
 | cells r ty cs =>
  obtain ⟨b,o,c,ty',fr,hb,ho,hc⟩:=hx;exact ⟨b,o,c,ty',fr,hb,hl _ _ ho,hc⟩
 | arr r ty pat d cap =>
  rcases hx with h2 | ⟨b,o,c,ty',fr,h1,h2,h5⟩
  ·exact .inl h2
  ·exact .inr ⟨b,o,c,ty',fr,h1,hl _ _ h2,h5⟩
 | abs n t=>exact Hp.le_trans hx hl
theorem qZ {r:Nat}:∀ {l:List SH} {k:Nat} {x:SH},qa4 r l = some (k,x)->l[k]? = some x/\x.reg = some r
 | [],k,x,h=>by simp [qa4] at h
 | .cells r' ty cs :: l,k,x,h=>by
  simp only [qa4] at h;split at h
  ·rename_i hr
   simp only [jaa,jam] at h;obtain ⟨rfl,rfl⟩:=h;have:=Nat.eq_of_beq_eq_true hr;simp [SH.reg,this]
  ·simp only [jah,jam,jc4] at h
   obtain ⟨k',x',h',rfl,rfl⟩:=h;have:=qZ h';simpa using this
 | .arr r' ty pat d cap :: l,k,x,h=>by
  simp only [qa4] at h;split at h
  ·rename_i hr
   simp only [jaa,jam] at h;obtain ⟨rfl,rfl⟩:=h;have:=Nat.eq_of_beq_eq_true hr;simp [SH.reg,this]
  ·simp only [jah,jam,jc4] at h
   obtain ⟨k',x',h',rfl,rfl⟩:=h;have:=qZ h';simpa using this
 | .abs n t :: l,k,x,h=>by
  simp only [qa4] at h;simp only [jah,jam,jc4] at h;obtain ⟨k',x',h',rfl,rfl⟩:=h;have:=qZ h';simpa using this
structure Ext (Y Y':Sg):Prop where
 th:Y'.th = Y.th
 bd:∀ n b,look n Y.bd = some b->look n Y'.bd = some b
 eqI:∀ x ∈ Y.eqI,x ∈ Y'.eqI
 eqB:∀ x ∈ Y.eqB,x ∈ Y'.eqB
 eqD:∀ x ∈ Y.eqD,x ∈ Y'.eqD
theorem Ext.refl (Y:Sg):Ext Y Y:=⟨rfl,fun _ _ h=>h,fun _ h=>h,fun _ h=>h,fun _ h=>h⟩
theorem Ext.trans {a b c:Sg} (h:Ext a b) (h':Ext b c):Ext a c :=
 ⟨h'.th.trans h.th,fun n x hx=>h'.bd n x (h.bd n x hx),fun x hx=>h'.eqI x (h.eqI x hx),fun x hx=>h'.eqB x (h.eqB x hx),fun x hx=>h'.eqD x (h.eqD x hx)⟩
structure Sat (Y:Sg) (Z:Env):Prop where
 eqI:∀ p a,(p,a) ∈ Y.eqI->(p.den (Y.env Z)).i = (a.den Z).i
 eqB:∀ p a,(p,a) ∈ Y.eqB->(p.den (Y.env Z)).b = (a.den Z).b
 eqD:∀ p a,(p,a) ∈ Y.eqD->(p.den (Y.env Z)).d = (a.den Z).d
theorem Ext.bind {Y:Sg} {n:Nat} {b:Bd} (h:look n Y.bd = none):Ext Y (Y.bind n b) :=
 ⟨rfl,fun m x hx=>by
  simp only [Sg.bind,look];split
  ·rename_i hm; rw [Nat.eq_of_beq_eq_true hm,h] at hx; cases hx
  ·exact hx,fun _ h=>h,fun _ h=>h,fun _ h=>h⟩
theorem qd3 (Y:Sg) (n:Nat) (b:Bd):look n (Y.bind n b).bd = some b:=by simp [Sg.bind,look]
variable {Z:Env}
theorem qbr (p a:T) (Y:Sg):Ext Y (mI p a Y)/\∀ Yf,Ext (mI p a Y) Yf->Sat Yf Z->(p.den (Yf.env Z)).i = (a.den Z).i:=by
 have other:Ext Y { Y with eqI:=(p,a) :: Y.eqI }/\∀ Yf,Ext { Y with eqI:=(p,a) :: Y.eqI } Yf->Sat Yf Z->(p.den (Yf.env Z)).i = (a.den Z).i :=
  ⟨⟨rfl,fun _ _ h=>h,fun x h=>jab _ h,fun _ h=>h,fun _ h=>h⟩,fun Yf he hs=>hs.eqI p a (he.eqI _ (jac ..))⟩
 unfold mI;split
 ·rename_i n
  split
  ·rename_i hc
   simp only [jad,jay,jce] at hc;refine ⟨Ext.bind hc.2,fun Yf he _=>?_⟩;have hn:¬ n < Yf.th:=by rw [he.th]; intro h; rw [show (Y.bind n (.t a)).th = Y.th from rfl] at h; rw [qbs h] at hc; simp at hc
   simp only [T.den,Sg.env_look hn (he.bd _ _ (qd3 Y n (.t a))),Bd.den]
  ·exact other
 ·exact other
theorem qx9 (p a:T) (Y:Sg):Ext Y (mB p a Y)/\∀ Yf,Ext (mB p a Y) Yf->Sat Yf Z->(p.den (Yf.env Z)).b = (a.den Z).b:=by
 have other:Ext Y { Y with eqB:=(p,a) :: Y.eqB }/\∀ Yf,Ext { Y with eqB:=(p,a) :: Y.eqB } Yf->Sat Yf Z->(p.den (Yf.env Z)).b = (a.den Z).b :=
  ⟨⟨rfl,fun _ _ h=>h,fun _ h=>h,fun x h=>jab _ h,fun _ h=>h⟩,fun Yf he hs=>hs.eqB p a (he.eqB _ (jac ..))⟩
 unfold mB;split
 ·rename_i n
  split
  ·rename_i hc
   simp only [jad,jay,jce] at hc;refine ⟨Ext.bind hc.2,fun Yf he _=>?_⟩;have hn:¬ n < Yf.th:=by rw [he.th]; intro h; rw [show (Y.bind n (.t a)).th = Y.th from rfl] at h; rw [qbs h] at hc; simp at hc
   simp only [T.den,Sg.env_look hn (he.bd _ _ (qd3 Y n (.t a))),Bd.den]
  ·exact other
 ·exact other
theorem qdq {p a:Nat} {Y Y':Sg} (h:mR p a Y = some Y'):Ext Y Y'/\∀ Yf,Ext Y' Yf->Yf.env Z p = Z a:=by
 unfold mR at h;by_cases hp:p < Y.th
 ·rw [qbs hp] at h
  simp only [ja5] at h;split at h
  ·rename_i he
   simp only [jaa] at h; subst h;have:=Nat.eq_of_beq_eq_true he;exact ⟨Ext.refl _,fun Yf hx=>by rw [Sg.env_lt (by rw [hx.th]; exact hp),this]⟩
  ·simp at h
 ·rw [qdv hp] at h
  simp only [jan,ja3] at h;split at h
  ·rename_i hl
   simp only [jaa] at h; subst h;exact ⟨Ext.bind hl,fun Yf hx=>by rw [Sg.env_look (by rw [hx.th]; exact hp) (hx.bd _ _ (qd3 _ _ _))]; rfl⟩
  ·rename_i a' hl
   split at h
   ·rename_i he
    simp only [jaa] at h; subst h;have:=Nat.eq_of_beq_eq_true he;exact ⟨Ext.refl _,fun Yf hx=>by rw [Sg.env_look (by rw [hx.th]; exact hp) (hx.bd _ _ hl),this]; rfl⟩
   ·simp at h
  ·simp at h
theorem qna {p:Nat} {Y Y':Sg} (h:qtH p Y = some Y'):Ext Y Y'/\∀ Yf,Ext Y' Yf->(Yf.env Z p).r = none:=by
 unfold qtH at h;by_cases hp:p < Y.th
 ·rw [qbs hp] at h; simp at h
 ·rw [qdv hp] at h
  simp only [jan,ja3] at h;split at h
  ·rename_i hl
   simp only [jaa] at h; subst h;exact ⟨Ext.bind hl,fun Yf hx=>by rw [Sg.env_look (by rw [hx.th]; exact hp) (hx.bd _ _ (qd3 _ _ _))]; rfl⟩
  ·rename_i hl
   simp only [jaa] at h; subst h;exact ⟨Ext.refl _,fun Yf hx=>by rw [Sg.env_look (by rw [hx.th]; exact hp) (hx.bd _ _ hl)]; rfl⟩
  ·simp at h
theorem qco {t:T} (h:qdS t = true):∃ s:ByteArray,(t.den Z).v = .string s:=by
 unfold qdS at h;split at h
 ·exact ⟨_,rfl⟩
 ·exact ⟨_,rfl⟩
 ·exact ⟨_,rfl⟩
 ·exact ⟨_,rfl⟩
 ·exact ⟨_,rfl⟩
 ·cases h
theorem qjk:∀ {r:T} {ts:List T},qbf r = some ts->(r.den Z).d = [qa Z ts]
 | .c0 o,ts,h=>by
  cases o <;> simp only [qbf] at h
  case rnil=>simp only [jaa] at h; subst h; simp [T.den,O0.den,qa]
  all_goals cases h
 | .c1 o x,n,h=>by simp [qbf] at h
 | .c2 o x y,n,h=>by
  cases o <;> simp only [qbf] at h
  case rcons =>
   split at h
   ·rename_i ts h1
    simp only [jaa] at h; subst h;simp [T.den,O2.den,qjk h1,qa]
   ·cases h
  all_goals cases h
 | .c3 o x y z,n,h=>by simp [qbf] at h
 | .var m,n,h=>by simp [qbf] at h
 | .ife x y u v,n,h=>by simp [qbf] at h
theorem qrj {x y:T} {Y:Sg} (h:qpP x y Y = true):∀ Yf,Ext Y Yf->(x.den (Yf.env Z)).i = (y.den Z).i:=by
 intro Yf he;unfold qpP at h;split at h
 ·rename_i c n
  split at h
  ·cases h
  ·rename_i hn
   split at h
   ·rename_i d hl
    split at h
    ·rename_i ts hr
     split at h
     ·rename_i k y' hc
      have hlk:=he.bd _ _ hl;have hn':¬ n < Yf.th:=by rw [he.th]; intro h'; rw [qbs h'] at hn; exact hn rfl
      simp only [T.den,O0.den,O2.den,qnb,Sg.env_look hn' hlk,Bd.den,qjk hr,jb5];rw [<- T.same_eq h];simp [qa,hc,T.den,O1.den,qbK]
     ·cases h
    ·cases h
   ·cases h
 ·cases h
theorem qlr {p a:T} {Y Y':Sg} (h:mV p a Y = some Y'):Ext Y Y'/\∀ Yf,Ext Y' Yf->Sat Yf Z->(p.den (Yf.env Z)).v = (a.den Z).v:=by
 unfold mV at h;split at h
 ·rename_i k x k' y
  split at h
  ·rename_i hk
   subst hk;split at h
   ·rename_i hx
    simp only [jaa] at h; subst h;exact ⟨Ext.refl _,fun Yf he hs=>by simp only [T.den,O1.den]; rw [qrj hx Yf he]⟩
   ·simp only [jaa] at h; subst h
    have:=qbr (Z:=Z) x y Y;exact ⟨this.1,fun Yf he hs=>by simp only [T.den,O1.den]; rw [this.2 Yf he hs]⟩
  ·simp at h
 ·rename_i x y
  simp only [jaa] at h; subst h;have:=qx9 (Z:=Z) x y Y;exact ⟨this.1,fun Yf he hs=>by simp only [T.den,O1.den]; rw [this.2 Yf he hs]⟩
 ·rename_i r p c e r' p' c' e'
  split at h
  ·rename_i hpc
   obtain ⟨rfl,rfl⟩:=hpc;simp only [jah] at h;obtain ⟨Y1,h1,rfl⟩:=h;have g1:=qdq (Z:=Z) h1;have g2:=qbr (Z:=Z) e e' Y1;exact ⟨g1.1.trans g2.1,fun Yf he hs=>by simp only [T.den,O1.den]; rw [g2.2 Yf he hs,g1.2 Yf (g2.1.trans he)]⟩
  ·split at h
   ·rename_i hpc
    obtain ⟨rfl,h1,h2⟩:=hpc;have g1:=qdq (Z:=Z) h;refine ⟨g1.1,fun Yf he hs=>?_⟩;have k1:∀ {t:T},t.isLit = some 0->t = .lit 0:=fun {t} h=>by
     unfold T.isLit at h; split at h <;> simp_all
    rw [k1 h1,k1 h2];simp only [T.den,O1.den,O0.den];rw [g1.2 Yf he]; simp
   ·simp at h
 ·rename_i r p o l c r' p' o' l' c'
  split at h
  ·rename_i hp
   subst hp;simp only [jah] at h;obtain ⟨Y1,h1,rfl⟩:=h;have g1:=qdq (Z:=Z) h1;have g2:=qbr (Z:=Z) o o' Y1;have g3:=qbr (Z:=Z) l l' (mI o o' Y1);have g4:=qbr (Z:=Z) c c' (mI l l' (mI o o' Y1));exact ⟨((g1.1.trans g2.1).trans g3.1).trans g4.1,fun Yf he hs=>by
    simp only [T.den,O3.den];rw [g2.2 Yf ((g3.1.trans g4.1).trans he) hs,g3.2 Yf (g4.1.trans he) hs,g4.2 Yf he hs,g1.2 Yf (((g2.1.trans g3.1).trans g4.1).trans he)]⟩
  ·simp at h
 ·rename_i r p o l c
  simp only [jah] at h;obtain ⟨Y1,h1,rfl⟩:=h;have g1:=qna (Z:=Z) h1;have g2:=qbr (Z:=Z) o (.lit 0) Y1;have g3:=qbr (Z:=Z) l (.lit 0) (mI o (.lit 0) Y1);have g4:=qbr (Z:=Z) c (.lit 0) (mI l (.lit 0) (mI o (.lit 0) Y1));exact ⟨((g1.1.trans g2.1).trans g3.1).trans g4.1,fun Yf he hs=>by
   simp only [T.den,O3.den,O0.den];rw [g3.2 Yf (g4.1.trans he) hs,g4.2 Yf he hs,g1.2 Yf (((g2.1.trans g3.1).trans g4.1).trans he)];simp [T.den,O0.den,qj]⟩
 ·rename_i r p c e
  simp only [jah] at h;obtain ⟨Y1,h1,rfl⟩:=h;have g1:=qna (Z:=Z) h1;have g2:=qbr (Z:=Z) e (.lit 0) Y1;exact ⟨g1.1.trans g2.1,fun Yf he hs=>by
   simp only [T.den,O1.den,O0.den];rw [g1.2 Yf (g2.1.trans he)];simp [qj]⟩
 ·simp only [jaa] at h; subst h; exact ⟨Ext.refl _,fun _ _ _=>rfl⟩
 ·simp only [jaa] at h; subst h; exact ⟨Ext.refl _,fun _ _ _=>rfl⟩
 ·simp only [jaa] at h; subst h; exact ⟨Ext.refl _,fun _ _ _=>rfl⟩
 ·rename_i n
  split at h
  ·rename_i hst
   obtain ⟨sa,hsa⟩:=qco (Z:=Z) hst;split at h
   ·rename_i hc
    simp only [jad,jay,jce] at hc;simp only [jaa] at h; subst h;refine ⟨Ext.bind hc.2,fun Yf he _=>?_⟩;have hn:¬ n < Yf.th:=by rw [he.th]; intro h; rw [show (Y.bind n (.t a)).th = Y.th from rfl] at h; rw [qbs h] at hc; simp at hc
    simp only [T.den,O1.den,Sg.env_look hn (he.bd _ _ (qd3 Y n (.t a))),Bd.den,hsa,qpR]
   ·split at h
    ·rename_i hc
     simp only [jad,ja6] at hc;simp only [jaa] at h; subst h;refine ⟨Ext.refl _,fun Yf he _=>?_⟩;rw [<- T.same_eq hc.2];simp only [T.den,O1.den,Sg.env_lt (show n < Yf.th by rw [he.th]; exact hc.1)]
    ·simp at h
  ·simp at h
 ·rename_i n
  split at h
  ·rename_i hc
   simp only [jad,jay,jce] at hc;simp only [jaa] at h; subst h;refine ⟨Ext.bind hc.2,fun Yf he _=>?_⟩;have hn:¬ n < Yf.th:=by rw [he.th]; intro h; rw [show (Y.bind n (.t a)).th = Y.th from rfl] at h; rw [qbs h] at hc; simp at hc
   simp only [T.den,Sg.env_look hn (he.bd _ _ (qd3 Y n (.t a))),Bd.den]
  ·split at h
   ·rename_i hc
    simp only [jad,ja6] at hc;simp only [jaa] at h; subst h;refine ⟨Ext.refl _,fun Yf he _=>?_⟩;rw [<- T.same_eq hc.2];simp only [T.den,Sg.env_lt (show n < Yf.th by rw [he.th]; exact hc.1)]
   ·simp at h
 ·simp at h
theorem qoe:∀ {p a:T} {Y Y':Sg},mRw p a Y = some Y'->Ext Y Y'/\∀ Yf,Ext Y' Yf->Sat Yf Z->(p.den (Yf.env Z)).d = (a.den Z).d:=by
 intro p
 induction p with
 | c2 o v r _ ih =>
  intro a Y Y' h;cases a with
  | c2 o' v' r' =>
   cases o <;> cases o' <;> simp only [mRw] at h <;> try (cases h; done)
   simp only [jaj] at h;obtain ⟨Y1,h1,h2⟩:=h;have g1:=qlr (Z:=Z) h1;have g2:=ih h2;exact ⟨g1.1.trans g2.1,fun Yf he hs=>by simp only [T.den,O2.den]; rw [g1.2 Yf (g2.1.trans he) hs,g2.2 Yf he hs]⟩
  | _=>cases o <;> simp [mRw] at h
 | c0 o =>
  intro a Y Y' h;cases a with
  | c0 o' =>
   cases o <;> cases o' <;> simp only [mRw] at h <;> try (cases h; done)
   simp only [jaa] at h; subst h;exact ⟨Ext.refl _,fun _ _ _=>rfl⟩
  | _=>cases o <;> simp [mRw] at h
 | _=>intro a Y Y' h; cases a <;> simp [mRw] at h
theorem qgt:∀ (p a:T) (Y:Sg),Ext Y (mD p a Y)/\∀ Yf,Ext (mD p a Y) Yf->Sat Yf Z->(p.den (Yf.env Z)).d = (a.den Z).d:=by
 have other:∀ (p a:T) (Y:Sg),Ext Y { Y with eqD:=(p,a) :: Y.eqD }/\∀ Yf,Ext { Y with eqD:=(p,a) :: Y.eqD } Yf->Sat Yf Z->(p.den (Yf.env Z)).d = (a.den Z).d:=fun p a Y =>
  ⟨⟨rfl,fun _ _ h=>h,fun _ h=>h,fun _ h=>h,fun x h=>jab _ h⟩,fun Yf he hs=>hs.eqD p a (he.eqD _ (jac ..))⟩
 intro p a Y
 fun_induction mD p a Y with
 | case1 n a Y hc =>
  simp only [jad,jay,jce] at hc;refine ⟨Ext.bind hc.2,fun Yf he _=>?_⟩;have hn:¬ n < Yf.th:=by rw [he.th]; intro h; rw [show (Y.bind n (.t a)).th = Y.th from rfl] at h; rw [qbs h] at hc; simp at hc
  simp only [T.den,Sg.env_look hn (he.bd _ _ (qd3 Y n (.t a))),Bd.den]
 | case2=>exact other _ _ _
 | case3 d e r c d' e' r' Y Y1 hr ih =>
  have g1:=qoe (Z:=Z) hr;have g3:=qbr (Z:=Z) e e' (mD d d' Y1);exact ⟨(g1.1.trans ih.1).trans g3.1,fun Yf he hs=>by
   simp only [T.den,O3.den];rw [g1.2 Yf ((ih.1.trans g3.1).trans he) hs,ih.2 Yf (g3.1.trans he) hs,g3.2 Yf he hs]⟩
 | case4=>exact other _ _ _
 | case5=>exact other _ _ _
 | case6 x y x' y' Y ih1 ih2 =>
  exact ⟨ih1.1.trans ih2.1,fun Yf he hs=>by
   simp only [T.den,O2.den];rw [ih1.2 Yf (ih2.1.trans he) hs,ih2.2 Yf he hs]⟩
 | case7 v r a Y Y1 hr=>exact qoe (Z:=Z) hr
 | case8=>exact other _ _ _
 | case9=>exact other _ _ _
theorem qmg:∀ {ps avs:List T} {Y Y':Sg},qlI ps avs Y = some Y'->Ext Y Y'/\∀ Yf,Ext Y' Yf->Sat Yf Z->qa (Yf.env Z) ps = qa Z avs
 | [],[],Y,Y',h=>by simp only [qlI,jaa] at h; subst h; exact ⟨Ext.refl _,fun _ _ _=>rfl⟩
 | p :: ps,a :: avs,Y,Y',h=>by
  simp only [qlI,jaj] at h;obtain ⟨Y1,h1,h2⟩:=h;have g1:=qlr (Z:=Z) h1;have g2:=qmg h2;exact ⟨g1.1.trans g2.1,fun Yf he hs=>by
   have:=g2.2 Yf he hs;simp only [qa,jaq] at this ⊢;rw [this,g1.2 Yf (g2.1.trans he) hs]⟩
 | [],_ :: _,Y,Y',h=>by simp [qlI] at h
 | _ :: _,[],Y,Y',h=>by simp [qlI] at h
theorem qqm:∀ (ps avs:List T) (Y:Sg),Ext Y (qfe ps avs Y):=by
 intro ps avs Y
 fun_induction qfe ps avs Y with
 | case1 k c n ps a avs Y hc ih =>
  simp only [jad,jay,jce] at hc;exact (Ext.bind hc.2).trans ih
 | case2=>assumption
 | case3=>assumption
 | case4=>exact Ext.refl _
theorem qfE {ps avs:List T} {Y Y':Sg} (h:mVs ps avs Y = some Y'):Ext Y Y'/\∀ Yf,Ext Y' Yf->Sat Yf Z->qa (Yf.env Z) ps = qa Z avs:=by
 have g:=qmg (Z:=Z) h;exact ⟨(qqm ps avs Y).trans g.1,g.2⟩
theorem qm6:∀ {ps avs:List (Bool × List T)} {Y Y':Sg},mSV.mTup ps avs Y = some Y'->Ext Y Y'/\∀ Yf,Ext Y' Yf->Sat Yf Z->ps.map (qdM (Yf.env Z)) = avs.map (qdM Z)
 | [],[],Y,Y',h=>by simp only [mSV.mTup,jaa] at h; subst h; exact ⟨Ext.refl _,fun _ _ _=>rfl⟩
 | (g,p) :: ps,(g',a) :: avs,Y,Y',h=>by
  simp only [mSV.mTup] at h;split at h
  ·rename_i hg
   subst hg;simp only [jaj] at h;obtain ⟨Y1,h1,h2⟩:=h;have g1:=qfE (Z:=Z) h1;have g2:=qm6 h2;exact ⟨g1.1.trans g2.1,fun Yf he hs=>by
    simp only [jaq];rw [g2.2 Yf he hs];have:=g1.2 Yf (g2.1.trans he) hs;cases g <;> simp only [qdM] <;> rw [this]⟩
  ·simp at h
 | [],_ :: _,Y,Y',h=>by simp [mSV.mTup] at h
 | _ :: _,[],Y,Y',h=>by simp [mSV.mTup] at h
theorem qjF {p a:SV} {Y Y':Sg} (h:mSV p a Y = some Y'):Ext Y Y'/\∀ Yf,Ext Y' Yf->Sat Yf Z->p.den (Yf.env Z) = a.den Z:=by
 unfold mSV at h;split at h
 ·have g:=qlr (Z:=Z) h
  exact ⟨g.1,fun Yf he hs=>by simp only [SV.den]; rw [g.2 Yf he hs]⟩
 ·have g:=qfE (Z:=Z) h
  exact ⟨g.1,fun Yf he hs=>by simp only [SV.den]; rw [g.2 Yf he hs]⟩
 ·split at h
  ·rename_i hf
   subst hf;simp only [jaj] at h;obtain ⟨Y1,h1,h2⟩:=h;have g1:=qfE (Z:=Z) h1;have g2:=qfE (Z:=Z) h2;exact ⟨g1.1.trans g2.1,fun Yf he hs=>by simp only [SV.den]; rw [g2.2 Yf he hs,g1.2 Yf (g2.1.trans he) hs]⟩
  ·simp at h
 ·have g:=qm6 (Z:=Z) h
  exact ⟨g.1,fun Yf he hs=>by simp only [SV.den]; rw [g.2 Yf he hs]⟩
 ·simp at h
theorem qmo:∀ {ps avs:List SV} {Y Y':Sg},qhs ps avs Y = some Y'->Ext Y Y'/\∀ Yf,Ext Y' Yf->Sat Yf Z->ps.map (SV.den (Yf.env Z)) = avs.map (SV.den Z)
 | [],[],Y,Y',h=>by simp only [qhs,jaa] at h; subst h; exact ⟨Ext.refl _,fun _ _ _=>rfl⟩
 | p :: ps,a :: avs,Y,Y',h=>by
  simp only [qhs,jaj] at h;obtain ⟨Y1,h1,h2⟩:=h;have g1:=qjF (Z:=Z) h1;have g2:=qmo h2;exact ⟨g1.1.trans g2.1,fun Yf he hs=>by
   simp only [jaq];rw [g2.2 Yf he hs,g1.2 Yf (g2.1.trans he) hs]⟩
 | [],_ :: _,Y,Y',h=>by simp [qhs] at h
 | _ :: _,[],Y,Y',h=>by simp [qhs] at h
theorem qf9 (hg:Z.good) {p a:SH} {Y Y':Sg} (h:mH1 p a Y = some Y'):Ext Y Y'/\∀ Yf r r',p.reg = some r->a.reg = some r'->Yf.env Z r = Z r'->Ext Y' Yf->Sat Yf Z ->
  (∀ hp,a.den Z hp->p.den (Yf.env Z) hp)/\(∀ hp,a.roden Z hp->p.roden (Yf.env Z) hp):=by
 unfold mH1 at h;split at h
 ·rename_i r0 ty ps r1 ty' avs
  split at h
  ·rename_i ht
   have ht:=Nat.eq_of_beq_eq_true ht;subst ht;have g:=qfE (Z:=Z) h;refine ⟨g.1,fun Yf r r' hr hr' hrr he hs=>?_⟩;simp only [SH.reg,jaa] at hr hr';subst hr; subst hr';have:=g.2 Yf he hs;refine ⟨fun hp=>?_,fun hp=>?_⟩
   ·simp only [SH.den]; rw [this,hrr]; exact id
   ·simp only [SH.roden]; rw [this,hrr]; exact id
  ·simp at h
 ·rename_i r0 ty pat d cap r1 ty' pat' d' cap'
  split at h
  ·rename_i ht
   simp only [jad,jaw] at ht;obtain ⟨ht,hpat⟩:=ht;have ht:=Nat.eq_of_beq_eq_true ht;subst ht; subst hpat;simp only [jaa] at h; subst h;have g1:=qgt (Z:=Z) d d' Y;have g2:=qbr (Z:=Z) cap cap' (mD d d' Y);refine ⟨g1.1.trans g2.1,fun Yf r r' hr hr' hrr he hs=>?_⟩;simp only [SH.reg,jaa] at hr hr';subst hr; subst hr';have e1:=g1.2 Yf (g2.1.trans he) hs;have e2:=g2.2 Yf he hs;refine ⟨fun hp=>?_,fun hp=>?_⟩
   ·simp only [SH.den]; rw [e1,e2,hrr]; exact id
   ·simp only [SH.roden]; rw [e1,hrr]; exact id
  ·simp at h
 ·rename_i r0 ty pat d cap r1 ty' avs
  split at h
  ·rename_i ht
   simp only [jad] at ht;obtain ⟨⟨ht,hpos⟩,hmod⟩:=ht;have ht:=Nat.eq_of_beq_eq_true ht;have hmod:=Nat.eq_of_beq_eq_true hmod;simp only [ja6] at hpos;subst ht;split at h
   ·rename_i D hD
    simp only [jaa] at h; subst h;have g1:=qgt (Z:=Z) d D Y;have g2:=qbr (Z:=Z) cap (.lit ((avs.length / pat.length:Nat):Int)) (mD d D Y);refine ⟨g1.1.trans g2.1,fun Yf r r' hr hr' hrr he hs=>?_⟩;simp only [SH.reg,jaa] at hr hr';subst hr; subst hr';have e1:=g1.2 Yf (g2.1.trans he) hs;have e2:=g2.2 Yf he hs;obtain ⟨l1,l2,l3⟩:=qfq hg rfl hD;have hlen:(avs.length / pat.length) * pat.length = avs.length:=by
     have:=jep avs.length pat.length;rw [hmod,jdd] at this; omega
    refine ⟨fun hp hx=>?_,fun hp hx=>?_⟩
    ·obtain ⟨b,h1,h2⟩:=hx
     refine .inr ⟨b,_,by rw [hrr]; exact h1,h2,?_,?_,?_⟩
     ·rw [e2]; show _ = (((avs.length / pat.length:Nat):Int)).toNat * pat.length; rw [jbw,hlen]; simp [qa]
     ·rw [e1,e2,l1]; exact Int.le_refl _
     ·rw [e1]; exact qbV l3 (fun j v hv=>by rw [l2] at hv; simpa using hv)
    ·obtain ⟨b,o,c,ty',fr,h1,h2,h3⟩:=hx
     refine .inr ⟨b,o,c,ty',fr,by rw [hrr]; exact h1,h2,?_⟩;rw [e1]; exact qbV l3 (fun j v hv=>by rw [l2] at hv; exact h3 j v hv)
   ·simp at h
  ·simp at h
 ·simp at h
theorem qlV {p:SH} {n t:Nat} (h:p.isAbs = some (n,t)):p = .abs n t:=by
 cases p <;> simp_all [SH.isAbs]
theorem qcH {t:Nat}:∀ {l:List SH} {k m:Nat},qft t l = some (k,m)->l[k]? = some (.abs m t)
 | [],k,m,h=>by simp [qft] at h
 | .abs m' t' :: l,k,m,h=>by
  simp only [qft] at h;split at h
  ·rename_i ht
   simp only [jaa,jam] at h;obtain ⟨rfl,rfl⟩:=h;rw [Nat.eq_of_beq_eq_true ht]; rfl
  ·simp only [jah,jam,jc4] at h
   obtain ⟨k',x',h',rfl,rfl⟩:=h;simpa using qcH h'
 | .cells _ _ _ :: l,k,m,h=>by
  simp only [qft,jah,jam,jc4] at h;obtain ⟨k',x',h',rfl,rfl⟩:=h;simpa using qcH h'
 | .arr _ _ _ _ _ :: l,k,m,h=>by
  simp only [qft,jah,jam,jc4] at h;obtain ⟨k',x',h',rfl,rfl⟩:=h;simpa using qcH h'
theorem qgk (hg:Z.good):∀ {ps h ro rest:List SH} {Y Y':Sg} {hO:Hp},mHs true ps h ro Y = some (rest,Y')->qD Z h hO->Ext Y Y'/\∀ Yf,Ext Y' Yf->Sat Yf Z ->
  ∃ h1 h2,Hp.disj h1 h2/\hO = Hp.union h1 h2/\qD (Yf.env Z) ps h1/\qD Z rest h2
 | [],h,ro,rest,Y,Y',hO,hm,hs=>by
  simp only [mHs,jaa,jam] at hm;obtain ⟨rfl,rfl⟩:=hm;exact ⟨Ext.refl _,fun _ _ _=>⟨Hp.emp,hO,Hp.emp_disj _,(Hp.emp_union _).symm,trivial,hs⟩⟩
 | p :: ps,h,ro,rest,Y,Y',hO,hm,hs=>by
  simp only [mHs] at hm;split at hm
  ·rename_i n t hp
   have hp:=qlV hp;subst hp;split at hm
   ·rename_i k m hat
    simp only [jaj,ja5] at hm;obtain ⟨Y1,h1,h2⟩:=hm;have hk:=qcH hat;have g1:=qdq (Z:=Z) h1;obtain ⟨t1,t2,td,tu,tx,ts⟩:=qaz hs hk;have g2:=qgk hg h2 ts;refine ⟨g1.1.trans g2.1,fun Yf he hsat=>?_⟩;obtain ⟨u1,u2,ud,uu,a1,a2⟩:=g2.2 Yf he hsat;have hx:SH.den (Yf.env Z) (.abs n t) t1:=by
     simp only [SH.den];rw [g1.2 Yf (g2.1.trans he)]; exact tx
    subst tu; subst uu;rw [Hp.disj_union] at td;exact ⟨Hp.union t1 u1,u2,Hp.disj_union'.2 ⟨td.2,ud⟩,(Hp.union_assoc _ _ _).symm,⟨t1,u1,td.1,rfl,hx,a1⟩,a2⟩
   ·simp at hm
  split at hm
  ·simp at hm
  ·rename_i r hr
   split at hm
   ·rename_i hc
    simp only [jad,jay] at hc;obtain ⟨hc1,hc2⟩:=hc;have hn:¬ r < Y.th:=fun h=>by rw [qbs h] at hc1; cases hc1
    have hl:look r Y.bd = some .nil:=by
     revert hc2; cases hl:look r Y.bd with
     | none=>simp [qh5]
     | some b=>cases b <;> simp [qh5]
    split at hm
    ·rename_i r' ty pat d cap _
     simp only [SH.reg,jaa] at hr; subst hr;have g1:=qgt (Z:=Z) d .dnil Y;have g2:=qbr (Z:=Z) cap (.lit 0) (mD d .dnil Y);have g3:=qgk hg hm hs;refine ⟨(g1.1.trans g2.1).trans g3.1,fun Yf he hsat=>?_⟩;obtain ⟨h1,h2,hd,hu,a1,a2⟩:=g3.2 Yf he hsat;refine ⟨h1,h2,hd,hu,⟨Hp.emp,h1,Hp.emp_disj _,(Hp.emp_union _).symm,.inl ⟨?_,?_,?_⟩,a1⟩,a2⟩
     ·rw [Sg.env_look (by rw [he.th,g3.1.th,g2.1.th,g1.1.th]; exact hn) (he.bd _ _ (g3.1.bd _ _ (g2.1.bd _ _ (g1.1.bd _ _ hl))))]; rfl
     ·rw [g1.2 Yf ((g2.1.trans g3.1).trans he) hsat]; rfl
     ·rw [g2.2 Yf (g3.1.trans he) hsat]; rfl
    ·simp at hm
   ·split at hm
    ·simp at hm
    ·rename_i r' hreg
     split at hm
     ·rename_i k a hat
      simp only [jaj,ja5] at hm;obtain ⟨Y1,h1,h2⟩:=hm;obtain ⟨hk,ha⟩:=qZ hat;have g1:=qf9 hg h1;obtain ⟨t1,t2,td,tu,tx,ts⟩:=qaz hs hk;have g2:=qgk hg h2 ts;refine ⟨g1.1.trans g2.1,fun Yf he hsat=>?_⟩;obtain ⟨u1,u2,ud,uu,a1,a2⟩:=g2.2 Yf he hsat;have hrr:Yf.env Z r = Z r':=by
       have hx:Ext Y Yf:=(g1.1.trans g2.1).trans he;unfold Sg.reg at hreg;by_cases hlt:r < Y.th
       ·rw [qbs hlt] at hreg
        simp only [ja5,jaa] at hreg;rw [Sg.env_lt (by rw [hx.th]; exact hlt),hreg]
       ·rw [qdv hlt] at hreg
        simp only [jan,ja3] at hreg;split at hreg
        ·rename_i m hl
         simp only [jaa] at hreg;rw [Sg.env_look (by rw [hx.th]; exact hlt) (hx.bd _ _ hl),<- hreg]; rfl
        ·simp at hreg
      have hx:=(g1.2 Yf r r' hr ha hrr (g2.1.trans he) hsat).1 t1 tx;subst tu; subst uu;rw [Hp.disj_union] at td;refine ⟨Hp.union t1 u1,u2,Hp.disj_union'.2 ⟨td.2,ud⟩,(Hp.union_assoc _ _ _).symm,⟨t1,u1,td.1,rfl,hx,a1⟩,a2⟩
     ·simp at hm
theorem qtc {Y Yf:Sg} {r r':Nat} (hreg:Y.reg r = some r') (hx:Ext Y Yf):Yf.env Z r = Z r':=by
 unfold Sg.reg at hreg;by_cases hlt:r < Y.th
 ·rw [qbs hlt] at hreg
  simp only [ja5,jaa] at hreg;rw [Sg.env_lt (by rw [hx.th]; exact hlt),hreg]
 ·rw [qdv hlt] at hreg
  simp only [jan,ja3] at hreg;split at hreg
  ·rename_i m hl
   simp only [jaa] at hreg;rw [Sg.env_look (by rw [hx.th]; exact hlt) (hx.bd _ _ hl),<- hreg]; rfl
  ·simp at hreg
theorem qh6 (hg:Z.good):∀ {ps h ro rest:List SH} {Y Y':Sg} {hF hO H:Hp},mHs false ps h ro Y = some (rest,Y')->qD Z h hO->(∀ x ∈ ro,x.roden Z hF)->Hp.le hO H->Hp.le hF H ->
  Ext Y Y'/\rest = h/\∀ Yf,Ext Y' Yf->Sat Yf Z->∀ p ∈ ps,p.roden (Yf.env Z) H
 | [],h,ro,rest,Y,Y',hF,hO,H,hm,hs,hr,_,_=>by
  simp only [mHs,jaa,jam] at hm;obtain ⟨rfl,rfl⟩:=hm;exact ⟨Ext.refl _,rfl,fun _ _ _ p hp=>by cases hp⟩
 | p :: ps,h,ro,rest,Y,Y',hF,hO,H,hm,hs,hro,hl1,hl2=>by
  simp only [mHs] at hm;split at hm
  ·rename_i n t hp
   have hp:=qlV hp;subst hp;split at hm
   ·rename_i k m hat
    simp only [jaj,jan,ja3] at hm;obtain ⟨Y1,h1,h2⟩:=hm;have hk:=qcH hat;have g1:=qdq (Z:=Z) h1;have g2:=qh6 hg h2 hs hro hl1 hl2;refine ⟨g1.1.trans g2.1,g2.2.1,fun Yf he hsat q hq=>?_⟩;cases hq with
    | head =>
     obtain ⟨t1,t2,td,tu,tx,ts⟩:=qaz hs hk;simp only [SH.roden];rw [g1.2 Yf (g2.1.trans he)];exact Hp.le_trans tx.1 (Hp.le_trans (tu ▸ Hp.le_left t1 t2) hl1)
    | tail _ hq=>exact g2.2.2 Yf he hsat q hq
   ·simp only [jan,ja3] at hm
    split at hm
    ·rename_i k m hat
     simp only [jaj] at hm;obtain ⟨Y1,h1,h2⟩:=hm;have hk:=qcH hat;have g1:=qdq (Z:=Z) h1;have g2:=qh6 hg h2 hs hro hl1 hl2;refine ⟨g1.1.trans g2.1,g2.2.1,fun Yf he hsat q hq=>?_⟩;cases hq with
     | head =>
      simp only [SH.roden];rw [g1.2 Yf (g2.1.trans he)];exact Hp.le_trans (hro _ (jas hk)) hl2
     | tail _ hq=>exact g2.2.2 Yf he hsat q hq
    ·simp at hm
  split at hm
  ·simp at hm
  ·rename_i r hr
   split at hm
   ·rename_i hc
    simp only [jad,jay] at hc;obtain ⟨hc1,hc2⟩:=hc;have hn:¬ r < Y.th:=fun h=>by rw [qbs h] at hc1; cases hc1
    have hl:look r Y.bd = some .nil:=by
     revert hc2; cases hl:look r Y.bd with
     | none=>simp [qh5]
     | some b=>cases b <;> simp [qh5]
    split at hm
    ·rename_i r' ty pat d cap _
     simp only [SH.reg,jaa] at hr; subst hr;have g1:=qgt (Z:=Z) d .dnil Y;have g2:=qbr (Z:=Z) cap (.lit 0) (mD d .dnil Y);have g3:=qh6 hg hm hs hro hl1 hl2;refine ⟨(g1.1.trans g2.1).trans g3.1,g3.2.1,fun Yf he hsat q hq=>?_⟩;cases hq with
     | head =>
      refine .inl ?_;rw [g1.2 Yf ((g2.1.trans g3.1).trans he) hsat]; rfl
     | tail _ hq=>exact g3.2.2 Yf he hsat q hq
    ·simp at hm
   ·split at hm
    ·simp at hm
    ·rename_i r' hreg
     split at hm
     ·rename_i k a hat
      simp only [jaj,jan,ja3] at hm;obtain ⟨Y1,h1,h2⟩:=hm;obtain ⟨hk,ha⟩:=qZ hat;have g1:=qf9 hg h1;have g2:=qh6 hg h2 hs hro hl1 hl2;refine ⟨g1.1.trans g2.1,g2.2.1,fun Yf he hsat q hq=>?_⟩;cases hq with
      | head =>
       obtain ⟨t1,t2,td,tu,tx,ts⟩:=qaz hs hk;have hrr:=qtc (Z:=Z) hreg ((g1.1.trans g2.1).trans he);refine (g1.2 Yf r r' hr ha hrr (g2.1.trans he) hsat).2 H (SH.den_ro tx ?_);exact Hp.le_trans (tu ▸ Hp.le_left t1 t2) hl1
      | tail _ hq=>exact g2.2.2 Yf he hsat q hq
     ·simp only [jan,ja3] at hm
      split at hm
      ·rename_i k a hat
       simp only [jaj] at hm;obtain ⟨Y1,h1,h2⟩:=hm;obtain ⟨hk,ha⟩:=qZ hat;have g1:=qf9 hg h1;have g2:=qh6 hg h2 hs hro hl1 hl2;refine ⟨g1.1.trans g2.1,g2.2.1,fun Yf he hsat q hq=>?_⟩;cases hq with
       | head =>
        have hrr:=qtc (Z:=Z) hreg ((g1.1.trans g2.1).trans he);exact (g1.2 Yf r r' hr ha hrr (g2.1.trans he) hsat).2 H (SH.ro_mono (hro a (jas hk)) hl2)
       | tail _ hq=>exact g2.2.2 Yf he hsat q hq
      ·simp at hm
theorem qdH:∀ {ps h ro rest:List SH} {Y Y':Sg},mHs false ps h ro Y = some (rest,Y')->Ext Y Y'
 | [],h,ro,rest,Y,Y',hm=>by
  simp only [mHs,jaa,jam] at hm;obtain ⟨rfl,rfl⟩:=hm;exact Ext.refl _
 | p :: ps,h,ro,rest,Y,Y',hm=>by
  simp only [mHs] at hm;split at hm
  ·split at hm
   ·simp only [jaj,jan,ja3] at hm
    obtain ⟨Y1,h1,h2⟩:=hm;exact (qdq (Z:=fun _=>{}) h1).1.trans (qdH h2)
   ·simp only [jan,ja3] at hm
    split at hm
    ·simp only [jaj] at hm
     obtain ⟨Y1,h1,h2⟩:=hm;exact (qdq (Z:=fun _=>{}) h1).1.trans (qdH h2)
    ·simp at hm
  split at hm
  ·simp at hm
  ·rename_i r hr
   split at hm
   ·split at hm
    ·rename_i r' ty pat d cap _
     exact ((qgt (Z:=fun _=>{}) d .dnil Y).1.trans (qbr (Z:=fun _=>{}) cap (.lit 0) (mD d .dnil Y)).1).trans (qdH hm)
    ·simp at hm
   ·split at hm
    ·simp at hm
    ·split at hm
     ·simp only [jaj,jan,ja3] at hm
      obtain ⟨Y1,h1,h2⟩:=hm;exact (qf9 (Z:=fun _=>{}) (fun _=>⟨rfl,by simp⟩) h1).1.trans (qdH h2)
     ·simp only [jan,ja3] at hm
      split at hm
      ·simp only [jaj] at hm
       obtain ⟨Y1,h1,h2⟩:=hm;exact (qf9 (Z:=fun _=>{}) (fun _=>⟨rfl,by simp⟩) h1).1.trans (qdH h2)
      ·simp at hm
theorem qf1 {Y:Sg} (f:T->T->Option T) (R:T->T->Prop) (hsame:∀ p p' a,Y.sub p = some p'->p'.same a = true->R p a)
  (hf:∀ p p' a c,Y.sub p = some p'->f p' a = some c->(c.den Z).b = true->R p a) :
  ∀ {l:List (T × T)} {cs:List T},Y.eqs f l = some cs->(∀ c ∈ cs,(c.den Z).b = true)->∀ p a,(p,a) ∈ l->R p a
 | [],_,_,_,p,a,h=>by cases h
 | (p,a) :: r,cs,hm,hc,q,b,hq=>by
  simp only [Sg.eqs] at hm;split at hm
  ·rename_i p' cs' hp hcs
   split at hm
   ·rename_i hs
    simp only [jaa] at hm; subst hm;cases hq with
    | head=>exact hsame _ _ _ hp hs
    | tail _ hq=>exact qf1 f R hsame hf hcs hc q b hq
   ·split at hm
    ·rename_i c hfc
     simp only [jaa] at hm; subst hm;cases hq with
     | head=>exact hf _ _ _ _ hp hfc (hc c (jac ..))
     | tail _ hq=>exact qf1 f R hsame hf hcs (fun c h=>hc c (jab _ h)) q b hq
    ·simp at hm
  ·simp at hm
end Go.Eng
namespace Go.Eng
open Go
structure Fr where
 h:Hp
 os:Os
 out:Array (Nat × ByteArray)
instance:Coe Fr Hp:=⟨Fr.h⟩
instance:CoeFun Fr (fun _=>Hp):=⟨Fr.h⟩
def Fr.wi (F:Fr) (w:World):Prop:=w.os = F.os/\w.output = F.out
structure Holds (Z:Env) (hF:Fr) (s:S) (a:Act) (w:World):Prop where
 gd:Z.good
 nt:s.nt <= a.tmps.size
 df:a.defers = []
 env:∀ t v,qbg t s.env = some v->a.tmps.getD t undef = v.den Z
 ro:∀ x ∈ s.ro,x.roden Z hF
 hp:∃ hO,Hp.disj hF hO/\qD Z s.heap hO/\(Hp.union hF hO).sub w/\hF.wi w
 pc:∀ c b,(c,b) ∈ s.pc->(c.den Z).b = b
 vw:∀ x ∈ s.vw,∃ m ∈ x.1,x.2.roden Z (Z m).h
variable {P:Program} {Z:Env} {hF:Fr} {s:S} {a:Act} {w:World}
theorem qm8 {v:Value} {t:T} (h:qh9 v = some t):(t.den Z).v = v:=by
 unfold qh9 at h;split at h <;> simp only [jaa,reduceCtorEq] at h <;> subst h <;> simp [T.den,O0.den,O1.den]
theorem qoc {v:Value} {t:T} {n:Nat} (h:qh9 v = some t):t.inB n = true:=by
 unfold qh9 at h;split at h <;> simp only [jaa,reduceCtorEq] at h <;> subst h <;> simp [T.inB]
theorem qfn:∀ {l:List Value} {ts:List T},qdE l = some ts->qa Z ts = l
 | [],ts,h=>by simp only [qdE,jaa] at h; subst h; rfl
 | v :: r,ts,h=>by
  simp only [qdE] at h;split at h
  ·rename_i t ts' h1 h2
   simp only [jaa] at h; subst h;have:=qfn h2;simp only [qa,jaq] at this ⊢;rw [this,qm8 h1]
  ·simp at h
theorem qhZ {n:Nat}:∀ {l:List Value} {ts:List T},qdE l = some ts->ts.all (T.inB n) = true
 | [],ts,h=>by simp only [qdE,jaa] at h; subst h; rfl
 | v :: r,ts,h=>by
  simp only [qdE] at h;split at h
  ·rename_i t ts' h1 h2
   simp only [jaa] at h; subst h;simp only [jc0,qoc h1,qhZ h2,Bool.and_self]
  ·simp at h
theorem qsg {v:Value} {x:SV} (h:ofValue v = some x):x.den Z = v:=by
 unfold ofValue at h;split at h
 ·rename_i cs
  simp only [jah] at h;obtain ⟨ts,h1,rfl⟩:=h;simp only [SV.den,qfn h1]
 ·simp only [jah] at h
  obtain ⟨t,h1,rfl⟩:=h;simp only [SV.den,qm8 h1]
theorem quq {v:Value} {x:SV} {n:Nat} (h:ofValue v = some x):x.inB n = true:=by
 unfold ofValue at h;split at h
 ·rename_i cs
  simp only [jah] at h;obtain ⟨ts,h1,rfl⟩:=h;exact qhZ h1
 ·simp only [jah] at h
  obtain ⟨t,h1,rfl⟩:=h;exact qoc h1
theorem Holds.opd (hs:Holds Z hF s a w) {x:Operand} {v:SV} (h:opd s x = some v):a.eval x = v.den Z:=by
 cases x with
 | tmp t=>exact hs.env t v h
 | const c=>exact (qsg h).symm
 | global g=>simp [Eng.opd] at h
 | func f =>
  simp only [Eng.opd,jaa] at h; subst h;simp [Act.eval,SV.den,qa]
theorem Holds.opds (hs:Holds Z hF s a w):∀ {xs:List Operand} {vs:List SV},opds s xs = some vs->xs.map a.eval = vs.map (SV.den Z)
 | [],vs,h=>by simp only [Eng.opds,jaa] at h; subst h; rfl
 | x :: r,vs,h=>by
  simp only [Eng.opds] at h;split at h
  ·rename_i v vs' h1 h2
   simp only [jaa] at h; subst h;simp only [jaq];rw [hs.opd h1,Holds.opds hs h2]
  ·simp at h
theorem qlH {n:Nat}:∀ {l:List (Nat × SV)} {t:Nat} {v:SV},l.all (fun x=>x.2.inB n) = true->qbg t l = some v->v.inB n = true
 | [],t,v,_,h=>by simp [qbg] at h
 | (k,u) :: r,t,v,hb,h=>by
  simp only [jc0,jad] at hb;simp only [qbg] at h;split at h
  ·simp only [jaa] at h; rw [<- h]; exact hb.1
  ·exact qlH hb.2 h
theorem qj9 (hsc:s.scopedEH = true) {x:Operand} {v:SV} (h:opd s x = some v):v.inB s.nx = true:=by
 simp only [S.scopedEH,jad] at hsc;cases x with
 | tmp t=>exact qlH hsc.1 h
 | const c=>exact quq h
 | global g=>simp [Eng.opd] at h
 | func f=>simp only [Eng.opd,jaa] at h; subst h; rfl
theorem qrp {v:SV} {cs:List T} {n:Nat} (h:v.cells = some cs) (hv:v.inB n = true):cs.all (T.inB n) = true:=by
 cases v <;> simp only [SV.cells,jaa,reduceCtorEq] at h <;> subst h
 ·simpa [SV.inB] using hv
 ·exact hv
theorem qfW {d:List (List Value)} (h:∀ row ∈ d,∀ v ∈ row,v.oneCell' = true):∀ v ∈ d.headD [],v.oneCell' = true:=by
 cases d with
 | nil=>simp
 | cons r _=>simpa using h r (by simp)
theorem T.den_good (hg:Z.good):∀ (t:T),(t.den Z).good
 | .var n=>hg n
 | .c0 o=>by cases o <;> simp [T.den,O0.den,U.good,Value.oneCell']
 | .c1 o x=>by cases o <;> simp [T.den,O1.den,U.good,Value.oneCell']
 | .c2 o x y=>by
  have hx:=T.den_good hg x;have hy:=T.den_good hg y;cases o <;> simp only [T.den,O2.den] <;> (try (simp [U.good,Value.oneCell']; done))
  case vcell c=>exact ⟨qmI hx.2 _ _,by simp⟩
  case dsnoc=>exact ⟨rfl,fun row hr=>(jax.1 hr).elim (hx.2 row) (hy.2 row)⟩
  case rcons =>
   refine ⟨rfl,fun row hr v hv=>?_⟩;simp only [jak] at hr;subst hr;rcases jar.1 hv with rfl | hv
   ·exact hx.1
   ·exact qfW hy.2 v hv
  case drep =>
   refine ⟨rfl,fun row hr v hv=>?_⟩;rw [(List.mem_replicate.1 hr).2] at hv;exact qfW hy.2 v hv
  case dapp=>exact ⟨rfl,fun row hr=>(jax.1 hr).elim (hx.2 row) (hy.2 row)⟩
  case dtake=>exact ⟨rfl,fun row hr=>hx.2 row (jb7 hr)⟩
  case ddrop=>exact ⟨rfl,fun row hr=>hx.2 row (jcw hr)⟩
 | .c3 o x y z=>by
  have hx:=T.den_good hg x;have hz:=T.den_good hg z;cases o
  ·simp [T.den,O3.den,U.good,Value.oneCell']
  ·simp only [T.den,O3.den]
   refine ⟨rfl,fun row hr v hv=>?_⟩;unfold qH at hr;rcases jbx hr with hr | rfl
   ·exact hx.2 row hr v hv
   ·unfold qba at hv
    rcases jax.1 hv with hv | hv
    ·rcases jax.1 hv with hv | hv
     ·have hv:=jb7 hv
      cases h1:(x.den Z).d[(y.den Z).i.toNat]? with
      | none=>rw [h1] at hv; simp at hv
      | some row=>rw [h1] at hv; exact hx.2 row (jas h1) v hv
     ·exact qfW hz.2 v hv
    ·have hv:=jcw hv
     cases h1:(x.den Z).d[(y.den Z).i.toNat]? with
     | none=>rw [h1] at hv; simp at hv
     | some row=>rw [h1] at hv; exact hx.2 row (jas h1) v hv
  ·simp only [T.den,O3.den]
   refine ⟨rfl,fun row hr v hv=>?_⟩;cases hd:(x.den Z).d with
   | nil=>rw [hd] at hr; simp [qi1] at hr
   | cons r0 rest =>
    rw [hd] at hr;simp only [qi1,jar] at hr;rcases hr with rfl | hr
    ·rcases jbx hv with hv | rfl
     ·exact hx.2 r0 (by rw [hd]; exact jac ..) v hv
     ·exact hz.1
    ·exact hx.2 row (by rw [hd]; exact jab _ hr) v hv
  ·simp only [T.den,O3.den]
   refine ⟨rfl,fun row hr=>?_⟩;simp only [qdc,jax] at hr;rcases hr with (hr | hr) | hr
   ·exact hx.2 row (jb7 hr)
   ·exact hz.2 row hr
   ·exact hx.2 row (jcw hr)
  ·simp [T.den,O3.den,U.good,Value.oneCell']
  ·simp only [T.den,O3.den]
   refine ⟨rfl,fun row hr v hv=>?_⟩;obtain ⟨u,hu,rfl⟩:=jbr.1 hr;rw [jak.1 hv];exact qfW hx.2 u (jcw (jb7 hu))
  ·simp only [T.den,O3.den]
   refine ⟨rfl,fun row hr v hv=>?_⟩;cases hd:(x.den Z).d with
   | nil=>rw [hd] at hr; simp [qcU] at hr
   | cons r0 rest =>
    rw [hd] at hr;simp only [qcU,jar] at hr;rcases hr with rfl | hr
    ·unfold qba at hv
     rcases jax.1 hv with hv | hv
     ·rcases jax.1 hv with hv | hv
      ·exact hx.2 r0 (by rw [hd]; exact jac ..) v (jb7 hv)
      ·obtain ⟨q,hq,rfl⟩:=jbr.1 hv
       cases q with
       | nil=>rfl
       | cons u q=>exact hz.2 _ hq _ (jac ..)
     ·exact hx.2 r0 (by rw [hd]; exact jac ..) v (jcw hv)
    ·exact hx.2 row (by rw [hd]; exact jab _ hr) v hv
 | .ife x y u v=>by simp [T.den,U.good,Value.oneCell']
theorem qfU (hg:Z.good) (ts:List T):∀ v ∈ qa Z ts,v.oneCell' = true:=by
 intro v hv;obtain ⟨t,_,rfl⟩:=jbr.1 hv;exact (T.den_good hg t).1
theorem qgX (hg:Z.good) {v:SV} {cs:List T} (h:v.cells = some cs):(v.den Z).cells = (qa Z cs).toArray:=by
 cases v with
 | one t =>
  simp only [SV.cells,jaa] at h; subst h;have:=(T.den_good hg t).1;simp only [SV.den,qa,jaq,jbl];cases hv:(t.den Z).v <;> simp_all [Value.cells,Value.oneCell']
 | agg ts=>simp only [SV.cells,jaa] at h; subst h; simp [SV.den,Value.cells]
 | tup vs=>simp [SV.cells] at h
 | fn f x y=>simp [SV.cells] at h
theorem qei {t:TypeId} {b:Bool} (h:qcB P t = some b) (w:World):(isAgg t).run P w = .ok b w:=by
 unfold qcB at h;unfold isAgg;simp only [Sem.run_bind];have hu:∀ d,P.underlying t = some d->(underlying t).run P w = .ok d w:=fun d hd=>by simp [underlying,hd]
 split at h
 ·rename_i fs hd; simp only [jaa] at h; subst h; simp [hu _ hd]
 ·rename_i n e hd; simp only [jaa] at h; subst h; simp [hu _ hd]
 ·rename_i d h1 h2 hd
  simp only [jaa] at h; subst h;rw [hu _ hd];simp only [Result.andThen_ok];cases d <;> simp_all
 ·simp at h
theorem qaW {t:TypeId} {n:Nat} (h:qao P t = some n) (w:World):(sizeOf t).run P w = .ok n w:=by
 unfold qao at h;simp only [jah] at h;obtain ⟨i,hi,rfl⟩:=h;simp [sizeOf,typeInfo,hi]
theorem qj7 {t:TypeId} {cs:List T} (h:qbA P t = some cs) (w:World):∃ v,(zeroValue t).run P w = .ok v w/\v.cells = (qa Z cs).toArray:=by
 unfold qbA at h;split at h
 ·rename_i v hv
  simp only [jaj] at hv;obtain ⟨i,hi,hz⟩:=hv;refine ⟨v,by simp [zeroValue,typeInfo,hi,hz],?_⟩;rw [qfn h]
 ·simp at h
theorem qy {t:TypeId} {d:TypeDesc} (h:P.underlying t = some d) (w:World):(underlying t).run P w = .ok d w:=by simp [underlying,h]
theorem qeP {n:Nat}:∀ {l:List SH},qcj n l = true->∃ t,.abs n t ∈ l
 | [],h=>by simp [qcj] at h
 | .abs m t :: l,h=>by
  simp only [qcj,jcc] at h;rcases h with h | h
  ·rw [Nat.eq_of_beq_eq_true h]; exact ⟨t,jac ..⟩
  ·obtain ⟨t',ht⟩:=qeP h; exact ⟨t',jab _ ht⟩
 | .cells _ _ _ :: l,h=>by
  simp only [qcj] at h;obtain ⟨t',ht⟩:=qeP h; exact ⟨t',jab _ ht⟩
 | .arr _ _ _ _ _ :: l,h=>by
  simp only [qcj] at h;obtain ⟨t',ht⟩:=qeP h; exact ⟨t',jab _ ht⟩
theorem qlz {heap ro:List SH} {hO hF:Hp} (hst:qD Z heap hO) (hro:∀ x ∈ ro,x.roden Z hF) {n:Nat} (h:(qcj n heap || qcj n ro) = true):Hp.le (Z n).h hO∨Hp.le (Z n).h hF:=by
 simp only [jcc] at h;rcases h with h | h
 ·obtain ⟨t,ht⟩:=qeP h
  obtain ⟨k,hk⟩:=jb0 ht;obtain ⟨t1,t2,td,tu,tx,ts⟩:=qaz hst hk;exact .inl (Hp.le_trans tx.1 (tu ▸ Hp.le_left t1 t2))
 ·obtain ⟨t,ht⟩:=qeP h
  exact .inr (hro _ ht)
theorem qo5 {s':S} {r:Nat}:∀ {l:List (List Nat × SH)} {k:Nat} {x:SH},qn0 s' r l = some (k,x)->∃ ms,(ms,x) ∈ l/\x.reg = some r/\ms.all s'.piece = true
 | [],k,x,h=>by simp [qn0] at h
 | (ms,y) :: l,k,x,h=>by
  simp only [qn0] at h;split at h
  ·rename_i hc
   simp only [jad] at hc;simp only [jaa,jam] at h;obtain ⟨_,rfl⟩:=h;refine ⟨ms,jac ..,?_,hc.2⟩;have:=hc.1;unfold qxS at this;split at this
   ·rename_i q hq
    rw [hq,Nat.eq_of_beq_eq_true this]
   ·cases this
  ·obtain ⟨ms',h1,h2⟩:=qo5 h
   exact ⟨ms',jab _ h1,h2⟩
theorem Holds.found (hs:Holds Z hF s a w) {r k:Nat} {x:SH} (h:s.look r = some (k,x)) :
  ∃ H,Hp.sub H w/\x.roden Z H/\x.reg = some r:=by
 obtain ⟨hO,hd,hst,hsub,hwi⟩:=hs.hp;unfold S.look at h;rcases h1:qa4 r s.heap with _ | y
 ·rcases h2:qa4 r s.ro with _ | y
  ·rw [h1,h2] at h
   have h:qn0 s r s.vw = some (k,x):=h;obtain ⟨ms,hm,hr,hall⟩:=qo5 h;obtain ⟨m,hmm,hx⟩:=hs.vw _ hm;have hp:=jao.1 hall m hmm;refine ⟨Hp.union hF hO,hsub,SH.ro_mono hx ?_,hr⟩;rcases qlz hst hs.ro hp with h | h
   ·exact Hp.le_trans h (Hp.le_right hd)
   ·exact Hp.le_trans h (Hp.le_left _ _)
  ·rw [h1,h2] at h
   have h:y = (k,x):=jat h;subst h;obtain ⟨hk,hr⟩:=qZ h2;exact ⟨Hp.union hF hO,hsub,SH.ro_mono (hs.ro x (jas hk)) (Hp.le_left _ _),hr⟩
 ·rw [h1] at h
  have h:y = (k,x):=jat h;subst h;obtain ⟨hk,hr⟩:=qZ h1;obtain ⟨t1,t2,td,tu,tx,ts⟩:=qaz hst hk;exact ⟨Hp.union hF hO,hsub,SH.den_ro tx (Hp.le_trans (tu ▸ Hp.le_left t1 t2) (Hp.le_right hd)),hr⟩
theorem qT (op:BinOp) (x y:T) (hop:op = .eql∨op = .neq∨op = .lss∨op = .leq∨op = .gtr∨op = .geq):((qs op x y).den Z).b = qS op (x.den Z).i (y.den Z).i:=by
 unfold qs;split
 ·rename_i u v hu hv
  have:x = .lit u:=by unfold T.isLit at hu; split at hu <;> simp_all
  have:y = .lit v:=by unfold T.isLit at hv; split at hv <;> simp_all
  subst_vars; simp [T.den,O0.den]
 ·split
  ·rename_i h
   rw [T.same_eq h];rcases hop with rfl | rfl | rfl | rfl | rfl | rfl <;> simp [T.den,O0.den,qS]
  ·rfl
theorem qeB:∀ {t:T},qcT t = true->0 <= (t.den Z).i
 | .c0 o,h=>by
  cases o <;> simp [qcT] at h;simpa [T.den,O0.den] using h
 | .c1 o x,h=>by
  cases o <;> simp [qcT] at h <;> simp [T.den,O1.den]
 | .c2 o x y,h=>by
  cases o <;> simp [qcT] at h
  ·have h1:=qeB h.1; have h2:=qeB h.2
   simp only [T.den,O2.den]; omega
  ·have h1:=qeB h.1; have h2:=qeB h.2
   simp only [T.den,O2.den]; split <;> assumption
 | .var n,h=>by simp [qcT] at h
 | .c3 o x y z,h=>by simp [qcT] at h
 | .ife x y u v,h=>by simp [qcT] at h
theorem qz {t:T} (h:((qa0 t).den Z).b = true):0 <= (t.den Z).i:=by
 unfold qa0 at h;split at h
 ·rename_i hn; exact qeB hn
 ·rw [qT _ _ _ (by simp)] at h; exact jba h
theorem qfl:∀ (d:T),((qbx d).den Z).i = ((d.den Z).d.length:Int)
 | .c0 o=>by cases o <;> simp [qbx,T.den,O0.den,O1.den]
 | .c1 o x=>by simp [qbx,T.den,O1.den]
 | .c2 o x y=>by cases o <;> simp [qbx,T.den,O1.den]
 | .c3 o x y z=>by
  cases o
  ·simp [qbx,T.den,O1.den]
  ·simp only [qbx,qfl x,T.den,O3.den,qH,ja8]
  ·simp only [qbx,qfl x,T.den,O3.den]
   cases (x.den Z).d <;> simp [qi1]
  ·simp [qbx,T.den,O1.den]
  ·simp [qbx,T.den,O1.den]
  ·simp [qbx,T.den,O1.den]
  ·simp only [qbx,qfl x,T.den,O3.den]
   cases (x.den Z).d <;> simp [qcU]
 | .var n=>by simp [qbx,T.den,O1.den]
 | .ife x y u v=>by simp [qbx,T.den,O1.den]
theorem qfL (l:List T) (i:Nat) (vs:List T):qa Z (qcC l i vs) = qba (qa Z l) i (qa Z vs):=by
 simp [qcC,qba,qa]
theorem qcg {t:T} {z:Int} (h:t.isLit = some z):(t.den Z).i = z:=by
 unfold T.isLit at h; split at h <;> simp_all [T.den,O0.den]
theorem qd1:∀ {d:T} {n:Nat},slen d = some n->(d.den Z).d.length = n
 | .c0 o,n,h=>by cases o <;> simp_all [slen,T.den,O0.den]
 | .c1 o x,n,h=>by simp [slen] at h
 | .c2 o x y,n,h=>by
  cases o <;> simp only [slen] at h
  case rcons=>simp only [jaa] at h; subst h; simp [T.den,O2.den]
  case drep =>
   split at h
   ·rename_i z hz
    simp only [jaa] at h; subst h;simp [T.den,O2.den,qcg hz]
   ·cases h
  case dapp =>
   split at h
   ·rename_i n1 m1 h1 h2
    simp only [jaa] at h; subst h;simp [T.den,O2.den,qd1 h1,qd1 h2]
   ·cases h
  all_goals cases h
 | .c3 o x y z,n,h=>by
  cases o <;> simp only [slen] at h
  case dput c=>simp [T.den,O3.den,qH,qd1 h]
  case xput c =>
   simp only [T.den,O3.den];rw [<- qd1 h];cases (x.den Z).d <;> simp [qi1]
  case xcopy =>
   simp only [T.den,O3.den];rw [<- qd1 h];cases (x.den Z).d <;> simp [qcU]
  all_goals cases h
 | .var m,n,h=>by simp [slen] at h
 | .ife x y u v,n,h=>by simp [slen] at h
theorem qfw:∀ {r:T} {ts:List T},qbf r = some ts->(r.den Z).d = [qa Z ts]
 | .c0 o,ts,h=>by
  cases o <;> simp only [qbf] at h
  case rnil=>simp only [jaa] at h; subst h; simp [T.den,O0.den,qa]
  all_goals cases h
 | .c1 o x,n,h=>by simp [qbf] at h
 | .c2 o x y,n,h=>by
  cases o <;> simp only [qbf] at h
  case rcons =>
   split at h
   ·rename_i ts h1
    simp only [jaa] at h; subst h;simp [T.den,O2.den,qfw h1,qa]
   ·cases h
  all_goals cases h
 | .c3 o x y z,n,h=>by simp [qbf] at h
 | .var m,n,h=>by simp [qbf] at h
 | .ife x y u v,n,h=>by simp [qbf] at h
theorem qf0:∀ {d:T} {i:Nat} {ts:List T},qaq d i = some ts->(d.den Z).d[i]? = some (qa Z ts)
 | .c0 o,i,ts,h=>by
  cases o <;> cases i <;> simp only [qaq] at h
  case rnil.zero=>simp only [jaa] at h; subst h; simp [T.den,O0.den,qa]
  all_goals cases h
 | .c1 o x,i,n,h=>by simp [qaq] at h
 | .c2 .rcons v r,0,ts,h=>by
  simp only [qaq] at h;rw [qfw h]; rfl
 | .c2 .rcons v r,i + 1,ts,h=>by simp [qaq] at h
 | .c2 .drep n r,i,ts,h=>by
  simp only [qaq] at h;split at h
  ·rename_i z hz
   split at h
   ·rename_i hlt
    simp only [ja6] at hlt;simp only [T.den,O2.den,qcg hz,qfw h];rw [jc3,jag hlt]; rfl
   ·cases h
  ·cases h
 | .c2 .dapp a b,i,ts,h=>by
  simp only [qaq] at h;split at h
  ·rename_i n hn
   have hl:=qd1 (Z:=Z) hn;split at h
   ·rename_i hlt
    simp only [ja6] at hlt;simp only [T.den,O2.den];rw [jbs (by omega)];exact qf0 h
   ·rename_i hlt
    simp only [ja6] at hlt;simp only [T.den,O2.den];rw [jbd (by omega),hl];exact qf0 h
  ·cases h
 | .c2 (.arith _ _) _ _,i,ts,h=>by simp [qaq] at h
 | .c2 .plus _ _,i,ts,h=>by simp [qaq] at h
 | .c2 .minus _ _,i,ts,h=>by simp [qaq] at h
 | .c2 .tims _ _,i,ts,h=>by simp [qaq] at h
 | .c2 .imin _ _,i,ts,h=>by simp [qaq] at h
 | .c2 .imax _ _,i,ts,h=>by simp [qaq] at h
 | .c2 (.icell _) _ _,i,ts,h=>by simp [qaq] at h
 | .c2 (.cmp _) _ _,i,ts,h=>by simp [qaq] at h
 | .c2 .beq _ _,i,ts,h=>by simp [qaq] at h
 | .c2 .and _ _,i,ts,h=>by simp [qaq] at h
 | .c2 .or _ _,i,ts,h=>by simp [qaq] at h
 | .c2 (.bcell _) _ _,i,ts,h=>by simp [qaq] at h
 | .c2 (.vcell _) _ _,i,ts,h=>by simp [qaq] at h
 | .c2 .dsnoc _ _,i,ts,h=>by simp [qaq] at h
 | .c2 .dtake _ _,i,ts,h=>by simp [qaq] at h
 | .c2 .ddrop _ _,i,ts,h=>by simp [qaq] at h
 | .c2 (.xint _) _ _,i,ts,h=>by simp [qaq] at h
 | .c2 (.xbool _) _ _,i,ts,h=>by simp [qaq] at h
 | .c2 .veq _ _,i,ts,h=>by simp [qaq] at h
 | .c2 .slt _ _,i,ts,h=>by simp [qaq] at h
 | .c2 .sapp _ _,i,ts,h=>by simp [qaq] at h
 | .c2 .sat _ _,i,ts,h=>by simp [qaq] at h
 | .c2 .req _ _,i,ts,h=>by simp [qaq] at h
 | .c3 .xrows _ _ _,i,ts,h=>by simp [qaq] at h
 | .c3 .xcopy _ _ _,i,ts,h=>by simp [qaq] at h
 | .c3 .ssub _ _ _,i,ts,h=>by simp [qaq] at h
 | .c3 (.xput _) _ _ _,i,ts,h=>by simp [qaq] at h
 | .c3 .dsplice _ _ _,i,ts,h=>by simp [qaq] at h
 | .c3 (.dput c) d e r,i,ts,h=>by
  simp only [qaq] at h;split at h
  ·rename_i z ts0 vs hz h0 hr
   have g0:=qf0 h0;have gr:=qfw (Z:=Z) hr;have hlt:i < (d.den Z).d.length:=by
    rcases jbt i (d.den Z).d.length with h' | h'
    ·exact h'
    ·rw [jap h'] at g0; cases g0
   split at h
   ·rename_i hzi
    have hzi:=Nat.eq_of_beq_eq_true hzi;split at h
    ·simp only [jaa] at h; subst h
     simp only [T.den,O3.den,qH,qcg hz,hzi,gr,g0,jb5,jbi,qfL];rw [jdi hlt]
    ·cases h
   ·rename_i hzi
    simp only [jaa] at h; subst h;simp only [T.den,O3.den,qH,qcg hz];rw [List.getElem?_set_ne (fun he=>hzi (by rw [he]; simp))];exact g0
  ·cases h
 | .c3 (.vslice _ _) _ _ _,i,ts,h=>by simp [qaq] at h
 | .var m,i,n,h=>by simp [qaq] at h
 | .ife x y u v,i,n,h=>by simp [qaq] at h
theorem qrG {d e:T} {ts:List T} (h:qnW d e = some ts):(d.den Z).d[(e.den Z).i.toNat]? = some (qa Z ts):=by
 unfold qnW at h;split at h
 ·rename_i z hz
  rw [qcg hz]; exact qf0 h
 ·cases h
theorem qbe (d:T):((qaw d).den Z).i = ((d.den Z).d.length:Int):=by
 unfold qaw;split
 ·rename_i n hn; rw [qd1 hn]; simp [T.den,O0.den]
 ·exact qfl d
theorem qcF {e d:T} (h:((qs .lss e (qaw d)).den Z).b = true):(e.den Z).i < ((d.den Z).d.length:Int):=by
 rw [qT _ _ _ (by simp),qbe] at h;simpa [qS] using h
theorem qjJ {d e:T} {row:List Value} (hrow:(d.den Z).d[(e.den Z).i.toNat]? = some row) :
  ∀ (pat:List CK) (c:Nat),(∀ (j:Nat) (k:CK),pat[j]? = some k->∃ v,row[c + j]? = some v/\CK.fits k v = true) ->
   qa Z (qbq d e pat c) = (row.drop c).take pat.length
 | [],c,_=>by simp [qbq,qa]
 | k :: ks,c,h=>by
  obtain ⟨v,hv,hk⟩:=h 0 k (by simp);simp only [jcq] at hv;have hcell:qU (d.den Z).d (e.den Z).i c = v:=by simp [qU,hrow,hv]
  have ih:=qjJ hrow ks (c + 1) (fun j k' hk'=>by
   have:=h (j + 1) k' (by simpa using hk')
   rwa [show c + (j + 1) = c + 1 + j from by omega] at this)
  have hdrop:row.drop c = v :: row.drop (c + 1):=by
   have hc:c < row.length:=by
    rcases jbt c row.length with h | h
    ·exact h
    ·rw [jap h] at hv; cases hv
   rw [jcb hc]
   congr 1
   rw [jae hc,jaa] at hv;exact hv
  have hx:qa Z (qbq d e (k :: ks) c) = v :: qa Z (qbq d e ks (c + 1)):=by
   cases k with
   | int k =>
    simp only [qbq,qa,jaq,T.den,O1.den,O2.den,qc,hcell]
    congr 1
    cases v <;> simp_all [CK.fits,qbK]
   | bool =>
    simp only [qbq,qa,jaq,T.den,O1.den,O2.den,qcc,hcell]
    congr 1
    cases v <;> simp_all [CK.fits,qig]
   | any=>simp only [qbq,qa,jaq,T.den,O2.den,hcell]
  rw [hx,ih,hdrop];simp
theorem qdh (d e:T):∀ (pat:List CK) (c:Nat),(qbq d e pat c).length = pat.length
 | [],_=>rfl
 | .int _ :: ks,c=>by simp [qbq,qdh d e ks]
 | .bool :: ks,c=>by simp [qbq,qdh d e ks]
 | .any :: ks,c=>by simp [qbq,qdh d e ks]
theorem qdD {k:CK}:∀ {l:List CK} {i:Nat},i < qbL k l->l[i]? = some k
 | [],i,h=>by simp [qbL] at h
 | x :: l,i,h=>by
  simp only [qbL] at h;split at h
  ·rename_i hx
   cases i with
   | zero=>rw [hx]; rfl
   | succ i=>simpa using qdD (l:=l) (i:=i) (by omega)
  ·omega
theorem qpN {x:SH} {e:T} {p c n r:Nat} {cs needs:List T} (h:qmZ x e p c n = some (cs,needs)) {H:Hp} (hx:x.roden Z H) (hr:x.reg = some r)
  (hn:∀ c ∈ needs,(c.den Z).b = true) :
  cs.length = n/\∃ b o c' ty fr,(Z r).r = some ⟨b,o,none⟩/\H b = some (.cells c' ty fr) /\
   ∀ (k:Nat) (v:Value),(qa Z cs)[k]? = some v->c'[o + ((e.den Z).i.toNat * p + c) + k]? = some v:=by
 cases x with
 | cells r' ty ts =>
  simp only [SH.reg,jaa] at hr; subst hr;simp only [qmZ] at h;split at h
  ·rename_i z hz
   split at h
   ·rename_i hc
    simp only [jaa,jam] at h;obtain ⟨rfl,rfl⟩:=h;have he:(e.den Z).i = z:=by unfold T.isLit at hz; split at hz <;> simp_all [T.den,O0.den]
    obtain ⟨b,o,c',ty',fr,h1,h2,h3⟩:=hx;refine ⟨by simp; omega,b,o,c',ty',fr,h1,h2,fun k v hv=>?_⟩;rw [he];have:=h3 (z.toNat * p + c + k) v ?_
    ·rw [show o + (z.toNat * p + c) + k = o + (z.toNat * p + c + k) from by omega]; exact this
    ·simp only [qa,jcz,List.map_drop] at hv ⊢
     rw [jbe] at hv;split at hv
     ·rw [jbf] at hv; exact hv
     ·cases hv
   ·simp at h
  ·simp at h
 | arr r' ty pat d cap =>
  simp only [SH.reg,jaa] at hr; subst hr;simp only [qmZ] at h;split at h
  ·rename_i hc
   simp only [jad,jdg] at hc;have hp:=Nat.eq_of_beq_eq_true hc.1;split at h
   ·rename_i ts hts
    simp only [jaa,jam] at h;obtain ⟨rfl,rfl⟩:=h;have hrow:=qrG (Z:=Z) hts;rcases hx with hd | ⟨b,o,c',ty',fr,g1,g2,g3⟩
    ·rw [hd] at hrow; simp at hrow
    ·obtain ⟨hfit,hcells⟩:=g3 _ _ hrow
     have hl:=hfit.1;simp only [qa,jaz] at hl;refine ⟨by simp; omega,b,o,c',ty',fr,g1,g2,fun k v hv=>?_⟩;simp only [qa,jcz,List.map_drop] at hv;rw [jbe] at hv;split at hv
     ·rw [jbf] at hv
      have:=hcells _ _ hv;rw [hp,show o + ((e.den Z).i.toNat * pat.length + c) + k = o + (e.den Z).i.toNat * pat.length + (c + k) from by omega];exact this
     ·cases hv
   rename_i hstat;simp only [jaa,jam] at h;obtain ⟨rfl,rfl⟩:=h;have h0:=qz (hn _ (jac ..));have h1:=qcF (hn _ (jab _ (jac ..)));have hlt:(e.den Z).i.toNat < (d.den Z).d.length:=by omega
   have hrow:=jae hlt;rcases hx with hd | ⟨b,o,c',ty',fr,g1,g2,g3⟩
   ·rw [hd] at hlt; simp at hlt
   ·obtain ⟨hfit,hcells⟩:=g3 _ _ hrow
    refine ⟨by rw [qdh]; simp; omega,b,o,c',ty',fr,g1,g2,fun k v hv=>?_⟩;rw [qjJ hrow _ c (fun j kk hj=>?_)] at hv
    ·rw [jbe] at hv
     split at hv
     ·rw [jbf] at hv
      have:=hcells _ _ hv;rw [hp,show o + ((e.den Z).i.toNat * pat.length + c) + k = o + (e.den Z).i.toNat * pat.length + (c + k) from by omega];exact this
     ·cases hv
    ·rw [jbe] at hj
     split at hj
     ·rw [jbf] at hj
      have hlt2:c + j < ((d.den Z).d[(e.den Z).i.toNat]).length:=by
       rw [hfit.1];rcases jbt (c + j) pat.length with h | h
       ·exact h
       ·rw [jap h] at hj; cases hj
      exact ⟨_,jae hlt2,hfit.2 _ _ _ hj (jae hlt2)⟩
     ·cases hj
  ·split at h
   ·rename_i hc1
    simp only [jad] at hc1;have hp1:=Nat.eq_of_beq_eq_true hc1.1;have hn1:=Nat.eq_of_beq_eq_true hc1.2;subst hp1; subst hn1;split at h
    ·rename_i kk hk
     simp only [jaa,jam] at h;obtain ⟨rfl,rfl⟩:=h;have h0:=qz (hn _ (jac ..));have h1:=hn _ (jab _ (jac ..));rw [qT _ _ _ (by simp)] at h1;have h1:(e.den Z).i < ((qbL (.int kk) (pat.drop c):Nat):Int):=jba h1;have h2:=qcF (hn _ (jab _ (jab _ (jac ..))));simp only [T.den,O0.den] at h2;rcases hx with hd | ⟨b,o,c',ty',fr,g1,g2,g3⟩
     ·rw [hd] at h2; simp at h2
     ·obtain ⟨row,rest,hdd⟩:∃ row rest,(d.den Z).d = row :: rest:=by
       cases hdd:(d.den Z).d with
       | nil=>rw [hdd] at h2; simp at h2
       | cons row rest=>exact ⟨row,rest,rfl⟩
      obtain ⟨hfit,hcells⟩:=g3 0 row (by rw [hdd]; rfl);have hki:pat[c + (e.den Z).i.toNat]? = some (.int kk):=by
       have:=qdD (k:=.int kk) (l:=pat.drop c) (i:=(e.den Z).i.toNat) (by omega);rw [jbf] at this; exact this
      have hlt:c + (e.den Z).i.toNat < row.length:=by
       rw [hfit.1]; exact (jal.1 hki).1
      have hrow:=jae hlt;have hf:=hfit.2 _ _ _ hki hrow;obtain ⟨z,hz⟩:∃ z,row[c + (e.den Z).i.toNat] = .int kk z:=by
       cases hv:row[c + (e.den Z).i.toNat] <;> rw [hv] at hf <;> simp [CK.fits] at hf;subst hf; exact ⟨_,rfl⟩
      refine ⟨rfl,b,o,c',ty',fr,g1,g2,fun k v hv=>?_⟩;cases k with
      | zero =>
       simp only [qa,jaq,jbl,ja7,jaa] at hv;subst hv;have hcell:=hcells _ _ hrow;rw [show o + ((e.den Z).i.toNat * 1 + c) + 0 = o + 0 * pat.length + (c + (e.den Z).i.toNat) by omega,hcell,hz];simp only [T.den,O1.den,O2.den,qnb,hdd,jb5];rw [show (e.den Z).i.toNat + c = c + (e.den Z).i.toNat by omega,hrow,hz]; rfl
      | succ k=>simp [qa] at hv
    ·rename_i hk
     simp only [jaa,jam] at h;obtain ⟨rfl,rfl⟩:=h;have h0:=qz (hn _ (jac ..));have h1:=hn _ (jab _ (jac ..));rw [qT _ _ _ (by simp)] at h1;have h1:(e.den Z).i < ((qbL .bool (pat.drop c):Nat):Int):=jba h1;have h2:=qcF (hn _ (jab _ (jab _ (jac ..))));simp only [T.den,O0.den] at h2;rcases hx with hd | ⟨b,o,c',ty',fr,g1,g2,g3⟩
     ·rw [hd] at h2; simp at h2
     ·obtain ⟨row,rest,hdd⟩:∃ row rest,(d.den Z).d = row :: rest:=by
       cases hdd:(d.den Z).d with
       | nil=>rw [hdd] at h2; simp at h2
       | cons row rest=>exact ⟨row,rest,rfl⟩
      obtain ⟨hfit,hcells⟩:=g3 0 row (by rw [hdd]; rfl);have hki:pat[c + (e.den Z).i.toNat]? = some .bool:=by
       have:=qdD (k:=.bool) (l:=pat.drop c) (i:=(e.den Z).i.toNat) (by omega);rw [jbf] at this; exact this
      have hlt:c + (e.den Z).i.toNat < row.length:=by
       rw [hfit.1]; exact (jal.1 hki).1
      have hrow:=jae hlt;have hf:=hfit.2 _ _ _ hki hrow;obtain ⟨z,hz⟩:∃ z,row[c + (e.den Z).i.toNat] = .bool z:=by
       cases hv:row[c + (e.den Z).i.toNat] <;> rw [hv] at hf <;> first | exact ⟨_,rfl⟩ | simp [CK.fits] at hf
      refine ⟨rfl,b,o,c',ty',fr,g1,g2,fun k v hv=>?_⟩;cases k with
      | zero =>
       simp only [qa,jaq,jbl,ja7,jaa] at hv;subst hv;have hcell:=hcells _ _ hrow;rw [show o + ((e.den Z).i.toNat * 1 + c) + 0 = o + 0 * pat.length + (c + (e.den Z).i.toNat) by omega,hcell,hz];simp only [T.den,O1.den,O2.den,qmD,hdd,jb5];rw [show (e.den Z).i.toNat + c = c + (e.den Z).i.toNat by omega,hrow,hz]; rfl
      | succ k=>simp [qa] at hv
    ·simp at h
   ·simp at h
 | abs m t=>simp [SH.reg] at hr
theorem qtX {x:SH} {e:T} {p:Nat}:(e.den Z).i.toNat * qq8 x e p = (e.den Z).i.toNat * p:=by
 unfold qq8;split
 ·rename_i hz
  have he:(e.den Z).i = 0:=by unfold T.isLit at hz; split at hz <;> simp_all [T.den,O0.den]
  rw [he]; simp
 ·rfl
theorem qdU {x:SH} {e:T} {p c n r:Nat} {cs needs:List T} (h:qpC x e p c n = some (cs,needs)) {H:Hp} (hx:x.roden Z H) (hr:x.reg = some r)
  (hn:∀ c ∈ needs,(c.den Z).b = true) :
  cs.length = n/\∃ b o c' ty fr,(Z r).r = some ⟨b,o,none⟩/\H b = some (.cells c' ty fr) /\
   ∀ (k:Nat) (v:Value),(qa Z cs)[k]? = some v->c'[o + ((e.den Z).i.toNat * p + c) + k]? = some v:=by
 have:=qpN h hx hr hn
 rwa [qtX] at this
theorem qbz {b off:Nat} {c:Array Value} {ty:TypeId} {fr:Nat × Nat} (h:w.heap[b]? = some (.cells c ty fr)):w.cell? ⟨b,off,none⟩ = c[off]?:=by
 simp [World.cell?,h]
theorem addr_add {b off j:Nat}:(⟨b,off,none⟩:Addr).add j = ⟨b,off + j,none⟩:=by
 unfold Addr.add; split <;> simp_all
theorem qcZ {t:TypeId} {ag:Bool} {n b off:Nat} {c:Array Value} {ty:TypeId} {fr:Nat × Nat} {vs:List Value}
  (ha:qcB P t = some ag) (hn:qao P t = some n) (hb:w.heap[b]? = some (.cells c ty fr)) (hl:vs.length = n)
  (hc:∀ (k:Nat) (v:Value),vs[k]? = some v->c[off + k]? = some v) (h1:ag = false->n = 1) :
  (loadVar t ⟨b,off,none⟩).run P w = .ok (if ag then .agg vs.toArray else vs.headD .nilFunc) w:=by
 unfold loadVar;simp only [Sem.run_bind,qei ha,Result.andThen_ok];cases ag with
 | true =>
  simp only [ja5,Sem.run_bind,qaW hn,Result.andThen_ok];rw [<- hl,run_loadCells_list (P:=P) w ⟨b,off,none⟩ vs (fun j v hv=>by rw [addr_add,qbz hb]; exact hc j v hv)];rfl
 | false =>
  have h1:=h1 rfl
  match vs,hl with
  | [v],_ =>
   have:=hc 0 v (by simp);simp only [jcq] at this;simp [qbz hb,this]
  | [],hl=>simp at hl; omega
  | _ :: _ :: _,hl=>simp at hl; omega
end Go.Eng
namespace Go.Eng
open Go
variable {P:Program} {Z:Env} {hF:Fr} {s:S} {a:Act} {w:World}
def qt (Z:Env) (hF:Fr) (heap:List SH) (w:World):Prop:=∃ hO,Hp.disj hF hO/\qD Z heap hO/\(Hp.union hF hO).sub w/\hF.wi w
def qhf (c0 c1:Array Value) (i:Nat) (vs:List Value):Prop :=
 c1.size = c0.size/\∀ j,c1[j]? = if i <= j/\j < i + vs.length then vs[j - i]? else c0[j]?
def Put (h h':Hp) (r:Option Addr) (pat:List CK) (d:List (List Value)) (k:Nat) (vs:List Value):Prop :=
 ∃ b o c0 c1 ty,r = some ⟨b,o,none⟩/\h b = some (.cells c0 ty (0,0))/\qaA c0 o pat d/\qhf c0 c1 (o + k) vs/\h' = Hp.upd h b (.cells c1 ty (0,0))
theorem qc9 {b off:Nat} {ty:TypeId}:∀ (vs:List Value) (i:Nat) (c0:Array Value) (w:World),w.heap[b]? = some (.cells c0 ty (0,0)) ->
  (∀ v ∈ vs,v.oneCell' = true)->off + i + vs.length <= c0.size ->
  ∃ w' c1,(storeCells ⟨b,off,none⟩ vs i).run P w = .ok () w'/\w'.heap[b]? = some (.cells c1 ty (0,0))/\(∀ b',b' ≠ b->w'.heap[b']? = w.heap[b']?)/\qhf c0 c1 (off + i) vs/\w'.os = w.os/\w'.output = w.output
 | [],i,c0,w,hb,_,_=>⟨w,c0,by simp [storeCells],hb,fun _ _=>rfl,⟨rfl,fun j=>by rw [jaf (by simp)]⟩,rfl,rfl⟩
 | v :: vs,i,c0,w,hb,hv,hl=>by
  simp only [jbh] at hl;have hlt:off + i < c0.size:=by omega
  have hcell:w.cell? ⟨b,off + i,none⟩ = some c0[off + i]:=by simp [qbz hb,hlt]
  have hfr:w.frozen? ⟨b,off + i,none⟩ = false:=by simp [World.frozen?,hb]
  have hset:(w.setCell ⟨b,off + i,none⟩ v).heap[b]? = some (.cells (c0.setIfInBounds (off + i) v) ty (0,0)):=by
   simp only [World.setCell,jct,ja5,hb,ja9];simp
  have hoth:∀ b',b' ≠ b->(w.setCell ⟨b,off + i,none⟩ v).heap[b']? = w.heap[b']?:=fun b' hne=>by
   simp only [World.setCell,jct];rw [jaf (fun h=>hne h.symm)]
  obtain ⟨w',c1,hrun,h1,h2,⟨h3,h4⟩,ho⟩:=qc9 (off:=off) vs (i + 1) (c0.setIfInBounds (off + i) v) _ hset (fun x hx=>hv x (jab _ hx)) (by simp only [Array.size_setIfInBounds]; omega);refine ⟨w',c1,?_,h1,fun b' hne=>(h2 b' hne).trans (hoth b' hne),⟨by simpa using h3,fun j=>?_⟩,ho⟩
  ·simp only [storeCells,addr_add,Sem.run_bind]
   rw [run_store P w _ v _ (hv v (jac ..)),hcell];simp only [hfr,jan,ja3,Result.andThen_ok];exact hrun
  ·rw [h4 j]
   simp only [jbh];by_cases hj:j = off + i
   ·subst hj
    rw [jaf (by omega),jag (by omega)];simp [hlt]
   ·by_cases hin:off + (i + 1) <= j/\j < off + (i + 1) + vs.length
    ·rw [jag hin,jag (by omega)]
     rw [show j - (off + i) = (j - (off + (i + 1))) + 1 from by omega,ja1]
    ·rw [jaf hin,jaf (by omega)]
     rw [jcv (fun h=>hj h.symm)]
theorem qjY {t:TypeId} {n b off:Nat} {c0:Array Value} {ty:TypeId} {v:Value} {vs:List Value} (hn:qao P t = some n) (hcs:v.cells = vs.toArray) (hl:vs.length = n)
  (hb:w.heap[b]? = some (.cells c0 ty (0,0))) (hv:∀ v ∈ vs,v.oneCell' = true) (hs:off + vs.length <= c0.size) :
  ∃ w' c1,(storeVar t ⟨b,off,none⟩ v).run P w = .ok () w'/\w'.heap[b]? = some (.cells c1 ty (0,0))/\(∀ b',b' ≠ b->w'.heap[b']? = w.heap[b']?)/\qhf c0 c1 off vs/\w'.os = w.os/\w'.output = w.output:=by
 obtain ⟨w',c1,h1,h2,h3,h4,ho⟩:=qc9 (P:=P) (b:=b) (off:=off) vs 0 c0 w hb hv (by simpa using hs);refine ⟨w',c1,?_,h2,h3,by simpa using h4,ho⟩;unfold storeVar;simp only [Sem.run_bind,qaW hn,Result.andThen_ok,hcs];have:vs.toArray.size = n:=by simpa using hl
 simp only [this,ne_eq,not_true_eq_false,ja3,Sem.run_pure,Result.andThen_ok];simpa using h1
theorem qcP {row:List Value} {c:Nat} {vs:List Value} (h:c + vs.length <= row.length) (j:Nat) :
  (qba row c vs)[j]? = if c <= j/\j < c + vs.length then vs[j - c]? else row[j]?:=by
 unfold qba;by_cases h1:j < c
 ·rw [jaf (by omega),jbv,jbs (by simp; omega),List.getElem?_take_of_lt h1]
 ·by_cases h2:j < c + vs.length
  ·rw [jag (by omega),jbv,jbd (by simp; omega)]
   simp only [jbc];rw [jd7 (by omega),jbs (by omega)]
  ·rw [jaf (by omega),jbv,jbd (by simp; omega)]
   simp only [jbc];rw [jd7 (by omega),jbd (by omega),jbf]
   congr 1; omega
theorem qp5 {row:List Value} {c:Nat} {vs:List Value} (h:c + vs.length <= row.length):(qba row c vs).length = row.length:=by
 simp [qba]; omega
theorem qjU (hg:Z.good) {x x':SH} {e:T} {p c r:Nat} {vs needs:List T} (h:qhA x e p c vs = some (x',needs)) {H:Hp} (hx:x.den Z H) (hr:x.reg = some r)
  (hn:∀ c ∈ needs,(c.den Z).b = true) :
  ∃ b c0 ty,(Z r).r = some ⟨b,0,none⟩/\H b = some (.cells c0 ty (0,0))/\(e.den Z).i.toNat * p + c + vs.length <= c0.size /\
   ∀ c1,qhf c0 c1 ((e.den Z).i.toNat * p + c) (qa Z vs)->x'.den Z (Hp.upd H b (.cells c1 ty (0,0))):=by
 cases x with
 | cells r' ty ts =>
  simp only [SH.reg,jaa] at hr; subst hr;simp only [qhA] at h;split at h
  ·rename_i z hz
   split at h
   ·rename_i hc
    simp only [jaa,jam] at h;obtain ⟨rfl,rfl⟩:=h;have he:(e.den Z).i = z:=by unfold T.isLit at hz; split at hz <;> simp_all [T.den,O0.den]
    obtain ⟨b,h1,h2⟩:=hx;refine ⟨b,_,ty,h1,h2,by rw [he]; simp [qa]; omega,fun c1 hw=>?_⟩;rw [he] at hw;refine ⟨b,h1,?_⟩;simp only [Hp.upd,ja5,jaa]
    congr 1
    apply jec;intro j;rw [hw.2 j];simp only [jcu,qfL];rw [qcP (by simp [qa]; omega)]
   ·simp at h
  ·simp at h
 | arr r' ty pat d cap =>
  simp only [SH.reg,jaa] at hr; subst hr;simp only [qhA] at h;split at h
  ·rename_i hc
   simp only [jad,jdg] at hc;have hp:=Nat.eq_of_beq_eq_true hc.1.1;simp only [jaa,jam] at h;obtain ⟨rfl,rfl⟩:=h;have h0:=qz (hn _ (jac ..));have h1:=qcF (hn _ (jab _ (jac ..)));have hlt:(e.den Z).i.toNat < (d.den Z).d.length:=by omega
   have hrow:=jae hlt;rcases hx with ⟨_,hd,_⟩ | ⟨b,c0,g1,g2,g3,g4,g5⟩
   ·rw [hd] at hlt; simp at hlt
   ·obtain ⟨hfit,hcells⟩:=g5 _ _ hrow
    have hvl:(qa Z vs).length = vs.length:=by simp [qa]
    have hcapn:(d.den Z).d.length <= (cap.den Z).i.toNat:=by omega
    have hmul:((e.den Z).i.toNat + 1) * p <= (cap.den Z).i.toNat * p:=jby _ (by omega);have hsz:(e.den Z).i.toNat * p + c + vs.length <= c0.size:=by
     rw [g3,<- hp];rw [jbq,Nat.one_mul] at hmul;omega
    refine ⟨b,c0,ty,g1,g2,hsz,fun c1 hw=>.inr ⟨b,c1,g1,by simp [Hp.upd],by rw [hw.1,g3],?_,?_⟩⟩
    ·simp only [T.den,O3.den,qH,ja8]; exact g4
    ·simp only [T.den,O3.den,qgg,qH,hrow,jbi]
     intro i row hi;rw [ja4] at hi;split at hi
     ·rename_i hie
      subst hie;simp only [hlt,ja5,jaa] at hi;subst hi;have hle:c + (qa Z vs).length <= ((d.den Z).d[(e.den Z).i.toNat]).length:=by rw [hfit.1,hvl]; omega
      refine ⟨⟨by rw [qp5 hle,hfit.1],fun j k v hk hv=>?_⟩,fun k v hv=>?_⟩
      ·rw [qcP hle] at hv
       split at hv
       ·rename_i hin
        refine qeK hg hc.2 (j - c) k v ?_ hv;rw [jbf,show c + (j - c) = j from by omega]; exact hk
       ·exact hfit.2 j k v hk hv
      ·rw [qcP hle] at hv
       rw [hw.2];rw [hp];split at hv
       ·rename_i hin
        rw [jag (by omega)];rw [show 0 + (e.den Z).i.toNat * pat.length + k - ((e.den Z).i.toNat * pat.length + c) = k - c from by omega];exact hv
       ·rw [jaf (by omega)]
        exact hcells k v hv
     ·rename_i hie
      obtain ⟨hf2,hc2⟩:=g5 i row hi;refine ⟨hf2,fun k v hv=>?_⟩;have hkl:k < pat.length:=by
       rw [<- hf2.1];rcases jbt k row.length with h | h
       ·exact h
       ·rw [jap h] at hv; cases hv
      rw [hw.2,jaf ?_]
      ·exact hc2 k v hv
      ·rintro ⟨q1,q2⟩
       rw [hvl] at q2;rw [hp] at q1 q2;have hcl:c + vs.length <= pat.length:=by rw [<- hp]; exact hc.1.2
       have e1:(i * pat.length + k) / pat.length = i:=by
        rw [jdd,Nat.mul_add_div (by omega),Nat.div_eq_of_lt hkl]; omega
       have e2:(i * pat.length + k) / pat.length = (e.den Z).i.toNat:=by
        have:i * pat.length + k = pat.length * (e.den Z).i.toNat + (i * pat.length + k - (e.den Z).i.toNat * pat.length):=by
         rw [jdd pat.length]; omega
        rw [this,Nat.mul_add_div (by omega),Nat.div_eq_of_lt (by omega)]; omega
       exact hie (e2.symm.trans e1)
  ·split at h
   ·rename_i hc1
    have hp1:=Nat.eq_of_beq_eq_true hc1;subst hp1;split at h
    ·rename_i kk v hk hvs
     split at h
     ·rename_i hfv
      simp only [jaa,jam] at h;obtain ⟨rfl,rfl⟩:=h;have h0:=qz (hn _ (jac ..));have h1:=hn _ (jab _ (jac ..));rw [qT _ _ _ (by simp)] at h1;have h1:(e.den Z).i < ((qbL (.int kk) (pat.drop c):Nat):Int):=jba h1;have h2:=qcF (hn _ (jab _ (jab _ (jac ..))));simp only [T.den,O0.den] at h2;rcases hx with ⟨_,hd,_⟩ | ⟨b,c0,g1,g2,g3,g4,g5⟩
      ·rw [hd] at h2; simp at h2
      ·obtain ⟨row,rest,hdd⟩:∃ row rest,(d.den Z).d = row :: rest:=by
        cases hdd:(d.den Z).d with
        | nil=>rw [hdd] at h2; simp at h2
        | cons row rest=>exact ⟨row,rest,rfl⟩
       obtain ⟨hfit,hcells⟩:=g5 0 row (by rw [hdd]; rfl);have hki:pat[(e.den Z).i.toNat + c]? = some (.int kk):=by
        have:=qdD (k:=.int kk) (l:=pat.drop c) (i:=(e.den Z).i.toNat) (by omega);rw [jbf,jdl] at this; exact this
       have hlt:(e.den Z).i.toNat + c < pat.length:=(jal.1 hki).1;have hcap:1 <= (cap.den Z).i.toNat:=by rw [hdd] at g4; simp at g4; omega
       have hsize:pat.length <= c0.size:=by
        rw [g3];have:=jby pat.length hcap;omega
       refine ⟨b,c0,ty,g1,g2,by simp [qa]; omega,fun c1 hw=>.inr ⟨b,c1,g1,by simp [Hp.upd],by rw [hw.1,g3],?_,?_⟩⟩
       ·simp only [T.den,O3.den,hdd,qi1,jbh]
        rw [hdd] at g4; simpa using g4
       ·simp only [T.den,O3.den,hdd,qi1]
        have hw2:=hw.2;simp only [qa,jaq,jbl,jbh,jcm,Nat.mul_one] at hw2;intro i row' hi;cases i with
        | zero =>
         simp only [ja7,jaa] at hi;subst hi;refine ⟨⟨by rw [ja8,hfit.1],fun j k v' hk' hv'=>?_⟩,fun k v' hv'=>?_⟩
         ·rw [ja4] at hv'
          split at hv'
          ·rename_i hj
           split at hv'
           ·simp only [jaa] at hv'; subst hv'
            subst hj;rw [hki] at hk';obtain rfl:=jat hk';have:=qeK hg (ks:=[.int kk]) (ts:=[v]) (by simp only [qdP,hfv,Bool.and_self]) 0 (.int kk) ((v.den Z).v) rfl rfl;exact this
           ·cases hv'
          ·exact hfit.2 j k v' hk' hv'
         ·rw [hw2]
          rw [ja4] at hv';split at hv'
          ·rename_i hj
           split at hv'
           ·rw [jag (by omega),show 0 + 0 * pat.length + k - ((e.den Z).i.toNat + c) = 0 by omega]
            exact hv'
           ·cases hv'
          ·rename_i hj
           rw [jaf (by omega)];exact hcells k v' hv'
        | succ i =>
         simp only [ja1] at hi;obtain ⟨f2,c2⟩:=g5 (i + 1) row' (by rw [hdd]; simpa using hi);refine ⟨f2,fun k v' hv'=>?_⟩;rw [hw2,jaf ?_]
         ·exact c2 k v' hv'
         ·rw [jbq]; omega
     ·simp at h
    ·rename_i v hk hvs
     split at h
     ·rename_i hfv
      simp only [jaa,jam] at h;obtain ⟨rfl,rfl⟩:=h;have h0:=qz (hn _ (jac ..));have h1:=hn _ (jab _ (jac ..));rw [qT _ _ _ (by simp)] at h1;have h1:(e.den Z).i < ((qbL .bool (pat.drop c):Nat):Int):=jba h1;have h2:=qcF (hn _ (jab _ (jab _ (jac ..))));simp only [T.den,O0.den] at h2;rcases hx with ⟨_,hd,_⟩ | ⟨b,c0,g1,g2,g3,g4,g5⟩
      ·rw [hd] at h2; simp at h2
      ·obtain ⟨row,rest,hdd⟩:∃ row rest,(d.den Z).d = row :: rest:=by
        cases hdd:(d.den Z).d with
        | nil=>rw [hdd] at h2; simp at h2
        | cons row rest=>exact ⟨row,rest,rfl⟩
       obtain ⟨hfit,hcells⟩:=g5 0 row (by rw [hdd]; rfl);have hki:pat[(e.den Z).i.toNat + c]? = some .bool:=by
        have:=qdD (k:=.bool) (l:=pat.drop c) (i:=(e.den Z).i.toNat) (by omega);rw [jbf,jdl] at this; exact this
       have hlt:(e.den Z).i.toNat + c < pat.length:=(jal.1 hki).1;have hcap:1 <= (cap.den Z).i.toNat:=by rw [hdd] at g4; simp at g4; omega
       have hsize:pat.length <= c0.size:=by
        rw [g3];have:=jby pat.length hcap;omega
       refine ⟨b,c0,ty,g1,g2,by simp [qa]; omega,fun c1 hw=>.inr ⟨b,c1,g1,by simp [Hp.upd],by rw [hw.1,g3],?_,?_⟩⟩
       ·simp only [T.den,O3.den,hdd,qi1,jbh]
        rw [hdd] at g4; simpa using g4
       ·simp only [T.den,O3.den,hdd,qi1]
        have hw2:=hw.2;simp only [qa,jaq,jbl,jbh,jcm,Nat.mul_one] at hw2;intro i row' hi;cases i with
        | zero =>
         simp only [ja7,jaa] at hi;subst hi;refine ⟨⟨by rw [ja8,hfit.1],fun j k v' hk' hv'=>?_⟩,fun k v' hv'=>?_⟩
         ·rw [ja4] at hv'
          split at hv'
          ·rename_i hj
           split at hv'
           ·simp only [jaa] at hv'; subst hv'
            subst hj;rw [hki] at hk';obtain rfl:=jat hk';have:=qeK hg (ks:=[.bool]) (ts:=[v]) (by simp only [qdP,hfv,Bool.and_self]) 0 .bool ((v.den Z).v) rfl rfl;exact this
           ·cases hv'
          ·exact hfit.2 j k v' hk' hv'
         ·rw [hw2]
          rw [ja4] at hv';split at hv'
          ·rename_i hj
           split at hv'
           ·rw [jag (by omega),show 0 + 0 * pat.length + k - ((e.den Z).i.toNat + c) = 0 by omega]
            exact hv'
           ·cases hv'
          ·rename_i hj
           rw [jaf (by omega)];exact hcells k v' hv'
        | succ i =>
         simp only [ja1] at hi;obtain ⟨f2,c2⟩:=g5 (i + 1) row' (by rw [hdd]; simpa using hi);refine ⟨f2,fun k v' hv'=>?_⟩;rw [hw2,jaf ?_]
         ·exact c2 k v' hv'
         ·rw [jbq]; omega
     ·simp at h
    ·simp at h
   ·simp at h
 | abs m t=>simp [SH.reg] at hr
theorem qt.alloc {heap:List SH} {w:World} {nx:Nat} {cs:List T} {ty:TypeId} {c:Array Value} (h:qt Z hF heap w) (hsc:heap.all (SH.inB nx) = true)
  (hcs:qa (Z.set nx { r:=some ⟨w.heap.size,0,none⟩ }) cs = c.toList) :
  qt (Z.set nx { r:=some ⟨w.heap.size,0,none⟩ }) hF (.cells nx ty cs :: heap) { w with heap:=w.heap.push (.cells c ty) }:=by
 obtain ⟨hO,hd,hst,hsub,hwi⟩:=h;have hlt:∀ y o,Hp.union hF hO y = some o->y < w.heap.size:=fun y o hy=>by
  have:=hsub y o hy;rcases jbt y w.heap.size with h | h
  ·exact h
  ·rw [jb8 h] at this; cases this
 have hno:∀ h',Hp.le h' (Hp.union hF hO)->Hp.disj h' (Hp.one w.heap.size (.cells c ty)):=fun h' hl y=>by
  by_cases hy:y = w.heap.size
  ·left
   cases hx:h' y with
   | none=>rfl
   | some o=>have:=hlt y o (hl y o hx); omega
  ·right; simp [Hp.one,hy]
 refine ⟨Hp.union (Hp.one w.heap.size (.cells c ty)) hO,?_,⟨_,hO,(hno hO (Hp.le_right hd)).symm,rfl,⟨w.heap.size,by simp,?_⟩,?_⟩,?_⟩
 ·exact Hp.disj_union.2 ⟨hno hF (Hp.le_left _ _),hd⟩
 ·rw [hcs]; simp [Hp.one]
 ·exact qaS (n:=nx) (fun m hm=>(Env.set_ne Z _ (by omega)).symm) _ hsc _ hst
 ·refine ⟨fun y o hy=>?_,hwi⟩
  by_cases hyb:y = w.heap.size
  ·subst hyb
   have:hF w.heap.size = none:=by
    cases hx:hF w.heap.size with
    | none=>rfl
    | some o'=>have:=hlt w.heap.size o' (Hp.le_left _ _ _ _ hx); omega
   simp only [Hp.union,this,Hp.one,ja5,jbg,jcj,jaa] at hy;subst hy;simp
  ·have hy':Hp.union hF hO y = some o:=by
    simp only [Hp.union,Hp.one,hyb,ja3,jbg] at hy ⊢;exact hy
   have h1:=hsub y o hy';have h2:=hlt y o hy';rw [jdz h2]
   rwa [jcd h2] at h1
end Go.Eng
namespace Go.Eng
open Go
variable {P:Program} {Z:Env} {hF:Fr} {s:S} {a:Act} {w:World} {o:Oper} {r:R1}
def qr (Z:Env) (n:Nat):List U->Env
 | []=>Z
 | u :: us=>qr (Z.set n u) (n + 1) us
def Ran (P:Program) (a:Act) (o:Oper) (Z:Env) (val:Option SV) (w w':World):Prop :=
 match val with
 | some v=>(execOp a.eval o).run P w = .ok (.value (v.den Z)) w'
 | none=>(execOp a.eval o).run P w = .ok .skip w'
def qe (P:Program) (Z:Env) (hF:Fr) (s:S) (a:Act) (w:World) (o:Oper) (r:R1):Prop :=
 ∃ us w',us.length = r.fresh/\(∀ u ∈ us,u.good)/\qt (qr Z s.nx us) hF r.heap w'/\Ran P a o (qr Z s.nx us) r.val w w'/\(r.fresh = 0->r.val.isSome = true->w' = w)
theorem qe.quiet {needs:List T} {v:SV} (hs:Holds Z hF s a w) (h:(execOp a.eval o).run P w = .ok (.value (v.den Z)) w) :
  qe P Z hF s a w o { needs,fresh:=0,heap:=s.heap,val:=some v } :=
 ⟨[],w,rfl,by simp,hs.hp,h,fun _ _=>rfl⟩
theorem qoB {x:Operand} (hs:Holds Z hF s a w) (hop:o.op = .move x∨o.op = .assign x) (h:(opd s x).map (quiet s) = some r):qe P Z hF s a w o r:=by
 simp only [jah] at h;obtain ⟨v,hv,rfl⟩:=h;refine qe.quiet hs ?_;have:=hs.opd hv;rcases hop with hop | hop <;> simp [execOp,hop,this]
theorem qcX (hs:Holds Z hF s a w) {c:T} {b:Bool} (h:qfs c s.pc = some b):(c.den Z).b = b:=by
 have look:∀ {l:List (T × Bool)} {c:T} {b:Bool},(∀ c b,(c,b) ∈ l->(c.den Z).b = b)->qky c l = some b->(c.den Z).b = b:=by
  intro l
  induction l with
  | nil=>intro c b _ h; simp [qky] at h
  | cons x l ih =>
   intro c b hl h;obtain ⟨k,b'⟩:=x;simp only [qky] at h;split at h
   ·rename_i hsame
    simp only [jaa] at h;rw [T.same_eq hsame,<- h];exact hl k b' (jac ..)
   ·exact ih (fun c b hm=>hl c b (jab _ hm)) h
 unfold qfs at h;split at h
 ·simp only [jaa] at h; subst h; rfl
 ·simp only [jah] at h
  obtain ⟨b',h1,rfl⟩:=h;simp [T.den,O1.den,look hs.pc h1]
 ·exact look hs.pc h
theorem qvz {c x y:Operand} (hs:Holds Z hF s a w) (hop:o.op = .pick c x y) (h:qq P s o = some r):qe P Z hF s a w o r:=by
 simp only [qq,hop] at h;split at h
 ·rename_i t ht
  have hc:=hs.opd ht;simp only [SV.den,T.den,O1.den] at hc;split at h
  ·rename_i hk
   have hk:=qcX hs hk;simp only [jah] at h;obtain ⟨v,hv,rfl⟩:=h;refine qe.quiet hs ?_;simp [execOp,hop,hc,hk,asBool,hs.opd hv]
  ·rename_i hk
   have hk:=qcX hs hk;simp only [jah] at h;obtain ⟨v,hv,rfl⟩:=h;refine qe.quiet hs ?_;simp [execOp,hop,hc,hk,asBool,hs.opd hv]
  ·simp at h
 ·simp at h
theorem qsw (Z:Env) (n b:Nat):SV.den (Z.set n { r:=some ⟨b,0,none⟩ }) (.one (.vptr n (.lit 0) 0 0)) = .pointer (some ⟨b,0,none⟩):=by
 simp [SV.den,T.den,O0.den,O1.den,qj]
theorem qwI {ty:TypeId} {x:Operand} (hs:Holds Z hF s a w) (hop:o.op = .box ty x) (hsc:s.scopedEH = true) (h:qq P s o = some r):qe P Z hF s a w o r:=by
 simp only [qq,hop] at h;split at h
 ·rename_i cs hcs
  simp only [jaa] at h; subst h;simp only [jaj] at hcs;obtain ⟨v,hv,hc⟩:=hcs;have hin:=qrp hc (qj9 hsc hv);have hev:=hs.opd hv;have hcd:=qgX hs.gd hc;have hg:qa (Z.set s.nx { r:=some ⟨w.heap.size,0,none⟩ }) cs = qa Z cs:=qbn (fun m hm=>Env.set_ne Z _ (by omega)) cs hin;have hsh:s.heap.all (SH.inB s.nx) = true:=by simp only [S.scopedEH,jad] at hsc; exact hsc.2
  refine ⟨[{ r:=some ⟨w.heap.size,0,none⟩ }],_,rfl,by simp [U.good,Value.oneCell'],qt.alloc hs.hp hsh (c:=(v.den Z).cells) (by rw [hg,hcd]),?_,fun h=>by cases h⟩;simp only [Ran,qr,qsw];simp [execOp,hop,hev,Instr.box,newVar,newRow]
 ·simp at h
theorem qup {ty:TypeId} (hs:Holds Z hF s a w) (hop:o.op = .alloc ty) (hsc:s.scopedEH = true) (h:qq P s o = some r):qe P Z hF s a w o r:=by
 simp only [qq,hop] at h;split at h
 ·rename_i cs hcs
  simp only [jaa] at h; subst h;obtain ⟨v,hz,hcd⟩:=qj7 (P:=P) (Z:=Z.set s.nx { r:=some ⟨w.heap.size,0,none⟩ }) hcs w;have hsh:s.heap.all (SH.inB s.nx) = true:=by simp only [S.scopedEH,jad] at hsc; exact hsc.2
  refine ⟨[{ r:=some ⟨w.heap.size,0,none⟩ }],_,rfl,by simp [U.good,Value.oneCell'],qt.alloc hs.hp hsh (c:=v.cells) (by rw [hcd]),?_,fun h=>by cases h⟩;simp only [Ran,qr,qsw];simp [execOp,hop,Instr.alloc,hz,newVar,newRow]
 ·simp at h
theorem qav {t:T} {z:Int} (h:t.isLit = some z):t = .lit z:=by
 unfold T.isLit at h; split at h <;> simp_all
theorem qvn {t:TypeId} {x:Operand} (hs:Holds Z hF s a w) (hop:o.op = .load t x) (h:qq P s o = some r) (hn:∀ c ∈ r.needs,(c.den Z).b = true):qe P Z hF s a w o r:=by
 simp only [qq,hop] at h;split at h
 ·rename_i rg p c e ag n hx hag hsz
  have hev:=hs.opd hx;split at h
  ·rename_i k y hf
   obtain ⟨H,hsub,hro,hreg⟩:=hs.found hf;split at h
   ·rename_i cs needs hrd
    split at h
    ·rename_i hagt
     simp only [jaa] at h; subst h; subst hagt;obtain ⟨hl,b,off,c',ty,fr,h1,h2,h3⟩:=qdU hrd hro hreg hn;refine qe.quiet hs ?_;have hrun:=qcZ (P:=P) (w:=w) hag hsz (hsub _ _ h2) (by simp [qa,hl]) h3 (by simp);simp only [SV.den,T.den,O1.den,h1,qj,ja9] at hev ⊢;simp [execOp,hop,hev,Instr.loadAt,Instr.sureAddr,hrun]
    ·rename_i hagf
     split at h
     ·rename_i t' _
      simp only [jaa] at h; subst h;obtain ⟨hl,b,off,c',ty,fr,h1,h2,h3⟩:=qdU hrd hro hreg hn;refine qe.quiet hs ?_;have hagf':ag = false:=by simpa using hagf
      have hrun:=qcZ (P:=P) (w:=w) hag hsz (hsub _ _ h2) (by rw [<- hl]; simp [qa]) h3 (fun _=>by rw [<- hl]; rfl);subst hagf';simp only [SV.den,T.den,O1.den,h1,qj,ja9] at hev ⊢;simp [execOp,hop,hev,Instr.loadAt,Instr.sureAddr,hrun,qa]
     ·simp at h
   ·simp at h
  ·simp at h
 ·simp at h
theorem qt4 {t:TypeId} {x y:Operand} (hs:Holds Z hF s a w) (hop:o.op = .store t x y) (h:qq P s o = some r) (hn:∀ c ∈ r.needs,(c.den Z).b = true):qe P Z hF s a w o r:=by
 simp only [qq,hop] at h;split at h
 ·rename_i rg p c e vs n hx hvs hsz
  have hev:=hs.opd hx;split at h
  ·rename_i hlen
   have hlen:=Nat.eq_of_beq_eq_true hlen;split at h
   ·rename_i k x0 hat
    simp only [jah,jc4] at h;obtain ⟨x',needs,hwr,rfl⟩:=h;simp only [jaj] at hvs;obtain ⟨v,hv,hc⟩:=hvs;have hvev:=hs.opd hv;have hcd:=qgX hs.gd hc;obtain ⟨hk,hreg⟩:=qZ hat;obtain ⟨hO,hd,hst,hsub,hwi⟩:=hs.hp;obtain ⟨t1,t2,td,tu,tx,ts⟩:=qaz hst hk;obtain ⟨b,c0,ty,g1,g2,g3,g4⟩:=qjU hs.gd hwr tx hreg hn;have hle:Hp.le t1 (Hp.union hF hO):=Hp.le_trans (tu ▸ Hp.le_left t1 t2) (Hp.le_right hd);obtain ⟨w',c1,hrun,hw1,hw2,hwrote,hos⟩:=qjY (P:=P) (w:=w) (off:=(e.den Z).i.toNat * p + c) hsz hcd (by simp [qa,hlen]) (hsub _ _ (hle _ _ g2)) (qfU hs.gd vs)
     (by simpa [qa] using g3)
    have hdisj:Hp.disj (Hp.upd t1 b (.cells c1 ty (0,0))) t2:=fun y=>by
     rcases td y with h | h
     ·unfold Hp.upd
      split
      ·rename_i he; subst he; rw [g2] at h; cases h
      ·exact .inl h
     ·exact .inr h
    refine ⟨[],w',rfl,by simp,⟨Hp.union (Hp.upd t1 b (.cells c1 ty (0,0))) t2,?_,qcO hk ts hdisj (g4 c1 hwrote),?_,⟨hos.1.trans hwi.1,hos.2.trans hwi.2⟩⟩,?_,fun _ h=>by cases h⟩
    ·intro y
     rcases hd y with h | h
     ·exact .inl h
     ·right
      rw [tu] at h;simp only [Hp.union,jb3] at h ⊢;refine ⟨?_,h.2⟩;unfold Hp.upd;split
      ·rename_i he; subst he; rw [g2] at h; cases h.1
      ·exact h.1
    ·intro y ob hy
     by_cases hyb:y = b
     ·subst hyb
      have hFn:hF y = none:=(hd y).resolve_right (by rw [tu]; simp [Hp.union,g2]);simp only [Hp.union,hFn,Hp.upd,ja5,jbg,jcj,jaa] at hy;rw [hw1,hy]
     ·rw [hw2 y hyb]
      refine hsub y ob ?_;rw [tu];simp only [Hp.union,Hp.upd,hyb,ja3] at hy ⊢;exact hy
    ·simp only [Ran]
     simp only [SV.den,T.den,O1.den,g1,qj,ja9] at hev;simp [execOp,hop,hev,hvev,Instr.storeAt,Instr.sureAddr,hrun]
   ·simp at h
  ·simp at h
 ·simp at h
theorem qdf (hs:Holds Z hF s a w) {r:Nat} {e:T} (h:∀ c ∈ qfS s r e,(c.den Z).b = true):(Z r).r.isSome = true:=by
 unfold qfS at h;split at h
 ·rename_i r' ty cs hf
  obtain ⟨H,_,hro,hreg⟩:=hs.found hf;simp only [SH.reg,jaa] at hreg; subst hreg;obtain ⟨b,o,c,ty',fr,h1,_⟩:=hro;rw [h1]; rfl
 ·rename_i r' ty pat d cap hf
  obtain ⟨H,_,hro,hreg⟩:=hs.found hf;simp only [SH.reg,jaa] at hreg; subst hreg;have h0:=qz (h _ (jac ..));have h1:=qcF (h _ (jab _ (jac ..)));rcases hro with hd | ⟨b,o,c,ty',fr,h1,_⟩
  ·rw [hd] at h1; simp at h1; omega
  ·rw [h1]; rfl
 ·have:=h _ (jak.2 rfl)
  simp only [T.den,O0.den,O1.den] at this;cases hr:(Z r).r <;> simp_all
theorem qpy {x:Operand} (hs:Holds Z hF s a w) (hop:o.op = .nilCheck x) (h:qq P s o = some r) (hn:∀ c ∈ r.needs,(c.den Z).b = true):qe P Z hF s a w o r:=by
 simp only [qq,hop] at h;split at h
 ·rename_i rg p c e hx
  have hev:=hs.opd hx;simp only [jaa] at h; subst h;have ht:=qdf hs hn;refine qe.quiet hs ?_;simp only [SV.den,T.den,O1.den] at hev ⊢;obtain ⟨bo,hb⟩:=qcv ht ((e.den Z).i.toNat * p + c);rw [hb] at hev;simp [execOp,hop,hev,hb]
 ·simp at h
theorem qiU {t:TypeId} {f:Nat} {off:Nat} {u:TypeId} (h:qmk P t f = some (off,u)):∃ fs fd n,P.underlying t = some (.struct fs)/\fs[f]? = some fd/\qao P fd.type = some (n + 1)/\fd.offset = off/\fd.type = u:=by
 unfold qmk at h;split at h
 ·rename_i fs hu
  split at h
  ·rename_i fd hfd
   split at h
   ·rename_i n hn
    simp only [jaa,jam] at h;exact ⟨fs,fd,n,hu,hfd,hn,h.1,h.2⟩
   ·simp at h
  ·simp at h
 ·simp at h
theorem qn2 {t:TypeId} {x:Operand} {f:Nat} (hs:Holds Z hF s a w) (hop:o.op = .fieldAddr t x f) (h:qq P s o = some r) (hn:∀ c ∈ r.needs,(c.den Z).b = true):qe P Z hF s a w o r:=by
 simp only [qq,hop] at h;split at h
 ·rename_i rg p c e off u hx hf
  have hev:=hs.opd hx;simp only [jaa] at h; subst h;have ht:=qdf hs hn;obtain ⟨fs,fd,n,hu,hfd,hsz,rfl,rfl⟩:=qiU hf;refine qe.quiet hs ?_;simp only [SV.den,T.den,O1.den] at hev ⊢;obtain ⟨bo,hb⟩:=qcv ht ((e.den Z).i.toNat * p + c);rw [hb] at hev;rw [<- jc9,qdC _ hb];simp [execOp,hop,hev,Instr.fieldAt,Instr.sureAddr,qy hu,hfd,fieldPlace,qaW hsz]
 ·simp at h
theorem qun {t:TypeId} {x:Operand} {f:Nat} (hs:Holds Z hF s a w) (hop:o.op = .field t x f) (h:qq P s o = some r):qe P Z hF s a w o r:=by
 simp only [qq,hop] at h;split at h
 ·rename_i cs off u hx hf
  have hev:=hs.opd hx;obtain ⟨fs,fd,n0,hu,hfd,hsz0,rfl,rfl⟩:=qiU hf;split at h
  ·rename_i n hag hsz
   split at h
   ·rename_i hle
    simp only [jaa] at h; subst h;refine qe.quiet hs ?_;simp only [SV.den] at hev ⊢;simp [execOp,hop,hev,Instr.field,qy hu,hfd,asAgg,part,qei hag,qaW hsz,qa,jdw]
   ·simp at h
  ·rename_i hag
   simp only [jah] at h;obtain ⟨t',ht',rfl⟩:=h;refine qe.quiet hs ?_;simp only [SV.den] at hev ⊢;simp [execOp,hop,hev,Instr.field,qy hu,hfd,asAgg,part,qei hag,qa,ht']
  ·simp at h
 ·simp at h
theorem qaX (x y:T):((qaI x y).den Z).i = (x.den Z).i + (y.den Z).i:=by
 unfold qaI;split
 ·rename_i u v hu hv; rw [qav hu,qav hv]; simp [T.den,O0.den]
 ·rename_i u hu hv
  split
  ·rename_i h0; rw [qav hu,h0]; simp [T.den,O0.den]
  ·rfl
 ·rename_i u hu hv
  split
  ·rename_i h0; rw [qav hv,h0]; simp [T.den,O0.den]
  ·rfl
 ·rfl
theorem qnX {t:TypeId} {x i:Operand} (hs:Holds Z hF s a w) (hop:o.op = .indexAddr t x i) (h:qq P s o = some r) (hn:∀ c ∈ r.needs,(c.den Z).b = true):qe P Z hF s a w o r:=by
 simp only [qq,hop] at h;split at h
 ·rename_i el rg p off len cap kk j hu hx hi
  have hev:=hs.opd hx;have hei:=hs.opd hi;split at h
  ·rename_i n hsz
   split at h
   ·rename_i hnp
    have hnp:=Nat.eq_of_beq_eq_true hnp;simp only [jaa] at h; subst h;simp only [jdo,jco] at hn;have h0:=qz (hn _ (jac ..));have h1:=hn _ (jab _ (jac ..));rw [qT _ _ _ (by simp)] at h1;have h1:(j.den Z).i < (len.den Z).i:=jba h1;have h2:=qz (hn _ (jab _ (jab _ (jac ..))));have ht:=qdf hs (e:=qaI off j) (fun c hc=>hn c (jab _ (jab _ (jab _ hc))));obtain ⟨bo,hb⟩:=qcv ht ((off.den Z).i.toNat * p);refine qe.quiet hs ?_;have hpl:(off.den Z).i.toNat * p + (j.den Z).i.toNat * p = ((off.den Z).i + (j.den Z).i).toNat * p:=by
     rw [<- jbq]; congr 1; omega
    have hcond:¬ (max (len.den Z).i 0 <= (j.den Z).i):=by omega
    simp only [SV.den,T.den,O1.den,O3.den,qaX] at hev hei ⊢;rw [hb] at hev;rw [<- hpl,jcq,qdC _ hb];subst hnp;simp [execOp,hop,hev,hei,Instr.indexAt,asIntOf,qy hu,h0,hcond,qaW hsz]
   ·simp at h
  ·simp at h
 ·rename_i m el rg p c e kk j hu hx hi
  have hev:=hs.opd hx;have hei:=hs.opd hi;split at h
  ·rename_i n z hsz hz
   split at h
   ·rename_i hc
    simp only [jaa] at h; subst h;have ht:=qdf hs hn;obtain ⟨bo,hb⟩:=qcv ht ((e.den Z).i.toNat * p + c);rw [qav hz] at hei;refine qe.quiet hs ?_;simp only [SV.den,T.den,O0.den,O1.den] at hev hei ⊢;rw [hb] at hev;rw [<- jc9,qdC _ hb];simp [execOp,hop,hev,hei,Instr.indexAt,Instr.sureAddr,asIntOf,qy hu,hc,qaW hsz]
   ·simp at h
  ·rename_i n hsz hz
   split at h
   ·rename_i hz0
    simp only [jaa] at h; subst h;have h0:=qz (hn _ (jac ..));have h1:=hn _ (jab _ (jac ..));rw [qT _ _ _ (by simp)] at h1;have h1:(j.den Z).i < (m:Int):=jba h1;have ht:=qdf hs (e:=e) (fun c hc=>hn c (jab _ (jab _ hc)));obtain ⟨bo,hb⟩:=qcv ht c;have he0:(e.den Z).i = 0:=by rw [qav hz0]; simp [T.den,O0.den]
    refine qe.quiet hs ?_;simp only [SV.den,T.den,O0.den,O1.den,he0,jea,jek,jbb] at hev hei ⊢;rw [hb] at hev;rw [jdl,qdC _ hb];simp [execOp,hop,hev,hei,Instr.indexAt,Instr.sureAddr,asIntOf,qy hu,h0,h1,qaW hsz]
   ·simp at h
  ·simp at h
 ·simp at h
theorem qcu (op:BinOp) (k:IntKind) (x y:T):((qeX op k x y).den Z).i = qi op k (x.den Z).i (y.den Z).i:=by
 unfold qeX;split
 ·rename_i u v hu hv; rw [qav hu,qav hv]; simp [T.den,O0.den]
 ·rfl
theorem qtx (k:IntKind) (x:T):((qqe k x).den Z).i = k.wrap (x.den Z).i:=by
 unfold qqe;split
 ·rename_i u hu; rw [qav hu]; simp [T.den,O0.den]
 ·rfl
theorem qeu (x:T):((qgO x).den Z).b = !(x.den Z).b:=by
 unfold qgO;split <;> simp [T.den,O0.den,O1.den]
theorem qhc (x y:T):((qk3 x y).den Z).b = ((x.den Z).b == (y.den Z).b):=by
 unfold qk3;split
 ·simp [T.den,O0.den]
 ·split
  ·rename_i h; rw [T.same_eq h]; simp [T.den,O0.den]
  ·rfl
theorem qvv (x y:T):((qts x y).den Z).i = if (y.den Z).i < (x.den Z).i then (y.den Z).i else (x.den Z).i:=by
 unfold qts;split
 ·rename_i u v hu hv
  rw [qav hu,qav hv];simp only [T.den,O0.den];by_cases h:v < u <;> simp [h]
 ·rfl
theorem qvS (x y:T):((quM x y).den Z).i = if (y.den Z).i > (x.den Z).i then (y.den Z).i else (x.den Z).i:=by
 unfold quM;split
 ·rename_i u v hu hv; rw [qav hu,qav hv]; simp [T.den,O0.den]
 ·rfl
theorem qka (x y:T):((qpA x y).den Z).b = ((x.den Z).b && (y.den Z).b):=by
 unfold qpA; split <;> simp [T.den,O0.den,O2.den]
theorem qhX (hs:Holds Z hF s a w) (r:Nat):((qnT s r).den Z).b = (Z r).r.isNone:=by
 unfold qnT;split
 ·rename_i r' ty cs hf
  obtain ⟨H,_,hro,hreg⟩:=hs.found hf;simp only [SH.reg,jaa] at hreg; subst hreg;obtain ⟨b,o,c,ty',fr,h1,_⟩:=hro;simp [T.den,O0.den,h1]
 ·rename_i r' ty pat d cap hf
  obtain ⟨H,_,hro,hreg⟩:=hs.found hf;simp only [SH.reg,jaa] at hreg; subst hreg;rw [qka,qT _ _ _ (by simp),qbe];rcases hro with h2 | ⟨b,o,c,ty',fr,h1,_⟩
  ·simp [T.den,O0.den,h2,qS]
  ·simp [T.den,O0.den,h1]
 ·rfl
theorem qbN {op:BinOp} {t:TypeId} {x y:Operand} {k k':IntKind} {m n:Int}:(eqGuard op t x y (.int k m) (.int k' n)).run P w = .ok () w:=by
 unfold eqGuard; split <;> simp
theorem qgC {op:BinOp} {t:TypeId} {x y:Operand} {m n:Bool}:(eqGuard op t x y (.bool m) (.bool n)).run P w = .ok () w:=by
 unfold eqGuard; split <;> simp
theorem qdi {op:BinOp} {t:TypeId} {x y:Operand} {m n:Option Addr}:(eqGuard op t x y (.pointer m) (.pointer n)).run P w = .ok () w:=by
 unfold eqGuard; split <;> simp
theorem qrb {ty:TypeId} (hu:P.underlying ty = some .bool) (m n:Bool):(binOp .eql ty (.bool m) (.bool n)).run P w = .ok (.bool (m == n)) w:=by
 simp only [binOp,Op.equal];rw [show Op.maxDepth = 9999 + 1 from rfl];simp only [Sem.run_bind,run_equalIn_bool' w 9999 ty m n hu,Result.andThen_ok,Sem.run_pure]
theorem qqC {ty:TypeId} (hu:P.underlying ty = some .bool) (m n:Bool):(binOp .neq ty (.bool m) (.bool n)).run P w = .ok (.bool (!(m == n))) w:=by
 simp only [binOp,Op.equal];rw [show Op.maxDepth = 9999 + 1 from rfl];simp only [Sem.run_bind,run_equalIn_bool' w 9999 ty m n hu,Result.andThen_ok,Sem.run_pure]
theorem qfy (d:Nat) {ty el:TypeId} (hu:P.underlying ty = some (.pointer el)) (m:Option Addr):(Op.equalIn (d + 1) ty (.pointer m) (.pointer none)).run P w = .ok m.isNone w:=by
 unfold Op.equalIn;simp only [Sem.run_bind,qy hu,Result.andThen_ok];cases m <;> simp
theorem qhF {ty el:TypeId} (hu:P.underlying ty = some (.pointer el)) (m:Option Addr):(binOp .eql ty (.pointer m) (.pointer none)).run P w = .ok (.bool m.isNone) w:=by
 have h:binOp .eql ty (.pointer m) (.pointer none) = (do pure (.bool (<- Op.equal ty (.pointer m) (.pointer none)))):=by cases m <;> rfl
 rw [h];simp only [Op.equal];rw [show Op.maxDepth = 9999 + 1 from rfl];simp only [Sem.run_bind,qfy 9999 hu,Result.andThen_ok,Sem.run_pure]
theorem qhR {ty el:TypeId} (hu:P.underlying ty = some (.pointer el)) (m:Option Addr):(binOp .neq ty (.pointer m) (.pointer none)).run P w = .ok (.bool (!m.isNone)) w:=by
 have h:binOp .neq ty (.pointer m) (.pointer none) = (do pure (.bool (!(<- Op.equal ty (.pointer m) (.pointer none))))):=by cases m <;> rfl
 rw [h];simp only [Op.equal];rw [show Op.maxDepth = 9999 + 1 from rfl];simp only [Sem.run_bind,qfy 9999 hu,Result.andThen_ok,Sem.run_pure]
theorem qdG:∀ t:T,((qbG t).den Z).i = ((qbb (t.den Z).v).length:Int)
 | .c0 o=>by cases o <;> simp [qbG,T.den,O0.den,O1.den,qhI]
 | .c1 o x=>by cases o <;> simp [qbG,T.den,O1.den,qbe,bytesOf,qhI]
 | .c2 o x y=>by
  cases o <;> simp only [qbG,T.den,O1.den,O2.den];rw [qaX,qdG x,qdG y];simp [qhI]
 | .var n=>by simp [qbG,T.den,O1.den]
 | .c3 o x y z=>by simp [qbG,T.den,O1.den]
 | .ife x y u v=>by simp [qbG,T.den,O1.den]
theorem qu4 {x y:T} (hx:qdS x = true) (hy:qdS y = true):((qqA x y).den Z).v = .string ⟨(qbb (x.den Z).v ++ qbb (y.den Z).v).toArray⟩:=by
 obtain ⟨sx,ex⟩:=qco (Z:=Z) hx;obtain ⟨sy,ey⟩:=qco (Z:=Z) hy;unfold qqA;split
 ·have e:qbb ((T.c0 (.vstr [])).den Z).v = []:=by simp [T.den,O0.den,qhI]
  rw [e,jco,ey,qpR]
 ·have e:qbb ((T.c0 (.vstr [])).den Z).v = []:=by simp [T.den,O0.den,qhI]
  rw [e,jca,ex,qpR]
 ·rfl
theorem qr5 {ty:TypeId} {m n:ByteArray} (h:((qbb (.string m)).length:Int) + ((qbb (.string n)).length:Int) <= 9223372036854775807):(binOp .add ty (.string m) (.string n)).run P w = .ok (.string ⟨(qbb (.string m) ++ qbb (.string n)).toArray⟩) w:=by
 simp only [qbb,qey,Array.length_toList] at h ⊢;have hs:¬ (((m.size + n.size:Nat):Int) > IntKind.i64.max):=by
  have h1:m.size = m.data.size:=rfl;have h2:n.size = n.data.size:=rfl;simp [IntKind.max,IntKind.signed,IntKind.bits]; omega
 have he:m ++ n = ⟨(m.data.toList ++ n.data.toList).toArray⟩:=by
  apply ByteArray.ext;apply jb6;simp
 simp only [binOp,Op.stringOp,jaf hs,he];rfl
theorem qdk {op:BinOp} {t:TypeId} {x y:Operand} {m n:ByteArray}:(eqGuard op t x y (.string m) (.string n)).run P w = .ok () w:=by
 unfold eqGuard; split <;> simp
theorem qrI {ty:TypeId} {m n:ByteArray}:(binOp .eql ty (.string m) (.string n)).run P w = .ok (.bool (m.toList == n.toList)) w:=by
 simp [binOp,Op.stringOp]
theorem qr9 {ty:TypeId} {m n:ByteArray}:(binOp .neq ty (.string m) (.string n)).run P w = .ok (.bool (!(m.toList == n.toList))) w:=by
 simp [binOp,Op.stringOp]
theorem qrS {ty:TypeId} {m n:ByteArray}:(binOp .lss ty (.string m) (.string n)).run P w = .ok (.bool (Op.bytesLess m.toList n.toList)) w:=by
 simp [binOp,Op.stringOp]
theorem qc6 {op:BinOp} {t:TypeId} {x y:Operand} {m n:Option Addr} {i j k l:Nat}:(eqGuard op t x y (.slice m i j) (.slice n k l)).run P w = .ok () w:=by
 cases op <;> simp [eqGuard]
theorem qeQ (d:Nat) {ty el:TypeId} (hu:P.underlying ty = some (.slice el)) (m:Option Addr) (i j:Nat):(Op.equalIn (d + 1) ty (.slice m i j) (.slice none 0 0)).run P w = .ok m.isNone w:=by
 unfold Op.equalIn;simp only [Sem.run_bind,qy hu,Result.andThen_ok];cases m <;> simp
theorem qgB {ty el:TypeId} (hu:P.underlying ty = some (.slice el)) (m:Option Addr) (i j:Nat):(binOp .eql ty (.slice m i j) (.slice none 0 0)).run P w = .ok (.bool m.isNone) w:=by
 have h:binOp .eql ty (.slice m i j) (.slice none 0 0) = (do pure (.bool (<- Op.equal ty (.slice m i j) (.slice none 0 0)))):=by cases m <;> rfl
 rw [h];simp only [Op.equal];rw [show Op.maxDepth = 9999 + 1 from rfl];simp only [Sem.run_bind,qeQ 9999 hu,Result.andThen_ok,Sem.run_pure]
theorem qgx {ty el:TypeId} (hu:P.underlying ty = some (.slice el)) (m:Option Addr) (i j:Nat):(binOp .neq ty (.slice m i j) (.slice none 0 0)).run P w = .ok (.bool (!m.isNone)) w:=by
 have h:binOp .neq ty (.slice m i j) (.slice none 0 0) = (do pure (.bool (!(<- Op.equal ty (.slice m i j) (.slice none 0 0))))):=by cases m <;> rfl
 rw [h];simp only [Op.equal];rw [show Op.maxDepth = 9999 + 1 from rfl];simp only [Sem.run_bind,qeQ 9999 hu,Result.andThen_ok,Sem.run_pure]
def qeI (P:Program) (Z:Env) (t:TypeId) (cs:List T):Value :=
 match qcB P t with
 | some true=>.agg (qa Z cs).toArray
 | _=>(qa Z cs).headD .nilFunc
theorem qqF {t:TypeId} {ag:Bool} {n off:Nat} {cs:List T} (hag:qcB P t = some ag) (hn:qao P t = some n) (h1:(ag || Nat.beq n 1) = true) (hl:off + n <= cs.length) (w:World) :
  (part t (qa Z cs).toArray off).run P w = .ok (qeI P Z t ((cs.drop off).take n)) w:=by
 cases ag with
 | true=>simp [part,qei hag,qaW hn,qeI,hag,qa,jdw]
 | false =>
  simp only [Bool.false_or] at h1;have:=Nat.eq_of_beq_eq_true h1;subst this;have hlt:off < cs.length:=by omega
  simp only [part,Sem.run_bind,qei hag,Result.andThen_ok,qeI,hag];have e1:(qa Z cs).toArray[off]? = some ((cs[off]).den Z).v:=by simp [qa,hlt]
  have e2:(cs.drop off).take 1 = [cs[off]]:=by rw [jcb hlt]; rfl
  rw [e2];simp [e1,qa,hlt]
theorem qiG {f:TypeId->List T->List T->Option T} {d:Nat} {cs ds:List T} (hf:∀ t a b c (w:World),f t a b = some c->(Op.equalIn d t (qeI P Z t a) (qeI P Z t b)).run P w = .ok (c.den Z).b w) :
  ∀ {fs:List Field} {c:T} (w:World),qn5 P f cs ds fs = some c->(Op.eqFields d (qa Z cs).toArray (qa Z ds).toArray fs).run P w = .ok (c.den Z).b w
 | [],c,w,h=>by simp only [qn5,jaa] at h; subst h; simp [Op.eqFields,T.den,O0.den]
 | x :: fs,c,w,h=>by
  simp only [qn5] at h;split at h
  ·rename_i hname
   split at h
   ·rename_i ag n r hag hn hr
    split at h
    ·rename_i hc
     simp only [jad,jdg] at hc;simp only [jah] at h;obtain ⟨a,ha,rfl⟩:=h;simp only [Op.eqFields,hname,ne_eq,not_false_eq_true,ja5,Sem.run_bind,qqF (Z:=Z) hag hn hc.1.1 hc.1.2,qqF (Z:=Z) hag hn hc.1.1 hc.2,Result.andThen_ok,hf _ _ _ _ _ ha];have:=qiG hf w hr;cases hb:(a.den Z).b with
     | true=>simp [this,qka,hb]
     | false=>simp [qka,hb]
    ·simp at h
   ·simp at h
  ·rename_i hname
   simp only [Op.eqFields,hname,ja3];exact qiG hf w h
theorem qvE:∀ (n d:Nat),n <= d->∀ (t:TypeId) (cs ds:List T) (c:T) (w:World),eqT P n t cs ds = some c->(Op.equalIn d t (qeI P Z t cs) (qeI P Z t ds)).run P w = .ok (c.den Z).b w:=by
 intro n
 induction n with
 | zero=>intro d _ t cs ds c w h; simp [eqT] at h
 | succ n ih =>
  intro d hd t cs ds c w h;obtain ⟨d',rfl⟩:∃ d',d = d' + 1:=⟨d - 1,by omega⟩;simp only [eqT] at h;split at h
  ·rename_i k0 hu
   split at h
   ·rename_i k a k' b
    split at h
    ·rename_i hk
     subst hk;simp only [jaa] at h; subst h;simp only [qeI,qcB,hu,qa,jaq,jbl,jb5,T.den,O1.den];rw [run_equalIn_int w d' t k k0 _ _ hu,qT _ _ _ (by simp)]; rfl
    ·simp at h
   ·simp at h
  ·rename_i hu
   split at h
   ·rename_i a b
    simp only [jaa] at h; subst h;simp only [qeI,qcB,hu,qa,jaq,jbl,jb5,T.den,O1.den];rw [run_equalIn_bool' w d' t _ _ hu,qhc]
   ·simp at h
  ·rename_i fs hu
   split at h
   ·simp at h
   ·rename_i hst
    have hfs:P.fieldsOf t = fs:=by simp [Program.fieldsOf,hu]
    simp only [qeI,qcB,hu];rw [run_equalIn_struct w d' t _ _ (by rw [hfs]; exact hu) (by simpa using hst),hfs];exact qiG (fun t a b c w hc=>ih d' (by omega) t a b c w hc) w h
  ·simp at h
theorem qsh {t:TypeId} {cs ds:List T} {c:T} (h:qub P t cs ds = some c):P.eqGuardType P.depth t = false/\(Op.equalIn 10000 t (.agg (qa Z cs).toArray) (.agg (qa Z ds).toArray)).run P w = .ok (c.den Z).b w:=by
 unfold qub at h;split at h
 ·simp at h
 ·rename_i hg
  split at h
  ·rename_i fs hu
   refine ⟨by simpa using hg,?_⟩;have:=qvE (P:=P) (Z:=Z) 8 10000 (by omega) t cs ds c w h;simpa only [qeI,qcB,hu] using this
  ·simp at h
theorem qfu {k:IntKind}:∀ {ts:List T},qaV k ts = true->∃ zs:List Int,qa Z ts = zs.map (Value.int k)
 | [],_=>⟨[],rfl⟩
 | .c1 (.vint k') x :: l,h=>by
  simp only [qaV,jad,jaw] at h;obtain ⟨hk,hl⟩:=h;subst hk;obtain ⟨zs,hz⟩:=qfu hl;exact ⟨(x.den Z).i :: zs,by simp only [qa,jaq,T.den,O1.den] at hz ⊢; rw [hz]⟩
 | .var _ :: _,h=>by simp [qaV] at h
 | .c0 _ :: _,h=>by simp [qaV] at h
 | .c2 _ _ _ :: _,h=>by simp [qaV] at h
 | .c3 _ _ _ _ :: _,h=>by simp [qaV] at h
 | .ife _ _ _ _ :: _,h=>by simp [qaV] at h
 | .c1 (.conv _) _ :: _,h=>by simp [qaV] at h
 | .c1 .dlen _ :: _,h=>by simp [qaV] at h
 | .c1 .not _ :: _,h=>by simp [qaV] at h
 | .c1 .vbool _ :: _,h=>by simp [qaV] at h
 | .c1 (.vptr _ _ _) _ :: _,h=>by simp [qaV] at h
 | .c1 .vbytes _ :: _,h=>by simp [qaV] at h
 | .c1 .sval _ :: _,h=>by simp [qaV] at h
 | .c1 .slen _ :: _,h=>by simp [qaV] at h
 | .c1 .srows _ :: _,h=>by simp [qaV] at h
 | .c1 (.isg _) _ :: _,h=>by simp [qaV] at h
theorem qjI (ts:List T):(((T.row ts).den Z).d.headD []) = qa Z ts:=by rw [qgg]
theorem qiT:∀ (xs ys:List Int),xs.length = ys.length->((List.range xs.length).all fun i=>xs.getD i 0 == ys.getD i 0) = (xs == ys)
 | [],[],_=>rfl
 | x :: xs,y :: ys,h=>by
  have ih:=qiT xs ys (by simpa using h);rw [jbh,List.range_succ_eq_map,jc0,List.all_map];simp only [List.getD_cons_zero,Function.comp_def,List.getD_cons_succ,ih];simp [List.cons_beq_cons]
 | [],_ :: _,h=>by simp at h
 | _ :: _,[],h=>by simp at h
theorem qg5 {e:TypeId} {k:IntKind} {zs:List Int} {i:Nat} (he:qcB P e = some false) (hi:i < zs.length) (w:World):(part e (zs.map (Value.int k)).toArray (i * 1)).run P w = .ok (.int k (zs.getD i 0)) w:=by
 have ha:(isAgg e).run P w = .ok false w:=qei he w;simp [part,ha,List.getD,jae hi]
theorem qgs (d:Nat) (t e:TypeId) (n:Nat) (k:IntKind) (ht:P.underlying t = some (.array n e)) (he:P.underlying e = some (.int k)) (hag:qcB P e = some false) (hsz:qao P e = some 1) (xs ys:List Int) (hx:xs.length = n) (hy:ys.length = n) (w:World) :
  (Op.equalIn (d + 2) t (.agg (xs.map (Value.int k)).toArray) (.agg (ys.map (Value.int k)).toArray)).run P w = .ok (xs == ys) w:=by
 rw [<- qiT xs ys (hx.trans hy.symm),hx,List.range_eq_range',Op.equalIn];simp only [Sem.run_bind,run_underlying ht,Result.andThen_ok,qaW hsz,Std.Legacy.Range.forIn_eq_forIn_range',Std.Legacy.Range.size,jej,jeb,Nat.div_one];have hl:∀ i ∈ List.range' 0 n 1,i < n:=fun i hi=>by simpa using (List.mem_range'_1.1 hi).2
 generalize List.range' 0 n 1 = l at hl ⊢
 induction l with
 | nil=>simp
 | cons i l ih =>
  have hi:i < n:=hl i (by simp);have px:=qg5 (P:=P) (k:=k) (zs:=xs) hag (i:=i) (by omega) w;have py:=qg5 (P:=P) (k:=k) (zs:=ys) hag (i:=i) (by omega) w;have pe:(Op.equalIn (d + 1) e (.int k (xs.getD i 0)) (.int k (ys.getD i 0))).run P w = .ok (xs.getD i 0 == ys.getD i 0) w:=run_equalIn_int w d e k k _ _ he;simp only [List.forIn_cons,Sem.run_bind,px,py,pe,Result.andThen_ok,jc0];cases hb:(xs.getD i 0 == ys.getD i 0)
  ·simp
  ·simp only [jed,jan,ja3,Sem.run_pure,Result.andThen_ok,Bool.true_and]
   exact ih fun j hj=>hl j (by simp [hj])
theorem qwD (k:IntKind) (zs:List Int):(zs.map (Value.int k)).map qbK = zs:=by
 rw [List.map_map]; exact List.map_id' zs
theorem qr8 {t:TypeId} {cs ds:List T} {c:T} (h:quN P t cs ds = some c):P.eqGuardType P.depth t = false/\(Op.equalIn 10000 t (.agg (qa Z cs).toArray) (.agg (qa Z ds).toArray)).run P w = .ok (c.den Z).b w:=by
 unfold quN at h;split at h
 ·simp at h
 ·rename_i hg
  split at h
  ·rename_i n el hu
   split at h
   ·rename_i k hk hsz hag
    split at h
    ·rename_i hc
     simp only [jad] at hc;obtain ⟨⟨⟨l1,l2⟩,a1⟩,a2⟩:=hc;have l1:=Nat.eq_of_beq_eq_true l1;have l2:=Nat.eq_of_beq_eq_true l2;simp only [jaa] at h; subst h;refine ⟨by simpa using hg,?_⟩;obtain ⟨xs,hx⟩:=qfu (Z:=Z) a1;obtain ⟨ys,hy⟩:=qfu (Z:=Z) a2;have hxl:xs.length = n:=by have:=congrArg List.length hx; simp [qa] at this; omega
     have hyl:ys.length = n:=by have:=congrArg List.length hy; simp [qa] at this; omega
     rw [hx,hy,show (10000:Nat) = 9998 + 2 from rfl,qgs 9998 t el n k hu hk hag hsz xs ys hxl hyl w];simp only [T.den,O2.den,qjI,hx,hy,qwD]
    ·simp at h
   ·simp at h
  ·simp at h
theorem qkR {t:TypeId} {cs ds:List T} {c:T} (h:qut P t cs ds = some c):P.eqGuardType P.depth t = false/\(Op.equalIn 10000 t (.agg (qa Z cs).toArray) (.agg (qa Z ds).toArray)).run P w = .ok (c.den Z).b w:=by
 unfold qut at h;split at h
 ·rename_i c' hc
  simp only [jaa] at h; subst h;exact qsh hc
 ·exact qr8 h
theorem qea (r:Option Addr) (n:Nat):(qj r n).isNone = r.isNone:=by cases r <;> rfl
theorem qwU {op:BinOp} {ty u:TypeId} {x y:Operand} (hs:Holds Z hF s a w) (hop:o.op = .binOp op ty x y u) (h:qq P s o = some r) (hn:∀ c ∈ r.needs,(c.den Z).b = true):qe P Z hF s a w o r:=by
 simp only [qq,hop] at h;split at h
 ·rename_i va vb hx hy
  have hex:=hs.opd hx;have hey:=hs.opd hy;unfold qsC at h;split at h
  ·rename_i k x1 k' y1
   simp only [SV.den,T.den,O1.den] at hex hey;split at h
   ·simp only [jaa] at h; subst h
    have h0:=hn _ (jak.2 rfl);rw [qT _ _ _ (by simp)] at h0;have h0:(y1.den Z).i ≥ 0:=jba h0;refine qe.quiet hs ?_;simp [execOp,hop,hex,hey,qbN,binOp,Op.shift,Int.not_lt.2 h0,SV.den,T.den,O1.den,qcu,qi]
   ·simp only [jaa] at h; subst h
    have h0:=hn _ (jak.2 rfl);rw [qT _ _ _ (by simp)] at h0;have h0:(y1.den Z).i ≥ 0:=jba h0;refine qe.quiet hs ?_;simp [execOp,hop,hex,hey,qbN,binOp,Op.shift,Int.not_lt.2 h0,SV.den,T.den,O1.den,qcu,qi]
   all_goals split at h
   all_goals first | (simp at h; done) | skip
   all_goals (rename_i hk; subst hk; simp only [jaa] at h; subst h)
   ·have h0:=hn _ (jak.2 rfl)
    rw [qT _ _ _ (by simp)] at h0;have h0:(y1.den Z).i ≠ 0:=by simpa [qS,T.den,O0.den] using h0
    refine qe.quiet hs ?_;simp [execOp,hop,hex,hey,qbN,binOp,Op.intDiv,h0,SV.den,T.den,O1.den,qcu,qi]
   ·have h0:=hn _ (jak.2 rfl)
    rw [qT _ _ _ (by simp)] at h0;have h0:(y1.den Z).i ≠ 0:=by simpa [qS,T.den,O0.den] using h0
    refine qe.quiet hs ?_;simp [execOp,hop,hex,hey,qbN,binOp,Op.intDiv,h0,SV.den,T.den,O1.den,qcu,qi]
   all_goals
    refine qe.quiet hs ?_
    first
     | (simp [execOp,hop,hex,hey,qbN,binOp,Op.intArith,Op.intBits,SV.den,T.den,O1.den,qcu,qi]; done)
     | (simp [execOp,hop,hex,hey,qbN,binOp,Op.intCmp,SV.den,T.den,O1.den,qT,qS]; done)
  ·rename_i x1 y1
   simp only [SV.den,T.den,O1.den] at hex hey;split at h
   ·rename_i hu
    simp only [jaa] at h; subst h;refine qe.quiet hs ?_;simp only [execOp,hop,hex,hey,Sem.run_bind,qgC,qrb hu,Result.andThen_ok,Sem.run_pure,SV.den,T.den,O1.den,qhc]
   ·rename_i hu
    simp only [jaa] at h; subst h;refine qe.quiet hs ?_;simp only [execOp,hop,hex,hey,Sem.run_bind,qgC,qqC hu,Result.andThen_ok,Sem.run_pure,SV.den,T.den,O1.den,qhc,qeu]
   ·simp at h
  ·rename_i rg p c e
   simp only [SV.den,T.den,O0.den,O1.den] at hex hey;split at h
   ·rename_i el hu
    simp only [jaa] at h; subst h;refine qe.quiet hs ?_;simp only [execOp,hop,hex,hey,Sem.run_bind,qdi,qhF hu,Result.andThen_ok,Sem.run_pure,SV.den,T.den,O1.den,qhX hs,qea]
   ·rename_i el hu
    simp only [jaa] at h; subst h;refine qe.quiet hs ?_;simp only [execOp,hop,hex,hey,Sem.run_bind,qdi,qhR hu,Result.andThen_ok,Sem.run_pure,SV.den,T.den,O1.den,qeu,qhX hs,qea]
   ·simp at h
  ·simp only [SV.den,T.den,O0.den,O1.den] at hex hey
   split at h
   ·rename_i el hu
    simp only [jaa] at h; subst h;refine qe.quiet hs ?_;simp only [execOp,hop,hex,hey,Sem.run_bind,qdi,qhF hu,Result.andThen_ok,Sem.run_pure,SV.den,T.den,O0.den,O1.den,jdx]
   ·rename_i el hu
    simp only [jaa] at h; subst h;refine qe.quiet hs ?_;simp only [execOp,hop,hex,hey,Sem.run_bind,qdi,qhR hu,Result.andThen_ok,Sem.run_pure,SV.den,T.den,O0.den,O1.den,jdx,jed]
   ·simp at h
  ·rename_i rg p off len cap
   simp only [SV.den,T.den,O0.den,O3.den] at hex hey;split at h
   ·rename_i el hu
    simp only [jaa] at h; subst h;refine qe.quiet hs ?_;simp only [execOp,hop,hex,hey,Sem.run_bind,qc6,qgB hu,Result.andThen_ok,Sem.run_pure,SV.den,T.den,O1.den,qhX hs,qea]
   ·rename_i el hu
    simp only [jaa] at h; subst h;refine qe.quiet hs ?_;simp only [execOp,hop,hex,hey,Sem.run_bind,qc6,qgx hu,Result.andThen_ok,Sem.run_pure,SV.den,T.den,O1.den,qeu,qhX hs,qea]
   ·simp at h
  ·simp only [SV.den,T.den,O0.den,O3.den] at hex hey
   split at h
   ·rename_i el hu
    simp only [jaa] at h; subst h;refine qe.quiet hs ?_;simp only [execOp,hop,hex,hey,Sem.run_bind,qc6,qgB hu,Result.andThen_ok,Sem.run_pure,SV.den,T.den,O0.den,O1.den,jdx]
   ·rename_i el hu
    simp only [jaa] at h; subst h;refine qe.quiet hs ?_;simp only [execOp,hop,hex,hey,Sem.run_bind,qc6,qgx hu,Result.andThen_ok,Sem.run_pure,SV.den,T.den,O0.den,O1.den,jdx,jed]
   ·simp at h
  ·rename_i cs ds
   simp only [SV.den] at hex hey;split at h
   ·rename_i c hc
    simp only [jaa] at h; subst h;obtain ⟨g1,g2⟩:=qkR (Z:=Z) (w:=w) hc;refine qe.quiet hs ?_;simp only [execOp,hop,hex,hey,Sem.run_bind,run_eqGuard_agg w _ _ _ _ _ _ g1,run_eql_struct,g2,Result.andThen_ok,Sem.run_pure,SV.den,T.den,O1.den]
   ·rename_i c hc
    simp only [jaa] at h; subst h;obtain ⟨g1,g2⟩:=qkR (Z:=Z) (w:=w) hc;refine qe.quiet hs ?_;simp only [execOp,hop,hex,hey,Sem.run_bind,run_eqGuard_agg w _ _ _ _ _ _ g1,run_neq_struct,g2,Result.andThen_ok,Sem.run_pure,SV.den,T.den,O1.den,qeu]
   ·simp at h
  ·rename_i ta tb _ _ _ _ _ _ _
   split at h
   ·rename_i hstr
    simp only [jad] at hstr;obtain ⟨sa,hsa⟩:=qco (Z:=Z) hstr.1;obtain ⟨sb,hsb⟩:=qco (Z:=Z) hstr.2;simp only [SV.den,hsa,hsb] at hex hey;split at h
    ·simp only [jaa] at h; subst h
     refine qe.quiet hs ?_;simp only [execOp,hop,hex,hey,Sem.run_bind,qdk,qrI,Result.andThen_ok,Sem.run_pure,SV.den,T.den,O1.den,O2.den,hsa,hsb,qbb]
    ·simp only [jaa] at h; subst h
     refine qe.quiet hs ?_;simp only [execOp,hop,hex,hey,Sem.run_bind,qdk,qr9,Result.andThen_ok,Sem.run_pure,SV.den,qeu,T.den,O1.den,O2.den,hsa,hsb,qbb]
    ·simp only [jaa] at h; subst h
     refine qe.quiet hs ?_;simp only [execOp,hop,hex,hey,Sem.run_bind,qdk,qrS,Result.andThen_ok,Sem.run_pure,SV.den,T.den,O1.den,O2.den,hsa,hsb,qbb]
    ·simp only [jaa] at h; subst h
     have hle:=hn _ (jak.2 rfl);rw [qT _ _ _ (by simp)] at hle;simp only [qS,qaX,qdG,hsa,hsb,T.den,O0.den,jaw] at hle;refine qe.quiet hs ?_;simp only [execOp,hop,hex,hey,Sem.run_bind,qdk,qr5 hle,Result.andThen_ok,Sem.run_pure,SV.den,qu4 hstr.1 hstr.2,hsa,hsb]
    ·simp at h
   ·simp at h
  ·simp at h
 ·simp at h
theorem qvg {op:UnOp} {t:TypeId} {x:Operand} (hs:Holds Z hF s a w) (hop:o.op = .unOp op t x) (h:qq P s o = some r):qe P Z hF s a w o r:=by
 simp only [qq,hop] at h;split at h
 ·rename_i t' hx
  have hev:=hs.opd hx;simp only [jaa] at h; subst h;refine qe.quiet hs ?_;simp only [SV.den,T.den,O1.den] at hev ⊢;simp [execOp,hop,hev,Op.unary,qeu]
 ·rename_i k t' hx
  have hev:=hs.opd hx;simp only [jaa] at h; subst h;refine qe.quiet hs ?_;simp only [SV.den,T.den,O1.den] at hev ⊢;simp [execOp,hop,hev,Op.unary,Op.intArith,qcu,qi,T.den,O0.den]
 ·rename_i k t' hx
  have hev:=hs.opd hx;simp only [jaa] at h; subst h;refine qe.quiet hs ?_;simp only [SV.den,T.den,O1.den] at hev ⊢;simp [execOp,hop,hev,Op.unary,Op.intBits,qcu,qi,T.den,O0.den]
 ·simp at h
theorem qqH {x:Operand} {i:Nat} (hs:Holds Z hF s a w) (hop:o.op = .extract x i) (h:qq P s o = some r):qe P Z hF s a w o r:=by
 simp only [qq,hop] at h;split at h
 ·rename_i vs hx
  have hev:=hs.opd hx;split at h
  ·rename_i ts hi
   simp only [jaa] at h; subst h;refine qe.quiet hs ?_;simp only [SV.den] at hev ⊢;simp [execOp,hop,hev,Instr.extract,hi,qdM]
  ·rename_i t' hi
   simp only [jaa] at h; subst h;refine qe.quiet hs ?_;simp only [SV.den] at hev ⊢;simp [execOp,hop,hev,Instr.extract,hi,qdM,qa]
  ·simp at h
 ·simp at h
theorem qg1:∀ {vs:List SV} {ts:List T},qcR vs = some ts->vs.map (SV.den Z) = qa Z ts
 | [],ts,h=>by simp only [qcR,jaa] at h; subst h; rfl
 | .one t :: r,ts,h=>by
  simp only [qcR,jah] at h;obtain ⟨ts',h1,rfl⟩:=h;have:=qg1 h1;simp only [jaq,this,qa,SV.den]
 | .agg _ :: r,ts,h=>by simp [qcR] at h
 | .tup _ :: r,ts,h=>by simp [qcR] at h
 | .fn _ _ _ :: r,ts,h=>by simp [qcR] at h
theorem qpz {fn:Fn} {first captured:Array Operand} (hs:Holds Z hF s a w) (hop:o.op = .makeFunc fn first captured) (h:qq P s o = some r):qe P Z hF s a w o r:=by
 simp only [qq,hop] at h;split at h
 ·rename_i x y hx hy
  simp only [jaj] at hx hy;obtain ⟨vx,hx1,hx2⟩:=hx;obtain ⟨vy,hy1,hy2⟩:=hy;simp only [jaa] at h; subst h;refine qe.quiet hs ?_;have ex:=hs.opds hx1;have ey:=hs.opds hy1;rw [qg1 hx2] at ex;rw [qg1 hy2] at ey;simp only [SV.den];simp only [execOp,hop,Instr.makeFunc,Sem.run_bind,Sem.run_pure,Result.andThen_ok];rw [<- ex,<- ey]
  congr 3
  ·apply jb6; simp
  ·apply jb6; simp
 ·simp at h
theorem qw2 {args:Array Operand} {tys:Array TypeId} (hs:Holds Z hF s a w) (hop:o.op = .call { callee:=.builtin .len,args,argTypes:=tys }) (h:qq P s o = some r) (hn:∀ c ∈ r.needs,(c.den Z).b = true):qe P Z hF s a w o r:=by
 simp only [qq,hop] at h;split at h
 ·rename_i el x ht ha
  simp only [jaj] at ht;obtain ⟨t,ht0,htu⟩:=ht;have hargs:args = #[x]:=by apply jb6; simpa using ha
  split at h
  ·rename_i rg p off len cap hx
   have hev:=hs.opd hx;simp only [jaa] at h; subst h;have h0:=qz (hn _ (jak.2 rfl));refine qe.quiet hs ?_;simp only [SV.den,T.den,O1.den,O3.den] at hev ⊢;have:((len.den Z).i.toNat:Int) = (len.den Z).i:=by omega
   simp [execOp,hop,resolve,invoke,builtin,Builtin.len_,hargs,ht0,qy htu,hev,goInt];omega
  ·rename_i hx
   have hev:=hs.opd hx;simp only [jaa] at h; subst h;refine qe.quiet hs ?_;simp only [SV.den,T.den,O0.den,O1.den] at hev ⊢;simp [execOp,hop,resolve,invoke,builtin,Builtin.len_,hargs,ht0,qy htu,hev,goInt]
  ·simp at h
 ·rename_i x ht ha
  simp only [jaj] at ht;obtain ⟨t,ht0,htu⟩:=ht;have hargs:args = #[x]:=by apply jb6; simpa using ha
  split at h
  ·rename_i u hx
   split at h
   ·rename_i hu
    have hev:=hs.opd hx;simp only [jaa] at h; subst h;obtain ⟨su,hsu⟩:=qco (Z:=Z) hu;refine qe.quiet hs ?_;simp only [SV.den,hsu] at hev;have hz:((qbG u).den Z).i = (su.size:Int):=by
     rw [qdG,hsu]; simp [qbb,qey]
    simp only [SV.den,T.den,O1.den,hz];simp [execOp,hop,resolve,invoke,builtin,Builtin.len_,hargs,ht0,qy htu,hev,goInt]
   ·simp at h
  ·simp at h
 ·simp at h
theorem qxk {args:Array Operand} {tys:Array TypeId} (hs:Holds Z hF s a w) (hop:o.op = .call { callee:=.builtin .cap,args,argTypes:=tys }) (h:qq P s o = some r) (hn:∀ c ∈ r.needs,(c.den Z).b = true):qe P Z hF s a w o r:=by
 simp only [qq,hop] at h;split at h
 ·rename_i el x ht ha
  simp only [jaj] at ht;obtain ⟨t,ht0,htu⟩:=ht;have hargs:args = #[x]:=by apply jb6; simpa using ha
  split at h
  ·rename_i rg p off len cap hx
   have hev:=hs.opd hx;simp only [jaa] at h; subst h;have h0:=qz (hn _ (jak.2 rfl));refine qe.quiet hs ?_;simp only [SV.den,T.den,O1.den,O3.den] at hev ⊢;have:((cap.den Z).i.toNat:Int) = (cap.den Z).i:=by omega
   simp [execOp,hop,resolve,invoke,builtin,Builtin.cap_,hargs,ht0,qy htu,hev,goInt];omega
  ·rename_i hx
   have hev:=hs.opd hx;simp only [jaa] at h; subst h;refine qe.quiet hs ?_;simp only [SV.den,T.den,O0.den,O1.den] at hev ⊢;simp [execOp,hop,resolve,invoke,builtin,Builtin.cap_,hargs,ht0,qy htu,hev,goInt]
  ·simp at h
 ·simp at h
theorem qj3:∀ {ts:List T},qiP ts = true->∃ zs:List Bool,qa Z ts = zs.map Value.bool
 | [],_=>⟨[],rfl⟩
 | t :: l,h=>by
  unfold qiP at h;split at h
  ·rename_i heq; cases heq
  ·rename_i x l' heq
   injection heq with h1 h2
   subst h1 h2;obtain ⟨zs,hz⟩:=qj3 h;exact ⟨(x.den Z).b :: zs,by simp only [qa,jaq] at hz ⊢; rw [hz]; rfl⟩
  ·cases h
theorem qtE {t:TypeId} {x i:Operand} (hs:Holds Z hF s a w) (hop:o.op = .index t x i) (h:qq P s o = some r) (hn:∀ c ∈ r.needs,(c.den Z).b = true):qe P Z hF s a w o r:=by
 simp only [qq,hop] at h;split at h
 ·rename_i u k j htu hx hi
  split at h
  ·rename_i hu
   have hev:=hs.opd hx;have hei:=hs.opd hi;simp only [jaa] at h; subst h;obtain ⟨su,hsu⟩:=qco (Z:=Z) hu;have h0:=qz (hn _ (jac ..));have h1:=hn _ (jab _ (jak.2 rfl));rw [qT _ _ _ (by simp)] at h1;simp only [qS,qdG,hsu,jaw] at h1;refine qe.quiet hs ?_;simp only [SV.den,T.den,O1.den,hsu] at hev hei;have hl:(j.den Z).i.toNat < (qbb (.string su)).length:=by omega
   have hlz:(j.den Z).i.toNat < su.size:=by simpa [qbb,qey] using hl
   have hg:su[(j.den Z).i.toNat]? = some ((qbb (.string su))[(j.den Z).i.toNat]'hl):=by
    rw [getElem?_pos su _ hlz];simp only [qbb,qey,Array.getElem_toList];rfl
   simp only [SV.den,T.den,O1.den,O2.den,hsu,jae hl,jbi];simp only [execOp,hop,Sem.run_bind,hev,hei,Instr.index,asIntOf,Sem.run_pure,Result.andThen_ok,qy htu,jag h0,hg]
  ·simp at h
 ·rename_i n el ts k j htu hx hi
  have hev:=hs.opd hx;have hei:=hs.opd hi;simp only [SV.den,T.den,O1.den] at hev hei;unfold qql at h;split at h
  ·rename_i hsz hag
   split at h
   ·rename_i hl
    have hl:=Nat.eq_of_beq_eq_true hl;have hrun:∀ (z:Int) (v:Value),(j.den Z).i = z->0 <= z->z < n->(qa Z ts)[z.toNat]? = some v->(execOp a.eval o).run P w = .ok (.value v) w:=fun z v hz z0 z1 hv=>by
     have hcond:0 <= z/\z < (n:Int):=⟨z0,z1⟩;have ha:(isAgg el).run P w = .ok false w:=qei hag w;simp only [execOp,hop,Sem.run_bind,hev,hei,hz,Instr.index,asIntOf,Sem.run_pure,Result.andThen_ok,qy htu,jag hcond,qaW hsz,part,ha,Nat.mul_one,jan,ja3,jcu,hv]
    split at h
    ·rename_i z hz
     have hz':=qcg (Z:=Z) hz;split at h
     ·rename_i hzc
      simp only [jah] at h;obtain ⟨t',ht',rfl⟩:=h;refine qe.quiet hs ?_;exact hrun z _ hz' hzc.1 hzc.2 (by simp [qa,ht',SV.den])
     ·simp at h
    ·split at h
     ·rename_i k0 _
      split at h
      ·rename_i hall
       simp only [jaa] at h; subst h;have h0:=qz (hn _ (jac ..));have h1:=hn _ (jab _ (jak.2 rfl));rw [qT _ _ _ (by simp)] at h1;have h1:(j.den Z).i < (n:Int):=jba h1;obtain ⟨zs,hzs⟩:=qfu (Z:=Z) hall;refine qe.quiet hs ?_;have hzl:zs.length = n:=by
        have hq:=congrArg List.length hzs;rw [qa,jaz,jaz,hl] at hq;exact hq.symm
       have hget:zs[(j.den Z).i.toNat]? = some (zs[(j.den Z).i.toNat]'(by omega)):=jae (by omega);have hcell:((T.c2 (.xint 0) (T.row ts) j).den Z).i = zs[(j.den Z).i.toNat]'(by omega):=by
        simp only [T.den,O2.den,qnb,qjI,hzs,jcq,jau,hget,ja9,jbi,qbK]
       refine hrun _ _ rfl h0 h1 ?_;simp only [SV.den,T.den,O1.den] at hcell ⊢;rw [hcell,hzs,jau,hget];rfl
      ·simp at h
     ·split at h
      ·rename_i hall
       simp only [jaa] at h; subst h;have h0:=qz (hn _ (jac ..));have h1:=hn _ (jab _ (jak.2 rfl));rw [qT _ _ _ (by simp)] at h1;have h1:(j.den Z).i < (n:Int):=jba h1;obtain ⟨zs,hzs⟩:=qj3 (Z:=Z) hall;refine qe.quiet hs ?_;have hzl:zs.length = n:=by
        have hq:=congrArg List.length hzs;rw [qa,jaz,jaz,hl] at hq;exact hq.symm
       have hget:zs[(j.den Z).i.toNat]? = some (zs[(j.den Z).i.toNat]'(by omega)):=jae (by omega);have hcell:((T.c2 (.xbool 0) (T.row ts) j).den Z).b = zs[(j.den Z).i.toNat]'(by omega):=by
        simp only [T.den,O2.den,qmD,qjI,hzs,jcq,jau,hget,ja9,jbi];rfl
       refine hrun _ _ rfl h0 h1 ?_;simp only [SV.den,T.den,O1.den] at hcell ⊢;rw [hcell,hzs,jau,hget];rfl
      ·simp at h
   ·simp at h
  ·simp at h
 ·simp at h
theorem qxg {args:Array Operand} {tys:Array TypeId} (hs:Holds Z hF s a w) (hop:o.op = .call { callee:=.builtin .min,args,argTypes:=tys }) (h:qq P s o = some r):qe P Z hF s a w o r:=by
 simp only [qq,hop] at h;split at h
 ·rename_i k x k' y hx
  have he:=hs.opds hx;simp only [jaa] at h; subst h;refine qe.quiet hs ?_;simp only [jaq,jbl,SV.den,T.den,O1.den] at he ⊢;have hargs:args.map a.eval = #[.int k (x.den Z).i,.int k' (y.den Z).i]:=by apply jb6; simpa using he
  simp [execOp,hop,resolve,invoke,builtin,Builtin.min_,hargs,Builtin.min2,qvv]
 ·simp at h
theorem qxh {args:Array Operand} {tys:Array TypeId} (hs:Holds Z hF s a w) (hop:o.op = .call { callee:=.builtin .max,args,argTypes:=tys }) (h:qq P s o = some r):qe P Z hF s a w o r:=by
 simp only [qq,hop] at h;split at h
 ·rename_i k x k' y hx
  have he:=hs.opds hx;simp only [jaa] at h; subst h;refine qe.quiet hs ?_;simp only [jaq,jbl,SV.den,T.den,O1.den] at he ⊢;have hargs:args.map a.eval = #[.int k (x.den Z).i,.int k' (y.den Z).i]:=by apply jb6; simpa using he
  simp [execOp,hop,resolve,invoke,builtin,Builtin.max_,hargs,Builtin.max2,qvS]
 ·simp at h
theorem qpG {n:Nat} {l vs:List T} {i:Nat} (h:l.all (T.inB n) = true) (h':vs.all (T.inB n) = true):(qcC l i vs).all (T.inB n) = true:=by
 rw [jao] at *;intro x hx;unfold qcC at hx;rcases jax.1 hx with hx | hx
 ·rcases jax.1 hx with hx | hx
  ·exact h x (jb7 hx)
  ·exact h' x hx
 ·exact h x (jcw hx)
theorem qlp (off:Nat):∀ (l:List Value) (k:Nat) (cells:Array Value),off + k + l.length <= cells.size ->
  let r:=(l.zipIdx k).foldl (fun (cs:Array Value) (x:Value × Nat)=>cs.setIfInBounds (off + x.2) x.1) cells
  r.size = cells.size/\∀ j,r[j]? = if off + k <= j/\j < off + k + l.length then l[j - (off + k)]? else cells[j]?
 | [],k,cells,_=>⟨rfl,fun j=>by rw [jaf (by simp)]; rfl⟩
 | v :: l,k,cells,h=>by
  simp only [jbh] at h;have ih:=qlp off l (k + 1) (cells.setIfInBounds (off + k) v) (by simp only [Array.size_setIfInBounds]; omega);simp only [List.zipIdx_cons,jc5] at ih ⊢;refine ⟨by simpa using ih.1,fun j=>?_⟩;rw [ih.2 j];simp only [jbh];by_cases hj:j = off + k
  ·subst hj
   rw [jaf (by omega),jag (by omega)];have:off + k < cells.size:=by omega
   simp [this]
  ·by_cases hin:off + (k + 1) <= j/\j < off + (k + 1) + l.length
   ·rw [jag hin,jag (by omega),show j - (off + k) = (j - (off + (k + 1))) + 1 from by omega,ja1]
   ·rw [jaf hin,jaf (by omega),jcv (fun h=>hj h.symm)]
theorem qn3 (off:Nat) (l:List Value) (cells:List Value) (h:off + l.length <= cells.length) :
  l.toArray.zipIdx.foldl (fun (cs:Array Value) (x:Value × Nat)=>cs.setIfInBounds (off + x.2) x.1) cells.toArray = (qba cells off l).toArray:=by
 have:=qlp off l 0 cells.toArray (by simpa using h);simp only [jcq] at this;have e:l.toArray.zipIdx.foldl (fun (cs:Array Value) (x:Value × Nat)=>cs.setIfInBounds (off + x.2) x.1) cells.toArray =
   (l.zipIdx 0).foldl (fun (cs:Array Value) (x:Value × Nat)=>cs.setIfInBounds (off + x.2) x.1) cells.toArray:=by
  rw [<- Array.foldl_toList]; simp
 rw [e];apply jec;intro j;rw [this.2 j];simp only [jcu];rw [qcP h]
def qlA (Z:Env):List (Nat × List T)->List (Nat × Value)->Prop
 | [],[]=>True
 | (i,ts) :: r,(j,v) :: r'=>i = j/\v.cells = (qa Z ts).toArray/\qlA Z r r'
 | _,_=>False
theorem qh4 {pl:Nat->Option (Nat × Nat)}:∀ {ps:List (Nat × List T)} {vs:List (Nat × Value)} {z cs:List T},qlA Z ps vs->qfN pl z ps = some cs ->
  Instr.fill pl (qa Z z).toArray vs = some (qa Z cs).toArray
 | [],[],z,cs,_,h=>by simp only [qfN,jaa] at h; subst h; rfl
 | (i,ts) :: r,(j,v) :: r',z,cs,hd,h=>by
  obtain ⟨rfl,hv,hr⟩:=hd;simp only [qfN] at h;split at h
  ·simp at h
  ·rename_i off size hpl
   split at h
   ·rename_i hc
    simp only [jad,jdg] at hc;have hsz:=Nat.eq_of_beq_eq_true hc.1;have hl:(qa Z ts).length = ts.length:=by simp [qa]
    have hl2:(qa Z z).length = z.length:=by simp [qa]
    simp only [Instr.fill,hpl,hv];rw [jaf]
    ·have:=qh4 (pl:=pl) (z:=qcC z off ts) hr h
     rw [qfL] at this;rw [<- this]
     congr 1
     exact qn3 off _ _ (by rw [hl,hl2]; exact hc.2)
    ·simp [hl,hl2,hsz]
     omega
   ·simp at h
 | [],_ :: _,_,_,hd,_=>hd.elim
 | _ :: _,[],_,_,hd,_=>hd.elim
theorem qin (hs:Holds Z hF s a w):∀ {l:List (Nat × Operand)} {ps:List (Nat × List T)},qeM s l = some ps->qlA Z ps (l.map fun x=>(x.1,a.eval x.2))
 | [],ps,h=>by simp only [qeM,jaa] at h; subst h; trivial
 | (i,x) :: r,ps,h=>by
  simp only [qeM] at h;split at h
  ·rename_i cs l' hc hl
   simp only [jaa] at h; subst h;simp only [jaj] at hc;obtain ⟨v,hv,hcs⟩:=hc;exact ⟨rfl,by rw [hs.opd hv]; exact qgX hs.gd hcs,qin hs hl⟩
  ·simp at h
theorem qiZ:∀ {fs:List Field} {l:List (Nat × Nat)},qgw P fs = some l->fs.mapM (fun f=>(P.info? f.type).map fun i=>(f.offset,i.size)) = some l
 | [],l,h=>by simp only [qgw,jaa] at h; subst h; rfl
 | f :: fs,l,h=>by
  simp only [qgw] at h;split at h
  ·rename_i i l' hi hl
   simp only [jaa] at h; subst h;simp [jes,hi,qiZ hl]
  ·simp at h
theorem qcM {t:TypeId} {cs:List T} (h:qbA P t = some cs):∃ i v,P.info? t = some i/\i.zero = some v/\v.cells = (qa Z cs).toArray:=by
 unfold qbA at h;split at h
 ·rename_i v hv
  simp only [jaj] at hv;obtain ⟨i,hi,hz⟩:=hv;exact ⟨i,v,hi,hz,by rw [qfn h]⟩
 ·simp at h
theorem quK {t:TypeId} {parts:Array (Nat × Operand)} (hs:Holds Z hF s a w) (hop:o.op = .build t parts) (h:qq P s o = some r):qe P Z hF s a w o r:=by
 simp only [qq,hop] at h;split at h
 ·rename_i z pl ps hz hpl hps
  simp only [jah] at h;obtain ⟨cs,hfill,rfl⟩:=h;refine qe.quiet hs ?_;obtain ⟨i,v,hi,hiz,hzc⟩:=qcM (Z:=Z) hz;have hfs:=qh4 (qin hs hps) hfill;have hb:P.built t (parts.map fun x=>(x.1,a.eval x.2)).toList = some (qa Z cs).toArray:=by
   rw [jd0];unfold qv4 at hpl;unfold Program.built;split at hpl
   ·rename_i fs hu
    simp only [jah] at hpl;obtain ⟨l,hl,rfl⟩:=hpl;simp only [hi,hu,hiz,qiZ hl,hzc];simpa using hfs
   ·rename_i n e hu
    simp only [jah,qao] at hpl;obtain ⟨n',⟨ie,hie,rfl⟩,rfl⟩:=hpl;simp only [hi,hu,hiz,hie,hzc];exact hfs
   ·simp at hpl
  simp only [SV.den];simp only [execOp,hop,Sem.run_bind,run_build w t _ _ hb,Result.andThen_ok,Sem.run_pure]
 ·simp at h
theorem qlc (z:List T):∀ n,(qb7 z n).length = n * z.length
 | 0=>by simp [qb7]
 | n + 1=>by simp [qb7,qlc z n,jbq]; omega
theorem qkX (z:List Value) (hz:0 < z.length):∀ (n j:Nat) (l:List T),qa Z l = z->j < n * z.length->(qa Z (qb7 l n))[j]? = z[j % z.length]?
 | 0,j,l,_,hj=>by simp at hj
 | n + 1,j,l,hl,hj=>by
  have hd:qa Z (qb7 l (n + 1)) = z ++ qa Z (qb7 l n):=by simp only [qb7,qa,jcl] at hl ⊢; rw [hl]
  rw [hd];by_cases h:j < z.length
  ·rw [jbs h,jel h]
  ·rw [jbd (by omega),qkX z hz n (j - z.length) l hl (by rw [jbq] at hj; omega)]
   rw [Nat.mod_eq_sub_mod (Nat.le_of_not_lt h)]
theorem qnp {n:Nat} {z:List T} (h:z.all (T.inB n) = true):∀ m,(qb7 z m).all (T.inB n) = true
 | 0=>rfl
 | m + 1=>by simp [qb7,jeq,h,qnp h m]
theorem qqx {n:Nat} {pl:Nat->Option (Nat × Nat)}:∀ {ps:List (Nat × List T)} {z cs:List T},z.all (T.inB n) = true->(∀ x ∈ ps,x.2.all (T.inB n) = true)->qfN pl z ps = some cs->cs.all (T.inB n) = true
 | [],z,cs,hz,_,h=>by simp only [qfN,jaa] at h; subst h; exact hz
 | (i,ts) :: r,z,cs,hz,hp,h=>by
  simp only [qfN] at h;split at h
  ·simp at h
  ·split at h
   ·exact qqx (qpG hz (hp _ (jac ..))) (fun x hx=>hp x (jab _ hx)) h
   ·simp at h
theorem qoQ (hsc:s.scopedEH = true):∀ {l:List (Nat × Operand)} {ps:List (Nat × List T)},qeM s l = some ps->∀ x ∈ ps,x.2.all (T.inB s.nx) = true
 | [],ps,h,x,hx=>by simp only [qeM,jaa] at h; subst h; cases hx
 | (i,y) :: r,ps,h,x,hx=>by
  simp only [qeM] at h;split at h
  ·rename_i cs l' hc hl
   simp only [jaa] at h; subst h;simp only [jaj] at hc;obtain ⟨v,hv,hcs⟩:=hc;cases hx with
   | head=>exact qrp hcs (qj9 hsc hv)
   | tail _ hx=>exact qoQ hsc hl x hx
  ·simp at h
theorem qiB {t:TypeId} {cs:List T} {n:Nat} (h:qbA P t = some cs):cs.all (T.inB n) = true:=by
 unfold qbA at h;split at h
 ·exact qhZ h
 ·simp at h
theorem qnj {t:TypeId} {len:Nat} {parts:Array (Nat × Operand)} (hs:Holds Z hF s a w) (hop:o.op = .buildSlice t len parts) (hsc:s.scopedEH = true) (h:qq P s o = some r):qe P Z hF s a w o r:=by
 simp only [qq,hop] at h;split at h
 ·rename_i el hu
  split at h
  ·rename_i z n ps hz hn hps
   split at h
   ·rename_i hc
    simp only [jad,jdg,ja6] at hc;have hzl:=Nat.eq_of_beq_eq_true hc.1.1;split at h
    ·rename_i cs hfill
     simp only [jaa] at h; subst h;obtain ⟨i,v,hi,hiz,hzc⟩:=qcM (Z:=Z) hz;have hin:i.size = n:=by simpa [qao,hi] using hn
     have hfs:=qh4 (qin hs hps) hfill;have hcin:cs.all (T.inB s.nx) = true:=qqx (qnp (qiB hz) len) (qoQ hsc hps) hfill;have hg:qa (Z.set s.nx { r:=some ⟨w.heap.size,0,none⟩ }) cs = qa Z cs:=qbn (fun m hm=>Env.set_ne Z _ (by omega)) cs hcin;have hsh:s.heap.all (SH.inB s.nx) = true:=by simp only [S.scopedEH,jad] at hsc; exact hsc.2
     have hdl:(qa Z z).length = n:=by simp [qa,hzl]
     have hzero:(Array.range (len * n)).map (fun x=>(qa Z z).toArray[x % (qa Z z).toArray.size]!) = (qa Z (qb7 z len)).toArray:=by
      apply jec;intro j;by_cases hj:j < len * n
      ·have:=qkX (Z:=Z) (qa Z z) (by rw [hdl]; exact hc.1.2) len j z rfl (by rw [hdl]; exact hj)
       rw [show (qa Z (qb7 z len)).toArray[j]? = (qa Z (qb7 z len))[j]? from jcu,this,hdl];have hm:j % n < (qa Z z).length:=by rw [hdl]; exact jeg _ hc.1.2
       simp [hj,hdl,jae hm]
      ·rw [jb8 (by simp; omega),jb8 (by simp [qa,qlc,hzl]; omega)]
     refine ⟨[{ r:=some ⟨w.heap.size,0,none⟩ }],_,rfl,by simp [U.good,Value.oneCell'],qt.alloc hs.hp hsh (c:=(qa Z cs).toArray) (by rw [hg]),?_,fun h=>by cases h⟩;have hv:SV.den (Z.set s.nx { r:=some ⟨w.heap.size,0,none⟩ }) (.one (.vslice s.nx (.lit 0) (.lit len) (.lit len) n)) = .slice (some ⟨w.heap.size,0,none⟩) len len:=by
      simp [SV.den,T.den,O0.den,O3.den,qj]
     simp only [Ran,qr,hv];have hparts:(parts.map fun x=>(x.1,a.eval x.2)).toList = parts.toList.map fun x=>(x.1,a.eval x.2):=jd0 ..
     by_cases h0:len * n = 0
     ·have hl0:len = 0:=by rcases Nat.mul_eq_zero.1 h0 with h | h; exact h; omega
      subst hl0;have hz0:(qa Z (qb7 z 0)).toArray = #[]:=rfl;rw [hz0] at hfs;have hfs2:Instr.fill (fun i=>some (i * n,n)) (Array.map (fun _=>(default:Value)) (Array.range 0)) (List.map (fun x=>(x.fst,a.eval x.snd)) parts.toList) = some (qa Z cs).toArray:=by rw [show (Array.map (fun _=>(default:Value)) (Array.range 0)) = #[] from by simp]; exact hfs
      simp [execOp,hop,Instr.buildSlice,qy hu,sizeOf,typeInfo,hi,hin,newRow,hfs2]
     ·have hrun:=run_buildSlice (P:=P) w t el len (parts.map fun x=>(x.1,a.eval x.2)) (qa Z cs).toArray i v hu hi hiz (by rw [hin]; have:=hc.2; omega) (by rw [hin]; exact h0)
       (by rw [hin,hzc,hparts]; rw [hzero]; exact hfs)
      simp only [execOp,hop,Sem.run_bind,Result.andThen_ok,Sem.run_pure];rw [show (parts.map fun x=>(x.1,a.eval x.2)) = (parts.map fun (i,x)=>(i,a.eval x)) from rfl] at hrun;rw [hrun];rfl
    ·simp at h
   ·simp at h
  ·simp at h
 ·simp at h
end Go.Eng
namespace Go.Eng
open Go
variable {P:Program} {Z:Env} {hF:Fr} {s:S} {a:Act} {w:World} {o:Oper} {r:R1}
theorem qrT {t:TypeId} {n:Nat} (h:qdp P t = some n):∃ i,P.info? t = some i/\i.bytes = n:=by
 unfold qdp at h; simpa [jah] using h
theorem qic {t:TypeId} {n:Nat} (h:qao P t = some n):∃ i,P.info? t = some i/\i.size = n:=by
 unfold qao at h; simpa [jah] using h
theorem qaZ {x y:T} (h:((qs .leq x y).den Z).b = true):(x.den Z).i <= (y.den Z).i:=by
 rw [qT _ _ _ (by simp)] at h; exact jba h
theorem qew {x y:T} (h:((qs .eql x y).den Z).b = true):(x.den Z).i = (y.den Z).i:=by
 rw [qT _ _ _ (by simp)] at h; simpa [qS] using h
theorem qt.new {heap:List SH} {w:World} {n:Nat} {Z':Env} {x:SH} {ob:Obj} {d:Nat} (h:qt Z hF heap w) (hsc:heap.all (SH.inB n) = true) (hag:∀ m,m < n->Z m = Z' m)
  (hx:x.den Z' (Hp.one w.heap.size ob)):qt Z' hF (x :: heap) { w with heap:=w.heap.push ob,drawn:=d }:=by
 obtain ⟨hO,hd,hst,hsub,hwi⟩:=h;have hlt:∀ y o,Hp.union hF hO y = some o->y < w.heap.size:=fun y o hy=>by
  have:=hsub y o hy;rcases jbt y w.heap.size with h | h
  ·exact h
  ·rw [jb8 h] at this; cases this
 have hno:∀ h',Hp.le h' (Hp.union hF hO)->Hp.disj h' (Hp.one w.heap.size ob):=fun h' hl y=>by
  by_cases hy:y = w.heap.size
  ·left
   cases hx:h' y with
   | none=>rfl
   | some o=>have:=hlt y o (hl y o hx); omega
  ·right; simp [Hp.one,hy]
 refine ⟨Hp.union (Hp.one w.heap.size ob) hO,?_,⟨_,hO,(hno hO (Hp.le_right hd)).symm,rfl,hx,?_⟩,?_⟩
 ·exact Hp.disj_union.2 ⟨hno hF (Hp.le_left _ _),hd⟩
 ·exact qaS (n:=n) hag _ hsc _ hst
 ·refine ⟨fun y o hy=>?_,hwi⟩
  by_cases hyb:y = w.heap.size
  ·subst hyb
   have:hF w.heap.size = none:=by
    cases hx:hF w.heap.size with
    | none=>rfl
    | some o'=>have:=hlt w.heap.size o' (Hp.le_left _ _ _ _ hx); omega
   simp only [Hp.union,this,Hp.one,ja5,jbg,jcj,jaa] at hy;subst hy;simp
  ·have hy':Hp.union hF hO y = some o:=by
    simp only [Hp.union,Hp.one,hyb,ja3,jbg] at hy ⊢;exact hy
   have h1:=hsub y o hy';have h2:=hlt y o hy';simp only;rw [jdz h2]
   rwa [jcd h2] at h1
theorem qrH (hg:Z.good) (t:T):CK.fits (qaP t) (t.den Z).v = true:=by
 have:=(T.den_good hg t).1;unfold qaP;split
 ·simp [T.den,O1.den,CK.fits]
 ·simp [T.den,O1.den,CK.fits]
 ·exact this
theorem qkl (hg:Z.good) (z:List T):qX (z.map qaP) (qa Z z):=by
 refine ⟨by simp [qa],fun c k v hk hv=>?_⟩;simp only [jau,jah] at hk;obtain ⟨t,ht,rfl⟩:=hk;simp only [qa,jau,ht,ja9,jaa] at hv;subst hv;exact qrH hg t
theorem qi9 {t:TypeId} {z:List T} (h:qbA P t = some z) (Z:Env):qX (z.map qaP) (qa Z z):=by
 have h1:=qiB (n:=0) h;have:qa Z z = qa (fun _=>{}) z:=qbn (n:=0) (fun m hm=>by omega) z h1;rw [this];exact qkl (fun n=>by simp [U.good,Value.oneCell']) z
theorem qps (z:List Value) (hz:0 < z.length) (n j:Nat) (hj:j < n):(madeCells z.toArray n)[j]? = z[j % z.length]?:=by
 have hm:j % z.length < z.length:=jeg _ hz;simp [madeCells,hj,jae hm]
theorem quW {t:TypeId} {l c:Operand} (hs:Holds Z hF s a w) (hop:o.op = .makeSlice t l c) (hsc:s.scopedEH = true) (h:qq P s o = some r) (hn:∀ c ∈ r.needs,(c.den Z).b = true):qe P Z hF s a w o r:=by
 simp only [qq,hop] at h;split at h
 ·rename_i va vb hl hc
  have hel:=hs.opd hl;have hec:=hs.opd hc;have hil:=qj9 hsc hl;have hic:=qj9 hsc hc;unfold qlF at h;split at h
  ·rename_i el kl lt kc ct hu
   simp only [SV.den,T.den,O1.den] at hel hec;split at h
   ·rename_i z n bz hz hsz hbz
    split at h
    ·rename_i hchk
     simp only [jad,ja6] at hchk;have hzl:=Nat.eq_of_beq_eq_true hchk.1.1;simp only [jaa] at h; subst h;have h0:=qz (hn _ (jac ..));have h1:=qaZ (hn _ (jab _ (jac ..)));have h2:=qaZ (hn _ (jab _ (jab _ (jac ..))));simp only [T.den,O0.den,O2.den] at h2;obtain ⟨i,v,hi,hiz,hzc⟩:=qcM (Z:=Z) hz;have his:i.size = n:=by simpa [qao,hi] using hsz
     have hib:i.bytes = bz:=by simpa [qdp,hi] using hbz
     have hc63:(ct.den Z).i <= 9223372036854775807:=by
      have:(ct.den Z).i <= (bz:Int) * (ct.den Z).i:=by
       have hb1:(1:Int) <= bz:=by omega
       have:=jcx hb1 (show 0 <= (ct.den Z).i by omega);omega
      omega
     have hrun:=run_make (P:=P) w t el i v hu hi hiz kl kc (lt.den Z).i (ct.den Z).i h0 h1 (by rw [hib]; exact h2) hc63;rw [hzc,his] at hrun;have hdl:(qa Z z).length = n:=by simp [qa,hzl]
     let u:U:={ r:=some ⟨w.heap.size,0,none⟩ }
     have hag:∀ m,m < s.nx->Z m = (Z.set s.nx u) m:=fun m hm=>(Env.set_ne Z u (by omega)).symm
     have hsh:s.heap.all (SH.inB s.nx) = true:=by simp only [S.scopedEH,jad] at hsc; exact hsc.2
     have hlt:lt.den (Z.set s.nx u) = lt.den Z:=(T.den_congr hag lt hil).symm;have hct:ct.den (Z.set s.nx u) = ct.den Z:=(T.den_congr hag ct hic).symm;have hzd:qa (Z.set s.nx u) z = qa Z z:=(qbn hag z (qiB hz)).symm;refine ⟨[u],_,rfl,by simp [U.good,u,Value.oneCell'],qt.new (Z':=Z.set s.nx u) (d:=w.drawn) hs.hp hsh hag (ob:=.cells (madeCells (qa Z z).toArray ((ct.den Z).i.toNat * n)) el) ?_,?_,fun h=>by cases h⟩
     ·refine .inr ⟨w.heap.size,madeCells (qa Z z).toArray ((ct.den Z).i.toNat * n),by simp [u],by simp [Hp.one],?_,?_,?_⟩
      ·rw [size_madeCells,hct]; simp [hzl]
      ·simp only [T.den,O2.den,jcf,hlt,hct]; omega
      ·intro i row hrow
       simp only [T.den,O2.den,hlt] at hrow;rw [jc3] at hrow;split at hrow
       ·rename_i hil2
        simp only [jaa,qgg,hzd] at hrow;subst hrow;refine ⟨qi9 hz Z,fun k v hv=>?_⟩;have hk:k < n:=by
         rw [<- hdl];rcases jbt k (qa Z z).length with h | h
         ·exact h
         ·rw [jap h] at hv; cases hv
        have hmul:(i + 1) * n <= (ct.den Z).i.toNat * n:=jby _ (by omega);rw [jbq,Nat.one_mul] at hmul;rw [jaz,hzl];rw [qps _ (by omega) _ _ (by omega),hdl];rw [show (0 + i * n + k) % n = k from by rw [jbb,jdd,Nat.mul_add_mod,jel hk]];exact hv
       ·cases hrow
     ·have hv:SV.den (Z.set s.nx u) (.one (.vslice s.nx (.lit 0) lt ct n)) = .slice (some ⟨w.heap.size,0,none⟩) (lt.den Z).i.toNat (ct.den Z).i.toNat:=by
       simp [SV.den,T.den,O0.den,O3.den,qj,hlt,hct,u]
      simp only [Ran,qr,hv];simp only [execOp,hop,hel,hec,Sem.run_bind,hrun,Result.andThen_ok,Sem.run_pure];rfl
    ·simp at h
   ·simp at h
  ·simp at h
 ·simp at h
theorem qbl (hs:Holds Z hF s a w) {dflt t:T} {x:Option Operand} (h:qbM s dflt x = some t) :
  match x with
  | none=>t = dflt
  | some y=>∃ k,a.eval y = .int k (t.den Z).i:=by
 cases x with
 | none=>simp only [qbM,jaa] at h; exact h.symm
 | some y =>
  simp only [qbM] at h;split at h
  ·rename_i k t' hx
   simp only [jaa] at h; subst h;exact ⟨k,by have:=hs.opd hx; simpa [SV.den,T.den,O1.den] using this⟩
  ·simp at h
theorem qlo (x y:T):((qgj x y).den Z).i = (x.den Z).i - (y.den Z).i:=by
 unfold qgj;split
 ·rename_i u v hu hv; rw [qav hu,qav hv]; simp [T.den,O0.den]
 ·rename_i v hu hv
  split
  ·rename_i h0; rw [qav hv,h0]; simp [T.den,O0.den]
  ·rfl
 ·split
  ·rename_i h; rw [T.same_eq h]; simp [T.den,O0.den]
  ·rfl
theorem qjn (x y u v:T):((qd7 x y u v).den Z).i = if (x.den Z).i = (y.den Z).i then (u.den Z).i else (v.den Z).i:=by
 unfold qd7;split
 ·rename_i p q hp hq
  rw [qav hp,qav hq];simp only [T.den,O0.den];by_cases h:p = q <;> simp [h]
 ·split
  ·rename_i h; rw [T.same_eq h]; simp
  ·rfl
theorem qdj (w:World) {isS:Bool} {len cap:Nat} {L H M:Option Value} {l h m:Int} (hL:match L with | none=>l = 0 | some v=>∃ k,v = .int k l) (hH:match H with | none=>h = len | some v=>∃ k,v = .int k h)
  (hM:match M with | none=>m = cap | some v=>∃ k,v = .int k m) (hHM:M = none∨H.isSome = true) (h0:0 <= l) (h1:l <= h) (h2:h <= m) (h3:m <= cap) :
  (Instr.sliceBounds isS len cap L H M).run P w = .ok (l.toNat,h.toNat,m.toNat) w:=by
 have e1:(h.toNat:Int) = h:=by omega
 have e2:(m.toNat:Int) = m:=by omega
 cases M with
 | none =>
  have hM:m = cap:=hM;subst hM;cases H with
  | none =>
   have hH:h = len:=hH;subst hH;cases L with
   | none=>have hL:l = 0:=hL; subst hL; simp [Instr.sliceBounds]
   | some v=>obtain ⟨k,rfl⟩:=hL; simp [Instr.sliceBounds,Instr.sliceBound,asIntOf,h0,h1]
  | some vh =>
   obtain ⟨kh,rfl⟩:=hH;have hh0:0 <= h:=by omega
   cases L with
   | none=>have hL:l = 0:=hL; subst hL; simp [Instr.sliceBounds,Instr.sliceBound,asIntOf,hh0,h2]
   | some v =>
    obtain ⟨k,rfl⟩:=hL;have:l <= max h 0:=by omega
    simp [Instr.sliceBounds,Instr.sliceBound,asIntOf,h0,hh0,h2,this]
 | some vm =>
  obtain ⟨km,rfl⟩:=hM;have hm0:0 <= m:=by omega
  cases H with
  | none=>simp at hHM
  | some vh =>
   obtain ⟨kh,rfl⟩:=hH;have hh0:0 <= h:=by omega
   have hmx:h <= max m 0:=by omega
   cases L with
   | none=>have hL:l = 0:=hL; subst hL; simp [Instr.sliceBounds,Instr.sliceBound,asIntOf,hm0,h3,hh0,hmx]
   | some v =>
    obtain ⟨k,rfl⟩:=hL;have:l <= max h 0:=by omega
    simp [Instr.sliceBounds,Instr.sliceBound,asIntOf,h0,hm0,h3,hh0,hmx,this]
theorem quy {t:TypeId} {x:Operand} {lo hi mx:Option Operand} (hs:Holds Z hF s a w) (hop:o.op = .slice t x lo hi mx) (h:qq P s o = some r) (hn:∀ c ∈ r.needs,(c.den Z).b = true):qe P Z hF s a w o r:=by
 simp only [qq,hop] at h;split at h
 ·rename_i va hx
  have hev:=hs.opd hx;unfold qob at h;split at h
  ·rename_i el hu
   simp only [SV.den,T.den,O0.den] at hev;split at h
   ·rename_i n hsz hl hh' hm
    split at h
    ·rename_i hchk
     simp only [jaa] at h; subst h;refine qe.quiet hs ?_;have bl:=qbl hs hl;have bh:=qbl hs hh';have bm:=qbl hs hm;have hbounds:(Instr.sliceBounds true 0 0 (lo.map a.eval) (hi.map a.eval) (mx.map a.eval)).run P w = .ok ((0:Int).toNat,(0:Int).toNat,(0:Int).toNat) w:=by
      refine qdj w (l:=0) (h:=0) (m:=0) ?_ ?_ ?_ ?_ (by omega) (by omega) (by omega) (by omega)
      ·cases lo with
       | none=>simp only [jb1]
       | some v=>exact bl
      ·cases hi with
       | none=>simp only [jb1]; rfl
       | some v=>exact bh
      ·cases mx with
       | none=>simp only [jb1]; rfl
       | some v=>exact bm
      ·cases hi <;> cases mx <;> simp_all
     simp only [SV.den,T.den,O0.den];simp only [execOp,hop,Instr.sliceAt,Sem.run_bind,qy hu,Result.andThen_ok,hev,Instr.slice,hbounds,qaW hsz,Sem.run_pure];simp
    ·simp at h
   ·simp at h
  ·rename_i el rg p off len cap hu
   simp only [SV.den,T.den,O3.den] at hev;split at h
   ·rename_i n l hh m hsz hl hh' hm
    split at h
    ·rename_i hchk
     simp only [jad] at hchk;have hnp:=Nat.eq_of_beq_eq_true hchk.1;subst hnp;simp only [jaa] at h; subst h;have n1:=qz (hn _ (jac ..));have n2:=qz (hn _ (jab _ (jac ..)));have n3:=qz (hn _ (jab _ (jab _ (jac ..))));have n4:=qz (hn _ (jab _ (jab _ (jab _ (jac ..)))));have n5:=qaZ (hn _ (jab _ (jab _ (jab _ (jab _ (jac ..))))));have n6:=qaZ (hn _ (jab _ (jab _ (jab _ (jab _ (jab _ (jac ..)))))));have n7:=qaZ (hn _ (jab _ (jab _ (jab _ (jab _ (jab _ (jab _ (jac ..))))))));refine qe.quiet hs ?_;have bl:=qbl hs hl;have bh:=qbl hs hh';have bm:=qbl hs hm
     -- the three bounds
     have hbounds:(Instr.sliceBounds true (len.den Z).i.toNat (cap.den Z).i.toNat (lo.map a.eval) (hi.map a.eval) (mx.map a.eval)).run P w = .ok ((l.den Z).i.toNat,(hh.den Z).i.toNat,(m.den Z).i.toNat) w:=by
      refine qdj w ?_ ?_ ?_ ?_ n4 n5 n6 (by omega)
      ·cases lo with
       | none=>simp only [jb1]; rw [bl]; simp [T.den,O0.den]
       | some v=>exact bl
      ·cases hi with
       | none=>simp only [jb1]; rw [bh]; omega
       | some v=>exact bh
      ·cases mx with
       | none=>simp only [jb1]; rw [bm]; omega
       | some v=>exact bm
      ·have:=hchk.2
       cases hi <;> cases mx <;> simp_all
     have hoff:((qqP l m off).den Z).i = if (m.den Z).i = (l.den Z).i then (off.den Z).i else (off.den Z).i + (l.den Z).i:=by
      unfold qqP;split
      ·rename_i hz
       have:(l.den Z).i = 0:=by rw [qav hz]; simp [T.den,O0.den]
       rw [this]; simp
      ·rw [qjn,qaX]
     simp only [SV.den,T.den,O3.den,hoff,qlo];simp only [execOp,hop,Instr.sliceAt,Sem.run_bind,qy hu,Result.andThen_ok,hev,Instr.slice,hbounds,qaW hsz,Sem.run_pure];have e1:(hh.den Z).i.toNat - (l.den Z).i.toNat = ((hh.den Z).i - (l.den Z).i).toNat:=by omega
     have e2:(m.den Z).i.toNat - (l.den Z).i.toNat = ((m.den Z).i - (l.den Z).i).toNat:=by omega
     rw [e1,e2]
     congr 3
     by_cases hml:(m.den Z).i = (l.den Z).i
     ·rw [jag (by rw [hml]),jag hml]
     ·rw [jaf (by omega),jaf hml]
      cases hr:(Z rg).r with
      | none=>rfl
      | some bo =>
       have:((off.den Z).i + (l.den Z).i).toNat * n = (off.den Z).i.toNat * n + (l.den Z).i.toNat * n:=by
        rw [<- jbq]; congr 1; omega
       obtain ⟨a',ha'⟩:=qcv (r:=some bo) rfl ((off.den Z).i.toNat * n);rw [this,qdC _ ha',ha',ja9]
    ·simp at h
   ·simp at h
  ·rename_i n el rg p c e hu
   split at h
   ·rename_i l hh m hsz he hl hh' hm
    split at h
    ·rename_i hchk
     simp only [jaa] at h; subst h;have n1:=qz (hn _ (jac ..));have n2:=qaZ (hn _ (jab _ (jac ..)));have n3:=qaZ (hn _ (jab _ (jab _ (jac ..))));have n4:=qaZ (hn _ (jab _ (jab _ (jab _ (jac ..)))));have ht:=qdf hs (fun c' hc'=>hn c' (jb4 _ hc'));have n4:(m.den Z).i <= (n:Int):=n4;have bl:=qbl hs hl;have bh:=qbl hs hh';have bm:=qbl hs hm;have hbounds:(Instr.sliceBounds false n n (lo.map a.eval) (hi.map a.eval) (mx.map a.eval)).run P w = .ok ((l.den Z).i.toNat,(hh.den Z).i.toNat,(m.den Z).i.toNat) w:=by
      refine qdj w ?_ ?_ ?_ ?_ n1 n2 n3 n4
      ·cases lo with
       | none=>simp only [jb1]; rw [bl]; simp [T.den,O0.den]
       | some v=>exact bl
      ·cases hi with
       | none=>simp only [jb1]; rw [bh]; simp [T.den,O0.den]
       | some v=>exact bh
      ·cases mx with
       | none=>simp only [jb1]; rw [bm]; simp [T.den,O0.den]
       | some v=>exact bm
      ·cases hi <;> cases mx <;> simp_all
     refine qe.quiet hs ?_;have he0:(e.den Z).i = 0:=qcg he;simp only [SV.den,T.den,O1.den,he0] at hev;obtain ⟨ad,hb⟩:=qcv ht ((0:Int).toNat * p + c);rw [hb] at hev;have hb':qj (Z rg).r c = some ad:=by simpa using hb
     have hoff:((qnC l m c).den Z).i = if (m.den Z).i = (l.den Z).i then (c:Int) else (c:Int) + (l.den Z).i:=by
      unfold qnC;split
      ·rename_i hz
       have:(l.den Z).i = 0:=qcg hz;rw [this]; simp [T.den,O0.den]
      ·rw [qjn]; simp [T.den,O0.den,O2.den]
     simp only [SV.den,T.den,O3.den,hoff,qlo];simp only [execOp,hop,Instr.sliceAt,Sem.run_bind,qy hu,Result.andThen_ok,hev,Instr.sureAddr,Sem.run_pure];rw [hbounds];simp only [Result.andThen_ok,qaW hsz,Sem.run_pure];have e1:(hh.den Z).i.toNat - (l.den Z).i.toNat = ((hh.den Z).i - (l.den Z).i).toNat:=by omega
     have e2:(m.den Z).i.toNat - (l.den Z).i.toNat = ((m.den Z).i - (l.den Z).i).toNat:=by omega
     rw [e1,e2]
     congr 3
     by_cases hml:(m.den Z).i = (l.den Z).i
     ·rw [jag (by rw [hml]),jag hml]
      simp [hb']
     ·rw [jaf (by omega),jaf hml]
      rw [show ((c:Int) + (l.den Z).i).toNat * 1 = c + (l.den Z).i.toNat * 1 by omega,qdC _ hb']
    ·simp at h
   ·simp at h
  ·rename_i u hu
   split at h
   ·rename_i hchk
    simp only [jad] at hchk;obtain ⟨su,hsu⟩:=qco (Z:=Z) hchk.1;have hmx:mx = none:=by simpa using hchk.2
    subst hmx;split at h
    ·rename_i l hh hl hh'
     simp only [jaa] at h; subst h;have n1:=qz (hn _ (jac ..));have n2:=qaZ (hn _ (jab _ (jac ..)));have n3:=qaZ (hn _ (jab _ (jab _ (jac ..))));simp only [SV.den,hsu] at hev;have bl:=qbl hs hl;have bh:=qbl hs hh';have hsz:((qbG u).den Z).i = (su.size:Int):=by
      rw [qdG,hsu]; simp [qbb,qey]
     rw [hsz] at n3;have hbounds:(Instr.sliceBounds false su.size su.size (lo.map a.eval) (hi.map a.eval) none).run P w = .ok ((l.den Z).i.toNat,(hh.den Z).i.toNat,(su.size:Int).toNat) w:=by
      refine qdj w ?_ ?_ ?_ (.inl rfl) n1 n2 n3 (by omega)
      ·cases lo with
       | none=>simp only [jb1]; rw [bl]; simp [T.den,O0.den]
       | some v=>exact bl
      ·cases hi with
       | none=>simp only [jb1]; rw [bh,hsz]
       | some v=>exact bh
      ·rfl
     refine qe.quiet hs ?_;simp only [SV.den,T.den,O3.den,hsu];have he:su.extract (l.den Z).i.toNat (hh.den Z).i.toNat = ⟨(((qbb (.string su)).drop (l.den Z).i.toNat).take ((hh.den Z).i.toNat - (l.den Z).i.toNat)).toArray⟩:=by
      apply ByteArray.ext;apply jb6;simp [qbb,qey,ByteArray.data_extract,jdw]
     simp only [execOp,hop,Instr.sliceAt,Sem.run_bind,qy hu,Result.andThen_ok,hev,Instr.slice,jb1,Option.isSome_none,jan,ja3,Sem.run_pure];rw [hbounds];simp only [Result.andThen_ok,he]
    ·simp at h
   ·simp at h
  ·simp at h
 ·simp at h
end Go.Eng
