/- Texts E5, E6, E7, E8. -/
import Derived.Test.YtelcnkclppkicaaGreatDoorG1
import Derived.Great.BuildSlice
set_option linter.unusedSimpArgs false
set_option linter.unusedVariables false
namespace Go.Eng
open Go


theorem Hp.disj.symm {a b:Hp} (h:Hp.disj a b):Hp.disj b a:=fun x=>(h x).symm
theorem Hp.union_comm {a b:Hp} (h:Hp.disj a b):Hp.union a b = Hp.union b a:=by
 funext x; unfold Hp.union; rcases h x with h | h <;> rw [h] <;> simp
theorem Hp.union_assoc (a b c:Hp):Hp.union (Hp.union a b) c = Hp.union a (Hp.union b c):=by
 funext x; simp [Hp.union,Option.or_assoc]
theorem Hp.disj_union {a b c:Hp}:Hp.disj a (Hp.union b c)↔Hp.disj a b/\Hp.disj a c:=by
 constructor
 ·intro h
  refine ⟨fun x=>?_,fun x=>?_⟩
  ·rcases h x with h | h
   ·exact .inl h
   ·simp only [Hp.union,Option.or_eq_none_iff] at h; exact .inr h.1
  ·rcases h x with h | h
   ·exact .inl h
   ·simp only [Hp.union,Option.or_eq_none_iff] at h; exact .inr h.2
 ·rintro ⟨h1,h2⟩ x
  rcases h1 x with h | h
  ·exact .inl h
  ·rcases h2 x with h' | h'
   ·exact .inl h'
   ·exact .inr (by simp [Hp.union,h,h'])
theorem Hp.disj_union' {a b c:Hp}:Hp.disj (Hp.union b c) a↔Hp.disj b a/\Hp.disj c a:=by
 rw [show Hp.disj (Hp.union b c) a↔Hp.disj a (Hp.union b c) from ⟨Hp.disj.symm,Hp.disj.symm⟩,Hp.disj_union]
 exact ⟨fun h=>⟨h.1.symm,h.2.symm⟩,fun h=>⟨h.1.symm,h.2.symm⟩⟩
theorem Hp.emp_union (a:Hp):Hp.union Hp.emp a = a:=by funext x; simp [Hp.union,Hp.emp]
theorem Hp.disj_emp (a:Hp):Hp.disj a Hp.emp:=fun _=>.inr rfl
theorem Hp.emp_disj (a:Hp):Hp.disj Hp.emp a:=fun _=>.inl rfl

theorem Hp.le_refl (a:Hp):Hp.le a a:=fun _ _ h=>h
theorem Hp.le_trans {a b c:Hp} (h:Hp.le a b) (h':Hp.le b c):Hp.le a c:=fun x o hx=>h' x o (h x o hx)
theorem Hp.le_left (a b:Hp):Hp.le a (Hp.union a b):=fun x o h=>by simp [Hp.union,h]
theorem Hp.le_right {a b:Hp} (hd:Hp.disj a b):Hp.le b (Hp.union a b):=fun x o h=>by
 rcases hd x with h' | h'
 ·simp [Hp.union,h',h]
 ·rw [h'] at h; cases h
theorem Hp.sub_le {a b:Hp} {w:World} (h:b.sub w) (hl:Hp.le a b):a.sub w:=fun x o hx=>h x o (hl x o hx)

theorem qY {ρ:Env}:∀ {l:List SH} {k:Nat} {x:SH} {h:Hp},qW ρ l h->l[k]? = some x ->
  ∃ h1 h2,Hp.disj h1 h2/\h = Hp.union h1 h2/\x.den ρ h1/\qW ρ (l.eraseIdx k) h2
 | [],k,x,h,_,hx=>by simp at hx
 | y :: ys,0,x,h,⟨h1,h2,hd,hu,hy,hs⟩,hx=>by
  simp only [List.getElem?_cons_zero,Option.some.injEq] at hx
  subst hx
  exact ⟨h1,h2,hd,hu,hy,by simpa using hs⟩
 | y :: ys,k + 1,x,h,⟨h1,h2,hd,hu,hy,hs⟩,hx=>by
  simp only [List.getElem?_cons_succ] at hx
  obtain ⟨g1,g2,gd,gu,gx,gs⟩:=qY hs hx
  subst hu; subst gu
  rw [Hp.disj_union] at hd
  refine ⟨g1,Hp.union h1 g2,Hp.disj_union.2 ⟨hd.1.symm,gd⟩,?_,gx,?_⟩
  ·rw [<- Hp.union_assoc,<- Hp.union_assoc,Hp.union_comm hd.1]
  ·simp only [List.eraseIdx_cons_succ]
   exact ⟨h1,g2,hd.2,rfl,hy,gs⟩

theorem qd5 {ρ:Env}:∀ {l:List SH} {k:Nat} {x x':SH} {g1 g2:Hp},l[k]? = some x->qW ρ (l.eraseIdx k) g2->Hp.disj g1 g2->x'.den ρ g1 ->
  qW ρ (l.set k x') (Hp.union g1 g2)
 | [],k,x,x',g1,g2,hx,_,_,_=>by simp at hx
 | y :: ys,0,x,x',g1,g2,hx,hs,hd,hx'=>by
  simp only [List.set_cons_zero]
  exact ⟨g1,g2,hd,rfl,hx',by simpa using hs⟩
 | y :: ys,k + 1,x,x',g1,g2,hx,hs,hd,hx'=>by
  simp only [List.getElem?_cons_succ] at hx
  simp only [List.eraseIdx_cons_succ] at hs
  obtain ⟨h1,h2,hd',hu,hy,hs'⟩:=hs
  subst hu
  rw [Hp.disj_union] at hd
  simp only [List.set_cons_succ]
  refine ⟨h1,Hp.union g1 h2,Hp.disj_union.2 ⟨hd.1.symm,hd'⟩,?_,hy,qd5 hx hs' hd.2 hx'⟩
  rw [<- Hp.union_assoc,<- Hp.union_assoc,Hp.union_comm hd.1]

theorem qj7 {ρ:Env}:∀ {l l':List SH} {g1 g2:Hp},qW ρ l g1->qW ρ l' g2->Hp.disj g1 g2->qW ρ (l ++ l') (Hp.union g1 g2)
 | [],l',g1,g2,_,h2,hd=>by
  simp only [List.nil_append]
  cases l' with
  | nil=>trivial
  | cons y ys =>
   obtain ⟨a,b,hd',hu,hy,hs⟩:=h2
   subst hu
   rw [Hp.disj_union] at hd
   refine ⟨a,Hp.union g1 b,Hp.disj_union.2 ⟨hd.1.symm,hd'⟩,?_,hy,?_⟩
   ·rw [<- Hp.union_assoc,<- Hp.union_assoc,Hp.union_comm hd.1]
   ·exact star_weaken hs (Hp.le_right hd.2)
 | x :: xs,l',g1,g2,⟨a,b,hd',hu,hx,hs⟩,h2,hd=>by
  subst hu
  rw [Hp.disj_union'] at hd
  exact ⟨a,Hp.union b g2,Hp.disj_union.2 ⟨hd',hd.1⟩,Hp.union_assoc _ _ _,hx,qj7 hs h2 hd.2⟩
where
 star_weaken {ρ:Env}:∀ {l:List SH} {h h':Hp},qW ρ l h->Hp.le h h'->qW ρ l h'
 | [],_,_,_,_=>trivial
 | x :: xs,h,h',⟨a,b,hd,hu,hx,hs⟩,hl=>by
  subst hu
  refine ⟨a,fun y=>if (a y).isSome then none else h' y,fun y=>?_,?_,hx,star_weaken hs fun y o hy=>?_⟩
  ·cases ha:a y <;> simp [ha]
  ·funext y
   cases ha:a y with
   | none=>simp [Hp.union,ha]
   | some o=>simp [Hp.union,ha]; exact hl y o (by simp [Hp.union,ha])
  ·rcases hd y with h0 | h0
   ·simp only [h0,Option.isSome_none,Bool.false_eq_true,if_false]; exact hl y o (by simp [Hp.union,h0,hy])
   ·rw [h0] at hy; cases hy

theorem star_weaken {ρ:Env} {l:List SH} {h h':Hp} (hs:qW ρ l h) (hl:Hp.le h h'):qW ρ l h':=qj7.star_weaken hs hl

theorem SH.den_ro {ρ:Env} {x:SH} {h H:Hp} (hx:x.den ρ h) (hl:Hp.le h H):x.roden ρ H:=by
 cases x with
 | cells r ty cs =>
  obtain ⟨b,hb,ho⟩:=hx
  exact ⟨b,0,_,ty,(0,0),hb,hl _ _ ho,fun k v hv=>by simpa using hv⟩
 | arr r ty pat d cap =>
  rcases hx with ⟨_,h2,_⟩ | ⟨b,c,h1,h2,_,_,h5⟩
  ·exact .inl h2
  ·exact .inr ⟨b,0,c,ty,(0,0),h1,hl _ _ h2,h5⟩
 | abs n t=>exact Hp.le_trans hx.1 hl

theorem SH.ro_mono {ρ:Env} {x:SH} {h H:Hp} (hx:x.roden ρ h) (hl:Hp.le h H):x.roden ρ H:=by
 cases x with
 | cells r ty cs =>
  obtain ⟨b,o,c,ty',fr,hb,ho,hc⟩:=hx
  exact ⟨b,o,c,ty',fr,hb,hl _ _ ho,hc⟩
 | arr r ty pat d cap =>
  rcases hx with h2 | ⟨b,o,c,ty',fr,h1,h2,h5⟩
  ·exact .inl h2
  ·exact .inr ⟨b,o,c,ty',fr,h1,hl _ _ h2,h5⟩
 | abs n t=>exact Hp.le_trans hx hl

theorem qG {r:Nat}:∀ {l:List SH} {k:Nat} {x:SH},qaf r l = some (k,x)->l[k]? = some x/\x.reg = some r
 | [],k,x,h=>by simp [qaf] at h
 | .cells r' ty cs :: l,k,x,h=>by
  simp only [qaf] at h
  split at h
  ·rename_i hr
   simp only [Option.some.injEq,Prod.mk.injEq] at h
   obtain ⟨rfl,rfl⟩:=h
   have:=Nat.eq_of_beq_eq_true hr
   simp [SH.reg,this]
  ·simp only [Option.map_eq_some_iff,Prod.mk.injEq,Prod.exists] at h
   obtain ⟨k',x',h',rfl,rfl⟩:=h
   have:=qG h'
   simpa using this
 | .arr r' ty pat d cap :: l,k,x,h=>by
  simp only [qaf] at h
  split at h
  ·rename_i hr
   simp only [Option.some.injEq,Prod.mk.injEq] at h
   obtain ⟨rfl,rfl⟩:=h
   have:=Nat.eq_of_beq_eq_true hr
   simp [SH.reg,this]
  ·simp only [Option.map_eq_some_iff,Prod.mk.injEq,Prod.exists] at h
   obtain ⟨k',x',h',rfl,rfl⟩:=h
   have:=qG h'
   simpa using this
 | .abs n t :: l,k,x,h=>by
  simp only [qaf] at h
  simp only [Option.map_eq_some_iff,Prod.mk.injEq,Prod.exists] at h
  obtain ⟨k',x',h',rfl,rfl⟩:=h
  have:=qG h'
  simpa using this


structure Ext (Z Z':Sg):Prop where
 th:Z'.th = Z.th
 bd:∀ n b,look n Z.bd = some b->look n Z'.bd = some b
 eqI:∀ x ∈ Z.eqI,x ∈ Z'.eqI
 eqB:∀ x ∈ Z.eqB,x ∈ Z'.eqB
 eqD:∀ x ∈ Z.eqD,x ∈ Z'.eqD
theorem Ext.refl (Z:Sg):Ext Z Z:=⟨rfl,fun _ _ h=>h,fun _ h=>h,fun _ h=>h,fun _ h=>h⟩
theorem Ext.trans {a b c:Sg} (h:Ext a b) (h':Ext b c):Ext a c :=
 ⟨h'.th.trans h.th,fun n x hx=>h'.bd n x (h.bd n x hx),fun x hx=>h'.eqI x (h.eqI x hx),fun x hx=>h'.eqB x (h.eqB x hx),fun x hx=>h'.eqD x (h.eqD x hx)⟩

structure Sat (Z:Sg) (ρ:Env):Prop where
 eqI:∀ p a,(p,a) ∈ Z.eqI->(p.den (Z.env ρ)).i = (a.den ρ).i
 eqB:∀ p a,(p,a) ∈ Z.eqB->(p.den (Z.env ρ)).b = (a.den ρ).b
 eqD:∀ p a,(p,a) ∈ Z.eqD->(p.den (Z.env ρ)).d = (a.den ρ).d

theorem Ext.bind {Z:Sg} {n:Nat} {b:Bd} (h:look n Z.bd = none):Ext Z (Z.bind n b) :=
 ⟨rfl,fun m x hx=>by
  simp only [Sg.bind,look]
  split
  ·rename_i hm; rw [Nat.eq_of_beq_eq_true hm,h] at hx; cases hx
  ·exact hx,fun _ h=>h,fun _ h=>h,fun _ h=>h⟩
theorem qer (Z:Sg) (n:Nat) (b:Bd):look n (Z.bind n b).bd = some b:=by simp [Sg.bind,look]

variable {ρ:Env}

theorem qbo (p a:T) (Z:Sg):Ext Z (mI p a Z)/\∀ Zf,Ext (mI p a Z) Zf->Sat Zf ρ->(p.den (Zf.env ρ)).i = (a.den ρ).i:=by
 have other:Ext Z { Z with eqI:=(p,a) :: Z.eqI }/\∀ Zf,Ext { Z with eqI:=(p,a) :: Z.eqI } Zf->Sat Zf ρ->(p.den (Zf.env ρ)).i = (a.den ρ).i :=
  ⟨⟨rfl,fun _ _ h=>h,fun x h=>List.mem_cons_of_mem _ h,fun _ h=>h,fun _ h=>h⟩,fun Zf he hs=>hs.eqI p a (he.eqI _ (List.mem_cons_self ..))⟩
 unfold mI
 split
 ·rename_i n
  split
  ·rename_i hc
   simp only [Bool.and_eq_true,Bool.not_eq_true',Option.isNone_iff_eq_none] at hc
   refine ⟨Ext.bind hc.2,fun Zf he _=>?_⟩
   have hn:¬ n < Zf.th:=by rw [he.th]; intro h; rw [show (Z.bind n (.t a)).th = Z.th from rfl] at h; rw [qbl h] at hc; simp at hc
   simp only [T.den,Sg.env_look hn (he.bd _ _ (qer Z n (.t a))),Bd.den]
  ·exact other
 ·exact other
theorem q5S (p a:T) (Z:Sg):Ext Z (mB p a Z)/\∀ Zf,Ext (mB p a Z) Zf->Sat Zf ρ->(p.den (Zf.env ρ)).b = (a.den ρ).b:=by
 have other:Ext Z { Z with eqB:=(p,a) :: Z.eqB }/\∀ Zf,Ext { Z with eqB:=(p,a) :: Z.eqB } Zf->Sat Zf ρ->(p.den (Zf.env ρ)).b = (a.den ρ).b :=
  ⟨⟨rfl,fun _ _ h=>h,fun _ h=>h,fun x h=>List.mem_cons_of_mem _ h,fun _ h=>h⟩,fun Zf he hs=>hs.eqB p a (he.eqB _ (List.mem_cons_self ..))⟩
 unfold mB
 split
 ·rename_i n
  split
  ·rename_i hc
   simp only [Bool.and_eq_true,Bool.not_eq_true',Option.isNone_iff_eq_none] at hc
   refine ⟨Ext.bind hc.2,fun Zf he _=>?_⟩
   have hn:¬ n < Zf.th:=by rw [he.th]; intro h; rw [show (Z.bind n (.t a)).th = Z.th from rfl] at h; rw [qbl h] at hc; simp at hc
   simp only [T.den,Sg.env_look hn (he.bd _ _ (qer Z n (.t a))),Bd.den]
  ·exact other
 ·exact other
theorem qeo {p a:Nat} {Z Z':Sg} (h:mR p a Z = some Z'):Ext Z Z'/\∀ Zf,Ext Z' Zf->Zf.env ρ p = ρ a:=by
 unfold mR at h
 by_cases hp:p < Z.th
 ·rw [qbl hp] at h
  simp only [if_true] at h
  split at h
  ·rename_i he
   simp only [Option.some.injEq] at h; subst h
   have:=Nat.eq_of_beq_eq_true he
   exact ⟨Ext.refl _,fun Zf hx=>by rw [Sg.env_lt (by rw [hx.th]; exact hp),this]⟩
  ·simp at h
 ·rw [qeu hp] at h
  simp only [Bool.false_eq_true,if_false] at h
  split at h
  ·rename_i hl
   simp only [Option.some.injEq] at h; subst h
   exact ⟨Ext.bind hl,fun Zf hx=>by rw [Sg.env_look (by rw [hx.th]; exact hp) (hx.bd _ _ (qer _ _ _))]; rfl⟩
  ·rename_i a' hl
   split at h
   ·rename_i he
    simp only [Option.some.injEq] at h; subst h
    have:=Nat.eq_of_beq_eq_true he
    exact ⟨Ext.refl _,fun Zf hx=>by rw [Sg.env_look (by rw [hx.th]; exact hp) (hx.bd _ _ hl),this]; rfl⟩
   ·simp at h
  ·simp at h

theorem qqQ {p:Nat} {Z Z':Sg} (h:q1X p Z = some Z'):Ext Z Z'/\∀ Zf,Ext Z' Zf->(Zf.env ρ p).r = none:=by
 unfold q1X at h
 by_cases hp:p < Z.th
 ·rw [qbl hp] at h; simp at h
 ·rw [qeu hp] at h
  simp only [Bool.false_eq_true,if_false] at h
  split at h
  ·rename_i hl
   simp only [Option.some.injEq] at h; subst h
   exact ⟨Ext.bind hl,fun Zf hx=>by rw [Sg.env_look (by rw [hx.th]; exact hp) (hx.bd _ _ (qer _ _ _))]; rfl⟩
  ·rename_i hl
   simp only [Option.some.injEq] at h; subst h
   exact ⟨Ext.refl _,fun Zf hx=>by rw [Sg.env_look (by rw [hx.th]; exact hp) (hx.bd _ _ hl)]; rfl⟩
  ·simp at h

theorem qcM {t:T} (h:qfg t = true):∃ s:ByteArray,(t.den ρ).v = .string s:=by
 unfold qfg at h
 split at h
 ·exact ⟨_,rfl⟩
 ·exact ⟨_,rfl⟩
 ·exact ⟨_,rfl⟩
 ·exact ⟨_,rfl⟩
 ·exact ⟨_,rfl⟩
 ·cases h
theorem qmm:∀ {r:T} {ts:List T},qaS r = some ts->(r.den ρ).d = [qc ρ ts]
 | .c0 o,ts,h=>by
  cases o <;> simp only [qaS] at h
  case rnil=>simp only [Option.some.injEq] at h; subst h; simp [T.den,O0.den,qc]
  all_goals cases h
 | .c1 o x,n,h=>by simp [qaS] at h
 | .c2 o x y,n,h=>by
  cases o <;> simp only [qaS] at h
  case rcons =>
   split at h
   ·rename_i ts h1
    simp only [Option.some.injEq] at h; subst h
    simp [T.den,O2.den,qmm h1,qc]
   ·cases h
  all_goals cases h
 | .c3 o x y z,n,h=>by simp [qaS] at h
 | .var m,n,h=>by simp [qaS] at h
 | .ife x y u v,n,h=>by simp [qaS] at h
theorem qxp {x y:T} {Z:Sg} (h:qwb x y Z = true):∀ Zf,Ext Z Zf->(x.den (Zf.env ρ)).i = (y.den ρ).i:=by
 intro Zf he
 unfold qwb at h
 split at h
 ·rename_i c n
  split at h
  ·cases h
  ·rename_i hn
   split at h
   ·rename_i d hl
    split at h
    ·rename_i ts hr
     split at h
     ·rename_i k y' hc
      have hlk:=he.bd _ _ hl
      have hn':¬ n < Zf.th:=by rw [he.th]; intro h'; rw [qbl h'] at hn; exact hn rfl
      simp only [T.den,O0.den,O2.den,qa,Sg.env_look hn' hlk,Bd.den,qmm hr,List.headD_cons]
      rw [<- T.same_eq h]
      simp [qc,hc,T.den,O1.den,qag]
     ·cases h
    ·cases h
   ·cases h
 ·cases h
theorem qoA {p a:T} {Z Z':Sg} (h:mV p a Z = some Z'):Ext Z Z'/\∀ Zf,Ext Z' Zf->Sat Zf ρ->(p.den (Zf.env ρ)).v = (a.den ρ).v:=by
 unfold mV at h
 split at h
 ·rename_i k x k' y
  split at h
  ·rename_i hk
   subst hk
   split at h
   ·rename_i hx
    simp only [Option.some.injEq] at h; subst h
    exact ⟨Ext.refl _,fun Zf he hs=>by simp only [T.den,O1.den]; rw [qxp hx Zf he]⟩
   ·simp only [Option.some.injEq] at h; subst h
    have:=qbo (ρ:=ρ) x y Z
    exact ⟨this.1,fun Zf he hs=>by simp only [T.den,O1.den]; rw [this.2 Zf he hs]⟩
  ·simp at h
 ·rename_i x y
  simp only [Option.some.injEq] at h; subst h
  have:=q5S (ρ:=ρ) x y Z
  exact ⟨this.1,fun Zf he hs=>by simp only [T.den,O1.den]; rw [this.2 Zf he hs]⟩
 ·rename_i r p c e r' p' c' e'
  split at h
  ·rename_i hpc
   obtain ⟨rfl,rfl⟩:=hpc
   simp only [Option.map_eq_some_iff] at h
   obtain ⟨Z1,h1,rfl⟩:=h
   have g1:=qeo (ρ:=ρ) h1
   have g2:=qbo (ρ:=ρ) e e' Z1
   exact ⟨g1.1.trans g2.1,fun Zf he hs=>by simp only [T.den,O1.den]; rw [g2.2 Zf he hs,g1.2 Zf (g2.1.trans he)]⟩
  ·split at h
   ·rename_i hpc
    obtain ⟨rfl,h1,h2⟩:=hpc
    have g1:=qeo (ρ:=ρ) h
    refine ⟨g1.1,fun Zf he hs=>?_⟩
    have k1:∀ {t:T},t.isLit = some 0->t = .lit 0:=fun {t} h=>by
     unfold T.isLit at h; split at h <;> simp_all
    rw [k1 h1,k1 h2]
    simp only [T.den,O1.den,O0.den]
    rw [g1.2 Zf he]; simp
   ·simp at h
 ·rename_i r p o l c r' p' o' l' c'
  split at h
  ·rename_i hp
   subst hp
   simp only [Option.map_eq_some_iff] at h
   obtain ⟨Z1,h1,rfl⟩:=h
   have g1:=qeo (ρ:=ρ) h1
   have g2:=qbo (ρ:=ρ) o o' Z1
   have g3:=qbo (ρ:=ρ) l l' (mI o o' Z1)
   have g4:=qbo (ρ:=ρ) c c' (mI l l' (mI o o' Z1))
   exact ⟨((g1.1.trans g2.1).trans g3.1).trans g4.1,fun Zf he hs=>by
    simp only [T.den,O3.den]
    rw [g2.2 Zf ((g3.1.trans g4.1).trans he) hs,g3.2 Zf (g4.1.trans he) hs,g4.2 Zf he hs,g1.2 Zf (((g2.1.trans g3.1).trans g4.1).trans he)]⟩
  ·simp at h
 ·rename_i r p o l c
  simp only [Option.map_eq_some_iff] at h
  obtain ⟨Z1,h1,rfl⟩:=h
  have g1:=qqQ (ρ:=ρ) h1
  have g2:=qbo (ρ:=ρ) o (.lit 0) Z1
  have g3:=qbo (ρ:=ρ) l (.lit 0) (mI o (.lit 0) Z1)
  have g4:=qbo (ρ:=ρ) c (.lit 0) (mI l (.lit 0) (mI o (.lit 0) Z1))
  exact ⟨((g1.1.trans g2.1).trans g3.1).trans g4.1,fun Zf he hs=>by
   simp only [T.den,O3.den,O0.den]
   rw [g3.2 Zf (g4.1.trans he) hs,g4.2 Zf he hs,g1.2 Zf (((g2.1.trans g3.1).trans g4.1).trans he)]
   simp [T.den,O0.den,qm]⟩
 ·rename_i r p c e
  simp only [Option.map_eq_some_iff] at h
  obtain ⟨Z1,h1,rfl⟩:=h
  have g1:=qqQ (ρ:=ρ) h1
  have g2:=qbo (ρ:=ρ) e (.lit 0) Z1
  exact ⟨g1.1.trans g2.1,fun Zf he hs=>by
   simp only [T.den,O1.den,O0.den]
   rw [g1.2 Zf (g2.1.trans he)]
   simp [qm]⟩
 ·simp only [Option.some.injEq] at h; subst h; exact ⟨Ext.refl _,fun _ _ _=>rfl⟩
 ·simp only [Option.some.injEq] at h; subst h; exact ⟨Ext.refl _,fun _ _ _=>rfl⟩
 ·simp only [Option.some.injEq] at h; subst h; exact ⟨Ext.refl _,fun _ _ _=>rfl⟩
 ·rename_i n
  split at h
  ·rename_i hst
   obtain ⟨sa,hsa⟩:=qcM (ρ:=ρ) hst
   split at h
   ·rename_i hc
    simp only [Bool.and_eq_true,Bool.not_eq_true',Option.isNone_iff_eq_none] at hc
    simp only [Option.some.injEq] at h; subst h
    refine ⟨Ext.bind hc.2,fun Zf he _=>?_⟩
    have hn:¬ n < Zf.th:=by rw [he.th]; intro h; rw [show (Z.bind n (.t a)).th = Z.th from rfl] at h; rw [qbl h] at hc; simp at hc
    simp only [T.den,O1.den,Sg.env_look hn (he.bd _ _ (qer Z n (.t a))),Bd.den,hsa,qvw]
   ·split at h
    ·rename_i hc
     simp only [Bool.and_eq_true,Nat.blt_eq] at hc
     simp only [Option.some.injEq] at h; subst h
     refine ⟨Ext.refl _,fun Zf he _=>?_⟩
     rw [<- T.same_eq hc.2]
     simp only [T.den,O1.den,Sg.env_lt (show n < Zf.th by rw [he.th]; exact hc.1)]
    ·simp at h
  ·simp at h
 ·rename_i n
  split at h
  ·rename_i hc
   simp only [Bool.and_eq_true,Bool.not_eq_true',Option.isNone_iff_eq_none] at hc
   simp only [Option.some.injEq] at h; subst h
   refine ⟨Ext.bind hc.2,fun Zf he _=>?_⟩
   have hn:¬ n < Zf.th:=by rw [he.th]; intro h; rw [show (Z.bind n (.t a)).th = Z.th from rfl] at h; rw [qbl h] at hc; simp at hc
   simp only [T.den,Sg.env_look hn (he.bd _ _ (qer Z n (.t a))),Bd.den]
  ·split at h
   ·rename_i hc
    simp only [Bool.and_eq_true,Nat.blt_eq] at hc
    simp only [Option.some.injEq] at h; subst h
    refine ⟨Ext.refl _,fun Zf he _=>?_⟩
    rw [<- T.same_eq hc.2]
    simp only [T.den,Sg.env_lt (show n < Zf.th by rw [he.th]; exact hc.1)]
   ·simp at h
 ·simp at h

theorem qt9:∀ {p a:T} {Z Z':Sg},mRw p a Z = some Z'->Ext Z Z'/\∀ Zf,Ext Z' Zf->Sat Zf ρ->(p.den (Zf.env ρ)).d = (a.den ρ).d:=by
 intro p
 induction p with
 | c2 o v r _ ih =>
  intro a Z Z' h
  cases a with
  | c2 o' v' r' =>
   cases o <;> cases o' <;> simp only [mRw] at h <;> try (cases h; done)
   simp only [Option.bind_eq_some_iff] at h
   obtain ⟨Z1,h1,h2⟩:=h
   have g1:=qoA (ρ:=ρ) h1
   have g2:=ih h2
   exact ⟨g1.1.trans g2.1,fun Zf he hs=>by simp only [T.den,O2.den]; rw [g1.2 Zf (g2.1.trans he) hs,g2.2 Zf he hs]⟩
  | _=>cases o <;> simp [mRw] at h
 | c0 o =>
  intro a Z Z' h
  cases a with
  | c0 o' =>
   cases o <;> cases o' <;> simp only [mRw] at h <;> try (cases h; done)
   simp only [Option.some.injEq] at h; subst h
   exact ⟨Ext.refl _,fun _ _ _=>rfl⟩
  | _=>cases o <;> simp [mRw] at h
 | _=>intro a Z Z' h; cases a <;> simp [mRw] at h

theorem qia:∀ (p a:T) (Z:Sg),Ext Z (mD p a Z)/\∀ Zf,Ext (mD p a Z) Zf->Sat Zf ρ->(p.den (Zf.env ρ)).d = (a.den ρ).d:=by
 have other:∀ (p a:T) (Z:Sg),Ext Z { Z with eqD:=(p,a) :: Z.eqD }/\∀ Zf,Ext { Z with eqD:=(p,a) :: Z.eqD } Zf->Sat Zf ρ->(p.den (Zf.env ρ)).d = (a.den ρ).d:=fun p a Z =>
  ⟨⟨rfl,fun _ _ h=>h,fun _ h=>h,fun _ h=>h,fun x h=>List.mem_cons_of_mem _ h⟩,fun Zf he hs=>hs.eqD p a (he.eqD _ (List.mem_cons_self ..))⟩
 intro p a Z
 fun_induction mD p a Z with
 | case1 n a Z hc =>
  simp only [Bool.and_eq_true,Bool.not_eq_true',Option.isNone_iff_eq_none] at hc
  refine ⟨Ext.bind hc.2,fun Zf he _=>?_⟩
  have hn:¬ n < Zf.th:=by rw [he.th]; intro h; rw [show (Z.bind n (.t a)).th = Z.th from rfl] at h; rw [qbl h] at hc; simp at hc
  simp only [T.den,Sg.env_look hn (he.bd _ _ (qer Z n (.t a))),Bd.den]
 | case2=>exact other _ _ _
 | case3 d e r c d' e' r' Z Z1 hr ih =>
  have g1:=qt9 (ρ:=ρ) hr
  have g3:=qbo (ρ:=ρ) e e' (mD d d' Z1)
  exact ⟨(g1.1.trans ih.1).trans g3.1,fun Zf he hs=>by
   simp only [T.den,O3.den]
   rw [g1.2 Zf ((ih.1.trans g3.1).trans he) hs,ih.2 Zf (g3.1.trans he) hs,g3.2 Zf he hs]⟩
 | case4=>exact other _ _ _
 | case5=>exact other _ _ _
 | case6 x y x' y' Z ih1 ih2 =>
  exact ⟨ih1.1.trans ih2.1,fun Zf he hs=>by
   simp only [T.den,O2.den]
   rw [ih1.2 Zf (ih2.1.trans he) hs,ih2.2 Zf he hs]⟩
 | case7 v r a Z Z1 hr=>exact qt9 (ρ:=ρ) hr
 | case8=>exact other _ _ _
 | case9=>exact other _ _ _

theorem qpG:∀ {ps as:List T} {Z Z':Sg},qoH ps as Z = some Z'->Ext Z Z'/\∀ Zf,Ext Z' Zf->Sat Zf ρ->qc (Zf.env ρ) ps = qc ρ as
 | [],[],Z,Z',h=>by simp only [qoH,Option.some.injEq] at h; subst h; exact ⟨Ext.refl _,fun _ _ _=>rfl⟩
 | p :: ps,a :: as,Z,Z',h=>by
  simp only [qoH,Option.bind_eq_some_iff] at h
  obtain ⟨Z1,h1,h2⟩:=h
  have g1:=qoA (ρ:=ρ) h1
  have g2:=qpG h2
  exact ⟨g1.1.trans g2.1,fun Zf he hs=>by
   have:=g2.2 Zf he hs
   simp only [qc,List.map_cons] at this ⊢
   rw [this,g1.2 Zf (g2.1.trans he) hs]⟩
 | [],_ :: _,Z,Z',h=>by simp [qoH] at h
 | _ :: _,[],Z,Z',h=>by simp [qoH] at h

theorem qxi:∀ (ps as:List T) (Z:Sg),Ext Z (qg5 ps as Z):=by
 intro ps as Z
 fun_induction qg5 ps as Z with
 | case1 k c n ps a as Z hc ih =>
  simp only [Bool.and_eq_true,Bool.not_eq_true',Option.isNone_iff_eq_none] at hc
  exact (Ext.bind hc.2).trans ih
 | case2=>assumption
 | case3=>assumption
 | case4=>exact Ext.refl _
theorem qhf {ps as:List T} {Z Z':Sg} (h:mVs ps as Z = some Z'):Ext Z Z'/\∀ Zf,Ext Z' Zf->Sat Zf ρ->qc (Zf.env ρ) ps = qc ρ as:=by
 have g:=qpG (ρ:=ρ) h
 exact ⟨(qxi ps as Z).trans g.1,g.2⟩

theorem qp9:∀ {ps as:List (Bool × List T)} {Z Z':Sg},mSV.mTup ps as Z = some Z'->Ext Z Z'/\∀ Zf,Ext Z' Zf->Sat Zf ρ->ps.map (qeQ (Zf.env ρ)) = as.map (qeQ ρ)
 | [],[],Z,Z',h=>by simp only [mSV.mTup,Option.some.injEq] at h; subst h; exact ⟨Ext.refl _,fun _ _ _=>rfl⟩
 | (g,p) :: ps,(g',a) :: as,Z,Z',h=>by
  simp only [mSV.mTup] at h
  split at h
  ·rename_i hg
   subst hg
   simp only [Option.bind_eq_some_iff] at h
   obtain ⟨Z1,h1,h2⟩:=h
   have g1:=qhf (ρ:=ρ) h1
   have g2:=qp9 h2
   exact ⟨g1.1.trans g2.1,fun Zf he hs=>by
    simp only [List.map_cons]
    rw [g2.2 Zf he hs]
    have:=g1.2 Zf (g2.1.trans he) hs
    cases g <;> simp only [qeQ] <;> rw [this]⟩
  ·simp at h
 | [],_ :: _,Z,Z',h=>by simp [mSV.mTup] at h
 | _ :: _,[],Z,Z',h=>by simp [mSV.mTup] at h

theorem qmq {p a:SV} {Z Z':Sg} (h:mSV p a Z = some Z'):Ext Z Z'/\∀ Zf,Ext Z' Zf->Sat Zf ρ->p.den (Zf.env ρ) = a.den ρ:=by
 unfold mSV at h
 split at h
 ·have g:=qoA (ρ:=ρ) h
  exact ⟨g.1,fun Zf he hs=>by simp only [SV.den]; rw [g.2 Zf he hs]⟩
 ·have g:=qhf (ρ:=ρ) h
  exact ⟨g.1,fun Zf he hs=>by simp only [SV.den]; rw [g.2 Zf he hs]⟩
 ·split at h
  ·rename_i hf
   subst hf
   simp only [Option.bind_eq_some_iff] at h
   obtain ⟨Z1,h1,h2⟩:=h
   have g1:=qhf (ρ:=ρ) h1
   have g2:=qhf (ρ:=ρ) h2
   exact ⟨g1.1.trans g2.1,fun Zf he hs=>by simp only [SV.den]; rw [g2.2 Zf he hs,g1.2 Zf (g2.1.trans he) hs]⟩
  ·simp at h
 ·have g:=qp9 (ρ:=ρ) h
  exact ⟨g.1,fun Zf he hs=>by simp only [SV.den]; rw [g.2 Zf he hs]⟩
 ·simp at h

theorem qqU:∀ {ps as:List SV} {Z Z':Sg},qju ps as Z = some Z'->Ext Z Z'/\∀ Zf,Ext Z' Zf->Sat Zf ρ->ps.map (SV.den (Zf.env ρ)) = as.map (SV.den ρ)
 | [],[],Z,Z',h=>by simp only [qju,Option.some.injEq] at h; subst h; exact ⟨Ext.refl _,fun _ _ _=>rfl⟩
 | p :: ps,a :: as,Z,Z',h=>by
  simp only [qju,Option.bind_eq_some_iff] at h
  obtain ⟨Z1,h1,h2⟩:=h
  have g1:=qmq (ρ:=ρ) h1
  have g2:=qqU h2
  exact ⟨g1.1.trans g2.1,fun Zf he hs=>by
   simp only [List.map_cons]
   rw [g2.2 Zf he hs,g1.2 Zf (g2.1.trans he) hs]⟩
 | [],_ :: _,Z,Z',h=>by simp [qju] at h
 | _ :: _,[],Z,Z',h=>by simp [qju] at h

theorem qhd (hg:ρ.good) {p a:SH} {Z Z':Sg} (h:mH1 p a Z = some Z'):Ext Z Z'/\∀ Zf r r',p.reg = some r->a.reg = some r'->Zf.env ρ r = ρ r'->Ext Z' Zf->Sat Zf ρ ->
  (∀ hp,a.den ρ hp->p.den (Zf.env ρ) hp)/\(∀ hp,a.roden ρ hp->p.roden (Zf.env ρ) hp):=by
 unfold mH1 at h
 split at h
 ·rename_i r0 ty ps r1 ty' as
  split at h
  ·rename_i ht
   have ht:=Nat.eq_of_beq_eq_true ht
   subst ht
   have g:=qhf (ρ:=ρ) h
   refine ⟨g.1,fun Zf r r' hr hr' hrr he hs=>?_⟩
   simp only [SH.reg,Option.some.injEq] at hr hr'
   subst hr; subst hr'
   have:=g.2 Zf he hs
   refine ⟨fun hp=>?_,fun hp=>?_⟩
   ·simp only [SH.den]; rw [this,hrr]; exact id
   ·simp only [SH.roden]; rw [this,hrr]; exact id
  ·simp at h
 ·rename_i r0 ty pat d cap r1 ty' pat' d' cap'
  split at h
  ·rename_i ht
   simp only [Bool.and_eq_true,decide_eq_true_eq] at ht
   obtain ⟨ht,hpat⟩:=ht
   have ht:=Nat.eq_of_beq_eq_true ht
   subst ht; subst hpat
   simp only [Option.some.injEq] at h; subst h
   have g1:=qia (ρ:=ρ) d d' Z
   have g2:=qbo (ρ:=ρ) cap cap' (mD d d' Z)
   refine ⟨g1.1.trans g2.1,fun Zf r r' hr hr' hrr he hs=>?_⟩
   simp only [SH.reg,Option.some.injEq] at hr hr'
   subst hr; subst hr'
   have e1:=g1.2 Zf (g2.1.trans he) hs
   have e2:=g2.2 Zf he hs
   refine ⟨fun hp=>?_,fun hp=>?_⟩
   ·simp only [SH.den]; rw [e1,e2,hrr]; exact id
   ·simp only [SH.roden]; rw [e1,hrr]; exact id
  ·simp at h
 ·rename_i r0 ty pat d cap r1 ty' as
  split at h
  ·rename_i ht
   simp only [Bool.and_eq_true] at ht
   obtain ⟨⟨ht,hpos⟩,hmod⟩:=ht
   have ht:=Nat.eq_of_beq_eq_true ht
   have hmod:=Nat.eq_of_beq_eq_true hmod
   simp only [Nat.blt_eq] at hpos
   subst ht
   split at h
   ·rename_i D hD
    simp only [Option.some.injEq] at h; subst h
    have g1:=qia (ρ:=ρ) d D Z
    have g2:=qbo (ρ:=ρ) cap (.lit ((as.length / pat.length:Nat):Int)) (mD d D Z)
    refine ⟨g1.1.trans g2.1,fun Zf r r' hr hr' hrr he hs=>?_⟩
    simp only [SH.reg,Option.some.injEq] at hr hr'
    subst hr; subst hr'
    have e1:=g1.2 Zf (g2.1.trans he) hs
    have e2:=g2.2 Zf he hs
    obtain ⟨l1,l2,l3⟩:=qgC hg rfl hD
    have hlen:(as.length / pat.length) * pat.length = as.length:=by
     have:=Nat.div_add_mod as.length pat.length
     rw [hmod,Nat.mul_comm] at this; omega
    refine ⟨fun hp hx=>?_,fun hp hx=>?_⟩
    ·obtain ⟨b,h1,h2⟩:=hx
     refine .inr ⟨b,_,by rw [hrr]; exact h1,h2,?_,?_,?_⟩
     ·rw [e2]; show _ = (((as.length / pat.length:Nat):Int)).toNat * pat.length; rw [Int.toNat_natCast,hlen]; simp [qc]
     ·rw [e1,e2,l1]; exact Int.le_refl _
     ·rw [e1]; exact qct l3 (fun j v hv=>by rw [l2] at hv; simpa using hv)
    ·obtain ⟨b,o,c,ty',fr,h1,h2,h3⟩:=hx
     refine .inr ⟨b,o,c,ty',fr,by rw [hrr]; exact h1,h2,?_⟩
     rw [e1]; exact qct l3 (fun j v hv=>by rw [l2] at hv; exact h3 j v hv)
   ·simp at h
  ·simp at h
 ·simp at h

theorem qq4 {p:SH} {n t:Nat} (h:p.isAbs = some (n,t)):p = .abs n t:=by
 cases p <;> simp_all [SH.isAbs]
theorem qd2 {t:Nat}:∀ {l:List SH} {k m:Nat},qgO t l = some (k,m)->l[k]? = some (.abs m t)
 | [],k,m,h=>by simp [qgO] at h
 | .abs m' t' :: l,k,m,h=>by
  simp only [qgO] at h
  split at h
  ·rename_i ht
   simp only [Option.some.injEq,Prod.mk.injEq] at h
   obtain ⟨rfl,rfl⟩:=h
   rw [Nat.eq_of_beq_eq_true ht]; rfl
  ·simp only [Option.map_eq_some_iff,Prod.mk.injEq,Prod.exists] at h
   obtain ⟨k',x',h',rfl,rfl⟩:=h
   simpa using qd2 h'
 | .cells _ _ _ :: l,k,m,h=>by
  simp only [qgO,Option.map_eq_some_iff,Prod.mk.injEq,Prod.exists] at h
  obtain ⟨k',x',h',rfl,rfl⟩:=h
  simpa using qd2 h'
 | .arr _ _ _ _ _ :: l,k,m,h=>by
  simp only [qgO,Option.map_eq_some_iff,Prod.mk.injEq,Prod.exists] at h
  obtain ⟨k',x',h',rfl,rfl⟩:=h
  simpa using qd2 h'
theorem qhH (hg:ρ.good):∀ {ps h ro rest:List SH} {Z Z':Sg} {hO:Hp},mHs true ps h ro Z = some (rest,Z')->qW ρ h hO->Ext Z Z'/\∀ Zf,Ext Z' Zf->Sat Zf ρ ->
  ∃ h1 h2,Hp.disj h1 h2/\hO = Hp.union h1 h2/\qW (Zf.env ρ) ps h1/\qW ρ rest h2
 | [],h,ro,rest,Z,Z',hO,hm,hs=>by
  simp only [mHs,Option.some.injEq,Prod.mk.injEq] at hm
  obtain ⟨rfl,rfl⟩:=hm
  exact ⟨Ext.refl _,fun _ _ _=>⟨Hp.emp,hO,Hp.emp_disj _,(Hp.emp_union _).symm,trivial,hs⟩⟩
 | p :: ps,h,ro,rest,Z,Z',hO,hm,hs=>by
  simp only [mHs] at hm
  split at hm
  ·rename_i n t hp
   have hp:=qq4 hp
   subst hp
   split at hm
   ·rename_i k m hat
    simp only [Option.bind_eq_some_iff,if_true] at hm
    obtain ⟨Z1,h1,h2⟩:=hm
    have hk:=qd2 hat
    have g1:=qeo (ρ:=ρ) h1
    obtain ⟨t1,t2,td,tu,tx,ts⟩:=qY hs hk
    have g2:=qhH hg h2 ts
    refine ⟨g1.1.trans g2.1,fun Zf he hsat=>?_⟩
    obtain ⟨u1,u2,ud,uu,a1,a2⟩:=g2.2 Zf he hsat
    have hx:SH.den (Zf.env ρ) (.abs n t) t1:=by
     simp only [SH.den]
     rw [g1.2 Zf (g2.1.trans he)]; exact tx
    subst tu; subst uu
    rw [Hp.disj_union] at td
    exact ⟨Hp.union t1 u1,u2,Hp.disj_union'.2 ⟨td.2,ud⟩,(Hp.union_assoc _ _ _).symm,⟨t1,u1,td.1,rfl,hx,a1⟩,a2⟩
   ·simp at hm
  split at hm
  ·simp at hm
  ·rename_i r hr
   split at hm
   ·rename_i hc
    simp only [Bool.and_eq_true,Bool.not_eq_true'] at hc
    obtain ⟨hc1,hc2⟩:=hc
    have hn:¬ r < Z.th:=fun h=>by rw [qbl h] at hc1; cases hc1
    have hl:look r Z.bd = some .nil:=by
     revert hc2; cases hl:look r Z.bd with
     | none=>simp [qjL]
     | some b=>cases b <;> simp [qjL]
    split at hm
    ·rename_i r' ty pat d cap _
     simp only [SH.reg,Option.some.injEq] at hr; subst hr
     have g1:=qia (ρ:=ρ) d .dnil Z
     have g2:=qbo (ρ:=ρ) cap (.lit 0) (mD d .dnil Z)
     have g3:=qhH hg hm hs
     refine ⟨(g1.1.trans g2.1).trans g3.1,fun Zf he hsat=>?_⟩
     obtain ⟨h1,h2,hd,hu,a1,a2⟩:=g3.2 Zf he hsat
     refine ⟨h1,h2,hd,hu,⟨Hp.emp,h1,Hp.emp_disj _,(Hp.emp_union _).symm,.inl ⟨?_,?_,?_⟩,a1⟩,a2⟩
     ·rw [Sg.env_look (by rw [he.th,g3.1.th,g2.1.th,g1.1.th]; exact hn) (he.bd _ _ (g3.1.bd _ _ (g2.1.bd _ _ (g1.1.bd _ _ hl))))]; rfl
     ·rw [g1.2 Zf ((g2.1.trans g3.1).trans he) hsat]; rfl
     ·rw [g2.2 Zf (g3.1.trans he) hsat]; rfl
    ·simp at hm
   ·split at hm
    ·simp at hm
    ·rename_i r' hreg
     split at hm
     ·rename_i k a hat
      simp only [Option.bind_eq_some_iff,if_true] at hm
      obtain ⟨Z1,h1,h2⟩:=hm
      obtain ⟨hk,ha⟩:=qG hat
      have g1:=qhd hg h1
      obtain ⟨t1,t2,td,tu,tx,ts⟩:=qY hs hk
      have g2:=qhH hg h2 ts
      refine ⟨g1.1.trans g2.1,fun Zf he hsat=>?_⟩
      obtain ⟨u1,u2,ud,uu,a1,a2⟩:=g2.2 Zf he hsat
      have hrr:Zf.env ρ r = ρ r':=by
       have hx:Ext Z Zf:=(g1.1.trans g2.1).trans he
       unfold Sg.reg at hreg
       by_cases hlt:r < Z.th
       ·rw [qbl hlt] at hreg
        simp only [if_true,Option.some.injEq] at hreg
        rw [Sg.env_lt (by rw [hx.th]; exact hlt),hreg]
       ·rw [qeu hlt] at hreg
        simp only [Bool.false_eq_true,if_false] at hreg
        split at hreg
        ·rename_i m hl
         simp only [Option.some.injEq] at hreg
         rw [Sg.env_look (by rw [hx.th]; exact hlt) (hx.bd _ _ hl),<- hreg]; rfl
        ·simp at hreg
      have hx:=(g1.2 Zf r r' hr ha hrr (g2.1.trans he) hsat).1 t1 tx
      subst tu; subst uu
      rw [Hp.disj_union] at td
      refine ⟨Hp.union t1 u1,u2,Hp.disj_union'.2 ⟨td.2,ud⟩,(Hp.union_assoc _ _ _).symm,⟨t1,u1,td.1,rfl,hx,a1⟩,a2⟩
     ·simp at hm

theorem qzj {Z Zf:Sg} {r r':Nat} (hreg:Z.reg r = some r') (hx:Ext Z Zf):Zf.env ρ r = ρ r':=by
 unfold Sg.reg at hreg
 by_cases hlt:r < Z.th
 ·rw [qbl hlt] at hreg
  simp only [if_true,Option.some.injEq] at hreg
  rw [Sg.env_lt (by rw [hx.th]; exact hlt),hreg]
 ·rw [qeu hlt] at hreg
  simp only [Bool.false_eq_true,if_false] at hreg
  split at hreg
  ·rename_i m hl
   simp only [Option.some.injEq] at hreg
   rw [Sg.env_look (by rw [hx.th]; exact hlt) (hx.bd _ _ hl),<- hreg]; rfl
  ·simp at hreg

theorem qjN (hg:ρ.good):∀ {ps h ro rest:List SH} {Z Z':Sg} {hF hO H:Hp},mHs false ps h ro Z = some (rest,Z')->qW ρ h hO->(∀ x ∈ ro,x.roden ρ hF)->Hp.le hO H->Hp.le hF H ->
  Ext Z Z'/\rest = h/\∀ Zf,Ext Z' Zf->Sat Zf ρ->∀ p ∈ ps,p.roden (Zf.env ρ) H
 | [],h,ro,rest,Z,Z',hF,hO,H,hm,hs,hr,_,_=>by
  simp only [mHs,Option.some.injEq,Prod.mk.injEq] at hm
  obtain ⟨rfl,rfl⟩:=hm
  exact ⟨Ext.refl _,rfl,fun _ _ _ p hp=>by cases hp⟩
 | p :: ps,h,ro,rest,Z,Z',hF,hO,H,hm,hs,hro,hl1,hl2=>by
  simp only [mHs] at hm
  split at hm
  ·rename_i n t hp
   have hp:=qq4 hp
   subst hp
   split at hm
   ·rename_i k m hat
    simp only [Option.bind_eq_some_iff,Bool.false_eq_true,if_false] at hm
    obtain ⟨Z1,h1,h2⟩:=hm
    have hk:=qd2 hat
    have g1:=qeo (ρ:=ρ) h1
    have g2:=qjN hg h2 hs hro hl1 hl2
    refine ⟨g1.1.trans g2.1,g2.2.1,fun Zf he hsat q hq=>?_⟩
    cases hq with
    | head =>
     obtain ⟨t1,t2,td,tu,tx,ts⟩:=qY hs hk
     simp only [SH.roden]
     rw [g1.2 Zf (g2.1.trans he)]
     exact Hp.le_trans tx.1 (Hp.le_trans (tu ▸ Hp.le_left t1 t2) hl1)
    | tail _ hq=>exact g2.2.2 Zf he hsat q hq
   ·simp only [Bool.false_eq_true,if_false] at hm
    split at hm
    ·rename_i k m hat
     simp only [Option.bind_eq_some_iff] at hm
     obtain ⟨Z1,h1,h2⟩:=hm
     have hk:=qd2 hat
     have g1:=qeo (ρ:=ρ) h1
     have g2:=qjN hg h2 hs hro hl1 hl2
     refine ⟨g1.1.trans g2.1,g2.2.1,fun Zf he hsat q hq=>?_⟩
     cases hq with
     | head =>
      simp only [SH.roden]
      rw [g1.2 Zf (g2.1.trans he)]
      exact Hp.le_trans (hro _ (List.mem_of_getElem? hk)) hl2
     | tail _ hq=>exact g2.2.2 Zf he hsat q hq
    ·simp at hm
  split at hm
  ·simp at hm
  ·rename_i r hr
   split at hm
   ·rename_i hc
    simp only [Bool.and_eq_true,Bool.not_eq_true'] at hc
    obtain ⟨hc1,hc2⟩:=hc
    have hn:¬ r < Z.th:=fun h=>by rw [qbl h] at hc1; cases hc1
    have hl:look r Z.bd = some .nil:=by
     revert hc2; cases hl:look r Z.bd with
     | none=>simp [qjL]
     | some b=>cases b <;> simp [qjL]
    split at hm
    ·rename_i r' ty pat d cap _
     simp only [SH.reg,Option.some.injEq] at hr; subst hr
     have g1:=qia (ρ:=ρ) d .dnil Z
     have g2:=qbo (ρ:=ρ) cap (.lit 0) (mD d .dnil Z)
     have g3:=qjN hg hm hs hro hl1 hl2
     refine ⟨(g1.1.trans g2.1).trans g3.1,g3.2.1,fun Zf he hsat q hq=>?_⟩
     cases hq with
     | head =>
      refine .inl ?_
      rw [g1.2 Zf ((g2.1.trans g3.1).trans he) hsat]; rfl
     | tail _ hq=>exact g3.2.2 Zf he hsat q hq
    ·simp at hm
   ·split at hm
    ·simp at hm
    ·rename_i r' hreg
     split at hm
     ·rename_i k a hat
      simp only [Option.bind_eq_some_iff,Bool.false_eq_true,if_false] at hm
      obtain ⟨Z1,h1,h2⟩:=hm
      obtain ⟨hk,ha⟩:=qG hat
      have g1:=qhd hg h1
      have g2:=qjN hg h2 hs hro hl1 hl2
      refine ⟨g1.1.trans g2.1,g2.2.1,fun Zf he hsat q hq=>?_⟩
      cases hq with
      | head =>
       obtain ⟨t1,t2,td,tu,tx,ts⟩:=qY hs hk
       have hrr:=qzj (ρ:=ρ) hreg ((g1.1.trans g2.1).trans he)
       refine (g1.2 Zf r r' hr ha hrr (g2.1.trans he) hsat).2 H (SH.den_ro tx ?_)
       exact Hp.le_trans (tu ▸ Hp.le_left t1 t2) hl1
      | tail _ hq=>exact g2.2.2 Zf he hsat q hq
     ·simp only [Bool.false_eq_true,if_false] at hm
      split at hm
      ·rename_i k a hat
       simp only [Option.bind_eq_some_iff] at hm
       obtain ⟨Z1,h1,h2⟩:=hm
       obtain ⟨hk,ha⟩:=qG hat
       have g1:=qhd hg h1
       have g2:=qjN hg h2 hs hro hl1 hl2
       refine ⟨g1.1.trans g2.1,g2.2.1,fun Zf he hsat q hq=>?_⟩
       cases hq with
       | head =>
        have hrr:=qzj (ρ:=ρ) hreg ((g1.1.trans g2.1).trans he)
        exact (g1.2 Zf r r' hr ha hrr (g2.1.trans he) hsat).2 H (SH.ro_mono (hro a (List.mem_of_getElem? hk)) hl2)
       | tail _ hq=>exact g2.2.2 Zf he hsat q hq
      ·simp at hm

theorem qeB:∀ {ps h ro rest:List SH} {Z Z':Sg},mHs false ps h ro Z = some (rest,Z')->Ext Z Z'
 | [],h,ro,rest,Z,Z',hm=>by
  simp only [mHs,Option.some.injEq,Prod.mk.injEq] at hm
  obtain ⟨rfl,rfl⟩:=hm
  exact Ext.refl _
 | p :: ps,h,ro,rest,Z,Z',hm=>by
  simp only [mHs] at hm
  split at hm
  ·split at hm
   ·simp only [Option.bind_eq_some_iff,Bool.false_eq_true,if_false] at hm
    obtain ⟨Z1,h1,h2⟩:=hm
    exact (qeo (ρ:=fun _=>{}) h1).1.trans (qeB h2)
   ·simp only [Bool.false_eq_true,if_false] at hm
    split at hm
    ·simp only [Option.bind_eq_some_iff] at hm
     obtain ⟨Z1,h1,h2⟩:=hm
     exact (qeo (ρ:=fun _=>{}) h1).1.trans (qeB h2)
    ·simp at hm
  split at hm
  ·simp at hm
  ·rename_i r hr
   split at hm
   ·split at hm
    ·rename_i r' ty pat d cap _
     exact ((qia (ρ:=fun _=>{}) d .dnil Z).1.trans (qbo (ρ:=fun _=>{}) cap (.lit 0) (mD d .dnil Z)).1).trans (qeB hm)
    ·simp at hm
   ·split at hm
    ·simp at hm
    ·split at hm
     ·simp only [Option.bind_eq_some_iff,Bool.false_eq_true,if_false] at hm
      obtain ⟨Z1,h1,h2⟩:=hm
      exact (qhd (ρ:=fun _=>{}) (fun _=>⟨rfl,by simp⟩) h1).1.trans (qeB h2)
     ·simp only [Bool.false_eq_true,if_false] at hm
      split at hm
      ·simp only [Option.bind_eq_some_iff] at hm
       obtain ⟨Z1,h1,h2⟩:=hm
       exact (qhd (ρ:=fun _=>{}) (fun _=>⟨rfl,by simp⟩) h1).1.trans (qeB h2)
      ·simp at hm

theorem qhb {Z:Sg} (f:T->T->Option T) (R:T->T->Prop) (hsame:∀ p p' a,Z.sub p = some p'->p'.same a = true->R p a)
  (hf:∀ p p' a c,Z.sub p = some p'->f p' a = some c->(c.den ρ).b = true->R p a) :
  ∀ {l:List (T × T)} {cs:List T},Z.eqs f l = some cs->(∀ c ∈ cs,(c.den ρ).b = true)->∀ p a,(p,a) ∈ l->R p a
 | [],_,_,_,p,a,h=>by cases h
 | (p,a) :: r,cs,hm,hc,q,b,hq=>by
  simp only [Sg.eqs] at hm
  split at hm
  ·rename_i p' cs' hp hcs
   split at hm
   ·rename_i hs
    simp only [Option.some.injEq] at hm; subst hm
    cases hq with
    | head=>exact hsame _ _ _ hp hs
    | tail _ hq=>exact qhb f R hsame hf hcs hc q b hq
   ·split at hm
    ·rename_i c hfc
     simp only [Option.some.injEq] at hm; subst hm
     cases hq with
     | head=>exact hf _ _ _ _ hp hfc (hc c (List.mem_cons_self ..))
     | tail _ hq=>exact qhb f R hsame hf hcs (fun c h=>hc c (List.mem_cons_of_mem _ h)) q b hq
    ·simp at hm
  ·simp at hm

end Go.Eng

set_option linter.unusedSimpArgs false
set_option linter.unusedVariables false
namespace Go.Eng
open Go

structure Fr where
 h:Hp
 os:Os
 out:Array (Nat × ByteArray)
instance:Coe Fr Hp:=⟨Fr.h⟩
instance:CoeFun Fr (fun _=>Hp):=⟨Fr.h⟩
def Fr.wi (F:Fr) (w:World):Prop:=w.os = F.os/\w.output = F.out

structure Holds (ρ:Env) (hF:Fr) (s:S) (a:Act) (w:World):Prop where
 gd:ρ.good
 nt:s.nt <= a.tmps.size
 df:a.defers = []
 env:∀ t v,qaV t s.env = some v->a.tmps.getD t undef = v.den ρ
 ro:∀ x ∈ s.ro,x.roden ρ hF
 hp:∃ hO,Hp.disj hF hO/\qW ρ s.heap hO/\(Hp.union hF hO).sub w/\hF.wi w
 pc:∀ c b,(c,b) ∈ s.pc->(c.den ρ).b = b
 vw:∀ x ∈ s.vw,∃ m ∈ x.1,x.2.roden ρ (ρ m).h

variable {P:Program} {ρ:Env} {hF:Fr} {s:S} {a:Act} {w:World}


theorem qpP {v:Value} {t:T} (h:qjG v = some t):(t.den ρ).v = v:=by
 unfold qjG at h
 split at h <;> simp only [Option.some.injEq,reduceCtorEq] at h <;> subst h <;> simp [T.den,O0.den,O1.den]

theorem qtc {v:Value} {t:T} {n:Nat} (h:qjG v = some t):t.inB n = true:=by
 unfold qjG at h
 split at h <;> simp only [Option.some.injEq,reduceCtorEq] at h <;> subst h <;> simp [T.inB]

theorem qgY:∀ {l:List Value} {ts:List T},qe4 l = some ts->qc ρ ts = l
 | [],ts,h=>by simp only [qe4,Option.some.injEq] at h; subst h; rfl
 | v :: r,ts,h=>by
  simp only [qe4] at h
  split at h
  ·rename_i t ts' h1 h2
   simp only [Option.some.injEq] at h; subst h
   have:=qgY h2
   simp only [qc,List.map_cons] at this ⊢
   rw [this,qpP h1]
  ·simp at h

theorem qkH {n:Nat}:∀ {l:List Value} {ts:List T},qe4 l = some ts->ts.all (T.inB n) = true
 | [],ts,h=>by simp only [qe4,Option.some.injEq] at h; subst h; rfl
 | v :: r,ts,h=>by
  simp only [qe4] at h
  split at h
  ·rename_i t ts' h1 h2
   simp only [Option.some.injEq] at h; subst h
   simp only [List.all_cons,qtc h1,qkH h2,Bool.and_self]
  ·simp at h

theorem qxX {v:Value} {x:SV} (h:ofValue v = some x):x.den ρ = v:=by
 unfold ofValue at h
 split at h
 ·rename_i cs
  simp only [Option.map_eq_some_iff] at h
  obtain ⟨ts,h1,rfl⟩:=h
  simp only [SV.den,qgY h1]
 ·simp only [Option.map_eq_some_iff] at h
  obtain ⟨t,h1,rfl⟩:=h
  simp only [SV.den,qpP h1]

theorem q2v {v:Value} {x:SV} {n:Nat} (h:ofValue v = some x):x.inB n = true:=by
 unfold ofValue at h
 split at h
 ·rename_i cs
  simp only [Option.map_eq_some_iff] at h
  obtain ⟨ts,h1,rfl⟩:=h
  exact qkH h1
 ·simp only [Option.map_eq_some_iff] at h
  obtain ⟨t,h1,rfl⟩:=h
  exact qtc h1

theorem Holds.opd (hs:Holds ρ hF s a w) {x:Operand} {v:SV} (h:opd s x = some v):a.eval x = v.den ρ:=by
 cases x with
 | tmp t=>exact hs.env t v h
 | const c=>exact (qxX h).symm
 | global g=>simp [Eng.opd] at h
 | func f =>
  simp only [Eng.opd,Option.some.injEq] at h; subst h
  simp [Act.eval,SV.den,qc]

theorem Holds.opds (hs:Holds ρ hF s a w):∀ {xs:List Operand} {vs:List SV},opds s xs = some vs->xs.map a.eval = vs.map (SV.den ρ)
 | [],vs,h=>by simp only [Eng.opds,Option.some.injEq] at h; subst h; rfl
 | x :: r,vs,h=>by
  simp only [Eng.opds] at h
  split at h
  ·rename_i v vs' h1 h2
   simp only [Option.some.injEq] at h; subst h
   simp only [List.map_cons]
   rw [hs.opd h1,Holds.opds hs h2]
  ·simp at h

theorem qoG {n:Nat}:∀ {l:List (Nat × SV)} {t:Nat} {v:SV},l.all (fun x=>x.2.inB n) = true->qaV t l = some v->v.inB n = true
 | [],t,v,_,h=>by simp [qaV] at h
 | (k,u) :: r,t,v,hb,h=>by
  simp only [List.all_cons,Bool.and_eq_true] at hb
  simp only [qaV] at h
  split at h
  ·simp only [Option.some.injEq] at h; rw [<- h]; exact hb.1
  ·exact qoG hb.2 h

theorem qmI (hsc:s.scopedEH = true) {x:Operand} {v:SV} (h:opd s x = some v):v.inB s.nx = true:=by
 simp only [S.scopedEH,Bool.and_eq_true] at hsc
 cases x with
 | tmp t=>exact qoG hsc.1 h
 | const c=>exact q2v h
 | global g=>simp [Eng.opd] at h
 | func f=>simp only [Eng.opd,Option.some.injEq] at h; subst h; rfl

theorem quO {v:SV} {cs:List T} {n:Nat} (h:v.cells = some cs) (hv:v.inB n = true):cs.all (T.inB n) = true:=by
 cases v <;> simp only [SV.cells,Option.some.injEq,reduceCtorEq] at h <;> subst h
 ·simpa [SV.inB] using hv
 ·exact hv

theorem qhy {d:List (List Value)} (h:∀ row ∈ d,∀ v ∈ row,v.oneCell' = true):∀ v ∈ d.headD [],v.oneCell' = true:=by
 cases d with
 | nil=>simp
 | cons r _=>simpa using h r (by simp)

theorem T.den_good (hg:ρ.good):∀ (t:T),(t.den ρ).good
 | .var n=>hg n
 | .c0 o=>by cases o <;> simp [T.den,O0.den,U.good,Value.oneCell']
 | .c1 o x=>by cases o <;> simp [T.den,O1.den,U.good,Value.oneCell']
 | .c2 o x y=>by
  have hx:=T.den_good hg x
  have hy:=T.den_good hg y
  cases o <;> simp only [T.den,O2.den] <;> (try (simp [U.good,Value.oneCell']; done))
  case vcell c=>exact ⟨qqI hx.2 _ _,by simp⟩
  case dsnoc=>exact ⟨rfl,fun row hr=>(List.mem_append.1 hr).elim (hx.2 row) (hy.2 row)⟩
  case rcons =>
   refine ⟨rfl,fun row hr v hv=>?_⟩
   simp only [List.mem_singleton] at hr
   subst hr
   rcases List.mem_cons.1 hv with rfl | hv
   ·exact hx.1
   ·exact qhy hy.2 v hv
  case drep =>
   refine ⟨rfl,fun row hr v hv=>?_⟩
   rw [(List.mem_replicate.1 hr).2] at hv
   exact qhy hy.2 v hv
  case dapp=>exact ⟨rfl,fun row hr=>(List.mem_append.1 hr).elim (hx.2 row) (hy.2 row)⟩
  case dtake=>exact ⟨rfl,fun row hr=>hx.2 row (List.mem_of_mem_take hr)⟩
  case ddrop=>exact ⟨rfl,fun row hr=>hx.2 row (List.mem_of_mem_drop hr)⟩
 | .c3 o x y z=>by
  have hx:=T.den_good hg x
  have hz:=T.den_good hg z
  cases o
  ·simp [T.den,O3.den,U.good,Value.oneCell']
  ·simp only [T.den,O3.den]
   refine ⟨rfl,fun row hr v hv=>?_⟩
   unfold qbi at hr
   rcases List.mem_or_eq_of_mem_set hr with hr | rfl
   ·exact hx.2 row hr v hv
   ·unfold qaq at hv
    rcases List.mem_append.1 hv with hv | hv
    ·rcases List.mem_append.1 hv with hv | hv
     ·have hv:=List.mem_of_mem_take hv
      cases h1:(x.den ρ).d[(y.den ρ).i.toNat]? with
      | none=>rw [h1] at hv; simp at hv
      | some row=>rw [h1] at hv; exact hx.2 row (List.mem_of_getElem? h1) v hv
     ·exact qhy hz.2 v hv
    ·have hv:=List.mem_of_mem_drop hv
     cases h1:(x.den ρ).d[(y.den ρ).i.toNat]? with
     | none=>rw [h1] at hv; simp at hv
     | some row=>rw [h1] at hv; exact hx.2 row (List.mem_of_getElem? h1) v hv
  ·simp only [T.den,O3.den]
   refine ⟨rfl,fun row hr v hv=>?_⟩
   cases hd:(x.den ρ).d with
   | nil=>rw [hd] at hr; simp [qas] at hr
   | cons r0 rest =>
    rw [hd] at hr
    simp only [qas,List.mem_cons] at hr
    rcases hr with rfl | hr
    ·rcases List.mem_or_eq_of_mem_set hv with hv | rfl
     ·exact hx.2 r0 (by rw [hd]; exact List.mem_cons_self ..) v hv
     ·exact hz.1
    ·exact hx.2 row (by rw [hd]; exact List.mem_cons_of_mem _ hr) v hv
  ·simp only [T.den,O3.den]
   refine ⟨rfl,fun row hr=>?_⟩
   simp only [qaM,List.mem_append] at hr
   rcases hr with (hr | hr) | hr
   ·exact hx.2 row (List.mem_of_mem_take hr)
   ·exact hz.2 row hr
   ·exact hx.2 row (List.mem_of_mem_drop hr)
  ·simp [T.den,O3.den,U.good,Value.oneCell']
  ·simp only [T.den,O3.den]
   refine ⟨rfl,fun row hr v hv=>?_⟩
   obtain ⟨u,hu,rfl⟩:=List.mem_map.1 hr
   rw [List.mem_singleton.1 hv]
   exact qhy hx.2 u (List.mem_of_mem_drop (List.mem_of_mem_take hu))
  ·simp only [T.den,O3.den]
   refine ⟨rfl,fun row hr v hv=>?_⟩
   cases hd:(x.den ρ).d with
   | nil=>rw [hd] at hr; simp [qax] at hr
   | cons r0 rest =>
    rw [hd] at hr
    simp only [qax,List.mem_cons] at hr
    rcases hr with rfl | hr
    ·unfold qaq at hv
     rcases List.mem_append.1 hv with hv | hv
     ·rcases List.mem_append.1 hv with hv | hv
      ·exact hx.2 r0 (by rw [hd]; exact List.mem_cons_self ..) v (List.mem_of_mem_take hv)
      ·obtain ⟨q,hq,rfl⟩:=List.mem_map.1 hv
       cases q with
       | nil=>rfl
       | cons u q=>exact hz.2 _ hq _ (List.mem_cons_self ..)
     ·exact hx.2 r0 (by rw [hd]; exact List.mem_cons_self ..) v (List.mem_of_mem_drop hv)
    ·exact hx.2 row (by rw [hd]; exact List.mem_cons_of_mem _ hr) v hv
 | .ife x y u v=>by simp [T.den,U.good,Value.oneCell']

theorem qh6 (hg:ρ.good) (ts:List T):∀ v ∈ qc ρ ts,v.oneCell' = true:=by
 intro v hv
 obtain ⟨t,_,rfl⟩:=List.mem_map.1 hv
 exact (T.den_good hg t).1

theorem qi8 (hg:ρ.good) {v:SV} {cs:List T} (h:v.cells = some cs):(v.den ρ).cells = (qc ρ cs).toArray:=by
 cases v with
 | one t =>
  simp only [SV.cells,Option.some.injEq] at h; subst h
  have:=(T.den_good hg t).1
  simp only [SV.den,qc,List.map_cons,List.map_nil]
  cases hv:(t.den ρ).v <;> simp_all [Value.cells,Value.oneCell']
 | agg ts=>simp only [SV.cells,Option.some.injEq] at h; subst h; simp [SV.den,Value.cells]
 | tup vs=>simp [SV.cells] at h
 | fn f x y=>simp [SV.cells] at h


theorem qf3 {t:TypeId} {b:Bool} (h:qdm P t = some b) (w:World):(isAgg t).run P w = .ok b w:=by
 unfold qdm at h
 unfold isAgg
 simp only [Sem.run_bind]
 have hu:∀ d,P.underlying t = some d->(underlying t).run P w = .ok d w:=fun d hd=>by simp [underlying,hd]
 split at h
 ·rename_i fs hd; simp only [Option.some.injEq] at h; subst h; simp [hu _ hd]
 ·rename_i n e hd; simp only [Option.some.injEq] at h; subst h; simp [hu _ hd]
 ·rename_i d h1 h2 hd
  simp only [Option.some.injEq] at h; subst h
  rw [hu _ hd]
  simp only [Result.andThen_ok]
  cases d <;> simp_all
 ·simp at h

theorem qa8 {t:TypeId} {n:Nat} (h:qN P t = some n) (w:World):(sizeOf t).run P w = .ok n w:=by
 unfold qN at h
 simp only [Option.map_eq_some_iff] at h
 obtain ⟨i,hi,rfl⟩:=h
 simp [sizeOf,typeInfo,hi]

theorem qmc {t:TypeId} {cs:List T} (h:qbM P t = some cs) (w:World):∃ v,(zeroValue t).run P w = .ok v w/\v.cells = (qc ρ cs).toArray:=by
 unfold qbM at h
 split at h
 ·rename_i v hv
  simp only [Option.bind_eq_some_iff] at hv
  obtain ⟨i,hi,hz⟩:=hv
  refine ⟨v,by simp [zeroValue,typeInfo,hi,hz],?_⟩
  rw [qgY h]
 ·simp at h

theorem qt {t:TypeId} {d:TypeDesc} (h:P.underlying t = some d) (w:World):(underlying t).run P w = .ok d w:=by simp [underlying,h]


theorem qgd {n:Nat}:∀ {l:List SH},qcI n l = true->∃ t,.abs n t ∈ l
 | [],h=>by simp [qcI] at h
 | .abs m t :: l,h=>by
  simp only [qcI,Bool.or_eq_true] at h
  rcases h with h | h
  ·rw [Nat.eq_of_beq_eq_true h]; exact ⟨t,List.mem_cons_self ..⟩
  ·obtain ⟨t',ht⟩:=qgd h; exact ⟨t',List.mem_cons_of_mem _ ht⟩
 | .cells _ _ _ :: l,h=>by
  simp only [qcI] at h
  obtain ⟨t',ht⟩:=qgd h; exact ⟨t',List.mem_cons_of_mem _ ht⟩
 | .arr _ _ _ _ _ :: l,h=>by
  simp only [qcI] at h
  obtain ⟨t',ht⟩:=qgd h; exact ⟨t',List.mem_cons_of_mem _ ht⟩

theorem qpk {heap ro:List SH} {hO hF:Hp} (hst:qW ρ heap hO) (hro:∀ x ∈ ro,x.roden ρ hF) {n:Nat} (h:(qcI n heap || qcI n ro) = true):Hp.le (ρ n).h hO∨Hp.le (ρ n).h hF:=by
 simp only [Bool.or_eq_true] at h
 rcases h with h | h
 ·obtain ⟨t,ht⟩:=qgd h
  obtain ⟨k,hk⟩:=List.getElem?_of_mem ht
  obtain ⟨t1,t2,td,tu,tx,ts⟩:=qY hst hk
  exact .inl (Hp.le_trans tx.1 (tu ▸ Hp.le_left t1 t2))
 ·obtain ⟨t,ht⟩:=qgd h
  exact .inr (hro _ ht)

theorem qti {s':S} {r:Nat}:∀ {l:List (List Nat × SH)} {k:Nat} {x:SH},qrd s' r l = some (k,x)->∃ ms,(ms,x) ∈ l/\x.reg = some r/\ms.all s'.piece = true
 | [],k,x,h=>by simp [qrd] at h
 | (ms,y) :: l,k,x,h=>by
  simp only [qrd] at h
  split at h
  ·rename_i hc
   simp only [Bool.and_eq_true] at hc
   simp only [Option.some.injEq,Prod.mk.injEq] at h
   obtain ⟨_,rfl⟩:=h
   refine ⟨ms,List.mem_cons_self ..,?_,hc.2⟩
   have:=hc.1
   unfold q7M at this
   split at this
   ·rename_i q hq
    rw [hq,Nat.eq_of_beq_eq_true this]
   ·cases this
  ·obtain ⟨ms',h1,h2⟩:=qti h
   exact ⟨ms',List.mem_cons_of_mem _ h1,h2⟩

theorem Holds.found (hs:Holds ρ hF s a w) {r k:Nat} {x:SH} (h:s.look r = some (k,x)) :
  ∃ H,Hp.sub H w/\x.roden ρ H/\x.reg = some r:=by
 obtain ⟨hO,hd,hst,hsub,hwi⟩:=hs.hp
 unfold S.look at h
 rcases h1:qaf r s.heap with _ | y
 ·rcases h2:qaf r s.ro with _ | y
  ·rw [h1,h2] at h
   have h:qrd s r s.vw = some (k,x):=h
   obtain ⟨ms,hm,hr,hall⟩:=qti h
   obtain ⟨m,hmm,hx⟩:=hs.vw _ hm
   have hp:=List.all_eq_true.1 hall m hmm
   refine ⟨Hp.union hF hO,hsub,SH.ro_mono hx ?_,hr⟩
   rcases qpk hst hs.ro hp with h | h
   ·exact Hp.le_trans h (Hp.le_right hd)
   ·exact Hp.le_trans h (Hp.le_left _ _)
  ·rw [h1,h2] at h
   have h:y = (k,x):=Option.some.inj h
   subst h
   obtain ⟨hk,hr⟩:=qG h2
   exact ⟨Hp.union hF hO,hsub,SH.ro_mono (hs.ro x (List.mem_of_getElem? hk)) (Hp.le_left _ _),hr⟩
 ·rw [h1] at h
  have h:y = (k,x):=Option.some.inj h
  subst h
  obtain ⟨hk,hr⟩:=qG h1
  obtain ⟨t1,t2,td,tu,tx,ts⟩:=qY hst hk
  exact ⟨Hp.union hF hO,hsub,SH.den_ro tx (Hp.le_trans (tu ▸ Hp.le_left t1 t2) (Hp.le_right hd)),hr⟩

theorem qE (op:BinOp) (x y:T) (hop:op = .eql∨op = .neq∨op = .lss∨op = .leq∨op = .gtr∨op = .geq):((qr op x y).den ρ).b = qH op (x.den ρ).i (y.den ρ).i:=by
 unfold qr
 split
 ·rename_i u v hu hv
  have:x = .lit u:=by unfold T.isLit at hu; split at hu <;> simp_all
  have:y = .lit v:=by unfold T.isLit at hv; split at hv <;> simp_all
  subst_vars; simp [T.den,O0.den]
 ·split
  ·rename_i h
   rw [T.same_eq h]
   rcases hop with rfl | rfl | rfl | rfl | rfl | rfl <;> simp [T.den,O0.den,qH]
  ·rfl

theorem qgk:∀ {t:T},qdD t = true->0 <= (t.den ρ).i
 | .c0 o,h=>by
  cases o <;> simp [qdD] at h
  simpa [T.den,O0.den] using h
 | .c1 o x,h=>by
  cases o <;> simp [qdD] at h <;> simp [T.den,O1.den]
 | .c2 o x y,h=>by
  cases o <;> simp [qdD] at h
  ·have h1:=qgk h.1; have h2:=qgk h.2
   simp only [T.den,O2.den]; omega
  ·have h1:=qgk h.1; have h2:=qgk h.2
   simp only [T.den,O2.den]; split <;> assumption
 | .var n,h=>by simp [qdD] at h
 | .c3 o x y z,h=>by simp [qdD] at h
 | .ife x y u v,h=>by simp [qdD] at h

theorem qv {t:T} (h:((qZ t).den ρ).b = true):0 <= (t.den ρ).i:=by
 unfold qZ at h
 split at h
 ·rename_i hn; exact qgk hn
 ·rw [qE _ _ _ (by simp)] at h; exact of_decide_eq_true h

theorem qgH:∀ (d:T),((qbq d).den ρ).i = ((d.den ρ).d.length:Int)
 | .c0 o=>by cases o <;> simp [qbq,T.den,O0.den,O1.den]
 | .c1 o x=>by simp [qbq,T.den,O1.den]
 | .c2 o x y=>by cases o <;> simp [qbq,T.den,O1.den]
 | .c3 o x y z=>by
  cases o
  ·simp [qbq,T.den,O1.den]
  ·simp only [qbq,qgH x,T.den,O3.den,qbi,List.length_set]
  ·simp only [qbq,qgH x,T.den,O3.den]
   cases (x.den ρ).d <;> simp [qas]
  ·simp [qbq,T.den,O1.den]
  ·simp [qbq,T.den,O1.den]
  ·simp [qbq,T.den,O1.den]
  ·simp only [qbq,qgH x,T.den,O3.den]
   cases (x.den ρ).d <;> simp [qax]
 | .var n=>by simp [qbq,T.den,O1.den]
 | .ife x y u v=>by simp [qbq,T.den,O1.den]

theorem qhm (l:List T) (i:Nat) (vs:List T):qc ρ (qdp l i vs) = qaq (qc ρ l) i (qc ρ vs):=by
 simp [qdp,qaq,qc]

theorem qcN {t:T} {z:Int} (h:t.isLit = some z):(t.den ρ).i = z:=by
 unfold T.isLit at h; split at h <;> simp_all [T.den,O0.den]
theorem qen:∀ {d:T} {n:Nat},slen d = some n->(d.den ρ).d.length = n
 | .c0 o,n,h=>by cases o <;> simp_all [slen,T.den,O0.den]
 | .c1 o x,n,h=>by simp [slen] at h
 | .c2 o x y,n,h=>by
  cases o <;> simp only [slen] at h
  case rcons=>simp only [Option.some.injEq] at h; subst h; simp [T.den,O2.den]
  case drep =>
   split at h
   ·rename_i z hz
    simp only [Option.some.injEq] at h; subst h
    simp [T.den,O2.den,qcN hz]
   ·cases h
  case dapp =>
   split at h
   ·rename_i n1 m1 h1 h2
    simp only [Option.some.injEq] at h; subst h
    simp [T.den,O2.den,qen h1,qen h2]
   ·cases h
  all_goals cases h
 | .c3 o x y z,n,h=>by
  cases o <;> simp only [slen] at h
  case dput c=>simp [T.den,O3.den,qbi,qen h]
  case xput c =>
   simp only [T.den,O3.den]
   rw [<- qen h]
   cases (x.den ρ).d <;> simp [qas]
  case xcopy =>
   simp only [T.den,O3.den]
   rw [<- qen h]
   cases (x.den ρ).d <;> simp [qax]
  all_goals cases h
 | .var m,n,h=>by simp [slen] at h
 | .ife x y u v,n,h=>by simp [slen] at h
theorem qgG:∀ {r:T} {ts:List T},qaS r = some ts->(r.den ρ).d = [qc ρ ts]
 | .c0 o,ts,h=>by
  cases o <;> simp only [qaS] at h
  case rnil=>simp only [Option.some.injEq] at h; subst h; simp [T.den,O0.den,qc]
  all_goals cases h
 | .c1 o x,n,h=>by simp [qaS] at h
 | .c2 o x y,n,h=>by
  cases o <;> simp only [qaS] at h
  case rcons =>
   split at h
   ·rename_i ts h1
    simp only [Option.some.injEq] at h; subst h
    simp [T.den,O2.den,qgG h1,qc]
   ·cases h
  all_goals cases h
 | .c3 o x y z,n,h=>by simp [qaS] at h
 | .var m,n,h=>by simp [qaS] at h
 | .ife x y u v,n,h=>by simp [qaS] at h
theorem qhh:∀ {d:T} {i:Nat} {ts:List T},qM d i = some ts->(d.den ρ).d[i]? = some (qc ρ ts)
 | .c0 o,i,ts,h=>by
  cases o <;> cases i <;> simp only [qM] at h
  case rnil.zero=>simp only [Option.some.injEq] at h; subst h; simp [T.den,O0.den,qc]
  all_goals cases h
 | .c1 o x,i,n,h=>by simp [qM] at h
 | .c2 .rcons v r,0,ts,h=>by
  simp only [qM] at h
  rw [qgG h]; rfl
 | .c2 .rcons v r,i + 1,ts,h=>by simp [qM] at h
 | .c2 .drep n r,i,ts,h=>by
  simp only [qM] at h
  split at h
  ·rename_i z hz
   split at h
   ·rename_i hlt
    simp only [Nat.blt_eq] at hlt
    simp only [T.den,O2.den,qcN hz,qgG h]
    rw [List.getElem?_replicate,if_pos hlt]; rfl
   ·cases h
  ·cases h
 | .c2 .dapp a b,i,ts,h=>by
  simp only [qM] at h
  split at h
  ·rename_i n hn
   have hl:=qen (ρ:=ρ) hn
   split at h
   ·rename_i hlt
    simp only [Nat.blt_eq] at hlt
    simp only [T.den,O2.den]
    rw [List.getElem?_append_left (by omega)]
    exact qhh h
   ·rename_i hlt
    simp only [Nat.blt_eq] at hlt
    simp only [T.den,O2.den]
    rw [List.getElem?_append_right (by omega),hl]
    exact qhh h
  ·cases h
 | .c2 (.arith _ _) _ _,i,ts,h=>by simp [qM] at h
 | .c2 .plus _ _,i,ts,h=>by simp [qM] at h
 | .c2 .minus _ _,i,ts,h=>by simp [qM] at h
 | .c2 .tims _ _,i,ts,h=>by simp [qM] at h
 | .c2 .imin _ _,i,ts,h=>by simp [qM] at h
 | .c2 .imax _ _,i,ts,h=>by simp [qM] at h
 | .c2 (.icell _) _ _,i,ts,h=>by simp [qM] at h
 | .c2 (.cmp _) _ _,i,ts,h=>by simp [qM] at h
 | .c2 .beq _ _,i,ts,h=>by simp [qM] at h
 | .c2 .and _ _,i,ts,h=>by simp [qM] at h
 | .c2 .or _ _,i,ts,h=>by simp [qM] at h
 | .c2 (.bcell _) _ _,i,ts,h=>by simp [qM] at h
 | .c2 (.vcell _) _ _,i,ts,h=>by simp [qM] at h
 | .c2 .dsnoc _ _,i,ts,h=>by simp [qM] at h
 | .c2 .dtake _ _,i,ts,h=>by simp [qM] at h
 | .c2 .ddrop _ _,i,ts,h=>by simp [qM] at h
 | .c2 (.xint _) _ _,i,ts,h=>by simp [qM] at h
 | .c2 (.xbool _) _ _,i,ts,h=>by simp [qM] at h
 | .c2 .veq _ _,i,ts,h=>by simp [qM] at h
 | .c2 .slt _ _,i,ts,h=>by simp [qM] at h
 | .c2 .sapp _ _,i,ts,h=>by simp [qM] at h
 | .c2 .sat _ _,i,ts,h=>by simp [qM] at h
 | .c2 .req _ _,i,ts,h=>by simp [qM] at h
 | .c3 .xrows _ _ _,i,ts,h=>by simp [qM] at h
 | .c3 .xcopy _ _ _,i,ts,h=>by simp [qM] at h
 | .c3 .ssub _ _ _,i,ts,h=>by simp [qM] at h
 | .c3 (.xput _) _ _ _,i,ts,h=>by simp [qM] at h
 | .c3 .dsplice _ _ _,i,ts,h=>by simp [qM] at h
 | .c3 (.dput c) d e r,i,ts,h=>by
  simp only [qM] at h
  split at h
  ·rename_i z ts0 vs hz h0 hr
   have g0:=qhh h0
   have gr:=qgG (ρ:=ρ) hr
   have hlt:i < (d.den ρ).d.length:=by
    rcases Nat.lt_or_ge i (d.den ρ).d.length with h' | h'
    ·exact h'
    ·rw [List.getElem?_eq_none h'] at g0; cases g0
   split at h
   ·rename_i hzi
    have hzi:=Nat.eq_of_beq_eq_true hzi
    split at h
    ·simp only [Option.some.injEq] at h; subst h
     simp only [T.den,O3.den,qbi,qcN hz,hzi,gr,g0,List.headD_cons,Option.getD_some,qhm]
     rw [List.getElem?_set_self hlt]
    ·cases h
   ·rename_i hzi
    simp only [Option.some.injEq] at h; subst h
    simp only [T.den,O3.den,qbi,qcN hz]
    rw [List.getElem?_set_ne (fun he=>hzi (by rw [he]; simp))]
    exact g0
  ·cases h
 | .c3 (.vslice _ _) _ _ _,i,ts,h=>by simp [qM] at h
 | .var m,i,n,h=>by simp [qM] at h
 | .ife x y u v,i,n,h=>by simp [qM] at h
theorem qx6 {d e:T} {ts:List T} (h:qrv d e = some ts):(d.den ρ).d[(e.den ρ).i.toNat]? = some (qc ρ ts):=by
 unfold qrv at h
 split at h
 ·rename_i z hz
  rw [qcN hz]; exact qhh h
 ·cases h

theorem qaQ (d:T):((qR d).den ρ).i = ((d.den ρ).d.length:Int):=by
 unfold qR
 split
 ·rename_i n hn; rw [qen hn]; simp [T.den,O0.den]
 ·exact qgH d

theorem qdw {e d:T} (h:((qr .lss e (qR d)).den ρ).b = true):(e.den ρ).i < ((d.den ρ).d.length:Int):=by
 rw [qE _ _ _ (by simp),qaQ] at h
 simpa [qH] using h

theorem qmw {d e:T} {row:List Value} (hrow:(d.den ρ).d[(e.den ρ).i.toNat]? = some row) :
  ∀ (pat:List CK) (c:Nat),(∀ (j:Nat) (k:CK),pat[j]? = some k->∃ v,row[c + j]? = some v/\CK.fits k v = true) ->
   qc ρ (qbm d e pat c) = (row.drop c).take pat.length
 | [],c,_=>by simp [qbm,qc]
 | k :: ks,c,h=>by
  obtain ⟨v,hv,hk⟩:=h 0 k (by simp)
  simp only [Nat.add_zero] at hv
  have hcell:qF (d.den ρ).d (e.den ρ).i c = v:=by simp [qF,hrow,hv]
  have ih:=qmw hrow ks (c + 1) (fun j k' hk'=>by
   have:=h (j + 1) k' (by simpa using hk')
   rwa [show c + (j + 1) = c + 1 + j from by omega] at this)
  have hdrop:row.drop c = v :: row.drop (c + 1):=by
   have hc:c < row.length:=by
    rcases Nat.lt_or_ge c row.length with h | h
    ·exact h
    ·rw [List.getElem?_eq_none h] at hv; cases hv
   rw [List.drop_eq_getElem_cons hc]
   congr 1
   rw [List.getElem?_eq_getElem hc,Option.some.injEq] at hv
   exact hv
  have hx:qc ρ (qbm d e (k :: ks) c) = v :: qc ρ (qbm d e ks (c + 1)):=by
   cases k with
   | int k =>
    simp only [qbm,qc,List.map_cons,T.den,O1.den,O2.den,qb,hcell]
    congr 1
    cases v <;> simp_all [CK.fits,qag]
   | bool =>
    simp only [qbm,qc,List.map_cons,T.den,O1.den,O2.den,q76,hcell]
    congr 1
    cases v <;> simp_all [CK.fits,qun]
   | any=>simp only [qbm,qc,List.map_cons,T.den,O2.den,hcell]
  rw [hx,ih,hdrop]
  simp

theorem qec (d e:T):∀ (pat:List CK) (c:Nat),(qbm d e pat c).length = pat.length
 | [],_=>rfl
 | .int _ :: ks,c=>by simp [qbm,qec d e ks]
 | .bool :: ks,c=>by simp [qbm,qec d e ks]
 | .any :: ks,c=>by simp [qbm,qec d e ks]

theorem qe8 {k:CK}:∀ {l:List CK} {i:Nat},i < qbS k l->l[i]? = some k
 | [],i,h=>by simp [qbS] at h
 | x :: l,i,h=>by
  simp only [qbS] at h
  split at h
  ·rename_i hx
   cases i with
   | zero=>rw [hx]; rfl
   | succ i=>simpa using qe8 (l:=l) (i:=i) (by omega)
  ·omega
theorem qwp {x:SH} {e:T} {p c n r:Nat} {cs needs:List T} (h:qpU x e p c n = some (cs,needs)) {H:Hp} (hx:x.roden ρ H) (hr:x.reg = some r)
  (hn:∀ c ∈ needs,(c.den ρ).b = true) :
  cs.length = n/\∃ b o c' ty fr,(ρ r).r = some ⟨b,o,none⟩/\H b = some (.cells c' ty fr) /\
   ∀ (k:Nat) (v:Value),(qc ρ cs)[k]? = some v->c'[o + ((e.den ρ).i.toNat * p + c) + k]? = some v:=by
 cases x with
 | cells r' ty ts =>
  simp only [SH.reg,Option.some.injEq] at hr; subst hr
  simp only [qpU] at h
  split at h
  ·rename_i z hz
   split at h
   ·rename_i hc
    simp only [Option.some.injEq,Prod.mk.injEq] at h
    obtain ⟨rfl,rfl⟩:=h
    have he:(e.den ρ).i = z:=by unfold T.isLit at hz; split at hz <;> simp_all [T.den,O0.den]
    obtain ⟨b,o,c',ty',fr,h1,h2,h3⟩:=hx
    refine ⟨by simp; omega,b,o,c',ty',fr,h1,h2,fun k v hv=>?_⟩
    rw [he]
    have:=h3 (z.toNat * p + c + k) v ?_
    ·rw [show o + (z.toNat * p + c) + k = o + (z.toNat * p + c + k) from by omega]; exact this
    ·simp only [qc,List.map_take,List.map_drop] at hv ⊢
     rw [List.getElem?_take] at hv
     split at hv
     ·rw [List.getElem?_drop] at hv; exact hv
     ·cases hv
   ·simp at h
  ·simp at h
 | arr r' ty pat d cap =>
  simp only [SH.reg,Option.some.injEq] at hr; subst hr
  simp only [qpU] at h
  split at h
  ·rename_i hc
   simp only [Bool.and_eq_true,Nat.ble_eq] at hc
   have hp:=Nat.eq_of_beq_eq_true hc.1
   split at h
   ·rename_i ts hts
    simp only [Option.some.injEq,Prod.mk.injEq] at h
    obtain ⟨rfl,rfl⟩:=h
    have hrow:=qx6 (ρ:=ρ) hts
    rcases hx with hd | ⟨b,o,c',ty',fr,g1,g2,g3⟩
    ·rw [hd] at hrow; simp at hrow
    ·obtain ⟨hfit,hcells⟩:=g3 _ _ hrow
     have hl:=hfit.1
     simp only [qc,List.length_map] at hl
     refine ⟨by simp; omega,b,o,c',ty',fr,g1,g2,fun k v hv=>?_⟩
     simp only [qc,List.map_take,List.map_drop] at hv
     rw [List.getElem?_take] at hv
     split at hv
     ·rw [List.getElem?_drop] at hv
      have:=hcells _ _ hv
      rw [hp,show o + ((e.den ρ).i.toNat * pat.length + c) + k = o + (e.den ρ).i.toNat * pat.length + (c + k) from by omega]
      exact this
     ·cases hv
   rename_i hstat
   simp only [Option.some.injEq,Prod.mk.injEq] at h
   obtain ⟨rfl,rfl⟩:=h
   have h0:=qv (hn _ (List.mem_cons_self ..))
   have h1:=qdw (hn _ (List.mem_cons_of_mem _ (List.mem_cons_self ..)))
   have hlt:(e.den ρ).i.toNat < (d.den ρ).d.length:=by omega
   have hrow:=List.getElem?_eq_getElem hlt
   rcases hx with hd | ⟨b,o,c',ty',fr,g1,g2,g3⟩
   ·rw [hd] at hlt; simp at hlt
   ·obtain ⟨hfit,hcells⟩:=g3 _ _ hrow
    refine ⟨by rw [qec]; simp; omega,b,o,c',ty',fr,g1,g2,fun k v hv=>?_⟩
    rw [qmw hrow _ c (fun j kk hj=>?_)] at hv
    ·rw [List.getElem?_take] at hv
     split at hv
     ·rw [List.getElem?_drop] at hv
      have:=hcells _ _ hv
      rw [hp,show o + ((e.den ρ).i.toNat * pat.length + c) + k = o + (e.den ρ).i.toNat * pat.length + (c + k) from by omega]
      exact this
     ·cases hv
    ·rw [List.getElem?_take] at hj
     split at hj
     ·rw [List.getElem?_drop] at hj
      have hlt2:c + j < ((d.den ρ).d[(e.den ρ).i.toNat]).length:=by
       rw [hfit.1]
       rcases Nat.lt_or_ge (c + j) pat.length with h | h
       ·exact h
       ·rw [List.getElem?_eq_none h] at hj; cases hj
      exact ⟨_,List.getElem?_eq_getElem hlt2,hfit.2 _ _ _ hj (List.getElem?_eq_getElem hlt2)⟩
     ·cases hj
  ·split at h
   ·rename_i hc1
    simp only [Bool.and_eq_true] at hc1
    have hp1:=Nat.eq_of_beq_eq_true hc1.1
    have hn1:=Nat.eq_of_beq_eq_true hc1.2
    subst hp1; subst hn1
    split at h
    ·rename_i kk hk
     simp only [Option.some.injEq,Prod.mk.injEq] at h
     obtain ⟨rfl,rfl⟩:=h
     have h0:=qv (hn _ (List.mem_cons_self ..))
     have h1:=hn _ (List.mem_cons_of_mem _ (List.mem_cons_self ..))
     rw [qE _ _ _ (by simp)] at h1
     have h1:(e.den ρ).i < ((qbS (.int kk) (pat.drop c):Nat):Int):=of_decide_eq_true h1
     have h2:=qdw (hn _ (List.mem_cons_of_mem _ (List.mem_cons_of_mem _ (List.mem_cons_self ..))))
     simp only [T.den,O0.den] at h2
     rcases hx with hd | ⟨b,o,c',ty',fr,g1,g2,g3⟩
     ·rw [hd] at h2; simp at h2
     ·obtain ⟨row,rest,hdd⟩:∃ row rest,(d.den ρ).d = row :: rest:=by
       cases hdd:(d.den ρ).d with
       | nil=>rw [hdd] at h2; simp at h2
       | cons row rest=>exact ⟨row,rest,rfl⟩
      obtain ⟨hfit,hcells⟩:=g3 0 row (by rw [hdd]; rfl)
      have hki:pat[c + (e.den ρ).i.toNat]? = some (.int kk):=by
       have:=qe8 (k:=.int kk) (l:=pat.drop c) (i:=(e.den ρ).i.toNat) (by omega)
       rw [List.getElem?_drop] at this; exact this
      have hlt:c + (e.den ρ).i.toNat < row.length:=by
       rw [hfit.1]; exact (List.getElem?_eq_some_iff.1 hki).1
      have hrow:=List.getElem?_eq_getElem hlt
      have hf:=hfit.2 _ _ _ hki hrow
      obtain ⟨z,hz⟩:∃ z,row[c + (e.den ρ).i.toNat] = .int kk z:=by
       cases hv:row[c + (e.den ρ).i.toNat] <;> rw [hv] at hf <;> simp [CK.fits] at hf
       subst hf; exact ⟨_,rfl⟩
      refine ⟨rfl,b,o,c',ty',fr,g1,g2,fun k v hv=>?_⟩
      cases k with
      | zero =>
       simp only [qc,List.map_cons,List.map_nil,List.getElem?_cons_zero,Option.some.injEq] at hv
       subst hv
       have hcell:=hcells _ _ hrow
       rw [show o + ((e.den ρ).i.toNat * 1 + c) + 0 = o + 0 * pat.length + (c + (e.den ρ).i.toNat) by omega,hcell,hz]
       simp only [T.den,O1.den,O2.den,qa,hdd,List.headD_cons]
       rw [show (e.den ρ).i.toNat + c = c + (e.den ρ).i.toNat by omega,hrow,hz]; rfl
      | succ k=>simp [qc] at hv
    ·rename_i hk
     simp only [Option.some.injEq,Prod.mk.injEq] at h
     obtain ⟨rfl,rfl⟩:=h
     have h0:=qv (hn _ (List.mem_cons_self ..))
     have h1:=hn _ (List.mem_cons_of_mem _ (List.mem_cons_self ..))
     rw [qE _ _ _ (by simp)] at h1
     have h1:(e.den ρ).i < ((qbS .bool (pat.drop c):Nat):Int):=of_decide_eq_true h1
     have h2:=qdw (hn _ (List.mem_cons_of_mem _ (List.mem_cons_of_mem _ (List.mem_cons_self ..))))
     simp only [T.den,O0.den] at h2
     rcases hx with hd | ⟨b,o,c',ty',fr,g1,g2,g3⟩
     ·rw [hd] at h2; simp at h2
     ·obtain ⟨row,rest,hdd⟩:∃ row rest,(d.den ρ).d = row :: rest:=by
       cases hdd:(d.den ρ).d with
       | nil=>rw [hdd] at h2; simp at h2
       | cons row rest=>exact ⟨row,rest,rfl⟩
      obtain ⟨hfit,hcells⟩:=g3 0 row (by rw [hdd]; rfl)
      have hki:pat[c + (e.den ρ).i.toNat]? = some .bool:=by
       have:=qe8 (k:=.bool) (l:=pat.drop c) (i:=(e.den ρ).i.toNat) (by omega)
       rw [List.getElem?_drop] at this; exact this
      have hlt:c + (e.den ρ).i.toNat < row.length:=by
       rw [hfit.1]; exact (List.getElem?_eq_some_iff.1 hki).1
      have hrow:=List.getElem?_eq_getElem hlt
      have hf:=hfit.2 _ _ _ hki hrow
      obtain ⟨z,hz⟩:∃ z,row[c + (e.den ρ).i.toNat] = .bool z:=by
       cases hv:row[c + (e.den ρ).i.toNat] <;> rw [hv] at hf <;> first | exact ⟨_,rfl⟩ | simp [CK.fits] at hf

      refine ⟨rfl,b,o,c',ty',fr,g1,g2,fun k v hv=>?_⟩
      cases k with
      | zero =>
       simp only [qc,List.map_cons,List.map_nil,List.getElem?_cons_zero,Option.some.injEq] at hv
       subst hv
       have hcell:=hcells _ _ hrow
       rw [show o + ((e.den ρ).i.toNat * 1 + c) + 0 = o + 0 * pat.length + (c + (e.den ρ).i.toNat) by omega,hcell,hz]
       simp only [T.den,O1.den,O2.den,qap,hdd,List.headD_cons]
       rw [show (e.den ρ).i.toNat + c = c + (e.den ρ).i.toNat by omega,hrow,hz]; rfl
      | succ k=>simp [qc] at hv
    ·simp at h
   ·simp at h
 | abs m t=>simp [SH.reg] at hr
theorem q1U {x:SH} {e:T} {p:Nat}:(e.den ρ).i.toNat * qvO x e p = (e.den ρ).i.toNat * p:=by
 unfold qvO
 split
 ·rename_i hz
  have he:(e.den ρ).i = 0:=by unfold T.isLit at hz; split at hz <;> simp_all [T.den,O0.den]
  rw [he]; simp
 ·rfl
theorem qfm {x:SH} {e:T} {p c n r:Nat} {cs needs:List T} (h:quc x e p c n = some (cs,needs)) {H:Hp} (hx:x.roden ρ H) (hr:x.reg = some r)
  (hn:∀ c ∈ needs,(c.den ρ).b = true) :
  cs.length = n/\∃ b o c' ty fr,(ρ r).r = some ⟨b,o,none⟩/\H b = some (.cells c' ty fr) /\
   ∀ (k:Nat) (v:Value),(qc ρ cs)[k]? = some v->c'[o + ((e.den ρ).i.toNat * p + c) + k]? = some v:=by
 have:=qwp h hx hr hn
 rwa [q1U] at this

theorem qbg {b off:Nat} {c:Array Value} {ty:TypeId} {fr:Nat × Nat} (h:w.heap[b]? = some (.cells c ty fr)):w.cell? ⟨b,off,none⟩ = c[off]?:=by
 simp [World.cell?,h]

theorem addr_add {b off j:Nat}:(⟨b,off,none⟩:Addr).add j = ⟨b,off + j,none⟩:=by
 unfold Addr.add; split <;> simp_all

theorem qdK {t:TypeId} {ag:Bool} {n b off:Nat} {c:Array Value} {ty:TypeId} {fr:Nat × Nat} {vs:List Value}
  (ha:qdm P t = some ag) (hn:qN P t = some n) (hb:w.heap[b]? = some (.cells c ty fr)) (hl:vs.length = n)
  (hc:∀ (k:Nat) (v:Value),vs[k]? = some v->c[off + k]? = some v) (h1:ag = false->n = 1) :
  (loadVar t ⟨b,off,none⟩).run P w = .ok (if ag then .agg vs.toArray else vs.headD .nilFunc) w:=by
 unfold loadVar
 simp only [Sem.run_bind,qf3 ha,Result.andThen_ok]
 cases ag with
 | true =>
  simp only [if_true,Sem.run_bind,qa8 hn,Result.andThen_ok]
  rw [<- hl,run_loadCells_list (P:=P) w ⟨b,off,none⟩ vs (fun j v hv=>by rw [addr_add,qbg hb]; exact hc j v hv)]
  rfl
 | false =>
  have h1:=h1 rfl
  match vs,hl with
  | [v],_ =>
   have:=hc 0 v (by simp)
   simp only [Nat.add_zero] at this
   simp [qbg hb,this]
  | [],hl=>simp at hl; omega
  | _ :: _ :: _,hl=>simp at hl; omega

end Go.Eng

set_option linter.unusedSimpArgs false
set_option linter.unusedVariables false
namespace Go.Eng
open Go
variable {P:Program} {ρ:Env} {hF:Fr} {s:S} {a:Act} {w:World}

def qs (ρ:Env) (hF:Fr) (heap:List SH) (w:World):Prop:=∃ hO,Hp.disj hF hO/\qW ρ heap hO/\(Hp.union hF hO).sub w/\hF.wi w


def qhv (c0 c1:Array Value) (i:Nat) (vs:List Value):Prop :=
 c1.size = c0.size/\∀ j,c1[j]? = if i <= j/\j < i + vs.length then vs[j - i]? else c0[j]?

def Put (h h':Hp) (r:Option Addr) (pat:List CK) (d:List (List Value)) (k:Nat) (vs:List Value):Prop :=
 ∃ b o c0 c1 ty,r = some ⟨b,o,none⟩/\h b = some (.cells c0 ty (0,0))/\qU c0 o pat d/\qhv c0 c1 (o + k) vs/\h' = Hp.upd h b (.cells c1 ty (0,0))

theorem qdk {b off:Nat} {ty:TypeId}:∀ (vs:List Value) (i:Nat) (c0:Array Value) (w:World),w.heap[b]? = some (.cells c0 ty (0,0)) ->
  (∀ v ∈ vs,v.oneCell' = true)->off + i + vs.length <= c0.size ->
  ∃ w' c1,(storeCells ⟨b,off,none⟩ vs i).run P w = .ok () w'/\w'.heap[b]? = some (.cells c1 ty (0,0))/\(∀ b',b' ≠ b->w'.heap[b']? = w.heap[b']?)/\qhv c0 c1 (off + i) vs/\w'.os = w.os/\w'.output = w.output
 | [],i,c0,w,hb,_,_=>⟨w,c0,by simp [storeCells],hb,fun _ _=>rfl,⟨rfl,fun j=>by rw [if_neg (by simp)]⟩,rfl,rfl⟩
 | v :: vs,i,c0,w,hb,hv,hl=>by
  simp only [List.length_cons] at hl
  have hlt:off + i < c0.size:=by omega
  have hcell:w.cell? ⟨b,off + i,none⟩ = some c0[off + i]:=by simp [qbg hb,hlt]
  have hfr:w.frozen? ⟨b,off + i,none⟩ = false:=by simp [World.frozen?,hb]
  have hset:(w.setCell ⟨b,off + i,none⟩ v).heap[b]? = some (.cells (c0.setIfInBounds (off + i) v) ty (0,0)):=by
   simp only [World.setCell,Array.getElem?_modify,if_true,hb,Option.map_some]
   simp
  have hoth:∀ b',b' ≠ b->(w.setCell ⟨b,off + i,none⟩ v).heap[b']? = w.heap[b']?:=fun b' hne=>by
   simp only [World.setCell,Array.getElem?_modify]
   rw [if_neg (fun h=>hne h.symm)]
  obtain ⟨w',c1,hrun,h1,h2,⟨h3,h4⟩,ho⟩:=qdk (off:=off) vs (i + 1) (c0.setIfInBounds (off + i) v) _ hset (fun x hx=>hv x (List.mem_cons_of_mem _ hx)) (by simp only [Array.size_setIfInBounds]; omega)
  refine ⟨w',c1,?_,h1,fun b' hne=>(h2 b' hne).trans (hoth b' hne),⟨by simpa using h3,fun j=>?_⟩,ho⟩
  ·simp only [storeCells,addr_add,Sem.run_bind]
   rw [run_store P w _ v _ (hv v (List.mem_cons_self ..)),hcell]
   simp only [hfr,Bool.false_eq_true,if_false,Result.andThen_ok]
   exact hrun
  ·rw [h4 j]
   simp only [List.length_cons]
   by_cases hj:j = off + i
   ·subst hj
    rw [if_neg (by omega),if_pos (by omega)]
    simp [hlt]
   ·by_cases hin:off + (i + 1) <= j/\j < off + (i + 1) + vs.length
    ·rw [if_pos hin,if_pos (by omega)]
     rw [show j - (off + i) = (j - (off + (i + 1))) + 1 from by omega,List.getElem?_cons_succ]
    ·rw [if_neg hin,if_neg (by omega)]
     rw [Array.getElem?_setIfInBounds_ne (fun h=>hj h.symm)]

theorem qmN {t:TypeId} {n b off:Nat} {c0:Array Value} {ty:TypeId} {v:Value} {vs:List Value} (hn:qN P t = some n) (hcs:v.cells = vs.toArray) (hl:vs.length = n)
  (hb:w.heap[b]? = some (.cells c0 ty (0,0))) (hv:∀ v ∈ vs,v.oneCell' = true) (hs:off + vs.length <= c0.size) :
  ∃ w' c1,(storeVar t ⟨b,off,none⟩ v).run P w = .ok () w'/\w'.heap[b]? = some (.cells c1 ty (0,0))/\(∀ b',b' ≠ b->w'.heap[b']? = w.heap[b']?)/\qhv c0 c1 off vs/\w'.os = w.os/\w'.output = w.output:=by
 obtain ⟨w',c1,h1,h2,h3,h4,ho⟩:=qdk (P:=P) (b:=b) (off:=off) vs 0 c0 w hb hv (by simpa using hs)
 refine ⟨w',c1,?_,h2,h3,by simpa using h4,ho⟩
 unfold storeVar
 simp only [Sem.run_bind,qa8 hn,Result.andThen_ok,hcs]
 have:vs.toArray.size = n:=by simpa using hl
 simp only [this,ne_eq,not_true_eq_false,if_false,Sem.run_pure,Result.andThen_ok]
 simpa using h1

theorem qd4 {row:List Value} {c:Nat} {vs:List Value} (h:c + vs.length <= row.length) (j:Nat) :
  (qaq row c vs)[j]? = if c <= j/\j < c + vs.length then vs[j - c]? else row[j]?:=by
 unfold qaq
 by_cases h1:j < c
 ·rw [if_neg (by omega),List.append_assoc,List.getElem?_append_left (by simp; omega),List.getElem?_take_of_lt h1]
 ·by_cases h2:j < c + vs.length
  ·rw [if_pos (by omega),List.append_assoc,List.getElem?_append_right (by simp; omega)]
   simp only [List.length_take]
   rw [Nat.min_eq_left (by omega),List.getElem?_append_left (by omega)]
  ·rw [if_neg (by omega),List.append_assoc,List.getElem?_append_right (by simp; omega)]
   simp only [List.length_take]
   rw [Nat.min_eq_left (by omega),List.getElem?_append_right (by omega),List.getElem?_drop]
   congr 1; omega

theorem qlA {row:List Value} {c:Nat} {vs:List Value} (h:c + vs.length <= row.length):(qaq row c vs).length = row.length:=by
 simp [qaq]; omega

theorem qm0 (hg:ρ.good) {x x':SH} {e:T} {p c r:Nat} {vs needs:List T} (h:qjZ x e p c vs = some (x',needs)) {H:Hp} (hx:x.den ρ H) (hr:x.reg = some r)
  (hn:∀ c ∈ needs,(c.den ρ).b = true) :
  ∃ b c0 ty,(ρ r).r = some ⟨b,0,none⟩/\H b = some (.cells c0 ty (0,0))/\(e.den ρ).i.toNat * p + c + vs.length <= c0.size /\
   ∀ c1,qhv c0 c1 ((e.den ρ).i.toNat * p + c) (qc ρ vs)->x'.den ρ (Hp.upd H b (.cells c1 ty (0,0))):=by
 cases x with
 | cells r' ty ts =>
  simp only [SH.reg,Option.some.injEq] at hr; subst hr
  simp only [qjZ] at h
  split at h
  ·rename_i z hz
   split at h
   ·rename_i hc
    simp only [Option.some.injEq,Prod.mk.injEq] at h
    obtain ⟨rfl,rfl⟩:=h
    have he:(e.den ρ).i = z:=by unfold T.isLit at hz; split at hz <;> simp_all [T.den,O0.den]
    obtain ⟨b,h1,h2⟩:=hx
    refine ⟨b,_,ty,h1,h2,by rw [he]; simp [qc]; omega,fun c1 hw=>?_⟩
    rw [he] at hw
    refine ⟨b,h1,?_⟩
    simp only [Hp.upd,if_true,Option.some.injEq]
    congr 1
    apply Array.ext_getElem?
    intro j
    rw [hw.2 j]
    simp only [List.getElem?_toArray,qhm]
    rw [qd4 (by simp [qc]; omega)]
   ·simp at h
  ·simp at h
 | arr r' ty pat d cap =>
  simp only [SH.reg,Option.some.injEq] at hr; subst hr
  simp only [qjZ] at h
  split at h
  ·rename_i hc
   simp only [Bool.and_eq_true,Nat.ble_eq] at hc
   have hp:=Nat.eq_of_beq_eq_true hc.1.1
   simp only [Option.some.injEq,Prod.mk.injEq] at h
   obtain ⟨rfl,rfl⟩:=h
   have h0:=qv (hn _ (List.mem_cons_self ..))
   have h1:=qdw (hn _ (List.mem_cons_of_mem _ (List.mem_cons_self ..)))
   have hlt:(e.den ρ).i.toNat < (d.den ρ).d.length:=by omega
   have hrow:=List.getElem?_eq_getElem hlt
   rcases hx with ⟨_,hd,_⟩ | ⟨b,c0,g1,g2,g3,g4,g5⟩
   ·rw [hd] at hlt; simp at hlt
   ·obtain ⟨hfit,hcells⟩:=g5 _ _ hrow
    have hvl:(qc ρ vs).length = vs.length:=by simp [qc]
    have hcapn:(d.den ρ).d.length <= (cap.den ρ).i.toNat:=by omega
    have hmul:((e.den ρ).i.toNat + 1) * p <= (cap.den ρ).i.toNat * p:=Nat.mul_le_mul_right _ (by omega)
    have hsz:(e.den ρ).i.toNat * p + c + vs.length <= c0.size:=by
     rw [g3,<- hp]
     rw [Nat.add_mul,Nat.one_mul] at hmul
     omega
    refine ⟨b,c0,ty,g1,g2,hsz,fun c1 hw=>.inr ⟨b,c1,g1,by simp [Hp.upd],by rw [hw.1,g3],?_,?_⟩⟩
    ·simp only [T.den,O3.den,qbi,List.length_set]; exact g4
    ·simp only [T.den,O3.den,qhL,qbi,hrow,Option.getD_some]
     intro i row hi
     rw [List.getElem?_set] at hi
     split at hi
     ·rename_i hie
      subst hie
      simp only [hlt,if_true,Option.some.injEq] at hi
      subst hi
      have hle:c + (qc ρ vs).length <= ((d.den ρ).d[(e.den ρ).i.toNat]).length:=by rw [hfit.1,hvl]; omega
      refine ⟨⟨by rw [qlA hle,hfit.1],fun j k v hk hv=>?_⟩,fun k v hv=>?_⟩
      ·rw [qd4 hle] at hv
       split at hv
       ·rename_i hin
        refine qgj hg hc.2 (j - c) k v ?_ hv
        rw [List.getElem?_drop,show c + (j - c) = j from by omega]; exact hk
       ·exact hfit.2 j k v hk hv
      ·rw [qd4 hle] at hv
       rw [hw.2]
       rw [hp]
       split at hv
       ·rename_i hin
        rw [if_pos (by omega)]
        rw [show 0 + (e.den ρ).i.toNat * pat.length + k - ((e.den ρ).i.toNat * pat.length + c) = k - c from by omega]
        exact hv
       ·rw [if_neg (by omega)]
        exact hcells k v hv
     ·rename_i hie
      obtain ⟨hf2,hc2⟩:=g5 i row hi
      refine ⟨hf2,fun k v hv=>?_⟩
      have hkl:k < pat.length:=by
       rw [<- hf2.1]
       rcases Nat.lt_or_ge k row.length with h | h
       ·exact h
       ·rw [List.getElem?_eq_none h] at hv; cases hv
      rw [hw.2,if_neg ?_]
      ·exact hc2 k v hv
      ·rintro ⟨q1,q2⟩
       rw [hvl] at q2
       rw [hp] at q1 q2
       have hcl:c + vs.length <= pat.length:=by rw [<- hp]; exact hc.1.2
       have e1:(i * pat.length + k) / pat.length = i:=by
        rw [Nat.mul_comm,Nat.mul_add_div (by omega),Nat.div_eq_of_lt hkl]; omega
       have e2:(i * pat.length + k) / pat.length = (e.den ρ).i.toNat:=by
        have:i * pat.length + k = pat.length * (e.den ρ).i.toNat + (i * pat.length + k - (e.den ρ).i.toNat * pat.length):=by
         rw [Nat.mul_comm pat.length]; omega
        rw [this,Nat.mul_add_div (by omega),Nat.div_eq_of_lt (by omega)]; omega
       exact hie (e2.symm.trans e1)
  ·split at h
   ·rename_i hc1
    have hp1:=Nat.eq_of_beq_eq_true hc1
    subst hp1
    split at h
    ·rename_i kk v hk hvs
     split at h
     ·rename_i hfv
      simp only [Option.some.injEq,Prod.mk.injEq] at h
      obtain ⟨rfl,rfl⟩:=h
      have h0:=qv (hn _ (List.mem_cons_self ..))
      have h1:=hn _ (List.mem_cons_of_mem _ (List.mem_cons_self ..))
      rw [qE _ _ _ (by simp)] at h1
      have h1:(e.den ρ).i < ((qbS (.int kk) (pat.drop c):Nat):Int):=of_decide_eq_true h1
      have h2:=qdw (hn _ (List.mem_cons_of_mem _ (List.mem_cons_of_mem _ (List.mem_cons_self ..))))
      simp only [T.den,O0.den] at h2
      rcases hx with ⟨_,hd,_⟩ | ⟨b,c0,g1,g2,g3,g4,g5⟩
      ·rw [hd] at h2; simp at h2
      ·obtain ⟨row,rest,hdd⟩:∃ row rest,(d.den ρ).d = row :: rest:=by
        cases hdd:(d.den ρ).d with
        | nil=>rw [hdd] at h2; simp at h2
        | cons row rest=>exact ⟨row,rest,rfl⟩
       obtain ⟨hfit,hcells⟩:=g5 0 row (by rw [hdd]; rfl)
       have hki:pat[(e.den ρ).i.toNat + c]? = some (.int kk):=by
        have:=qe8 (k:=.int kk) (l:=pat.drop c) (i:=(e.den ρ).i.toNat) (by omega)
        rw [List.getElem?_drop,Nat.add_comm] at this; exact this
       have hlt:(e.den ρ).i.toNat + c < pat.length:=(List.getElem?_eq_some_iff.1 hki).1
       have hcap:1 <= (cap.den ρ).i.toNat:=by rw [hdd] at g4; simp at g4; omega
       have hsize:pat.length <= c0.size:=by
        rw [g3]
        have:=Nat.mul_le_mul_right pat.length hcap
        omega
       refine ⟨b,c0,ty,g1,g2,by simp [qc]; omega,fun c1 hw=>.inr ⟨b,c1,g1,by simp [Hp.upd],by rw [hw.1,g3],?_,?_⟩⟩
       ·simp only [T.den,O3.den,hdd,qas,List.length_cons]
        rw [hdd] at g4; simpa using g4
       ·simp only [T.den,O3.den,hdd,qas]
        have hw2:=hw.2
        simp only [qc,List.map_cons,List.map_nil,List.length_cons,List.length_nil,Nat.mul_one] at hw2
        intro i row' hi
        cases i with
        | zero =>
         simp only [List.getElem?_cons_zero,Option.some.injEq] at hi
         subst hi
         refine ⟨⟨by rw [List.length_set,hfit.1],fun j k v' hk' hv'=>?_⟩,fun k v' hv'=>?_⟩
         ·rw [List.getElem?_set] at hv'
          split at hv'
          ·rename_i hj
           split at hv'
           ·simp only [Option.some.injEq] at hv'; subst hv'
            subst hj
            rw [hki] at hk'
            obtain rfl:=Option.some.inj hk'
            have:=qgj hg (ks:=[.int kk]) (ts:=[v]) (by simp only [qfb,hfv,Bool.and_self]) 0 (.int kk) ((v.den ρ).v) rfl rfl
            exact this
           ·cases hv'
          ·exact hfit.2 j k v' hk' hv'
         ·rw [hw2]
          rw [List.getElem?_set] at hv'
          split at hv'
          ·rename_i hj
           split at hv'
           ·rw [if_pos (by omega),show 0 + 0 * pat.length + k - ((e.den ρ).i.toNat + c) = 0 by omega]
            exact hv'
           ·cases hv'
          ·rename_i hj
           rw [if_neg (by omega)]
           exact hcells k v' hv'
        | succ i =>
         simp only [List.getElem?_cons_succ] at hi
         obtain ⟨f2,c2⟩:=g5 (i + 1) row' (by rw [hdd]; simpa using hi)
         refine ⟨f2,fun k v' hv'=>?_⟩
         rw [hw2,if_neg ?_]
         ·exact c2 k v' hv'
         ·rw [Nat.add_mul]; omega
     ·simp at h
    ·rename_i v hk hvs
     split at h
     ·rename_i hfv
      simp only [Option.some.injEq,Prod.mk.injEq] at h
      obtain ⟨rfl,rfl⟩:=h
      have h0:=qv (hn _ (List.mem_cons_self ..))
      have h1:=hn _ (List.mem_cons_of_mem _ (List.mem_cons_self ..))
      rw [qE _ _ _ (by simp)] at h1
      have h1:(e.den ρ).i < ((qbS .bool (pat.drop c):Nat):Int):=of_decide_eq_true h1
      have h2:=qdw (hn _ (List.mem_cons_of_mem _ (List.mem_cons_of_mem _ (List.mem_cons_self ..))))
      simp only [T.den,O0.den] at h2
      rcases hx with ⟨_,hd,_⟩ | ⟨b,c0,g1,g2,g3,g4,g5⟩
      ·rw [hd] at h2; simp at h2
      ·obtain ⟨row,rest,hdd⟩:∃ row rest,(d.den ρ).d = row :: rest:=by
        cases hdd:(d.den ρ).d with
        | nil=>rw [hdd] at h2; simp at h2
        | cons row rest=>exact ⟨row,rest,rfl⟩
       obtain ⟨hfit,hcells⟩:=g5 0 row (by rw [hdd]; rfl)
       have hki:pat[(e.den ρ).i.toNat + c]? = some .bool:=by
        have:=qe8 (k:=.bool) (l:=pat.drop c) (i:=(e.den ρ).i.toNat) (by omega)
        rw [List.getElem?_drop,Nat.add_comm] at this; exact this
       have hlt:(e.den ρ).i.toNat + c < pat.length:=(List.getElem?_eq_some_iff.1 hki).1
       have hcap:1 <= (cap.den ρ).i.toNat:=by rw [hdd] at g4; simp at g4; omega
       have hsize:pat.length <= c0.size:=by
        rw [g3]
        have:=Nat.mul_le_mul_right pat.length hcap
        omega
       refine ⟨b,c0,ty,g1,g2,by simp [qc]; omega,fun c1 hw=>.inr ⟨b,c1,g1,by simp [Hp.upd],by rw [hw.1,g3],?_,?_⟩⟩
       ·simp only [T.den,O3.den,hdd,qas,List.length_cons]
        rw [hdd] at g4; simpa using g4
       ·simp only [T.den,O3.den,hdd,qas]
        have hw2:=hw.2
        simp only [qc,List.map_cons,List.map_nil,List.length_cons,List.length_nil,Nat.mul_one] at hw2
        intro i row' hi
        cases i with
        | zero =>
         simp only [List.getElem?_cons_zero,Option.some.injEq] at hi
         subst hi
         refine ⟨⟨by rw [List.length_set,hfit.1],fun j k v' hk' hv'=>?_⟩,fun k v' hv'=>?_⟩
         ·rw [List.getElem?_set] at hv'
          split at hv'
          ·rename_i hj
           split at hv'
           ·simp only [Option.some.injEq] at hv'; subst hv'
            subst hj
            rw [hki] at hk'
            obtain rfl:=Option.some.inj hk'
            have:=qgj hg (ks:=[.bool]) (ts:=[v]) (by simp only [qfb,hfv,Bool.and_self]) 0 .bool ((v.den ρ).v) rfl rfl
            exact this
           ·cases hv'
          ·exact hfit.2 j k v' hk' hv'
         ·rw [hw2]
          rw [List.getElem?_set] at hv'
          split at hv'
          ·rename_i hj
           split at hv'
           ·rw [if_pos (by omega),show 0 + 0 * pat.length + k - ((e.den ρ).i.toNat + c) = 0 by omega]
            exact hv'
           ·cases hv'
          ·rename_i hj
           rw [if_neg (by omega)]
           exact hcells k v' hv'
        | succ i =>
         simp only [List.getElem?_cons_succ] at hi
         obtain ⟨f2,c2⟩:=g5 (i + 1) row' (by rw [hdd]; simpa using hi)
         refine ⟨f2,fun k v' hv'=>?_⟩
         rw [hw2,if_neg ?_]
         ·exact c2 k v' hv'
         ·rw [Nat.add_mul]; omega
     ·simp at h
    ·simp at h
   ·simp at h
 | abs m t=>simp [SH.reg] at hr


theorem qs.alloc {heap:List SH} {w:World} {nx:Nat} {cs:List T} {ty:TypeId} {c:Array Value} (h:qs ρ hF heap w) (hsc:heap.all (SH.inB nx) = true)
  (hcs:qc (ρ.set nx { r:=some ⟨w.heap.size,0,none⟩ }) cs = c.toList) :
  qs (ρ.set nx { r:=some ⟨w.heap.size,0,none⟩ }) hF (.cells nx ty cs :: heap) { w with heap:=w.heap.push (.cells c ty) }:=by
 obtain ⟨hO,hd,hst,hsub,hwi⟩:=h
 have hlt:∀ y o,Hp.union hF hO y = some o->y < w.heap.size:=fun y o hy=>by
  have:=hsub y o hy
  rcases Nat.lt_or_ge y w.heap.size with h | h
  ·exact h
  ·rw [Array.getElem?_eq_none h] at this; cases this
 have hno:∀ h',Hp.le h' (Hp.union hF hO)->Hp.disj h' (Hp.one w.heap.size (.cells c ty)):=fun h' hl y=>by
  by_cases hy:y = w.heap.size
  ·left
   cases hx:h' y with
   | none=>rfl
   | some o=>have:=hlt y o (hl y o hx); omega
  ·right; simp [Hp.one,hy]
 refine ⟨Hp.union (Hp.one w.heap.size (.cells c ty)) hO,?_,⟨_,hO,(hno hO (Hp.le_right hd)).symm,rfl,⟨w.heap.size,by simp,?_⟩,?_⟩,?_⟩
 ·exact Hp.disj_union.2 ⟨hno hF (Hp.le_left _ _),hd⟩
 ·rw [hcs]; simp [Hp.one]
 ·exact qa1 (n:=nx) (fun m hm=>(Env.set_ne ρ _ (by omega)).symm) _ hsc _ hst
 ·refine ⟨fun y o hy=>?_,hwi⟩
  by_cases hyb:y = w.heap.size
  ·subst hyb
   have:hF w.heap.size = none:=by
    cases hx:hF w.heap.size with
    | none=>rfl
    | some o'=>have:=hlt w.heap.size o' (Hp.le_left _ _ _ _ hx); omega
   simp only [Hp.union,this,Hp.one,if_true,Option.none_or,Option.some_or,Option.some.injEq] at hy
   subst hy
   simp
  ·have hy':Hp.union hF hO y = some o:=by
    simp only [Hp.union,Hp.one,hyb,if_false,Option.none_or] at hy ⊢
    exact hy
   have h1:=hsub y o hy'
   have h2:=hlt y o hy'
   rw [Array.getElem?_push_lt h2]
   rwa [Array.getElem?_eq_getElem h2] at h1

end Go.Eng

set_option linter.unusedSimpArgs false
set_option linter.unusedVariables false
namespace Go.Eng
open Go
variable {P:Program} {ρ:Env} {hF:Fr} {s:S} {a:Act} {w:World} {o:Oper} {r:R1}

def qq (ρ:Env) (n:Nat):List U->Env
 | []=>ρ
 | u :: us=>qq (ρ.set n u) (n + 1) us

def Ran (P:Program) (a:Act) (o:Oper) (ρ:Env) (val:Option SV) (w w':World):Prop :=
 match val with
 | some v=>(execOp a.eval o).run P w = .ok (.value (v.den ρ)) w'
 | none=>(execOp a.eval o).run P w = .ok .skip w'

def qi (P:Program) (ρ:Env) (hF:Fr) (s:S) (a:Act) (w:World) (o:Oper) (r:R1):Prop :=
 ∃ us w',us.length = r.fresh/\(∀ u ∈ us,u.good)/\qs (qq ρ s.nx us) hF r.heap w'/\Ran P a o (qq ρ s.nx us) r.val w w'/\(r.fresh = 0->r.val.isSome = true->w' = w)

theorem qi.quiet {needs:List T} {v:SV} (hs:Holds ρ hF s a w) (h:(execOp a.eval o).run P w = .ok (.value (v.den ρ)) w) :
  qi P ρ hF s a w o { needs,fresh:=0,heap:=s.heap,val:=some v } :=
 ⟨[],w,rfl,by simp,hs.hp,h,fun _ _=>rfl⟩

theorem qsX {x:Operand} (hs:Holds ρ hF s a w) (hop:o.op = .move x∨o.op = .assign x) (h:(opd s x).map (quiet s) = some r):qi P ρ hF s a w o r:=by
 simp only [Option.map_eq_some_iff] at h
 obtain ⟨v,hv,rfl⟩:=h
 refine qi.quiet hs ?_
 have:=hs.opd hv
 rcases hop with hop | hop <;> simp [execOp,hop,this]

theorem qdL (hs:Holds ρ hF s a w) {c:T} {b:Bool} (h:qc5 c s.pc = some b):(c.den ρ).b = b:=by
 have look:∀ {l:List (T × Bool)} {c:T} {b:Bool},(∀ c b,(c,b) ∈ l->(c.den ρ).b = b)->qn9 c l = some b->(c.den ρ).b = b:=by
  intro l
  induction l with
  | nil=>intro c b _ h; simp [qn9] at h
  | cons x l ih =>
   intro c b hl h
   obtain ⟨k,b'⟩:=x
   simp only [qn9] at h
   split at h
   ·rename_i hsame
    simp only [Option.some.injEq] at h
    rw [T.same_eq hsame,<- h]
    exact hl k b' (List.mem_cons_self ..)
   ·exact ih (fun c b hm=>hl c b (List.mem_cons_of_mem _ hm)) h
 unfold qc5 at h
 split at h
 ·simp only [Option.some.injEq] at h; subst h; rfl
 ·simp only [Option.map_eq_some_iff] at h
  obtain ⟨b',h1,rfl⟩:=h
  simp [T.den,O1.den,look hs.pc h1]
 ·exact look hs.pc h

theorem q2S {c x y:Operand} (hs:Holds ρ hF s a w) (hop:o.op = .pick c x y) (h:qp P s o = some r):qi P ρ hF s a w o r:=by
 simp only [qp,hop] at h
 split at h
 ·rename_i t ht
  have hc:=hs.opd ht
  simp only [SV.den,T.den,O1.den] at hc
  split at h
  ·rename_i hk
   have hk:=qdL hs hk
   simp only [Option.map_eq_some_iff] at h
   obtain ⟨v,hv,rfl⟩:=h
   refine qi.quiet hs ?_
   simp [execOp,hop,hc,hk,asBool,hs.opd hv]
  ·rename_i hk
   have hk:=qdL hs hk
   simp only [Option.map_eq_some_iff] at h
   obtain ⟨v,hv,rfl⟩:=h
   refine qi.quiet hs ?_
   simp [execOp,hop,hc,hk,asBool,hs.opd hv]
  ·simp at h
 ·simp at h

theorem qz9 (ρ:Env) (n b:Nat):SV.den (ρ.set n { r:=some ⟨b,0,none⟩ }) (.one (.vptr n (.lit 0) 0 0)) = .pointer (some ⟨b,0,none⟩):=by
 simp [SV.den,T.den,O0.den,O1.den,qm]

theorem q5O {ty:TypeId} {x:Operand} (hs:Holds ρ hF s a w) (hop:o.op = .box ty x) (hsc:s.scopedEH = true) (h:qp P s o = some r):qi P ρ hF s a w o r:=by
 simp only [qp,hop] at h
 split at h
 ·rename_i cs hcs
  simp only [Option.some.injEq] at h; subst h
  simp only [Option.bind_eq_some_iff] at hcs
  obtain ⟨v,hv,hc⟩:=hcs
  have hin:=quO hc (qmI hsc hv)
  have hev:=hs.opd hv
  have hcd:=qi8 hs.gd hc
  have hg:qc (ρ.set s.nx { r:=some ⟨w.heap.size,0,none⟩ }) cs = qc ρ cs:=qbh (fun m hm=>Env.set_ne ρ _ (by omega)) cs hin
  have hsh:s.heap.all (SH.inB s.nx) = true:=by simp only [S.scopedEH,Bool.and_eq_true] at hsc; exact hsc.2
  refine ⟨[{ r:=some ⟨w.heap.size,0,none⟩ }],_,rfl,by simp [U.good,Value.oneCell'],qs.alloc hs.hp hsh (c:=(v.den ρ).cells) (by rw [hg,hcd]),?_,fun h=>by cases h⟩
  simp only [Ran,qq,qz9]
  simp [execOp,hop,hev,Instr.box,newVar,newRow]
 ·simp at h

theorem q15 {ty:TypeId} (hs:Holds ρ hF s a w) (hop:o.op = .alloc ty) (hsc:s.scopedEH = true) (h:qp P s o = some r):qi P ρ hF s a w o r:=by
 simp only [qp,hop] at h
 split at h
 ·rename_i cs hcs
  simp only [Option.some.injEq] at h; subst h
  obtain ⟨v,hz,hcd⟩:=qmc (P:=P) (ρ:=ρ.set s.nx { r:=some ⟨w.heap.size,0,none⟩ }) hcs w
  have hsh:s.heap.all (SH.inB s.nx) = true:=by simp only [S.scopedEH,Bool.and_eq_true] at hsc; exact hsc.2
  refine ⟨[{ r:=some ⟨w.heap.size,0,none⟩ }],_,rfl,by simp [U.good,Value.oneCell'],qs.alloc hs.hp hsh (c:=v.cells) (by rw [hcd]),?_,fun h=>by cases h⟩
  simp only [Ran,qq,qz9]
  simp [execOp,hop,Instr.alloc,hz,newVar,newRow]
 ·simp at h

theorem qQ {t:T} {z:Int} (h:t.isLit = some z):t = .lit z:=by
 unfold T.isLit at h; split at h <;> simp_all

theorem q4u {t:TypeId} {x:Operand} (hs:Holds ρ hF s a w) (hop:o.op = .load t x) (h:qp P s o = some r) (hn:∀ c ∈ r.needs,(c.den ρ).b = true):qi P ρ hF s a w o r:=by
 simp only [qp,hop] at h
 split at h
 ·rename_i rg p c e ag n hx hag hsz
  have hev:=hs.opd hx
  split at h
  ·rename_i k y hf
   obtain ⟨H,hsub,hro,hreg⟩:=hs.found hf
   split at h
   ·rename_i cs needs hrd
    split at h
    ·rename_i hagt
     simp only [Option.some.injEq] at h; subst h; subst hagt
     obtain ⟨hl,b,off,c',ty,fr,h1,h2,h3⟩:=qfm hrd hro hreg hn
     refine qi.quiet hs ?_
     have hrun:=qdK (P:=P) (w:=w) hag hsz (hsub _ _ h2) (by simp [qc,hl]) h3 (by simp)
     simp only [SV.den,T.den,O1.den,h1,qm,Option.map_some] at hev ⊢
     simp [execOp,hop,hev,Instr.loadAt,Instr.sureAddr,hrun]
    ·rename_i hagf
     split at h
     ·rename_i t' _
      simp only [Option.some.injEq] at h; subst h
      obtain ⟨hl,b,off,c',ty,fr,h1,h2,h3⟩:=qfm hrd hro hreg hn
      refine qi.quiet hs ?_
      have hagf':ag = false:=by simpa using hagf
      have hrun:=qdK (P:=P) (w:=w) hag hsz (hsub _ _ h2) (by rw [<- hl]; simp [qc]) h3 (fun _=>by rw [<- hl]; rfl)
      subst hagf'
      simp only [SV.den,T.den,O1.den,h1,qm,Option.map_some] at hev ⊢
      simp [execOp,hop,hev,Instr.loadAt,Instr.sureAddr,hrun,qc]
     ·simp at h
   ·simp at h
  ·simp at h
 ·simp at h

theorem q0I {t:TypeId} {x y:Operand} (hs:Holds ρ hF s a w) (hop:o.op = .store t x y) (h:qp P s o = some r) (hn:∀ c ∈ r.needs,(c.den ρ).b = true):qi P ρ hF s a w o r:=by
 simp only [qp,hop] at h
 split at h
 ·rename_i rg p c e vs n hx hvs hsz
  have hev:=hs.opd hx
  split at h
  ·rename_i hlen
   have hlen:=Nat.eq_of_beq_eq_true hlen
   split at h
   ·rename_i k x0 hat
    simp only [Option.map_eq_some_iff,Prod.exists] at h
    obtain ⟨x',needs,hwr,rfl⟩:=h
    simp only [Option.bind_eq_some_iff] at hvs
    obtain ⟨v,hv,hc⟩:=hvs
    have hvev:=hs.opd hv
    have hcd:=qi8 hs.gd hc
    obtain ⟨hk,hreg⟩:=qG hat
    obtain ⟨hO,hd,hst,hsub,hwi⟩:=hs.hp
    obtain ⟨t1,t2,td,tu,tx,ts⟩:=qY hst hk
    obtain ⟨b,c0,ty,g1,g2,g3,g4⟩:=qm0 hs.gd hwr tx hreg hn
    have hle:Hp.le t1 (Hp.union hF hO):=Hp.le_trans (tu ▸ Hp.le_left t1 t2) (Hp.le_right hd)
    obtain ⟨w',c1,hrun,hw1,hw2,hwrote,hos⟩:=qmN (P:=P) (w:=w) (off:=(e.den ρ).i.toNat * p + c) hsz hcd (by simp [qc,hlen]) (hsub _ _ (hle _ _ g2)) (qh6 hs.gd vs)
     (by simpa [qc] using g3)
    have hdisj:Hp.disj (Hp.upd t1 b (.cells c1 ty (0,0))) t2:=fun y=>by
     rcases td y with h | h
     ·unfold Hp.upd
      split
      ·rename_i he; subst he; rw [g2] at h; cases h
      ·exact .inl h
     ·exact .inr h
    refine ⟨[],w',rfl,by simp,⟨Hp.union (Hp.upd t1 b (.cells c1 ty (0,0))) t2,?_,qd5 hk ts hdisj (g4 c1 hwrote),?_,⟨hos.1.trans hwi.1,hos.2.trans hwi.2⟩⟩,?_,fun _ h=>by cases h⟩
    ·intro y
     rcases hd y with h | h
     ·exact .inl h
     ·right
      rw [tu] at h
      simp only [Hp.union,Option.or_eq_none_iff] at h ⊢
      refine ⟨?_,h.2⟩
      unfold Hp.upd
      split
      ·rename_i he; subst he; rw [g2] at h; cases h.1
      ·exact h.1
    ·intro y ob hy
     by_cases hyb:y = b
     ·subst hyb
      have hFn:hF y = none:=(hd y).resolve_right (by rw [tu]; simp [Hp.union,g2])
      simp only [Hp.union,hFn,Hp.upd,if_true,Option.none_or,Option.some_or,Option.some.injEq] at hy
      rw [hw1,hy]
     ·rw [hw2 y hyb]
      refine hsub y ob ?_
      rw [tu]
      simp only [Hp.union,Hp.upd,hyb,if_false] at hy ⊢
      exact hy
    ·simp only [Ran]
     simp only [SV.den,T.den,O1.den,g1,qm,Option.map_some] at hev
     simp [execOp,hop,hev,hvev,Instr.storeAt,Instr.sureAddr,hrun]
   ·simp at h
  ·simp at h
 ·simp at h

theorem qdN (hs:Holds ρ hF s a w) {r:Nat} {e:T} (h:∀ c ∈ qhE s r e,(c.den ρ).b = true):(ρ r).r.isSome = true:=by
 unfold qhE at h
 split at h
 ·rename_i r' ty cs hf
  obtain ⟨H,_,hro,hreg⟩:=hs.found hf
  simp only [SH.reg,Option.some.injEq] at hreg; subst hreg
  obtain ⟨b,o,c,ty',fr,h1,_⟩:=hro
  rw [h1]; rfl
 ·rename_i r' ty pat d cap hf
  obtain ⟨H,_,hro,hreg⟩:=hs.found hf
  simp only [SH.reg,Option.some.injEq] at hreg; subst hreg
  have h0:=qv (h _ (List.mem_cons_self ..))
  have h1:=qdw (h _ (List.mem_cons_of_mem _ (List.mem_cons_self ..)))
  rcases hro with hd | ⟨b,o,c,ty',fr,h1,_⟩
  ·rw [hd] at h1; simp at h1; omega
  ·rw [h1]; rfl
 ·have:=h _ (List.mem_singleton.2 rfl)
  simp only [T.den,O0.den,O1.den] at this
  cases hr:(ρ r).r <;> simp_all

theorem qtP {x:Operand} (hs:Holds ρ hF s a w) (hop:o.op = .nilCheck x) (h:qp P s o = some r) (hn:∀ c ∈ r.needs,(c.den ρ).b = true):qi P ρ hF s a w o r:=by
 simp only [qp,hop] at h
 split at h
 ·rename_i rg p c e hx
  have hev:=hs.opd hx
  simp only [Option.some.injEq] at h; subst h
  have ht:=qdN hs hn
  refine qi.quiet hs ?_
  simp only [SV.den,T.den,O1.den] at hev ⊢
  obtain ⟨bo,hb⟩:=qcZ ht ((e.den ρ).i.toNat * p + c)
  rw [hb] at hev
  simp [execOp,hop,hev,hb]
 ·simp at h

theorem ql6 {t:TypeId} {f:Nat} {off:Nat} {u:TypeId} (h:qqS P t f = some (off,u)):∃ fs fd n,P.underlying t = some (.struct fs)/\fs[f]? = some fd/\qN P fd.type = some (n + 1)/\fd.offset = off/\fd.type = u:=by
 unfold qqS at h
 split at h
 ·rename_i fs hu
  split at h
  ·rename_i fd hfd
   split at h
   ·rename_i n hn
    simp only [Option.some.injEq,Prod.mk.injEq] at h
    exact ⟨fs,fd,n,hu,hfd,hn,h.1,h.2⟩
   ·simp at h
  ·simp at h
 ·simp at h

theorem qsm {t:TypeId} {x:Operand} {f:Nat} (hs:Holds ρ hF s a w) (hop:o.op = .fieldAddr t x f) (h:qp P s o = some r) (hn:∀ c ∈ r.needs,(c.den ρ).b = true):qi P ρ hF s a w o r:=by
 simp only [qp,hop] at h
 split at h
 ·rename_i rg p c e off u hx hf
  have hev:=hs.opd hx
  simp only [Option.some.injEq] at h; subst h
  have ht:=qdN hs hn
  obtain ⟨fs,fd,n,hu,hfd,hsz,rfl,rfl⟩:=ql6 hf
  refine qi.quiet hs ?_
  simp only [SV.den,T.den,O1.den] at hev ⊢
  obtain ⟨bo,hb⟩:=qcZ ht ((e.den ρ).i.toNat * p + c)
  rw [hb] at hev
  rw [<- Nat.add_assoc,qeL _ hb]
  simp [execOp,hop,hev,Instr.fieldAt,Instr.sureAddr,qt hu,hfd,fieldPlace,qa8 hsz]
 ·simp at h

theorem q1T {t:TypeId} {x:Operand} {f:Nat} (hs:Holds ρ hF s a w) (hop:o.op = .field t x f) (h:qp P s o = some r):qi P ρ hF s a w o r:=by
 simp only [qp,hop] at h
 split at h
 ·rename_i cs off u hx hf
  have hev:=hs.opd hx
  obtain ⟨fs,fd,n0,hu,hfd,hsz0,rfl,rfl⟩:=ql6 hf
  split at h
  ·rename_i n hag hsz
   split at h
   ·rename_i hle
    simp only [Option.some.injEq] at h; subst h
    refine qi.quiet hs ?_
    simp only [SV.den] at hev ⊢
    simp [execOp,hop,hev,Instr.field,qt hu,hfd,asAgg,part,qf3 hag,qa8 hsz,qc,List.extract_eq_take_drop]
   ·simp at h
  ·rename_i hag
   simp only [Option.map_eq_some_iff] at h
   obtain ⟨t',ht',rfl⟩:=h
   refine qi.quiet hs ?_
   simp only [SV.den] at hev ⊢
   simp [execOp,hop,hev,Instr.field,qt hu,hfd,asAgg,part,qf3 hag,qc,ht']
  ·simp at h
 ·simp at h

theorem qaF (x y:T):((qan x y).den ρ).i = (x.den ρ).i + (y.den ρ).i:=by
 unfold qan
 split
 ·rename_i u v hu hv; rw [qQ hu,qQ hv]; simp [T.den,O0.den]
 ·rename_i u hu hv
  split
  ·rename_i h0; rw [qQ hu,h0]; simp [T.den,O0.den]
  ·rfl
 ·rename_i u hu hv
  split
  ·rename_i h0; rw [qQ hv,h0]; simp [T.den,O0.den]
  ·rfl
 ·rfl

theorem qr5 {t:TypeId} {x i:Operand} (hs:Holds ρ hF s a w) (hop:o.op = .indexAddr t x i) (h:qp P s o = some r) (hn:∀ c ∈ r.needs,(c.den ρ).b = true):qi P ρ hF s a w o r:=by
 simp only [qp,hop] at h
 split at h
 ·rename_i el rg p off len cap kk j hu hx hi
  have hev:=hs.opd hx
  have hei:=hs.opd hi
  split at h
  ·rename_i n hsz
   split at h
   ·rename_i hnp
    have hnp:=Nat.eq_of_beq_eq_true hnp
    simp only [Option.some.injEq] at h; subst h
    simp only [List.cons_append,List.nil_append] at hn
    have h0:=qv (hn _ (List.mem_cons_self ..))
    have h1:=hn _ (List.mem_cons_of_mem _ (List.mem_cons_self ..))
    rw [qE _ _ _ (by simp)] at h1
    have h1:(j.den ρ).i < (len.den ρ).i:=of_decide_eq_true h1
    have h2:=qv (hn _ (List.mem_cons_of_mem _ (List.mem_cons_of_mem _ (List.mem_cons_self ..))))
    have ht:=qdN hs (e:=qan off j) (fun c hc=>hn c (List.mem_cons_of_mem _ (List.mem_cons_of_mem _ (List.mem_cons_of_mem _ hc))))
    obtain ⟨bo,hb⟩:=qcZ ht ((off.den ρ).i.toNat * p)
    refine qi.quiet hs ?_
    have hpl:(off.den ρ).i.toNat * p + (j.den ρ).i.toNat * p = ((off.den ρ).i + (j.den ρ).i).toNat * p:=by
     rw [<- Nat.add_mul]; congr 1; omega
    have hcond:¬ (max (len.den ρ).i 0 <= (j.den ρ).i):=by omega
    simp only [SV.den,T.den,O1.den,O3.den,qaF] at hev hei ⊢
    rw [hb] at hev
    rw [<- hpl,Nat.add_zero,qeL _ hb]
    subst hnp
    simp [execOp,hop,hev,hei,Instr.indexAt,asIntOf,qt hu,h0,hcond,qa8 hsz]
   ·simp at h
  ·simp at h
 ·rename_i m el rg p c e kk j hu hx hi
  have hev:=hs.opd hx
  have hei:=hs.opd hi
  split at h
  ·rename_i n z hsz hz
   split at h
   ·rename_i hc
    simp only [Option.some.injEq] at h; subst h
    have ht:=qdN hs hn
    obtain ⟨bo,hb⟩:=qcZ ht ((e.den ρ).i.toNat * p + c)
    rw [qQ hz] at hei
    refine qi.quiet hs ?_
    simp only [SV.den,T.den,O0.den,O1.den] at hev hei ⊢
    rw [hb] at hev
    rw [<- Nat.add_assoc,qeL _ hb]
    simp [execOp,hop,hev,hei,Instr.indexAt,Instr.sureAddr,asIntOf,qt hu,hc,qa8 hsz]
   ·simp at h
  ·rename_i n hsz hz
   split at h
   ·rename_i hz0
    simp only [Option.some.injEq] at h; subst h
    have h0:=qv (hn _ (List.mem_cons_self ..))
    have h1:=hn _ (List.mem_cons_of_mem _ (List.mem_cons_self ..))
    rw [qE _ _ _ (by simp)] at h1
    have h1:(j.den ρ).i < (m:Int):=of_decide_eq_true h1
    have ht:=qdN hs (e:=e) (fun c hc=>hn c (List.mem_cons_of_mem _ (List.mem_cons_of_mem _ hc)))
    obtain ⟨bo,hb⟩:=qcZ ht c
    have he0:(e.den ρ).i = 0:=by rw [qQ hz0]; simp [T.den,O0.den]
    refine qi.quiet hs ?_
    simp only [SV.den,T.den,O0.den,O1.den,he0,Int.toNat_zero,Nat.zero_mul,Nat.zero_add] at hev hei ⊢
    rw [hb] at hev
    rw [Nat.add_comm,qeL _ hb]
    simp [execOp,hop,hev,hei,Instr.indexAt,Instr.sureAddr,asIntOf,qt hu,h0,h1,qa8 hsz]
   ·simp at h
  ·simp at h
 ·simp at h

theorem qdd (op:BinOp) (k:IntKind) (x y:T):((qgx op k x y).den ρ).i = qe op k (x.den ρ).i (y.den ρ).i:=by
 unfold qgx
 split
 ·rename_i u v hu hv; rw [qQ hu,qQ hv]; simp [T.den,O0.den]
 ·rfl
theorem q2p (k:IntKind) (x:T):((qwz k x).den ρ).i = k.wrap (x.den ρ).i:=by
 unfold qwz
 split
 ·rename_i u hu; rw [qQ hu]; simp [T.den,O0.den]
 ·rfl
theorem qf7 (x:T):((qiJ x).den ρ).b = !(x.den ρ).b:=by
 unfold qiJ
 split <;> simp [T.den,O0.den,O1.den]
theorem qiO (x y:T):((qnA x y).den ρ).b = ((x.den ρ).b == (y.den ρ).b):=by
 unfold qnA
 split
 ·simp [T.den,O0.den]
 ·split
  ·rename_i h; rw [T.same_eq h]; simp [T.den,O0.den]
  ·rfl
theorem q42 (x y:T):((q10 x y).den ρ).i = if (y.den ρ).i < (x.den ρ).i then (y.den ρ).i else (x.den ρ).i:=by
 unfold q10
 split
 ·rename_i u v hu hv
  rw [qQ hu,qQ hv]
  simp only [T.den,O0.den]
  by_cases h:v < u <;> simp [h]
 ·rfl
theorem q3s (x y:T):((q1y x y).den ρ).i = if (y.den ρ).i > (x.den ρ).i then (y.den ρ).i else (x.den ρ).i:=by
 unfold q1y
 split
 ·rename_i u v hu hv; rw [qQ hu,qQ hv]; simp [T.den,O0.den]
 ·rfl

theorem qmp (x y:T):((que x y).den ρ).b = ((x.den ρ).b && (y.den ρ).b):=by
 unfold que; split <;> simp [T.den,O0.den,O2.den]

theorem qku (hs:Holds ρ hF s a w) (r:Nat):((qrj s r).den ρ).b = (ρ r).r.isNone:=by
 unfold qrj
 split
 ·rename_i r' ty cs hf
  obtain ⟨H,_,hro,hreg⟩:=hs.found hf
  simp only [SH.reg,Option.some.injEq] at hreg; subst hreg
  obtain ⟨b,o,c,ty',fr,h1,_⟩:=hro
  simp [T.den,O0.den,h1]
 ·rename_i r' ty pat d cap hf
  obtain ⟨H,_,hro,hreg⟩:=hs.found hf
  simp only [SH.reg,Option.some.injEq] at hreg; subst hreg
  rw [qmp,qE _ _ _ (by simp),qaQ]
  rcases hro with h2 | ⟨b,o,c,ty',fr,h1,_⟩
  ·simp [T.den,O0.den,h2,qH]
  ·simp [T.den,O0.den,h1]
 ·rfl

theorem qcb {op:BinOp} {t:TypeId} {x y:Operand} {k k':IntKind} {m n:Int}:(eqGuard op t x y (.int k m) (.int k' n)).run P w = .ok () w:=by
 unfold eqGuard; split <;> simp
theorem qi3 {op:BinOp} {t:TypeId} {x y:Operand} {m n:Bool}:(eqGuard op t x y (.bool m) (.bool n)).run P w = .ok () w:=by
 unfold eqGuard; split <;> simp
theorem qdY {op:BinOp} {t:TypeId} {x y:Operand} {m n:Option Addr}:(eqGuard op t x y (.pointer m) (.pointer n)).run P w = .ok () w:=by
 unfold eqGuard; split <;> simp

theorem qxm {ty:TypeId} (hu:P.underlying ty = some .bool) (m n:Bool):(binOp .eql ty (.bool m) (.bool n)).run P w = .ok (.bool (m == n)) w:=by
 simp only [binOp,Op.equal]
 rw [show Op.maxDepth = 9999 + 1 from rfl]
 simp only [Sem.run_bind,run_equalIn_bool' w 9999 ty m n hu,Result.andThen_ok,Sem.run_pure]
theorem qwo {ty:TypeId} (hu:P.underlying ty = some .bool) (m n:Bool):(binOp .neq ty (.bool m) (.bool n)).run P w = .ok (.bool (!(m == n))) w:=by
 simp only [binOp,Op.equal]
 rw [show Op.maxDepth = 9999 + 1 from rfl]
 simp only [Sem.run_bind,run_equalIn_bool' w 9999 ty m n hu,Result.andThen_ok,Sem.run_pure]
theorem qhi (d:Nat) {ty el:TypeId} (hu:P.underlying ty = some (.pointer el)) (m:Option Addr):(Op.equalIn (d + 1) ty (.pointer m) (.pointer none)).run P w = .ok m.isNone w:=by
 unfold Op.equalIn
 simp only [Sem.run_bind,qt hu,Result.andThen_ok]
 cases m <;> simp
theorem qkd {ty el:TypeId} (hu:P.underlying ty = some (.pointer el)) (m:Option Addr):(binOp .eql ty (.pointer m) (.pointer none)).run P w = .ok (.bool m.isNone) w:=by
 have h:binOp .eql ty (.pointer m) (.pointer none) = (do pure (.bool (<- Op.equal ty (.pointer m) (.pointer none)))):=by cases m <;> rfl
 rw [h]
 simp only [Op.equal]
 rw [show Op.maxDepth = 9999 + 1 from rfl]
 simp only [Sem.run_bind,qhi 9999 hu,Result.andThen_ok,Sem.run_pure]
theorem qjH {ty el:TypeId} (hu:P.underlying ty = some (.pointer el)) (m:Option Addr):(binOp .neq ty (.pointer m) (.pointer none)).run P w = .ok (.bool (!m.isNone)) w:=by
 have h:binOp .neq ty (.pointer m) (.pointer none) = (do pure (.bool (!(<- Op.equal ty (.pointer m) (.pointer none))))):=by cases m <;> rfl
 rw [h]
 simp only [Op.equal]
 rw [show Op.maxDepth = 9999 + 1 from rfl]
 simp only [Sem.run_bind,qhi 9999 hu,Result.andThen_ok,Sem.run_pure]

theorem qeA:∀ t:T,((qbR t).den ρ).i = ((qaK (t.den ρ).v).length:Int)
 | .c0 o=>by cases o <;> simp [qbR,T.den,O0.den,O1.den,qjW]
 | .c1 o x=>by cases o <;> simp [qbR,T.den,O1.den,qaQ,bytesOf,qjW]
 | .c2 o x y=>by
  cases o <;> simp only [qbR,T.den,O1.den,O2.den]
  rw [qaF,qeA x,qeA y]
  simp [qjW]
 | .var n=>by simp [qbR,T.den,O1.den]
 | .c3 o x y z=>by simp [qbR,T.den,O1.den]
 | .ife x y u v=>by simp [qbR,T.den,O1.den]
theorem q1E {x y:T} (hx:qfg x = true) (hy:qfg y = true):((quC x y).den ρ).v = .string ⟨(qaK (x.den ρ).v ++ qaK (y.den ρ).v).toArray⟩:=by
 obtain ⟨sx,ex⟩:=qcM (ρ:=ρ) hx
 obtain ⟨sy,ey⟩:=qcM (ρ:=ρ) hy
 unfold quC
 split
 ·have e:qaK ((T.c0 (.vstr [])).den ρ).v = []:=by simp [T.den,O0.den,qjW]
  rw [e,List.nil_append,ey,qvw]
 ·have e:qaK ((T.c0 (.vstr [])).den ρ).v = []:=by simp [T.den,O0.den,qjW]
  rw [e,List.append_nil,ex,qvw]
 ·rfl
theorem qya {ty:TypeId} {m n:ByteArray} (h:((qaK (.string m)).length:Int) + ((qaK (.string n)).length:Int) <= 9223372036854775807):(binOp .add ty (.string m) (.string n)).run P w = .ok (.string ⟨(qaK (.string m) ++ qaK (.string n)).toArray⟩) w:=by
 simp only [qaK,qf8,Array.length_toList] at h ⊢
 have hs:¬ (((m.size + n.size:Nat):Int) > IntKind.i64.max):=by
  have h1:m.size = m.data.size:=rfl
  have h2:n.size = n.data.size:=rfl
  simp [IntKind.max,IntKind.signed,IntKind.bits]; omega
 have he:m ++ n = ⟨(m.data.toList ++ n.data.toList).toArray⟩:=by
  apply ByteArray.ext
  apply Array.ext'
  simp
 simp only [binOp,Op.stringOp,if_neg hs,he]
 rfl
theorem qef {op:BinOp} {t:TypeId} {x y:Operand} {m n:ByteArray}:(eqGuard op t x y (.string m) (.string n)).run P w = .ok () w:=by
 unfold eqGuard; split <;> simp
theorem qyy {ty:TypeId} {m n:ByteArray}:(binOp .eql ty (.string m) (.string n)).run P w = .ok (.bool (m.toList == n.toList)) w:=by
 simp [binOp,Op.stringOp]
theorem qxB {ty:TypeId} {m n:ByteArray}:(binOp .neq ty (.string m) (.string n)).run P w = .ok (.bool (!(m.toList == n.toList))) w:=by
 simp [binOp,Op.stringOp]
theorem qyh {ty:TypeId} {m n:ByteArray}:(binOp .lss ty (.string m) (.string n)).run P w = .ok (.bool (Op.bytesLess m.toList n.toList)) w:=by
 simp [binOp,Op.stringOp]
theorem qdg {op:BinOp} {t:TypeId} {x y:Operand} {m n:Option Addr} {i j k l:Nat}:(eqGuard op t x y (.slice m i j) (.slice n k l)).run P w = .ok () w:=by
 cases op <;> simp [eqGuard]
theorem qfT (d:Nat) {ty el:TypeId} (hu:P.underlying ty = some (.slice el)) (m:Option Addr) (i j:Nat):(Op.equalIn (d + 1) ty (.slice m i j) (.slice none 0 0)).run P w = .ok m.isNone w:=by
 unfold Op.equalIn
 simp only [Sem.run_bind,qt hu,Result.andThen_ok]
 cases m <;> simp
theorem qie {ty el:TypeId} (hu:P.underlying ty = some (.slice el)) (m:Option Addr) (i j:Nat):(binOp .eql ty (.slice m i j) (.slice none 0 0)).run P w = .ok (.bool m.isNone) w:=by
 have h:binOp .eql ty (.slice m i j) (.slice none 0 0) = (do pure (.bool (<- Op.equal ty (.slice m i j) (.slice none 0 0)))):=by cases m <;> rfl
 rw [h]
 simp only [Op.equal]
 rw [show Op.maxDepth = 9999 + 1 from rfl]
 simp only [Sem.run_bind,qfT 9999 hu,Result.andThen_ok,Sem.run_pure]
theorem qhY {ty el:TypeId} (hu:P.underlying ty = some (.slice el)) (m:Option Addr) (i j:Nat):(binOp .neq ty (.slice m i j) (.slice none 0 0)).run P w = .ok (.bool (!m.isNone)) w:=by
 have h:binOp .neq ty (.slice m i j) (.slice none 0 0) = (do pure (.bool (!(<- Op.equal ty (.slice m i j) (.slice none 0 0))))):=by cases m <;> rfl
 rw [h]
 simp only [Op.equal]
 rw [show Op.maxDepth = 9999 + 1 from rfl]
 simp only [Sem.run_bind,qfT 9999 hu,Result.andThen_ok,Sem.run_pure]


def qgf (P:Program) (ρ:Env) (t:TypeId) (cs:List T):Value :=
 match qdm P t with
 | some true=>.agg (qc ρ cs).toArray
 | _=>(qc ρ cs).headD .nilFunc

theorem qwR {t:TypeId} {ag:Bool} {n off:Nat} {cs:List T} (hag:qdm P t = some ag) (hn:qN P t = some n) (h1:(ag || Nat.beq n 1) = true) (hl:off + n <= cs.length) (w:World) :
  (part t (qc ρ cs).toArray off).run P w = .ok (qgf P ρ t ((cs.drop off).take n)) w:=by
 cases ag with
 | true=>simp [part,qf3 hag,qa8 hn,qgf,hag,qc,List.extract_eq_take_drop]
 | false =>
  simp only [Bool.false_or] at h1
  have:=Nat.eq_of_beq_eq_true h1
  subst this
  have hlt:off < cs.length:=by omega
  simp only [part,Sem.run_bind,qf3 hag,Result.andThen_ok,qgf,hag]
  have e1:(qc ρ cs).toArray[off]? = some ((cs[off]).den ρ).v:=by simp [qc,hlt]
  have e2:(cs.drop off).take 1 = [cs[off]]:=by rw [List.drop_eq_getElem_cons hlt]; rfl
  rw [e2]
  simp [e1,qc,hlt]

theorem qkX {f:TypeId->List T->List T->Option T} {d:Nat} {cs ds:List T} (hf:∀ t a b c (w:World),f t a b = some c->(Op.equalIn d t (qgf P ρ t a) (qgf P ρ t b)).run P w = .ok (c.den ρ).b w) :
  ∀ {fs:List Field} {c:T} (w:World),qrL P f cs ds fs = some c->(Op.eqFields d (qc ρ cs).toArray (qc ρ ds).toArray fs).run P w = .ok (c.den ρ).b w
 | [],c,w,h=>by simp only [qrL,Option.some.injEq] at h; subst h; simp [Op.eqFields,T.den,O0.den]
 | x :: fs,c,w,h=>by
  simp only [qrL] at h
  split at h
  ·rename_i hname
   split at h
   ·rename_i ag n r hag hn hr
    split at h
    ·rename_i hc
     simp only [Bool.and_eq_true,Nat.ble_eq] at hc
     simp only [Option.map_eq_some_iff] at h
     obtain ⟨a,ha,rfl⟩:=h
     simp only [Op.eqFields,hname,ne_eq,not_false_eq_true,if_true,Sem.run_bind,qwR (ρ:=ρ) hag hn hc.1.1 hc.1.2,qwR (ρ:=ρ) hag hn hc.1.1 hc.2,Result.andThen_ok,hf _ _ _ _ _ ha]
     have:=qkX hf w hr
     cases hb:(a.den ρ).b with
     | true=>simp [this,qmp,hb]
     | false=>simp [qmp,hb]
    ·simp at h
   ·simp at h
  ·rename_i hname
   simp only [Op.eqFields,hname,if_false]
   exact qkX hf w h

theorem q3C:∀ (n d:Nat),n <= d->∀ (t:TypeId) (cs ds:List T) (c:T) (w:World),eqT P n t cs ds = some c->(Op.equalIn d t (qgf P ρ t cs) (qgf P ρ t ds)).run P w = .ok (c.den ρ).b w:=by
 intro n
 induction n with
 | zero=>intro d _ t cs ds c w h; simp [eqT] at h
 | succ n ih =>
  intro d hd t cs ds c w h
  obtain ⟨d',rfl⟩:∃ d',d = d' + 1:=⟨d - 1,by omega⟩
  simp only [eqT] at h
  split at h
  ·rename_i k0 hu
   split at h
   ·rename_i k a k' b
    split at h
    ·rename_i hk
     subst hk
     simp only [Option.some.injEq] at h; subst h
     simp only [qgf,qdm,hu,qc,List.map_cons,List.map_nil,List.headD_cons,T.den,O1.den]
     rw [run_equalIn_int w d' t k k0 _ _ hu,qE _ _ _ (by simp)]; rfl
    ·simp at h
   ·simp at h
  ·rename_i hu
   split at h
   ·rename_i a b
    simp only [Option.some.injEq] at h; subst h
    simp only [qgf,qdm,hu,qc,List.map_cons,List.map_nil,List.headD_cons,T.den,O1.den]
    rw [run_equalIn_bool' w d' t _ _ hu,qiO]
   ·simp at h
  ·rename_i fs hu
   split at h
   ·simp at h
   ·rename_i hst
    have hfs:P.fieldsOf t = fs:=by simp [Program.fieldsOf,hu]
    simp only [qgf,qdm,hu]
    rw [run_equalIn_struct w d' t _ _ (by rw [hfs]; exact hu) (by simpa using hst),hfs]
    exact qkX (fun t a b c w hc=>ih d' (by omega) t a b c w hc) w h
  ·simp at h

theorem qyB {t:TypeId} {cs ds:List T} {c:T} (h:q2j P t cs ds = some c):P.eqGuardType P.depth t = false/\(Op.equalIn 10000 t (.agg (qc ρ cs).toArray) (.agg (qc ρ ds).toArray)).run P w = .ok (c.den ρ).b w:=by
 unfold q2j at h
 split at h
 ·simp at h
 ·rename_i hg
  split at h
  ·rename_i fs hu
   refine ⟨by simpa using hg,?_⟩
   have:=q3C (P:=P) (ρ:=ρ) 8 10000 (by omega) t cs ds c w h
   simpa only [qgf,qdm,hu] using this
  ·simp at h

theorem qgE {k:IntKind}:∀ {ts:List T},qa6 k ts = true->∃ zs:List Int,qc ρ ts = zs.map (Value.int k)
 | [],_=>⟨[],rfl⟩
 | .c1 (.vint k') x :: l,h=>by
  simp only [qa6,Bool.and_eq_true,decide_eq_true_eq] at h
  obtain ⟨hk,hl⟩:=h
  subst hk
  obtain ⟨zs,hz⟩:=qgE hl
  exact ⟨(x.den ρ).i :: zs,by simp only [qc,List.map_cons,T.den,O1.den] at hz ⊢; rw [hz]⟩
 | .var _ :: _,h=>by simp [qa6] at h
 | .c0 _ :: _,h=>by simp [qa6] at h
 | .c2 _ _ _ :: _,h=>by simp [qa6] at h
 | .c3 _ _ _ _ :: _,h=>by simp [qa6] at h
 | .ife _ _ _ _ :: _,h=>by simp [qa6] at h
 | .c1 (.conv _) _ :: _,h=>by simp [qa6] at h
 | .c1 .dlen _ :: _,h=>by simp [qa6] at h
 | .c1 .not _ :: _,h=>by simp [qa6] at h
 | .c1 .vbool _ :: _,h=>by simp [qa6] at h
 | .c1 (.vptr _ _ _) _ :: _,h=>by simp [qa6] at h
 | .c1 .vbytes _ :: _,h=>by simp [qa6] at h
 | .c1 .sval _ :: _,h=>by simp [qa6] at h
 | .c1 .slen _ :: _,h=>by simp [qa6] at h
 | .c1 .srows _ :: _,h=>by simp [qa6] at h
 | .c1 (.isg _) _ :: _,h=>by simp [qa6] at h
theorem qmL (ts:List T):(((T.row ts).den ρ).d.headD []) = qc ρ ts:=by rw [qhL]
theorem ql5:∀ (xs ys:List Int),xs.length = ys.length->((List.range xs.length).all fun i=>xs.getD i 0 == ys.getD i 0) = (xs == ys)
 | [],[],_=>rfl
 | x :: xs,y :: ys,h=>by
  have ih:=ql5 xs ys (by simpa using h)
  rw [List.length_cons,List.range_succ_eq_map,List.all_cons,List.all_map]
  simp only [List.getD_cons_zero,Function.comp_def,List.getD_cons_succ,ih]
  simp [List.cons_beq_cons]
 | [],_ :: _,h=>by simp at h
 | _ :: _,[],h=>by simp at h
theorem qhR {e:TypeId} {k:IntKind} {zs:List Int} {i:Nat} (he:qdm P e = some false) (hi:i < zs.length) (w:World):(part e (zs.map (Value.int k)).toArray (i * 1)).run P w = .ok (.int k (zs.getD i 0)) w:=by
 have ha:(isAgg e).run P w = .ok false w:=qf3 he w
 simp [part,ha,List.getD,List.getElem?_eq_getElem hi]
theorem qiz (d:Nat) (t e:TypeId) (n:Nat) (k:IntKind) (ht:P.underlying t = some (.array n e)) (he:P.underlying e = some (.int k)) (hag:qdm P e = some false) (hsz:qN P e = some 1) (xs ys:List Int) (hx:xs.length = n) (hy:ys.length = n) (w:World) :
  (Op.equalIn (d + 2) t (.agg (xs.map (Value.int k)).toArray) (.agg (ys.map (Value.int k)).toArray)).run P w = .ok (xs == ys) w:=by
 rw [<- ql5 xs ys (hx.trans hy.symm),hx,List.range_eq_range',Op.equalIn]
 simp only [Sem.run_bind,run_underlying ht,Result.andThen_ok,qa8 hsz,Std.Legacy.Range.forIn_eq_forIn_range',Std.Legacy.Range.size,Nat.sub_zero,Nat.add_sub_cancel,Nat.div_one]
 have hl:∀ i ∈ List.range' 0 n 1,i < n:=fun i hi=>by simpa using (List.mem_range'_1.1 hi).2
 generalize List.range' 0 n 1 = l at hl ⊢
 induction l with
 | nil=>simp
 | cons i l ih =>
  have hi:i < n:=hl i (by simp)
  have px:=qhR (P:=P) (k:=k) (zs:=xs) hag (i:=i) (by omega) w
  have py:=qhR (P:=P) (k:=k) (zs:=ys) hag (i:=i) (by omega) w
  have pe:(Op.equalIn (d + 1) e (.int k (xs.getD i 0)) (.int k (ys.getD i 0))).run P w = .ok (xs.getD i 0 == ys.getD i 0) w:=run_equalIn_int w d e k k _ _ he
  simp only [List.forIn_cons,Sem.run_bind,px,py,pe,Result.andThen_ok,List.all_cons]
  cases hb:(xs.getD i 0 == ys.getD i 0)
  ·simp
  ·simp only [Bool.not_true,Bool.false_eq_true,if_false,Sem.run_pure,Result.andThen_ok,Bool.true_and]
   exact ih fun j hj=>hl j (by simp [hj])
theorem q6z (k:IntKind) (zs:List Int):(zs.map (Value.int k)).map qag = zs:=by
 rw [List.map_map]; exact List.map_id' zs
theorem qy4 {t:TypeId} {cs ds:List T} {c:T} (h:q2c P t cs ds = some c):P.eqGuardType P.depth t = false/\(Op.equalIn 10000 t (.agg (qc ρ cs).toArray) (.agg (qc ρ ds).toArray)).run P w = .ok (c.den ρ).b w:=by
 unfold q2c at h
 split at h
 ·simp at h
 ·rename_i hg
  split at h
  ·rename_i n el hu
   split at h
   ·rename_i k hk hsz hag
    split at h
    ·rename_i hc
     simp only [Bool.and_eq_true] at hc
     obtain ⟨⟨⟨l1,l2⟩,a1⟩,a2⟩:=hc
     have l1:=Nat.eq_of_beq_eq_true l1
     have l2:=Nat.eq_of_beq_eq_true l2
     simp only [Option.some.injEq] at h; subst h
     refine ⟨by simpa using hg,?_⟩
     obtain ⟨xs,hx⟩:=qgE (ρ:=ρ) a1
     obtain ⟨ys,hy⟩:=qgE (ρ:=ρ) a2
     have hxl:xs.length = n:=by have:=congrArg List.length hx; simp [qc] at this; omega
     have hyl:ys.length = n:=by have:=congrArg List.length hy; simp [qc] at this; omega
     rw [hx,hy,show (10000:Nat) = 9998 + 2 from rfl,qiz 9998 t el n k hu hk hag hsz xs ys hxl hyl w]
     simp only [T.den,O2.den,qmL,hx,hy,q6z]
    ·simp at h
   ·simp at h
  ·simp at h
theorem qom {t:TypeId} {cs ds:List T} {c:T} (h:q1G P t cs ds = some c):P.eqGuardType P.depth t = false/\(Op.equalIn 10000 t (.agg (qc ρ cs).toArray) (.agg (qc ρ ds).toArray)).run P w = .ok (c.den ρ).b w:=by
 unfold q1G at h
 split at h
 ·rename_i c' hc
  simp only [Option.some.injEq] at h; subst h
  exact qyB hc
 ·exact qy4 h

theorem qfr (r:Option Addr) (n:Nat):(qm r n).isNone = r.isNone:=by cases r <;> rfl

theorem q6D {op:BinOp} {ty u:TypeId} {x y:Operand} (hs:Holds ρ hF s a w) (hop:o.op = .binOp op ty x y u) (h:qp P s o = some r) (hn:∀ c ∈ r.needs,(c.den ρ).b = true):qi P ρ hF s a w o r:=by
 simp only [qp,hop] at h
 split at h
 ·rename_i va vb hx hy
  have hex:=hs.opd hx
  have hey:=hs.opd hy
  unfold qyY at h
  split at h
  ·rename_i k x1 k' y1
   simp only [SV.den,T.den,O1.den] at hex hey
   split at h
   ·simp only [Option.some.injEq] at h; subst h
    have h0:=hn _ (List.mem_singleton.2 rfl)
    rw [qE _ _ _ (by simp)] at h0
    have h0:(y1.den ρ).i ≥ 0:=of_decide_eq_true h0
    refine qi.quiet hs ?_
    simp [execOp,hop,hex,hey,qcb,binOp,Op.shift,Int.not_lt.2 h0,SV.den,T.den,O1.den,qdd,qe]
   ·simp only [Option.some.injEq] at h; subst h
    have h0:=hn _ (List.mem_singleton.2 rfl)
    rw [qE _ _ _ (by simp)] at h0
    have h0:(y1.den ρ).i ≥ 0:=of_decide_eq_true h0
    refine qi.quiet hs ?_
    simp [execOp,hop,hex,hey,qcb,binOp,Op.shift,Int.not_lt.2 h0,SV.den,T.den,O1.den,qdd,qe]
   all_goals split at h
   all_goals first | (simp at h; done) | skip
   all_goals (rename_i hk; subst hk; simp only [Option.some.injEq] at h; subst h)
   ·have h0:=hn _ (List.mem_singleton.2 rfl)
    rw [qE _ _ _ (by simp)] at h0
    have h0:(y1.den ρ).i ≠ 0:=by simpa [qH,T.den,O0.den] using h0
    refine qi.quiet hs ?_
    simp [execOp,hop,hex,hey,qcb,binOp,Op.intDiv,h0,SV.den,T.den,O1.den,qdd,qe]
   ·have h0:=hn _ (List.mem_singleton.2 rfl)
    rw [qE _ _ _ (by simp)] at h0
    have h0:(y1.den ρ).i ≠ 0:=by simpa [qH,T.den,O0.den] using h0
    refine qi.quiet hs ?_
    simp [execOp,hop,hex,hey,qcb,binOp,Op.intDiv,h0,SV.den,T.den,O1.den,qdd,qe]
   all_goals
    refine qi.quiet hs ?_
    first
     | (simp [execOp,hop,hex,hey,qcb,binOp,Op.intArith,Op.intBits,SV.den,T.den,O1.den,qdd,qe]; done)
     | (simp [execOp,hop,hex,hey,qcb,binOp,Op.intCmp,SV.den,T.den,O1.den,qE,qH]; done)
  ·rename_i x1 y1
   simp only [SV.den,T.den,O1.den] at hex hey
   split at h
   ·rename_i hu
    simp only [Option.some.injEq] at h; subst h
    refine qi.quiet hs ?_
    simp only [execOp,hop,hex,hey,Sem.run_bind,qi3,qxm hu,Result.andThen_ok,Sem.run_pure,SV.den,T.den,O1.den,qiO]
   ·rename_i hu
    simp only [Option.some.injEq] at h; subst h
    refine qi.quiet hs ?_
    simp only [execOp,hop,hex,hey,Sem.run_bind,qi3,qwo hu,Result.andThen_ok,Sem.run_pure,SV.den,T.den,O1.den,qiO,qf7]
   ·simp at h
  ·rename_i rg p c e
   simp only [SV.den,T.den,O0.den,O1.den] at hex hey
   split at h
   ·rename_i el hu
    simp only [Option.some.injEq] at h; subst h
    refine qi.quiet hs ?_
    simp only [execOp,hop,hex,hey,Sem.run_bind,qdY,qkd hu,Result.andThen_ok,Sem.run_pure,SV.den,T.den,O1.den,qku hs,qfr]
   ·rename_i el hu
    simp only [Option.some.injEq] at h; subst h
    refine qi.quiet hs ?_
    simp only [execOp,hop,hex,hey,Sem.run_bind,qdY,qjH hu,Result.andThen_ok,Sem.run_pure,SV.den,T.den,O1.den,qf7,qku hs,qfr]
   ·simp at h
  ·simp only [SV.den,T.den,O0.den,O1.den] at hex hey
   split at h
   ·rename_i el hu
    simp only [Option.some.injEq] at h; subst h
    refine qi.quiet hs ?_
    simp only [execOp,hop,hex,hey,Sem.run_bind,qdY,qkd hu,Result.andThen_ok,Sem.run_pure,SV.den,T.den,O0.den,O1.den,Option.isNone_none]
   ·rename_i el hu
    simp only [Option.some.injEq] at h; subst h
    refine qi.quiet hs ?_
    simp only [execOp,hop,hex,hey,Sem.run_bind,qdY,qjH hu,Result.andThen_ok,Sem.run_pure,SV.den,T.den,O0.den,O1.den,Option.isNone_none,Bool.not_true]
   ·simp at h
  ·rename_i rg p off len cap
   simp only [SV.den,T.den,O0.den,O3.den] at hex hey
   split at h
   ·rename_i el hu
    simp only [Option.some.injEq] at h; subst h
    refine qi.quiet hs ?_
    simp only [execOp,hop,hex,hey,Sem.run_bind,qdg,qie hu,Result.andThen_ok,Sem.run_pure,SV.den,T.den,O1.den,qku hs,qfr]
   ·rename_i el hu
    simp only [Option.some.injEq] at h; subst h
    refine qi.quiet hs ?_
    simp only [execOp,hop,hex,hey,Sem.run_bind,qdg,qhY hu,Result.andThen_ok,Sem.run_pure,SV.den,T.den,O1.den,qf7,qku hs,qfr]
   ·simp at h
  ·simp only [SV.den,T.den,O0.den,O3.den] at hex hey
   split at h
   ·rename_i el hu
    simp only [Option.some.injEq] at h; subst h
    refine qi.quiet hs ?_
    simp only [execOp,hop,hex,hey,Sem.run_bind,qdg,qie hu,Result.andThen_ok,Sem.run_pure,SV.den,T.den,O0.den,O1.den,Option.isNone_none]
   ·rename_i el hu
    simp only [Option.some.injEq] at h; subst h
    refine qi.quiet hs ?_
    simp only [execOp,hop,hex,hey,Sem.run_bind,qdg,qhY hu,Result.andThen_ok,Sem.run_pure,SV.den,T.den,O0.den,O1.den,Option.isNone_none,Bool.not_true]
   ·simp at h
  ·rename_i cs ds
   simp only [SV.den] at hex hey
   split at h
   ·rename_i c hc
    simp only [Option.some.injEq] at h; subst h
    obtain ⟨g1,g2⟩:=qom (ρ:=ρ) (w:=w) hc
    refine qi.quiet hs ?_
    simp only [execOp,hop,hex,hey,Sem.run_bind,run_eqGuard_agg w _ _ _ _ _ _ g1,run_eql_struct,g2,Result.andThen_ok,Sem.run_pure,SV.den,T.den,O1.den]
   ·rename_i c hc
    simp only [Option.some.injEq] at h; subst h
    obtain ⟨g1,g2⟩:=qom (ρ:=ρ) (w:=w) hc
    refine qi.quiet hs ?_
    simp only [execOp,hop,hex,hey,Sem.run_bind,run_eqGuard_agg w _ _ _ _ _ _ g1,run_neq_struct,g2,Result.andThen_ok,Sem.run_pure,SV.den,T.den,O1.den,qf7]
   ·simp at h
  ·rename_i ta tb _ _ _ _ _ _ _
   split at h
   ·rename_i hstr
    simp only [Bool.and_eq_true] at hstr
    obtain ⟨sa,hsa⟩:=qcM (ρ:=ρ) hstr.1
    obtain ⟨sb,hsb⟩:=qcM (ρ:=ρ) hstr.2
    simp only [SV.den,hsa,hsb] at hex hey
    split at h
    ·simp only [Option.some.injEq] at h; subst h
     refine qi.quiet hs ?_
     simp only [execOp,hop,hex,hey,Sem.run_bind,qef,qyy,Result.andThen_ok,Sem.run_pure,SV.den,T.den,O1.den,O2.den,hsa,hsb,qaK]
    ·simp only [Option.some.injEq] at h; subst h
     refine qi.quiet hs ?_
     simp only [execOp,hop,hex,hey,Sem.run_bind,qef,qxB,Result.andThen_ok,Sem.run_pure,SV.den,qf7,T.den,O1.den,O2.den,hsa,hsb,qaK]
    ·simp only [Option.some.injEq] at h; subst h
     refine qi.quiet hs ?_
     simp only [execOp,hop,hex,hey,Sem.run_bind,qef,qyh,Result.andThen_ok,Sem.run_pure,SV.den,T.den,O1.den,O2.den,hsa,hsb,qaK]
    ·simp only [Option.some.injEq] at h; subst h
     have hle:=hn _ (List.mem_singleton.2 rfl)
     rw [qE _ _ _ (by simp)] at hle
     simp only [qH,qaF,qeA,hsa,hsb,T.den,O0.den,decide_eq_true_eq] at hle
     refine qi.quiet hs ?_
     simp only [execOp,hop,hex,hey,Sem.run_bind,qef,qya hle,Result.andThen_ok,Sem.run_pure,SV.den,q1E hstr.1 hstr.2,hsa,hsb]
    ·simp at h
   ·simp at h
  ·simp at h
 ·simp at h

theorem q48 {op:UnOp} {t:TypeId} {x:Operand} (hs:Holds ρ hF s a w) (hop:o.op = .unOp op t x) (h:qp P s o = some r):qi P ρ hF s a w o r:=by
 simp only [qp,hop] at h
 split at h
 ·rename_i t' hx
  have hev:=hs.opd hx
  simp only [Option.some.injEq] at h; subst h
  refine qi.quiet hs ?_
  simp only [SV.den,T.den,O1.den] at hev ⊢
  simp [execOp,hop,hev,Op.unary,qf7]
 ·rename_i k t' hx
  have hev:=hs.opd hx
  simp only [Option.some.injEq] at h; subst h
  refine qi.quiet hs ?_
  simp only [SV.den,T.den,O1.den] at hev ⊢
  simp [execOp,hop,hev,Op.unary,Op.intArith,qdd,qe,T.den,O0.den]
 ·rename_i k t' hx
  have hev:=hs.opd hx
  simp only [Option.some.injEq] at h; subst h
  refine qi.quiet hs ?_
  simp only [SV.den,T.den,O1.den] at hev ⊢
  simp [execOp,hop,hev,Op.unary,Op.intBits,qdd,qe,T.den,O0.den]
 ·simp at h

theorem qvG {x:Operand} {i:Nat} (hs:Holds ρ hF s a w) (hop:o.op = .extract x i) (h:qp P s o = some r):qi P ρ hF s a w o r:=by
 simp only [qp,hop] at h
 split at h
 ·rename_i vs hx
  have hev:=hs.opd hx
  split at h
  ·rename_i ts hi
   simp only [Option.some.injEq] at h; subst h
   refine qi.quiet hs ?_
   simp only [SV.den] at hev ⊢
   simp [execOp,hop,hev,Instr.extract,hi,qeQ]
  ·rename_i t' hi
   simp only [Option.some.injEq] at h; subst h
   refine qi.quiet hs ?_
   simp only [SV.den] at hev ⊢
   simp [execOp,hop,hev,Instr.extract,hi,qeQ,qc]
  ·simp at h
 ·simp at h

theorem qi0:∀ {vs:List SV} {ts:List T},qdr vs = some ts->vs.map (SV.den ρ) = qc ρ ts
 | [],ts,h=>by simp only [qdr,Option.some.injEq] at h; subst h; rfl
 | .one t :: r,ts,h=>by
  simp only [qdr,Option.map_eq_some_iff] at h
  obtain ⟨ts',h1,rfl⟩:=h
  have:=qi0 h1
  simp only [List.map_cons,this,qc,SV.den]
 | .agg _ :: r,ts,h=>by simp [qdr] at h
 | .tup _ :: r,ts,h=>by simp [qdr] at h
 | .fn _ _ _ :: r,ts,h=>by simp [qdr] at h

theorem qtT {fn:Fn} {first captured:Array Operand} (hs:Holds ρ hF s a w) (hop:o.op = .makeFunc fn first captured) (h:qp P s o = some r):qi P ρ hF s a w o r:=by
 simp only [qp,hop] at h
 split at h
 ·rename_i x y hx hy
  simp only [Option.bind_eq_some_iff] at hx hy
  obtain ⟨vx,hx1,hx2⟩:=hx
  obtain ⟨vy,hy1,hy2⟩:=hy
  simp only [Option.some.injEq] at h; subst h
  refine qi.quiet hs ?_
  have ex:=hs.opds hx1
  have ey:=hs.opds hy1
  rw [qi0 hx2] at ex
  rw [qi0 hy2] at ey
  simp only [SV.den]
  simp only [execOp,hop,Instr.makeFunc,Sem.run_bind,Sem.run_pure,Result.andThen_ok]
  rw [<- ex,<- ey]
  congr 3
  ·apply Array.ext'; simp
  ·apply Array.ext'; simp
 ·simp at h

theorem q72 {args:Array Operand} {tys:Array TypeId} (hs:Holds ρ hF s a w) (hop:o.op = .call { callee:=.builtin .len,args,argTypes:=tys }) (h:qp P s o = some r) (hn:∀ c ∈ r.needs,(c.den ρ).b = true):qi P ρ hF s a w o r:=by
 simp only [qp,hop] at h
 split at h
 ·rename_i el x ht ha
  simp only [Option.bind_eq_some_iff] at ht
  obtain ⟨t,ht0,htu⟩:=ht
  have hargs:args = #[x]:=by apply Array.ext'; simpa using ha
  split at h
  ·rename_i rg p off len cap hx
   have hev:=hs.opd hx
   simp only [Option.some.injEq] at h; subst h
   have h0:=qv (hn _ (List.mem_singleton.2 rfl))
   refine qi.quiet hs ?_
   simp only [SV.den,T.den,O1.den,O3.den] at hev ⊢
   have:((len.den ρ).i.toNat:Int) = (len.den ρ).i:=by omega
   simp [execOp,hop,resolve,invoke,builtin,Builtin.len_,hargs,ht0,qt htu,hev,goInt]
   omega
  ·rename_i hx
   have hev:=hs.opd hx
   simp only [Option.some.injEq] at h; subst h
   refine qi.quiet hs ?_
   simp only [SV.den,T.den,O0.den,O1.den] at hev ⊢
   simp [execOp,hop,resolve,invoke,builtin,Builtin.len_,hargs,ht0,qt htu,hev,goInt]
  ·simp at h
 ·rename_i x ht ha
  simp only [Option.bind_eq_some_iff] at ht
  obtain ⟨t,ht0,htu⟩:=ht
  have hargs:args = #[x]:=by apply Array.ext'; simpa using ha
  split at h
  ·rename_i u hx
   split at h
   ·rename_i hu
    have hev:=hs.opd hx
    simp only [Option.some.injEq] at h; subst h
    obtain ⟨su,hsu⟩:=qcM (ρ:=ρ) hu
    refine qi.quiet hs ?_
    simp only [SV.den,hsu] at hev
    have hz:((qbR u).den ρ).i = (su.size:Int):=by
     rw [qeA,hsu]; simp [qaK,qf8]
    simp only [SV.den,T.den,O1.den,hz]
    simp [execOp,hop,resolve,invoke,builtin,Builtin.len_,hargs,ht0,qt htu,hev,goInt]
   ·simp at h
  ·simp at h
 ·simp at h

theorem q5w {args:Array Operand} {tys:Array TypeId} (hs:Holds ρ hF s a w) (hop:o.op = .call { callee:=.builtin .cap,args,argTypes:=tys }) (h:qp P s o = some r) (hn:∀ c ∈ r.needs,(c.den ρ).b = true):qi P ρ hF s a w o r:=by
 simp only [qp,hop] at h
 split at h
 ·rename_i el x ht ha
  simp only [Option.bind_eq_some_iff] at ht
  obtain ⟨t,ht0,htu⟩:=ht
  have hargs:args = #[x]:=by apply Array.ext'; simpa using ha
  split at h
  ·rename_i rg p off len cap hx
   have hev:=hs.opd hx
   simp only [Option.some.injEq] at h; subst h
   have h0:=qv (hn _ (List.mem_singleton.2 rfl))
   refine qi.quiet hs ?_
   simp only [SV.den,T.den,O1.den,O3.den] at hev ⊢
   have:((cap.den ρ).i.toNat:Int) = (cap.den ρ).i:=by omega
   simp [execOp,hop,resolve,invoke,builtin,Builtin.cap_,hargs,ht0,qt htu,hev,goInt]
   omega
  ·rename_i hx
   have hev:=hs.opd hx
   simp only [Option.some.injEq] at h; subst h
   refine qi.quiet hs ?_
   simp only [SV.den,T.den,O0.den,O1.den] at hev ⊢
   simp [execOp,hop,resolve,invoke,builtin,Builtin.cap_,hargs,ht0,qt htu,hev,goInt]
  ·simp at h
 ·simp at h

theorem qne:∀ {ts:List T},qlm ts = true->∃ zs:List Bool,qc ρ ts = zs.map Value.bool
 | [],_=>⟨[],rfl⟩
 | t :: l,h=>by
  unfold qlm at h
  split at h
  ·rename_i heq; cases heq
  ·rename_i x l' heq
   injection heq with h1 h2
   subst h1 h2
   obtain ⟨zs,hz⟩:=qne h
   exact ⟨(x.den ρ).b :: zs,by simp only [qc,List.map_cons] at hz ⊢; rw [hz]; rfl⟩
  ·cases h
theorem q1N {t:TypeId} {x i:Operand} (hs:Holds ρ hF s a w) (hop:o.op = .index t x i) (h:qp P s o = some r) (hn:∀ c ∈ r.needs,(c.den ρ).b = true):qi P ρ hF s a w o r:=by
 simp only [qp,hop] at h
 split at h
 ·rename_i u k j htu hx hi
  split at h
  ·rename_i hu
   have hev:=hs.opd hx
   have hei:=hs.opd hi
   simp only [Option.some.injEq] at h; subst h
   obtain ⟨su,hsu⟩:=qcM (ρ:=ρ) hu
   have h0:=qv (hn _ (List.mem_cons_self ..))
   have h1:=hn _ (List.mem_cons_of_mem _ (List.mem_singleton.2 rfl))
   rw [qE _ _ _ (by simp)] at h1
   simp only [qH,qeA,hsu,decide_eq_true_eq] at h1
   refine qi.quiet hs ?_
   simp only [SV.den,T.den,O1.den,hsu] at hev hei
   have hl:(j.den ρ).i.toNat < (qaK (.string su)).length:=by omega
   have hlz:(j.den ρ).i.toNat < su.size:=by simpa [qaK,qf8] using hl
   have hg:su[(j.den ρ).i.toNat]? = some ((qaK (.string su))[(j.den ρ).i.toNat]'hl):=by
    rw [getElem?_pos su _ hlz]
    simp only [qaK,qf8,Array.getElem_toList]
    rfl
   simp only [SV.den,T.den,O1.den,O2.den,hsu,List.getElem?_eq_getElem hl,Option.getD_some]
   simp only [execOp,hop,Sem.run_bind,hev,hei,Instr.index,asIntOf,Sem.run_pure,Result.andThen_ok,qt htu,if_pos h0,hg]
  ·simp at h
 ·rename_i n el ts k j htu hx hi
  have hev:=hs.opd hx
  have hei:=hs.opd hi
  simp only [SV.den,T.den,O1.den] at hev hei
  unfold qu0 at h
  split at h
  ·rename_i hsz hag
   split at h
   ·rename_i hl
    have hl:=Nat.eq_of_beq_eq_true hl
    have hrun:∀ (z:Int) (v:Value),(j.den ρ).i = z->0 <= z->z < n->(qc ρ ts)[z.toNat]? = some v->(execOp a.eval o).run P w = .ok (.value v) w:=fun z v hz z0 z1 hv=>by
     have hcond:0 <= z/\z < (n:Int):=⟨z0,z1⟩
     have ha:(isAgg el).run P w = .ok false w:=qf3 hag w
     simp only [execOp,hop,Sem.run_bind,hev,hei,hz,Instr.index,asIntOf,Sem.run_pure,Result.andThen_ok,qt htu,if_pos hcond,qa8 hsz,part,ha,Nat.mul_one,Bool.false_eq_true,if_false,List.getElem?_toArray,hv]
    split at h
    ·rename_i z hz
     have hz':=qcN (ρ:=ρ) hz
     split at h
     ·rename_i hzc
      simp only [Option.map_eq_some_iff] at h
      obtain ⟨t',ht',rfl⟩:=h
      refine qi.quiet hs ?_
      exact hrun z _ hz' hzc.1 hzc.2 (by simp [qc,ht',SV.den])
     ·simp at h
    ·split at h
     ·rename_i k0 _
      split at h
      ·rename_i hall
       simp only [Option.some.injEq] at h; subst h
       have h0:=qv (hn _ (List.mem_cons_self ..))
       have h1:=hn _ (List.mem_cons_of_mem _ (List.mem_singleton.2 rfl))
       rw [qE _ _ _ (by simp)] at h1
       have h1:(j.den ρ).i < (n:Int):=of_decide_eq_true h1
       obtain ⟨zs,hzs⟩:=qgE (ρ:=ρ) hall
       refine qi.quiet hs ?_
       have hzl:zs.length = n:=by
        have hq:=congrArg List.length hzs
        rw [qc,List.length_map,List.length_map,hl] at hq
        exact hq.symm
       have hget:zs[(j.den ρ).i.toNat]? = some (zs[(j.den ρ).i.toNat]'(by omega)):=List.getElem?_eq_getElem (by omega)
       have hcell:((T.c2 (.xint 0) (T.row ts) j).den ρ).i = zs[(j.den ρ).i.toNat]'(by omega):=by
        simp only [T.den,O2.den,qa,qmL,hzs,Nat.add_zero,List.getElem?_map,hget,Option.map_some,Option.getD_some,qag]
       refine hrun _ _ rfl h0 h1 ?_
       simp only [SV.den,T.den,O1.den] at hcell ⊢
       rw [hcell,hzs,List.getElem?_map,hget]
       rfl
      ·simp at h
     ·split at h
      ·rename_i hall
       simp only [Option.some.injEq] at h; subst h
       have h0:=qv (hn _ (List.mem_cons_self ..))
       have h1:=hn _ (List.mem_cons_of_mem _ (List.mem_singleton.2 rfl))
       rw [qE _ _ _ (by simp)] at h1
       have h1:(j.den ρ).i < (n:Int):=of_decide_eq_true h1
       obtain ⟨zs,hzs⟩:=qne (ρ:=ρ) hall
       refine qi.quiet hs ?_
       have hzl:zs.length = n:=by
        have hq:=congrArg List.length hzs
        rw [qc,List.length_map,List.length_map,hl] at hq
        exact hq.symm
       have hget:zs[(j.den ρ).i.toNat]? = some (zs[(j.den ρ).i.toNat]'(by omega)):=List.getElem?_eq_getElem (by omega)
       have hcell:((T.c2 (.xbool 0) (T.row ts) j).den ρ).b = zs[(j.den ρ).i.toNat]'(by omega):=by
        simp only [T.den,O2.den,qap,qmL,hzs,Nat.add_zero,List.getElem?_map,hget,Option.map_some,Option.getD_some]
        rfl
       refine hrun _ _ rfl h0 h1 ?_
       simp only [SV.den,T.den,O1.den] at hcell ⊢
       rw [hcell,hzs,List.getElem?_map,hget]
       rfl
      ·simp at h
   ·simp at h
  ·simp at h
 ·simp at h

theorem q53 {args:Array Operand} {tys:Array TypeId} (hs:Holds ρ hF s a w) (hop:o.op = .call { callee:=.builtin .min,args,argTypes:=tys }) (h:qp P s o = some r):qi P ρ hF s a w o r:=by
 simp only [qp,hop] at h
 split at h
 ·rename_i k x k' y hx
  have he:=hs.opds hx
  simp only [Option.some.injEq] at h; subst h
  refine qi.quiet hs ?_
  simp only [List.map_cons,List.map_nil,SV.den,T.den,O1.den] at he ⊢
  have hargs:args.map a.eval = #[.int k (x.den ρ).i,.int k' (y.den ρ).i]:=by apply Array.ext'; simpa using he
  simp [execOp,hop,resolve,invoke,builtin,Builtin.min_,hargs,Builtin.min2,q42]
 ·simp at h

theorem q55 {args:Array Operand} {tys:Array TypeId} (hs:Holds ρ hF s a w) (hop:o.op = .call { callee:=.builtin .max,args,argTypes:=tys }) (h:qp P s o = some r):qi P ρ hF s a w o r:=by
 simp only [qp,hop] at h
 split at h
 ·rename_i k x k' y hx
  have he:=hs.opds hx
  simp only [Option.some.injEq] at h; subst h
  refine qi.quiet hs ?_
  simp only [List.map_cons,List.map_nil,SV.den,T.den,O1.den] at he ⊢
  have hargs:args.map a.eval = #[.int k (x.den ρ).i,.int k' (y.den ρ).i]:=by apply Array.ext'; simpa using he
  simp [execOp,hop,resolve,invoke,builtin,Builtin.max_,hargs,Builtin.max2,q3s]
 ·simp at h

theorem qw8 {n:Nat} {l vs:List T} {i:Nat} (h:l.all (T.inB n) = true) (h':vs.all (T.inB n) = true):(qdp l i vs).all (T.inB n) = true:=by
 rw [List.all_eq_true] at *
 intro x hx
 unfold qdp at hx
 rcases List.mem_append.1 hx with hx | hx
 ·rcases List.mem_append.1 hx with hx | hx
  ·exact h x (List.mem_of_mem_take hx)
  ·exact h' x hx
 ·exact h x (List.mem_of_mem_drop hx)

theorem qnZ (off:Nat):∀ (l:List Value) (k:Nat) (cells:Array Value),off + k + l.length <= cells.size ->
  let r:=(l.zipIdx k).foldl (fun (cs:Array Value) (x:Value × Nat)=>cs.setIfInBounds (off + x.2) x.1) cells
  r.size = cells.size/\∀ j,r[j]? = if off + k <= j/\j < off + k + l.length then l[j - (off + k)]? else cells[j]?
 | [],k,cells,_=>⟨rfl,fun j=>by rw [if_neg (by simp)]; rfl⟩
 | v :: l,k,cells,h=>by
  simp only [List.length_cons] at h
  have ih:=qnZ off l (k + 1) (cells.setIfInBounds (off + k) v) (by simp only [Array.size_setIfInBounds]; omega)
  simp only [List.zipIdx_cons,List.foldl_cons] at ih ⊢
  refine ⟨by simpa using ih.1,fun j=>?_⟩
  rw [ih.2 j]
  simp only [List.length_cons]
  by_cases hj:j = off + k
  ·subst hj
   rw [if_neg (by omega),if_pos (by omega)]
   have:off + k < cells.size:=by omega
   simp [this]
  ·by_cases hin:off + (k + 1) <= j/\j < off + (k + 1) + l.length
   ·rw [if_pos hin,if_pos (by omega),show j - (off + k) = (j - (off + (k + 1))) + 1 from by omega,List.getElem?_cons_succ]
   ·rw [if_neg hin,if_neg (by omega),Array.getElem?_setIfInBounds_ne (fun h=>hj h.symm)]

theorem qrS (off:Nat) (l:List Value) (cells:List Value) (h:off + l.length <= cells.length) :
  l.toArray.zipIdx.foldl (fun (cs:Array Value) (x:Value × Nat)=>cs.setIfInBounds (off + x.2) x.1) cells.toArray = (qaq cells off l).toArray:=by
 have:=qnZ off l 0 cells.toArray (by simpa using h)
 simp only [Nat.add_zero] at this
 have e:l.toArray.zipIdx.foldl (fun (cs:Array Value) (x:Value × Nat)=>cs.setIfInBounds (off + x.2) x.1) cells.toArray =
   (l.zipIdx 0).foldl (fun (cs:Array Value) (x:Value × Nat)=>cs.setIfInBounds (off + x.2) x.1) cells.toArray:=by
  rw [<- Array.foldl_toList]; simp
 rw [e]
 apply Array.ext_getElem?
 intro j
 rw [this.2 j]
 simp only [List.getElem?_toArray]
 rw [qd4 h]

def qo9 (ρ:Env):List (Nat × List T)->List (Nat × Value)->Prop
 | [],[]=>True
 | (i,ts) :: r,(j,v) :: r'=>i = j/\v.cells = (qc ρ ts).toArray/\qo9 ρ r r'
 | _,_=>False

theorem qj9 {pl:Nat->Option (Nat × Nat)}:∀ {ps:List (Nat × List T)} {vs:List (Nat × Value)} {z cs:List T},qo9 ρ ps vs->qhD pl z ps = some cs ->
  Instr.fill pl (qc ρ z).toArray vs = some (qc ρ cs).toArray
 | [],[],z,cs,_,h=>by simp only [qhD,Option.some.injEq] at h; subst h; rfl
 | (i,ts) :: r,(j,v) :: r',z,cs,hd,h=>by
  obtain ⟨rfl,hv,hr⟩:=hd
  simp only [qhD] at h
  split at h
  ·simp at h
  ·rename_i off size hpl
   split at h
   ·rename_i hc
    simp only [Bool.and_eq_true,Nat.ble_eq] at hc
    have hsz:=Nat.eq_of_beq_eq_true hc.1
    have hl:(qc ρ ts).length = ts.length:=by simp [qc]
    have hl2:(qc ρ z).length = z.length:=by simp [qc]
    simp only [Instr.fill,hpl,hv]
    rw [if_neg]
    ·have:=qj9 (pl:=pl) (z:=qdp z off ts) hr h
     rw [qhm] at this
     rw [<- this]
     congr 1
     exact qrS off _ _ (by rw [hl,hl2]; exact hc.2)
    ·simp [hl,hl2,hsz]
     omega
   ·simp at h
 | [],_ :: _,_,_,hd,_=>hd.elim
 | _ :: _,[],_,_,hd,_=>hd.elim

theorem qkR (hs:Holds ρ hF s a w):∀ {l:List (Nat × Operand)} {ps:List (Nat × List T)},qfP s l = some ps->qo9 ρ ps (l.map fun x=>(x.1,a.eval x.2))
 | [],ps,h=>by simp only [qfP,Option.some.injEq] at h; subst h; trivial
 | (i,x) :: r,ps,h=>by
  simp only [qfP] at h
  split at h
  ·rename_i cs l' hc hl
   simp only [Option.some.injEq] at h; subst h
   simp only [Option.bind_eq_some_iff] at hc
   obtain ⟨v,hv,hcs⟩:=hc
   exact ⟨rfl,by rw [hs.opd hv]; exact qi8 hs.gd hcs,qkR hs hl⟩
  ·simp at h

theorem ql3:∀ {fs:List Field} {l:List (Nat × Nat)},qiv P fs = some l->fs.mapM (fun f=>(P.info? f.type).map fun i=>(f.offset,i.size)) = some l
 | [],l,h=>by simp only [qiv,Option.some.injEq] at h; subst h; rfl
 | f :: fs,l,h=>by
  simp only [qiv] at h
  split at h
  ·rename_i i l' hi hl
   simp only [Option.some.injEq] at h; subst h
   simp [List.mapM_cons,hi,ql3 hl]
  ·simp at h

theorem qdu {t:TypeId} {cs:List T} (h:qbM P t = some cs):∃ i v,P.info? t = some i/\i.zero = some v/\v.cells = (qc ρ cs).toArray:=by
 unfold qbM at h
 split at h
 ·rename_i v hv
  simp only [Option.bind_eq_some_iff] at hv
  obtain ⟨i,hi,hz⟩:=hv
  exact ⟨i,v,hi,hz,by rw [qgY h]⟩
 ·simp at h

theorem qzK {t:TypeId} {parts:Array (Nat × Operand)} (hs:Holds ρ hF s a w) (hop:o.op = .build t parts) (h:qp P s o = some r):qi P ρ hF s a w o r:=by
 simp only [qp,hop] at h
 split at h
 ·rename_i z pl ps hz hpl hps
  simp only [Option.map_eq_some_iff] at h
  obtain ⟨cs,hfill,rfl⟩:=h
  refine qi.quiet hs ?_
  obtain ⟨i,v,hi,hiz,hzc⟩:=qdu (ρ:=ρ) hz
  have hfs:=qj9 (qkR hs hps) hfill
  have hb:P.built t (parts.map fun x=>(x.1,a.eval x.2)).toList = some (qc ρ cs).toArray:=by
   rw [Array.toList_map]
   unfold q4E at hpl
   unfold Program.built
   split at hpl
   ·rename_i fs hu
    simp only [Option.map_eq_some_iff] at hpl
    obtain ⟨l,hl,rfl⟩:=hpl
    simp only [hi,hu,hiz,ql3 hl,hzc]
    simpa using hfs
   ·rename_i n e hu
    simp only [Option.map_eq_some_iff,qN] at hpl
    obtain ⟨n',⟨ie,hie,rfl⟩,rfl⟩:=hpl
    simp only [hi,hu,hiz,hie,hzc]
    exact hfs
   ·simp at hpl
  simp only [SV.den]
  simp only [execOp,hop,Sem.run_bind,run_build w t _ _ hb,Result.andThen_ok,Sem.run_pure]
 ·simp at h

theorem qol (z:List T):∀ n,(qbE z n).length = n * z.length
 | 0=>by simp [qbE]
 | n + 1=>by simp [qbE,qol z n,Nat.add_mul]; omega

theorem qnI (z:List Value) (hz:0 < z.length):∀ (n j:Nat) (l:List T),qc ρ l = z->j < n * z.length->(qc ρ (qbE l n))[j]? = z[j % z.length]?
 | 0,j,l,_,hj=>by simp at hj
 | n + 1,j,l,hl,hj=>by
  have hd:qc ρ (qbE l (n + 1)) = z ++ qc ρ (qbE l n):=by simp only [qbE,qc,List.map_append] at hl ⊢; rw [hl]
  rw [hd]
  by_cases h:j < z.length
  ·rw [List.getElem?_append_left h,Nat.mod_eq_of_lt h]
  ·rw [List.getElem?_append_right (by omega),qnI z hz n (j - z.length) l hl (by rw [Nat.add_mul] at hj; omega)]
   rw [Nat.mod_eq_sub_mod (Nat.le_of_not_lt h)]

theorem qqq {n:Nat} {z:List T} (h:z.all (T.inB n) = true):∀ m,(qbE z m).all (T.inB n) = true
 | 0=>rfl
 | m + 1=>by simp [qbE,List.all_append,h,qqq h m]

theorem qu1 {n:Nat} {pl:Nat->Option (Nat × Nat)}:∀ {ps:List (Nat × List T)} {z cs:List T},z.all (T.inB n) = true->(∀ x ∈ ps,x.2.all (T.inB n) = true)->qhD pl z ps = some cs->cs.all (T.inB n) = true
 | [],z,cs,hz,_,h=>by simp only [qhD,Option.some.injEq] at h; subst h; exact hz
 | (i,ts) :: r,z,cs,hz,hp,h=>by
  simp only [qhD] at h
  split at h
  ·simp at h
  ·split at h
   ·exact qu1 (qw8 hz (hp _ (List.mem_cons_self ..))) (fun x hx=>hp x (List.mem_cons_of_mem _ hx)) h
   ·simp at h

theorem qtz (hsc:s.scopedEH = true):∀ {l:List (Nat × Operand)} {ps:List (Nat × List T)},qfP s l = some ps->∀ x ∈ ps,x.2.all (T.inB s.nx) = true
 | [],ps,h,x,hx=>by simp only [qfP,Option.some.injEq] at h; subst h; cases hx
 | (i,y) :: r,ps,h,x,hx=>by
  simp only [qfP] at h
  split at h
  ·rename_i cs l' hc hl
   simp only [Option.some.injEq] at h; subst h
   simp only [Option.bind_eq_some_iff] at hc
   obtain ⟨v,hv,hcs⟩:=hc
   cases hx with
   | head=>exact quO hcs (qmI hsc hv)
   | tail _ hx=>exact qtz hsc hl x hx
  ·simp at h

theorem qli {t:TypeId} {cs:List T} {n:Nat} (h:qbM P t = some cs):cs.all (T.inB n) = true:=by
 unfold qbM at h
 split at h
 ·exact qkH h
 ·simp at h

theorem qqW {t:TypeId} {len:Nat} {parts:Array (Nat × Operand)} (hs:Holds ρ hF s a w) (hop:o.op = .buildSlice t len parts) (hsc:s.scopedEH = true) (h:qp P s o = some r):qi P ρ hF s a w o r:=by
 simp only [qp,hop] at h
 split at h
 ·rename_i el hu
  split at h
  ·rename_i z n ps hz hn hps
   split at h
   ·rename_i hc
    simp only [Bool.and_eq_true,Nat.ble_eq,Nat.blt_eq] at hc
    have hzl:=Nat.eq_of_beq_eq_true hc.1.1
    split at h
    ·rename_i cs hfill
     simp only [Option.some.injEq] at h; subst h
     obtain ⟨i,v,hi,hiz,hzc⟩:=qdu (ρ:=ρ) hz
     have hin:i.size = n:=by simpa [qN,hi] using hn
     have hfs:=qj9 (qkR hs hps) hfill
     have hcin:cs.all (T.inB s.nx) = true:=qu1 (qqq (qli hz) len) (qtz hsc hps) hfill
     have hg:qc (ρ.set s.nx { r:=some ⟨w.heap.size,0,none⟩ }) cs = qc ρ cs:=qbh (fun m hm=>Env.set_ne ρ _ (by omega)) cs hcin
     have hsh:s.heap.all (SH.inB s.nx) = true:=by simp only [S.scopedEH,Bool.and_eq_true] at hsc; exact hsc.2
     have hdl:(qc ρ z).length = n:=by simp [qc,hzl]
     have hzero:(Array.range (len * n)).map (fun x=>(qc ρ z).toArray[x % (qc ρ z).toArray.size]!) = (qc ρ (qbE z len)).toArray:=by
      apply Array.ext_getElem?
      intro j
      by_cases hj:j < len * n
      ·have:=qnI (ρ:=ρ) (qc ρ z) (by rw [hdl]; exact hc.1.2) len j z rfl (by rw [hdl]; exact hj)
       rw [show (qc ρ (qbE z len)).toArray[j]? = (qc ρ (qbE z len))[j]? from List.getElem?_toArray,this,hdl]
       have hm:j % n < (qc ρ z).length:=by rw [hdl]; exact Nat.mod_lt _ hc.1.2
       simp [hj,hdl,List.getElem?_eq_getElem hm]
      ·rw [Array.getElem?_eq_none (by simp; omega),Array.getElem?_eq_none (by simp [qc,qol,hzl]; omega)]
     refine ⟨[{ r:=some ⟨w.heap.size,0,none⟩ }],_,rfl,by simp [U.good,Value.oneCell'],qs.alloc hs.hp hsh (c:=(qc ρ cs).toArray) (by rw [hg]),?_,fun h=>by cases h⟩
     have hv:SV.den (ρ.set s.nx { r:=some ⟨w.heap.size,0,none⟩ }) (.one (.vslice s.nx (.lit 0) (.lit len) (.lit len) n)) = .slice (some ⟨w.heap.size,0,none⟩) len len:=by
      simp [SV.den,T.den,O0.den,O3.den,qm]
     simp only [Ran,qq,hv]
     have hparts:(parts.map fun x=>(x.1,a.eval x.2)).toList = parts.toList.map fun x=>(x.1,a.eval x.2):=Array.toList_map ..
     by_cases h0:len * n = 0
     ·have hl0:len = 0:=by rcases Nat.mul_eq_zero.1 h0 with h | h; exact h; omega
      subst hl0
      have hz0:(qc ρ (qbE z 0)).toArray = #[]:=rfl
      rw [hz0] at hfs
      have hfs2:Instr.fill (fun i=>some (i * n,n)) (Array.map (fun _=>(default:Value)) (Array.range 0)) (List.map (fun x=>(x.fst,a.eval x.snd)) parts.toList) = some (qc ρ cs).toArray:=by rw [show (Array.map (fun _=>(default:Value)) (Array.range 0)) = #[] from by simp]; exact hfs
      simp [execOp,hop,Instr.buildSlice,qt hu,sizeOf,typeInfo,hi,hin,newRow,hfs2]
     ·have hrun:=run_buildSlice (P:=P) w t el len (parts.map fun x=>(x.1,a.eval x.2)) (qc ρ cs).toArray i v hu hi hiz (by rw [hin]; have:=hc.2; omega) (by rw [hin]; exact h0)
       (by rw [hin,hzc,hparts]; rw [hzero]; exact hfs)
      simp only [execOp,hop,Sem.run_bind,Result.andThen_ok,Sem.run_pure]
      rw [show (parts.map fun x=>(x.1,a.eval x.2)) = (parts.map fun (i,x)=>(i,a.eval x)) from rfl] at hrun
      rw [hrun]
      rfl
    ·simp at h
   ·simp at h
  ·simp at h
 ·simp at h

end Go.Eng
