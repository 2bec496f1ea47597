/- Texts E9, E10, E10b, E11, E12, DA, DB, E15, E16, E17, DD, ZA, ZB, ZL, ZF. -/
import Derived.Test.YtelcnkclppkicaaGreatDoorG3
import Derived.Test.YtelcnkclppkicaaGreatDoorG1
import Derived.OrdersHeld
set_option linter.unusedSimpArgs false
set_option linter.unusedVariables false
namespace Go.Eng
open Go
variable {P:Program} {Z:Env} {hF:Fr} {s:S} {a:Act} {w:World}
theorem T.den_congrS {p:Nat->Bool} {Z Z':Env} (h:∀ m,p m = true->Z m = Z' m):∀ (t:T),t.inS p = true->t.den Z = t.den Z'
 | .var m,hb=>by simp [T.inS] at hb; simpa [T.den] using h m hb
 | .c0 o,hb=>by
  cases o <;> simp_all [T.inS,T.den,O0.den]
 | .c1 o a,hb=>by
  cases o <;> (simp only [T.inS,jag] at hb) <;>
   first
    | (simp only [T.den]; rw [T.den_congrS h a hb]; rfl)
    | (simp only [T.den]; rw [T.den_congrS h a hb.2]; simp [O1.den,h _ hb.1])
 | .c2 o a b,hb=>by
  simp only [T.inS,jag] at hb;simp only [T.den]; rw [T.den_congrS h a hb.1,T.den_congrS h b hb.2]
 | .c3 o a b c,hb=>by
  cases o <;> (simp only [T.inS,jag] at hb)
  ·simp only [T.den]; rw [T.den_congrS h a hb.1.1.2,T.den_congrS h b hb.1.2,T.den_congrS h c hb.2]; simp [O3.den,h _ hb.1.1.1]
  all_goals (simp only [T.den]; rw [T.den_congrS h a hb.1.1,T.den_congrS h b hb.1.2,T.den_congrS h c hb.2]; rfl)
 | .ife a b x y,hb=>by
  simp only [T.inS,jag] at hb;simp only [T.den]; rw [T.den_congrS h a hb.1.1.1,T.den_congrS h b hb.1.1.2,T.den_congrS h x hb.1.2,T.den_congrS h y hb.2]
theorem qeq {p:Nat->Bool} {Z Z':Env} (h:∀ m,p m = true->Z m = Z' m) (ts:List T) (hb:ts.all (T.inS p) = true):qd Z ts = qd Z' ts:=by
 unfold qd;refine jbw fun t ht=>?_
 rw [T.den_congrS h t (ja3.1 hb t ht)]
theorem SV.den_congrS {p:Nat->Bool} {Z Z':Env} (h:∀ m,p m = true->Z m = Z' m) (v:SV) (hb:v.inS p = true):v.den Z = v.den Z':=by
 cases v with
 | one t=>simp only [SV.inS] at hb; simp only [SV.den]; rw [T.den_congrS h t hb]
 | agg ts=>simp only [SV.inS] at hb; simp only [SV.den]; rw [qeq h ts hb]
 | tup vs =>
  simp only [SV.inS] at hb; simp only [SV.den]
  congr 2
  refine jbw fun x hx=>?_
  have:=ja3.1 hb x hx;obtain ⟨g,ts⟩:=x;cases g <;> simp only [qeS] <;> rw [qeq h ts this]
 | fn f a b =>
  simp only [SV.inS,jag] at hb; simp only [SV.den];rw [qeq h a hb.1,qeq h b hb.2]
theorem SH.den_congrS {p:Nat->Bool} {Z Z':Env} (h:∀ m,p m = true->Z m = Z' m) (x:SH) (hb:x.inS p = true) (hp:Hp):x.den Z hp↔x.den Z' hp:=by
 cases x with
 | cells r ty cs=>simp only [SH.inS,jag] at hb; simp only [SH.den]; rw [qeq h cs hb.2,h r hb.1]
 | arr r ty pat d cap =>
  simp only [SH.inS,jag] at hb; simp only [SH.den];rw [T.den_congrS h d hb.1.2,T.den_congrS h cap hb.2,h r hb.1.1]
 | abs m t=>simp only [SH.inS] at hb; simp only [SH.den]; rw [h m hb]
theorem qks {p:Nat->Bool} {Z Z':Env} (h:∀ m,p m = true->Z m = Z' m):∀ (l:List SH),l.all (SH.inS p) = true->∀ hp,qac Z l hp->qac Z' l hp
 | [],_,_,_=>trivial
 | x :: xs,hb,hp,⟨h1,h2,hd,hu,hx,hs⟩=>by
  simp only [jdh,jag] at hb;exact ⟨h1,h2,hd,hu,(SH.den_congrS h x hb.1 h1).1 hx,qks h xs hb.2 h2 hs⟩
def q4O (nv k base:Nat) (Z1 Z:Env):Env:=fun n=>if n < nv then Z1 n else if n < nv + k then Z (base + (n - nv)) else {}
def Env.upto (n:Nat) (Z:Env):Env:=fun m=>if m < n then Z m else {}
def cutE (base nv:Nat) (Z:Env):Env:=fun n=>if n < 1000 then (if n < base then Z n else {}) else if n < 1000 + nv then Z n else {}
def qeU (base nv:Nat) (Z:Env):Env:=fun n=>if n < 1000 then (if n < base then Z n else {}) else if n < 1000 + nv then Z (base + (n - 1000)) else {}
def Out.den (E:Ctx):Out->Env->Prop
 | .stuck _ _ _,_=>False
 | .need c o,Z=>(c.den Z).b = true/\o.den E Z
 | .br c x y,Z=>((c.den Z).b = true->x.den E Z)/\((c.den Z).b = false->y.den E Z)
 | .fresh n o,Z=>∀ u:U,u.good->o.den E (Z.set n u)
 | .both x y,Z=>x.den E Z/\y.den E Z
 | .top,_=>True
 | .pre ci V o,Z=>(match E.ctrs[ci]? with | some c=>c.pre (V.env Z) | none=>False)/\o.den E Z
 | .post ci ai V base o,Z=>(match E.ctrs[ci]? with | some c=>(match c.alts[ai]? with | some al=>al.post (q4O c.nv al.k base (V.env Z) Z) | none=>False) | none=>False)->o.den E Z
 | .inv li base V o,Z=>(match E.invs[li]? with | some I=>I.inv (cutE base I.nv (V.env Z)) | none=>False)/\o.den E Z
 | .hyp li base o,Z=>(match E.invs[li]? with | some I=>I.inv (qeU base I.nv Z) | none=>False)->o.den E Z
 | .back li base V,Z=>match E.invs[li]? with | some I=>I.inv (cutE base I.nv (V.env Z))/\I.mu (cutE base I.nv (V.env Z)) < I.mu (qeU base I.nv Z) | none=>False
 | .cut li base V,Z=>match E.invs[li]? with | some I=>I.inv (cutE base I.nv (V.env Z)) | none=>False
 | .pack l n o,Z=>∀ u:U,u.good->qac Z l u.h->o.den E (Z.set n u)
 | .view x pat ms base o,Z=>∃ d:List (List Value),(∃ m ∈ ms,Rd (Z m).h pat (x.den Z).v d)/\∀ u0:U,u0.good->∀ u1:U,u1.good->o.den E (((Z.set base u0).set (base + 1) u1).set (base + 2) { d:=d })
 | .viewL x pat ms base o,Z=>∃ d:List (List Value),(∃ m ∈ ms,Rd (Z m).h pat (x.den Z).v d)/\∀ u0:U,u0.good->∀ u1:U,u1.good->(x.den Z).v = .slice (qn u0.r 0) d.length u1.i.toNat->(d.length:Int) <= u1.i->o.den E (((Z.set base u0).set (base + 1) u1).set (base + 2) { d:=d })
 | .know c o,Z=>(c.den Z).b = true->o.den E Z
 | .take x el pat m base o,Z=>∃ (h':Hp) (r:Option Addr) (cap:Int) (d:List (List Value)),qDF (Z m).h el pat (x.den Z).v d h' r cap/\o.den E ((((Z.set base { h:=h' }).set (base + 1) { r:=r }).set (base + 2) { i:=cap }).set (base + 3) { d:=d })
 | .put m rg pat d e c vs base o,Z=>∀ u:U,u.good->Put (Z m).h u.h (Z rg).r pat (d.den Z).d ((e.den Z).i.toNat * pat.length + c) (qd Z vs)->o.den E (Z.set base u)
 | .mop k base o1 o2,Z=>k.sem Z (fun us=>o1.den E (qq Z base us)) (fun us=>o2.den E (qq Z base us))
 | .ret ai V,Z=>match E.me.alts[ai]? with | some al=>al.post ((V.env Z).upto (E.me.nv + al.k)) | none=>False
def Ctr.ok (P:Program) (c:Ctr):Prop :=
 (∀ (args:Array Value) (w:World),(callFunc c.fn args).run P w = .ok (.enter c.fn args) w) /\
 ∀ (Z:Env) (w:World) (hF:Fr) (hO:Hp),Z.good->Hp.disj hF hO->((Hp.union hF hO).sub w/\hF.wi w)->qac Z c.heap hO->(∀ x ∈ c.ro,x.roden Z hF)->c.pre Z ->
  Calls P c.fn (c.args.map (SV.den Z)).toArray w fun e w' =>
   ∃ (ai:Nat) (al:Alt) (Z':Env),c.alts[ai]? = some al/\Z'.good/\(∀ n,n < c.nv->Z' n = Z n)/\e = .returned (al.ret.den Z')/\al.post (Z'.upto (c.nv + al.k))/\qs Z' hF al.heap w'
variable {E:Ctx}
theorem Holds.withPc (hs:Holds Z hF s a w) (pc:List (T × Bool)) (h:∀ c b,(c,b) ∈ pc->(c.den Z).b = b):Holds Z hF { s with pc:=pc } a w :=
 ⟨hs.gd,hs.nt,hs.df,hs.env,hs.ro,hs.hp,h,hs.vw⟩
theorem qkc (hs:Holds Z hF s a w) {c:T} (h:((qlF s c).den Z).b = true):(c.den Z).b = true:=by
 unfold qlF at h;split at h
 ·rename_i r
  split at h
  ·rename_i r' ty cs hf
   obtain ⟨H,_,hro,hreg⟩:=hs.found hf;simp only [SH.reg,jaa] at hreg; subst hreg;obtain ⟨b,o,c,ty',fr,h1,_⟩:=hro;simp [T.den,O0.den,O1.den,h1]
  ·rename_i r' ty pat d cap hf
   obtain ⟨H,_,hro,hreg⟩:=hs.found hf;simp only [SH.reg,jaa] at hreg; subst hreg;rw [qK _ _ _ (by simp),qaV] at h;rcases hro with h2 | ⟨b,o,c,ty',fr,h1,_⟩
   ·simp [T.den,O0.den,h2,qJ] at h
   ·simp [T.den,O0.den,O1.den,h1]
  ·exact h
 ·exact h
theorem qcn:∀ {cs:List T} {s:S} {k:S->Out},Holds Z hF s a w->(needs s cs k).den E Z ->
  (∀ c ∈ cs,(c.den Z).b = true)/\∃ pc,Holds Z hF { s with pc:=pc } a w/\(k { s with pc:=pc }).den E Z
 | [],s,k,hs,h=>⟨fun _ h=>(by cases h),s.pc,hs,h⟩
 | c :: cs,s,k,hs,h=>by
  simp only [needs] at h;split at h
  ·rename_i hk
   have hk:=qdK hs hk;obtain ⟨h1,h2⟩:=qcn hs h;exact ⟨fun c' hc'=>by
    cases hc' with
    | head=>exact qkc hs hk
    | tail _ hc'=>exact h1 c' hc',h2⟩
  ·exact h.elim
  ·obtain ⟨hc,h⟩:=h
   obtain ⟨h1,pc,h2⟩:=qcn (s:={ s with pc:=(qlF s c,true) :: s.pc })
    (hs.withPc _ fun c' b hm=>by
     cases hm with
     | head=>exact hc
     | tail _ hm=>exact hs.pc c' b hm) h
   exact ⟨fun c' hc'=>by
    cases hc' with
    | head=>exact qkc hs hc
    | tail _ hc'=>exact h1 c' hc',pc,h2⟩
theorem qyF {c c':T} {b b':Bool} (h:(c.den Z).b = b) (he:qs7 c b = (c',b')):(c'.den Z).b = b':=by
 unfold qs7 at he;split at he
 ·simp only [jau] at he
  obtain ⟨rfl,rfl⟩:=he;rw [<- h]; simp [T.den,O1.den]
 ·simp only [jau] at he
  obtain ⟨rfl,rfl⟩:=he;exact h
theorem qlq {c:T} {k:Bool->S->Out} (hs:Holds Z hF s a w) (h:(qno s c k).den E Z) :
  ∃ b pc,(c.den Z).b = b/\Holds Z hF { s with pc:=pc } a w/\(k b { s with pc:=pc }).den E Z:=by
 unfold qno at h;split at h
 ·rename_i b hk
  exact ⟨b,s.pc,qdK hs hk,hs,h⟩
 ·obtain ⟨h1,h2⟩:=h
  cases hb:(c.den Z).b with
  | true =>
   exact ⟨true,qs7 c true :: s.pc,rfl,hs.withPc _ (fun c' b hm=>by
    rcases ja9.1 hm with hm | hm
    ·exact qyF hb hm.symm
    ·exact hs.pc c' b hm),h1 hb⟩
  | false =>
   exact ⟨false,qs7 c false :: s.pc,rfl,hs.withPc _ (fun c' b hm=>by
    rcases ja9.1 hm with hm | hm
    ·exact qyF hb hm.symm
    ·exact hs.pc c' b hm),h2 hb⟩
theorem qbm (h:s.inNx = true):s.env.all (fun x=>x.2.inB s.nx) = true/\s.heap.all (SH.inB s.nx) = true/\s.ro.all (SH.inB s.nx) = true/\s.pc.all (fun x=>x.1.inB s.nx) = true:=by
 simp only [S.inNx,jag] at h;exact ⟨h.1.1.1.1,h.1.1.1.2,h.1.1.2,h.1.2⟩
theorem qC3 (h:s.inNx = true):∀ x ∈ s.vw,(∀ m ∈ x.1,m < s.nx)/\x.2.inB s.nx = true:=by
 simp only [S.inNx,jag] at h;intro x hx;have:=ja3.1 h.2 x hx;simp only [jag,ja3,jbn] at this;exact ⟨this.1,this.2⟩
theorem Holds.congr {Z':Env} (hs:Holds Z hF s a w) (hsc:s.inNx = true) (hg:Z'.good) (h:∀ m,m < s.nx->Z m = Z' m):Holds Z' hF s a w:=by
 obtain ⟨h1,h2,h3,h4⟩:=qbm hsc;refine ⟨hg,hs.nt,hs.df,fun t v hv=>?_,fun x hx=>?_,?_,fun c b hc=>?_,fun x hx=>?_⟩
 ·rw [hs.env t v hv]; exact SV.den_congr h v (qpB h1 hv)
 ·exact (SH.roden_congr h x (ja3.1 h3 x hx) hF).1 (hs.ro x hx)
 ·obtain ⟨hO,hd,hst,hsub,hwi⟩:=hs.hp
  exact ⟨hO,hd,qaA h _ h2 hO hst,hsub,hwi⟩
 ·rw [<- hs.pc c b hc]; exact congrArg U.b (T.den_congr h c (ja3.1 h4 (c,b) hc)).symm
 ·obtain ⟨m,hm,hr⟩:=hs.vw x hx
  obtain ⟨g1,g2⟩:=qC3 hsc x hx;refine ⟨m,hm,?_⟩;rw [<- h m (g1 m hm)];exact (SH.roden_congr h x.2 g2 _).1 hr
theorem qaF:∀ (us:List U) (Z:Env) (n m:Nat),m < n->qq Z n us m = Z m
 | [],Z,n,m,_=>rfl
 | u :: us,Z,n,m,h=>by
  simp only [qq];rw [qaF us _ (n + 1) m (by omega),Env.set_ne Z u (by omega)]
theorem qjW:∀ (us:List U) (Z:Env) (n:Nat),Z.good->(∀ u ∈ us,u.good)->(qq Z n us).good
 | [],Z,n,h,_=>h
 | u :: us,Z,n,h,hu=>by
  simp only [qq];refine qjW us _ _ (fun m=>?_) (fun v hv=>hu v (jad _ hv));by_cases hm:m = n
  ·subst hm; rw [Env.set_same]; exact hu u (jae ..)
  ·rw [Env.set_ne Z u hm]; exact h m
theorem qli:∀ (us:List U) (Z:Env) (n j:Nat) (u:U),us[j]? = some u->qq Z n us (n + j) = u
 | [],Z,n,j,u,h=>by simp at h
 | u' :: us,Z,n,0,u,h=>by
  simp only [jav,jaa] at h;simp only [qq,jci];rw [qaF us _ (n + 1) n (by omega),Env.set_same,h]
 | u' :: us,Z,n,j + 1,u,h=>by
  simp only [ja6] at h;simp only [qq];have:=qli us (Z.set n u') (n + 1) j u h
  rwa [show n + 1 + j = n + (j + 1) from by omega] at this
theorem qfe:∀ {us:List U} {Z:Env} {s:S} {k:S->Out},(∀ u ∈ us,u.good)->(qfM s us.length k).den E Z ->
  (us = []∨s.inNx = true)/\(k { s with nx:=s.nx + us.length }).den E (qq Z s.nx us)
 | [],Z,s,k,_,h=>⟨.inl rfl,h⟩
 | u :: us,Z,s,k,hu,h=>by
  simp only [jba,qfM] at h;split at h
  ·rename_i hsc
   have:=qfe (us:=us) (s:={ s with nx:=s.nx + 1 }) (fun v hv=>hu v (jad _ hv)) (h u (hu u (jae ..)));refine ⟨.inr hsc,?_⟩;have h2:=this.2;simp only [jba,qq]
   rwa [show s.nx + (us.length + 1) = s.nx + 1 + us.length from by omega]
  ·exact h.elim
theorem Holds.fresh {us:List U} (hs:Holds Z hF s a w) (hsc:us = []∨s.inNx = true) (hu:∀ u ∈ us,u.good) (n:Nat):Holds (qq Z s.nx us) hF { s with nx:=n } a w:=by
 rcases hsc with rfl | hsc
 ·exact ⟨hs.gd,hs.nt,hs.df,hs.env,hs.ro,hs.hp,hs.pc,hs.vw⟩
 ·have:=hs.congr hsc (qjW us Z s.nx hs.gd hu) (fun m hm=>(qaF us Z s.nx m hm).symm)
  exact ⟨this.gd,this.nt,this.df,this.env,this.ro,this.hp,this.pc,this.vw⟩
theorem qij (d:Nat) (v:SV):∀ (l:List (Nat × SV)) (t:Nat) (u:SV),qbc t (qhO d v l) = some u->(t = d/\u = v)∨(t ≠ d/\qbc t l = some u)
 | [],t,u,h=>by
  simp only [qhO,qbc] at h;split at h
  ·rename_i ht
   simp only [jaa] at h;exact .inl ⟨Nat.eq_of_beq_eq_true ht,h.symm⟩
  ·simp at h
 | (k,x) :: r,t,u,h=>by
  simp only [qhO] at h;split at h
  ·rename_i hdk
   have hdk:=Nat.eq_of_beq_eq_true hdk;simp only [qbc] at h ⊢;split at h
   ·rename_i ht
    simp only [jaa] at h;exact .inl ⟨Nat.eq_of_beq_eq_true ht,h.symm⟩
   ·rename_i ht
    have htd:t ≠ d:=fun he=>ht (by rw [he]; simp)
    refine .inr ⟨htd,?_⟩;rw [jaf (by rw [<- hdk]; exact ht)];exact h
  ·split at h
   ·simp only [qbc] at h ⊢
    split at h
    ·rename_i ht
     simp only [jaa] at h;exact .inl ⟨Nat.eq_of_beq_eq_true ht,h.symm⟩
    ·rename_i ht
     exact .inr ⟨fun he=>ht (by rw [he]; simp),h⟩
   ·simp only [qbc] at h ⊢
    split at h
    ·rename_i hdk _ ht
     have ht':=Nat.eq_of_beq_eq_true ht;exact .inr ⟨fun he=>hdk (by rw [<- he,ht']; simp),by simp [ht,h]⟩
    ·rename_i ht
     rcases qij d v r t u h with h' | h'
     ·exact .inl h'
     ·exact .inr ⟨h'.1,by rw [jaf ht]; exact h'.2⟩
theorem Holds.put {dst:Option Nat} {v:SV} {s':S} (hs:Holds Z hF s a w) (h:qcH dst (some v) s = some s'):Holds Z hF s' (a.put dst (v.den Z)) w/\s'.nx = s.nx/\s'.ro = s.ro/\s'.nt = s.nt/\s'.heap = s.heap:=by
 cases dst with
 | none =>
  simp only [qcH,jaa] at h; subst h;exact ⟨hs,rfl,rfl,rfl,rfl⟩
 | some d =>
  simp only [qcH] at h;split at h
  ·rename_i hd
   simp only [jaa] at h; subst h;simp only [jbn] at hd;have hsz:d < a.tmps.size:=jd7 hd hs.nt;refine ⟨⟨hs.gd,by simpa [Act.put] using hs.nt,hs.df,fun t u hu=>?_,hs.ro,hs.hp,hs.pc,hs.vw⟩,rfl,rfl,rfl,rfl⟩;rcases qij d v s.env t u hu with ⟨rfl,rfl⟩ | ⟨hne,hl⟩
   ·simp [Act.put,Array.getD,hsz]
   ·rw [<- hs.env t u hl]
    simp only [Act.put,jb4];rw [jdc (fun h=>hne h.symm)]
  ·simp at h
theorem qpc {dst:Option Nat} {s':S} (h:qcH dst none s = some s'):dst = none/\s' = s:=by
 cases dst with
 | none=>simp only [qcH,jaa] at h; exact ⟨rfl,h.symm⟩
 | some d=>simp [qcH] at h
theorem qpq (sel:SH->Bool):∀ {l:List SH} {h:Hp},qac Z l h->∃ h1 h2,Hp.disj h1 h2/\h = Hp.union h1 h2/\qac Z (l.filter sel) h1/\qac Z (l.filter fun x=>!sel x) h2
 | [],h,_=>⟨Hp.emp,h,Hp.emp_disj _,(Hp.emp_union _).symm,trivial,trivial⟩
 | x :: l,h,⟨a1,a2,hd,hu,hx,hs⟩=>by
  obtain ⟨b1,b2,e1,e2,e3,e4⟩:=qpq sel hs;subst e2; subst hu;rw [Hp.disj_union] at hd;cases hsel:sel x with
  | true =>
   refine ⟨Hp.union a1 b1,b2,Hp.disj_union'.2 ⟨hd.2,e1⟩,(Hp.union_assoc _ _ _).symm,?_,?_⟩
   ·simp only [jdn,hsel,jbz]; exact ⟨a1,b1,hd.1,rfl,hx,e3⟩
   ·simp only [jdn,hsel,jfu,jas,jbd]; exact e4
  | false =>
   refine ⟨b1,Hp.union a1 b2,Hp.disj_union.2 ⟨hd.1.symm,e1⟩,?_,?_,?_⟩
   ·rw [<- Hp.union_assoc,Hp.union_comm hd.1,Hp.union_assoc]
   ·simp only [jdn,hsel,jas,jbd]; exact e3
   ·simp only [jdn,hsel,Bool.not_false,jbz]; exact ⟨a1,b2,hd.2,rfl,hx,e4⟩
def qaz (E:Ctx) (hF:Fr) (Z:Env) (s:S) (a:Act) (w:World) (k:S->Out):Prop :=
 ∃ Z' s',(∀ m,m < s.nx->Z' m = Z m)/\s.nx <= s'.nx/\Holds Z' hF s' a w/\s'.ro = s.ro/\s'.nt = s.nt/\(k s').den E Z'
theorem qaz.self {k:S->Out} (hs:Holds Z hF s a w) (h:(k s).den E Z):qaz E hF Z s a w k:=⟨Z,s,fun _ _=>rfl,ja4 _,hs,rfl,rfl,h⟩
def Hp.thaw (h:Hp):Hp:=fun b=>match h b with
 | some (.cells c ty fr)=>if fr = (0,0) then some (.cells c ty fr) else none
 | _=>none
theorem Hp.thaw_free (h:Hp):h.thaw.free:=fun b o ho=>by
 unfold Hp.thaw at ho;split at ho
 ·split at ho
  ·rename_i h0; subst h0; exact ⟨_,_,(jax ho).symm⟩
  ·cases ho
 ·cases ho
theorem Hp.thaw_le (h:Hp):Hp.le h.thaw h:=fun b o ho=>by
 unfold Hp.thaw at ho;split at ho
 ·rename_i hb
  split at ho
  ·rw [hb]; exact ho
  ·cases ho
 ·cases ho
theorem Hp.thaw_at {h:Hp} {b:Nat} {c:Array Value} {ty:TypeId} (hb:h b = some (.cells c ty (0,0))):h.thaw b = some (.cells c ty (0,0)):=by
 simp [Hp.thaw,hb]
theorem Hp.thaw_none {h:Hp} {b:Nat} (hb:h b = none):h.thaw b = none:=by simp [Hp.thaw,hb]
theorem Hp.thaw_union {h1 h2:Hp} (hd:Hp.disj h1 h2):(Hp.union h1 h2).thaw = Hp.union h1.thaw h2.thaw:=by
 funext b
 rcases hd b with h | h
 ·simp only [Hp.union,Hp.thaw_none h,jb2]
  simp only [Hp.thaw,Hp.union,h,jb2]
 ·simp only [Hp.union,Hp.thaw_none h,jf5]
  simp only [Hp.thaw,Hp.union,h,jf5]
theorem SH.den_thaw {Z:Env} {x:SH} {h:Hp} (ht:qo0 x = false) (hx:x.den Z h):x.den Z h.thaw:=by
 cases x with
 | cells r ty cs=>obtain ⟨b,h1,h2⟩:=hx; exact ⟨b,h1,Hp.thaw_at h2⟩
 | arr r ty pat d cap =>
  rcases hx with h0 | ⟨b,c,h1,h2,h3⟩
  ·exact .inl h0
  ·exact .inr ⟨b,c,h1,Hp.thaw_at h2,h3⟩
 | abs n t =>
  have ht':Nat.blt t 1001 = true:=by
   simp only [qo0] at ht;rw [jbn];rcases jbu t 1001 with h | h
   ·exact h
   ·rw [show Nat.ble 1001 t = true from by rw [jd6]; exact h] at ht; cases ht
  refine ⟨fun b o ho=>?_,hx.2⟩;obtain ⟨c,ty,rfl⟩:=hx.2 ht' b o ho;exact Hp.thaw_at (hx.1 b _ ho)
theorem qus {Z:Env}:∀ {l:List SH} {h:Hp},l.all (fun x=>!(qo0 x)) = true->qac Z l h->qac Z l h.thaw
 | [],_,_,_=>trivial
 | x :: l,h,ha,⟨h1,h2,hd,hu,hx,hs⟩=>by
  simp only [jdh,jag,jbg] at ha;subst hu;refine ⟨h1.thaw,h2.thaw,fun b=>?_,Hp.thaw_union hd,SH.den_thaw ha.1 hx,qus ha.2 hs⟩;rcases hd b with h | h
  ·exact .inl (Hp.thaw_none h)
  ·exact .inr (Hp.thaw_none h)
theorem qqc {sel:SH->Bool} {t:Nat} {k:S->Out} (hs:Holds Z hF s a w) (h:(qri s sel t k).den E Z):qaz E hF Z s a w k:=by
 unfold qri at h;split at h
 ·rename_i hsc0
  simp only [jag] at hsc0;obtain ⟨hsc,hcase⟩:=hsc0;simp only [Out.den] at h;obtain ⟨hO,hd,hst,hsub,hwi⟩:=hs.hp;obtain ⟨h1,h2,e1,e2,e3,e4⟩:=qpq sel hst;have key:∃ hp:Hp,Hp.le hp h1/\qac Z (s.heap.filter sel) hp/\(Nat.blt t 1001 = true->hp.free):=by
   cases ht:Nat.beq t 1003 with
   | true=>exact ⟨h1,Hp.le_refl _,e3,fun h=>by rw [Nat.eq_of_beq_eq_true ht] at h; cases h⟩
   | false =>
    rw [ht,Bool.false_or,jag] at hcase;exact ⟨h1.thaw,Hp.thaw_le h1,qus hcase.1 e3,fun _=>Hp.thaw_free h1⟩
  obtain ⟨hp,hple,hpst,hpfr⟩:=key;have hu:({ h:=hp }:U).good:=by simp [U.good,Value.oneCell']
  have h:=h { h:=hp } hu hpst;have hag:∀ m,m < s.nx->(Z.set s.nx { h:=hp }) m = Z m:=fun m hm=>Env.set_ne Z _ (by omega)
  have hg':(Z.set s.nx { h:=hp }).good:=fun m=>by
   by_cases hm:m = s.nx
   ·subst hm; rw [Env.set_same]; exact hu
   ·rw [Env.set_ne Z _ hm]; exact hs.gd m
  have hc:=hs.congr hsc hg' (fun m hm=>(hag m hm).symm);refine ⟨_,{ s with heap:=.abs s.nx t :: s.heap.filter (fun x=>!sel x),nx:=s.nx + 1 },hag,?_,⟨hc.gd,hc.nt,hc.df,hc.env,hc.ro,⟨hO,hd,?_,hsub,hwi⟩,hc.pc,hc.vw⟩,rfl,rfl,h⟩
  ·exact Nat.le_succ _
  ·subst e2
   refine ⟨h1,h2,e1,rfl,?_,?_⟩
   ·simp only [SH.den,Env.set_same]; exact ⟨hple,hpfr⟩
   ·refine qaA (n:=s.nx) (fun m hm=>(hag m hm).symm) _ ?_ _ e4
    have:=(qbm hsc).2.1;exact ja3.2 fun x hx=>ja3.1 this x (jc7.1 hx).1
 ·exact h.elim
theorem qoV {sel:SH->Bool} {t:Nat} {k:S->Out} (hs:Holds Z hF s a w) (h:(qor s sel t k).den E Z):qaz E hF Z s a w k:=by
 unfold qor at h;split at h
 ·split at h
  ·exact qaz.self hs h
  ·exact qqc hs h
 ·exact qqc hs h
theorem qaz.bind {k k':S->Out} (h:qaz E hF Z s a w k) (hk:∀ Z' s',s'.ro = s.ro->s'.nt = s.nt->Holds Z' hF s' a w->(k s').den E Z'->qaz E hF Z' s' a w k'):qaz E hF Z s a w k':=by
 obtain ⟨Z1,s1,a1,a2,a3,a4,a5,a6⟩:=h;obtain ⟨Z2,s2,b1,b2,b3,b4,b5,b6⟩:=hk Z1 s1 a4 a5 a3 a6;exact ⟨Z2,s2,fun m hm=>(b1 m (by omega)).trans (a1 m hm),by omega,b3,b4.trans a4,b5.trans a5,b6⟩
theorem qdG {left:List SH}:∀ {ts:List Nat} {s:S} {Z:Env} {k:S->Out},Holds Z hF s a w->(qfF s left ts k).den E Z->qaz E hF Z s a w k
 | [],s,Z,k,hs,h=>qaz.self hs h
 | t :: ts,s,Z,k,hs,h=>by
  simp only [qfF] at h;exact (qoV hs h).bind fun Z' s' _ _ hs' h'=>qdG hs' h'
theorem qgb:∀ {ts:List Nat} {s:S} {Z:Env} {k:S->Out},Holds Z hF s a w->(qg4 s ts k).den E Z->qaz E hF Z s a w k
 | [],s,Z,k,hs,h=>qaz.self hs h
 | t :: ts,s,Z,k,hs,h=>by
  simp only [qg4] at h;split at h
  ·exact (qoV hs h).bind fun Z' s' _ _ hs' h'=>qgb hs' h'
  ·exact qgb hs h
theorem q0m {ctrs:List Ctr} {o:Oper} {s:S} {Z:Env} {k:S->Out} (hs:Holds Z hF s a w) (h:(qsX ctrs s o k).den E Z):qaz E hF Z s a w k:=by
 unfold qsX at h;split at h
 ·exact qdG hs h
 ·exact qgb hs h
theorem qko {c:Array Value} {o:Nat} {pat:List CK} {d:List (List Value)} (h:qT c o pat d):∀ row ∈ d,∀ v ∈ row,v.oneCell' = true:=fun row hr v hv =>
 quz (qka h) v (jfa.2 ⟨row,hr,hv⟩)
theorem q6w {x:T} {pat:List CK} {ms:List Nat} {base:Nat} {o:Out} (h:(Out.view x pat ms base o).den E Z):(Out.viewL x pat ms base o).den E Z:=by
 simp only [Out.den] at h ⊢;obtain ⟨d,hm,h⟩:=h;exact ⟨d,hm,fun u0 g0 u1 g1 _ _=>h u0 g0 u1 g1⟩
theorem qpw {ow:List Nat} {x:T} {pat:List CK} {ms:List Nat} {base:Nat} {o:Out} (h:(qq6 ow x pat ms base o).den E Z):(Out.viewL x pat ms base o).den E Z:=by
 unfold qq6 at h;split at h
 ·exact h
 ·exact q6w h
theorem quL {t el:Nat} {x:T} {pat:List CK} {u sv:SV} {k:S->Out} {ms:List Nat} (hms:∀ m ∈ ms,m ∈ qao s.heap ++ qao s.ro) (hs:Holds Z hF s a w) (hsc:s.inNx = true) (hl:qbc t s.env = some u)
  (hsv:∀ Z':Env,u.den Z' = u.den Z->((T.vslice s.nx (.lit 0) (.dlen (.var (s.nx + 2))) (.var (s.nx + 1)) pat.length).den Z').v = (x.den Z).v->sv.den Z' = u.den Z)
  (h:(Out.viewL x pat ms s.nx (k { s with
     env:=qhO t sv s.env
     vw:=(ms,.arr s.nx el pat (.var (s.nx + 2)) (.var (s.nx + 1))) :: s.vw
     nx:=s.nx + 3 })).den E Z):qaz E hF Z s a w k:=by
 simp only [Out.den] at h;obtain ⟨d,⟨m,hm,hrd⟩,h⟩:=h;have hdg:({ d:=d }:U).good:=by
  refine ⟨rfl,?_⟩;rcases hrd with ⟨_,_,h2⟩ | ⟨b,o,cap,c,ty,fr,_,_,_,h4⟩
  ·rw [h2]; simp
  ·exact qko h4
 obtain ⟨r,cap,hval,hlc,hro⟩:∃ (r:Option Addr) (cap:Nat),(x.den Z).v = .slice (qn r 0) d.length cap/\d.length <= cap /\
   (d = []∨∃ b o c ty fr,r = some ⟨b,o,none⟩/\(Z m).h b = some (.cells c ty fr)/\qT c o pat d):=by
  rcases hrd with ⟨r,h1,h2⟩ | ⟨b,o,cap,c,ty,fr,h1,h2,h3,h4⟩
  ·exact ⟨r,0,by rw [h1,h2,qkn]; rfl,by rw [h2]; exact ja4 _,.inl h2⟩
  ·exact ⟨some ⟨b,o,none⟩,cap,by rw [h1]; rfl,h2,.inr ⟨b,o,c,ty,fr,rfl,h3,h4⟩⟩
 have hu0:({ r:=r }:U).good:=by simp [U.good,Value.oneCell']
 have hu1:({ i:=(cap:Int) }:U).good:=by simp [U.good,Value.oneCell']
 have h:=h { r:=r } hu0 { i:=(cap:Int) } hu1 (by rw [hval]; rfl) (Int.ofNat_le.2 hlc)
 let Z':Env:=((Z.set s.nx { r:=r }).set (s.nx + 1) { i:=(cap:Int) }).set (s.nx + 2) { d:=d }
 have hag:∀ m,m < s.nx->Z' m = Z m:=fun m hm=>by
  simp only [Z'];rw [Env.set_ne _ _ (by omega),Env.set_ne _ _ (by omega),Env.set_ne _ _ (by omega)]
 have e0:Z' s.nx = { r:=r }:=by
  simp only [Z'];rw [Env.set_ne _ _ (by omega),Env.set_ne _ _ (by omega),Env.set_same]
 have e1:Z' (s.nx + 1) = { i:=(cap:Int) }:=by
  simp only [Z'];rw [Env.set_ne _ _ (by omega),Env.set_same]
 have e2:Z' (s.nx + 2) = { d:=d }:=by simp only [Z']; rw [Env.set_same]
 have hg':Z'.good:=fun n=>by
  by_cases h2:n = s.nx + 2
  ·subst h2; rw [e2]; exact hdg
  ·by_cases h1:n = s.nx + 1
   ·subst h1; rw [e1]; exact hu1
   ·by_cases h0:n = s.nx
    ·subst h0; rw [e0]; exact hu0
    ·simp only [Z']
     rw [Env.set_ne _ _ h2,Env.set_ne _ _ h1,Env.set_ne _ _ h0]; exact hs.gd n
 have hc:=hs.congr hsc hg' (fun m hm=>(hag m hm).symm);have hmlt:m < s.nx:=by
  have hin:∀ {l:List SH},l.all (SH.inB s.nx) = true->m ∈ qao l->m < s.nx:=by
   intro l
   induction l with
   | nil=>intro _ h; simp [qao] at h
   | cons y l ih =>
    intro hall hmem;simp only [jdh,jag] at hall;cases y with
    | cells r ty cs=>exact ih hall.2 (by simpa [qao] using hmem)
    | arr r ty pat d cap=>exact ih hall.2 (by simpa [qao] using hmem)
    | abs n t =>
     have hmem:m = n∨m ∈ qao l:=by
      simp only [qao] at hmem;split at hmem
      ·exact .inr hmem
      ·exact ja9.1 hmem
     rcases hmem with rfl | hmem
     ·simpa [SH.inB] using hall.1
     ·exact ih hall.2 hmem
  obtain ⟨p1,p2,p3,p4⟩:=qbm hsc;rcases jaw.1 (hms m hm) with hm | hm
  ·exact hin p2 hm
  ·exact hin p3 hm
 refine ⟨Z',{ s with
  env:=qhO t sv s.env
  vw:=(ms,.arr s.nx el pat (.var (s.nx + 2)) (.var (s.nx + 1))) :: s.vw
  nx:=s.nx + 3 },hag,?_,⟨hc.gd,hc.nt,hc.df,fun t' u' hu=>?_,hc.ro,hc.hp,hc.pc,fun y hy=>?_⟩,rfl,rfl,h⟩
 ·exact Nat.le_add_right _ _
 ·rcases qij t _ s.env t' u' hu with ⟨rfl,rfl⟩ | ⟨hne,hl'⟩
  ·rw [hs.env t' _ hl]
   refine (hsv Z' ((hc.env t' _ hl).symm.trans (hs.env t' _ hl)) ?_).symm;simp only [T.den,O0.den,O1.den,O3.den,e0,e1,e2,hval];simp
  ·exact hc.env t' u' hl'
 ·rcases ja9.1 hy with rfl | hy
  ·refine ⟨m,hm,?_⟩
   rw [hag m hmlt];simp only [SH.roden,T.den,e0,e2];exact hro
  ·exact hc.vw y hy
theorem qrn {ow:List Nat} {s:S} {t:Nat}:∀ m ∈ qfc ow s t,m ∈ qao s.heap ++ qao s.ro:=fun m hm=>by
 have hsub:∀ {g:Nat} {l:List SH},m ∈ qao (l.filter (qjx g))->m ∈ qao l:=by
  intro g l
  induction l with
  | nil=>exact fun h=>h
  | cons y l ih =>
   intro h;rw [jdn] at h;split at h
   ·cases y with
    | cells r ty cs=>exact ih (by simpa [qao] using h)
    | arr r ty pat d cap=>exact ih (by simpa [qao] using h)
    | abs n t' =>
     simp only [qao] at h ⊢;split at h
     ·rename_i h3; rw [jah h3]; exact ih h
     ·rename_i h3
      rw [jaf h3];rcases ja9.1 h with rfl | h
      ·exact jae ..
      ·exact jad _ (ih h)
   ·cases y with
    | cells r ty cs=>exact (by simpa [qao] using ih h)
    | arr r ty pat d cap=>exact (by simpa [qao] using ih h)
    | abs n t' =>
     simp only [qao];split
     ·exact ih h
     ·exact jad _ (ih h)
 unfold qfc at hm;split at hm
 ·exact jb3 _ (hsub hm)
 ·split at hm
  ·exact jb3 _ hm
  ·split at hm
   ·exact jcs _ hm
   ·exact hm
theorem q5F {ow:List Nat} {t el:Nat} {pat:List CK} {k:S->Out} (hs:Holds Z hF s a w) (h:(q4t ow s t el pat k).den E Z):qaz E hF Z s a w k:=by
 unfold q4t at h;split at h
 ·rename_i x hl
  split at h
  ·split at h
   ·rename_i hsc
    simp only [jag,jbn] at hsc;exact quL (ms:=qfc ow s t) qrn (x:=x) (sv:=.one (.vslice s.nx (.lit 0) (.dlen (.var (s.nx + 2))) (.var (s.nx + 1)) pat.length)) hs hsc.1 hl (fun Z' _ h2=>h2) (qpw h)
   ·exact h.elim
  ·exact qaz.self hs h
 ·exact qaz.self hs h
theorem qwv (Z:Env):∀ ts:List T,qd Z ts = ts.map fun t=>(t.den Z).v
 | []=>rfl
 | t :: ts=>by rw [ja5,<- qwv Z ts]; rfl
theorem q5Z {ow:List Nat} {t j el:Nat} {pat:List CK} {k:S->Out} (hs:Holds Z hF s a w) (h:(q4k ow s t j el pat k).den E Z):qaz E hF Z s a w k:=by
 unfold q4k at h;split at h
 ·rename_i cs hl
  split at h
  ·rename_i x hx
   split at h
   ·split at h
    ·rename_i hsc
     simp only [jag,jbn] at hsc;refine quL (ms:=qfc ow s t) qrn (x:=x) (sv:=.agg (cs.set j (.vslice s.nx (.lit 0) (.dlen (.var (s.nx + 2))) (.var (s.nx + 1)) pat.length))) hs hsc.1 hl (fun Z' h1 h2=>?_) (qpw h);simp only [SV.den,Value.agg.injEq,qwv] at h1 ⊢;have h1:cs.map (fun t=>(t.den Z').v) = cs.map fun t=>(t.den Z).v:=by simpa using h1
     rw [List.map_set,h2,h1]
     congr 1
     apply jbs;intro i;rw [jby];split
     ·rename_i hij
      subst hij;split
      ·rw [jaq,hx]; rfl
      ·rename_i hlt
       rw [jat (by omega)]
     ·rfl
    ·exact h.elim
   ·exact qaz.self hs h
  ·exact qaz.self hs h
 ·exact qaz.self hs h
theorem qry {ow:List Nat}:∀ {l:List (Nat × Nat × Nat × List CK)} {s:S} {Z:Env} {k:S->Out},Holds Z hF s a w->(qq3 ow s l k).den E Z->qaz E hF Z s a w k
 | [],s,Z,k,hs,h=>qaz.self hs h
 | (t,j,el,pat) :: l,s,Z,k,hs,h=>by
  simp only [qq3] at h;exact (q5Z hs h).bind fun Z' s' _ _ hs' h'=>qry hs' h'
theorem qra {ow:List Nat}:∀ {l:List (Nat × Nat × List CK)} {s:S} {Z:Env} {k:S->Out},Holds Z hF s a w->(qq8 ow s l k).den E Z->qaz E hF Z s a w k
 | [],s,Z,k,hs,h=>qaz.self hs h
 | (t,el,pat) :: l,s,Z,k,hs,h=>by
  simp only [qq8] at h;exact (q5F hs h).bind fun Z' s' _ _ hs' h'=>qra hs' h'
theorem qgR {t c:T} (hs:Holds Z hF s a w) (h:qe7 s t = some c):(c.den Z).b = true:=by
 unfold qe7 at h;split at h
 ·split at h
  ·rename_i k rr ty pat d cap hat
   simp only [jaa] at h; subst h;obtain ⟨hk,hreg⟩:=qO hat;obtain ⟨hO,hd,hst,hsub,hwi⟩:=hs.hp;obtain ⟨t1,t2,td,tu,tx,ts⟩:=qae hst hk;rw [qK _ _ _ (by simp),qaV];simp only [qJ,ja8];rcases tx with ⟨_,h2,h3⟩ | ⟨b,c,h1,h2,h3,h4,h5⟩
   ·rw [h2,h3]; simp
   ·exact h4
  ·cases h
 ·cases h
theorem qvw {x:Operand} {c:T} (hs:Holds Z hF s a w) (h:qt0 s x = some c):(c.den Z).b = true:=by
 unfold qt0 at h;split at h
 ·obtain ⟨t,_,ht⟩:=jc8 h
  exact qgR hs ht
 ·split at h
  ·obtain ⟨t,_,ht⟩:=jc8 h
   exact qgR hs ht
  ·cases h
 ·cases h
theorem q71 {ow:List Nat} {t el:Nat} {pat:List CK} {k:S->Out} (hs:Holds Z hF s a w) (h:(q3i ow s t el pat k).den E Z):qaz E hF Z s a w k:=by
 unfold q3i at h;split at h
 ·exact qaz.self hs h
 ·rename_i g _
  split at h
  ·rename_i x hl
   split at h
   ·split at h
    ·rename_i j m hj
     split at h
     ·rename_i hsc0
      simp only [jag,jbn] at hsc0;obtain ⟨hsc,_⟩:=hsc0;simp only [Out.den] at h;obtain ⟨h',r,cap,d,⟨hval,hcase⟩,h⟩:=h;have hdg:({ d:=d }:U).good:=by
       refine ⟨rfl,?_⟩;rcases hcase with ⟨_,h2,_⟩ | ⟨b,c,_,_,_,_,h4,_⟩
       ·rw [h2]; simp
       ·exact qko h4
      have hu:∀ {i:Int} {r:Option Addr} {h:Hp},({ i:=i,r:=r,h:=h }:U).good:=by simp [U.good,Value.oneCell']
      let Z':Env:=(((Z.set s.nx { h:=h' }).set (s.nx + 1) { r:=r }).set (s.nx + 2) { i:=cap }).set (s.nx + 3) { d:=d }
      have hag:∀ m,m < s.nx->Z' m = Z m:=fun m hm=>by
       simp only [Z'];rw [Env.set_ne _ _ (by omega),Env.set_ne _ _ (by omega),Env.set_ne _ _ (by omega),Env.set_ne _ _ (by omega)]
      have e0:Z' s.nx = { h:=h' }:=by
       simp only [Z'];rw [Env.set_ne _ _ (by omega),Env.set_ne _ _ (by omega),Env.set_ne _ _ (by omega),Env.set_same]
      have e1:Z' (s.nx + 1) = { r:=r }:=by
       simp only [Z'];rw [Env.set_ne _ _ (by omega),Env.set_ne _ _ (by omega),Env.set_same]
      have e2:Z' (s.nx + 2) = { i:=cap }:=by
       simp only [Z'];rw [Env.set_ne _ _ (by omega),Env.set_same]
      have e3:Z' (s.nx + 3) = { d:=d }:=by simp only [Z']; rw [Env.set_same]
      have hg':Z'.good:=fun n=>by
       by_cases h3:n = s.nx + 3
       ·subst h3; rw [e3]; exact hdg
       ·by_cases h2:n = s.nx + 2
        ·subst h2; rw [e2]; exact hu
        ·by_cases h1:n = s.nx + 1
         ·subst h1; rw [e1]; exact hu
         ·by_cases h0:n = s.nx
          ·subst h0; rw [e0]; exact hu
          ·simp only [Z']
           rw [Env.set_ne _ _ h3,Env.set_ne _ _ h2,Env.set_ne _ _ h1,Env.set_ne _ _ h0]; exact hs.gd n
      have hc:=hs.congr hsc hg' (fun m hm=>(hag m hm).symm);obtain ⟨hO,hd,hst,hsub,hwi⟩:=hs.hp;obtain ⟨t1,t2,td,tu,tx,ts⟩:=qae hst (qdp hj);have hall:=(qbm hsc).2.1;have ts':qac Z' (s.heap.eraseIdx j) t2:=qaA (n:=s.nx) (fun m hm=>(hag m hm).symm) _ (ja3.2 fun x hx=>ja3.1 hall x (jde hx)) _ ts;have hnew:qac Z' (.arr (s.nx + 1) el pat (.var (s.nx + 3)) (.var (s.nx + 2)) :: .abs s.nx g :: s.heap.eraseIdx j) hO:=by
       rcases hcase with ⟨c1,c2,c3,c4⟩ | ⟨b,c,c1,c2,c3,c4,c5,c6⟩
       ·refine ⟨Hp.emp,hO,Hp.emp_disj _,(Hp.emp_union _).symm,.inl ?_,t1,t2,td,tu,?_,ts'⟩
        ·simp only [T.den,e1,e2,e3]; exact ⟨c1,c2,c3⟩
        ·simp only [SH.den,e0,c4]; exact tx
       ·have hb1:t1 b = some (.cells c el (0,0)):=tx.1 _ _ c2
        have hb2:t2 b = none:=(td b).resolve_left (by rw [hb1]; simp);refine ⟨Hp.one b (.cells c el (0,0)),Hp.union (t1.del b) t2,fun y=>?_,?_,.inr ⟨b,c,?_⟩,t1.del b,t2,fun y=>?_,rfl,?_,ts'⟩
        ·by_cases hy:y = b
         ·subst hy; right; simp [Hp.union,Hp.del,hb2]
         ·left; simp [Hp.one,hy]
        ·funext y
         rw [tu];by_cases hy:y = b
         ·subst hy; simp [Hp.union,Hp.one,hb1]
         ·simp [Hp.union,Hp.one,Hp.del,hy]
        ·simp only [T.den,e1,e2,e3]
         exact ⟨c1,by simp [Hp.one],c3,c4,c5⟩
        ·by_cases hy:y = b
         ·left; simp [Hp.del,hy]
         ·simpa [Hp.del,hy] using td y
        ·simp only [SH.den,e0,c6]
         refine ⟨fun y ob hy=>?_,fun ht y ob hy=>?_⟩
         ·by_cases hyb:y = b
          ·simp [Hp.del,hyb] at hy
          ·simp only [Hp.del,hyb,jbd] at hy ⊢; exact tx.1 _ _ hy
         ·by_cases hyb:y = b
          ·simp [Hp.del,hyb] at hy
          ·simp only [Hp.del,hyb,jbd] at hy; exact tx.2 ht _ _ hy
      refine ⟨Z',{ s with
       env:=qhO t (.one (.vslice (s.nx + 1) (.lit 0) (.dlen (.var (s.nx + 3))) (.var (s.nx + 2)) pat.length)) s.env
       heap:=.arr (s.nx + 1) el pat (.var (s.nx + 3)) (.var (s.nx + 2)) :: .abs s.nx g :: s.heap.eraseIdx j
       nx:=s.nx + 4 },hag,?_,⟨hc.gd,hc.nt,hc.df,fun t' u' hu=>?_,hc.ro,⟨hO,hd,hnew,hsub,hwi⟩,hc.pc,hc.vw⟩,rfl,rfl,h⟩
      ·exact Nat.le_add_right _ _
      ·rcases qij t _ s.env t' u' hu with ⟨rfl,rfl⟩ | ⟨hne,hl'⟩
       ·rw [hs.env t' _ hl]
        simp only [SV.den,T.den,O0.den,O1.den,O3.den,e1,e2,e3,hval];simp
       ·exact hc.env t' u' hl'
     ·exact h.elim
    ·exact qaz.self hs h
   ·exact qaz.self hs h
  ·exact qaz.self hs h
theorem q5q {o:Oper} {ow:List Nat} {k:S->Out} (hs:Holds Z hF s a w) (h:(q26 P ow s o k).den E Z):qaz E hF Z s a w k:=by
 unfold q26 at h;split at h
 ·split at h
  ·split at h
   ·exact q71 hs h
   ·exact qaz.self hs h
  ·exact qaz.self hs h
 ·exact qaz.self hs h
theorem qnX {ip:List (Nat × Nat)} {o:Oper} {c:T} (hs:Holds Z hF s a w) (h:qzo ip s o = some c):(c.den Z).b = true:=by
 have key:∀ {x:Operand} {c:T},(match opd s x with
  | some (.one (.c3 (.vslice r _) _ _ _)) =>
   match qal r s.heap with
   | some (_,.arr _ _ _ d cap)=>some (qr .leq (qaa d) cap)
   | _=>none
  | _=>none) = some c->(c.den Z).b = true:=by
  intro x c h;split at h
  ·split at h
   ·rename_i r' p' off len cap' hx _ k rr ty pat d cap hat
    simp only [jaa] at h; subst h;obtain ⟨hk,hreg⟩:=qO hat;obtain ⟨hO,hd,hst,hsub,hwi⟩:=hs.hp;obtain ⟨t1,t2,td,tu,tx,ts⟩:=qae hst hk;rw [qK _ _ _ (by simp),qaV];simp only [qJ,ja8];rcases tx with ⟨_,h2,h3⟩ | ⟨b,c,h1,h2,h3,h4,h5⟩
    ·rw [h2,h3]; simp
    ·exact h4
   ·cases h
  ·cases h
 unfold qzo at h;simp only at h;split at h
 ·exact key h
 ·split at h
  ·split at h
   ·exact key h
   ·cases h
  ·cases h
 ·cases h
 ·split at h
  ·split at h
   ·obtain ⟨x,_,hx⟩:=jc8 h
    exact key hx
   ·split at h
    ·obtain ⟨x,_,hx⟩:=jc8 h
     exact qvw hs hx
    ·cases h
  ·cases h
 ·cases h
theorem q5R {ip:List (Nat × Nat)} {o:Oper} {k:S->Out} (hs:Holds Z hF s a w) (h:(qqt ip s o k).den E Z):qaz E hF Z s a w k:=by
 unfold qqt at h;split at h
 ·rename_i c hc
  split at h
  ·exact qaz.self hs h
  ·have hc:=qnX hs hc
   exact ⟨Z,{ s with pc:=(c,true) :: s.pc },fun _ _=>rfl,ja4 _,hs.withPc _ (fun c' b hm=>by
    cases hm with
    | head=>exact hc
    | tail _ hm=>exact hs.pc c' b hm),rfl,rfl,h hc⟩
 ·exact qaz.self hs h
theorem qsN {x:Operand} {c:T} (hs:Holds Z hF s a w) (h:c ∈ qpU s x):(c.den Z).b = true:=by
 have key:∀ {ts:List T},c ∈ ts.filterMap (qe7 s)->(c.den Z).b = true:=fun h=>by
  obtain ⟨t,_,ht⟩:=List.mem_filterMap.1 h;exact qgR hs ht
 unfold qpU at h;split at h
 ·split at h
  ·exact key h
  ·cases h
 ·exact key h
 ·exact key h
 ·cases h
theorem qvn {ip:List (Nat × Nat)} {o:Oper} {c:T} (hs:Holds Z hF s a w) (h:c ∈ qtg ip s o):(c.den Z).b = true:=by
 unfold qtg at h;split at h
 ·split at h
  ·split at h
   ·obtain ⟨x,_,hx⟩:=List.mem_flatMap.1 h
    exact qsN hs hx
   ·cases h
  ·cases h
 ·cases h
theorem qmb:∀ {cs:List T} {s:S} {k:S->Out},(∀ c ∈ cs,(c.den Z).b = true)->Holds Z hF s a w->(qn9 s cs k).den E Z->qaz E hF Z s a w k
 | [],s,k,_,hs,h=>qaz.self hs h
 | c :: cs,s,k,hc,hs,h=>by
  simp only [qn9] at h;split at h
  ·exact qmb (fun c hm=>hc c (jad _ hm)) hs h
  ·have h0:=hc c (jae ..)
   have hs':Holds Z hF { s with pc:=(c,true) :: s.pc } a w:=hs.withPc _ (fun c' b hm=>by
    cases hm with
    | head=>exact h0
    | tail _ hm=>exact hs.pc c' b hm)
   obtain ⟨Z',s',a1,a2,a3,a4,a5,a6⟩:=qmb (fun c hm=>hc c (jad _ hm)) hs' (h h0);exact ⟨Z',s',a1,a2,a3,a4,a5,a6⟩
theorem q68 {ip:List (Nat × Nat)} {o:Oper} {k:S->Out} (hs:Holds Z hF s a w) (h:(q4n ip s o k).den E Z):∃ pc,Holds Z hF { s with pc:=pc } a w/\(k { s with pc:=pc }).den E Z:=by
 unfold q4n at h;split at h
 ·unfold qqt at h
  split at h
  ·rename_i c hc
   split at h
   ·exact ⟨s.pc,hs,h⟩
   ·have hc:=qnX hs hc
    exact ⟨(c,true) :: s.pc,hs.withPc _ (fun c' b hm=>by
     cases hm with
     | head=>exact hc
     | tail _ hm=>exact hs.pc c' b hm),h hc⟩
  ·exact ⟨s.pc,hs,h⟩
 ·exact ⟨s.pc,hs,h⟩
theorem qvu {s':S} {H:Hp} (hvw:∀ x ∈ s'.vw,∃ m ∈ x.1,x.2.roden Z (Z m).h) (hp:∀ m,s'.piece m = true->Hp.le (Z m).h H):∀ x ∈ qi4 s',x.roden Z H:=by
 intro x hx;unfold qi4 at hx;obtain ⟨y,hy,rfl⟩:=jbk.1 hx;obtain ⟨h1,h2⟩:=jc7.1 hy;obtain ⟨m,hm,hr⟩:=hvw y h1;exact SH.ro_mono hr (hp m (ja3.1 h2 m hm))
end Go.Eng
namespace Go.Eng
open Go
variable {Z:Env} {hF:Fr} {s:S} {a:Act} {w:World} {E:Ctx}
theorem qlz {V:Sg} {cs:List T} (h:V.left = some cs) (hc:∀ c ∈ cs,(c.den Z).b = true):Sat V Z:=by
 unfold Sg.left at h;split at h
 ·rename_i x y z hx hy hz
  simp only [jaa] at h; subst h;refine ⟨?_,?_,?_⟩
  ·exact qhI (Z:=Z) _ (fun p a=>(p.den (V.env Z)).i = (a.den Z).i) (fun p p' a hp hs=>by rw [<- Sg.sub_den hp,T.same_eq hs])
    (fun p p' a c hp hf hb=>by
     simp only [jaa] at hf; subst hf;rw [qK _ _ _ (by simp)] at hb;rw [<- Sg.sub_den hp];simpa [qJ] using hb) hx (fun c hm=>hc c (by simp [hm]))
  ·exact qhI (Z:=Z) _ (fun p a=>(p.den (V.env Z)).b = (a.den Z).b) (fun p p' a hp hs=>by rw [<- Sg.sub_den hp,T.same_eq hs])
    (fun p p' a c hp hf hb=>by
     simp only [jaa] at hf; subst hf;rw [qjR] at hb;rw [<- Sg.sub_den hp];simpa using hb) hy (fun c hm=>hc c (by simp [hm]))
  ·exact qhI (Z:=Z) _ (fun p a=>(p.den (V.env Z)).d = (a.den Z).d) (fun p p' a hp hs=>by rw [<- Sg.sub_den hp,T.same_eq hs])
    (fun p p' a c hp hf hb=>by simp at hf) hz (fun c hm=>hc c (by simp [hm]))
 ·simp at h
theorem Bd.den_good (hg:Z.good) (b:Bd):(b.den Z).good:=by
 cases b with
 | t x=>exact T.den_good hg x
 | r m=>exact hg m
 | nil=>simp [Bd.den,U.good,Value.oneCell']
theorem Sg.env_good (hg:Z.good) (V:Sg):(V.env Z).good:=fun n=>by
 unfold Sg.env;split
 ·exact hg n
 ·split
  ·exact Bd.den_good hg _
  ·simp [U.good,Value.oneCell']
theorem qgo {ops:Array Oper} {o:Oper} {g:Option (T × Bool)} (hs:Holds Z hF s a w) (h:qnB ops s o = some g) :
  match g with
  | none=>Region.wanted o (yielded ops a.tmps) = true
  | some (c,want)=>Region.wanted o (yielded ops a.tmps) = decide ((c.den Z).b = want):=by
 unfold qnB at h;unfold Region.wanted;split at h
 ·rename_i hg
  simp only [jaa] at h; subst h;simp [hg]
 ·rename_i j want hg
  split at h
  ·rename_i t ht
   split at h
   ·rename_i c hl
    simp only [jaa] at h; subst h;have he:=hs.env t _ hl;simp only [SV.den,T.den,O1.den] at he;have:a.tmps[t]? = some (.bool (c.den Z).b):=by
     rw [jb4] at he;cases hx:a.tmps[t]? with
     | none=>rw [hx] at he; simp [undef] at he
     | some v=>rw [hx] at he; simpa using he
    simp only [hg,yielded,ht,je8,this];cases (c.den Z).b <;> cases want <;> rfl
   ·rename_i hl
    simp only [jaa] at h; subst h;have he:=hs.env t _ hl;simp only [SV.den,jb5] at he;have:yielded ops a.tmps j = none:=by
     simp only [yielded,ht,je8];rw [jb4] at he;cases hx:a.tmps[t]? with
     | none=>rfl
     | some v=>rw [hx] at he; simp only [ja2] at he; subst he; rfl
    simp only [hg,this,T.den,O0.den];cases want <;> rfl
   ·simp at h
  ·simp at h
def qn0 (tmps:Array Value):ResultVar->Sem Value
 | .tmp t=>pure (tmps.getD t undef)
 | .cell a t=>do loadVar t (<- asAddr (tmps.getD a undef))
theorem q4g (fn:Func) (tmps:Array Value):results fn tmps = (do let vs <- fn.results.mapM (qn0 tmps); pure (if h:vs.size = 1 then vs[0] else .tuple vs)):=by
 unfold results
 congr 2
theorem qvf (hs:Holds Z hF s a w) {cs:List T} (h:q0D s cs = true):∀ c ∈ cs,(c.den Z).b = true:=fun c hc=>by
 have h1:=ja3.1 h c hc;split at h1
 ·rename_i hk; exact qkc hs (qdK hs hk)
 ·cases h1
theorem qnY {r:ResultVar} {P:Program} {v:SV} (hs:Holds Z hF s a w) (h:qmG P s r = some v):(qn0 a.tmps r).run P w = .ok (v.den Z) w:=by
 cases r with
 | tmp t=>simp only [qmG] at h; simp only [qn0,Sem.run_pure,hs.env t v h]
 | cell x t =>
  simp only [qmG] at h;simp only [qn0];split at h
  ·rename_i rg p c e ag n hx hag hsz
   have hev:=hs.env x _ hx;split at h
   ·rename_i k y hat
    obtain ⟨H,hsub,hro,hreg⟩:=hs.found (r:=rg) (k:=k) (x:=y) (by simp [S.look,hat]);split at h
    ·rename_i cs nd hrd
     split at h
     ·rename_i hnd
      obtain ⟨hl,b,off,c',ty,fr,h1,h2,h3⟩:=qfa hrd hro hreg (qvf hs hnd);simp only [SV.den,T.den,O1.den,h1,qn,ja0] at hev;simp only [Sem.run_bind,hev,asAddr,Sem.run_pure,Result.andThen_ok];split at h
      ·rename_i hagt
       simp only [jaa] at h; subst h; subst hagt;rw [qdJ (P:=P) (w:=w) hag hsz (hsub _ _ h2) (by simp [qd,hl]) h3 (by simp)];simp [SV.den]
      ·rename_i hagf
       split at h
       ·rename_i t' _
        simp only [jaa] at h; subst h;have hagf':ag = false:=by simpa using hagf
        subst hagf';rw [qdJ (P:=P) (w:=w) hag hsz (hsub _ _ h2) (by rw [<- hl]; simp [qd]) h3 (fun _=>by rw [<- hl]; rfl)];simp [SV.den,qd]
       ·simp at h
     ·simp at h
    ·simp at h
   ·simp at h
  ·simp at h
theorem q3F {v:SV} {x:Bool × List T} (h:qy8 v = some x):qeS Z x = v.den Z:=by
 unfold qy8 at h;split at h <;> simp only [jaa,reduceCtorEq] at h <;> subst h <;> simp [SV.den,qeS,qd]
theorem qmU {P:Program} (hs:Holds Z hF s a w):∀ {rs:List ResultVar} {l:List (Bool × List T)},qmO P s rs = some l ->
  (rs.mapM (qn0 a.tmps)).run P w = .ok (l.map (qeS Z)) w/\l.length = rs.length
 | [],l,h=>by simp only [qmO,jaa] at h; subst h; simp
 | r :: rs,l,h=>by
  simp only [qmO] at h;split at h
  ·rename_i x l' hx hl
   simp only [jaa] at h; subst h;simp only [jam] at hx;obtain ⟨v,hv,hf⟩:=hx;have h1:=qnY hs hv;obtain ⟨h2,h3⟩:=qmU hs hl;simp only [jf3,Sem.run_bind,h1,h2,Result.andThen_ok,Sem.run_pure,ja5,q3F hf,jba,h3,and_self]
  ·simp at h
theorem qk9 {fn:Func} {P:Program} {v:SV} (hs:Holds Z hF s a w) (h:qmd fn s P = some v):(results fn a.tmps).run P w = .ok (v.den Z) w:=by
 unfold qmd at h;rw [q4g];simp only [Sem.run_bind,Array.mapM_eq_mapM_toList,Sem.run_map];split at h
 ·rename_i r hr
  have h1:=qnY hs h;rw [hr];simp only [jf3,List.mapM_nil,Sem.run_bind,h1,Result.andThen_ok,Sem.run_pure];simp
 ·rename_i rs hne
  simp only [jai] at h;obtain ⟨vs,hvs,rfl⟩:=h;obtain ⟨h1,hl⟩:=qmU hs hvs;rw [h1];simp only [Result.andThen_ok,Sem.run_pure];have hne1:¬ (vs.map (qeS Z)).toArray.size = 1:=by
   intro h1;simp only [je2,ja7] at h1;rw [hl] at h1
   match hrs:fn.results.toList,h1 with
   | [x],_=>exact hne x hrs
  rw [dif_neg hne1];simp [SV.den]
end Go.Eng
namespace Go.Eng
open Go
variable {P:Program} {ops:Array Oper} {Q:Exit->Act->World->Prop} {md:Region.Mode} {S:World->Prop} {A:List Nat}
def qiS (md:Region.Mode) (ops:Array Oper) (listed:Array Bool):Prop :=
 ∀ j o,ops[j]? = some o->listed.getD j false = true->∀ e ∈ o.after,Region.binds md e = true->listed.getD e.on false = true
theorem qrS {listed:Array Bool} {j:Nat} (h:qiS md ops listed) (hj:j ∈ Region.ready md ops listed):qiS md ops (listed.setIfInBounds j true):=by
 intro k o ho hk e he hb;obtain ⟨hjun,oj,hoj,hall⟩:=mem_ready.1 hj;have mono:∀ n,listed.getD n false = true->(listed.setIfInBounds j true).getD n false = true:=fun n hn=>by
  simp only [jb4] at hn ⊢;rw [jeh];split
  ·rename_i hjn; subst hjn
   split
   ·rfl
   ·rename_i hlt
    rw [jcx (by omega)] at hn; cases hn
  ·exact hn
 by_cases hkj:k = j
 ·subst hkj
  rw [hoj] at ho; cases ho;exact mono _ (hall e he hb)
 ·refine mono _ (h k o ho ?_ e he hb)
  simp only [jb4] at hk ⊢;rw [jdc (Ne.symm hkj)] at hk;exact hk
theorem qwB (n:Nat):qiS md ops (Array.replicate n false):=by
 intro j o _ hj;simp only [jb4,Array.getElem?_replicate] at hj;split at hj <;> cases hj
inductive Reach (md:Region.Mode) (ops:Array Oper):Nat->Nat->Prop where
 | one {j:Nat} {o:Oper} {e:Edge} (ho:ops[j]? = some o) (he:e ∈ o.after) (hb:Region.binds md e = true):Reach md ops j e.on
 | step {j i:Nat} {o:Oper} {e:Edge} (ho:ops[j]? = some o) (he:e ∈ o.after) (hb:Region.binds md e = true) (h:Reach md ops e.on i):Reach md ops j i
theorem quZ {acc:Array Nat} {i:Nat}:∀ {l:List Edge} {m0:Nat},(l.foldl (fun m e=>if Region.binds md e then m ||| 2 ^ e.on ||| acc.getD e.on 0 else m) m0).testBit i = true ->
  m0.testBit i = true∨∃ e ∈ l,Region.binds md e = true/\(e.on = i∨(acc.getD e.on 0).testBit i = true)
 | [],m0,h=>.inl h
 | e :: l,m0,h=>by
  simp only [List.foldl_cons] at h;rcases quZ h with h | ⟨e',he',hb,hx⟩
  ·split at h
   ·rename_i hb
    simp only [Nat.testBit_or,jcy,Nat.testBit_two_pow,ja8] at h;rcases h with (h | h) | h
    ·exact .inl h
    ·exact .inr ⟨e,jae ..,hb,.inl h⟩
    ·exact .inr ⟨e,jae ..,hb,.inr h⟩
   ·exact .inl h
  ·exact .inr ⟨e',jad _ he',hb,hx⟩
theorem qqB:∀ (l:List Oper) (acc:Array Nat),(∀ n:Nat,l[n]? = ops[acc.size + n]?)->(∀ j m,acc[j]? = some m->∀ i,m.testBit i = true->Reach md ops j i) ->
  ∀ j m,(qsf md l acc)[j]? = some m->∀ i,m.testBit i = true->Reach md ops j i
 | [],acc,_,hi=>hi
 | o :: r,acc,hl,hi=>by
  simp only [qsf];have ho:ops[acc.size]? = some o:=by have:=hl 0; simpa using this.symm
  refine qqB r _ (fun n=>?_) (fun j m hj i hb=>?_)
  ·have:=hl (n + 1)
   simp only [ja6] at this;rw [this,Array.size_push]; congr 1; omega
  ·rw [jen] at hj
   split at hj
   ·rename_i hje
    subst hje;simp only [jaa] at hj; subst hj;rcases quZ hb with h | ⟨e,he,hbe,hx⟩
    ·simp at h
    ·have he:=Array.mem_toList_iff.1 he
     rcases hx with rfl | hx
     ·exact .one ho he hbe
     ·refine .step ho he hbe ?_
      rw [jb4] at hx;cases ha:acc[e.on]? with
      | none=>rw [ha] at hx; simp at hx
      | some m'=>rw [ha] at hx; exact hi _ _ ha i hx
   ·exact hi j m hj i hb
theorem qy1 {listed:Array Bool} (hc:qiS md ops listed) {j i:Nat} (h:Reach md ops j i):(∀ o,ops[j]? = some o->∀ e ∈ o.after,Region.binds md e = true->listed.getD e.on false = true)->listed.getD i false = true:=by
 induction h with
 | one ho he hb=>intro hall; exact hall _ ho _ he hb
 | step ho he hb _ ih=>intro hall; exact ih fun o2 ho2 e2 he2 hb2=>hc _ _ ho2 (hall _ ho _ he hb) e2 he2 hb2
theorem qzO {listed:Array Bool} {i j:Nat} (hc:qiS md ops listed) (hj:j ∈ Region.ready md ops listed) (hi:i ∈ Region.ready md ops listed) (hiA:i ∈ A):qfS md ops A j = false:=by
 cases hl:qfS md ops A j with
 | false=>rfl
 | true =>
  exfalso;obtain ⟨hjun,oj,hoj,hall⟩:=mem_ready.1 hj;have hun:¬ (listed.getD i false = true):=fun h1=>by
   have h0:=(mem_ready.1 hi).1;simp only [jb4] at h0 h1;cases hx:listed[i]? with
   | none=>rw [hx] at h1; cases h1
   | some b=>rw [hx] at h0 h1; simp only [ja2] at h0 h1; rw [h0] at h1; cases h1
  unfold qfS at hl;split at hl
  ·rename_i m hm
   have hb:=ja3.1 hl i hiA;have hr:=qqB (md:=md) (ops:=ops) ops.toList #[] (by simp) (by simp) j m hm i hb;exact hun (qy1 hc hr fun o ho e he hbe=>by
    rw [hoj] at ho; cases ho;exact hall e he hbe)
  ·cases hl
def qes (P:Program) (md:Region.Mode) (ops:Array Oper) (A:List Nat) (Q:Exit->Act->World->Prop) (S:World->Prop):Nat->Array Bool->Act->World->Prop
 | 0,listed,a,w=>Region.ready md ops listed = []/\Q .normal a w
 | fuel + 1,listed,a,w=>qiS md ops listed ->
  (Region.ready md ops listed = []->Q .normal a w) /\
  ∀ i ∈ Region.ready md ops listed,wpOp P ops Q i (fun a' w'=>(qfS md ops A i = true∨S w')/\qes P md ops A Q S fuel (listed.setIfInBounds i true) a' w') a w
theorem qq7:∀ (fuel:Nat) (listed:Array Bool) (a:Act) (w:World),qiS md ops listed->qes P md ops A Q S fuel listed a w->wpAny P md ops Q fuel listed a w
 | 0,_,_,_,_,h=>h
 | fuel + 1,_,_,_,hc,h=>⟨(h hc).1,fun i hi=>wpOp_mono (fun a' w' h'=>qq7 fuel _ a' w' (qrS hc hi) h'.2) ((h hc).2 i hi)⟩
theorem qyp {i:Nat} {oi:Oper} {v:Value} (hi:ops[i]? = some oi) (hiA:i ∈ A) (hsel:∀ (j:Nat) (o:Oper) cs b,ops[j]? = some o->o.op ≠ .select cs b)
  (hQ:∀ c a w,Q (.panic c) (a.put oi.dst v) w->Q (.panic c) a w) :
  ∀ (fuel:Nat) (listed:Array Bool) (a:Act) (w:World),
   (∀ j oj,ops[j]? = some oj->j ≠ i->listed.getD j true = false->(∀ e ∈ oj.after,Region.binds md e = true->e.on ≠ i)->oi.apart ops oj = true) ->
   i ∈ Region.ready md ops listed->YieldsIf P ops S oi v a->S w ->
   qes P md ops A Q S fuel (listed.setIfInBounds i true) (a.put oi.dst v) w->qes P md ops A Q S (fuel + 1) listed a w:=by
 intro fuel
 induction fuel with
 | zero =>
  intro listed a w _ hr hy hS H hc;refine ⟨fun h=>(by rw [h] at hr; cases hr),fun j hj=>?_⟩;by_cases hji:j = i
  ·subst hji; exact hy.wpOp hi hS ⟨.inr hS,H⟩
  ·have:=ready_mono hj hji
   rw [H.1] at this;cases this
 | succ fuel ih =>
  intro listed a w hfree hr hy hS H hc;refine ⟨fun h=>(by rw [h] at hr; cases hr),fun j hj=>?_⟩;by_cases hji:j = i
  ·subst hji; exact hy.wpOp hi hS ⟨.inr hS,H⟩
  ·have h1:=(H (qrS hc hr)).2 j (ready_mono hj hji)
   obtain ⟨hjun,oj,hoj,hall⟩:=mem_ready.1 hj;have hnot:∀ e ∈ oj.after,Region.binds md e = true->e.on ≠ i:=fun e he hb heq=>by
    have h1:=hall e he hb;have h0:=(mem_ready.1 hr).1;rw [heq] at h1;rcases jbu i listed.size with h' | h'
    ·simp [h'] at h0 h1; rw [h0] at h1; cases h1
    ·simp [jcx h'] at h1
   have h2:=wpOp_putIf hoj (hfree j oj hoj hji hjun hnot) (fun cs b=>hsel i oi cs b hi) (fun cs b=>hsel j oj cs b hoj) hQ hy h1;have hfree':∀ k ok,ops[k]? = some ok->k ≠ i->(listed.setIfInBounds j true).getD k true = false ->
     (∀ e ∈ ok.after,Region.binds md e = true->e.on ≠ i)->oi.apart ops ok = true:=fun k ok hk hki hun hno=>by
    refine hfree k ok hk hki ?_ hno;by_cases hjk:j = k
    ·subst hjk; exact hjun
    ·rw [getD_set_ne true hjk] at hun; exact hun
   have hlate:=qzO (A:=A) hc hj hr hiA;refine wpOp_mono (fun a' w' h3=>?_) h2;have hSw:S w':=h3.2.1.resolve_left (by rw [hlate]; simp);refine ⟨.inr hSw,ih (listed.setIfInBounds j true) a' w' hfree' (ready_mono hr (Ne.symm hji)) h3.1 hSw ?_⟩;rw [Array.setIfInBounds_comm _ _ hji];exact h3.2.2
theorem qpb {i:Nat} {oi:Oper} {v:Value} {fuel:Nat} {listed:Array Bool} {a:Act} {w:World} (hi:ops[i]? = some oi) (hiA:i ∈ A)
  (hs:Region.noSelect ops = true) (hf:Region.free md ops listed i = true) (hr:(Region.ready md ops listed).contains i = true)
  (hQ:∀ c a w,Q (.panic c) (a.put oi.dst v) w->Q (.panic c) a w) (hy:YieldsIf P ops S oi v a) (hS:S w)
  (h:qes P md ops A Q S fuel (listed.setIfInBounds i true) (a.put oi.dst v) w):qes P md ops A Q S (fuel + 1) listed a w :=
 qyp hi hiA (Region.noSelect_spec hs) hQ fuel listed a w (Region.free_spec hi hf) (by simpa using hr) hy hS h
theorem q46 {rs:List Nat} {fuel:Nat} {listed:Array Bool} {a:Act} {w:World} (hr:Region.ready md ops listed = rs) (hne:rs ≠ [])
  (h:∀ i ∈ rs,wpOp P ops Q i (fun a' w'=>(qfS md ops A i = true∨S w')/\qes P md ops A Q S fuel (listed.setIfInBounds i true) a' w') a w):qes P md ops A Q S (fuel + 1) listed a w :=
 fun _=>⟨fun h0=>absurd (hr ▸ h0) hne,hr ▸ h⟩
theorem q0x {listed:Array Bool} {a:Act} {w:World} (hr:Region.ready md ops listed = []) (h:Q .normal a w) :
  ∀ fuel,qes P md ops A Q S fuel listed a w
 | 0=>⟨hr,h⟩
 | _ + 1=>fun _=>⟨fun _=>h,by rw [hr]; simp⟩
theorem q0d {id:Nat} {a:Act} {w:World} (hm:P.follows .mixedOrders = true)
  (h:qes P .any ops A Q S ops.size (Array.replicate ops.size false) a { w with drawn:=w.drawn + 1 }):(Code.region id ops true).wp P Q a w :=
 wp_region_any hm (qq7 _ _ _ _ (qwB _) h)
end Go.Eng
namespace Go.Eng
open Go
variable {hF:Fr} {E:Ctx}
structure Base (E:Ctx) (Z0:Env) (RO:List SH) (NT:Nat) (Z:Env) (s:S):Prop where
 ro:s.ro = RO
 nt:s.nt = NT
 nv:E.me.nv <= s.nx
 ag:∀ m,m < E.me.nv->Z m = Z0 m
def qfk (RO:List SH) (NT:Nat) (pc:List (T × Bool)) (base nv:Nat) (env:List (Nat × SV)) (heap:List SH):S :=
 { env,heap,ro:=RO,pc,nx:=base + nv,nt:=NT }
def qws (E:Ctx) (hF:Fr) (RO:List SH) (NT:Nat) (pc:List (T × Bool)) (base:Nat) (I:Inv) (env:List (Nat × SV)) (heap:List SH) (Zh:Env) (m:Nat) (a:Act) (w:World):Prop :=
 ∃ Z2:Env,(∀ n,n < base->Z2 n = Zh n)/\Holds Z2 hF (qfk RO NT pc base I.nv env heap) a w/\I.inv (qeU base I.nv Z2)/\I.mu (qeU base I.nv Z2) = m
theorem qvb:∀ {a b:List T},qkz a b = true->a = b
 | [],[],_=>rfl
 | x :: a,y :: b,h=>by
  simp only [qkz,jag] at h;rw [T.same_eq h.1,qvb h.2]
 | [],_ :: _,h=>by simp [qkz] at h
 | _ :: _,[],h=>by simp [qkz] at h
theorem SH.same_eq {x y:SH} (h:x.same y = true):x = y:=by
 cases x <;> cases y <;> simp only [SH.same,jag,ja8,jas] at h
 ·obtain ⟨⟨h1,h2⟩,h3⟩:=h
  rw [Nat.eq_of_beq_eq_true h1,Nat.eq_of_beq_eq_true h2,qvb h3]
 ·obtain ⟨⟨⟨⟨h1,h2⟩,h3⟩,h4⟩,h5⟩:=h
  rw [Nat.eq_of_beq_eq_true h1,Nat.eq_of_beq_eq_true h2,h3,T.same_eq h4,T.same_eq h5]
 ·rw [Nat.eq_of_beq_eq_true h.1,Nat.eq_of_beq_eq_true h.2]
theorem qjl {Z:Env}:∀ {st heap:List SH} {hp:Hp},qdN st heap = true->qac Z heap hp->qac Z st hp
 | [],_,_,_,_=>trivial
 | _ :: _,[],_,h,_=>by simp [qdN] at h
 | x :: xs,y :: ys,hp,h,hs=>by
  obtain ⟨h1,h2,hd,hu,hy,hs'⟩:=hs;simp only [qdN] at h;split at h
  ·rename_i hsame
   have:=SH.same_eq hsame;subst this;exact ⟨h1,h2,hd,hu,hy,qjl h hs'⟩
  ·exact star_weaken (qjl h hs') (hu ▸ Hp.le_right hd)
theorem qfQ {Z:Env} {s:S} {a:Act} {w:World} {ops:Array Oper} {o:Oper} {g:Bool} (hs:Holds Z hF s a w) (h:qnx ops s o = some (some g)):Region.wanted o (yielded ops a.tmps) = g:=by
 unfold qnx at h;split at h
 ·simp at h
 ·rename_i hg
  simp only [jaa] at h; subst h;exact qgo hs hg
 ·rename_i c want hg
  split at h
  ·rename_i b hk
   simp only [jaa] at h; subst h;have h1:=qgo hs hg;simp only [qdK hs hk] at h1;rw [h1];cases b <;> cases want <;> rfl
  ·simp at h
def qqr (P:Program) (c:Code) (Q:Exit->Act->World->Prop) (a:Act) (w:World):Prop :=
 ∀ (b:Frame) k cs,∃ e a' w',Q e a' w'/\Arrives P (lone (b.at a (.code c :: .inLoop c :: k)) cs w) b k cs e a' w'
theorem q0z {P:Program} {c:Code} {Q:Exit->Act->World->Prop} {a:Act} {w:World} (h:qqr P c Q a w):(Code.loop c).wp P Q a w:=by
 intro b k cs;obtain ⟨e,a',w',hq,harr⟩:=h b k cs;exact ⟨e,a',w',hq,.of_steps (.one step_loop) harr⟩
theorem qnL {P:Program} {c:Code} {Q:Exit->Act->World->Prop} {a:Act} {w:World} (h:c.wp P (Exit.then (qqr P c Q) Q) a w):qqr P c Q a w:=by
 intro b k cs;obtain ⟨e,a₁,w₁,hq,harr⟩:=h b (.inLoop c :: k) cs;cases e with
 | normal =>
  obtain ⟨e₂,a₂,w₂,hq₂,harr₂⟩:=hq b k cs;exact ⟨e₂,a₂,w₂,hq₂,.of_steps (Steps.trans harr (.one step_inLoop)) harr₂⟩
 | exit id=>exact ⟨_,a₁,w₁,hq,.pass (x:=.inLoop c) rfl (fun _ _=>.inl (by simp)) harr⟩
 | goto l=>exact ⟨_,a₁,w₁,hq,.pass (x:=.inLoop c) rfl (fun _ _=>.inl (by simp)) harr⟩
 | ret=>exact ⟨_,a₁,w₁,hq,.pass (x:=.inLoop c) rfl (fun _ _=>.inl (by simp)) harr⟩
 | panic ch=>exact ⟨_,a₁,w₁,hq,.pass (x:=.inLoop c) rfl (fun _ _=>.inl (by simp)) harr⟩
 | outgrown=>exact ⟨_,a₁,w₁,hq,.pass (x:=.inLoop c) rfl (fun _ _=>.inl (by simp)) harr⟩
inductive KSem (E:Ctx) (hF:Fr) (QF:Exit->Act->World->Prop) (RO:List SH) (NT:Nat):Env->Nat->List KI->(Exit->Act->World->Prop)->Prop where
 | nil {Z:Env} {nx:Nat}:KSem E hF QF RO NT Z nx [] QF
 | code {Z:Env} {nx:Nat} {c:Code} {K:List KI} {q:Exit->Act->World->Prop} (h:KSem E hF QF RO NT Z nx K q):KSem E hF QF RO NT Z nx (.code c :: K) (Exit.then (c.wp E.P q) q)
 | blk {Z:Env} {nx id:Nat} {K:List KI} {q:Exit->Act->World->Prop} (h:KSem E hF QF RO NT Z nx K q):KSem E hF QF RO NT Z nx (.blk id :: K) (Exit.inBlock id q)
 | ops {Z:Env} {nx:Nat} {ops:Array Oper} {l:List Nat} {K:List KI} {q:Exit->Act->World->Prop} (h:KSem E hF QF RO NT Z nx K q):KSem E hF QF RO NT Z nx (.ops ops l :: K) (Exit.then (wpOps E.P ops q l) q)
 | lend {Z Zh:Env} {nx li base:Nat} {K:List KI} {q:Exit->Act->World->Prop} {I:Inv} {pc:List (T × Bool)} {env:List (Nat × SV)} {heap:List SH}
   (hI:E.invs[li]? = some I) (hb:base + I.nv <= nx) (hag:∀ m,m < base + I.nv->Z m = Zh m)
   (he:(Sg.subEnv { th:=1000,bd:=qd7 1000 base I.nv,eqI:=[],eqB:=[],eqD:=[] } I.env) = some env)
   (hh:(Sg.subHs { th:=1000,bd:=qd7 1000 base I.nv,eqI:=[],eqB:=[],eqD:=[] } I.heap) = some heap)
   (hf:I.fits base = true) (hro:RO.all (SH.inB base) = true) (hpc:pc.all (fun x=>x.1.inB base) = true) (hpt:∀ c b,(c,b) ∈ pc->(c.den Zh).b = b)
   (h:KSem E hF QF RO NT Z nx K q) :
   KSem E hF QF RO NT Z nx (.lend li base :: K) (Exit.then (fun a w=>∃ m,m < I.mu (qeU base I.nv Zh)/\qws E hF RO NT pc base I env heap Zh m a w) q)
 | cutE {Z Zh:Env} {nx li base:Nat} {K:List KI} {q:Exit->Act->World->Prop} {I:Inv} {pc:List (T × Bool)} {env:List (Nat × SV)} {heap:List SH}
   (hI:E.invs[li]? = some I) (hb:base <= nx) (hag:∀ m,m < base->Z m = Zh m)
   (he:(Sg.subEnv { th:=1000,bd:=qd7 1000 base I.nv,eqI:=[],eqB:=[],eqD:=[] } I.env) = some env)
   (hh:(Sg.subHs { th:=1000,bd:=qd7 1000 base I.nv,eqI:=[],eqB:=[],eqD:=[] } I.heap) = some heap)
   (hf:I.fits base = true) (hro:RO.all (SH.inB base) = true) (hpc:pc.all (fun x=>x.1.inB base) = true) (hpt:∀ c b,(c,b) ∈ pc->(c.den Zh).b = b)
   (h:KSem E hF QF RO NT Z nx K q) :
   KSem E hF QF RO NT Z nx (.cutE li base :: K) (Exit.then (fun a w=>∃ m,qws E hF RO NT pc base I env heap Zh m a w) q)
 | again {Z:Env} {nx:Nat} {c:Code} {K:List KI} {q:Exit->Act->World->Prop} (h:KSem E hF QF RO NT Z nx K q):KSem E hF QF RO NT Z nx (.again c :: K) (Exit.then (qqr E.P c q) q)
 | any {Z:Env} {nx:Nat} {K:List KI} {q:Exit->Act->World->Prop} (Z0_:Env) (n0:Nat) (ops:Array Oper) (listed:Array Bool) (left:Nat) (st:List SH)
   (hst:st.all (SH.inB n0) = true) (hn:n0 <= nx) (hag:∀ m,m < n0->Z m = Z0_ m) (h:KSem E hF QF RO NT Z nx K q) :
   KSem E hF QF RO NT Z nx (.any ops listed left st :: K) (Exit.then (fun a w=>qes E.P .any ops (qhD E.me.ip ops) (NoPanic q) (fun w'=>qs Z0_ hF st w') left listed a w) q)
variable {QF:Exit->Act->World->Prop} {RO:List SH} {NT:Nat}
theorem KSem.mono {Z Z':Env} {nx nx':Nat} {K:List KI} {q:Exit->Act->World->Prop} (h:KSem E hF QF RO NT Z nx K q) (hn:nx <= nx') (ha:∀ m,m < nx->Z' m = Z m):KSem E hF QF RO NT Z' nx' K q:=by
 induction h with
 | nil=>exact .nil
 | code _ ih=>exact .code (ih hn ha)
 | blk _ ih=>exact .blk (ih hn ha)
 | ops _ ih=>exact .ops (ih hn ha)
 | again _ ih=>exact .again (ih hn ha)
 | lend hI hb hag he hh hf hro hpc hpt _ ih=>exact .lend hI (by omega) (fun m hm=>(ha m (by omega)).trans (hag m hm)) he hh hf hro hpc hpt (ih hn ha)
 | cutE hI hb hag he hh hf hro hpc hpt _ ih=>exact .cutE hI (by omega) (fun m hm=>(ha m (by omega)).trans (hag m hm)) he hh hf hro hpc hpt (ih hn ha)
 | any Z0_ n0 ops listed left st hst hnn hag _ ih=>exact .any Z0_ n0 ops listed left st hst (by omega) (fun m hm=>(ha m (by omega)).trans (hag m hm)) (ih hn ha)
theorem KSem.ret {Z:Env} {nx:Nat} {K:List KI} {q:Exit->Act->World->Prop} (h:KSem E hF QF RO NT Z nx K q) {a:Act} {w:World} (hq:QF .ret a w):q .ret a w:=by
 induction h with
 | nil=>exact hq
 | code _ ih=>exact ih
 | blk _ ih=>exact ih
 | ops _ ih=>exact ih
 | again _ ih=>exact ih
 | lend _ _ _ _ _ _ _ _ _ _ ih=>exact ih
 | cutE _ _ _ _ _ _ _ _ _ _ ih=>exact ih
 | any _ _ _ _ _ _ _ _ _ _ ih=>exact ih
theorem KSem.pop {id:Nat} {Z:Env} {nx:Nat} {K K':List KI} {q:Exit->Act->World->Prop} (h:KSem E hF QF RO NT Z nx K q) (hp:qfl id K = some K') :
  ∃ q',KSem E hF QF RO NT Z nx K' q'/\∀ a w,q' .normal a w->q (.exit id) a w:=by
 induction h with
 | nil=>simp [qfl] at hp
 | code _ ih=>obtain ⟨q',h1,h2⟩:=ih (by simpa [qfl] using hp); exact ⟨q',h1,h2⟩
 | ops _ ih=>obtain ⟨q',h1,h2⟩:=ih (by simpa [qfl] using hp); exact ⟨q',h1,h2⟩
 | again _ ih=>obtain ⟨q',h1,h2⟩:=ih (by simpa [qfl] using hp); exact ⟨q',h1,h2⟩
 | lend _ _ _ _ _ _ _ _ _ _ ih=>obtain ⟨q',h1,h2⟩:=ih (by simpa [qfl] using hp); exact ⟨q',h1,h2⟩
 | cutE _ _ _ _ _ _ _ _ _ _ ih=>obtain ⟨q',h1,h2⟩:=ih (by simpa [qfl] using hp); exact ⟨q',h1,h2⟩
 | any _ _ _ _ _ _ _ _ _ _ ih=>obtain ⟨q',h1,h2⟩:=ih (by simpa [qfl] using hp); exact ⟨q',h1,h2⟩
 | @blk nx j K q h ih =>
  simp only [qfl] at hp;split at hp
  ·rename_i hid
   have hid:=Nat.eq_of_beq_eq_true hid;simp only [jaa] at hp; subst hp;exact ⟨q,h,fun a w hq=>by simp only [Exit.inBlock,hid,jbz]; exact hq⟩
  ·rename_i hid
   obtain ⟨q',h1,h2⟩:=ih hp;refine ⟨q',h1,fun a w hq=>?_⟩;have:¬ id = j:=fun he=>hid (by rw [he]; simp)
   simp only [Exit.inBlock,this,jbd];exact h2 a w hq
theorem qvk {P:Program} {Q:Exit->Act->World->Prop} {c:Code} (I:Nat->Act->World->Prop)
  (round:∀ m a w,I m a w->c.wp P (Exit.then (fun a' w'=>∃ m',m' < m/\I m' a' w') Q) a w):∀ m a w,I m a w->(Code.loop c).wp P Q a w:=by
 intro m a w h₀ b k cs;have key:∀ m a w,I m a w->∃ e a' w',Q e a' w'/\Arrives P (lone (b.at a (.code c :: .inLoop c :: k)) cs w) b k cs e a' w':=by
  intro m
  induction m using Nat.strongRecOn with
  | _ m ih =>
   intro a w hI;obtain ⟨e,a₁,w₁,hq,harr⟩:=round m a w hI b (.inLoop c :: k) cs;cases e with
   | normal =>
    obtain ⟨m',hlt,hI₁⟩:=hq;obtain ⟨e₂,a₂,w₂,hq₂,harr₂⟩:=ih m' hlt a₁ w₁ hI₁;exact ⟨e₂,a₂,w₂,hq₂,.of_steps (Steps.trans harr (.one step_inLoop)) harr₂⟩
   | exit id=>exact ⟨_,a₁,w₁,hq,.pass (x:=.inLoop c) rfl (fun _ _=>.inl (by simp)) harr⟩
   | goto l=>exact ⟨_,a₁,w₁,hq,.pass (x:=.inLoop c) rfl (fun _ _=>.inl (by simp)) harr⟩
   | ret=>exact ⟨_,a₁,w₁,hq,.pass (x:=.inLoop c) rfl (fun _ _=>.inl (by simp)) harr⟩
   | panic ch=>exact ⟨_,a₁,w₁,hq,.pass (x:=.inLoop c) rfl (fun _ _=>.inl (by simp)) harr⟩
   | outgrown=>exact ⟨_,a₁,w₁,hq,.pass (x:=.inLoop c) rfl (fun _ _=>.inl (by simp)) harr⟩
 obtain ⟨e,a',w',hq,harr⟩:=key m a w h₀;exact ⟨e,a',w',hq,.of_steps (.one step_loop) harr⟩
theorem qqn {Z:Env}:∀ {ps:List (Nat × SV)} {env:List (Nat × SV)} {V V':Sg},qhP ps env V = some V'->Ext V V'/\∀ Vf,Ext V' Vf->Sat Vf Z ->
  ∀ t p,(t,p) ∈ ps->∃ v,qbc t env = some v/\p.den (Vf.env Z) = v.den Z
 | [],env,V,V',h=>by simp only [qhP,jaa] at h; subst h; exact ⟨Ext.refl _,fun _ _ _ t p hp=>by cases hp⟩
 | (t0,p0) :: ps,env,V,V',h=>by
  simp only [qhP] at h;split at h
  ·rename_i v hv
   simp only [jam] at h;obtain ⟨V1,h1,h2⟩:=h;have g1:=qmR (Z:=Z) h1;have g2:=qqn (Z:=Z) h2;refine ⟨g1.1.trans g2.1,fun Vf he hs t p hp=>?_⟩;cases hp with
   | head=>exact ⟨v,hv,g1.2 Vf (g2.1.trans he) hs⟩
   | tail _ hp=>exact g2.2 Vf he hs t p hp
  ·simp at h
theorem qoZ {V:Sg}:∀ {l l':List (Nat × SV)},V.subEnv l = some l'->∀ t v,qbc t l' = some v->∃ p,(t,p) ∈ l/\V.subSV p = some v
 | [],l',h,t,v,hv=>by simp only [Sg.subEnv,jaa] at h; subst h; simp [qbc] at hv
 | (k,p) :: r,l',h,t,v,hv=>by
  simp only [Sg.subEnv] at h;split at h
  ·rename_i a b ha hb
   simp only [jaa] at h; subst h;simp only [qbc] at hv;split at hv
   ·rename_i ht
    have ht:=Nat.eq_of_beq_eq_true ht;simp only [jaa] at hv; subst hv; subst ht;exact ⟨p,jae ..,ha⟩
   ·obtain ⟨p',h1,h2⟩:=qoZ hb t v hv
    exact ⟨p',jad _ h1,h2⟩
  ·simp at h
theorem qlm (from_ base:Nat):∀ (k n:Nat),look n (qd7 from_ base k) = if from_ <= n/\n < from_ + k then some (.r (base + (n - from_))) else none
 | 0,n=>by rw [jaf (by omega)]; rfl
 | k + 1,n=>by
  simp only [qd7,look];split
  ·rename_i h
   have h:=Nat.eq_of_beq_eq_true h;rw [jah (by omega),h]
   congr 2; omega
  ·rename_i h
   have hne:n ≠ from_ + k:=fun he=>h (by rw [he]; simp)
   rw [qlm from_ base k n];by_cases hc:from_ <= n/\n < from_ + k
   ·rw [jah hc,jah (by omega)]
   ·rw [jaf hc,jaf (by omega)]
theorem qhQ {Z Zh:Env} {s:S} {a:Act} {w:World} {I:Inv} {base:Nat} {V:Sg} {rest:List SH} {cs:List T} {env:List (Nat × SV)} {heap:List SH} {pc:List (T × Bool)}
  (hs:Holds Z hF s a w) (hag:∀ m,m < base->Z m = Zh m)
  (hm:((qhP I.env s.env { th:=1000,bd:=[],eqI:=[],eqB:=[],eqD:=[] }).bind (mHs true I.heap s.heap [])) = some (rest,V)) (hl:V.left = some cs) (hc:∀ c ∈ cs,(c.den Z).b = true)
  (he:(Sg.subEnv { th:=1000,bd:=qd7 1000 base I.nv,eqI:=[],eqB:=[],eqD:=[] } I.env) = some env)
  (hh:(Sg.subHs { th:=1000,bd:=qd7 1000 base I.nv,eqI:=[],eqB:=[],eqD:=[] } I.heap) = some heap)
  (hf:I.fits base = true) (hro:s.ro.all (SH.inB base) = true) (hpc:pc.all (fun x=>x.1.inB base) = true) (hpt:∀ c b,(c,b) ∈ pc->(c.den Zh).b = b) :
  ∃ Z2:Env,(∀ n,n < base->Z2 n = Zh n)/\Holds Z2 hF (qfk s.ro s.nt pc base I.nv env heap) a w/\qeU base I.nv Z2 = cutE base I.nv (V.env Z):=by
 simp only [jam] at hm;obtain ⟨V1,hm1,hm2⟩:=hm;obtain ⟨hO,hd,hst,hsub,hwi⟩:=hs.hp;have g1:=qqn (Z:=Z) hm1;have g2:=qiz (Z:=Z) hs.gd hm2 hst;have hsat:=qlz (Z:=Z) hl hc;have hth:V.th = 1000:=by rw [g2.1.th,g1.1.th]
 let Z2:Env:=fun n=>if base <= n/\n < base + I.nv then V.env Z (1000 + (n - base)) else Z n
 have hlt:∀ n,n < base->Z2 n = Z n:=fun n hn=>by simp only [Z2]; rw [jaf (by omega)]
 have hgd:Z2.good:=fun n=>by
  simp only [Z2]; split
  ·exact Sg.env_good hs.gd V _
  ·exact hs.gd n
 -- the pattern's variables
 let Vn:Sg:={ th:=1000,bd:=qd7 1000 base I.nv,eqI:=[],eqB:=[],eqD:=[] }
 have hvar:∀ m,q44 base I.nv m = true->Vn.env Z2 m = V.env Z m:=by
  intro m hm;simp only [q44,jcy,jag,jbn,jd6] at hm;rcases hm with ⟨h1,h2⟩ | ⟨h1,h2⟩
  ·rw [Sg.env_lt (V:=Vn) h2,Sg.env_lt (V:=V) (by omega),hlt m h1]
  ·rw [Sg.env_look (V:=Vn) (b:=.r (base + (m - 1000))) (by simp only [Vn]; omega) (by simp only [Vn]; rw [qlm,jah ⟨h1,h2⟩])]
   simp only [Bd.den,Z2];rw [jah (by omega),show 1000 + (base + (m - 1000) - base) = m from by omega]
 simp only [Inv.fits,jag] at hf;refine ⟨Z2,fun n hn=>(hlt n hn).trans (hag n hn),⟨hgd,hs.nt,hs.df,fun t v hv=>?_,fun x hx=>?_,?_,fun c b hcb=>?_,fun x hx=>by cases hx⟩,?_⟩
 ·obtain ⟨p,hp1,hp2⟩:=qoZ he t v hv
  obtain ⟨u,hu1,hu2⟩:=g1.2 V g2.1 hsat t p hp1;rw [hs.env t u hu1,<- hu2,Sg.subSV_den hp2];exact (SV.den_congrS hvar p (ja3.1 hf.1 (t,p) hp1)).symm
 ·exact (SH.roden_congr (n:=base) (fun m hm=>(hlt m hm).symm) x (ja3.1 hro x hx) hF).1 (hs.ro x hx)
 ·obtain ⟨h1,h2,hd12,hu,hs1,hs2⟩:=g2.2 V (Ext.refl _) hsat
  subst hu;refine ⟨h1,(Hp.disj_union.1 hd).1,?_,?_⟩
  ·rw [qfk,Sg.subHs_den hh]
   exact qks (fun m hm=>(hvar m hm).symm) _ hf.2 h1 hs1
  ·refine ⟨Hp.sub_le hsub fun y o hy=>?_,hwi⟩
   simp only [Hp.union] at hy ⊢;cases hFy:hF y with
   | some o'=>rw [hFy] at hy; simpa using hy
   | none=>rw [hFy] at hy; simp only [jb2] at hy ⊢; simp [hy]
 ·rw [<- hpt c b hcb]
  exact congrArg U.b (T.den_congr (n:=base) (fun m hm=>(hlt m hm).trans (hag m hm)) c (ja3.1 hpc (c,b) hcb))
 ·funext n
  simp only [qeU,cutE];by_cases h1:n < 1000
  ·rw [jah h1,jah h1]
   by_cases h2:n < base
   ·rw [jah h2,jah h2,hlt n h2,Sg.env_lt (V:=V) (by omega)]
   ·rw [jaf h2,jaf h2]
  ·rw [jaf h1,jaf h1]
   by_cases h2:n < 1000 + I.nv
   ·rw [jah h2,jah h2]
    simp only [Z2];rw [jah (by omega),show 1000 + (base + (n - 1000) - base) = n from by omega]
   ·rw [jaf h2,jaf h2]
def qBo (E:Ctx) (hF:Fr) (Z0:Env) (e:Ending) (w':World):Prop :=
 ∃ (ai:Nat) (al:Alt) (Z':Env),E.me.alts[ai]? = some al/\Z'.good/\(∀ n,n < E.me.nv->Z' n = Z0 n)/\e = .returned (al.ret.den Z')/\al.post (Z'.upto (E.me.nv + al.k))/\qs Z' hF al.heap w'
theorem qfm {st:Bool} {Z Z0:Env} {s:S} {a:Act} {w:World} {v:SV} (hs:Holds Z hF s a w) (hb:Base E Z0 RO NT Z s):∀ (l:List Alt) (ai:Nat),(∀ j,l[j]? = E.me.alts[ai + j]?) ->
  (qk5 E.me s v st ai l).den E Z->qBo E hF Z0 (.returned (v.den Z)) w
 | [],ai,_,h=>h.elim
 | al :: r,ai,hl,h=>by
  have hnext:∀ j,r[j]? = E.me.alts[ai + 1 + j]?:=fun j=>by
   have:=hl (j + 1);simp only [ja6] at this;rw [this,show ai + (j + 1) = ai + 1 + j from by omega]
  have h0:E.me.alts[ai]? = some al:=by have:=hl 0; simpa using this.symm
  simp only [qk5] at h;split at h
  ·exact qfm hs hb r (ai + 1) hnext h
  ·rename_i rest ex hfit
   split at h
   ·exact qfm hs hb r (ai + 1) hnext h
   ·split at h
    ·exact h.elim
    ·rename_i hvin
     simp only [jbg,jb6] at hvin;obtain ⟨Z1,s1,a1,a2,a3,a4,a5,h⟩:=qdG hs h;rw [SV.den_congr (Z':=Z1) (fun m hm=>(a1 m hm).symm) v hvin];simp only at h;have hb1:Base E Z0 RO NT Z1 s1:=⟨a4.trans hb.ro,a5.trans hb.nt,jey hb.nv a2,fun m hm=>(a1 m (jd7 hm hb.nv)).trans (hb.ag m hm)⟩;split at h
     ·rename_i rest' V hm
      split at h
      ·rename_i cs hleft
       obtain ⟨hc,pc,hs',hk⟩:=qcn a3 h;simp only [jam] at hm;obtain ⟨V1,hm1,hm2⟩:=hm;obtain ⟨hO,hd,hst,hsub,hwi⟩:=a3.hp;have g1:=qmR (Z:=Z1) hm1;have g2:=qiz (Z:=Z1) a3.gd hm2 hst;have hsat:=qlz (Z:=Z1) hleft hc;have hth:V.th = E.me.nv:=by rw [g2.1.th,g1.1.th]
       simp only [Out.den,h0] at hk;refine ⟨ai,al,V.env Z1,h0,Sg.env_good a3.gd V,fun n hn=>?_,?_,hk,?_⟩
       ·rw [Sg.env_lt (V:=V) (by omega),hb1.ag n hn]
       ·rw [g1.2 V g2.1 hsat]
       ·obtain ⟨h1,h2,hd12,hu,hs1,hs2⟩:=g2.2 V (Ext.refl _) hsat
        subst hu;refine ⟨h1,(Hp.disj_union.1 hd).1,hs1,Hp.sub_le hsub fun y o hy=>?_,hwi⟩;simp only [Hp.union] at hy ⊢;cases hFy:hF y with
        | some o'=>rw [hFy] at hy; simpa using hy
        | none=>rw [hFy] at hy; simp only [jb2] at hy ⊢; simp [hy]
      ·exact h.elim
     ·exact h.elim
theorem qqe {mip:List (Nat × Nat)} {s:S} {f:FuncId} {args:List SV}:∀ {l:List Ctr} {n:Nat} {ci:Nat} {c:Ctr} {h:List SH} {V:Sg},qht mip s f args n l = some (ci,c,h,V) ->
  n <= ci/\l[ci - n]? = some c/\c.fn = f/\∃ Vi V0 V1,Vi.th = 0/\qkr c.args args Vi = some V0/\mHs true c.heap s.heap [] V0 = some (h,V1)/\∃ h',mHs false c.ro h (s.ro ++ qi4 { s with heap:=h }) V1 = some (h',V)
 | [],n,ci,c,h,V,hc=>by simp [qht] at hc
 | c0 :: r,n,ci,c,h,V,hc=>by
  have rec':qht mip s f args (n + 1) r = some (ci,c,h,V)->n <= ci/\(c0 :: r)[ci - n]? = some c/\c.fn = f/\∃ Vi V0 V1,Vi.th = 0/\qkr c.args args Vi = some V0 /\
    mHs true c.heap s.heap [] V0 = some (h,V1)/\∃ h',mHs false c.ro h (s.ro ++ qi4 { s with heap:=h }) V1 = some (h',V):=fun hc=>by
   obtain ⟨h1,h2,h3⟩:=qqe hc;refine ⟨by omega,?_,h3⟩;rw [show ci - n = (ci - (n + 1)) + 1 from by omega,ja6]; exact h2
  simp only [qht] at hc;split at hc
  ·rename_i hf
   have hf:=Nat.eq_of_beq_eq_true hf;split at hc
   ·rename_i h' V1 hm
    split at hc
    ·rename_i h'' V2 hm2
     split at hc
     ·simp only [jaa,jau] at hc
      obtain ⟨rfl,rfl,rfl,rfl⟩:=hc;simp only [jam] at hm;obtain ⟨V0,hm0,hm1⟩:=hm;exact ⟨ja4 _,by simp,hf,_,V0,V1,rfl,hm0,hm1,h'',hm2⟩
     ·exact rec' hc
    ·exact rec' hc
   ·exact rec' hc
  ·exact rec' hc
theorem qoG {Z:Env} {k:Nat->Alt->Out}:∀ {l:List Alt} {n ai:Nat} {al:Alt},l[ai]? = some al->(qtw k n l).den E Z->(k (n + ai) al).den E Z
 | [],n,ai,al,h,_=>by simp at h
 | a0 :: r,n,0,al,h,hd=>by
  simp only [jav,jaa] at h; subst h;exact hd.1
 | a0 :: r,n,ai + 1,al,h,hd=>by
  simp only [ja6] at h;have:=qoG (n:=n + 1) h hd.2
  rwa [show n + 1 + ai = n + (ai + 1) from by omega] at this
theorem qky {next:Act->World->Prop} {Q:Exit->Act->World->Prop} {a:Act} {w:World} (h:next a w):Exit.then next Q .normal a w:=h
theorem q17 {P:Program} {ops:Array Oper} {q:Exit->Act->World->Prop} {i:Nat} {l:List Nat} {o:Oper} {a:Act} {w:World} (ho:ops[i]? = some o)
  (hw:Region.wanted o (yielded ops a.tmps) = true) (h:o.wp P a w (wpOps P ops q l) q):wpOps P ops q (i :: l) a w:=by
 simp only [wpOps,ho,hw,jbz]; exact .inl h
theorem qCS {P:Program} {ops:Array Oper} {q:Exit->Act->World->Prop} {i:Nat} {l:List Nat} {o:Oper} {a:Act} {w:World} (ho:ops[i]? = some o)
  (hw:Region.wanted o (yielded ops a.tmps) = false) (h:wpOps P ops q l (a.put o.dst undef) w):wpOps P ops q (i :: l) a w:=by
 simp only [wpOps,ho,hw,jas,jbd]; exact h
theorem qhU {key:Nat}:∀ {l:List Inv} {n li:Nat} {I:Inv},qgY key l n = some (li,I)->n <= li/\l[li - n]? = some I
 | [],n,li,I,h=>by simp [qgY] at h
 | x :: r,n,li,I,h=>by
  simp only [qgY] at h;split at h
  ·simp only [jaa,jau] at h
   obtain ⟨rfl,rfl⟩:=h;simp
  ·obtain ⟨h1,h2⟩:=qhU h
   refine ⟨by omega,?_⟩;rw [show li - n = (li - (n + 1)) + 1 from by omega,ja6]; exact h2
theorem qmx {key:Nat} {s:S}:∀ {l:List Inv} {n li:Nat} {I:Inv},qiX key s l n = some (li,I)->n <= li/\l[li - n]? = some I
 | [],n,li,I,h=>by simp [qiX] at h
 | x :: r,n,li,I,h=>by
  simp only [qiX] at h;split at h
  ·simp only [jaa,jau] at h
   obtain ⟨rfl,rfl⟩:=h;simp
  ·obtain ⟨h1,h2⟩:=qmx h
   refine ⟨by omega,?_⟩;rw [show li - n = (li - (n + 1)) + 1 from by omega,ja6]; exact h2
theorem qyX {key:Nat} {s:S} {l:List Inv} {li:Nat} {I:Inv} (h:qtx key s l = some (li,I)):l[li]? = some I:=by
 unfold qtx at h;split at h
 ·rename_i x hx
  simp only [jaa] at h; subst h;simpa using (qmx hx).2
 ·simpa using (qhU h).2
theorem qw9 {s:S} {Z:Env} {a:Act} {w:World} {o:Oper} {f:Operand} {args:Array Operand} {tys:Array TypeId} {fid:FuncId} {as:List SV} {P:Program} (hs:Holds Z hF s a w) (hop:o.op = .call { callee:=.value f,args,argTypes:=tys })
  (h:qjj s { callee:=.value f,args,argTypes:=tys } = some (fid,as)) (hcall:∀ (args:Array Value) (w:World),(callFunc fid args).run P w = .ok (.enter fid args) w) :
  (execOp a.eval o).run P w = .ok (.enter fid (as.map (SV.den Z)).toArray) w:=by
 simp only [qjj] at h;split at h
 ·rename_i fid' first caps avs hf ha
  simp only [jaa,jau] at h;obtain ⟨rfl,rfl⟩:=h;have hef:=hs.opd hf;have hea:=hs.opds ha;simp only [SV.den] at hef;have h1:∀ l:List T,(l.map SV.one).map (SV.den Z) = qd Z l:=fun l=>by simp [qd,SV.den]
  simp only [execOp,hop,resolve,Deferred.ofValue,hef,Sem.run_bind,Sem.run_pure,Result.andThen_ok,invoke];rw [hcall]
  congr 2
  apply jcv;simp only [Array.toList_append,je9,hea,jcn,h1]
 ·simp at h
theorem qki {r:Nat}:∀ {l:List (List Nat × SH)} {x:List Nat × SH},qmV r l = some x->x ∈ l
 | y :: l,x,h=>by
  simp only [qmV] at h;split at h
  ·split at h
   ·simp only [jaa] at h; subst h; exact jae ..
   ·exact jad _ (qki h)
  ·exact jad _ (qki h)
theorem qhr {m:Nat}:∀ {l:List SH} {k i tag:Nat},qh5 m l i = some (k,tag)->∃ j,k = i + j/\l[j]? = some (.abs m tag)
 | .abs n t :: l,k,i,tag,h=>by
  simp only [qh5] at h;split at h
  ·rename_i he
   have he:=Nat.eq_of_beq_eq_true he;simp only [jaa,jau] at h;obtain ⟨rfl,rfl⟩:=h;subst he;exact ⟨0,rfl,rfl⟩
  ·obtain ⟨j,e1,e2⟩:=qhr h
   exact ⟨j + 1,by omega,e2⟩
 | .cells .. :: l,k,i,tag,h=>by
  simp only [qh5] at h;obtain ⟨j,e1,e2⟩:=qhr h;exact ⟨j + 1,by omega,e2⟩
 | .arr .. :: l,k,i,tag,h=>by
  simp only [qh5] at h;obtain ⟨j,e1,e2⟩:=qhr h;exact ⟨j + 1,by omega,e2⟩
 | [],k,i,tag,h=>by simp [qh5] at h
theorem qz2 {Z:Env} {s:S} {a:Act} {w:World} {o:Oper} {r:PutR} {P:Program} (hs:Holds Z hF s a w) (hsc:s.inNx = true) (h:qvx P s o = some r) (h0:0 <= (r.e.den Z).i) (h1:(r.e.den Z).i < ((r.d.den Z).d.length:Int)) :
  ∃ u w',u.good/\Put (Z r.m).h u.h (Z r.rg).r r.pat (r.d.den Z).d ((r.e.den Z).i.toNat * r.pat.length + r.c) (qd Z r.vs)/\o.dst = none/\(execOp a.eval o).run P w = .ok .skip w'/\qs (Z.set s.nx u) hF (s.heap.set r.k (.abs s.nx r.tag)) w':=by
 unfold qvx at h;split at h
 ·rename_i t x y hop hdst
  split at h
  ·rename_i rg p c e vs n hx hvs hsz
   split at h
   ·rename_i m r' el pat d cap hnone hview
    split at h
    ·rename_i k tag hpos
     split at h
     ·rename_i hcond
      simp only [jag,jd6] at hcond;obtain ⟨⟨⟨⟨⟨c0',c1⟩,c2⟩,c3⟩,c4⟩,c5⟩:=hcond;have c0':Nat.blt tag 1001 = true:=c0';have c1:=Nat.eq_of_beq_eq_true c1;have c2:=Nat.eq_of_beq_eq_true c2;have c3:=Nat.eq_of_beq_eq_true c3;simp only [jaa] at h; subst h;subst c1;simp only at h0 h1 ⊢;have hev:=hs.opd hx;simp only [jam] at hvs;obtain ⟨v,hv,hc⟩:=hvs;have hvev:=hs.opd hv;have hcd:=qjK hs.gd hc;obtain ⟨j,e1,e2⟩:=qhr hpos;rw [jbj] at e1; subst e1;obtain ⟨m',hm',hro⟩:=hs.vw _ (qki hview);rw [jak] at hm'; subst hm';have hlt:(e.den Z).i.toNat < (d.den Z).d.length:=by omega
      have hrow:=jac hlt;rcases hro with hd | ⟨b,o',c0,ty,fr,g1,g2,g3⟩
      ·have hd':(d.den Z).d = []:=hd
       rw [hd'] at hlt; simp at hlt
      obtain ⟨hO,hdj,hst,hsub,hwi⟩:=hs.hp;obtain ⟨t1,t2,td,tu,tx,ts⟩:=qae hst e2;have hfr:fr = (0,0):=by
       obtain ⟨_,_,hh⟩:=tx.2 c0' b _ g2;simp only [Obj.cells.injEq] at hh; exact hh.2.2
      subst hfr;have hle:Hp.le t1 (Hp.union hF hO):=Hp.le_trans (tu ▸ Hp.le_left t1 t2) (Hp.le_right hdj);have g2':=tx.1 _ _ g2;have hwb:=hsub _ _ (hle _ _ g2');obtain ⟨hfit,hcells⟩:=g3 _ _ hrow;have hvl:(qd Z vs).length = vs.length:=by simp [qd]
      have hsize:(o' + ((e.den Z).i.toNat * p + c)) + (qd Z vs).length <= c0.size:=by
       rw [hvl,c2];have hlast:p - 1 < ((d.den Z).d[(e.den Z).i.toNat]).length:=by rw [hfit.1,<- c3]; omega
       have:=hcells (p - 1) _ (jac hlast);have:=(jcm.1 this).1;rw [<- c3] at this;omega
      obtain ⟨w',c1,hrun,hw1,hw2,hwrote,hos⟩:=qnE (P:=P) (w:=w) (off:=o' + ((e.den Z).i.toNat * p + c)) hsz hcd (by rw [hvl,c2]) hwb (qhY hs.gd vs) hsize;refine ⟨{ h:=Hp.upd (Z m').h b (.cells c1 ty (0,0)) },w',by simp [U.good,Value.oneCell'],⟨b,o',c0,c1,ty,g1,g2,g3,by rw [<- c3]; exact hwrote,rfl⟩,hdst,?_,?_⟩
      ·simp only [SV.den,T.den,O1.den,g1,qn,ja0] at hev
       simp [execOp,hop,hev,hvev,Instr.storeAt,Instr.sureAddr,hrun]
      ·have hdisj:Hp.disj (Hp.upd t1 b (.cells c1 ty (0,0))) t2:=fun y=>by
        rcases td y with h | h
        ·unfold Hp.upd
         split
         ·rename_i he; subst he; rw [g2'] at h; cases h
         ·exact .inl h
        ·exact .inr h
       have hag:∀ q,q < s.nx->Z q = (Z.set s.nx { h:=Hp.upd (Z m').h b (.cells c1 ty (0,0)) }) q:=fun q hq=>(Env.set_ne Z _ (by omega)).symm
       refine ⟨Hp.union (Hp.upd t1 b (.cells c1 ty (0,0))) t2,?_,qdr e2 (qaA hag _ ?_ _ ts) hdisj ?_,?_,⟨hos.1.trans hwi.1,hos.2.trans hwi.2⟩⟩
       ·intro y
        rcases hdj y with h | h
        ·exact .inl h
        ·right
         rw [tu] at h;simp only [Hp.union,jcr] at h ⊢;refine ⟨?_,h.2⟩;unfold Hp.upd;split
         ·rename_i he; subst he; rw [g2'] at h; cases h.1
         ·exact h.1
       ·have:=(qbm hsc).2.1
        exact ja3.2 fun x hx=>ja3.1 this x (jde hx)
       ·simp only [SH.den,Env.set_same]
        refine ⟨fun y ob hy=>?_,fun _ y ob hy=>?_⟩
        ·unfold Hp.upd at hy ⊢
         split at hy
         ·rename_i he; rw [jah he]; exact hy
         ·rename_i he; rw [jaf he]; exact tx.1 _ _ hy
        ·unfold Hp.upd at hy
         split at hy
         ·exact ⟨_,_,(jax hy).symm⟩
         ·exact tx.2 c0' _ _ hy
       ·intro y ob hy
        by_cases hyb:y = b
        ·subst hyb
         have hFn:hF y = none:=(hdj y).resolve_right (by rw [tu]; simp [Hp.union,g2']);simp only [Hp.union,hFn,Hp.upd,jbz,jb2,jc5,jaa] at hy;rw [hw1,hy]
        ·rw [hw2 y hyb]
         refine hsub y ob ?_;rw [tu];simp only [Hp.union,Hp.upd,hyb,jbd] at hy ⊢;exact hy
     ·cases h
    ·cases h
   ·cases h
  ·cases h
 ·cases h
theorem qAp {P:Program} {w:World} {src e:TypeId} {b:Nat} {c:Array Value} {ty:TypeId} {l cap off:Nat} (hs:P.underlying src = some (.slice e)) (he:P.underlying e = some (.int .u8)) (hb:w.heap[b]? = some (.cells c ty (0,0))) :
  (convert src src (.slice (some ⟨b,off,none⟩) l cap)).run P w = .ok (.slice (some ⟨b,off,none⟩) l cap) (w.freeze ⟨b,c.size,none⟩ 1):=by
 have hsh:w.shape? b = some (ty,c.size):=by simp [World.shape?,hb]
 simp [convert,run_underlying hs,run_underlying he,markStringish,hsh]
theorem qzx {w:World} {b:Nat} {c:Array Value} {ty:TypeId} {n:Nat} (hb:w.heap[b]? = some (.cells c ty (0,0))) :
  (w.freeze ⟨b,n,none⟩ 1).heap[b]? = some (.cells c ty (n,n + 1))/\(∀ y,y ≠ b->(w.freeze ⟨b,n,none⟩ 1).heap[y]? = w.heap[y]?)/\(w.freeze ⟨b,n,none⟩ 1).os = w.os/\(w.freeze ⟨b,n,none⟩ 1).output = w.output:=by
 refine ⟨by simp [World.freeze,jb9,hb],fun y hy=>?_,by simp [World.freeze],by simp [World.freeze]⟩;unfold World.freeze;rw [jaf (by decide)];simp only [jb9];rw [jaf (fun h=>hy h.symm)]
theorem q0b {Z:Env} {s:S} {a:Act} {w:World} {o:Oper} {P:Program} {k:Nat} {y:SH} {v:SV} (hs:Holds Z hF s a w) (hsc:s.inNx = true) (h:q2Y P s o = some (k,y,v)) :
  ∃ u w',u.good/\v.inB s.nx = true/\(execOp a.eval o).run P w = .ok (.value (v.den Z)) w'/\qs (Z.set s.nx u) hF (.abs s.nx 1001 :: s.heap.eraseIdx k) w'/\y.roden (Z.set s.nx u) u.h:=by
 unfold q2Y at h;split at h
 ·rename_i src dst x hop
  split at h
  ·rename_i hsd
   have hsd:=Nat.eq_of_beq_eq_true hsd;subst hsd;split at h
   ·rename_i e hu
    split at h
    ·rename_i r p off len cap he hx
     split at h
     ·rename_i k' r' ty cs hat
      split at h
      ·rename_i hrr
       have hrr:=Nat.eq_of_beq_eq_true hrr;subst hrr;simp only [jaa,jau] at h;obtain ⟨rfl,rfl,rfl⟩:=h;have hev:=hs.opd hx;obtain ⟨hk,_⟩:=qO hat;obtain ⟨hO,hdj,hst,hsub,hwi⟩:=hs.hp;obtain ⟨t1,t2,td,tu,tx,ts⟩:=qae hst hk;obtain ⟨b,g1,g2⟩:=tx;have hle:Hp.le t1 (Hp.union hF hO):=Hp.le_trans (tu ▸ Hp.le_left t1 t2) (Hp.le_right hdj);have hwb:=hsub _ _ (hle _ _ g2);obtain ⟨f1,f2,f3,f4⟩:=qzx (n:=(qd Z cs).toArray.size) hwb;have hpar:=qbm hsc;have hvin:SV.inB s.nx (.one (.c3 (.vslice r p) off len cap)) = true:=qmX (by simp only [S.scopedEH,jag]; exact ⟨hpar.1,hpar.2.1⟩) hx;have hyin:SH.inB s.nx (.cells r ty cs) = true:=ja3.1 hpar.2.1 _ (jbl hk)
       let ob:Obj:=.cells (qd Z cs).toArray ty ((qd Z cs).toArray.size,(qd Z cs).toArray.size + 1)
       have hag:∀ q,q < s.nx->Z q = (Z.set s.nx { h:=Hp.upd t1 b ob }) q:=fun q hq=>(Env.set_ne Z _ (by omega)).symm
       refine ⟨{ h:=Hp.upd t1 b ob },_,by simp [U.good,Value.oneCell'],hvin,?_,⟨Hp.union (Hp.upd t1 b ob) t2,?_,⟨Hp.upd t1 b ob,t2,?_,rfl,?_,?_⟩,?_,⟨f3.trans hwi.1,f4.trans hwi.2⟩⟩,?_⟩
       ·simp only [SV.den,T.den,O3.den,g1,qn,ja0,jbj] at hev ⊢
        simp only [execOp,hop,Sem.run_bind,hev,qAp hu he hwb,Result.andThen_ok,Sem.run_pure]
       ·intro q
        rcases hdj q with h | h
        ·exact .inl h
        ·right
         rw [tu] at h;simp only [Hp.union,jcr] at h ⊢;refine ⟨?_,h.2⟩;unfold Hp.upd;split
         ·rename_i he; subst he; rw [g2] at h; cases h.1
         ·exact h.1
       ·intro q
        rcases td q with h | h
        ·unfold Hp.upd
         split
         ·rename_i he; subst he; rw [g2] at h; cases h
         ·exact .inl h
        ·exact .inr h
       ·simp only [SH.den,Env.set_same]
        exact ⟨Hp.le_refl _,fun h=>by cases h⟩
       ·refine qaA hag _ ?_ _ ts
        exact ja3.2 fun x hx=>ja3.1 hpar.2.1 x (jde hx)
       ·intro q o' hq
        by_cases hqb:q = b
        ·subst hqb
         have hFn:hF q = none:=(hdj q).resolve_right (by rw [tu]; simp [Hp.union,g2]);simp only [Hp.union,hFn,Hp.upd,jbz,jb2,jc5,jaa] at hq;rw [f1,<- hq]
        ·rw [f2 q hqb]
         refine hsub q o' ?_;rw [tu];simp only [Hp.union,Hp.upd,hqb,jbd] at hq ⊢;exact hq
       ·refine (SH.roden_congr hag _ hyin _).1 ⟨b,0,(qd Z cs).toArray,ty,_,g1,by simp only [Hp.upd,jbz]; rfl,fun q v hv=>by simpa using hv⟩
      ·cases h
     ·cases h
    ·cases h
   ·cases h
  ·cases h
 ·cases h
theorem Sg.clean_env (V:Sg) (Z:Env):V.clean.env Z = V.env Z:=rfl
theorem q0y {Z0 Z:Env} {s:S} {a:Act} {w:World} {i:Nat} {o:Oper} {q q':Exit->Act->World->Prop} {K:List KI} {next:Act->World->Prop} {k:S->Out} (hctr:∀ c ∈ E.ctrs,c.ok E.P)
  (hs:Holds Z hF s a w) (hb:Base E Z0 RO NT Z s) (hk:KSem E hF QF RO NT Z s.nx K q)
  (hnext:∀ Z' s' a' w',(∀ m,m < s.nx->Z' m = Z m)->s.nx <= s'.nx->KSem E hF QF RO NT Z' s'.nx K q->Holds Z' hF s' a' w'->Base E Z0 RO NT Z' s'->(k s').den E Z'->next a' w')
  (h:(qv2 E s i o k).den E Z):o.wp E.P a w next q':=by
 unfold qv2 at h;split at h
 ·rename_i f args tys hop
  split at h
  ·exact h.elim
  ·rename_i fid as hca
   split at h
   ·exact h.elim
   ·rename_i ci c hp V hcc
    obtain ⟨_,hci,hfn,Vi,V0,V1,hith,hm0,hm1,h',hm2⟩:=qqe hcc;simp only [jei] at hci;have hok:=hctr c (jbl hci);subst hfn;split at h
    ·exact h.elim
    ·rename_i cs hleft
     obtain ⟨hc,pc,hs',h⟩:=qcn hs h;obtain ⟨hpre,h⟩:=h;simp only [hci] at hpre;have hsat:=qlz (Z:=Z) hleft hc;obtain ⟨hO,hd,hst,hsub,hwi⟩:=hs.hp;have g0:=qqY (Z:=Z) hm0;have g1:=qiz (Z:=Z) hs.gd hm1 hst
     -- what is only read, in what is left
     obtain ⟨_,h1,h2,hd12,hu,hst1,hst2⟩:∃ _:True,∃ h1 h2,Hp.disj h1 h2/\hO = Hp.union h1 h2/\qac (V.env Z) c.heap h1/\qac Z hp h2:=by
      obtain ⟨x1,x2,y⟩:=g1.2 V (by
       have:=qeH hm2;exact this) hsat
      exact ⟨trivial,x1,x2,y⟩
     subst hu;have hdF:=Hp.disj_union.1 hd;have hro2:∀ x ∈ s.ro ++ qi4 { s with heap:=hp },x.roden Z (Hp.union hF h2):=by
      intro x hx;rcases jaw.1 hx with hx | hx
      ·exact SH.ro_mono (hs.ro x hx) (Hp.le_left _ _)
      ·refine qvu (s':={ s with heap:=hp }) hs.vw (fun m hm=>?_) x hx
       rcases qpz hst2 hs.ro hm with h | h
       ·exact Hp.le_trans h (Hp.le_right hdF.2)
       ·exact Hp.le_trans h (Hp.le_left _ _)
     have g2:=qkE (Z:=Z) hs.gd (hF:=Hp.union hF h2) (H:=Hp.union hF h2) hm2 hst2 hro2 (Hp.le_right hdF.2) (Hp.le_refl _);have hrun:=qw9 hs hop hca hok.1;have hargs:(c.args.map (SV.den (V.env Z))).toArray = (as.map (SV.den Z)).toArray:=by rw [g0.2 V ((g1.1).trans g2.1) hsat]
     have hcalls:=hok.2 (V.env Z) w ⟨Hp.union hF h2,hF.os,hF.out⟩ h1 (Sg.env_good hs.gd V) (Hp.disj_union'.2 ⟨hdF.1,hd12.symm⟩)
      ⟨by
       refine Hp.sub_le hsub ?_;rw [Hp.union_assoc,Hp.union_comm hd12.symm];exact Hp.le_refl _,hwi⟩
      hst1 (g2.2.2 V (Ext.refl _) hsat) hpre
     rw [hargs] at hcalls;unfold Oper.wp;rw [hrun,Oper.upon_enter];refine hcalls.mono ?_
     rintro e w' ⟨ai,al,Z',hal,hg',hag',rfl,hpost,hheap⟩
     simp only;have h:=qoG (n:=0) hal h;simp only [jbj] at h;split at h
     ·exact h.elim
     ·rename_i hchk
      simp only [jbg,jb6,q51,jag] at hchk;obtain ⟨⟨hbd,hret⟩,hheapS⟩:=hchk
      let us:List U:=(List.range al.k).map fun j=>Z' (c.nv + j)
      have hul:us.length = al.k:=by simp [us]
      have hug:∀ u ∈ us,u.good:=fun u hu=>by
       obtain ⟨j,_,rfl⟩:=jbk.1 hu;exact hg' _
      rw [<- hul] at h;obtain ⟨hsc,h⟩:=qfe hug h;rw [hul] at h
      -- the contract's variables, seen from here
      have hth:V.th = 0:=by rw [g2.1.th,g1.1.th,g0.1.th,hith]
      have hlookbd:∀ n b,look n V.bd = some b->n < c.nv/\b.inB s.nx = true:=by
       intro n b hl;have:∀ (l:List (Nat × Bd)),l.all (fun x=>Nat.blt x.1 c.nv && x.2.inB s.nx) = true->look n l = some b->n < c.nv/\b.inB s.nx = true:=by
        intro l
        induction l with
        | nil=>intro _ h; simp [look] at h
        | cons x l ih =>
         intro hall hlk;obtain ⟨kx,bx⟩:=x;simp only [jdh,jag,jbn] at hall;simp only [look] at hlk;split at hlk
         ·rename_i hn
          have hn:=Nat.eq_of_beq_eq_true hn;simp only [jaa] at hlk;subst hlk; subst hn;exact hall.1
         ·exact ih (by simpa using hall.2) hlk
       exact this V.bd hbd hl
      have hbden:∀ b:Bd,b.inB s.nx = true->b.den (qq Z s.nx us) = b.den Z:=by
       intro b hbin;cases b with
       | t x=>exact T.den_congr (n:=s.nx) (fun m hm=>qaF us Z s.nx m hm) x hbin
       | r m=>exact qaF us Z s.nx m (by simpa [Bd.inB] using hbin)
       | nil=>rfl
      have henv:∀ n,n < c.nv->V.env (qq Z s.nx us) n = Z' n:=by
       intro n hn;rw [hag' n hn];unfold Sg.env;rw [jaf (by omega),jaf (by omega)];cases hl:look n V.bd with
       | none=>rfl
       | some b=>exact hbden b (hlookbd n b hl).2
      have hget:∀ j,j < al.k->qq Z s.nx us (s.nx + j) = Z' (c.nv + j):=fun j hj =>
       qli us Z s.nx j _ (by simp only [us,jaq]; rw [jbp hj]; rfl)
      let V':Sg:={ V with bd:=qd7 c.nv s.nx al.k ++ V.bd }
      have lookapp:∀ (l l':List (Nat × Bd)) n,look n (l ++ l') = (look n l).or (look n l'):=by
       intro l l' n
       induction l with
       | nil=>simp [look]
       | cons x l ih =>
        obtain ⟨kx,bx⟩:=x;simp only [jd1,look];split
        ·rfl
        ·exact ih
      have henv':∀ n,Nat.blt n (c.nv + al.k) = true->V'.env (qq Z s.nx us) n = Z' n:=by
       intro n hn;simp only [jbn] at hn;unfold Sg.env;rw [jaf (by simp only [V']; omega)];simp only [V',lookapp,qlm];by_cases hlt:n < c.nv
       ·rw [jaf (by omega)]
        have:=henv n hlt;unfold Sg.env at this;rw [jaf (by omega)] at this;simpa using this
       ·rw [jah (by omega)]
        simp only [jc5,Bd.den];rw [hget (n - c.nv) (by omega),show c.nv + (n - c.nv) = n from by omega]
      split at h
      ·rename_i v hv' hsv hhs
       split at h
       ·rename_i s2 hput
        have hvden:SV.den (qq Z s.nx us) v = al.ret.den Z':=by
         rw [Sg.subSV_den hsv];exact SV.den_congrS henv' _ hret
        obtain ⟨hO',hd',hst',hsub',hwi'⟩:=hheap;have hdd:=Hp.disj_union'.1 hd';have hfr:=Holds.fresh (us:=us) (n:=s.nx + al.k) (s:={ s with heap:=hp,pc:=pc })
         (⟨hs'.gd,hs'.nt,hs'.df,hs'.env,hs'.ro,⟨h2,hdF.2,hst2,Hp.sub_le hsub (by
          intro y ob hy;simp only [Hp.union] at hy ⊢;cases hFy:hF y with
          | some o'=>rw [hFy] at hy; simpa using hy
          | none =>
           rw [hFy] at hy;simp only [jb2] at hy ⊢;rcases hd12 y with hz | hz
           ·rw [hz]; simpa using hy
           ·rw [hz] at hy; cases hy),hwi⟩,hs'.pc,hs'.vw⟩:Holds Z hF { s with heap:=hp,pc:=pc } a w) hsc hug
        have hstn:qac (qq Z s.nx us) hp h2:=by
         rcases hsc with hnil | hsc
         ·rw [hnil]; exact hst2
         ·exact qaA (n:=s.nx) (fun m hm=>(qaF us Z s.nx m hm).symm) _ (qbm hsc).2.1 _ hst2
        have hstv:qac (qq Z s.nx us) hv' hO':=by
         rw [Sg.subHs_den hhs];exact qks (fun m hm=>(henv' m hm).symm) _ hheapS _ hst'
        have hH:Holds (qq Z s.nx us) hF { s with heap:=hv' ++ hp,pc:=pc,nx:=s.nx + al.k } a w':=by
         refine ⟨hfr.gd,hfr.nt,hfr.df,hfr.env,hfr.ro,⟨Hp.union hO' h2,Hp.disj_union.2 ⟨hdd.1,hdF.2⟩,qkw hstv hstn hdd.2.symm,?_,hwi'⟩,hfr.pc,hfr.vw⟩;refine Hp.sub_le hsub' ?_;rw [Hp.union_comm hdd.2.symm,<- Hp.union_assoc];exact Hp.le_refl _
        obtain ⟨hp2,e1,e2,e3,e4⟩:=Holds.put hH hput;rw [hvden] at hp2;have hmix:q4O c.nv al.k s.nx (V.env (qq Z s.nx us)) (qq Z s.nx us) = Z'.upto (c.nv + al.k):=by
         funext n
         simp only [q4O,Env.upto];by_cases hlt:n < c.nv
         ·rw [jah hlt,jah (by omega),henv n hlt]
         ·rw [jaf hlt]
          by_cases hlt2:n < c.nv + al.k
          ·rw [jah hlt2,jah hlt2,hget (n - c.nv) (by omega),show c.nv + (n - c.nv) = n from by omega]
          ·rw [jaf hlt2,jaf hlt2]
        have hfin:=h (by simp only [hci,hal,Sg.clean_env,hmix]; exact hpost);exact hnext _ s2 _ _ (fun m hm=>qaF us Z s.nx m hm) (by rw [e1]; simp) (by rw [e1]; exact hk.mono (by simp) (fun m hm=>qaF us Z s.nx m hm)) hp2
         ⟨e2.trans hb.ro,e3.trans hb.nt,by rw [e1]; have:=hb.nv; simp only; omega,fun m hm=>by rw [qaF us Z s.nx m (by have:=hb.nv; omega)]; exact hb.ag m hm⟩ hfin
       ·exact h.elim
      ·exact h.elim
 ·split at h
  ·rename_i r hr
   split at h
   ·rename_i hsc
    obtain ⟨us,mb,w',hwhich,hul,hug,hheap,hran⟩:=qzB hs hsc hr h;have hf:=Holds.fresh (us:=us) (n:=s.nx + us.length) hs (.inr hsc) hug;have hlt:∀ m,m < s.nx->(qq Z s.nx us) m = Z m:=fun m hm=>qaF us Z s.nx m hm
    have hH:Holds (qq Z s.nx us) hF { s with heap:=mb.heap,nx:=s.nx + mb.fresh } a w':=by
     rw [<- hul];exact ⟨hf.gd,hf.nt,hf.df,hf.env,hf.ro,hheap,hf.pc,hf.vw⟩
    have hcont:(qot s i o k mb).den E (qq Z s.nx us):=by
     rcases hwhich with ⟨rfl,hw⟩ | ⟨hb,hw⟩
     ·exact hw
     ·rw [hb] at hw; exact hw
    unfold qot at hcont;split at hcont
    ·rename_i s2 hput
     have hbase:∀ s2:S,s2.nx = s.nx + mb.fresh->s2.ro = s.ro->s2.nt = s.nt->Base E Z0 RO NT (qq Z s.nx us) s2:=fun s2 e1 e2 e3 =>
      ⟨e2.trans hb.ro,e3.trans hb.nt,by rw [e1]; have:=hb.nv; omega,fun m hm=>by rw [hlt m (by have:=hb.nv; omega)]; exact hb.ag m hm⟩
     have hkm:∀ s2:S,s2.nx = s.nx + mb.fresh->KSem E hF QF RO NT (qq Z s.nx us) s2.nx K q:=fun s2 e1=>by
      rw [e1]; exact hk.mono (by omega) hlt
     unfold Oper.wp;cases hv:mb.val with
     | some v =>
      rw [hv] at hran hput;simp only [Ran] at hran;rw [hran,Oper.upon_value];obtain ⟨hp2,e1,e2,e3,e4⟩:=Holds.put hH hput;exact hnext _ s2 _ _ hlt (by rw [e1]; simp) (hkm s2 e1) hp2 (hbase s2 e1 e2 e3) hcont
     | none =>
      rw [hv] at hran hput;simp only [Ran] at hran;rw [hran,Oper.upon_skip];obtain ⟨hdst,rfl⟩:=qpc hput;rw [hdst];exact hnext _ _ _ _ hlt (by simp) (hkm _ rfl) hH (hbase _ rfl rfl rfl) hcont
    ·exact hcont.elim
   ·exact h.elim
  split at h
  ·rename_i r hr
   obtain ⟨hc,pc,hs',h⟩:=qcn hs h;have h0:=qw (hc _ (jae ..));have h1:=qdn (hc _ (jad _ (jae ..)));split at h
   ·rename_i hsc
    obtain ⟨u,w',hu,hput,hdst,hrun,hheap⟩:=qz2 (s:={ s with pc:=pc }) hs' hsc (show qvx E.P { s with pc:=pc } o = some r from hr) h0 h1;have hf:=Holds.fresh (us:=[u]) (n:=s.nx + 1) hs' (.inr hsc) (by simpa using hu);have hH:Holds (Z.set s.nx u) hF { s with heap:=s.heap.set r.k (.abs s.nx r.tag),pc:=pc,nx:=s.nx + 1 } a w' :=
     ⟨hf.gd,hf.nt,hf.df,hf.env,hf.ro,hheap,hf.pc,hf.vw⟩
    have hlt:∀ m,m < s.nx->(Z.set s.nx u) m = Z m:=fun m hm=>Env.set_ne Z _ (by omega)
    unfold Oper.wp;rw [hrun,Oper.upon_skip,hdst];exact hnext _ _ _ _ hlt (by simp) (hk.mono (by simp) hlt) hH ⟨hb.ro,hb.nt,by have:=hb.nv; simp only; omega,fun m hm=>by rw [hlt m (by have:=hb.nv; omega)]; exact hb.ag m hm⟩ (h u hu hput)
   ·exact h.elim
  split at h
  ·rename_i fk y v hfz
   split at h
   ·rename_i hsc
    obtain ⟨u,w',hu,hvin,hrun,hheap,hro⟩:=q0b hs hsc hfz;have h:=h u hu;split at h
    ·rename_i s2 hput
     have hf:=Holds.fresh (us:=[u]) (n:=s.nx + 1) hs (.inr hsc) (by simpa using hu);have hlt:∀ m,m < s.nx->(Z.set s.nx u) m = Z m:=fun m hm=>Env.set_ne Z _ (by omega)
     have hH:Holds (Z.set s.nx u) hF { s with heap:=.abs s.nx 1001 :: s.heap.eraseIdx fk,vw:=([s.nx],y) :: s.vw,nx:=s.nx + 1 } a w' :=
      ⟨hf.gd,hf.nt,hf.df,hf.env,hf.ro,hheap,hf.pc,fun x hx=>by
       rcases ja9.1 hx with rfl | hx
       ·exact ⟨s.nx,jak.2 rfl,by rw [Env.set_same]; exact hro⟩
       ·exact hf.vw x hx⟩
     obtain ⟨hp2,e1,e2,e3,e4⟩:=Holds.put hH hput;unfold Oper.wp;rw [hrun,Oper.upon_value];have hvd:v.den (Z.set s.nx u) = v.den Z:=(SV.den_congr (fun m hm=>(hlt m hm).symm) v hvin).symm;rw [hvd] at hp2;exact hnext _ s2 _ _ hlt (by rw [e1]; simp) (by rw [e1]; exact hk.mono (by simp) hlt) hp2 ⟨e2.trans hb.ro,e3.trans hb.nt,by rw [e1]; have:=hb.nv; simp only; omega,fun m hm=>by rw [hlt m (by have:=hb.nv; omega)]; exact hb.ag m hm⟩ h
    ·exact h.elim
   ·exact h.elim
  split at h
  ·exact h.elim
  ·rename_i r hr
   obtain ⟨hc,pc,hs',h⟩:=qcn hs h;by_cases hfr:r.fresh = 0∨s.scopedEH = true
   ·obtain ⟨us,w',hul,hug,hheap,hran,_⟩:=q0c hs hr hc hfr
    rw [<- hul] at h;obtain ⟨hsc,h⟩:=qfe hug h;split at h
    ·rename_i s2 hput
     have hf:=Holds.fresh (us:=us) (n:=s.nx + us.length) hs' hsc hug;have hH:Holds (qq Z s.nx us) hF { s with heap:=r.heap,pc:=pc,nx:=s.nx + us.length } a w' :=
      ⟨hf.gd,hf.nt,hf.df,hf.env,hf.ro,hheap,hf.pc,hf.vw⟩
     have hbase:∀ s2:S,s2.nx = s.nx + us.length->s2.ro = s.ro->s2.nt = s.nt->Base E Z0 RO NT (qq Z s.nx us) s2:=fun s2 e1 e2 e3 =>
      ⟨e2.trans hb.ro,e3.trans hb.nt,by rw [e1]; have:=hb.nv; omega,fun m hm=>by rw [qaF us Z s.nx m (by have:=hb.nv; omega)]; exact hb.ag m hm⟩
     have hkm:∀ s2:S,s2.nx = s.nx + us.length->KSem E hF QF RO NT (qq Z s.nx us) s2.nx K q:=fun s2 e1=>by
      rw [e1]; exact hk.mono (by omega) (fun m hm=>qaF us Z s.nx m hm)
     unfold Oper.wp;cases hv:r.val with
     | some v =>
      rw [hv] at hran hput;simp only [Ran] at hran;rw [hran,Oper.upon_value];obtain ⟨hp2,e1,e2,e3,e4⟩:=Holds.put hH hput;exact hnext _ s2 _ _ (fun m hm=>qaF us Z s.nx m hm) (by rw [e1]; simp) (hkm s2 e1) hp2 (hbase s2 e1 e2 e3) h
     | none =>
      rw [hv] at hran hput;simp only [Ran] at hran;rw [hran,Oper.upon_skip];obtain ⟨hdst,rfl⟩:=qpc hput;rw [hdst];exact hnext _ _ _ _ (fun m hm=>qaF us Z s.nx m hm) (by simp) (hkm _ rfl) hH (hbase _ rfl rfl rfl) h
    ·exact h.elim
   ·exfalso
    apply hfr
    match hf:r.fresh with
    | 0=>exact .inl rfl
    | m + 1 =>
     rw [hf] at h;simp only [qfM] at h;split at h
     ·rename_i hsc
      obtain ⟨a1,a2,_,_⟩:=qbm hsc;right;simp only [S.scopedEH,jag];exact ⟨a1,a2⟩
     ·exact h.elim
theorem Base.anew {Z0 Z Z':Env} {s s':S} (hb:Base E Z0 RO NT Z s) (h1:∀ m,m < s.nx->Z' m = Z m) (h2:s.nx <= s'.nx) (h3:s'.ro = s.ro) (h4:s'.nt = s.nt):Base E Z0 RO NT Z' s' :=
 ⟨h3.trans hb.ro,h4.trans hb.nt,jey hb.nv h2,fun m hm=>(h1 m (jd7 hm hb.nv)).trans (hb.ag m hm)⟩
theorem qAb {P:Program} {Z:Env} {s:S} {a:Act} {w:World} {o:Oper} {k:S->Out} (hs:Holds Z hF s a w) (h:(q88 P s o k).den E Z):qaz E hF Z s a w k:=by
 unfold q88 at h;split at h
 ·exact qgb hs h
 ·exact qaz.self hs h
theorem qr7 {Z0 Z:Env} {s:S} {a:Act} {w:World} {i:Nat} {o:Oper} {q q':Exit->Act->World->Prop} {K:List KI} {next:Act->World->Prop} {k:S->Out} (hctr:∀ c ∈ E.ctrs,c.ok E.P)
  (hs:Holds Z hF s a w) (hb:Base E Z0 RO NT Z s) (hk:KSem E hF QF RO NT Z s.nx K q)
  (hnext:∀ Z' s' a' w',(∀ m,m < s.nx->Z' m = Z m)->s.nx <= s'.nx->KSem E hF QF RO NT Z' s'.nx K q->Holds Z' hF s' a' w'->Base E Z0 RO NT Z' s'->(k s').den E Z'->next a' w')
  (h:(qsD E s i o k).den E Z):o.wp E.P a w next q':=by
 unfold qsD at h;obtain ⟨Z1,s1,a1,a2,a3,a4,a5,h⟩:=(q0m hs h).bind (k':=fun s=>qv2 E (qg9 E.me.ip s o) i o k) fun Z' s' e1 e2 hs' h' =>
  (qAb hs' h').bind fun Z' s' _ _ hs' h'=>(q5q hs' h').bind fun Z' s' _ _ hs' h'=>(qra hs' h').bind fun Z' s' _ _ hs' h'=>(qry hs' h').bind fun Z' s' _ _ hs' h'=>(q5R hs' h').bind fun Z' s' _ _ hs' h'=>qmb (fun c hm=>qvn hs' hm) hs' h'
 obtain ⟨b1,b2,b3,b4⟩:=qvo E.me.ip o a3;refine q0y hctr b1 (hb.anew a1 (by rw [b2]; exact a2) (b3.trans a4) (b4.trans a5)) (by rw [b2]; exact hk.mono a2 a1) (fun Z' s' a' w' h1 h2 h3 h4 h5 h6=>?_) h;rw [b2] at h1 h2;exact hnext Z' s' a' w' (fun m hm=>(h1 m (by omega)).trans (a1 m hm)) (by omega) h3 h4 h5 h6
theorem qoH {Z:Env} {k:Nat->Out}:∀ {l:List Nat} {i:Nat},i ∈ l->(qtb k l).den E Z->(k i).den E Z
 | [],i,h,_=>by cases h
 | j :: l,i,h,hd=>by
  cases h with
  | head=>exact hd.1
  | tail _ h=>exact qoH h hd.2
theorem qlR {base nv:Nat} {Z Zh:Env} (hag:∀ m,m < base + nv->Z m = Zh m):qeU base nv Z = qeU base nv Zh:=by
 funext m
 simp only [qeU];split
 ·split
  ·exact hag m (by omega)
  ·rfl
 ·split
  ·exact hag _ (by omega)
  ·rfl
theorem q4w {fn:Func} {Z0:Env} (hctr:∀ c ∈ E.ctrs,c.ok E.P)
  (hret:∀ Z s a w v,Holds Z hF s a w->qmd fn s E.P = some v->qBo E hF Z0 (.returned (v.den Z)) w->QF .normal a w/\QF .ret a w) :
  ∀ (n:Nat) (K:List KI) (s:S) (Z:Env) (a:Act) (w:World) (q:Exit->Act->World->Prop),KSem E hF QF RO NT Z s.nx K q->Holds Z hF s a w->Base E Z0 RO NT Z s ->
   (qai E fn n K s).den E Z->q .normal a w:=by
 intro n
 induction n with
 | zero=>intro K s Z a w q hk hs hb h; exact h.elim
 | succ n ih =>
  intro K s Z a w q hk hs hb h;have hend:∀ {Z:Env} {s:S} {a:Act} {w:World},Holds Z hF s a w->Base E Z0 RO NT Z s->(qai E fn (n + 1) [] s).den E Z->QF .normal a w/\QF .ret a w:=by
   intro Z s a w hs hb h;simp only [qai] at h;split at h
   ·rename_i v hv
    exact hret Z s a w v hs hv (qfm hs hb _ 0 (fun j=>by rw [jbj]) h)
   ·exact h.elim
  cases hk with
  | nil=>exact (hend hs hb h).1
  | @blk _ id K q hk =>
   simp only [qai] at h
   show q .normal a w
   exact ih K s Z a w q hk hs hb h
  | @again _ c K q hk =>
   simp only [qai] at h
   show qqr E.P c q a w
   refine qnL ?_;exact ih (.code c :: .again c :: K) s Z a w _ (.code (.again hk)) hs hb h
  | lend hI hbn hag he hh hf hro hpc hpt hk =>
   simp only [qai,hI] at h;split at h
   ·obtain ⟨Z1,s1,a1,a2,a3,a4,a5,h⟩:=qdG hs h
    simp only [qAR] at h;split at h
    ·rename_i rest V hm
     split at h
     ·rename_i cs hl
      obtain ⟨hc,pc',hs',hk'⟩:=qcn a3 h;simp only [Out.den,hI] at hk';have hag1:∀ m,m < _->Z1 m = _:=fun m hm=>(a1 m (jd7 hm hbn)).trans (hag m hm)
      obtain ⟨Z2,h1,h2,h3⟩:=qhQ a3 (fun m hm=>hag1 m (by omega)) hm hl hc he hh hf (by rw [a4,hb.ro]; exact hro) hpc hpt;rw [a4,hb.ro,a5,hb.nt] at h2;refine ⟨_,?_,Z2,h1,h2,by rw [h3]; exact hk'.1,rfl⟩;rw [h3];rw [<- qlR hag1]; exact hk'.2
     ·exact h.elim
    ·exact h.elim
   ·exact h.elim
  | cutE hI hbn hag he hh hf hro hpc hpt hk =>
   simp only [qai,hI] at h;split at h
   ·obtain ⟨Z1,s1,a1,a2,a3,a4,a5,h⟩:=qdG hs h
    simp only [qDr] at h;split at h
    ·rename_i rest V hm
     split at h
     ·rename_i cs hl
      obtain ⟨hc,pc',hs',hk'⟩:=qcn a3 h;simp only [Out.den,hI] at hk';have hag1:∀ m,m < _->Z1 m = _:=fun m hm=>(a1 m (jd7 hm hbn)).trans (hag m hm)
      obtain ⟨Z2,h1,h2,h3⟩:=qhQ a3 hag1 hm hl hc he hh hf (by rw [a4,hb.ro]; exact hro) hpc hpt;rw [a4,hb.ro,a5,hb.nt] at h2;exact ⟨_,Z2,h1,h2,by rw [h3]; exact hk',rfl⟩
     ·exact h.elim
    ·exact h.elim
   ·exact h.elim
  | @ops _ ops l K q hk =>
   cases l with
   | nil =>
    simp only [qai] at h
    show q .normal a w
    exact ih K s Z a w q hk hs hb h
   | cons i l =>
    simp only [qai] at h;refine qky ?_;cases ho:ops[i]? with
    | none =>
     simp only [ho] at h;simp only [wpOps,ho];exact ih (.ops ops l :: K) s Z a w _ (.ops hk) hs hb h
    | some o =>
     simp only [ho] at h
     -- carrying the operation out
     have hgo:∀ (s:S),Holds Z hF s a w->Base E Z0 RO NT Z s->KSem E hF QF RO NT Z s.nx K q ->
       (qsD E s i o (fun s=>qai E fn n (.ops ops l :: K) s)).den E Z->o.wp E.P a w (wpOps E.P ops q l) q:=by
      intro s hs hb hk h;exact qr7 hctr hs hb hk (fun Z' s' a' w' _ _ hk' hs' hb' h'=>ih (.ops ops l :: K) s' Z' a' w' _ (.ops hk') hs' hb' h') h
     split at h
     ·exact h.elim
     ·rename_i hg
      exact q17 ho (qgo hs hg) (hgo s hs hb hk h)
     ·rename_i c want hg
      have hgw:=qgo hs hg;obtain ⟨b,pc,hcb,hs',hk'⟩:=qlq hs h;simp only [hcb] at hgw;have hb':Base E Z0 RO NT Z { s with pc:=pc }:=⟨hb.ro,hb.nt,hb.nv,hb.ag⟩;split at hk'
      ·rename_i hbw
       exact q17 ho (by rw [hgw]; simpa using hbw) (hgo _ hs' hb' hk hk')
      ·rename_i hbw
       refine qCS ho (by rw [hgw]; simpa using hbw) ?_;split at hk'
       ·rename_i s2 hput
        obtain ⟨hp,e1,e2,e3,e4⟩:=Holds.put hs' hput;have hu:SV.den Z (.tup []) = undef:=by simp [SV.den,undef]
        rw [hu] at hp;exact ih (.ops ops l :: K) s2 Z _ w _ (.ops (by rw [e1]; exact hk)) hp ⟨e2.trans hb.ro,e3.trans hb.nt,by rw [e1]; exact hb.nv,hb.ag⟩ hk'
       ·exact hk'.elim
  | @any _ K q Z0_ n0 ops listed left st hst hn0 hagS hk =>
   refine qky ?_;simp only [qai] at h;split at h
   ·rename_i hr
    refine q0x hr ?_ _;exact NoPanic.normal (ih K s Z a w q hk hs hb h)
   ·rename_i j R hr
    split at h
    ·exact h.elim
    ·rename_i left
     ·skip
      have hSof:∀ {Z':Env} {s':S} {a':Act} {w':World},Holds Z' hF s' a' w'->qdN st s'.heap = true->(∀ m,m < n0->Z' m = Z0_ m)->qs Z0_ hF st w':=by
       intro Z' s' a' w' hs' hsub hag;obtain ⟨hO,hd,hst',hsub',hwi'⟩:=hs'.hp;exact ⟨hO,hd,qaA hag _ hst _ (qjl hsub hst'),hsub',hwi'⟩
      have hQ:∀ (o:Oper) (v:Value) c a w,NoPanic q (.panic c) (a.put o.dst v) w->NoPanic q (.panic c) a w:=fun _ _ _ _ _ h=>h.elim
      split at h
      ·-- a guard decided first
       rename_i c _;obtain ⟨b,pc,_,hs',hk'⟩:=qlq hs h;exact ih (.any ops listed (left + 1) st :: K) { s with pc:=pc } Z a w _ (.any Z0_ n0 _ _ _ _ hst hn0 hagS hk) hs' ⟨hb.ro,hb.nt,hb.nv,hb.ag⟩ hk'
      ·-- one taken first
       rename_i i _;split at h
       ·exact h.elim
       ·rename_i hfree
        simp only [jbg,jb6,jag] at hfree;obtain ⟨⟨⟨⟨hsubH,hnosel⟩,hiA⟩,hfr⟩,hcon⟩:=hfree;have hiA:i ∈ qhD E.me.ip ops:=by simpa using hiA
        have hSw:=hSof hs hsubH hagS;split at h
        ·exact h.elim
        ·rename_i o ho
         split at h
         ·rename_i hg
          have hw:=qfQ hs hg;split at h
          ·rename_i s2 hput
           obtain ⟨hp,e1,e2,e3,e4⟩:=Holds.put hs hput;have hu:SV.den Z (.tup []) = undef:=by simp [SV.den,undef]
           rw [hu] at hp;refine qpb ho hiA hnosel hfr (by rw [hr]; exact hcon) (hQ o undef) (.inr ⟨hw,rfl⟩) hSw ?_;exact ih (.any ops (listed.setIfInBounds i true) left st :: K) s2 Z _ w _ (.any Z0_ n0 _ _ _ _ hst (by rw [e1]; exact hn0) hagS (by rw [e1]; exact hk)) hp ⟨e2.trans hb.ro,e3.trans hb.nt,by rw [e1]; exact hb.nv,hb.ag⟩ h
          ·exact h.elim
         ·rename_i hg
          have hw:=qfQ hs hg;obtain ⟨pc0,hs0,h⟩:=q68 hs h
          replace hs:=hs0
          split at h
          ·rename_i r hq
           obtain ⟨hc,pc,hs',hnd⟩:=qcn hs h;clear h;split at hnd
           ·rename_i s2 hput
            unfold qwJ at hq;split at hq
            ·rename_i r' hstep
             split at hq
             ·rename_i hrr
              simp only [jaa] at hq; subst hq;simp only [jag] at hrr;have hf0:=Nat.eq_of_beq_eq_true hrr.1;obtain ⟨v,hv⟩:=Option.isSome_iff_exists.1 hrr.2;have hy:YieldsIf E.P ops (fun w'=>qs Z0_ hF st w') o (v.den Z) a:=by
               refine .inl ⟨hw,fun w' hSw'=>?_⟩;obtain ⟨hO,hd,hstS,hsubS,hwiS⟩:=hSw';have hsR:Holds Z hF { s with heap:=st,pc:=pc0 } a w':=⟨hs.gd,hs.nt,hs.df,hs.env,hs.ro,⟨hO,hd,qaA (fun m hm=>(hagS m hm).symm) _ hst _ hstS,hsubS,hwiS⟩,hs.pc,hs.vw⟩;obtain ⟨us,w2,hul,_,_,hran,hsame⟩:=qkt hsR hstep hc (.inl hf0);have hw2:=hsame hf0 hrr.2;subst hw2;rw [hf0] at hul;have:us = []:=jcu.1 hul;subst this;simpa only [Ran,hv,qq] using hran
              rw [hv] at hput;obtain ⟨hp,e1,e2,e3,e4⟩:=Holds.put hs' hput;refine qpb ho hiA hnosel hfr (by rw [hr]; exact hcon) (hQ o _) hy hSw ?_;exact ih (.any ops (listed.setIfInBounds i true) left st :: K) s2 Z _ w _ (.any Z0_ n0 _ _ _ _ hst (by rw [e1]; exact hn0) hagS (by rw [e1]; exact hk)) hp ⟨e2.trans hb.ro,e3.trans hb.nt,by rw [e1]; exact hb.nv,hb.ag⟩ hnd
             ·simp at hq
            ·simp at hq
           ·exact hnd.elim
          ·exact h.elim
         ·exact h.elim
      ·-- whichever comes
       refine q46 hr (by simp) fun i hi=>?_
       have h:=qoH hi h;unfold wpOp;split at h
       ·exact h.elim
       ·rename_i o ho
        simp only [ho];split at h
        ·rename_i hg
         rw [jah (qfQ hs hg)];refine .inl (qr7 hctr hs hb hk (fun Z' s' a' w' hag' hnx' hk' hs' hb' h'=>?_) h);split at h'
         ·exact h'.elim
         ·rename_i hsub2
          simp only [jbg,jb6,jcy] at hsub2;have hag2:∀ m,m < n0->Z' m = Z0_ m:=fun m hm=>(hag' m (by omega)).trans (hagS m hm)
          exact ⟨hsub2.imp id (fun hsub2=>hSof hs' hsub2 hag2),ih (.any ops (listed.setIfInBounds i true) left st :: K) s' Z' a' w' _ (.any Z0_ n0 _ _ _ _ hst (by omega) hag2 hk') hs' hb' h'⟩
        ·rename_i hg
         rw [jaf (by rw [qfQ hs hg]; simp)];split at h
         ·exact h.elim
         rename_i hsub2;simp only [jbg,jb6,jcy] at hsub2;split at h
         ·rename_i s2 hput
          obtain ⟨hp,e1,e2,e3,e4⟩:=Holds.put hs hput;have hu:SV.den Z (.tup []) = undef:=by simp [SV.den,undef]
          rw [hu] at hp;exact ⟨hsub2.imp id (fun hsub2=>hSof hs hsub2 hagS),ih (.any ops (listed.setIfInBounds i true) left st :: K) s2 Z _ w _ (.any Z0_ n0 _ _ _ _ hst (by rw [e1]; exact hn0) hagS (by rw [e1]; exact hk)) hp ⟨e2.trans hb.ro,e3.trans hb.nt,by rw [e1]; exact hb.nv,hb.ag⟩ h⟩
         ·exact h.elim
        ·exact h.elim
  | @code _ c K q hk =>
   refine qky ?_;cases c with
   | skip=>simp only [qai] at h; exact wp_skip (ih K s Z a w q hk hs hb h)
   | label l=>simp only [qai] at h; exact wp_label (ih K s Z a w q hk hs hb h)
   | seq x y =>
    simp only [qai] at h;split at h
    ·rename_i li I hfi
     have hfi':E.invs[li]? = some I:=by
      obtain ⟨key,_,h2⟩:=jam.1 hfi;simpa using (qhU h2).2
     obtain ⟨hA,h⟩:=h;simp only [qBq] at h;split at h
     ·exact h.elim
     ·rename_i hchk
      simp only [jbg,jb6,jag] at hchk;obtain ⟨hsc,hfit⟩:=hchk;split at h
      ·rename_i env heap he hh
       obtain ⟨sc1,sc2,sc3,sc4⟩:=qbm hsc;have hro:RO.all (SH.inB s.nx) = true:=by rw [<- hb.ro]; exact sc3
       refine wp_seq ?_;have hw:=ih (.code x :: .cutE li s.nx :: .code y :: K) s Z a w _ (.code (.cutE (env:=env) (heap:=heap) (pc:=s.pc) hfi' (ja4 _) (fun m _=>rfl) he hh hfit hro sc4 hs.pc (.code hk))) hs hb hA;refine wp_mono hw fun e a1 w1 hq=>?_
       cases e with
       | normal =>
        obtain ⟨m,Z3,g1,g2,g3,rfl⟩:=hq
        let us:List U:=(List.range I.nv).map fun j=>Z3 (s.nx + j)
        have hul:us.length = I.nv:=by simp [us]
        have hug:∀ u ∈ us,u.good:=fun u hu=>by
         obtain ⟨j,_,rfl⟩:=jbk.1 hu;exact g2.gd _
        rw [<- hul] at h;obtain ⟨_,h⟩:=qfe hug h;have hag3:∀ m,m < s.nx + I.nv->qq Z s.nx us m = Z3 m:=fun m hm=>by
         by_cases hlt:m < s.nx
         ·rw [qaF us Z s.nx m hlt,g1 m hlt]
         ·have:=qli us Z s.nx (m - s.nx) (Z3 m) (by simp only [us,jaq]; rw [jbp (by omega)]; simp; congr 1; omega)
          rwa [show s.nx + (m - s.nx) = m from by omega] at this
        split at h
        ·exact h.elim
        ·rename_i hsc2
         simp only [jbg,jb6] at hsc2;have hstate:({ env:=env,heap:=heap,ro:=s.ro,pc:=s.pc,nx:=s.nx + us.length,nt:=s.nt,vw:=[] }:S) = qfk RO NT s.pc s.nx I.nv env heap:=by
          rw [qfk,hul,hb.ro,hb.nt]
         simp only [Out.den,hfi'] at h;rw [hstate] at h hsc2;have hH:=g2.congr hsc2 (qjW us Z s.nx hs.gd hug) (fun m hm=>(hag3 m hm).symm);have hrel:qeU s.nx I.nv (qq Z s.nx us) = qeU s.nx I.nv Z3:=qlR hag3;have hk3:KSem E hF QF RO NT (qq Z s.nx us) (s.nx + I.nv) K q:=hk.mono (by omega) (fun m hm=>qaF us Z s.nx m hm);exact ih (.code y :: K) (qfk RO NT s.pc s.nx I.nv env heap) (qq Z s.nx us) a1 w1 _ (.code hk3) hH
          ⟨rfl,rfl,by have:=hb.nv; simp only [qfk]; omega,fun m hm=>by rw [qaF us Z s.nx m (by have:=hb.nv; omega)]; exact hb.ag m hm⟩ (h (by rw [hrel]; exact g3))
       | exit id=>exact hq
       | goto l=>exact hq
       | ret=>exact hq
       | panic ch=>exact hq
       | outgrown=>exact hq
      ·exact h.elim
    ·exact wp_seq (ih (.code x :: .code y :: K) s Z a w _ (.code (.code hk)) hs hb h)
   | block id b =>
    simp only [qai] at h;exact wp_block (ih (.code b :: .blk id :: K) s Z a w _ (.code (.blk hk)) hs hb h)
   | exit id =>
    simp only [qai] at h;split at h
    ·rename_i K' hp
     obtain ⟨q',h1,h2⟩:=hk.pop hp;exact wp_exit (h2 a w (ih K' s Z a w q' h1 hs hb h))
    ·exact h.elim
   | ret =>
    simp only [qai] at h;refine wp_ret (hk.ret ?_);cases n with
    | zero=>exact h.elim
    | succ m =>
     simp only [qai] at h;split at h
     ·rename_i v hv
      exact (hret Z s a w v hs hv (qfm hs hb _ 0 (fun j=>by rw [jbj]) h)).2
     ·exact h.elim
   | cond c x y =>
    simp only [qai] at h;split at h
    ·rename_i t ht
     have hev:=hs.opd ht;simp only [SV.den,T.den,O1.den] at hev;obtain ⟨b,pc,hcb,hs',hk'⟩:=qlq hs h;rw [hcb] at hev;refine wp_cond hev ?_;exact ih (.code (if b then x else y) :: K) { s with pc:=pc } Z a w _ (.code hk) hs' ⟨hb.ro,hb.nt,hb.nv,hb.ag⟩ hk'
    ·exact h.elim
   | region id ops draw =>
    cases draw with
    | true =>
     simp only [qai] at h;split at h
     ·rename_i hc
      simp only [jag] at hc;have hst:(qla E s ops).all (SH.inB s.nx) = true∨True:=.inr trivial;refine wp_region_noPanic (q0d (A:=qhD E.me.ip ops) (S:=fun w'=>qs Z hF (qla E s ops) w') hc.1.1 ?_);have hs2:Holds Z hF s a { w with drawn:=w.drawn + 1 }:=⟨hs.gd,hs.nt,hs.df,hs.env,hs.ro,hs.hp,hs.pc,hs.vw⟩;split at h
      ·rename_i hin
       exact ih (.any ops (Array.replicate ops.size false) ops.size (qla E s ops) :: K) s Z a _ _ (.any Z s.nx _ _ _ _ hin (ja4 _) (fun _ _=>rfl) hk) hs2 hb h
      ·exact h.elim
     ·exact h.elim
    | false =>
     simp only [qai] at h;exact wp_region (ih (.ops ops (List.range ops.size) :: K) s Z a w _ (.ops hk) hs hb h)
   | loop b =>
    simp only [qai] at h;split at h
    ·refine q0z (qnL ?_)
     exact ih (.code b :: .again b :: K) s Z a w _ (.code (.again hk)) hs hb h
    ·rename_i li I hfi
     have hfi':E.invs[li]? = some I:=by
      obtain ⟨key,_,h2⟩:=jam.1 hfi;exact qyX h2
     split at h
     ·exact h.elim
     ·obtain ⟨Z1,s1,a1,a2,a3,a4,a5,h⟩:=qdG hs h
      have hb1:Base E Z0 RO NT Z1 s1:=hb.anew a1 a2 a4 a5;have hk1:=hk.mono a2 a1;simp only [qAY] at h;split at h
      ·exact h.elim
      ·rename_i rest V hm
       split at h
       ·exact h.elim
       ·rename_i cs hl
        obtain ⟨hc,pc,hs',h⟩:=qcn a3 h;split at h
        ·exact h.elim
        ·rename_i hchk
         simp only [jbg,jb6,jag] at hchk;obtain ⟨hsc,hfit⟩:=hchk;simp only [Out.den,hfi'] at h;obtain ⟨hinv,h⟩:=h;split at h
         ·rename_i env heap he hh
          obtain ⟨sc1,sc2,sc3,sc4⟩:=qbm hsc;have hb':Base E Z0 RO NT Z1 { s1 with pc:=pc }:=⟨hb1.ro,hb1.nt,hb1.nv,hb1.ag⟩;have hro:RO.all (SH.inB s1.nx) = true:=by rw [<- hb1.ro]; exact sc3
          obtain ⟨Z2,h1,h2,h3⟩:=qhQ (Zh:=Z1) hs' (fun m _=>rfl) hm hl hc he hh hfit sc3 sc4 hs'.pc;have h2':Holds Z2 hF (qfk RO NT pc s1.nx I.nv env heap) a w:=by rw [<- hb1.ro,<- hb1.nt]; exact h2
          refine qvk (fun m a w=>qws E hF RO NT pc s1.nx I env heap Z1 m a w) ?_ (I.mu (qeU s1.nx I.nv Z2)) a w ⟨Z2,h1,h2',by rw [h3]; exact hinv,rfl⟩
          rintro m a1 w1 ⟨Z3,g1,g2,g3,rfl⟩
          let us:List U:=(List.range I.nv).map fun j=>Z3 (s1.nx + j)
          have hul:us.length = I.nv:=by simp [us]
          have hug:∀ u ∈ us,u.good:=fun u hu=>by
           obtain ⟨j,_,rfl⟩:=jbk.1 hu;exact g2.gd _
          rw [<- hul] at h;obtain ⟨_,h⟩:=qfe hug h;have hag3:∀ m,m < s1.nx + I.nv->qq Z1 s1.nx us m = Z3 m:=fun m hm=>by
           by_cases hlt:m < s1.nx
           ·rw [qaF us Z1 s1.nx m hlt,g1 m hlt]
           ·have:=qli us Z1 s1.nx (m - s1.nx) (Z3 m) (by simp only [us,jaq]; rw [jbp (by omega)]; simp; congr 1; omega)
            rwa [show s1.nx + (m - s1.nx) = m from by omega] at this
          split at h
          ·exact h.elim
          ·rename_i hsc2
           simp only [jbg,jb6] at hsc2;have hstate:({ env:=env,heap:=heap,ro:=s1.ro,pc:=pc,nx:=s1.nx + us.length,nt:=s1.nt,vw:=[] }:S) = qfk RO NT pc s1.nx I.nv env heap:=by
            rw [qfk,hul,hb1.ro,hb1.nt]
           simp only [Out.den,hfi'] at h;rw [hstate] at h hsc2;have hH:=g2.congr hsc2 (qjW us Z1 s1.nx a3.gd hug) (fun m hm=>(hag3 m hm).symm);have hrel:qeU s1.nx I.nv (qq Z1 s1.nx us) = qeU s1.nx I.nv Z3:=qlR hag3;have hk3:KSem E hF QF RO NT (qq Z1 s1.nx us) (s1.nx + I.nv) K q:=hk1.mono (by omega) (fun m hm=>qaF us Z1 s1.nx m hm);rw [jc9] at h;have:=ih (.code b :: .lend li s1.nx :: K) (qfk RO NT pc s1.nx I.nv env heap) (qq Z1 s1.nx us) a1 w1 _
            (.code (.lend hfi' (ja4 _) (fun m hm=>rfl) he hh hfit hro sc4 hH.pc hk3)) hH
            ⟨rfl,rfl,by have:=hb1.nv; simp only [qfk]; omega,fun m hm=>by rw [qaF us Z1 s1.nx m (by have:=hb1.nv; omega)]; exact hb1.ag m hm⟩ (h (by rw [hrel]; exact g3))
           refine wp_mono this fun e a2 w2 hq=>?_
           cases e with
           | normal =>
            obtain ⟨m',hm',Z4,k1,k2,k3,k4⟩:=hq;rw [hrel] at hm';exact ⟨m',hm',Z4,fun n hn=>(k1 n hn).trans (qaF us Z1 s1.nx n hn),k2,k3,k4⟩
           | exit id=>exact hq
           | goto l=>exact hq
           | ret=>exact hq
           | panic ch=>exact hq
           | outgrown=>exact hq
         ·exact h.elim
   | rangeFunc f p x y=>exact h.elim
   | scope b=>exact h.elim
   | goto l=>exact h.elim
   | refuse y=>exact h.elim
end Go.Eng
namespace Go.Eng
open Go
def qmW:Nat->List SV->List (Nat × SV)
 | _,[]=>[]
 | i,v :: r=>(i,v) :: qmW (i + 1) r
def qqy (c:Ctr) (nt:Nat):S:={ env:=qmW 0 c.args,heap:=c.heap,ro:=c.ro,pc:=[],nx:=c.nv,nt }
theorem qnH:∀ (l:List SV) (i t:Nat) (v:SV),qbc t (qmW i l) = some v->i <= t/\l[t - i]? = some v
 | [],i,t,v,h=>by simp [qmW,qbc] at h
 | x :: r,i,t,v,h=>by
  simp only [qmW,qbc] at h;split at h
  ·rename_i ht
   have ht:=Nat.eq_of_beq_eq_true ht;simp only [jaa] at h;subst ht; subst h;simp
  ·obtain ⟨h1,h2⟩:=qnH r (i + 1) t v h
   refine ⟨by omega,?_⟩;rw [show t - i = (t - (i + 1)) + 1 from by omega,ja6]; exact h2
def qkV (E:Ctx) (fuel:Nat) (fn:Func):Out :=
 match fn.body with
 | some c=>qai E fn fuel [.code c] (qqy E.me fn.ntmps)
 | none=>.stuck 99 0 0
theorem qis {P:Program} {c:Ctr} {ctrs:List Ctr} {invs:List Inv} {fn:Func} (hf:P.funcs[c.fn]? = some fn)
  (hcall:∀ (args:Array Value) (w:World),(callFunc c.fn args).run P w = .ok (.enter c.fn args) w) (hctr:∀ c ∈ ctrs,c.ok P) (fuel:Nat)
  (h:∀ Z:Env,Z.good->c.pre Z->(qkV ⟨P,c,ctrs,invs⟩ fuel fn).den ⟨P,c,ctrs,invs⟩ Z):c.ok P:=by
 refine ⟨hcall,fun Z w hF hO hg hd hsub hst hro hpre=>?_⟩;have h:=h Z hg hpre;unfold qkV at h;split at h
 ·rename_i code hb
  refine calls_of_wp hf hb ?_;have hs:Holds Z hF (qqy c fn.ntmps) { tmps:=(c.args.map (SV.den Z)).toArray ++ Array.replicate (fn.ntmps - (c.args.map (SV.den Z)).toArray.size) undef,defers:=[] } w:=by
   refine ⟨hg,?_,rfl,fun t v hv=>?_,hro,⟨hO,hd,hst,hsub.1,hsub.2⟩,fun c b hc=>(by cases hc),fun x hx=>(by cases hx)⟩
   ·simp only [qqy,je3,Array.size_replicate]; omega
   ·obtain ⟨_,h2⟩:=qnH c.args 0 t v hv
    simp only [jei] at h2;have hlt:t < c.args.length:=by
     rcases jbu t c.args.length with h | h
     ·exact h
     ·rw [jat h] at h2; cases h2
    rw [jb4,jcw (by simpa using hlt)];simp [h2]
  have:=q4w (E:=⟨P,c,ctrs,invs⟩) (hF:=hF) (RO:=c.ro) (NT:=fn.ntmps) (Z0:=Z) (fn:=fn)
   (QF:=bodyPost P fn fun e w'=>∃ (ai:Nat) (al:Alt) (Z':Env),c.alts[ai]? = some al/\Z'.good/\(∀ n,n < c.nv->Z' n = Z n)/\e = .returned (al.ret.den Z')/\al.post (Z'.upto (c.nv + al.k))/\qs Z' hF al.heap w')
   hctr (fun Z' s a w v hs hv hr=>⟨⟨hs.df,_,qk9 hs hv,hr⟩,⟨hs.df,_,qk9 hs hv,hr⟩⟩)
   fuel [.code code] (qqy c fn.ntmps) Z _ w _ (.code .nil) hs ⟨rfl,rfl,ja4 _,fun _ _=>rfl⟩ h
  refine wp_mono this fun e a w hq=>?_
  cases e <;> exact hq
 ·exact h.elim
theorem qzF {p:Prop}:(∀ u:U,u.good->p)↔p:=⟨fun h=>h {} (by simp [U.good,Value.oneCell']),fun h _ _=>h⟩
@[simp] theorem qE3 (x y:Int):(qJ .lss x y = true)↔(x < y):=by simp [qJ]
@[simp] theorem qE8 (x y:Int):(qJ .lss x y = false)↔(y <= x):=by simp [qJ]
@[simp] theorem qE4 (x y:Int):(qJ .leq x y = true)↔(x <= y):=by simp [qJ]
@[simp] theorem qE9 (x y:Int):(qJ .leq x y = false)↔(y < x):=by simp [qJ]
@[simp] theorem qE6 (x y:Int):(qJ .gtr x y = true)↔(y < x):=by simp [qJ]
@[simp] theorem qEB (x y:Int):(qJ .gtr x y = false)↔(x <= y):=by simp [qJ]
@[simp] theorem qE7 (x y:Int):(qJ .geq x y = true)↔(y <= x):=by simp [qJ]
@[simp] theorem qE5 (x y:Int):(qJ .geq x y = false)↔(x < y):=by simp [qJ]
@[simp] theorem qE1 (x y:Int):(qJ .eql x y = true)↔(x = y):=by simp [qJ]
@[simp] theorem qE2 (x y:Int):(qJ .eql x y = false)↔(¬ x = y):=by simp [qJ]
@[simp] theorem qE0 (x y:Int):(qJ .neq x y = true)↔(¬ x = y):=by simp [qJ]
@[simp] theorem qEC (x y:Int):(qJ .neq x y = false)↔(x = y):=by simp [qJ]
attribute [simp] qzF MK.sem qbU qq Out.den T.den O0.den O1.den O2.den O3.den SV.den Sg.env Eng.look Bd.den Env.set Env.upto q4O cutE qeU
abbrev qj (P:Program) (c:Ctr) (ds:List Ctr) (is:List Inv) (o:Out):Prop:=(∀ x ∈ ds,x.ok P)->(∀ Z:Env,Z.good->c.pre Z->o.den ⟨P,c,ds,is⟩ Z)->c.ok P
theorem qg {P:Program} {fn:Func} {c:Ctr} {ds:List Ctr} {is:List Inv} {o:Out} (hf:P.funcs[c.fn]? = some fn) (hcall:∀ (args:Array Value) (w:World),(callFunc c.fn args).run P w = .ok (.enter c.fn args) w) (ho:qkV ⟨P,c,ds,is⟩ 100000 fn = o):qj P c ds is o:=fun hd h =>
 qis hf hcall hd 100000 fun Z a b=>by rw [ho]; exact h Z a b
abbrev W32:=BitVec 32
def toW (x:Int):W32:=BitVec.ofInt 32 x
def ofW (b:W32):Int:=(b.toNat:Int)
def isW (x:Int):Prop:=0 <= x/\x < 4294967296
theorem qgF {b:W32}:isW (ofW b):=⟨by unfold ofW; omega,by unfold ofW; have:=b.isLt; omega⟩
theorem qcb {b:W32}:toW (ofW b) = b:=by
 apply jdu;simp [toW,ofW,jdp]
theorem qb0 {x:Int} (h:isW x):ofW (toW x) = x:=by
 obtain ⟨h0,h1⟩:=h;simp [toW,ofW,jdp];omega
theorem qrk {x:Int}:IntKind.u32.wrap x = ofW (toW x):=by
 simp [IntKind.wrap,IntKind.bits,IntKind.signed,ofW,toW,jdp];omega
theorem qCB {x y:Int}:toW (x + y) = toW x + toW y:=BitVec.ofInt_add ..
theorem qfZ {x y:Int}:qc .add .u32 x y = ofW (toW x + toW y):=by
 show IntKind.u32.wrap (x + y) = _
 rw [qrk,qCB]
theorem qxo {b:W32}:IntKind.u32.wrap (b.toNat:Int) = ofW b:=by
 rw [qrk]
 show ofW (toW (ofW b)) = _
 rw [qcb]
theorem qrR {x y:Int}:qc .xor .u32 x y = ofW (toW x ^^^ toW y):=qxo (b:=toW x ^^^ toW y)
theorem qBa {x y:Int}:qc .and .u32 x y = ofW (toW x &&& toW y):=qxo (b:=toW x &&& toW y)
theorem q2S {x y:Int}:qc .or .u32 x y = ofW (toW x ||| toW y):=qxo (b:=toW x ||| toW y)
theorem qqL {x:Int} {n:Nat} (hn:n <= 32):qc .shl .u32 x (n:Int) = ofW (toW x <<< n):=by
 show IntKind.u32.wrap (x * 2 ^ (min (n:Int).toNat 32)) = _
 rw [qrk,jal,jb8 hn]
 congr 1
 apply jdu;rw [BitVec.toNat_shiftLeft,Nat.shiftLeft_eq];simp only [toW,jdp];have h1:((x % 4294967296).toNat:Int) = x % 4294967296:=jay (jf0 _ (by decide));have h2:(((x % 4294967296).toNat * 2 ^ n % 4294967296:Nat):Int) = x * 2 ^ n % 4294967296:=by
  rw [Int.natCast_emod,jdt,h1,Int.natCast_pow]
  show x % 4294967296 * 2 ^ n % 4294967296 = _
  rw [Int.mul_emod,Int.emod_emod,<- Int.mul_emod]
 have h3:(2:Nat) ^ 32 = 4294967296:=by decide
 rw [h3];have h4:((4294967296:Nat):Int) = 4294967296:=by decide
 rw [h4,<- h2];exact jal _
theorem qv6 {x:Int} {n:Nat} (hx:isW x) (hn:n <= 32):qc .shr .u32 x (n:Int) = ofW (toW x >>> n):=by
 show x.fdiv (2 ^ (min (n:Int).toNat 32)) = _
 rw [jal,jb8 hn];have hx':=qb0 hx;unfold ofW at hx' ⊢;rw [BitVec.toNat_ushiftRight,Nat.shiftRight_eq_div_pow,Int.natCast_ediv,Int.natCast_pow,hx',jdw _ (by exact jf1 (by decide))];rfl
def qfp (x:W32) (n:Nat):W32:=x >>> n ||| x <<< (32 - n)
def sg0 (x:W32):W32:=qfp x 7 ^^^ qfp x 18 ^^^ x >>> 3
def sg1 (x:W32):W32:=qfp x 17 ^^^ qfp x 19 ^^^ x >>> 10
def bs0 (x:W32):W32:=qfp x 2 ^^^ qfp x 13 ^^^ qfp x 22
def bs1 (x:W32):W32:=qfp x 6 ^^^ qfp x 11 ^^^ qfp x 25
def chW (e f g:W32):W32:=(e &&& f) ^^^ (~~~e &&& g)
def q9C (a b c:W32):W32:=(a &&& b) ^^^ (a &&& c) ^^^ (b &&& c)
theorem qD9 (e f g:W32):g ^^^ (e &&& (f ^^^ g)) = chW e f g:=by
 unfold chW;apply je1;intro i hi;simp only [jfo,BitVec.getLsbD_and,BitVec.getLsbD_not,hi,decide_true,jel];cases e.getLsbD i <;> cases f.getLsbD i <;> cases g.getLsbD i <;> rfl
theorem qCr (a b c:W32):(a &&& b) ||| (c &&& (a ||| b)) = q9C a b c:=by
 unfold q9C;apply je1;intro i hi;simp only [jfo,BitVec.getLsbD_and,BitVec.getLsbD_or];cases a.getLsbD i <;> cases b.getLsbD i <;> cases c.getLsbD i <;> rfl
def qak (b:List W32):Nat->List W32
 | 0=>b
 | k + 1=>qak b k ++ [sg1 ((qak b k).getD (14 + k) 0) + (qak b k).getD (9 + k) 0 + sg0 ((qak b k).getD (1 + k) 0) + (qak b k).getD k 0]
structure St8 where
 a:W32
 b:W32
 c:W32
 d:W32
 e:W32
 f:W32
 g:W32
 h:W32
 deriving DecidableEq
def rnd (s:St8) (k w:W32):St8 :=
 let t1:=s.h + bs1 s.e + chW s.e s.f s.g + k + w
 let t2:=bs0 s.a + q9C s.a s.b s.c
 ⟨t1 + t2,s.a,s.b,s.c,s.d + t1,s.e,s.f,s.g⟩
def qoc (s:St8) (K W:List W32):Nat->St8
 | 0=>s
 | t + 1=>rnd (qoc s K W t) (K.getD t 0) (W.getD t 0)
def q8D (s t:St8):St8:=⟨s.a + t.a,s.b + t.b,s.c + t.c,s.d + t.d,s.e + t.e,s.f + t.f,s.g + t.g,s.h + t.h⟩
def qfh (K:List W32) (s:St8) (b:List W32):St8:=q8D s (qoc s K (qak b 48) 64)
def qQ:List Int:=[
 0x428a2f98,0x71374491,0xb5c0fbcf,0xe9b5dba5,0x3956c25b,0x59f111f1,0x923f82a4,0xab1c5ed5,0xd807aa98,0x12835b01,0x243185be,0x550c7dc3,0x72be5d74,0x80deb1fe,0x9bdc06a7,0xc19bf174,
 0xe49b69c1,0xefbe4786,0x0fc19dc6,0x240ca1cc,0x2de92c6f,0x4a7484aa,0x5cb0a9dc,0x76f988da,0x983e5152,0xa831c66d,0xb00327c8,0xbf597fc7,0xc6e00bf3,0xd5a79147,0x06ca6351,0x14292967,
 0x27b70a85,0x2e1b2138,0x4d2c6dfc,0x53380d13,0x650a7354,0x766a0abb,0x81c2c92e,0x92722c85,0xa2bfe8a1,0xa81a664b,0xc24b8b70,0xc76c51a3,0xd192e819,0xd6990624,0xf40e3585,0x106aa070,
 0x19a4c116,0x1e376c08,0x2748774c,0x34b0bcb5,0x391c0cb3,0x4ed8aa4a,0x5b9cca4f,0x682e6ff3,0x748f82ee,0x78a5636f,0x84c87814,0x8cc70208,0x90befffa,0xa4506ceb,0xbef9a3f7,0xc67178f2]
def qom:List Int:=[0x6a09e667,0xbb67ae85,0x3c6ef372,0xa54ff53a,0x510e527f,0x9b05688c,0x1f83d9ab,0x5be0cd19]
def qel (k:List Int):List W32:=k.map toW
def qbi (l:List Int):St8:=⟨toW (l.getD 0 0),toW (l.getD 1 0),toW (l.getD 2 0),toW (l.getD 3 0),toW (l.getD 4 0),toW (l.getD 5 0),toW (l.getD 6 0),toW (l.getD 7 0)⟩
def stL (s:St8):List Int:=[ofW s.a,ofW s.b,ofW s.c,ofW s.d,ofW s.e,ofW s.f,ofW s.g,ofW s.h]
def qxf (a b c d:Int):W32:=toW a <<< 24 ||| toW b <<< 16 ||| toW c <<< 8 ||| toW d
def qk6 (m:List Int) (o:Nat):W32:=qxf (m.getD o 0) (m.getD (o + 1) 0) (m.getD (o + 2) 0) (m.getD (o + 3) 0)
def qa5 (m:List Int) (o:Nat):List W32:=(List.range 16).map fun t=>qk6 m (o + 4 * t)
def qgM (K:List W32) (s0:St8) (m:List Int):Nat->St8
 | 0=>s0
 | n + 1=>qfh K (qgM K s0 m n) (qa5 m (64 * n))
def beL (v:Int) (n:Nat):List Int:=(List.range n).map fun (j:Nat)=>(v.fdiv (2 ^ (8 * (n - 1 - j)))) % 256
def qd4 (m:List Int):List Int:=m ++ 128 :: (List.replicate (64 - (m.length + 8) % 64 - 1) 0 ++ beL ((m.length:Int) * 8) 8)
def qeo (s:St8):List Int:=(List.range 32).map fun j=>(((stL s).getD (j / 4) 0).fdiv (2 ^ (24 - 8 * (j % 4)))) % 256
def q9q (K:List W32) (s0:St8) (m:List Int):List Int:=qeo (qgM K s0 (qd4 m) ((qd4 m).length / 64))
def sha (m:List Int):List Int:=q9q (qel qQ) (qbi qom) m
theorem qax {v:Int} {n:Nat}:(beL v n).length = n:=by simp [beL]
theorem q81 {m:List Int}:(qd4 m).length % 64 = 0/\m.length + 9 <= (qd4 m).length/\(qd4 m).length = m.length + (64 - (m.length + 8) % 64) + 8:=by
 have h:(qd4 m).length = m.length + (1 + ((64 - (m.length + 8) % 64 - 1) + 8)):=by
  simp only [qd4,jaj,jba,jaz,qax]; omega
 omega
theorem qmr {s:St8}:(qeo s).length = 32:=by simp [qeo]
theorem qBT {m:List Int}:(sha m).length = 32:=qmr
theorem qzT {m r:List Int} {o:Nat} (h:o + 64 <= m.length):qa5 (m ++ r) o = qa5 m o:=by
 unfold qa5;refine jbw fun t ht=>?_
 have ht:=jb1.1 ht;have e:∀ i,i < m.length->(m ++ r).getD i 0 = m.getD i 0:=fun i hi=>by
  rw [jab,jab,jar hi]
 unfold qk6;rw [e _ (by omega),e _ (by omega),e _ (by omega),e _ (by omega)]
theorem qpV {K:List W32} {s0:St8} {m r:List Int}:∀ {n:Nat},64 * n <= m.length->qgM K s0 (m ++ r) n = qgM K s0 m n
 | 0,_=>rfl
 | n + 1,h=>by rw [qgM,qgM,qpV (by omega),qzT (by omega)]
theorem Ctr.ok_less {P:Program} {c c':Ctr} (h:c.ok P) (hfn:c'.fn = c.fn) (hnv:c'.nv = c.nv) (ha:c'.args = c.args) (hh:c'.heap = c.heap) (hr:c'.ro = c.ro) (hpre:∀ Z,c'.pre Z->c.pre Z)
  (halt:∀ (Z Z':Env) (ai:Nat) (al:Alt),c'.pre Z->(∀ n,n < c.nv->Z' n = Z n)->c.alts[ai]? = some al->al.post (Z'.upto (c.nv + al.k))->∃ aj:Nat,c'.alts[aj]? = some al):c'.ok P:=by
 refine ⟨fun args w=>by rw [hfn]; exact h.1 args w,fun Z w hF hO hg hd hw hs hro hp=>?_⟩;rw [hfn,ha];refine (h.2 Z w hF hO hg hd hw (hh ▸ hs) (hr ▸ hro) (hpre Z hp)).mono fun e w' hpost=>?_
 obtain ⟨ai,al,Z',h1,h2,h3,h4,h5,h6⟩:=hpost;obtain ⟨aj,hj⟩:=halt Z Z' ai al hp h3 h1 h5;exact ⟨aj,al,Z',hj,h2,fun n hn=>h3 n (by rw [<- hnv]; exact hn),h4,by rw [hnv]; exact h5,h6⟩
end Go.Eng
namespace Go.Proofs
open Go Go.Eng
theorem qja {Z:Env} {x:SH}:∀ {l:List SH} {h:Hp},qac Z l h->x ∈ l->∃ hx,Hp.le hx h/\x.den Z hx
 | [],_,_,hx=>by cases hx
 | y :: l,h,⟨h1,h2,hd,hu,hy,hs⟩,hx=>by
  subst hu;rcases ja9.1 hx with rfl | hx
  ·exact ⟨h1,Hp.le_left _ _,hy⟩
  ·obtain ⟨g,g1,g2⟩:=qja hs hx
   exact ⟨g,Hp.le_trans g1 (Hp.le_right hd),g2⟩
theorem qf6 {h h':Hp} {pat:List CK} {v:Value} {d:List (List Value)} (hr:Rd h pat v d) (hl:Hp.le h h'):Rd h' pat v d:=by
 rcases hr with h0 | ⟨b,o,cap,c,ty,fr,h1,h2,h3,h4⟩
 ·exact .inl h0
 ·exact .inr ⟨b,o,cap,c,ty,fr,h1,h2,hl _ _ h3,h4⟩
theorem qvV {Z:Env} {r:Nat} {ty:TypeId} {pat:List CK} {d cap:T} {h H:Hp} {n:Nat} {k:Nat} (hx:SH.den Z (.arr r ty pat d cap) h) (hl:Hp.le h H) (hn:n = (d.den Z).d.length) (hc:k = (cap.den Z).i.toNat) :
  Rd H pat (.slice (qn (Z r).r 0) n k) (d.den Z).d:=by
 rcases hx with ⟨h1,h2,h3⟩ | ⟨b,c,h1,h2,h3,h4,h5⟩
 ·refine .inl ⟨none,?_,h2⟩
  rw [h1,hn,h2,hc,h3]; rfl
 ·refine .inr ⟨b,0,k,c,ty,(0,0),by rw [h1,hn]; rfl,by omega,hl _ _ h2,h5⟩
theorem qbR {Z:Env} {l:List SH} {H:Hp} (hs:qac Z l H) {n t:Nat} (hm:SH.abs n t ∈ l):∃ hb,Hp.le hb H/\Hp.le (Z n).h hb:=by
 obtain ⟨hb,lb,db⟩:=qja hs hm;exact ⟨hb,lb,db.1⟩
end Go.Proofs
namespace Go.Eng
open Go
theorem Ctr.ok_tags {P:Program} {c c':Ctr} (h:c.ok P) (hfn:c'.fn = c.fn) (hnv:c'.nv = c.nv) (ha:c'.args = c.args) (hh:c'.heap = c.heap) (hr:∀ x ∈ c.ro,x ∈ c'.ro∨∃ n t t',x = .abs n t/\SH.abs n t' ∈ c'.ro) (hpre:∀ Z,c'.pre Z->c.pre Z) (halt:c'.alts = c.alts):c'.ok P:=by
 refine ⟨fun args w=>by rw [hfn]; exact h.1 args w,fun Z w hF hO hg hd hw hs hro hp=>?_⟩;rw [hfn,ha,halt,hnv];refine h.2 Z w hF hO hg hd hw (hh ▸ hs) (fun x hx=>?_) (hpre Z hp);rcases hr x hx with hr | ⟨n,t,t',rfl,hr⟩
 ·exact hro x hr
 ·show SH.roden Z (.abs n t') hF
  exact hro _ hr
def qG (d:List (List Value)) (n:Nat):Prop:=∃ row,d = [row]/\row.length = n
def qf (d:List (List Value)) (n:Nat):List Int:=(List.range n).map (qa d)
def qN (k:IntKind) (v n:Nat):List T:=(List.range n).map fun j=>.vint k (.c2 (.xint j) (.var v) (.lit 0))
def k64:List CK:=List.replicate 64 (.int .u32)
def gHp (r d:Nat):SH:=.arr r 206 k64 (.var d) (.lit 1)
def gOk (Z:Env) (r d g:Nat):Prop:=(Z r).r = some ⟨g,0,none⟩/\(Z d).d = [qQ.map (Value.int .u32)]
def qEG:List CK:=List.replicate 8 (.int .u32) ++ (List.replicate 64 (.int .u8) ++ [.int .i64])
def hHp (r d:Nat):SH:=.arr r 219 qEG (.var d) (.lit 1)
def qgu (r:Nat):SV:=.one (.vptr r (.lit 0) 73 0)
def qca (d:List (List Value)):Prop:=qG d 73/\(∀ j,j < 8->isW (qa d j))/\∀ j,8 <= j->j < 72->0 <= qa d j/\qa d j < 256
def stW (d:List (List Value)):St8:=qbi (qf d 8)
def qdP (d:List (List Value)):List W32:=(List.range 16).map fun t=>qxf (qa d (8 + 4 * t)) (qa d (8 + (4 * t + 1))) (qa d (8 + (4 * t + 2))) (qa d (8 + (4 * t + 3)))
def qt1 (fn:Nat):Ctr:={ fn:=fn,nv:=2,args:=[.one (.vint .u32 (.var 0)),.one (.vint .i64 (.var 1))],heap:=[],ro:=[],pre:=fun Z=>isW (Z 0).i/\∃ n:Nat,1 <= n/\n <= 31/\(Z 1).i = -(n:Int),alts:=[{ k:=1,ret:=.one (.vint .u32 (.var 2)),heap:=[],post:=fun Z=>∀ n:Nat,1 <= n->n <= 31->(Z 1).i = -(n:Int)->(Z 2).i = ofW (qfp (toW (Z 0).i) n) }] }
def qnG:Ctr:=qt1 154
def qq2:Ctr:={ fn := 171,nv:=2,args:=[.one (.vint .u32 (.var 0)),.one (.vint .u64 (.var 1))],heap:=[],ro:=[],pre:=fun Z=>isW (Z 0).i/\1 <= (Z 1).i/\(Z 1).i <= 31,alts:=[{ k:=1,ret:=.one (.vint .u32 (.var 2)),heap:=[],post:=fun Z=>(Z 2).i = ofW (qfp (toW (Z 0).i) (Z 1).i.toNat) }] }
def qmi:Ctr:={ fn := 129,nv:=4,ip:=[(2000 + 1,2)],args:=[qgu 0],heap:=[hHp 0 1],ro:=[gHp 2 3],pre:=fun Z=>qca (Z 1).d/\gOk Z 2 3 1,alts:=[
 { k:=1,ret:=.tup [],heap:=[hHp 0 4],post:=fun Z=>qca (Z 4).d/\stW (Z 4).d = qfh (qel qQ) (stW (Z 1).d) (qdP (Z 1).d)/\∀ j,8 <= j->qa (Z 4).d j = qa (Z 1).d j }] }
def wHp (r d:Nat):SH:=.arr r 206 k64 (.var d) (.lit 1)
def qsy (r:Nat):SV:=.one (.vptr r (.lit 0) 64 0)
def q3R (t:T):SV:=.one (.vint .i64 t)
def qgz (d:List (List Value)) (l:List W32) (n:Nat):Prop:=qG d 64/\∀ j,j < n->qa d j = ofW (l.getD j 0)
def qBt:Inv:={ key:=2,nv:=3,env:=[(0,qgu 0),(2,qsy 1000),(24,q3R (.var 1002))],heap:=[hHp 0 1,wHp 1000 1001],inv:=(fun Z=>0 <= (Z 1002).i/\(Z 1002).i <= 16/\qgz (Z 1001).d (qak (qdP (Z 1).d) 48) (Z 1002).i.toNat),mu:=(fun Z=>(16 - (Z 1002).i).toNat) }
def qB3:Inv:={ key:=7,nv:=3,env:=[(0,qgu 0),(2,qsy 1000),(4,q3R (.var 1002))],heap:=[hHp 0 1,wHp 1000 1001],inv:=(fun Z=>16 <= (Z 1002).i/\(Z 1002).i <= 64/\qgz (Z 1001).d (qak (qdP (Z 1).d) 48) (Z 1002).i.toNat),mu:=(fun Z=>(64 - (Z 1002).i).toNat) }
def qmH (n:Nat):SV:=.one (.vint .u32 (.var n))
def st8 (Z:Env) (n:Nat):St8:=⟨toW (Z n).i,toW (Z (n + 1)).i,toW (Z (n + 2)).i,toW (Z (n + 3)).i,toW (Z (n + 4)).i,toW (Z (n + 5)).i,toW (Z (n + 6)).i,toW (Z (n + 7)).i⟩
def qEt (Z:Env) (n:Nat):Prop:=isW (Z n).i/\isW (Z (n + 1)).i/\isW (Z (n + 2)).i/\isW (Z (n + 3)).i/\isW (Z (n + 4)).i/\isW (Z (n + 5)).i/\isW (Z (n + 6)).i/\isW (Z (n + 7)).i
def qBy:Inv:={ key:=16,nv:=11,env:=[(0,qgu 0),(2,qsy 1000),(9,qmH 1003),(10,qmH 1004),(11,qmH 1005),(12,qmH 1006),(13,qmH 1007),(14,qmH 1008),(15,qmH 1009),(16,qmH 1010),(154,q3R (.var 1002))],heap:=[hHp 0 1,wHp 1000 1001],inv:=(fun Z=>0 <= (Z 1002).i/\(Z 1002).i <= 64/\qgz (Z 1001).d (qak (qdP (Z 1).d) 48) 64/\qEt Z 1003/\st8 Z 1003 = qoc (stW (Z 1).d) (qel qQ) (qak (qdP (Z 1).d) 48) (Z 1002).i.toNat),mu:=(fun Z=>(64 - (Z 1002).i).toNat) }
def qBz:Inv:={ key:=26,nv:=3,env:=[(0,qgu 0),(224,.agg (qN .u32 1000 8)),(225,q3R (.var 1001))],heap:=[hHp 0 1002],inv:=(fun Z=>0 <= (Z 1001).i/\(Z 1001).i <= 8/\(∀ j,j < 8->isW (qa (Z 1000).d j))/\qbi (qf (Z 1000).d 8) = qoc (stW (Z 1).d) (qel qQ) (qak (qdP (Z 1).d) 48) 64/\qca (Z 1002).d/\(∀ j,j < (Z 1001).i.toNat->qa (Z 1002).d j = ofW (toW (qa (Z 1).d j) + toW (qa (Z 1000).d j)))/\∀ j,(Z 1001).i.toNat <= j->qa (Z 1002).d j = qa (Z 1).d j),mu:=(fun Z=>(8 - (Z 1001).i).toNat) }
def qgm:List CK:=[.int .u32,.int .i32,.int .u32] ++ List.replicate 510 (.int .u8) ++ List.replicate 256 (.int .i64)
def qbD:List Value:=[.int .u32 0,.int .i32 0,.int .u32 0] ++ List.replicate 510 (.int .u8 0) ++ List.replicate 256 (.int .i64 0)
abbrev qe:=List (List Value)
def qjJ (x:Int):Int:=if 256 <= 2 * x then qc .xor .i64 (2 * x) 285 else 2 * x
def qnD (i:Nat) (s:qe × Int):qe × Int :=
 (qa0 (qa0 (qa0 s.1 (i + 3) (.int .u8 s.2)) (i + 255 + 3) (.int .u8 s.2)) (s.2.toNat + 513) (.int .i64 i),qjJ s.2)
def qbV (d:qe):Nat->qe × Int
 | 0=>(d,1)
 | n + 1=>qnD n (qbV d n)
def qDs:qe:=(qbV [qbD] 255).1
def qba:qe:=qa0 qDs 0 (.int .u32 1)
def ql (d:qe):Prop:=d = [qbD]∨d = qba
def qaK:SV:=.one (.vptr 0 (.lit 0) 769 0)
def fHp (n:Nat):SH:=.arr 0 151 qgm (.var n) (.lit 1)
def iv (k:IntKind) (t:T):SV:=.one (.vint k t)
def qc9:Ctr:={ fn := 20,nv:=0,args:=[],heap:=[],ro:=[],pre:=fun _=>True,alts:=[{ k:=2,ret:=qaK,heap:=[fHp 1],post:=fun Z=>(Z 1).d = [qbD] }] }
def qxb:Ctr:={ fn := 179,nv:=2,args:=[qaK],heap:=[fHp 1],ro:=[],pre:=fun Z=>(Z 1).d.length = 1,alts:=[{ k:=1,ret:=.tup [],heap:=[fHp 2],post:=fun Z=>(Z 2).d = (qbV (Z 1).d 255).1 }] }
def q8g:Inv:={ key:=2,nv:=3,env:=[(0,qaK),(2,iv .i64 (.var 1000)),(3,iv .i64 (.var 1001))],heap:=[fHp 1002],inv:=(fun Z=>0 <= (Z 1001).i/\(Z 1001).i <= 255/\((Z 1002).d,(Z 1000).i) = qbV (Z 1).d (Z 1001).i.toNat),mu:=(fun Z=>(255 - (Z 1001).i).toNat) }
def qni (i:Nat):Int:=qa qba (i + 3)
def qb3 (a:Nat):Int:=qa qba (a + 513)
def qbC (a b:Int):Int:=if a = 0∨b = 0 then 0 else qni (qb3 a.toNat + qb3 b.toNat).toNat
def qeK:Ctr:={ fn := 178,nv:=2,args:=[qaK,.fn (.func 179) [.vptr 0 (.lit 0) 769 0] []],heap:=[fHp 1],ro:=[],pre:=fun Z=>ql (Z 1).d,alts:=[{ k:=1,ret:=.tup [],heap:=[fHp 2],post:=fun Z=>(Z 2).d = qba }] }
def qjc:Ctr:={ fn := 152,nv:=4,args:=[qaK,iv .u8 (.var 2),iv .u8 (.var 3)],heap:=[fHp 1],ro:=[],pre:=fun Z=>ql (Z 1).d/\0 <= (Z 2).i/\(Z 2).i < 256/\0 <= (Z 3).i/\(Z 3).i < 256,alts:=[{ k:=2,ret:=iv .u8 (.var 4),heap:=[fHp 5],post:=fun Z=>ql (Z 5).d/\(Z 4).i = qbC (Z 2).i (Z 3).i }] }
def kB:List CK:=[.int .u8]
def qbp (r:List Value) (c:Nat):Int:=qX (r[c]?.getD .nilFunc)
def bI (d:qe):List Int:=d.map fun r=>qbp r 0
def qk (d:qe):Prop:=∀ row ∈ d,0 <= qbp row 0/\qbp row 0 < 256
def big:Int:=8796093021952
def qon (d:qe) (off len:Int):Prop:=0 <= off/\0 <= len/\off + len <= d.length/\len <= big
def seg (l:List Int) (off n:Nat):List Int:=(l.drop off).take n
def qek (x y:Int):Int:=qc .xor .u8 x y
def qE (l:List Int) (off:Nat) (s:List Int) (c:Int):List Int:=l.mapIdx fun i x=>if off <= i/\i < off + s.length then qek x (qbC c (s.getD (i - off) 0)) else x
def qbw (l:List Int) (off n:Nat) (c:Int):List Int:=l.mapIdx fun i x=>if off <= i/\i < off + n then qbC x c else x
def bSl (r o l c:Nat):SV:=.one (.vslice r (.var o) (.var l) (.var c) 1)
def bHp (r d c:Nat):SH:=.arr r 5 kB (.var d) (.var c)
def qqa (a b r l c:Nat):SV:=.agg [.vint .i64 (.var a),.vint .i64 (.var b),.vslice r (.lit 0) (.var l) (.var c) 1]
def qM (k total:Int):Bool:=decide (1 <= k) && decide (k <= total) && decide (total <= 255)
def qbv:Ctr:={ fn := 109,nv:=2,args:=[iv .i64 (.var 0),iv .i64 (.var 1)],heap:=[],ro:=[],pre:=fun _=>True,alts:=[{ k:=1,ret:=.one (.vbool (.var 2)),heap:=[],post:=fun Z=>(Z 2).b = qM (Z 0).i (Z 1).i }] }
def qcr (k size:Int):Prop:=k < 1∨255 < k∨size < 0∨8192 < size
def qbH:Ctr:={ fn := 99,nv:=2,args:=[iv .i64 (.var 0),iv .i64 (.var 1)],heap:=[],ro:=[],pre:=fun _=>True,alts:=[{ k:=2,ret:=.tup [(false,[.vint .i64 (.var 2)]),(false,[.vint .i64 (.var 3)])],heap:=[],post:=fun Z=>(qcr (Z 0).i (Z 1).i->(Z 2).i = 0/\(Z 3).i = 2)/\(¬ qcr (Z 0).i (Z 1).i->(Z 2).i = ((Z 1).i + (Z 0).i - 1).tdiv (Z 0).i/\(Z 3).i = 0) }] }
def qdc:Ctr:={ fn := 165,nv:=2,args:=[iv .i64 (.var 0),iv .i64 (.var 1)],heap:=[],ro:=[],pre:=fun Z=>0 <= (Z 0).i/\(Z 0).i <= 255/\0 <= (Z 1).i/\(Z 1).i <= 255,alts:=[{ k:=4,ret:=qqa 0 1 2 3 4,heap:=[bHp 2 5 4],post:=fun Z=>(Z 3).i = (Z 0).i * (Z 1).i/\(Z 4).i = (Z 3).i/\(Z 5).d = List.replicate (Z 3).i.toNat [.int .u8 0] }] }
def qdY (r c l cap:Int) (d:qe):Prop:=0 <= r/\r <= 255/\0 <= c/\c <= 255/\l = r * c/\l <= cap/\l <= d.length/\qk d
def qcs:Ctr:={ fn := 123,nv:=8,args:=[qqa 0 1 2 3 4,iv .i64 (.var 7)],heap:=[],ro:=[bHp 2 5 6],pre:=fun Z=>0 <= (Z 7).i/\(Z 7).i < (Z 0).i/\qdY (Z 0).i (Z 1).i (Z 3).i (Z 4).i (Z 5).d,alts:=[{ k:=3,ret:=bSl 2 8 9 10,heap:=[],post:=fun Z=>(Z 8).i = (Z 7).i * (Z 1).i/\(Z 9).i = (Z 1).i/\(Z 10).i = (Z 1).i }] }
def qdx:Ctr:={ fn := 164,nv:=7,args:=[qqa 0 1 2 3 4],heap:=[],ro:=[bHp 2 5 6],pre:=fun Z=>0 <= (Z 3).i,alts:=[{ k:=1,ret:=.one (.vbool (.var 7)),heap:=[],post:=fun Z=>(Z 7).b = true↔(1 <= (Z 0).i/\(Z 0).i <= 255/\1 <= (Z 1).i/\(Z 1).i <= 255/\(Z 3).i = (Z 0).i * (Z 1).i) }] }
def qiN:Ctr:={ fn := 168,nv:=7,args:=[qqa 0 1 2 3 4],heap:=[],ro:=[bHp 2 5 6],pre:=fun Z=>0 <= (Z 3).i/\(Z 3).i <= (Z 5).d.length/\(Z 3).i <= big,alts:=[{ k:=3,ret:=.agg [.vint .i64 (.var 0),.vint .i64 (.var 1),.vslice 7 (.lit 0) (.var 3) (.var 8) 1],heap:=[bHp 7 9 8],post:=fun Z=>(Z 9).d = (Z 5).d.take (Z 3).i.toNat }] }
def qeh:Ctr:={ fn := 124,nv:=15,args:=[qaK,bSl 2 3 4 5,bSl 8 9 10 11,iv .u8 (.var 14)],heap:=[fHp 1,bHp 2 6 7],ro:=[bHp 8 12 13],pre:=fun Z=>ql (Z 1).d/\qon (Z 6).d (Z 3).i (Z 4).i/\qon (Z 12).d (Z 9).i (Z 10).i/\(Z 10).i <= (Z 4).i/\qk (Z 6).d/\qk (Z 12).d/\0 <= (Z 14).i/\(Z 14).i < 256,alts:=[{ k:=2,ret:=.tup [],heap:=[fHp 15,bHp 2 16 7],post:=fun Z=>ql (Z 15).d/\(Z 16).d.length = (Z 6).d.length/\qk (Z 16).d/\bI (Z 16).d = qE (bI (Z 6).d) (Z 3).i.toNat (seg (bI (Z 12).d) (Z 9).i.toNat (Z 10).i.toNat) (Z 14).i }] }
def q5C:Inv:={ key:=2,nv:=3,env:=[(0,qaK),(1,bSl 2 3 4 5),(3,iv .u8 (.var 14)),(12,bSl 8 9 10 11),(13,iv .i64 (.var 10)),(14,iv .i64 (.var 1000))],heap:=[fHp 1001,bHp 2 1002 7],inv:=(fun Z=>0 <= (Z 1000).i/\(Z 1000).i <= (Z 10).i/\ql (Z 1001).d/\(Z 1002).d.length = (Z 6).d.length/\qk (Z 1002).d/\bI (Z 1002).d = qE (bI (Z 6).d) (Z 3).i.toNat (seg (bI (Z 12).d) (Z 9).i.toNat (Z 1000).i.toNat) (Z 14).i),mu:=(fun Z=>((Z 10).i - (Z 1000).i).toNat) }
def qnb:Ctr:={ fn := 124,nv:=12,args:=[qaK,bSl 2 3 4 5,bSl 2 8 9 10,iv .u8 (.var 11)],heap:=[fHp 1,bHp 2 6 7],ro:=[],pre:=fun Z=>ql (Z 1).d/\qon (Z 6).d (Z 3).i (Z 4).i/\qon (Z 6).d (Z 8).i (Z 9).i/\(Z 9).i <= (Z 4).i/\((Z 8).i + (Z 9).i <= (Z 3).i∨(Z 3).i + (Z 4).i <= (Z 8).i)/\qk (Z 6).d/\0 <= (Z 11).i/\(Z 11).i < 256,alts:=[{ k:=2,ret:=.tup [],heap:=[fHp 12,bHp 2 13 7],post:=fun Z=>ql (Z 12).d/\(Z 13).d.length = (Z 6).d.length/\qk (Z 13).d/\bI (Z 13).d = qE (bI (Z 6).d) (Z 3).i.toNat (seg (bI (Z 6).d) (Z 8).i.toNat (Z 9).i.toNat) (Z 11).i }] }
def q1r:Inv:={ key:=2,nv:=3,env:=[(0,qaK),(1,bSl 2 3 4 5),(3,iv .u8 (.var 11)),(12,bSl 2 8 9 10),(13,iv .i64 (.var 9)),(14,iv .i64 (.var 1000))],heap:=[fHp 1001,bHp 2 1002 7],inv:=(fun Z=>0 <= (Z 1000).i/\(Z 1000).i <= (Z 9).i/\ql (Z 1001).d/\(Z 1002).d.length = (Z 6).d.length/\qk (Z 1002).d/\bI (Z 1002).d = qE (bI (Z 6).d) (Z 3).i.toNat (seg (bI (Z 6).d) (Z 8).i.toNat (Z 1000).i.toNat) (Z 11).i),mu:=(fun Z=>((Z 9).i - (Z 1000).i).toNat) }
def qnJ:Ctr:={ fn := 185,nv:=9,args:=[qaK,bSl 2 3 4 5,iv .u8 (.var 8)],heap:=[fHp 1,bHp 2 6 7],ro:=[],pre:=fun Z=>ql (Z 1).d/\qon (Z 6).d (Z 3).i (Z 4).i/\qk (Z 6).d/\0 <= (Z 8).i/\(Z 8).i < 256,alts:=[{ k:=2,ret:=.tup [],heap:=[fHp 9,bHp 2 10 7],post:=fun Z=>ql (Z 9).d/\(Z 10).d.length = (Z 6).d.length/\qk (Z 10).d/\bI (Z 10).d = qbw (bI (Z 6).d) (Z 3).i.toNat (Z 4).i.toNat (Z 8).i }] }
def q5V:Inv:={ key:=1,nv:=3,env:=[(0,qaK),(1,bSl 2 3 4 5),(2,iv .u8 (.var 8)),(8,bSl 2 3 4 5),(9,iv .i64 (.var 4)),(10,iv .i64 (.var 1000))],heap:=[fHp 1001,bHp 2 1002 7],inv:=(fun Z=>0 <= (Z 1000).i/\(Z 1000).i <= (Z 4).i/\ql (Z 1001).d/\(Z 1002).d.length = (Z 6).d.length/\qk (Z 1002).d/\bI (Z 1002).d = qbw (bI (Z 6).d) (Z 3).i.toNat (Z 1000).i.toNat (Z 8).i),mu:=(fun Z=>((Z 4).i - (Z 1000).i).toNat) }
def qdU (a:Int):Int:=if a = 0 then 0 else qni (255 - qb3 a.toNat).toNat
def qnt:Ctr:={ fn := 184,nv:=3,args:=[qaK,iv .u8 (.var 2)],heap:=[fHp 1],ro:=[],pre:=fun Z=>ql (Z 1).d/\0 <= (Z 2).i/\(Z 2).i < 256,alts:=[{ k:=3,ret:=.tup [(false,[.vint .u8 (.var 3)]),(false,[.vint .i64 (.var 4)])],heap:=[fHp 5],post:=fun Z=>ql (Z 5).d/\(Z 3).i = qdU (Z 2).i/\(Z 4).i = if (Z 2).i = 0 then 2 else 0 }] }
def qhR (a e:Int):Int:=if e <= 0 then 1 else if a = 0 then 0 else qni ((qb3 a.toNat * e.tmod 255).tmod 255).toNat
def qnI:Ctr:={ fn := 177,nv:=4,args:=[qaK,iv .u8 (.var 2),iv .i64 (.var 3)],heap:=[fHp 1],ro:=[],pre:=fun Z=>ql (Z 1).d/\0 <= (Z 2).i/\(Z 2).i < 256/\(Z 3).i < 9223372036854775808,alts:=[{ k:=2,ret:=iv .u8 (.var 4),heap:=[fHp 5],post:=fun Z=>ql (Z 5).d/\(Z 4).i = qhR (Z 2).i (Z 3).i }] }
end Go.Eng
set_option maxRecDepth 100000
namespace Go.Proofs
open Go Go.Eng
def qiG:List Int :=
 [1,2,4,8,16,32,64,128,29,58,116,232,205,135,19,38,76,152,45,90,180,117,234,201,143,3,6,12,24,48,96,192,157,39,
  78,156,37,74,148,53,106,212,181,119,238,193,159,35,70,140,5,10,20,40,80,160,93,186,105,210,185,111,222,161,95,190,97,194,
  153,47,94,188,101,202,137,15,30,60,120,240,253,231,211,187,107,214,177,127,254,225,223,163,91,182,113,226,217,175,67,134,17,34,
  68,136,13,26,52,104,208,189,103,206,129,31,62,124,248,237,199,147,59,118,236,197,151,51,102,204,133,23,46,92,184,109,218,169,
  79,158,33,66,132,21,42,84,168,77,154,41,82,164,85,170,73,146,57,114,228,213,183,115,230,209,191,99,198,145,63,126,252,229,
  215,179,123,246,241,255,227,219,171,75,150,49,98,196,149,55,110,220,165,87,174,65,130,25,50,100,200,141,7,14,28,56,112,224,
  221,167,83,166,81,162,89,178,121,242,249,239,195,155,43,86,172,69,138,9,18,36,72,144,61,122,244,245,247,243,251,235,203,139,
  11,22,44,88,176,125,250,233,207,131,27,54,108,216,173,71,142,1,2,4,8,16,32,64,128,29,58,116,232,205,135,19,38,76,
  152,45,90,180,117,234,201,143,3,6,12,24,48,96,192,157,39,78,156,37,74,148,53,106,212,181,119,238,193,159,35,70,140,5,
  10,20,40,80,160,93,186,105,210,185,111,222,161,95,190,97,194,153,47,94,188,101,202,137,15,30,60,120,240,253,231,211,187,107,
  214,177,127,254,225,223,163,91,182,113,226,217,175,67,134,17,34,68,136,13,26,52,104,208,189,103,206,129,31,62,124,248,237,199,
  147,59,118,236,197,151,51,102,204,133,23,46,92,184,109,218,169,79,158,33,66,132,21,42,84,168,77,154,41,82,164,85,170,73,
  146,57,114,228,213,183,115,230,209,191,99,198,145,63,126,252,229,215,179,123,246,241,255,227,219,171,75,150,49,98,196,149,55,110,
  220,165,87,174,65,130,25,50,100,200,141,7,14,28,56,112,224,221,167,83,166,81,162,89,178,121,242,249,239,195,155,43,86,172,
  69,138,9,18,36,72,144,61,122,244,245,247,243,251,235,203,139,11,22,44,88,176,125,250,233,207,131,27,54,108,216,173,71,142]
def qm7:List Int :=
 [0,0,1,25,2,50,26,198,3,223,51,238,27,104,199,75,4,100,224,14,52,141,239,129,28,193,105,248,200,8,76,113,5,138,
  101,47,225,36,15,33,53,147,142,218,240,18,130,69,29,181,194,125,106,39,249,185,201,154,9,120,77,228,114,166,6,191,139,98,
  102,221,48,253,226,152,37,179,16,145,34,136,54,208,148,206,143,150,219,189,241,210,19,92,131,56,70,64,30,66,182,163,195,72,
  126,110,107,58,40,84,250,133,186,61,202,94,155,159,10,21,121,43,78,212,229,172,115,243,167,87,7,112,192,247,140,128,99,13,
  103,74,222,237,49,197,254,24,227,165,153,119,38,184,180,124,17,68,146,217,35,32,137,46,55,63,209,91,149,188,207,205,144,135,
  151,178,220,252,190,97,242,86,211,171,20,42,93,158,132,60,57,83,71,109,65,162,31,45,67,216,183,123,164,118,196,23,73,236,
  127,12,111,246,108,161,59,82,41,157,85,170,251,96,134,177,187,204,62,90,203,89,95,176,156,169,160,81,11,245,22,235,122,117,
  44,215,79,174,213,233,230,231,173,232,116,214,244,234,168,80,88,175]
theorem qpW:qba = [[.int .u32 1,.int .i32 0,.int .u32 0] ++ qiG.map (Value.int .u8) ++ qm7.map (Value.int .i64)]:=by kernel_rfl
theorem qyU:qiG.length = 510:=by kernel_rfl
theorem q9M:qm7.length = 256:=by kernel_rfl
theorem q1Q {i:Nat} (h:i < 510):qni i = qiG.getD i 0:=by
 have hl:=qyU;rw [qni,qpW,qa,jbm,jbr,jao (by simp)];simp only [jba,jct,jbj,Nat.reduceAdd,jc9];rw [jar (by simpa [hl] using h),jaq,jab,jac (by omega)];rfl
theorem q1C {a:Nat} (h:a < 256):qb3 a = qm7.getD a 0:=by
 have hl:=qyU;have hl2:=q9M;rw [qb3,qpW,qa,jbm,jao (by simp [hl])];simp only [jaj,ja7,jba,jct,hl];rw [show a + 513 - (0 + 1 + 1 + 1 + 510) = a by omega,jaq,jab,jac (by omega)];rfl
theorem qlX:∀ a:Fin 256,0 <= qm7.getD a.val 0/\qm7.getD a.val 0 < 255:=by decide +kernel
theorem qgy:∀ i:Fin 510,1 <= qiG.getD i.val 0/\qiG.getD i.val 0 < 256:=by decide +kernel
theorem qcF {a:Int} (h0:0 <= a) (h1:a < 256):0 <= qb3 a.toNat/\qb3 a.toNat < 255:=by
 rw [q1C (by omega)]; exact qlX ⟨a.toNat,by omega⟩
theorem ql2 {i:Nat} (h:i < 510):1 <= qni i/\qni i < 256:=by
 rw [q1Q h]; exact qgy ⟨i,h⟩
theorem wrap64 {x:Int} (h1:-9223372036854775808 <= x) (h2:x < 9223372036854775808):IntKind.i64.wrap x = x:=by
 simp [IntKind.wrap,IntKind.bits,IntKind.signed]; omega
theorem add64 {x y:Int} (h1:-9223372036854775808 <= x + y) (h2:x + y < 9223372036854775808):qc .add .i64 x y = x + y:=wrap64 h1 h2
theorem sub64 {x y:Int} (h1:-9223372036854775808 <= x - y) (h2:x - y < 9223372036854775808):qc .sub .i64 x y = x - y:=wrap64 h1 h2
theorem qbY {x y:Int} (h1:-9223372036854775808 <= x * y) (h2:x * y < 9223372036854775808):qc .mul .i64 x y = x * y:=wrap64 h1 h2
theorem qL {x y a b:Int} (h0:0 <= x) (h1:x <= a) (h2:0 <= y) (h3:y <= b):0 <= x * y/\x * y <= a * b :=
 ⟨jfn h0 h2,Int.mul_le_mul h1 h3 h2 (by omega)⟩
theorem qFi {x:Int}:0 <= IntKind.u8.wrap x/\IntKind.u8.wrap x < 256:=by simp [IntKind.wrap,IntKind.bits,IntKind.signed]; omega
theorem qb6 {x y:Int}:0 <= qek x y/\qek x y < 256:=qFi
theorem q3E:∀ x:Fin 256,qek (x.val:Int) 0 = x.val:=by decide +kernel
theorem q8e {x:Int} (h0:0 <= x) (h1:x < 256):qek x 0 = x:=by
 have:=q3E ⟨x.toNat,by omega⟩;simp only [jay h0] at this;exact this
theorem q7G {x:Int}:qbC 0 x = 0:=by simp [qbC]
theorem q3x {a b:Int} (a0:0 <= a) (a1:a < 256) (b0:0 <= b) (b1:b < 256):0 <= qbC a b/\qbC a b < 256:=by
 unfold qbC;split
 ·omega
 ·obtain ⟨l0,l1⟩:=qcF a0 a1
  obtain ⟨m0,m1⟩:=qcF b0 b1;have:=ql2 (i:=(qb3 a.toNat + qb3 b.toNat).toNat) (by omega);omega
theorem qcK {a:Int} (a0:0 <= a) (a1:a < 256):0 <= qdU a/\qdU a < 256:=by
 unfold qdU;split
 ·omega
 ·obtain ⟨l0,l1⟩:=qcF a0 a1
  have:=ql2 (i:=(255 - qb3 a.toNat).toNat) (by omega);omega
theorem bI_len {d:qe}:(bI d).length = d.length:=by simp [bI]
theorem qcw {d:qe} {i:Int} (h0:0 <= i) (h1:i < d.length):(bI d)[i.toNat]? = some (qb d i 0):=by
 have hl:i.toNat < d.length:=by omega
 simp [bI,qb,qC,qbp,jac hl]
theorem qbs {d:qe} (h:qk d) {i:Int} (h0:0 <= i) (h1:i < d.length):0 <= qb d i 0/\qb d i 0 < 256:=by
 have hl:i.toNat < d.length:=by omega
 have:=h _ (jbv hl);simpa [qb,qC,qbp,jac hl] using this
theorem allB_list {d:qe} (h:qk d):∀ x ∈ bI d,0 <= x/\x < 256:=fun x hx=>by
 obtain ⟨r,hr,rfl⟩:=jbk.1 hx;exact h r hr
theorem qaU {d:qe} {e:Int} {c:Nat} {vs:List Value}:(qaQ d e c vs).length = d.length:=by simp [qaQ]
theorem qwd {row:List Value} {k:IntKind} {z:Int}:qbp (qas row 0 [.int k z]) 0 = z:=by simp [qbp,qas,qX]
theorem qfX {d:qe} {e:Int} {k:IntKind} {z:Int}:bI (qaQ d e 0 [.int k z]) = (bI d).set e.toNat z:=by
 simp only [bI,qaQ,List.map_set,qwd]
theorem qew {d:qe} {e:Int} {k:IntKind} {z:Int} (h:qk d) (h0:0 <= z) (h1:z < 256):qk (qaQ d e 0 [.int k z]):=fun row hr=>by
 unfold qaQ at hr;rcases jc0 hr with hr | rfl
 ·exact h row hr
 ·rw [qwd]; exact ⟨h0,h1⟩
theorem qcN {n:Nat}:qk (List.replicate n [.int .u8 0]):=fun row hr=>by
 rw [jc3 hr]; simp [qbp,qX]
theorem qeY {n:Nat}:bI (List.replicate n [.int .u8 0]) = List.replicate n 0:=by simp [bI,qbp,qX]
theorem qf5 {l:List Int} {o n j:Nat}:(seg l o n)[j]? = if j < n then l[o + j]? else none:=by
 simp only [seg,jbb,jbc]
theorem qdF {l:List Int} {o n:Nat} (h:o + n <= l.length):(seg l o n).length = n:=by simp [seg]; omega
theorem qbK {l s:List Int} {off:Nat} {c:Int}:(qE l off s c).length = l.length:=by simp [qE]
theorem qbN {l s:List Int} {off:Nat} {c:Int} {j:Nat}:(qE l off s c)[j]? = (l[j]?).map fun x=>if off <= j/\j < off + s.length then qek x (qbC c (s.getD (j - off) 0)) else x:=by
 simp [qE]
theorem qih {l:List Int} {off:Nat} {c:Int}:qE l off [] c = l:=by
 apply jbs;intro j;rw [qbN];cases l[j]? with
 | none=>rfl
 | some x=>simp only [ja0,jct]; rw [jaf (by omega)]
theorem qh0 {l s:List Int} {off:Nat} (h:∀ x ∈ l,0 <= x/\x < 256):qE l off s 0 = l:=by
 apply jbs;intro j;rw [qbN];cases hj:l[j]? with
 | none=>rfl
 | some x =>
  have:=h x (jbl hj);simp only [ja0,q7G,q8e this.1 this.2,ite_self]
theorem qhs {l s:List Int} {off o i:Nat} {c x y:Int} (hx:l[off + i]? = some x) (hy:s[o + i]? = some y) :
  qE l off (seg s o (i + 1)) c = (qE l off (seg s o i) c).set (off + i) (qek x (qbC c y)):=by
 have hs:o + i < s.length:=(jan.1 hy).1;have hl:off + i < l.length:=(jan.1 hx).1;apply jbs;intro j;rw [jby,qbN,qbN,qdF (by omega),qdF (by omega),qbK];by_cases hj:off + i = j
 ·subst hj
  rw [jah rfl,jah hl,hx,ja0,jah (by omega)];rw [show off + i - off = i by omega,jab,qf5,jah (by omega),hy]; rfl
 ·rw [jaf hj]
  cases hlj:l[j]? with
  | none=>rfl
  | some z =>
   simp only [ja0,jaa];by_cases hin:off <= j/\j < off + i
   ·rw [jah (by omega),jah hin,jab,jab,qf5,qf5,jah (by omega),jah (by omega)]
   ·rw [jaf (by omega),jaf hin]
theorem qgp {l s:List Int} {off:Nat} {c:Int} {j:Nat} (h:j < off∨off + s.length <= j):(qE l off s c)[j]? = l[j]?:=by
 rw [qbN];cases l[j]? with
 | none=>rfl
 | some x=>rw [ja0,jaf (by omega)]
theorem qlv {l:List Int} {off n:Nat} {c:Int}:(qbw l off n c).length = l.length:=by simp [qbw]
theorem qeE {l:List Int} {off n:Nat} {c:Int} {j:Nat}:(qbw l off n c)[j]? = (l[j]?).map fun x=>if off <= j/\j < off + n then qbC x c else x:=by
 simp [qbw]
theorem q0s {l:List Int} {off:Nat} {c:Int}:qbw l off 0 c = l:=by
 apply jbs;intro j;rw [qeE];cases l[j]? with
 | none=>rfl
 | some x=>rw [ja0,jaf (by omega)]
theorem qzR {l:List Int} {off i:Nat} {c x:Int} (hx:l[off + i]? = some x):qbw l off (i + 1) c = (qbw l off i c).set (off + i) (qbC x c):=by
 have hl:off + i < l.length:=(jan.1 hx).1;apply jbs;intro j;rw [jby,qeE,qeE,qlv];by_cases hj:off + i = j
 ·subst hj
  rw [jah rfl,jah hl,hx,ja0,jah (by omega)]
 ·rw [jaf hj]
  cases hlj:l[j]? with
  | none=>rfl
  | some z =>
   simp only [ja0,jaa];by_cases hin:off <= j/\j < off + i
   ·rw [jah (by omega),jah hin]
   ·rw [jaf (by omega),jaf hin]
theorem q39 {l:List Int} {off n:Nat} {c:Int} {j:Nat} (h:j < off∨off + n <= j):(qbw l off n c)[j]? = l[j]?:=by
 rw [qeE];cases l[j]? with
 | none=>rfl
 | some x=>rw [ja0,jaf (by omega)]
theorem qbT {d:qe} (h:ql d):¬ d = []/\0 < d.length:=by
 have:d.length = 1:=by
  rcases h with h | h
  ·rw [h]; rfl
  ·rw [h,qpW]; rfl
 exact ⟨fun h=>(by rw [h] at this; cases this),by omega⟩
end Go.Proofs
