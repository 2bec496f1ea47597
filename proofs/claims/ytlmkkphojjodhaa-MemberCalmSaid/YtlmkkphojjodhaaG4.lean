/- Texts E9, E10, E10b, E11, E12, MC, ME, TC, MA, AT, MB, E15, E16. -/
import Derived.Test.YtlmkkphojjodhaaG3
import Derived.Test.YtlmkkphojjodhaaG1
import Derived.OrdersHeld
import Derived.Test.YtlmkkphojjodhaaProg
set_option linter.unusedSimpArgs false
set_option linter.unusedVariables false
set_option linter.unusedSectionVars false
namespace Go.Eng
open Go
variable {P:Program} {Z:Env} {hF:Fr} {s:S} {a:Act} {w:World}
theorem T.den_congrS {p:Nat->Bool} {Z Z':Env} (h:∀ m,p m = true->Z m = Z' m):∀ (t:T),t.inS p = true->t.den Z = t.den Z'
 | .var m,hb=>by simp [T.inS] at hb; simpa [T.den] using h m hb
 | .c0 o,hb=>by
  cases o <;> simp_all [T.inS,T.den,O0.den]
 | .c1 o a,hb=>by
  cases o <;> (simp only [T.inS,jad] at hb) <;>
   first
    | (simp only [T.den]; rw [T.den_congrS h a hb]; rfl)
    | (simp only [T.den]; rw [T.den_congrS h a hb.2]; simp [O1.den,h _ hb.1])
 | .c2 o a b,hb=>by
  simp only [T.inS,jad] at hb;simp only [T.den]; rw [T.den_congrS h a hb.1,T.den_congrS h b hb.2]
 | .c3 o a b c,hb=>by
  cases o <;> (simp only [T.inS,jad] at hb)
  ·simp only [T.den]; rw [T.den_congrS h a hb.1.1.2,T.den_congrS h b hb.1.2,T.den_congrS h c hb.2]; simp [O3.den,h _ hb.1.1.1]
  all_goals (simp only [T.den]; rw [T.den_congrS h a hb.1.1,T.den_congrS h b hb.1.2,T.den_congrS h c hb.2]; rfl)
 | .ife a b x y,hb=>by
  simp only [T.inS,jad] at hb;simp only [T.den]; rw [T.den_congrS h a hb.1.1.1,T.den_congrS h b hb.1.1.2,T.den_congrS h x hb.1.2,T.den_congrS h y hb.2]
theorem qdy {p:Nat->Bool} {Z Z':Env} (h:∀ m,p m = true->Z m = Z' m) (ts:List T) (hb:ts.all (T.inS p) = true):qa Z ts = qa Z' ts:=by
 unfold qa;refine jds fun t ht=>?_
 rw [T.den_congrS h t (jao.1 hb t ht)]
theorem SV.den_congrS {p:Nat->Bool} {Z Z':Env} (h:∀ m,p m = true->Z m = Z' m) (v:SV) (hb:v.inS p = true):v.den Z = v.den Z':=by
 cases v with
 | one t=>simp only [SV.inS] at hb; simp only [SV.den]; rw [T.den_congrS h t hb]
 | agg ts=>simp only [SV.inS] at hb; simp only [SV.den]; rw [qdy h ts hb]
 | tup vs =>
  simp only [SV.inS] at hb; simp only [SV.den]
  congr 2
  refine jds fun x hx=>?_
  have:=jao.1 hb x hx;obtain ⟨g,ts⟩:=x;cases g <;> simp only [qdM] <;> rw [qdy h ts this]
 | fn f a b =>
  simp only [SV.inS,jad] at hb; simp only [SV.den];rw [qdy h a hb.1,qdy h b hb.2]
theorem SH.den_congrS {p:Nat->Bool} {Z Z':Env} (h:∀ m,p m = true->Z m = Z' m) (x:SH) (hb:x.inS p = true) (hp:Hp):x.den Z hp↔x.den Z' hp:=by
 cases x with
 | cells r ty cs=>simp only [SH.inS,jad] at hb; simp only [SH.den]; rw [qdy h cs hb.2,h r hb.1]
 | arr r ty pat d cap =>
  simp only [SH.inS,jad] at hb; simp only [SH.den];rw [T.den_congrS h d hb.1.2,T.den_congrS h cap hb.2,h r hb.1.1]
 | abs m t=>simp only [SH.inS] at hb; simp only [SH.den]; rw [h m hb]
theorem qcW {p:Nat->Bool} {Z Z':Env} (h:∀ m,p m = true->Z m = Z' m):∀ (l:List SH),l.all (SH.inS p) = true->∀ hp,qD Z l hp->qD Z' l hp
 | [],_,_,_=>trivial
 | x :: xs,hb,hp,⟨h1,h2,hd,hu,hx,hs⟩=>by
  simp only [jc0,jad] at hb;exact ⟨h1,h2,hd,hu,(SH.den_congrS h x hb.1 h1).1 hx,qcW h xs hb.2 h2 hs⟩
def quc (nv k base:Nat) (Z1 Z:Env):Env:=fun n=>if n < nv then Z1 n else if n < nv + k then Z (base + (n - nv)) else {}
def Env.upto (n:Nat) (Z:Env):Env:=fun m=>if m < n then Z m else {}
def cutE (base nv:Nat) (Z:Env):Env:=fun n=>if n < 1000 then (if n < base then Z n else {}) else if n < 1000 + nv then Z n else {}
def qdL (base nv:Nat) (Z:Env):Env:=fun n=>if n < 1000 then (if n < base then Z n else {}) else if n < 1000 + nv then Z (base + (n - 1000)) else {}
def Out.den (E:Ctx):Out->Env->Prop
 | .stuck _ _ _,_=>False
 | .need c o,Z=>(c.den Z).b = true/\o.den E Z
 | .br c x y,Z=>((c.den Z).b = true->x.den E Z)/\((c.den Z).b = false->y.den E Z)
 | .fresh n o,Z=>∀ u:U,u.good->o.den E (Z.set n u)
 | .both x y,Z=>x.den E Z/\y.den E Z
 | .top,_=>True
 | .pre ci Y o,Z=>(match E.ctrs[ci]? with | some c=>c.pre (Y.env Z) | none=>False)/\o.den E Z
 | .post ci ai Y base o,Z=>(match E.ctrs[ci]? with | some c=>(match c.alts[ai]? with | some al=>al.post (quc c.nv al.k base (Y.env Z) Z) | none=>False) | none=>False)->o.den E Z
 | .inv li base Y o,Z=>(match E.invs[li]? with | some I=>I.inv (cutE base I.nv (Y.env Z)) | none=>False)/\o.den E Z
 | .hyp li base o,Z=>(match E.invs[li]? with | some I=>I.inv (qdL base I.nv Z) | none=>False)->o.den E Z
 | .back li base Y,Z=>match E.invs[li]? with | some I=>I.inv (cutE base I.nv (Y.env Z))/\I.mu (cutE base I.nv (Y.env Z)) < I.mu (qdL base I.nv Z) | none=>False
 | .cut li base Y,Z=>match E.invs[li]? with | some I=>I.inv (cutE base I.nv (Y.env Z)) | none=>False
 | .pack l n o,Z=>∀ u:U,u.good->qD Z l u.h->o.den E (Z.set n u)
 | .view x pat ms base o,Z=>∃ d:List (List Value),(∃ m ∈ ms,Rd (Z m).h pat (x.den Z).v d)/\∀ u0:U,u0.good->∀ u1:U,u1.good->o.den E (((Z.set base u0).set (base + 1) u1).set (base + 2) { d:=d })
 | .viewL x pat ms base o,Z=>∃ d:List (List Value),(∃ m ∈ ms,Rd (Z m).h pat (x.den Z).v d)/\∀ u0:U,u0.good->∀ u1:U,u1.good->(x.den Z).v = .slice (qj u0.r 0) d.length u1.i.toNat->(d.length:Int) <= u1.i->o.den E (((Z.set base u0).set (base + 1) u1).set (base + 2) { d:=d })
 | .know c o,Z=>(c.den Z).b = true->o.den E Z
 | .take x el pat m base o,Z=>∃ (h':Hp) (r:Option Addr) (cap:Int) (d:List (List Value)),qzm (Z m).h el pat (x.den Z).v d h' r cap/\o.den E ((((Z.set base { h:=h' }).set (base + 1) { r:=r }).set (base + 2) { i:=cap }).set (base + 3) { d:=d })
 | .put m rg pat d e c vs base o,Z=>∀ u:U,u.good->Put (Z m).h u.h (Z rg).r pat (d.den Z).d ((e.den Z).i.toNat * pat.length + c) (qa Z vs)->o.den E (Z.set base u)
 | .mop k base o1 o2,Z=>k.sem Z (fun us=>o1.den E (qr Z base us)) (fun us=>o2.den E (qr Z base us))
 | .ret ai Y,Z=>match E.me.alts[ai]? with | some al=>al.post ((Y.env Z).upto (E.me.nv + al.k)) | none=>False
def Ctr.ok (P:Program) (c:Ctr):Prop :=
 (∀ (args:Array Value) (w:World),(callFunc c.fn args).run P w = .ok (.enter c.fn args) w) /\
 ∀ (Z:Env) (w:World) (hF:Fr) (hO:Hp),Z.good->Hp.disj hF hO->((Hp.union hF hO).sub w/\hF.wi w)->qD Z c.heap hO->(∀ x ∈ c.ro,x.roden Z hF)->c.pre Z ->
  Calls P c.fn (c.args.map (SV.den Z)).toArray w fun e w' =>
   ∃ (ai:Nat) (al:Alt) (Z':Env),c.alts[ai]? = some al/\Z'.good/\(∀ n,n < c.nv->Z' n = Z n)/\e = .returned (al.ret.den Z')/\al.post (Z'.upto (c.nv + al.k))/\qt Z' hF al.heap w'
variable {E:Ctx}
theorem Holds.withPc (hs:Holds Z hF s a w) (pc:List (T × Bool)) (h:∀ c b,(c,b) ∈ pc->(c.den Z).b = b):Holds Z hF { s with pc:=pc } a w :=
 ⟨hs.gd,hs.nt,hs.df,hs.env,hs.ro,hs.hp,h,hs.vw⟩
theorem qhp (hs:Holds Z hF s a w) {c:T} (h:((qhW s c).den Z).b = true):(c.den Z).b = true:=by
 unfold qhW at h;split at h
 ·rename_i r
  split at h
  ·rename_i r' ty cs hf
   obtain ⟨H,_,hro,hreg⟩:=hs.found hf;simp only [SH.reg,jaa] at hreg; subst hreg;obtain ⟨b,o,c,ty',fr,h1,_⟩:=hro;simp [T.den,O0.den,O1.den,h1]
  ·rename_i r' ty pat d cap hf
   obtain ⟨H,_,hro,hreg⟩:=hs.found hf;simp only [SH.reg,jaa] at hreg; subst hreg;rw [qT _ _ _ (by simp),qbe] at h;rcases hro with h2 | ⟨b,o,c,ty',fr,h1,_⟩
   ·simp [T.den,O0.den,h2,qS] at h
   ·simp [T.den,O0.den,O1.den,h1]
  ·exact h
 ·exact h
theorem qbS:∀ {cs:List T} {s:S} {k:S->Out},Holds Z hF s a w->(needs s cs k).den E Z ->
  (∀ c ∈ cs,(c.den Z).b = true)/\∃ pc,Holds Z hF { s with pc:=pc } a w/\(k { s with pc:=pc }).den E Z
 | [],s,k,hs,h=>⟨fun _ h=>(by cases h),s.pc,hs,h⟩
 | c :: cs,s,k,hs,h=>by
  simp only [needs] at h;split at h
  ·rename_i hk
   have hk:=qcX hs hk;obtain ⟨h1,h2⟩:=qbS hs h;exact ⟨fun c' hc'=>by
    cases hc' with
    | head=>exact qhp hs hk
    | tail _ hc'=>exact h1 c' hc',h2⟩
  ·exact h.elim
  ·obtain ⟨hc,h⟩:=h
   obtain ⟨h1,pc,h2⟩:=qbS (s:={ s with pc:=(qhW s c,true) :: s.pc })
    (hs.withPc _ fun c' b hm=>by
     cases hm with
     | head=>exact hc
     | tail _ hm=>exact hs.pc c' b hm) h
   exact ⟨fun c' hc'=>by
    cases hc' with
    | head=>exact qhp hs hc
    | tail _ hc'=>exact h1 c' hc',pc,h2⟩
theorem qpL {c c':T} {b b':Bool} (h:(c.den Z).b = b) (he:qnH c b = (c',b')):(c'.den Z).b = b':=by
 unfold qnH at he;split at he
 ·simp only [jam] at he
  obtain ⟨rfl,rfl⟩:=he;rw [<- h]; simp [T.den,O1.den]
 ·simp only [jam] at he
  obtain ⟨rfl,rfl⟩:=he;exact h
theorem qi6 {c:T} {k:Bool->S->Out} (hs:Holds Z hF s a w) (h:(qjv s c k).den E Z) :
  ∃ b pc,(c.den Z).b = b/\Holds Z hF { s with pc:=pc } a w/\(k b { s with pc:=pc }).den E Z:=by
 unfold qjv at h;split at h
 ·rename_i b hk
  exact ⟨b,s.pc,qcX hs hk,hs,h⟩
 ·obtain ⟨h1,h2⟩:=h
  cases hb:(c.den Z).b with
  | true =>
   exact ⟨true,qnH c true :: s.pc,rfl,hs.withPc _ (fun c' b hm=>by
    rcases jar.1 hm with hm | hm
    ·exact qpL hb hm.symm
    ·exact hs.pc c' b hm),h1 hb⟩
  | false =>
   exact ⟨false,qnH c false :: s.pc,rfl,hs.withPc _ (fun c' b hm=>by
    rcases jar.1 hm with hm | hm
    ·exact qpL hb hm.symm
    ·exact hs.pc c' b hm),h2 hb⟩
theorem qbk (h:s.inNx = true):s.env.all (fun x=>x.2.inB s.nx) = true/\s.heap.all (SH.inB s.nx) = true/\s.ro.all (SH.inB s.nx) = true/\s.pc.all (fun x=>x.1.inB s.nx) = true:=by
 simp only [S.inNx,jad] at h;exact ⟨h.1.1.1.1,h.1.1.1.2,h.1.1.2,h.1.2⟩
theorem qym (h:s.inNx = true):∀ x ∈ s.vw,(∀ m ∈ x.1,m < s.nx)/\x.2.inB s.nx = true:=by
 simp only [S.inNx,jad] at h;intro x hx;have:=jao.1 h.2 x hx;simp only [jad,jao,ja6] at this;exact ⟨this.1,this.2⟩
theorem Holds.congr {Z':Env} (hs:Holds Z hF s a w) (hsc:s.inNx = true) (hg:Z'.good) (h:∀ m,m < s.nx->Z m = Z' m):Holds Z' hF s a w:=by
 obtain ⟨h1,h2,h3,h4⟩:=qbk hsc;refine ⟨hg,hs.nt,hs.df,fun t v hv=>?_,fun x hx=>?_,?_,fun c b hc=>?_,fun x hx=>?_⟩
 ·rw [hs.env t v hv]; exact SV.den_congr h v (qlH h1 hv)
 ·exact (SH.roden_congr h x (jao.1 h3 x hx) hF).1 (hs.ro x hx)
 ·obtain ⟨hO,hd,hst,hsub,hwi⟩:=hs.hp
  exact ⟨hO,hd,qaS h _ h2 hO hst,hsub,hwi⟩
 ·rw [<- hs.pc c b hc]; exact congrArg U.b (T.den_congr h c (jao.1 h4 (c,b) hc)).symm
 ·obtain ⟨m,hm,hr⟩:=hs.vw x hx
  obtain ⟨g1,g2⟩:=qym hsc x hx;refine ⟨m,hm,?_⟩;rw [<- h m (g1 m hm)];exact (SH.roden_congr h x.2 g2 _).1 hr
theorem qaU:∀ (us:List U) (Z:Env) (n m:Nat),m < n->qr Z n us m = Z m
 | [],Z,n,m,_=>rfl
 | u :: us,Z,n,m,h=>by
  simp only [qr];rw [qaU us _ (n + 1) m (by omega),Env.set_ne Z u (by omega)]
theorem qgP:∀ (us:List U) (Z:Env) (n:Nat),Z.good->(∀ u ∈ us,u.good)->(qr Z n us).good
 | [],Z,n,h,_=>h
 | u :: us,Z,n,h,hu=>by
  simp only [qr];refine qgP us _ _ (fun m=>?_) (fun v hv=>hu v (jab _ hv));by_cases hm:m = n
  ·subst hm; rw [Env.set_same]; exact hu u (jac ..)
  ·rw [Env.set_ne Z u hm]; exact h m
theorem qir:∀ (us:List U) (Z:Env) (n j:Nat) (u:U),us[j]? = some u->qr Z n us (n + j) = u
 | [],Z,n,j,u,h=>by simp at h
 | u' :: us,Z,n,0,u,h=>by
  simp only [ja7,jaa] at h;simp only [qr,jcq];rw [qaU us _ (n + 1) n (by omega),Env.set_same,h]
 | u' :: us,Z,n,j + 1,u,h=>by
  simp only [ja1] at h;simp only [qr];have:=qir us (Z.set n u') (n + 1) j u h
  rwa [show n + 1 + j = n + (j + 1) from by omega] at this
theorem qdO:∀ {us:List U} {Z:Env} {s:S} {k:S->Out},(∀ u ∈ us,u.good)->(qet s us.length k).den E Z ->
  (us = []∨s.inNx = true)/\(k { s with nx:=s.nx + us.length }).den E (qr Z s.nx us)
 | [],Z,s,k,_,h=>⟨.inl rfl,h⟩
 | u :: us,Z,s,k,hu,h=>by
  simp only [jbh,qet] at h;split at h
  ·rename_i hsc
   have:=qdO (us:=us) (s:={ s with nx:=s.nx + 1 }) (fun v hv=>hu v (jab _ hv)) (h u (hu u (jac ..)));refine ⟨.inr hsc,?_⟩;have h2:=this.2;simp only [jbh,qr]
   rwa [show s.nx + (us.length + 1) = s.nx + 1 + us.length from by omega]
  ·exact h.elim
theorem Holds.fresh {us:List U} (hs:Holds Z hF s a w) (hsc:us = []∨s.inNx = true) (hu:∀ u ∈ us,u.good) (n:Nat):Holds (qr Z s.nx us) hF { s with nx:=n } a w:=by
 rcases hsc with rfl | hsc
 ·exact ⟨hs.gd,hs.nt,hs.df,hs.env,hs.ro,hs.hp,hs.pc,hs.vw⟩
 ·have:=hs.congr hsc (qgP us Z s.nx hs.gd hu) (fun m hm=>(qaU us Z s.nx m hm).symm)
  exact ⟨this.gd,this.nt,this.df,this.env,this.ro,this.hp,this.pc,this.vw⟩
theorem qfR (d:Nat) (v:SV):∀ (l:List (Nat × SV)) (t:Nat) (u:SV),qbg t (qfK d v l) = some u->(t = d/\u = v)∨(t ≠ d/\qbg t l = some u)
 | [],t,u,h=>by
  simp only [qfK,qbg] at h;split at h
  ·rename_i ht
   simp only [jaa] at h;exact .inl ⟨Nat.eq_of_beq_eq_true ht,h.symm⟩
  ·simp at h
 | (k,x) :: r,t,u,h=>by
  simp only [qfK] at h;split at h
  ·rename_i hdk
   have hdk:=Nat.eq_of_beq_eq_true hdk;simp only [qbg] at h ⊢;split at h
   ·rename_i ht
    simp only [jaa] at h;exact .inl ⟨Nat.eq_of_beq_eq_true ht,h.symm⟩
   ·rename_i ht
    have htd:t ≠ d:=fun he=>ht (by rw [he]; simp)
    refine .inr ⟨htd,?_⟩;rw [jaf (by rw [<- hdk]; exact ht)];exact h
  ·split at h
   ·simp only [qbg] at h ⊢
    split at h
    ·rename_i ht
     simp only [jaa] at h;exact .inl ⟨Nat.eq_of_beq_eq_true ht,h.symm⟩
    ·rename_i ht
     exact .inr ⟨fun he=>ht (by rw [he]; simp),h⟩
   ·simp only [qbg] at h ⊢
    split at h
    ·rename_i hdk _ ht
     have ht':=Nat.eq_of_beq_eq_true ht;exact .inr ⟨fun he=>hdk (by rw [<- he,ht']; simp),by simp [ht,h]⟩
    ·rename_i ht
     rcases qfR d v r t u h with h' | h'
     ·exact .inl h'
     ·exact .inr ⟨h'.1,by rw [jaf ht]; exact h'.2⟩
theorem Holds.put {dst:Option Nat} {v:SV} {s':S} (hs:Holds Z hF s a w) (h:qcn dst (some v) s = some s'):Holds Z hF s' (a.put dst (v.den Z)) w/\s'.nx = s.nx/\s'.ro = s.ro/\s'.nt = s.nt/\s'.heap = s.heap:=by
 cases dst with
 | none =>
  simp only [qcn,jaa] at h; subst h;exact ⟨hs,rfl,rfl,rfl,rfl⟩
 | some d =>
  simp only [qcn] at h;split at h
  ·rename_i hd
   simp only [jaa] at h; subst h;simp only [ja6] at hd;have hsz:d < a.tmps.size:=jdh hd hs.nt;refine ⟨⟨hs.gd,by simpa [Act.put] using hs.nt,hs.df,fun t u hu=>?_,hs.ro,hs.hp,hs.pc,hs.vw⟩,rfl,rfl,rfl,rfl⟩;rcases qfR d v s.env t u hu with ⟨rfl,rfl⟩ | ⟨hne,hl⟩
   ·simp [Act.put,Array.getD,hsz]
   ·rw [<- hs.env t u hl]
    simp only [Act.put,jbm];rw [jcv (fun h=>hne h.symm)]
  ·simp at h
theorem qkN {dst:Option Nat} {s':S} (h:qcn dst none s = some s'):dst = none/\s' = s:=by
 cases dst with
 | none=>simp only [qcn,jaa] at h; exact ⟨rfl,h.symm⟩
 | some d=>simp [qcn] at h
theorem qla (sel:SH->Bool):∀ {l:List SH} {h:Hp},qD Z l h->∃ h1 h2,Hp.disj h1 h2/\h = Hp.union h1 h2/\qD Z (l.filter sel) h1/\qD Z (l.filter fun x=>!sel x) h2
 | [],h,_=>⟨Hp.emp,h,Hp.emp_disj _,(Hp.emp_union _).symm,trivial,trivial⟩
 | x :: l,h,⟨a1,a2,hd,hu,hx,hs⟩=>by
  obtain ⟨b1,b2,e1,e2,e3,e4⟩:=qla sel hs;subst e2; subst hu;rw [Hp.disj_union] at hd;cases hsel:sel x with
  | true =>
   refine ⟨Hp.union a1 b1,b2,Hp.disj_union'.2 ⟨hd.2,e1⟩,(Hp.union_assoc _ _ _).symm,?_,?_⟩
   ·simp only [jci,hsel,ja5]; exact ⟨a1,b1,hd.1,rfl,hx,e3⟩
   ·simp only [jci,hsel,jed,jan,ja3]; exact e4
  | false =>
   refine ⟨b1,Hp.union a1 b2,Hp.disj_union.2 ⟨hd.1.symm,e1⟩,?_,?_,?_⟩
   ·rw [<- Hp.union_assoc,Hp.union_comm hd.1,Hp.union_assoc]
   ·simp only [jci,hsel,jan,ja3]; exact e3
   ·simp only [jci,hsel,Bool.not_false,ja5]; exact ⟨a1,b2,hd.2,rfl,hx,e4⟩
def qaL (E:Ctx) (hF:Fr) (Z:Env) (s:S) (a:Act) (w:World) (k:S->Out):Prop :=
 ∃ Z' s',(∀ m,m < s.nx->Z' m = Z m)/\s.nx <= s'.nx/\Holds Z' hF s' a w/\s'.ro = s.ro/\s'.nt = s.nt/\(k s').den E Z'
theorem qaL.self {k:S->Out} (hs:Holds Z hF s a w) (h:(k s).den E Z):qaL E hF Z s a w k:=⟨Z,s,fun _ _=>rfl,jbj _,hs,rfl,rfl,h⟩
def Hp.thaw (h:Hp):Hp:=fun b=>match h b with
 | some (.cells c ty fr)=>if fr = (0,0) then some (.cells c ty fr) else none
 | _=>none
theorem Hp.thaw_free (h:Hp):h.thaw.free:=fun b o ho=>by
 unfold Hp.thaw at ho;split at ho
 ·split at ho
  ·rename_i h0; subst h0; exact ⟨_,_,(jat ho).symm⟩
  ·cases ho
 ·cases ho
theorem Hp.thaw_le (h:Hp):Hp.le h.thaw h:=fun b o ho=>by
 unfold Hp.thaw at ho;split at ho
 ·rename_i hb
  split at ho
  ·rw [hb]; exact ho
  ·cases ho
 ·cases ho
theorem Hp.thaw_at {h:Hp} {b:Nat} {c:Array Value} {ty:TypeId} (hb:h b = some (.cells c ty (0,0))):h.thaw b = some (.cells c ty (0,0)):=by
 simp [Hp.thaw,hb]
theorem Hp.thaw_none {h:Hp} {b:Nat} (hb:h b = none):h.thaw b = none:=by simp [Hp.thaw,hb]
theorem Hp.thaw_union {h1 h2:Hp} (hd:Hp.disj h1 h2):(Hp.union h1 h2).thaw = Hp.union h1.thaw h2.thaw:=by
 funext b
 rcases hd b with h | h
 ·simp only [Hp.union,Hp.thaw_none h,jbg]
  simp only [Hp.thaw,Hp.union,h,jbg]
 ·simp only [Hp.union,Hp.thaw_none h,jev]
  simp only [Hp.thaw,Hp.union,h,jev]
theorem SH.den_thaw {Z:Env} {x:SH} {h:Hp} (ht:qk7 x = false) (hx:x.den Z h):x.den Z h.thaw:=by
 cases x with
 | cells r ty cs=>obtain ⟨b,h1,h2⟩:=hx; exact ⟨b,h1,Hp.thaw_at h2⟩
 | arr r ty pat d cap =>
  rcases hx with h0 | ⟨b,c,h1,h2,h3⟩
  ·exact .inl h0
  ·exact .inr ⟨b,c,h1,Hp.thaw_at h2,h3⟩
 | abs n t =>
  have ht':Nat.blt t 1001 = true:=by
   simp only [qk7] at ht;rw [ja6];rcases jbt t 1001 with h | h
   ·exact h
   ·rw [show Nat.ble 1001 t = true from by rw [jdg]; exact h] at ht; cases ht
  refine ⟨fun b o ho=>?_,hx.2⟩;obtain ⟨c,ty,rfl⟩:=hx.2 ht' b o ho;exact Hp.thaw_at (hx.1 b _ ho)
theorem qou {Z:Env}:∀ {l:List SH} {h:Hp},l.all (fun x=>!(qk7 x)) = true->qD Z l h->qD Z l h.thaw
 | [],_,_,_=>trivial
 | x :: l,h,ha,⟨h1,h2,hd,hu,hx,hs⟩=>by
  simp only [jc0,jad,jay] at ha;subst hu;refine ⟨h1.thaw,h2.thaw,fun b=>?_,Hp.thaw_union hd,SH.den_thaw ha.1 hx,qou ha.2 hs⟩;rcases hd b with h | h
  ·exact .inl (Hp.thaw_none h)
  ·exact .inr (Hp.thaw_none h)
theorem qm4 {sel:SH->Bool} {t:Nat} {k:S->Out} (hs:Holds Z hF s a w) (h:(qmy s sel t k).den E Z):qaL E hF Z s a w k:=by
 unfold qmy at h;split at h
 ·rename_i hsc0
  simp only [jad] at hsc0;obtain ⟨hsc,hcase⟩:=hsc0;simp only [Out.den] at h;obtain ⟨hO,hd,hst,hsub,hwi⟩:=hs.hp;obtain ⟨h1,h2,e1,e2,e3,e4⟩:=qla sel hst;have key:∃ hp:Hp,Hp.le hp h1/\qD Z (s.heap.filter sel) hp/\(Nat.blt t 1001 = true->hp.free):=by
   cases ht:Nat.beq t 1003 with
   | true=>exact ⟨h1,Hp.le_refl _,e3,fun h=>by rw [Nat.eq_of_beq_eq_true ht] at h; cases h⟩
   | false =>
    rw [ht,Bool.false_or,jad] at hcase;exact ⟨h1.thaw,Hp.thaw_le h1,qou hcase.1 e3,fun _=>Hp.thaw_free h1⟩
  obtain ⟨hp,hple,hpst,hpfr⟩:=key;have hu:({ h:=hp }:U).good:=by simp [U.good,Value.oneCell']
  have h:=h { h:=hp } hu hpst;have hag:∀ m,m < s.nx->(Z.set s.nx { h:=hp }) m = Z m:=fun m hm=>Env.set_ne Z _ (by omega)
  have hg':(Z.set s.nx { h:=hp }).good:=fun m=>by
   by_cases hm:m = s.nx
   ·subst hm; rw [Env.set_same]; exact hu
   ·rw [Env.set_ne Z _ hm]; exact hs.gd m
  have hc:=hs.congr hsc hg' (fun m hm=>(hag m hm).symm);refine ⟨_,{ s with heap:=.abs s.nx t :: s.heap.filter (fun x=>!sel x),nx:=s.nx + 1 },hag,?_,⟨hc.gd,hc.nt,hc.df,hc.env,hc.ro,⟨hO,hd,?_,hsub,hwi⟩,hc.pc,hc.vw⟩,rfl,rfl,h⟩
  ·exact Nat.le_succ _
  ·subst e2
   refine ⟨h1,h2,e1,rfl,?_,?_⟩
   ·simp only [SH.den,Env.set_same]; exact ⟨hple,hpfr⟩
   ·refine qaS (n:=s.nx) (fun m hm=>(hag m hm).symm) _ ?_ _ e4
    have:=(qbk hsc).2.1;exact jao.2 fun x hx=>jao.1 this x (jb2.1 hx).1
 ·exact h.elim
theorem qlh {sel:SH->Bool} {t:Nat} {k:S->Out} (hs:Holds Z hF s a w) (h:(qk4 s sel t k).den E Z):qaL E hF Z s a w k:=by
 unfold qk4 at h;split at h
 ·split at h
  ·exact qaL.self hs h
  ·exact qm4 hs h
 ·exact qm4 hs h
theorem qaL.bind {k k':S->Out} (h:qaL E hF Z s a w k) (hk:∀ Z' s',s'.ro = s.ro->s'.nt = s.nt->Holds Z' hF s' a w->(k s').den E Z'->qaL E hF Z' s' a w k'):qaL E hF Z s a w k':=by
 obtain ⟨Z1,s1,a1,a2,a3,a4,a5,a6⟩:=h;obtain ⟨Z2,s2,b1,b2,b3,b4,b5,b6⟩:=hk Z1 s1 a4 a5 a3 a6;exact ⟨Z2,s2,fun m hm=>(b1 m (by omega)).trans (a1 m hm),by omega,b3,b4.trans a4,b5.trans a5,b6⟩
theorem qdd {left:List SH}:∀ {ts:List Nat} {s:S} {Z:Env} {k:S->Out},Holds Z hF s a w->(qev s left ts k).den E Z->qaL E hF Z s a w k
 | [],s,Z,k,hs,h=>qaL.self hs h
 | t :: ts,s,Z,k,hs,h=>by
  simp only [qev] at h;exact (qlh hs h).bind fun Z' s' _ _ hs' h'=>qdd hs' h'
theorem qe6:∀ {ts:List Nat} {s:S} {Z:Env} {k:S->Out},Holds Z hF s a w->(qfa s ts k).den E Z->qaL E hF Z s a w k
 | [],s,Z,k,hs,h=>qaL.self hs h
 | t :: ts,s,Z,k,hs,h=>by
  simp only [qfa] at h;split at h
  ·exact (qlh hs h).bind fun Z' s' _ _ hs' h'=>qe6 hs' h'
  ·exact qe6 hs h
theorem qrQ {ctrs:List Ctr} {o:Oper} {s:S} {Z:Env} {k:S->Out} (hs:Holds Z hF s a w) (h:(qnB ctrs s o k).den E Z):qaL E hF Z s a w k:=by
 unfold qnB at h;split at h
 ·exact qdd hs h
 ·exact qe6 hs h
theorem qhr {c:Array Value} {o:Nat} {pat:List CK} {d:List (List Value)} (h:qaA c o pat d):∀ row ∈ d,∀ v ∈ row,v.oneCell' = true:=fun row hr v hv =>
 qof (qhw h) v (jd1.2 ⟨row,hr,hv⟩)
theorem qvN {x:T} {pat:List CK} {ms:List Nat} {base:Nat} {o:Out} (h:(Out.view x pat ms base o).den E Z):(Out.viewL x pat ms base o).den E Z:=by
 simp only [Out.den] at h ⊢;obtain ⟨d,hm,h⟩:=h;exact ⟨d,hm,fun u0 g0 u1 g1 _ _=>h u0 g0 u1 g1⟩
theorem qkS {ow:List Nat} {x:T} {pat:List CK} {ms:List Nat} {base:Nat} {o:Out} (h:(qmq ow x pat ms base o).den E Z):(Out.viewL x pat ms base o).den E Z:=by
 unfold qmq at h;split at h
 ·exact h
 ·exact qvN h
theorem qpl {t el:Nat} {x:T} {pat:List CK} {u sv:SV} {k:S->Out} {ms:List Nat} (hms:∀ m ∈ ms,m ∈ qaD s.heap ++ qaD s.ro) (hs:Holds Z hF s a w) (hsc:s.inNx = true) (hl:qbg t s.env = some u)
  (hsv:∀ Z':Env,u.den Z' = u.den Z->((T.vslice s.nx (.lit 0) (.dlen (.var (s.nx + 2))) (.var (s.nx + 1)) pat.length).den Z').v = (x.den Z).v->sv.den Z' = u.den Z)
  (h:(Out.viewL x pat ms s.nx (k { s with
     env:=qfK t sv s.env
     vw:=(ms,.arr s.nx el pat (.var (s.nx + 2)) (.var (s.nx + 1))) :: s.vw
     nx:=s.nx + 3 })).den E Z):qaL E hF Z s a w k:=by
 simp only [Out.den] at h;obtain ⟨d,⟨m,hm,hrd⟩,h⟩:=h;have hdg:({ d:=d }:U).good:=by
  refine ⟨rfl,?_⟩;rcases hrd with ⟨_,_,h2⟩ | ⟨b,o,cap,c,ty,fr,_,_,_,h4⟩
  ·rw [h2]; simp
  ·exact qhr h4
 obtain ⟨r,cap,hval,hlc,hro⟩:∃ (r:Option Addr) (cap:Nat),(x.den Z).v = .slice (qj r 0) d.length cap/\d.length <= cap /\
   (d = []∨∃ b o c ty fr,r = some ⟨b,o,none⟩/\(Z m).h b = some (.cells c ty fr)/\qaA c o pat d):=by
  rcases hrd with ⟨r,h1,h2⟩ | ⟨b,o,cap,c,ty,fr,h1,h2,h3,h4⟩
  ·exact ⟨r,0,by rw [h1,h2,qbm]; rfl,by rw [h2]; exact jbj _,.inl h2⟩
  ·exact ⟨some ⟨b,o,none⟩,cap,by rw [h1]; rfl,h2,.inr ⟨b,o,c,ty,fr,rfl,h3,h4⟩⟩
 have hu0:({ r:=r }:U).good:=by simp [U.good,Value.oneCell']
 have hu1:({ i:=(cap:Int) }:U).good:=by simp [U.good,Value.oneCell']
 have h:=h { r:=r } hu0 { i:=(cap:Int) } hu1 (by rw [hval]; rfl) (Int.ofNat_le.2 hlc)
 let Z':Env:=((Z.set s.nx { r:=r }).set (s.nx + 1) { i:=(cap:Int) }).set (s.nx + 2) { d:=d }
 have hag:∀ m,m < s.nx->Z' m = Z m:=fun m hm=>by
  simp only [Z'];rw [Env.set_ne _ _ (by omega),Env.set_ne _ _ (by omega),Env.set_ne _ _ (by omega)]
 have e0:Z' s.nx = { r:=r }:=by
  simp only [Z'];rw [Env.set_ne _ _ (by omega),Env.set_ne _ _ (by omega),Env.set_same]
 have e1:Z' (s.nx + 1) = { i:=(cap:Int) }:=by
  simp only [Z'];rw [Env.set_ne _ _ (by omega),Env.set_same]
 have e2:Z' (s.nx + 2) = { d:=d }:=by simp only [Z']; rw [Env.set_same]
 have hg':Z'.good:=fun n=>by
  by_cases h2:n = s.nx + 2
  ·subst h2; rw [e2]; exact hdg
  ·by_cases h1:n = s.nx + 1
   ·subst h1; rw [e1]; exact hu1
   ·by_cases h0:n = s.nx
    ·subst h0; rw [e0]; exact hu0
    ·simp only [Z']
     rw [Env.set_ne _ _ h2,Env.set_ne _ _ h1,Env.set_ne _ _ h0]; exact hs.gd n
 have hc:=hs.congr hsc hg' (fun m hm=>(hag m hm).symm);have hmlt:m < s.nx:=by
  have hin:∀ {l:List SH},l.all (SH.inB s.nx) = true->m ∈ qaD l->m < s.nx:=by
   intro l
   induction l with
   | nil=>intro _ h; simp [qaD] at h
   | cons y l ih =>
    intro hall hmem;simp only [jc0,jad] at hall;cases y with
    | cells r ty cs=>exact ih hall.2 (by simpa [qaD] using hmem)
    | arr r ty pat d cap=>exact ih hall.2 (by simpa [qaD] using hmem)
    | abs n t =>
     have hmem:m = n∨m ∈ qaD l:=by
      simp only [qaD] at hmem;split at hmem
      ·exact .inr hmem
      ·exact jar.1 hmem
     rcases hmem with rfl | hmem
     ·simpa [SH.inB] using hall.1
     ·exact ih hall.2 hmem
  obtain ⟨p1,p2,p3,p4⟩:=qbk hsc;rcases jax.1 (hms m hm) with hm | hm
  ·exact hin p2 hm
  ·exact hin p3 hm
 refine ⟨Z',{ s with
  env:=qfK t sv s.env
  vw:=(ms,.arr s.nx el pat (.var (s.nx + 2)) (.var (s.nx + 1))) :: s.vw
  nx:=s.nx + 3 },hag,?_,⟨hc.gd,hc.nt,hc.df,fun t' u' hu=>?_,hc.ro,hc.hp,hc.pc,fun y hy=>?_⟩,rfl,rfl,h⟩
 ·exact Nat.le_add_right _ _
 ·rcases qfR t _ s.env t' u' hu with ⟨rfl,rfl⟩ | ⟨hne,hl'⟩
  ·rw [hs.env t' _ hl]
   refine (hsv Z' ((hc.env t' _ hl).symm.trans (hs.env t' _ hl)) ?_).symm;simp only [T.den,O0.den,O1.den,O3.den,e0,e1,e2,hval];simp
  ·exact hc.env t' u' hl'
 ·rcases jar.1 hy with rfl | hy
  ·refine ⟨m,hm,?_⟩
   rw [hag m hmlt];simp only [SH.roden,T.den,e0,e2];exact hro
  ·exact hc.vw y hy
theorem qmw {ow:List Nat} {s:S} {t:Nat}:∀ m ∈ qdW ow s t,m ∈ qaD s.heap ++ qaD s.ro:=fun m hm=>by
 have hsub:∀ {g:Nat} {l:List SH},m ∈ qaD (l.filter (qgS g))->m ∈ qaD l:=by
  intro g l
  induction l with
  | nil=>exact fun h=>h
  | cons y l ih =>
   intro h;rw [jci] at h;split at h
   ·cases y with
    | cells r ty cs=>exact ih (by simpa [qaD] using h)
    | arr r ty pat d cap=>exact ih (by simpa [qaD] using h)
    | abs n t' =>
     simp only [qaD] at h ⊢;split at h
     ·rename_i h3; rw [jag h3]; exact ih h
     ·rename_i h3
      rw [jaf h3];rcases jar.1 h with rfl | h
      ·exact jac ..
      ·exact jab _ (ih h)
   ·cases y with
    | cells r ty cs=>exact (by simpa [qaD] using ih h)
    | arr r ty pat d cap=>exact (by simpa [qaD] using ih h)
    | abs n t' =>
     simp only [qaD];split
     ·exact ih h
     ·exact jab _ (ih h)
 unfold qdW at hm;split at hm
 ·exact jbn _ (hsub hm)
 ·split at hm
  ·exact jbn _ hm
  ·split at hm
   ·exact jb4 _ hm
   ·exact hm
theorem quV {ow:List Nat} {t el:Nat} {pat:List CK} {k:S->Out} (hs:Holds Z hF s a w) (h:(qu9 ow s t el pat k).den E Z):qaL E hF Z s a w k:=by
 unfold qu9 at h;split at h
 ·rename_i x hl
  split at h
  ·split at h
   ·rename_i hsc
    simp only [jad,ja6] at hsc;exact qpl (ms:=qdW ow s t) qmw (x:=x) (sv:=.one (.vslice s.nx (.lit 0) (.dlen (.var (s.nx + 2))) (.var (s.nx + 1)) pat.length)) hs hsc.1 hl (fun Z' _ h2=>h2) (qkS h)
   ·exact h.elim
  ·exact qaL.self hs h
 ·exact qaL.self hs h
theorem qpH (Z:Env):∀ ts:List T,qa Z ts = ts.map fun t=>(t.den Z).v
 | []=>rfl
 | t :: ts=>by rw [jaq,<- qpH Z ts]; rfl
theorem qwf {ow:List Nat} {t j el:Nat} {pat:List CK} {k:S->Out} (hs:Holds Z hF s a w) (h:(qtD ow s t j el pat k).den E Z):qaL E hF Z s a w k:=by
 unfold qtD at h;split at h
 ·rename_i cs hl
  split at h
  ·rename_i x hx
   split at h
   ·split at h
    ·rename_i hsc
     simp only [jad,ja6] at hsc;refine qpl (ms:=qdW ow s t) qmw (x:=x) (sv:=.agg (cs.set j (.vslice s.nx (.lit 0) (.dlen (.var (s.nx + 2))) (.var (s.nx + 1)) pat.length))) hs hsc.1 hl (fun Z' h1 h2=>?_) (qkS h);simp only [SV.den,Value.agg.injEq,qpH] at h1 ⊢;have h1:cs.map (fun t=>(t.den Z').v) = cs.map fun t=>(t.den Z).v:=by simpa using h1
     rw [List.map_set,h2,h1]
     congr 1
     apply jbo;intro i;rw [ja4];split
     ·rename_i hij
      subst hij;split
      ·rw [jau,hx]; rfl
      ·rename_i hlt
       rw [jap (by omega)]
     ·rfl
    ·exact h.elim
   ·exact qaL.self hs h
  ·exact qaL.self hs h
 ·exact qaL.self hs h
theorem qmQ {ow:List Nat}:∀ {l:List (Nat × Nat × Nat × List CK)} {s:S} {Z:Env} {k:S->Out},Holds Z hF s a w->(qm3 ow s l k).den E Z->qaL E hF Z s a w k
 | [],s,Z,k,hs,h=>qaL.self hs h
 | (t,j,el,pat) :: l,s,Z,k,hs,h=>by
  simp only [qm3] at h;exact (qwf hs h).bind fun Z' s' _ _ hs' h'=>qmQ hs' h'
theorem qm5 {ow:List Nat}:∀ {l:List (Nat × Nat × List CK)} {s:S} {Z:Env} {k:S->Out},Holds Z hF s a w->(qma ow s l k).den E Z->qaL E hF Z s a w k
 | [],s,Z,k,hs,h=>qaL.self hs h
 | (t,el,pat) :: l,s,Z,k,hs,h=>by
  simp only [qma] at h;exact (quV hs h).bind fun Z' s' _ _ hs' h'=>qm5 hs' h'
theorem qeY {t c:T} (hs:Holds Z hF s a w) (h:qdt s t = some c):(c.den Z).b = true:=by
 unfold qdt at h;split at h
 ·split at h
  ·rename_i k rr ty pat d cap hat
   simp only [jaa] at h; subst h;obtain ⟨hk,hreg⟩:=qZ hat;obtain ⟨hO,hd,hst,hsub,hwi⟩:=hs.hp;obtain ⟨t1,t2,td,tu,tx,ts⟩:=qaz hst hk;rw [qT _ _ _ (by simp),qbe];simp only [qS,jaw];rcases tx with ⟨_,h2,h3⟩ | ⟨b,c,h1,h2,h3,h4,h5⟩
   ·rw [h2,h3]; simp
   ·exact h4
  ·cases h
 ·cases h
theorem qp0 {x:Operand} {c:T} (hs:Holds Z hF s a w) (h:qnE s x = some c):(c.den Z).b = true:=by
 unfold qnE at h;split at h
 ·obtain ⟨t,_,ht⟩:=jcs h
  exact qeY hs ht
 ·split at h
  ·obtain ⟨t,_,ht⟩:=jcs h
   exact qeY hs ht
  ·cases h
 ·cases h
theorem qwk {ow:List Nat} {t el:Nat} {pat:List CK} {k:S->Out} (hs:Holds Z hF s a w) (h:(qt3 ow s t el pat k).den E Z):qaL E hF Z s a w k:=by
 unfold qt3 at h;split at h
 ·exact qaL.self hs h
 ·rename_i g _
  split at h
  ·rename_i x hl
   split at h
   ·split at h
    ·rename_i j m hj
     split at h
     ·rename_i hsc0
      simp only [jad,ja6] at hsc0;obtain ⟨hsc,_⟩:=hsc0;simp only [Out.den] at h;obtain ⟨h',r,cap,d,⟨hval,hcase⟩,h⟩:=h;have hdg:({ d:=d }:U).good:=by
       refine ⟨rfl,?_⟩;rcases hcase with ⟨_,h2,_⟩ | ⟨b,c,_,_,_,_,h4,_⟩
       ·rw [h2]; simp
       ·exact qhr h4
      have hu:∀ {i:Int} {r:Option Addr} {h:Hp},({ i:=i,r:=r,h:=h }:U).good:=by simp [U.good,Value.oneCell']
      let Z':Env:=(((Z.set s.nx { h:=h' }).set (s.nx + 1) { r:=r }).set (s.nx + 2) { i:=cap }).set (s.nx + 3) { d:=d }
      have hag:∀ m,m < s.nx->Z' m = Z m:=fun m hm=>by
       simp only [Z'];rw [Env.set_ne _ _ (by omega),Env.set_ne _ _ (by omega),Env.set_ne _ _ (by omega),Env.set_ne _ _ (by omega)]
      have e0:Z' s.nx = { h:=h' }:=by
       simp only [Z'];rw [Env.set_ne _ _ (by omega),Env.set_ne _ _ (by omega),Env.set_ne _ _ (by omega),Env.set_same]
      have e1:Z' (s.nx + 1) = { r:=r }:=by
       simp only [Z'];rw [Env.set_ne _ _ (by omega),Env.set_ne _ _ (by omega),Env.set_same]
      have e2:Z' (s.nx + 2) = { i:=cap }:=by
       simp only [Z'];rw [Env.set_ne _ _ (by omega),Env.set_same]
      have e3:Z' (s.nx + 3) = { d:=d }:=by simp only [Z']; rw [Env.set_same]
      have hg':Z'.good:=fun n=>by
       by_cases h3:n = s.nx + 3
       ·subst h3; rw [e3]; exact hdg
       ·by_cases h2:n = s.nx + 2
        ·subst h2; rw [e2]; exact hu
        ·by_cases h1:n = s.nx + 1
         ·subst h1; rw [e1]; exact hu
         ·by_cases h0:n = s.nx
          ·subst h0; rw [e0]; exact hu
          ·simp only [Z']
           rw [Env.set_ne _ _ h3,Env.set_ne _ _ h2,Env.set_ne _ _ h1,Env.set_ne _ _ h0]; exact hs.gd n
      have hc:=hs.congr hsc hg' (fun m hm=>(hag m hm).symm);obtain ⟨hO,hd,hst,hsub,hwi⟩:=hs.hp;obtain ⟨t1,t2,td,tu,tx,ts⟩:=qaz hst (qcH hj);have hall:=(qbk hsc).2.1;have ts':qD Z' (s.heap.eraseIdx j) t2:=qaS (n:=s.nx) (fun m hm=>(hag m hm).symm) _ (jao.2 fun x hx=>jao.1 hall x (jbk hx)) _ ts;have hnew:qD Z' (.arr (s.nx + 1) el pat (.var (s.nx + 3)) (.var (s.nx + 2)) :: .abs s.nx g :: s.heap.eraseIdx j) hO:=by
       rcases hcase with ⟨c1,c2,c3,c4⟩ | ⟨b,c,c1,c2,c3,c4,c5,c6⟩
       ·refine ⟨Hp.emp,hO,Hp.emp_disj _,(Hp.emp_union _).symm,.inl ?_,t1,t2,td,tu,?_,ts'⟩
        ·simp only [T.den,e1,e2,e3]; exact ⟨c1,c2,c3⟩
        ·simp only [SH.den,e0,c4]; exact tx
       ·have hb1:t1 b = some (.cells c el (0,0)):=tx.1 _ _ c2
        have hb2:t2 b = none:=(td b).resolve_left (by rw [hb1]; simp);refine ⟨Hp.one b (.cells c el (0,0)),Hp.union (t1.del b) t2,fun y=>?_,?_,.inr ⟨b,c,?_⟩,t1.del b,t2,fun y=>?_,rfl,?_,ts'⟩
        ·by_cases hy:y = b
         ·subst hy; right; simp [Hp.union,Hp.del,hb2]
         ·left; simp [Hp.one,hy]
        ·funext y
         rw [tu];by_cases hy:y = b
         ·subst hy; simp [Hp.union,Hp.one,hb1]
         ·simp [Hp.union,Hp.one,Hp.del,hy]
        ·simp only [T.den,e1,e2,e3]
         exact ⟨c1,by simp [Hp.one],c3,c4,c5⟩
        ·by_cases hy:y = b
         ·left; simp [Hp.del,hy]
         ·simpa [Hp.del,hy] using td y
        ·simp only [SH.den,e0,c6]
         refine ⟨fun y ob hy=>?_,fun ht y ob hy=>?_⟩
         ·by_cases hyb:y = b
          ·simp [Hp.del,hyb] at hy
          ·simp only [Hp.del,hyb,ja3] at hy ⊢; exact tx.1 _ _ hy
         ·by_cases hyb:y = b
          ·simp [Hp.del,hyb] at hy
          ·simp only [Hp.del,hyb,ja3] at hy; exact tx.2 ht _ _ hy
      refine ⟨Z',{ s with
       env:=qfK t (.one (.vslice (s.nx + 1) (.lit 0) (.dlen (.var (s.nx + 3))) (.var (s.nx + 2)) pat.length)) s.env
       heap:=.arr (s.nx + 1) el pat (.var (s.nx + 3)) (.var (s.nx + 2)) :: .abs s.nx g :: s.heap.eraseIdx j
       nx:=s.nx + 4 },hag,?_,⟨hc.gd,hc.nt,hc.df,fun t' u' hu=>?_,hc.ro,⟨hO,hd,hnew,hsub,hwi⟩,hc.pc,hc.vw⟩,rfl,rfl,h⟩
      ·exact Nat.le_add_right _ _
      ·rcases qfR t _ s.env t' u' hu with ⟨rfl,rfl⟩ | ⟨hne,hl'⟩
       ·rw [hs.env t' _ hl]
        simp only [SV.den,T.den,O0.den,O1.den,O3.den,e1,e2,e3,hval];simp
       ·exact hc.env t' u' hl'
     ·exact h.elim
    ·exact qaL.self hs h
   ·exact qaL.self hs h
  ·exact qaL.self hs h
theorem qvD {o:Oper} {ow:List Nat} {k:S->Out} (hs:Holds Z hF s a w) (h:(qtf P ow s o k).den E Z):qaL E hF Z s a w k:=by
 unfold qtf at h;split at h
 ·split at h
  ·split at h
   ·exact qwk hs h
   ·exact qaL.self hs h
  ·exact qaL.self hs h
 ·exact qaL.self hs h
theorem qkr {ip:List (Nat × Nat)} {o:Oper} {c:T} (hs:Holds Z hF s a w) (h:qqb ip s o = some c):(c.den Z).b = true:=by
 have key:∀ {x:Operand} {c:T},(match opd s x with
  | some (.one (.c3 (.vslice r _) _ _ _)) =>
   match qa4 r s.heap with
   | some (_,.arr _ _ _ d cap)=>some (qs .leq (qaw d) cap)
   | _=>none
  | _=>none) = some c->(c.den Z).b = true:=by
  intro x c h;split at h
  ·split at h
   ·rename_i r' p' off len cap' hx _ k rr ty pat d cap hat
    simp only [jaa] at h; subst h;obtain ⟨hk,hreg⟩:=qZ hat;obtain ⟨hO,hd,hst,hsub,hwi⟩:=hs.hp;obtain ⟨t1,t2,td,tu,tx,ts⟩:=qaz hst hk;rw [qT _ _ _ (by simp),qbe];simp only [qS,jaw];rcases tx with ⟨_,h2,h3⟩ | ⟨b,c,h1,h2,h3,h4,h5⟩
    ·rw [h2,h3]; simp
    ·exact h4
   ·cases h
  ·cases h
 unfold qqb at h;simp only at h;split at h
 ·exact key h
 ·split at h
  ·split at h
   ·exact key h
   ·cases h
  ·cases h
 ·cases h
 ·split at h
  ·split at h
   ·obtain ⟨x,_,hx⟩:=jcs h
    exact key hx
   ·split at h
    ·obtain ⟨x,_,hx⟩:=jcs h
     exact qp0 hs hx
    ·cases h
  ·cases h
 ·cases h
theorem qvq {ip:List (Nat × Nat)} {o:Oper} {k:S->Out} (hs:Holds Z hF s a w) (h:(qlT ip s o k).den E Z):qaL E hF Z s a w k:=by
 unfold qlT at h;split at h
 ·rename_i c hc
  split at h
  ·exact qaL.self hs h
  ·have hc:=qkr hs hc
   exact ⟨Z,{ s with pc:=(c,true) :: s.pc },fun _ _=>rfl,jbj _,hs.withPc _ (fun c' b hm=>by
    cases hm with
    | head=>exact hc
    | tail _ hm=>exact hs.pc c' b hm),rfl,rfl,h hc⟩
 ·exact qaL.self hs h
theorem qnI {x:Operand} {c:T} (hs:Holds Z hF s a w) (h:c ∈ qlx s x):(c.den Z).b = true:=by
 have key:∀ {ts:List T},c ∈ ts.filterMap (qdt s)->(c.den Z).b = true:=fun h=>by
  obtain ⟨t,_,ht⟩:=List.mem_filterMap.1 h;exact qeY hs ht
 unfold qlx at h;split at h
 ·split at h
  ·exact key h
  ·cases h
 ·exact key h
 ·exact key h
 ·cases h
theorem qpx {ip:List (Nat × Nat)} {o:Oper} {c:T} (hs:Holds Z hF s a w) (h:c ∈ qnS ip s o):(c.den Z).b = true:=by
 unfold qnS at h;split at h
 ·split at h
  ·split at h
   ·obtain ⟨x,_,hx⟩:=List.mem_flatMap.1 h
    exact qnI hs hx
   ·cases h
  ·cases h
 ·cases h
theorem qhV:∀ {cs:List T} {s:S} {k:S->Out},(∀ c ∈ cs,(c.den Z).b = true)->Holds Z hF s a w->(qko s cs k).den E Z->qaL E hF Z s a w k
 | [],s,k,_,hs,h=>qaL.self hs h
 | c :: cs,s,k,hc,hs,h=>by
  simp only [qko] at h;split at h
  ·exact qhV (fun c hm=>hc c (jab _ hm)) hs h
  ·have h0:=hc c (jac ..)
   have hs':Holds Z hF { s with pc:=(c,true) :: s.pc } a w:=hs.withPc _ (fun c' b hm=>by
    cases hm with
    | head=>exact h0
    | tail _ hm=>exact hs.pc c' b hm)
   obtain ⟨Z',s',a1,a2,a3,a4,a5,a6⟩:=qhV (fun c hm=>hc c (jab _ hm)) hs' (h h0);exact ⟨Z',s',a1,a2,a3,a4,a5,a6⟩
theorem qvp {ip:List (Nat × Nat)} {o:Oper} {k:S->Out} (hs:Holds Z hF s a w) (h:(qtd ip s o k).den E Z):∃ pc,Holds Z hF { s with pc:=pc } a w/\(k { s with pc:=pc }).den E Z:=by
 unfold qtd at h;split at h
 ·unfold qlT at h
  split at h
  ·rename_i c hc
   split at h
   ·exact ⟨s.pc,hs,h⟩
   ·have hc:=qkr hs hc
    exact ⟨(c,true) :: s.pc,hs.withPc _ (fun c' b hm=>by
     cases hm with
     | head=>exact hc
     | tail _ hm=>exact hs.pc c' b hm),h hc⟩
  ·exact ⟨s.pc,hs,h⟩
 ·exact ⟨s.pc,hs,h⟩
theorem qp4 {s':S} {H:Hp} (hvw:∀ x ∈ s'.vw,∃ m ∈ x.1,x.2.roden Z (Z m).h) (hp:∀ m,s'.piece m = true->Hp.le (Z m).h H):∀ x ∈ qgi s',x.roden Z H:=by
 intro x hx;unfold qgi at hx;obtain ⟨y,hy,rfl⟩:=jbr.1 hx;obtain ⟨h1,h2⟩:=jb2.1 hy;obtain ⟨m,hm,hr⟩:=hvw y h1;exact SH.ro_mono hr (hp m (jao.1 h2 m hm))
end Go.Eng
namespace Go.Eng
open Go
variable {Z:Env} {hF:Fr} {s:S} {a:Act} {w:World} {E:Ctx}
theorem qij {Y:Sg} {cs:List T} (h:Y.left = some cs) (hc:∀ c ∈ cs,(c.den Z).b = true):Sat Y Z:=by
 unfold Sg.left at h;split at h
 ·rename_i x y z hx hy hz
  simp only [jaa] at h; subst h;refine ⟨?_,?_,?_⟩
  ·exact qf1 (Z:=Z) _ (fun p a=>(p.den (Y.env Z)).i = (a.den Z).i) (fun p p' a hp hs=>by rw [<- Sg.sub_den hp,T.same_eq hs])
    (fun p p' a c hp hf hb=>by
     simp only [jaa] at hf; subst hf;rw [qT _ _ _ (by simp)] at hb;rw [<- Sg.sub_den hp];simpa [qS] using hb) hx (fun c hm=>hc c (by simp [hm]))
  ·exact qf1 (Z:=Z) _ (fun p a=>(p.den (Y.env Z)).b = (a.den Z).b) (fun p p' a hp hs=>by rw [<- Sg.sub_den hp,T.same_eq hs])
    (fun p p' a c hp hf hb=>by
     simp only [jaa] at hf; subst hf;rw [qhc] at hb;rw [<- Sg.sub_den hp];simpa using hb) hy (fun c hm=>hc c (by simp [hm]))
  ·exact qf1 (Z:=Z) _ (fun p a=>(p.den (Y.env Z)).d = (a.den Z).d) (fun p p' a hp hs=>by rw [<- Sg.sub_den hp,T.same_eq hs])
    (fun p p' a c hp hf hb=>by simp at hf) hz (fun c hm=>hc c (by simp [hm]))
 ·simp at h
theorem Bd.den_good (hg:Z.good) (b:Bd):(b.den Z).good:=by
 cases b with
 | t x=>exact T.den_good hg x
 | r m=>exact hg m
 | nil=>simp [Bd.den,U.good,Value.oneCell']
theorem Sg.env_good (hg:Z.good) (Y:Sg):(Y.env Z).good:=fun n=>by
 unfold Sg.env;split
 ·exact hg n
 ·split
  ·exact Bd.den_good hg _
  ·simp [U.good,Value.oneCell']
theorem qe9 {ops:Array Oper} {o:Oper} {g:Option (T × Bool)} (hs:Holds Z hF s a w) (h:qjK ops s o = some g) :
  match g with
  | none=>Region.wanted o (yielded ops a.tmps) = true
  | some (c,want)=>Region.wanted o (yielded ops a.tmps) = decide ((c.den Z).b = want):=by
 unfold qjK at h;unfold Region.wanted;split at h
 ·rename_i hg
  simp only [jaa] at h; subst h;simp [hg]
 ·rename_i j want hg
  split at h
  ·rename_i t ht
   split at h
   ·rename_i c hl
    simp only [jaa] at h; subst h;have he:=hs.env t _ hl;simp only [SV.den,T.den,O1.den] at he;have:a.tmps[t]? = some (.bool (c.den Z).b):=by
     rw [jbm] at he;cases hx:a.tmps[t]? with
     | none=>rw [hx] at he; simp [undef] at he
     | some v=>rw [hx] at he; simpa using he
    simp only [hg,yielded,ht,jei,this];cases (c.den Z).b <;> cases want <;> rfl
   ·rename_i hl
    simp only [jaa] at h; subst h;have he:=hs.env t _ hl;simp only [SV.den,jbl] at he;have:yielded ops a.tmps j = none:=by
     simp only [yielded,ht,jei];rw [jbm] at he;cases hx:a.tmps[t]? with
     | none=>rfl
     | some v=>rw [hx] at he; simp only [jbi] at he; subst he; rfl
    simp only [hg,this,T.den,O0.den];cases want <;> rfl
   ·simp at h
  ·simp at h
def qkm (tmps:Array Value):ResultVar->Sem Value
 | .tmp t=>pure (tmps.getD t undef)
 | .cell a t=>do loadVar t (<- asAddr (tmps.getD a undef))
theorem quT (fn:Func) (tmps:Array Value):results fn tmps = (do let vs <- fn.results.mapM (qkm tmps); pure (if h:vs.size = 1 then vs[0] else .tuple vs)):=by
 unfold results
 congr 2
theorem qpw (hs:Holds Z hF s a w) {cs:List T} (h:qsK s cs = true):∀ c ∈ cs,(c.den Z).b = true:=fun c hc=>by
 have h1:=jao.1 h c hc;split at h1
 ·rename_i hk; exact qhp hs (qcX hs hk)
 ·cases h1
theorem qjP {r:ResultVar} {P:Program} {v:SV} (hs:Holds Z hF s a w) (h:qjC P s r = some v):(qkm a.tmps r).run P w = .ok (v.den Z) w:=by
 cases r with
 | tmp t=>simp only [qjC] at h; simp only [qkm,Sem.run_pure,hs.env t v h]
 | cell x t =>
  simp only [qjC] at h;simp only [qkm];split at h
  ·rename_i rg p c e ag n hx hag hsz
   have hev:=hs.env x _ hx;split at h
   ·rename_i k y hat
    obtain ⟨H,hsub,hro,hreg⟩:=hs.found (r:=rg) (k:=k) (x:=y) (by simp [S.look,hat]);split at h
    ·rename_i cs nd hrd
     split at h
     ·rename_i hnd
      obtain ⟨hl,b,off,c',ty,fr,h1,h2,h3⟩:=qdU hrd hro hreg (qpw hs hnd);simp only [SV.den,T.den,O1.den,h1,qj,ja9] at hev;simp only [Sem.run_bind,hev,asAddr,Sem.run_pure,Result.andThen_ok];split at h
      ·rename_i hagt
       simp only [jaa] at h; subst h; subst hagt;rw [qcZ (P:=P) (w:=w) hag hsz (hsub _ _ h2) (by simp [qa,hl]) h3 (by simp)];simp [SV.den]
      ·rename_i hagf
       split at h
       ·rename_i t' _
        simp only [jaa] at h; subst h;have hagf':ag = false:=by simpa using hagf
        subst hagf';rw [qcZ (P:=P) (w:=w) hag hsz (hsub _ _ h2) (by rw [<- hl]; simp [qa]) h3 (fun _=>by rw [<- hl]; rfl)];simp [SV.den,qa]
       ·simp at h
     ·simp at h
    ·simp at h
   ·simp at h
  ·simp at h
theorem qu0 {v:SV} {x:Bool × List T} (h:qqy v = some x):qdM Z x = v.den Z:=by
 unfold qqy at h;split at h <;> simp only [jaa,reduceCtorEq] at h <;> subst h <;> simp [SV.den,qdM,qa]
theorem qjL {P:Program} (hs:Holds Z hF s a w):∀ {rs:List ResultVar} {l:List (Bool × List T)},qjt P s rs = some l ->
  (rs.mapM (qkm a.tmps)).run P w = .ok (l.map (qdM Z)) w/\l.length = rs.length
 | [],l,h=>by simp only [qjt,jaa] at h; subst h; simp
 | r :: rs,l,h=>by
  simp only [qjt] at h;split at h
  ·rename_i x l' hx hl
   simp only [jaa] at h; subst h;simp only [jaj] at hx;obtain ⟨v,hv,hf⟩:=hx;have h1:=qjP hs hv;obtain ⟨h2,h3⟩:=qjL hs hl;simp only [jes,Sem.run_bind,h1,h2,Result.andThen_ok,Sem.run_pure,jaq,qu0 hf,jbh,h3,and_self]
  ·simp at h
theorem qhS {fn:Func} {P:Program} {v:SV} (hs:Holds Z hF s a w) (h:qih fn s P = some v):(results fn a.tmps).run P w = .ok (v.den Z) w:=by
 unfold qih at h;rw [quT];simp only [Sem.run_bind,Array.mapM_eq_mapM_toList,Sem.run_map];split at h
 ·rename_i r hr
  have h1:=qjP hs h;rw [hr];simp only [jes,List.mapM_nil,Sem.run_bind,h1,Result.andThen_ok,Sem.run_pure];simp
 ·rename_i rs hne
  simp only [jah] at h;obtain ⟨vs,hvs,rfl⟩:=h;obtain ⟨h1,hl⟩:=qjL hs hvs;rw [h1];simp only [Result.andThen_ok,Sem.run_pure];have hne1:¬ (vs.map (qdM Z)).toArray.size = 1:=by
   intro h1;simp only [jef,jaz] at h1;rw [hl] at h1
   match hrs:fn.results.toList,h1 with
   | [x],_=>exact hne x hrs
  rw [dif_neg hne1];simp [SV.den]
end Go.Eng
namespace Go.Eng
open Go
variable {P:Program} {ops:Array Oper} {Q:Exit->Act->World->Prop} {md:Region.Mode} {S:World->Prop} {A:List Nat}
def qgv (md:Region.Mode) (ops:Array Oper) (listed:Array Bool):Prop :=
 ∀ j o,ops[j]? = some o->listed.getD j false = true->∀ e ∈ o.after,Region.binds md e = true->listed.getD e.on false = true
theorem qnt {listed:Array Bool} {j:Nat} (h:qgv md ops listed) (hj:j ∈ Region.ready md ops listed):qgv md ops (listed.setIfInBounds j true):=by
 intro k o ho hk e he hb;obtain ⟨hjun,oj,hoj,hall⟩:=mem_ready.1 hj;have mono:∀ n,listed.getD n false = true->(listed.setIfInBounds j true).getD n false = true:=fun n hn=>by
  simp only [jbm] at hn ⊢;rw [jdn];split
  ·rename_i hjn; subst hjn
   split
   ·rfl
   ·rename_i hlt
    rw [jb8 (by omega)] at hn; cases hn
  ·exact hn
 by_cases hkj:k = j
 ·subst hkj
  rw [hoj] at ho; cases ho;exact mono _ (hall e he hb)
 ·refine mono _ (h k o ho ?_ e he hb)
  simp only [jbm] at hk ⊢;rw [jcv (Ne.symm hkj)] at hk;exact hk
theorem qqS (n:Nat):qgv md ops (Array.replicate n false):=by
 intro j o _ hj;simp only [jbm,Array.getElem?_replicate] at hj;split at hj <;> cases hj
inductive Reach (md:Region.Mode) (ops:Array Oper):Nat->Nat->Prop where
 | one {j:Nat} {o:Oper} {e:Edge} (ho:ops[j]? = some o) (he:e ∈ o.after) (hb:Region.binds md e = true):Reach md ops j e.on
 | step {j i:Nat} {o:Oper} {e:Edge} (ho:ops[j]? = some o) (he:e ∈ o.after) (hb:Region.binds md e = true) (h:Reach md ops e.on i):Reach md ops j i
theorem qpc {acc:Array Nat} {i:Nat}:∀ {l:List Edge} {m0:Nat},(l.foldl (fun m e=>if Region.binds md e then m ||| 2 ^ e.on ||| acc.getD e.on 0 else m) m0).testBit i = true ->
  m0.testBit i = true∨∃ e ∈ l,Region.binds md e = true/\(e.on = i∨(acc.getD e.on 0).testBit i = true)
 | [],m0,h=>.inl h
 | e :: l,m0,h=>by
  simp only [jc5] at h;rcases qpc h with h | ⟨e',he',hb,hx⟩
  ·split at h
   ·rename_i hb
    simp only [Nat.testBit_or,jcc,Nat.testBit_two_pow,jaw] at h;rcases h with (h | h) | h
    ·exact .inl h
    ·exact .inr ⟨e,jac ..,hb,.inl h⟩
    ·exact .inr ⟨e,jac ..,hb,.inr h⟩
   ·exact .inl h
  ·exact .inr ⟨e',jab _ he',hb,hx⟩
theorem qmi:∀ (l:List Oper) (acc:Array Nat),(∀ n:Nat,l[n]? = ops[acc.size + n]?)->(∀ j m,acc[j]? = some m->∀ i,m.testBit i = true->Reach md ops j i) ->
  ∀ j m,(qmV md l acc)[j]? = some m->∀ i,m.testBit i = true->Reach md ops j i
 | [],acc,_,hi=>hi
 | o :: r,acc,hl,hi=>by
  simp only [qmV];have ho:ops[acc.size]? = some o:=by have:=hl 0; simpa using this.symm
  refine qmi r _ (fun n=>?_) (fun j m hj i hb=>?_)
  ·have:=hl (n + 1)
   simp only [ja1] at this;rw [this,Array.size_push]; congr 1; omega
  ·rw [Array.getElem?_push] at hj
   split at hj
   ·rename_i hje
    subst hje;simp only [jaa] at hj; subst hj;rcases qpc hb with h | ⟨e,he,hbe,hx⟩
    ·simp at h
    ·have he:=Array.mem_toList_iff.1 he
     rcases hx with rfl | hx
     ·exact .one ho he hbe
     ·refine .step ho he hbe ?_
      rw [jbm] at hx;cases ha:acc[e.on]? with
      | none=>rw [ha] at hx; simp at hx
      | some m'=>rw [ha] at hx; exact hi _ _ ha i hx
   ·exact hi j m hj i hb
theorem qqW {listed:Array Bool} (hc:qgv md ops listed) {j i:Nat} (h:Reach md ops j i):(∀ o,ops[j]? = some o->∀ e ∈ o.after,Region.binds md e = true->listed.getD e.on false = true)->listed.getD i false = true:=by
 induction h with
 | one ho he hb=>intro hall; exact hall _ ho _ he hb
 | step ho he hb _ ih=>intro hall; exact ih fun o2 ho2 e2 he2 hb2=>hc _ _ ho2 (hall _ ho _ he hb) e2 he2 hb2
theorem qse {listed:Array Bool} {i j:Nat} (hc:qgv md ops listed) (hj:j ∈ Region.ready md ops listed) (hi:i ∈ Region.ready md ops listed) (hiA:i ∈ A):qeH md ops A j = false:=by
 cases hl:qeH md ops A j with
 | false=>rfl
 | true =>
  exfalso;obtain ⟨hjun,oj,hoj,hall⟩:=mem_ready.1 hj;have hun:¬ (listed.getD i false = true):=fun h1=>by
   have h0:=(mem_ready.1 hi).1;simp only [jbm] at h0 h1;cases hx:listed[i]? with
   | none=>rw [hx] at h1; cases h1
   | some b=>rw [hx] at h0 h1; simp only [jbi] at h0 h1; rw [h0] at h1; cases h1
  unfold qeH at hl;split at hl
  ·rename_i m hm
   have hb:=jao.1 hl i hiA;have hr:=qmi (md:=md) (ops:=ops) ops.toList #[] (by simp) (by simp) j m hm i hb;exact hun (qqW hc hr fun o ho e he hbe=>by
    rw [hoj] at ho; cases ho;exact hall e he hbe)
  ·cases hl
def qd2 (P:Program) (md:Region.Mode) (ops:Array Oper) (A:List Nat) (Q:Exit->Act->World->Prop) (S:World->Prop):Nat->Array Bool->Act->World->Prop
 | 0,listed,a,w=>Region.ready md ops listed = []/\Q .normal a w
 | fuel + 1,listed,a,w=>qgv md ops listed ->
  (Region.ready md ops listed = []->Q .normal a w) /\
  ∀ i ∈ Region.ready md ops listed,wpOp P ops Q i (fun a' w'=>(qeH md ops A i = true∨S w')/\qd2 P md ops A Q S fuel (listed.setIfInBounds i true) a' w') a w
theorem qm0:∀ (fuel:Nat) (listed:Array Bool) (a:Act) (w:World),qgv md ops listed->qd2 P md ops A Q S fuel listed a w->wpAny P md ops Q fuel listed a w
 | 0,_,_,_,_,h=>h
 | fuel + 1,_,_,_,hc,h=>⟨(h hc).1,fun i hi=>wpOp_mono (fun a' w' h'=>qm0 fuel _ a' w' (qnt hc hi) h'.2) ((h hc).2 i hi)⟩
theorem qr0 {i:Nat} {oi:Oper} {v:Value} (hi:ops[i]? = some oi) (hiA:i ∈ A) (hsel:∀ (j:Nat) (o:Oper) cs b,ops[j]? = some o->o.op ≠ .select cs b)
  (hQ:∀ c a w,Q (.panic c) (a.put oi.dst v) w->Q (.panic c) a w) :
  ∀ (fuel:Nat) (listed:Array Bool) (a:Act) (w:World),
   (∀ j oj,ops[j]? = some oj->j ≠ i->listed.getD j true = false->(∀ e ∈ oj.after,Region.binds md e = true->e.on ≠ i)->oi.apart ops oj = true) ->
   i ∈ Region.ready md ops listed->YieldsIf P ops S oi v a->S w ->
   qd2 P md ops A Q S fuel (listed.setIfInBounds i true) (a.put oi.dst v) w->qd2 P md ops A Q S (fuel + 1) listed a w:=by
 intro fuel
 induction fuel with
 | zero =>
  intro listed a w _ hr hy hS H hc;refine ⟨fun h=>(by rw [h] at hr; cases hr),fun j hj=>?_⟩;by_cases hji:j = i
  ·subst hji; exact hy.wpOp hi hS ⟨.inr hS,H⟩
  ·have:=ready_mono hj hji
   rw [H.1] at this;cases this
 | succ fuel ih =>
  intro listed a w hfree hr hy hS H hc;refine ⟨fun h=>(by rw [h] at hr; cases hr),fun j hj=>?_⟩;by_cases hji:j = i
  ·subst hji; exact hy.wpOp hi hS ⟨.inr hS,H⟩
  ·have h1:=(H (qnt hc hr)).2 j (ready_mono hj hji)
   obtain ⟨hjun,oj,hoj,hall⟩:=mem_ready.1 hj;have hnot:∀ e ∈ oj.after,Region.binds md e = true->e.on ≠ i:=fun e he hb heq=>by
    have h1:=hall e he hb;have h0:=(mem_ready.1 hr).1;rw [heq] at h1;rcases jbt i listed.size with h' | h'
    ·simp [h'] at h0 h1; rw [h0] at h1; cases h1
    ·simp [jb8 h'] at h1
   have h2:=wpOp_putIf hoj (hfree j oj hoj hji hjun hnot) (fun cs b=>hsel i oi cs b hi) (fun cs b=>hsel j oj cs b hoj) hQ hy h1;have hfree':∀ k ok,ops[k]? = some ok->k ≠ i->(listed.setIfInBounds j true).getD k true = false ->
     (∀ e ∈ ok.after,Region.binds md e = true->e.on ≠ i)->oi.apart ops ok = true:=fun k ok hk hki hun hno=>by
    refine hfree k ok hk hki ?_ hno;by_cases hjk:j = k
    ·subst hjk; exact hjun
    ·rw [getD_set_ne true hjk] at hun; exact hun
   have hlate:=qse (A:=A) hc hj hr hiA;refine wpOp_mono (fun a' w' h3=>?_) h2;have hSw:S w':=h3.2.1.resolve_left (by rw [hlate]; simp);refine ⟨.inr hSw,ih (listed.setIfInBounds j true) a' w' hfree' (ready_mono hr (Ne.symm hji)) h3.1 hSw ?_⟩;rw [Array.setIfInBounds_comm _ _ hji];exact h3.2.2
theorem qkA {i:Nat} {oi:Oper} {v:Value} {fuel:Nat} {listed:Array Bool} {a:Act} {w:World} (hi:ops[i]? = some oi) (hiA:i ∈ A)
  (hs:Region.noSelect ops = true) (hf:Region.free md ops listed i = true) (hr:(Region.ready md ops listed).contains i = true)
  (hQ:∀ c a w,Q (.panic c) (a.put oi.dst v) w->Q (.panic c) a w) (hy:YieldsIf P ops S oi v a) (hS:S w)
  (h:qd2 P md ops A Q S fuel (listed.setIfInBounds i true) (a.put oi.dst v) w):qd2 P md ops A Q S (fuel + 1) listed a w :=
 qr0 hi hiA (Region.noSelect_spec hs) hQ fuel listed a w (Region.free_spec hi hf) (by simpa using hr) hy hS h
theorem qtT {rs:List Nat} {fuel:Nat} {listed:Array Bool} {a:Act} {w:World} (hr:Region.ready md ops listed = rs) (hne:rs ≠ [])
  (h:∀ i ∈ rs,wpOp P ops Q i (fun a' w'=>(qeH md ops A i = true∨S w')/\qd2 P md ops A Q S fuel (listed.setIfInBounds i true) a' w') a w):qd2 P md ops A Q S (fuel + 1) listed a w :=
 fun _=>⟨fun h0=>absurd (hr ▸ h0) hne,hr ▸ h⟩
theorem qrR {listed:Array Bool} {a:Act} {w:World} (hr:Region.ready md ops listed = []) (h:Q .normal a w) :
  ∀ fuel,qd2 P md ops A Q S fuel listed a w
 | 0=>⟨hr,h⟩
 | _ + 1=>fun _=>⟨fun _=>h,by rw [hr]; simp⟩
theorem qsr {id:Nat} {a:Act} {w:World} (hm:P.follows .mixedOrders = true)
  (h:qd2 P .any ops A Q S ops.size (Array.replicate ops.size false) a { w with drawn:=w.drawn + 1 }):(Code.region id ops true).wp P Q a w :=
 wp_region_any hm (qm0 _ _ _ _ (qqS _) h)
end Go.Eng
namespace Go.Eng
open Go
variable {hF:Fr} {E:Ctx}
structure Base (E:Ctx) (Z0:Env) (RO:List SH) (NT:Nat) (Z:Env) (s:S):Prop where
 ro:s.ro = RO
 nt:s.nt = NT
 nv:E.me.nv <= s.nx
 ag:∀ m,m < E.me.nv->Z m = Z0 m
def qdZ (RO:List SH) (NT:Nat) (pc:List (T × Bool)) (base nv:Nat) (env:List (Nat × SV)) (heap:List SH):S :=
 { env,heap,ro:=RO,pc,nx:=base + nv,nt:=NT }
def qpI (E:Ctx) (hF:Fr) (RO:List SH) (NT:Nat) (pc:List (T × Bool)) (base:Nat) (I:Inv) (env:List (Nat × SV)) (heap:List SH) (Zh:Env) (m:Nat) (a:Act) (w:World):Prop :=
 ∃ Z2:Env,(∀ n,n < base->Z2 n = Zh n)/\Holds Z2 hF (qdZ RO NT pc base I.nv env heap) a w/\I.inv (qdL base I.nv Z2)/\I.mu (qdL base I.nv Z2) = m
theorem qpk:∀ {a b:List T},qhE a b = true->a = b
 | [],[],_=>rfl
 | x :: a,y :: b,h=>by
  simp only [qhE,jad] at h;rw [T.same_eq h.1,qpk h.2]
 | [],_ :: _,h=>by simp [qhE] at h
 | _ :: _,[],h=>by simp [qhE] at h
theorem SH.same_eq {x y:SH} (h:x.same y = true):x = y:=by
 cases x <;> cases y <;> simp only [SH.same,jad,jaw,jan] at h
 ·obtain ⟨⟨h1,h2⟩,h3⟩:=h
  rw [Nat.eq_of_beq_eq_true h1,Nat.eq_of_beq_eq_true h2,qpk h3]
 ·obtain ⟨⟨⟨⟨h1,h2⟩,h3⟩,h4⟩,h5⟩:=h
  rw [Nat.eq_of_beq_eq_true h1,Nat.eq_of_beq_eq_true h2,h3,T.same_eq h4,T.same_eq h5]
 ·rw [Nat.eq_of_beq_eq_true h.1,Nat.eq_of_beq_eq_true h.2]
theorem qg9 {Z:Env}:∀ {st heap:List SH} {hp:Hp},qde st heap = true->qD Z heap hp->qD Z st hp
 | [],_,_,_,_=>trivial
 | _ :: _,[],_,h,_=>by simp [qde] at h
 | x :: xs,y :: ys,hp,h,hs=>by
  obtain ⟨h1,h2,hd,hu,hy,hs'⟩:=hs;simp only [qde] at h;split at h
  ·rename_i hsame
   have:=SH.same_eq hsame;subst this;exact ⟨h1,h2,hd,hu,hy,qg9 h hs'⟩
  ·exact star_weaken (qg9 h hs') (hu ▸ Hp.le_right hd)
theorem qeC {Z:Env} {s:S} {a:Act} {w:World} {ops:Array Oper} {o:Oper} {g:Bool} (hs:Holds Z hF s a w) (h:qjm ops s o = some (some g)):Region.wanted o (yielded ops a.tmps) = g:=by
 unfold qjm at h;split at h
 ·simp at h
 ·rename_i hg
  simp only [jaa] at h; subst h;exact qe9 hs hg
 ·rename_i c want hg
  split at h
  ·rename_i b hk
   simp only [jaa] at h; subst h;have h1:=qe9 hs hg;simp only [qcX hs hk] at h1;rw [h1];cases b <;> cases want <;> rfl
  ·simp at h
def qnc (P:Program) (c:Code) (Q:Exit->Act->World->Prop) (a:Act) (w:World):Prop :=
 ∀ (b:Frame) k cs,∃ e a' w',Q e a' w'/\Arrives P (lone (b.at a (.code c :: .inLoop c :: k)) cs w) b k cs e a' w'
theorem qrN {P:Program} {c:Code} {Q:Exit->Act->World->Prop} {a:Act} {w:World} (h:qnc P c Q a w):(Code.loop c).wp P Q a w:=by
 intro b k cs;obtain ⟨e,a',w',hq,harr⟩:=h b k cs;exact ⟨e,a',w',hq,.of_steps (.one step_loop) harr⟩
theorem qjZ {P:Program} {c:Code} {Q:Exit->Act->World->Prop} {a:Act} {w:World} (h:c.wp P (Exit.then (qnc P c Q) Q) a w):qnc P c Q a w:=by
 intro b k cs;obtain ⟨e,a₁,w₁,hq,harr⟩:=h b (.inLoop c :: k) cs;cases e with
 | normal =>
  obtain ⟨e₂,a₂,w₂,hq₂,harr₂⟩:=hq b k cs;exact ⟨e₂,a₂,w₂,hq₂,.of_steps (Steps.trans harr (.one step_inLoop)) harr₂⟩
 | exit id=>exact ⟨_,a₁,w₁,hq,.pass (x:=.inLoop c) rfl (fun _ _=>.inl (by simp)) harr⟩
 | goto l=>exact ⟨_,a₁,w₁,hq,.pass (x:=.inLoop c) rfl (fun _ _=>.inl (by simp)) harr⟩
 | ret=>exact ⟨_,a₁,w₁,hq,.pass (x:=.inLoop c) rfl (fun _ _=>.inl (by simp)) harr⟩
 | panic ch=>exact ⟨_,a₁,w₁,hq,.pass (x:=.inLoop c) rfl (fun _ _=>.inl (by simp)) harr⟩
 | outgrown=>exact ⟨_,a₁,w₁,hq,.pass (x:=.inLoop c) rfl (fun _ _=>.inl (by simp)) harr⟩
inductive KSem (E:Ctx) (hF:Fr) (QF:Exit->Act->World->Prop) (RO:List SH) (NT:Nat):Env->Nat->List KI->(Exit->Act->World->Prop)->Prop where
 | nil {Z:Env} {nx:Nat}:KSem E hF QF RO NT Z nx [] QF
 | code {Z:Env} {nx:Nat} {c:Code} {K:List KI} {q:Exit->Act->World->Prop} (h:KSem E hF QF RO NT Z nx K q):KSem E hF QF RO NT Z nx (.code c :: K) (Exit.then (c.wp E.P q) q)
 | blk {Z:Env} {nx id:Nat} {K:List KI} {q:Exit->Act->World->Prop} (h:KSem E hF QF RO NT Z nx K q):KSem E hF QF RO NT Z nx (.blk id :: K) (Exit.inBlock id q)
 | ops {Z:Env} {nx:Nat} {ops:Array Oper} {l:List Nat} {K:List KI} {q:Exit->Act->World->Prop} (h:KSem E hF QF RO NT Z nx K q):KSem E hF QF RO NT Z nx (.ops ops l :: K) (Exit.then (wpOps E.P ops q l) q)
 | lend {Z Zh:Env} {nx li base:Nat} {K:List KI} {q:Exit->Act->World->Prop} {I:Inv} {pc:List (T × Bool)} {env:List (Nat × SV)} {heap:List SH}
   (hI:E.invs[li]? = some I) (hb:base + I.nv <= nx) (hag:∀ m,m < base + I.nv->Z m = Zh m)
   (he:(Sg.subEnv { th:=1000,bd:=qcE 1000 base I.nv,eqI:=[],eqB:=[],eqD:=[] } I.env) = some env)
   (hh:(Sg.subHs { th:=1000,bd:=qcE 1000 base I.nv,eqI:=[],eqB:=[],eqD:=[] } I.heap) = some heap)
   (hf:I.fits base = true) (hro:RO.all (SH.inB base) = true) (hpc:pc.all (fun x=>x.1.inB base) = true) (hpt:∀ c b,(c,b) ∈ pc->(c.den Zh).b = b)
   (h:KSem E hF QF RO NT Z nx K q) :
   KSem E hF QF RO NT Z nx (.lend li base :: K) (Exit.then (fun a w=>∃ m,m < I.mu (qdL base I.nv Zh)/\qpI E hF RO NT pc base I env heap Zh m a w) q)
 | cutE {Z Zh:Env} {nx li base:Nat} {K:List KI} {q:Exit->Act->World->Prop} {I:Inv} {pc:List (T × Bool)} {env:List (Nat × SV)} {heap:List SH}
   (hI:E.invs[li]? = some I) (hb:base <= nx) (hag:∀ m,m < base->Z m = Zh m)
   (he:(Sg.subEnv { th:=1000,bd:=qcE 1000 base I.nv,eqI:=[],eqB:=[],eqD:=[] } I.env) = some env)
   (hh:(Sg.subHs { th:=1000,bd:=qcE 1000 base I.nv,eqI:=[],eqB:=[],eqD:=[] } I.heap) = some heap)
   (hf:I.fits base = true) (hro:RO.all (SH.inB base) = true) (hpc:pc.all (fun x=>x.1.inB base) = true) (hpt:∀ c b,(c,b) ∈ pc->(c.den Zh).b = b)
   (h:KSem E hF QF RO NT Z nx K q) :
   KSem E hF QF RO NT Z nx (.cutE li base :: K) (Exit.then (fun a w=>∃ m,qpI E hF RO NT pc base I env heap Zh m a w) q)
 | again {Z:Env} {nx:Nat} {c:Code} {K:List KI} {q:Exit->Act->World->Prop} (h:KSem E hF QF RO NT Z nx K q):KSem E hF QF RO NT Z nx (.again c :: K) (Exit.then (qnc E.P c q) q)
 | any {Z:Env} {nx:Nat} {K:List KI} {q:Exit->Act->World->Prop} (ZS:Env) (n0:Nat) (ops:Array Oper) (listed:Array Bool) (left:Nat) (st:List SH)
   (hst:st.all (SH.inB n0) = true) (hn:n0 <= nx) (hag:∀ m,m < n0->Z m = ZS m) (h:KSem E hF QF RO NT Z nx K q) :
   KSem E hF QF RO NT Z nx (.any ops listed left st :: K) (Exit.then (fun a w=>qd2 E.P .any ops (qf6 E.me.ip ops) (NoPanic q) (fun w'=>qt ZS hF st w') left listed a w) q)
variable {QF:Exit->Act->World->Prop} {RO:List SH} {NT:Nat}
theorem KSem.mono {Z Z':Env} {nx nx':Nat} {K:List KI} {q:Exit->Act->World->Prop} (h:KSem E hF QF RO NT Z nx K q) (hn:nx <= nx') (ha:∀ m,m < nx->Z' m = Z m):KSem E hF QF RO NT Z' nx' K q:=by
 induction h with
 | nil=>exact .nil
 | code _ ih=>exact .code (ih hn ha)
 | blk _ ih=>exact .blk (ih hn ha)
 | ops _ ih=>exact .ops (ih hn ha)
 | again _ ih=>exact .again (ih hn ha)
 | lend hI hb hag he hh hf hro hpc hpt _ ih=>exact .lend hI (by omega) (fun m hm=>(ha m (by omega)).trans (hag m hm)) he hh hf hro hpc hpt (ih hn ha)
 | cutE hI hb hag he hh hf hro hpc hpt _ ih=>exact .cutE hI (by omega) (fun m hm=>(ha m (by omega)).trans (hag m hm)) he hh hf hro hpc hpt (ih hn ha)
 | any ZS n0 ops listed left st hst hnn hag _ ih=>exact .any ZS n0 ops listed left st hst (by omega) (fun m hm=>(ha m (by omega)).trans (hag m hm)) (ih hn ha)
theorem KSem.ret {Z:Env} {nx:Nat} {K:List KI} {q:Exit->Act->World->Prop} (h:KSem E hF QF RO NT Z nx K q) {a:Act} {w:World} (hq:QF .ret a w):q .ret a w:=by
 induction h with
 | nil=>exact hq
 | code _ ih=>exact ih
 | blk _ ih=>exact ih
 | ops _ ih=>exact ih
 | again _ ih=>exact ih
 | lend _ _ _ _ _ _ _ _ _ _ ih=>exact ih
 | cutE _ _ _ _ _ _ _ _ _ _ ih=>exact ih
 | any _ _ _ _ _ _ _ _ _ _ ih=>exact ih
theorem KSem.pop {id:Nat} {Z:Env} {nx:Nat} {K K':List KI} {q:Exit->Act->World->Prop} (h:KSem E hF QF RO NT Z nx K q) (hp:qdY id K = some K') :
  ∃ q',KSem E hF QF RO NT Z nx K' q'/\∀ a w,q' .normal a w->q (.exit id) a w:=by
 induction h with
 | nil=>simp [qdY] at hp
 | code _ ih=>obtain ⟨q',h1,h2⟩:=ih (by simpa [qdY] using hp); exact ⟨q',h1,h2⟩
 | ops _ ih=>obtain ⟨q',h1,h2⟩:=ih (by simpa [qdY] using hp); exact ⟨q',h1,h2⟩
 | again _ ih=>obtain ⟨q',h1,h2⟩:=ih (by simpa [qdY] using hp); exact ⟨q',h1,h2⟩
 | lend _ _ _ _ _ _ _ _ _ _ ih=>obtain ⟨q',h1,h2⟩:=ih (by simpa [qdY] using hp); exact ⟨q',h1,h2⟩
 | cutE _ _ _ _ _ _ _ _ _ _ ih=>obtain ⟨q',h1,h2⟩:=ih (by simpa [qdY] using hp); exact ⟨q',h1,h2⟩
 | any _ _ _ _ _ _ _ _ _ _ ih=>obtain ⟨q',h1,h2⟩:=ih (by simpa [qdY] using hp); exact ⟨q',h1,h2⟩
 | @blk nx j K q h ih =>
  simp only [qdY] at hp;split at hp
  ·rename_i hid
   have hid:=Nat.eq_of_beq_eq_true hid;simp only [jaa] at hp; subst hp;exact ⟨q,h,fun a w hq=>by simp only [Exit.inBlock,hid,ja5]; exact hq⟩
  ·rename_i hid
   obtain ⟨q',h1,h2⟩:=ih hp;refine ⟨q',h1,fun a w hq=>?_⟩;have:¬ id = j:=fun he=>hid (by rw [he]; simp)
   simp only [Exit.inBlock,this,ja3];exact h2 a w hq
theorem qpu {P:Program} {Q:Exit->Act->World->Prop} {c:Code} (I:Nat->Act->World->Prop)
  (round:∀ m a w,I m a w->c.wp P (Exit.then (fun a' w'=>∃ m',m' < m/\I m' a' w') Q) a w):∀ m a w,I m a w->(Code.loop c).wp P Q a w:=by
 intro m a w h₀ b k cs;have key:∀ m a w,I m a w->∃ e a' w',Q e a' w'/\Arrives P (lone (b.at a (.code c :: .inLoop c :: k)) cs w) b k cs e a' w':=by
  intro m
  induction m using Nat.strongRecOn with
  | _ m ih =>
   intro a w hI;obtain ⟨e,a₁,w₁,hq,harr⟩:=round m a w hI b (.inLoop c :: k) cs;cases e with
   | normal =>
    obtain ⟨m',hlt,hI₁⟩:=hq;obtain ⟨e₂,a₂,w₂,hq₂,harr₂⟩:=ih m' hlt a₁ w₁ hI₁;exact ⟨e₂,a₂,w₂,hq₂,.of_steps (Steps.trans harr (.one step_inLoop)) harr₂⟩
   | exit id=>exact ⟨_,a₁,w₁,hq,.pass (x:=.inLoop c) rfl (fun _ _=>.inl (by simp)) harr⟩
   | goto l=>exact ⟨_,a₁,w₁,hq,.pass (x:=.inLoop c) rfl (fun _ _=>.inl (by simp)) harr⟩
   | ret=>exact ⟨_,a₁,w₁,hq,.pass (x:=.inLoop c) rfl (fun _ _=>.inl (by simp)) harr⟩
   | panic ch=>exact ⟨_,a₁,w₁,hq,.pass (x:=.inLoop c) rfl (fun _ _=>.inl (by simp)) harr⟩
   | outgrown=>exact ⟨_,a₁,w₁,hq,.pass (x:=.inLoop c) rfl (fun _ _=>.inl (by simp)) harr⟩
 obtain ⟨e,a',w',hq,harr⟩:=key m a w h₀;exact ⟨e,a',w',hq,.of_steps (.one step_loop) harr⟩
theorem qnf {Z:Env}:∀ {ps:List (Nat × SV)} {env:List (Nat × SV)} {Y Y':Sg},qfG ps env Y = some Y'->Ext Y Y'/\∀ Yf,Ext Y' Yf->Sat Yf Z ->
  ∀ t p,(t,p) ∈ ps->∃ v,qbg t env = some v/\p.den (Yf.env Z) = v.den Z
 | [],env,Y,Y',h=>by simp only [qfG,jaa] at h; subst h; exact ⟨Ext.refl _,fun _ _ _ t p hp=>by cases hp⟩
 | (t0,p0) :: ps,env,Y,Y',h=>by
  simp only [qfG] at h;split at h
  ·rename_i v hv
   simp only [jaj] at h;obtain ⟨Y1,h1,h2⟩:=h;have g1:=qjF (Z:=Z) h1;have g2:=qnf (Z:=Z) h2;refine ⟨g1.1.trans g2.1,fun Yf he hs t p hp=>?_⟩;cases hp with
   | head=>exact ⟨v,hv,g1.2 Yf (g2.1.trans he) hs⟩
   | tail _ hp=>exact g2.2 Yf he hs t p hp
  ·simp at h
theorem qkF {Y:Sg}:∀ {l l':List (Nat × SV)},Y.subEnv l = some l'->∀ t v,qbg t l' = some v->∃ p,(t,p) ∈ l/\Y.subSV p = some v
 | [],l',h,t,v,hv=>by simp only [Sg.subEnv,jaa] at h; subst h; simp [qbg] at hv
 | (k,p) :: r,l',h,t,v,hv=>by
  simp only [Sg.subEnv] at h;split at h
  ·rename_i a b ha hb
   simp only [jaa] at h; subst h;simp only [qbg] at hv;split at hv
   ·rename_i ht
    have ht:=Nat.eq_of_beq_eq_true ht;simp only [jaa] at hv; subst hv; subst ht;exact ⟨p,jac ..,ha⟩
   ·obtain ⟨p',h1,h2⟩:=qkF hb t v hv
    exact ⟨p',jab _ h1,h2⟩
  ·simp at h
theorem qiI (from_ base:Nat):∀ (k n:Nat),look n (qcE from_ base k) = if from_ <= n/\n < from_ + k then some (.r (base + (n - from_))) else none
 | 0,n=>by rw [jaf (by omega)]; rfl
 | k + 1,n=>by
  simp only [qcE,look];split
  ·rename_i h
   have h:=Nat.eq_of_beq_eq_true h;rw [jag (by omega),h]
   congr 2; omega
  ·rename_i h
   have hne:n ≠ from_ + k:=fun he=>h (by rw [he]; simp)
   rw [qiI from_ base k n];by_cases hc:from_ <= n/\n < from_ + k
   ·rw [jag hc,jag (by omega)]
   ·rw [jaf hc,jaf (by omega)]
theorem qfH {Z Zh:Env} {s:S} {a:Act} {w:World} {I:Inv} {base:Nat} {Y:Sg} {rest:List SH} {cs:List T} {env:List (Nat × SV)} {heap:List SH} {pc:List (T × Bool)}
  (hs:Holds Z hF s a w) (hag:∀ m,m < base->Z m = Zh m)
  (hm:((qfG I.env s.env { th:=1000,bd:=[],eqI:=[],eqB:=[],eqD:=[] }).bind (mHs true I.heap s.heap [])) = some (rest,Y)) (hl:Y.left = some cs) (hc:∀ c ∈ cs,(c.den Z).b = true)
  (he:(Sg.subEnv { th:=1000,bd:=qcE 1000 base I.nv,eqI:=[],eqB:=[],eqD:=[] } I.env) = some env)
  (hh:(Sg.subHs { th:=1000,bd:=qcE 1000 base I.nv,eqI:=[],eqB:=[],eqD:=[] } I.heap) = some heap)
  (hf:I.fits base = true) (hro:s.ro.all (SH.inB base) = true) (hpc:pc.all (fun x=>x.1.inB base) = true) (hpt:∀ c b,(c,b) ∈ pc->(c.den Zh).b = b) :
  ∃ Z2:Env,(∀ n,n < base->Z2 n = Zh n)/\Holds Z2 hF (qdZ s.ro s.nt pc base I.nv env heap) a w/\qdL base I.nv Z2 = cutE base I.nv (Y.env Z):=by
 simp only [jaj] at hm;obtain ⟨Y1,hm1,hm2⟩:=hm;obtain ⟨hO,hd,hst,hsub,hwi⟩:=hs.hp;have g1:=qnf (Z:=Z) hm1;have g2:=qgk (Z:=Z) hs.gd hm2 hst;have hsat:=qij (Z:=Z) hl hc;have hth:Y.th = 1000:=by rw [g2.1.th,g1.1.th]
 let Z2:Env:=fun n=>if base <= n/\n < base + I.nv then Y.env Z (1000 + (n - base)) else Z n
 have hlt:∀ n,n < base->Z2 n = Z n:=fun n hn=>by simp only [Z2]; rw [jaf (by omega)]
 have hgd:Z2.good:=fun n=>by
  simp only [Z2]; split
  ·exact Sg.env_good hs.gd Y _
  ·exact hs.gd n
 -- the pattern's variables
 let Yn:Sg:={ th:=1000,bd:=qcE 1000 base I.nv,eqI:=[],eqB:=[],eqD:=[] }
 have hvar:∀ m,quI base I.nv m = true->Yn.env Z2 m = Y.env Z m:=by
  intro m hm;simp only [quI,jcc,jad,ja6,jdg] at hm;rcases hm with ⟨h1,h2⟩ | ⟨h1,h2⟩
  ·rw [Sg.env_lt (Y:=Yn) h2,Sg.env_lt (Y:=Y) (by omega),hlt m h1]
  ·rw [Sg.env_look (Y:=Yn) (b:=.r (base + (m - 1000))) (by simp only [Yn]; omega) (by simp only [Yn]; rw [qiI,jag ⟨h1,h2⟩])]
   simp only [Bd.den,Z2];rw [jag (by omega),show 1000 + (base + (m - 1000) - base) = m from by omega]
 simp only [Inv.fits,jad] at hf;refine ⟨Z2,fun n hn=>(hlt n hn).trans (hag n hn),⟨hgd,hs.nt,hs.df,fun t v hv=>?_,fun x hx=>?_,?_,fun c b hcb=>?_,fun x hx=>by cases hx⟩,?_⟩
 ·obtain ⟨p,hp1,hp2⟩:=qkF he t v hv
  obtain ⟨u,hu1,hu2⟩:=g1.2 Y g2.1 hsat t p hp1;rw [hs.env t u hu1,<- hu2,Sg.subSV_den hp2];exact (SV.den_congrS hvar p (jao.1 hf.1 (t,p) hp1)).symm
 ·exact (SH.roden_congr (n:=base) (fun m hm=>(hlt m hm).symm) x (jao.1 hro x hx) hF).1 (hs.ro x hx)
 ·obtain ⟨h1,h2,hd12,hu,hs1,hs2⟩:=g2.2 Y (Ext.refl _) hsat
  subst hu;refine ⟨h1,(Hp.disj_union.1 hd).1,?_,?_⟩
  ·rw [qdZ,Sg.subHs_den hh]
   exact qcW (fun m hm=>(hvar m hm).symm) _ hf.2 h1 hs1
  ·refine ⟨Hp.sub_le hsub fun y o hy=>?_,hwi⟩
   simp only [Hp.union] at hy ⊢;cases hFy:hF y with
   | some o'=>rw [hFy] at hy; simpa using hy
   | none=>rw [hFy] at hy; simp only [jbg] at hy ⊢; simp [hy]
 ·rw [<- hpt c b hcb]
  exact congrArg U.b (T.den_congr (n:=base) (fun m hm=>(hlt m hm).trans (hag m hm)) c (jao.1 hpc (c,b) hcb))
 ·funext n
  simp only [qdL,cutE];by_cases h1:n < 1000
  ·rw [jag h1,jag h1]
   by_cases h2:n < base
   ·rw [jag h2,jag h2,hlt n h2,Sg.env_lt (Y:=Y) (by omega)]
   ·rw [jaf h2,jaf h2]
  ·rw [jaf h1,jaf h1]
   by_cases h2:n < 1000 + I.nv
   ·rw [jag h2,jag h2]
    simp only [Z2];rw [jag (by omega),show 1000 + (base + (n - 1000) - base) = n from by omega]
   ·rw [jaf h2,jaf h2]
def qxM (E:Ctx) (hF:Fr) (Z0:Env) (e:Ending) (w':World):Prop :=
 ∃ (ai:Nat) (al:Alt) (Z':Env),E.me.alts[ai]? = some al/\Z'.good/\(∀ n,n < E.me.nv->Z' n = Z0 n)/\e = .returned (al.ret.den Z')/\al.post (Z'.upto (E.me.nv + al.k))/\qt Z' hF al.heap w'
theorem qee {st:Bool} {Z Z0:Env} {s:S} {a:Act} {w:World} {v:SV} (hs:Holds Z hF s a w) (hb:Base E Z0 RO NT Z s):∀ (l:List Alt) (ai:Nat),(∀ j,l[j]? = E.me.alts[ai + j]?) ->
  (qhJ E.me s v st ai l).den E Z->qxM E hF Z0 (.returned (v.den Z)) w
 | [],ai,_,h=>h.elim
 | al :: r,ai,hl,h=>by
  have hnext:∀ j,r[j]? = E.me.alts[ai + 1 + j]?:=fun j=>by
   have:=hl (j + 1);simp only [ja1] at this;rw [this,show ai + (j + 1) = ai + 1 + j from by omega]
  have h0:E.me.alts[ai]? = some al:=by have:=hl 0; simpa using this.symm
  simp only [qhJ] at h;split at h
  ·exact qee hs hb r (ai + 1) hnext h
  ·rename_i rest ex hfit
   split at h
   ·exact qee hs hb r (ai + 1) hnext h
   ·split at h
    ·exact h.elim
    ·rename_i hvin
     simp only [jay,jbp] at hvin;obtain ⟨Z1,s1,a1,a2,a3,a4,a5,h⟩:=qdd hs h;rw [SV.den_congr (Z':=Z1) (fun m hm=>(a1 m hm).symm) v hvin];simp only at h;have hb1:Base E Z0 RO NT Z1 s1:=⟨a4.trans hb.ro,a5.trans hb.nt,jdm hb.nv a2,fun m hm=>(a1 m (jdh hm hb.nv)).trans (hb.ag m hm)⟩;split at h
     ·rename_i rest' Y hm
      split at h
      ·rename_i cs hleft
       obtain ⟨hc,pc,hs',hk⟩:=qbS a3 h;simp only [jaj] at hm;obtain ⟨Y1,hm1,hm2⟩:=hm;obtain ⟨hO,hd,hst,hsub,hwi⟩:=a3.hp;have g1:=qjF (Z:=Z1) hm1;have g2:=qgk (Z:=Z1) a3.gd hm2 hst;have hsat:=qij (Z:=Z1) hleft hc;have hth:Y.th = E.me.nv:=by rw [g2.1.th,g1.1.th]
       simp only [Out.den,h0] at hk;refine ⟨ai,al,Y.env Z1,h0,Sg.env_good a3.gd Y,fun n hn=>?_,?_,hk,?_⟩
       ·rw [Sg.env_lt (Y:=Y) (by omega),hb1.ag n hn]
       ·rw [g1.2 Y g2.1 hsat]
       ·obtain ⟨h1,h2,hd12,hu,hs1,hs2⟩:=g2.2 Y (Ext.refl _) hsat
        subst hu;refine ⟨h1,(Hp.disj_union.1 hd).1,hs1,Hp.sub_le hsub fun y o hy=>?_,hwi⟩;simp only [Hp.union] at hy ⊢;cases hFy:hF y with
        | some o'=>rw [hFy] at hy; simpa using hy
        | none=>rw [hFy] at hy; simp only [jbg] at hy ⊢; simp [hy]
      ·exact h.elim
     ·exact h.elim
theorem qmT {mip:List (Nat × Nat)} {s:S} {f:FuncId} {args:List SV}:∀ {l:List Ctr} {n:Nat} {ci:Nat} {c:Ctr} {h:List SH} {Y:Sg},qfv mip s f args n l = some (ci,c,h,Y) ->
  n <= ci/\l[ci - n]? = some c/\c.fn = f/\∃ Yi Y0 Y1,Yi.th = 0/\qhs c.args args Yi = some Y0/\mHs true c.heap s.heap [] Y0 = some (h,Y1)/\∃ h',mHs false c.ro h (s.ro ++ qgi { s with heap:=h }) Y1 = some (h',Y)
 | [],n,ci,c,h,Y,hc=>by simp [qfv] at hc
 | c0 :: r,n,ci,c,h,Y,hc=>by
  have rec':qfv mip s f args (n + 1) r = some (ci,c,h,Y)->n <= ci/\(c0 :: r)[ci - n]? = some c/\c.fn = f/\∃ Yi Y0 Y1,Yi.th = 0/\qhs c.args args Yi = some Y0 /\
    mHs true c.heap s.heap [] Y0 = some (h,Y1)/\∃ h',mHs false c.ro h (s.ro ++ qgi { s with heap:=h }) Y1 = some (h',Y):=fun hc=>by
   obtain ⟨h1,h2,h3⟩:=qmT hc;refine ⟨by omega,?_,h3⟩;rw [show ci - n = (ci - (n + 1)) + 1 from by omega,ja1]; exact h2
  simp only [qfv] at hc;split at hc
  ·rename_i hf
   have hf:=Nat.eq_of_beq_eq_true hf;split at hc
   ·rename_i h' Y1 hm
    split at hc
    ·rename_i h'' Y2 hm2
     split at hc
     ·simp only [jaa,jam] at hc
      obtain ⟨rfl,rfl,rfl,rfl⟩:=hc;simp only [jaj] at hm;obtain ⟨Y0,hm0,hm1⟩:=hm;exact ⟨jbj _,by simp,hf,_,Y0,Y1,rfl,hm0,hm1,h'',hm2⟩
     ·exact rec' hc
    ·exact rec' hc
   ·exact rec' hc
  ·exact rec' hc
theorem qkI {Z:Env} {k:Nat->Alt->Out}:∀ {l:List Alt} {n ai:Nat} {al:Alt},l[ai]? = some al->(qn7 k n l).den E Z->(k (n + ai) al).den E Z
 | [],n,ai,al,h,_=>by simp at h
 | a0 :: r,n,0,al,h,hd=>by
  simp only [ja7,jaa] at h; subst h;exact hd.1
 | a0 :: r,n,ai + 1,al,h,hd=>by
  simp only [ja1] at h;have:=qkI (n:=n + 1) h hd.2
  rwa [show n + 1 + ai = n + (ai + 1) from by omega] at this
theorem qhl {next:Act->World->Prop} {Q:Exit->Act->World->Prop} {a:Act} {w:World} (h:next a w):Exit.then next Q .normal a w:=h
theorem qs5 {P:Program} {ops:Array Oper} {q:Exit->Act->World->Prop} {i:Nat} {l:List Nat} {o:Oper} {a:Act} {w:World} (ho:ops[i]? = some o)
  (hw:Region.wanted o (yielded ops a.tmps) = true) (h:o.wp P a w (wpOps P ops q l) q):wpOps P ops q (i :: l) a w:=by
 simp only [wpOps,ho,hw,ja5]; exact .inl h
theorem qyB {P:Program} {ops:Array Oper} {q:Exit->Act->World->Prop} {i:Nat} {l:List Nat} {o:Oper} {a:Act} {w:World} (ho:ops[i]? = some o)
  (hw:Region.wanted o (yielded ops a.tmps) = false) (h:wpOps P ops q l (a.put o.dst undef) w):wpOps P ops q (i :: l) a w:=by
 simp only [wpOps,ho,hw,jan,ja3]; exact h
theorem qfI {key:Nat}:∀ {l:List Inv} {n li:Nat} {I:Inv},qfb key l n = some (li,I)->n <= li/\l[li - n]? = some I
 | [],n,li,I,h=>by simp [qfb] at h
 | x :: r,n,li,I,h=>by
  simp only [qfb] at h;split at h
  ·simp only [jaa,jam] at h
   obtain ⟨rfl,rfl⟩:=h;simp
  ·obtain ⟨h1,h2⟩:=qfI h
   refine ⟨by omega,?_⟩;rw [show li - n = (li - (n + 1)) + 1 from by omega,ja1]; exact h2
theorem qjb {key:Nat} {s:S}:∀ {l:List Inv} {n li:Nat} {I:Inv},qgK key s l n = some (li,I)->n <= li/\l[li - n]? = some I
 | [],n,li,I,h=>by simp [qgK] at h
 | x :: r,n,li,I,h=>by
  simp only [qgK] at h;split at h
  ·simp only [jaa,jam] at h
   obtain ⟨rfl,rfl⟩:=h;simp
  ·obtain ⟨h1,h2⟩:=qjb h
   refine ⟨by omega,?_⟩;rw [show li - n = (li - (n + 1)) + 1 from by omega,ja1]; exact h2
theorem qqo {key:Nat} {s:S} {l:List Inv} {li:Nat} {I:Inv} (h:qn6 key s l = some (li,I)):l[li]? = some I:=by
 unfold qn6 at h;split at h
 ·rename_i x hx
  simp only [jaa] at h; subst h;simpa using (qjb hx).2
 ·simpa using (qfI h).2
theorem qqj {s:S} {Z:Env} {a:Act} {w:World} {o:Oper} {f:Operand} {args:Array Operand} {tys:Array TypeId} {fid:FuncId} {avs:List SV} {P:Program} (hs:Holds Z hF s a w) (hop:o.op = .call { callee:=.value f,args,argTypes:=tys })
  (h:qgz s { callee:=.value f,args,argTypes:=tys } = some (fid,avs)) (hcall:∀ (args:Array Value) (w:World),(callFunc fid args).run P w = .ok (.enter fid args) w) :
  (execOp a.eval o).run P w = .ok (.enter fid (avs.map (SV.den Z)).toArray) w:=by
 simp only [qgz] at h;split at h
 ·rename_i fid' first caps avs hf ha
  simp only [jaa,jam] at h;obtain ⟨rfl,rfl⟩:=h;have hef:=hs.opd hf;have hea:=hs.opds ha;simp only [SV.den] at hef;have h1:∀ l:List T,(l.map SV.one).map (SV.den Z) = qa Z l:=fun l=>by simp [qa,SV.den]
  simp only [execOp,hop,resolve,Deferred.ofValue,hef,Sem.run_bind,Sem.run_pure,Result.andThen_ok,invoke];rw [hcall]
  congr 2
  apply jb6;simp only [Array.toList_append,jd0,hea,jcl,h1]
 ·simp at h
theorem qho {r:Nat}:∀ {l:List (List Nat × SH)} {x:List Nat × SH},qkd r l = some x->x ∈ l
 | y :: l,x,h=>by
  simp only [qkd] at h;split at h
  ·split at h
   ·simp only [jaa] at h; subst h; exact jac ..
   ·exact jab _ (qho h)
  ·exact jab _ (qho h)
theorem qfh {m:Nat}:∀ {l:List SH} {k i tag:Nat},qfA m l i = some (k,tag)->∃ j,k = i + j/\l[j]? = some (.abs m tag)
 | .abs n t :: l,k,i,tag,h=>by
  simp only [qfA] at h;split at h
  ·rename_i he
   have he:=Nat.eq_of_beq_eq_true he;simp only [jaa,jam] at h;obtain ⟨rfl,rfl⟩:=h;subst he;exact ⟨0,rfl,rfl⟩
  ·obtain ⟨j,e1,e2⟩:=qfh h
   exact ⟨j + 1,by omega,e2⟩
 | .cells .. :: l,k,i,tag,h=>by
  simp only [qfA] at h;obtain ⟨j,e1,e2⟩:=qfh h;exact ⟨j + 1,by omega,e2⟩
 | .arr .. :: l,k,i,tag,h=>by
  simp only [qfA] at h;obtain ⟨j,e1,e2⟩:=qfh h;exact ⟨j + 1,by omega,e2⟩
 | [],k,i,tag,h=>by simp [qfA] at h
theorem qrV {Z:Env} {s:S} {a:Act} {w:World} {o:Oper} {r:PutR} {P:Program} (hs:Holds Z hF s a w) (hsc:s.inNx = true) (h:qpE P s o = some r) (h0:0 <= (r.e.den Z).i) (h1:(r.e.den Z).i < ((r.d.den Z).d.length:Int)) :
  ∃ u w',u.good/\Put (Z r.m).h u.h (Z r.rg).r r.pat (r.d.den Z).d ((r.e.den Z).i.toNat * r.pat.length + r.c) (qa Z r.vs)/\o.dst = none/\(execOp a.eval o).run P w = .ok .skip w'/\qt (Z.set s.nx u) hF (s.heap.set r.k (.abs s.nx r.tag)) w':=by
 unfold qpE at h;split at h
 ·rename_i t x y hop hdst
  split at h
  ·rename_i rg p c e vs n hx hvs hsz
   split at h
   ·rename_i m r' el pat d cap hnone hview
    split at h
    ·rename_i k tag hpos
     split at h
     ·rename_i hcond
      simp only [jad,jdg] at hcond;obtain ⟨⟨⟨⟨⟨c0',c1⟩,c2⟩,c3⟩,c4⟩,c5⟩:=hcond;have c0':Nat.blt tag 1001 = true:=c0';have c1:=Nat.eq_of_beq_eq_true c1;have c2:=Nat.eq_of_beq_eq_true c2;have c3:=Nat.eq_of_beq_eq_true c3;simp only [jaa] at h; subst h;subst c1;simp only at h0 h1 ⊢;have hev:=hs.opd hx;simp only [jaj] at hvs;obtain ⟨v,hv,hc⟩:=hvs;have hvev:=hs.opd hv;have hcd:=qgX hs.gd hc;obtain ⟨j,e1,e2⟩:=qfh hpos;rw [jbb] at e1; subst e1;obtain ⟨m',hm',hro⟩:=hs.vw _ (qho hview);rw [jak] at hm'; subst hm';have hlt:(e.den Z).i.toNat < (d.den Z).d.length:=by omega
      have hrow:=jae hlt;rcases hro with hd | ⟨b,o',c0,ty,fr,g1,g2,g3⟩
      ·have hd':(d.den Z).d = []:=hd
       rw [hd'] at hlt; simp at hlt
      obtain ⟨hO,hdj,hst,hsub,hwi⟩:=hs.hp;obtain ⟨t1,t2,td,tu,tx,ts⟩:=qaz hst e2;have hfr:fr = (0,0):=by
       obtain ⟨_,_,hh⟩:=tx.2 c0' b _ g2;simp only [Obj.cells.injEq] at hh; exact hh.2.2
      subst hfr;have hle:Hp.le t1 (Hp.union hF hO):=Hp.le_trans (tu ▸ Hp.le_left t1 t2) (Hp.le_right hdj);have g2':=tx.1 _ _ g2;have hwb:=hsub _ _ (hle _ _ g2');obtain ⟨hfit,hcells⟩:=g3 _ _ hrow;have hvl:(qa Z vs).length = vs.length:=by simp [qa]
      have hsize:(o' + ((e.den Z).i.toNat * p + c)) + (qa Z vs).length <= c0.size:=by
       rw [hvl,c2];have hlast:p - 1 < ((d.den Z).d[(e.den Z).i.toNat]).length:=by rw [hfit.1,<- c3]; omega
       have:=hcells (p - 1) _ (jae hlast);have:=(jc8.1 this).1;rw [<- c3] at this;omega
      obtain ⟨w',c1,hrun,hw1,hw2,hwrote,hos⟩:=qjY (P:=P) (w:=w) (off:=o' + ((e.den Z).i.toNat * p + c)) hsz hcd (by rw [hvl,c2]) hwb (qfU hs.gd vs) hsize;refine ⟨{ h:=Hp.upd (Z m').h b (.cells c1 ty (0,0)) },w',by simp [U.good,Value.oneCell'],⟨b,o',c0,c1,ty,g1,g2,g3,by rw [<- c3]; exact hwrote,rfl⟩,hdst,?_,?_⟩
      ·simp only [SV.den,T.den,O1.den,g1,qj,ja9] at hev
       simp [execOp,hop,hev,hvev,Instr.storeAt,Instr.sureAddr,hrun]
      ·have hdisj:Hp.disj (Hp.upd t1 b (.cells c1 ty (0,0))) t2:=fun y=>by
        rcases td y with h | h
        ·unfold Hp.upd
         split
         ·rename_i he; subst he; rw [g2'] at h; cases h
         ·exact .inl h
        ·exact .inr h
       have hag:∀ q,q < s.nx->Z q = (Z.set s.nx { h:=Hp.upd (Z m').h b (.cells c1 ty (0,0)) }) q:=fun q hq=>(Env.set_ne Z _ (by omega)).symm
       refine ⟨Hp.union (Hp.upd t1 b (.cells c1 ty (0,0))) t2,?_,qcO e2 (qaS hag _ ?_ _ ts) hdisj ?_,?_,⟨hos.1.trans hwi.1,hos.2.trans hwi.2⟩⟩
       ·intro y
        rcases hdj y with h | h
        ·exact .inl h
        ·right
         rw [tu] at h;simp only [Hp.union,jb3] at h ⊢;refine ⟨?_,h.2⟩;unfold Hp.upd;split
         ·rename_i he; subst he; rw [g2'] at h; cases h.1
         ·exact h.1
       ·have:=(qbk hsc).2.1
        exact jao.2 fun x hx=>jao.1 this x (jbk hx)
       ·simp only [SH.den,Env.set_same]
        refine ⟨fun y ob hy=>?_,fun _ y ob hy=>?_⟩
        ·unfold Hp.upd at hy ⊢
         split at hy
         ·rename_i he; rw [jag he]; exact hy
         ·rename_i he; rw [jaf he]; exact tx.1 _ _ hy
        ·unfold Hp.upd at hy
         split at hy
         ·exact ⟨_,_,(jat hy).symm⟩
         ·exact tx.2 c0' _ _ hy
       ·intro y ob hy
        by_cases hyb:y = b
        ·subst hyb
         have hFn:hF y = none:=(hdj y).resolve_right (by rw [tu]; simp [Hp.union,g2']);simp only [Hp.union,hFn,Hp.upd,ja5,jbg,jcj,jaa] at hy;rw [hw1,hy]
        ·rw [hw2 y hyb]
         refine hsub y ob ?_;rw [tu];simp only [Hp.union,Hp.upd,hyb,ja3] at hy ⊢;exact hy
     ·cases h
    ·cases h
   ·cases h
  ·cases h
 ·cases h
theorem qxt {P:Program} {w:World} {src e:TypeId} {b:Nat} {c:Array Value} {ty:TypeId} {l cap off:Nat} (hs:P.underlying src = some (.slice e)) (he:P.underlying e = some (.int .u8)) (hb:w.heap[b]? = some (.cells c ty (0,0))) :
  (convert src src (.slice (some ⟨b,off,none⟩) l cap)).run P w = .ok (.slice (some ⟨b,off,none⟩) l cap) (w.freeze ⟨b,c.size,none⟩ 1):=by
 have hsh:w.shape? b = some (ty,c.size):=by simp [World.shape?,hb]
 simp [convert,run_underlying hs,run_underlying he,markStringish,hsh]
theorem qrW {w:World} {b:Nat} {c:Array Value} {ty:TypeId} {n:Nat} (hb:w.heap[b]? = some (.cells c ty (0,0))) :
  (w.freeze ⟨b,n,none⟩ 1).heap[b]? = some (.cells c ty (n,n + 1))/\(∀ y,y ≠ b->(w.freeze ⟨b,n,none⟩ 1).heap[y]? = w.heap[y]?)/\(w.freeze ⟨b,n,none⟩ 1).os = w.os/\(w.freeze ⟨b,n,none⟩ 1).output = w.output:=by
 refine ⟨by simp [World.freeze,jct,hb],fun y hy=>?_,by simp [World.freeze],by simp [World.freeze]⟩;unfold World.freeze;rw [jaf (by decide)];simp only [jct];rw [jaf (fun h=>hy h.symm)]
theorem qrD {Z:Env} {s:S} {a:Act} {w:World} {o:Oper} {P:Program} {k:Nat} {y:SH} {v:SV} (hs:Holds Z hF s a w) (hsc:s.inNx = true) (h:qtJ P s o = some (k,y,v)) :
  ∃ u w',u.good/\v.inB s.nx = true/\(execOp a.eval o).run P w = .ok (.value (v.den Z)) w'/\qt (Z.set s.nx u) hF (.abs s.nx 1001 :: s.heap.eraseIdx k) w'/\y.roden (Z.set s.nx u) u.h:=by
 unfold qtJ at h;split at h
 ·rename_i src dst x hop
  split at h
  ·rename_i hsd
   have hsd:=Nat.eq_of_beq_eq_true hsd;subst hsd;split at h
   ·rename_i e hu
    split at h
    ·rename_i r p off len cap he hx
     split at h
     ·rename_i k' r' ty cs hat
      split at h
      ·rename_i hrr
       have hrr:=Nat.eq_of_beq_eq_true hrr;subst hrr;simp only [jaa,jam] at h;obtain ⟨rfl,rfl,rfl⟩:=h;have hev:=hs.opd hx;obtain ⟨hk,_⟩:=qZ hat;obtain ⟨hO,hdj,hst,hsub,hwi⟩:=hs.hp;obtain ⟨t1,t2,td,tu,tx,ts⟩:=qaz hst hk;obtain ⟨b,g1,g2⟩:=tx;have hle:Hp.le t1 (Hp.union hF hO):=Hp.le_trans (tu ▸ Hp.le_left t1 t2) (Hp.le_right hdj);have hwb:=hsub _ _ (hle _ _ g2);obtain ⟨f1,f2,f3,f4⟩:=qrW (n:=(qa Z cs).toArray.size) hwb;have hpar:=qbk hsc;have hvin:SV.inB s.nx (.one (.c3 (.vslice r p) off len cap)) = true:=qj9 (by simp only [S.scopedEH,jad]; exact ⟨hpar.1,hpar.2.1⟩) hx;have hyin:SH.inB s.nx (.cells r ty cs) = true:=jao.1 hpar.2.1 _ (jas hk)
       let ob:Obj:=.cells (qa Z cs).toArray ty ((qa Z cs).toArray.size,(qa Z cs).toArray.size + 1)
       have hag:∀ q,q < s.nx->Z q = (Z.set s.nx { h:=Hp.upd t1 b ob }) q:=fun q hq=>(Env.set_ne Z _ (by omega)).symm
       refine ⟨{ h:=Hp.upd t1 b ob },_,by simp [U.good,Value.oneCell'],hvin,?_,⟨Hp.union (Hp.upd t1 b ob) t2,?_,⟨Hp.upd t1 b ob,t2,?_,rfl,?_,?_⟩,?_,⟨f3.trans hwi.1,f4.trans hwi.2⟩⟩,?_⟩
       ·simp only [SV.den,T.den,O3.den,g1,qj,ja9,jbb] at hev ⊢
        simp only [execOp,hop,Sem.run_bind,hev,qxt hu he hwb,Result.andThen_ok,Sem.run_pure]
       ·intro q
        rcases hdj q with h | h
        ·exact .inl h
        ·right
         rw [tu] at h;simp only [Hp.union,jb3] at h ⊢;refine ⟨?_,h.2⟩;unfold Hp.upd;split
         ·rename_i he; subst he; rw [g2] at h; cases h.1
         ·exact h.1
       ·intro q
        rcases td q with h | h
        ·unfold Hp.upd
         split
         ·rename_i he; subst he; rw [g2] at h; cases h
         ·exact .inl h
        ·exact .inr h
       ·simp only [SH.den,Env.set_same]
        exact ⟨Hp.le_refl _,fun h=>by cases h⟩
       ·refine qaS hag _ ?_ _ ts
        exact jao.2 fun x hx=>jao.1 hpar.2.1 x (jbk hx)
       ·intro q o' hq
        by_cases hqb:q = b
        ·subst hqb
         have hFn:hF q = none:=(hdj q).resolve_right (by rw [tu]; simp [Hp.union,g2]);simp only [Hp.union,hFn,Hp.upd,ja5,jbg,jcj,jaa] at hq;rw [f1,<- hq]
        ·rw [f2 q hqb]
         refine hsub q o' ?_;rw [tu];simp only [Hp.union,Hp.upd,hqb,ja3] at hq ⊢;exact hq
       ·refine (SH.roden_congr hag _ hyin _).1 ⟨b,0,(qa Z cs).toArray,ty,_,g1,by simp only [Hp.upd,ja5]; rfl,fun q v hv=>by simpa using hv⟩
      ·cases h
     ·cases h
    ·cases h
   ·cases h
  ·cases h
 ·cases h
theorem Sg.clean_env (Y:Sg) (Z:Env):Y.clean.env Z = Y.env Z:=rfl
theorem qst {Z0 Z:Env} {s:S} {a:Act} {w:World} {i:Nat} {o:Oper} {q q':Exit->Act->World->Prop} {K:List KI} {next:Act->World->Prop} {k:S->Out} (hctr:∀ c ∈ E.ctrs,c.ok E.P)
  (hs:Holds Z hF s a w) (hb:Base E Z0 RO NT Z s) (hk:KSem E hF QF RO NT Z s.nx K q)
  (hnext:∀ Z' s' a' w',(∀ m,m < s.nx->Z' m = Z m)->s.nx <= s'.nx->KSem E hF QF RO NT Z' s'.nx K q->Holds Z' hF s' a' w'->Base E Z0 RO NT Z' s'->(k s').den E Z'->next a' w')
  (h:(qp8 E s i o k).den E Z):o.wp E.P a w next q':=by
 unfold qp8 at h;split at h
 ·rename_i f args tys hop
  split at h
  ·exact h.elim
  ·rename_i fid avs hca
   split at h
   ·exact h.elim
   ·rename_i ci c hp Y hcc
    obtain ⟨_,hci,hfn,Yi,Y0,Y1,hith,hm0,hm1,h',hm2⟩:=qmT hcc;simp only [jej] at hci;have hok:=hctr c (jas hci);subst hfn;split at h
    ·exact h.elim
    ·rename_i cs hleft
     obtain ⟨hc,pc,hs',h⟩:=qbS hs h;obtain ⟨hpre,h⟩:=h;simp only [hci] at hpre;have hsat:=qij (Z:=Z) hleft hc;obtain ⟨hO,hd,hst,hsub,hwi⟩:=hs.hp;have g0:=qmo (Z:=Z) hm0;have g1:=qgk (Z:=Z) hs.gd hm1 hst
     -- what is only read, in what is left
     obtain ⟨_,h1,h2,hd12,hu,hst1,hst2⟩:∃ _:True,∃ h1 h2,Hp.disj h1 h2/\hO = Hp.union h1 h2/\qD (Y.env Z) c.heap h1/\qD Z hp h2:=by
      obtain ⟨x1,x2,y⟩:=g1.2 Y (by
       have:=qdH hm2;exact this) hsat
      exact ⟨trivial,x1,x2,y⟩
     subst hu;have hdF:=Hp.disj_union.1 hd;have hro2:∀ x ∈ s.ro ++ qgi { s with heap:=hp },x.roden Z (Hp.union hF h2):=by
      intro x hx;rcases jax.1 hx with hx | hx
      ·exact SH.ro_mono (hs.ro x hx) (Hp.le_left _ _)
      ·refine qp4 (s':={ s with heap:=hp }) hs.vw (fun m hm=>?_) x hx
       rcases qlz hst2 hs.ro hm with h | h
       ·exact Hp.le_trans h (Hp.le_right hdF.2)
       ·exact Hp.le_trans h (Hp.le_left _ _)
     have g2:=qh6 (Z:=Z) hs.gd (hF:=Hp.union hF h2) (H:=Hp.union hF h2) hm2 hst2 hro2 (Hp.le_right hdF.2) (Hp.le_refl _);have hrun:=qqj hs hop hca hok.1;have hargs:(c.args.map (SV.den (Y.env Z))).toArray = (avs.map (SV.den Z)).toArray:=by rw [g0.2 Y ((g1.1).trans g2.1) hsat]
     have hcalls:=hok.2 (Y.env Z) w ⟨Hp.union hF h2,hF.os,hF.out⟩ h1 (Sg.env_good hs.gd Y) (Hp.disj_union'.2 ⟨hdF.1,hd12.symm⟩)
      ⟨by
       refine Hp.sub_le hsub ?_;rw [Hp.union_assoc,Hp.union_comm hd12.symm];exact Hp.le_refl _,hwi⟩
      hst1 (g2.2.2 Y (Ext.refl _) hsat) hpre
     rw [hargs] at hcalls;unfold Oper.wp;rw [hrun,Oper.upon_enter];refine hcalls.mono ?_
     rintro e w' ⟨ai,al,Z',hal,hg',hag',rfl,hpost,hheap⟩
     simp only;have h:=qkI (n:=0) hal h;simp only [jbb] at h;split at h
     ·exact h.elim
     ·rename_i hchk
      simp only [jay,jbp,qvU,jad] at hchk;obtain ⟨⟨hbd,hret⟩,hheapS⟩:=hchk
      let us:List U:=(List.range al.k).map fun j=>Z' (c.nv + j)
      have hul:us.length = al.k:=by simp [us]
      have hug:∀ u ∈ us,u.good:=fun u hu=>by
       obtain ⟨j,_,rfl⟩:=jbr.1 hu;exact hg' _
      rw [<- hul] at h;obtain ⟨hsc,h⟩:=qdO hug h;rw [hul] at h
      -- the contract's variables, seen from here
      have hth:Y.th = 0:=by rw [g2.1.th,g1.1.th,g0.1.th,hith]
      have hlookbd:∀ n b,look n Y.bd = some b->n < c.nv/\b.inB s.nx = true:=by
       intro n b hl;have:∀ (l:List (Nat × Bd)),l.all (fun x=>Nat.blt x.1 c.nv && x.2.inB s.nx) = true->look n l = some b->n < c.nv/\b.inB s.nx = true:=by
        intro l
        induction l with
        | nil=>intro _ h; simp [look] at h
        | cons x l ih =>
         intro hall hlk;obtain ⟨kx,bx⟩:=x;simp only [jc0,jad,ja6] at hall;simp only [look] at hlk;split at hlk
         ·rename_i hn
          have hn:=Nat.eq_of_beq_eq_true hn;simp only [jaa] at hlk;subst hlk; subst hn;exact hall.1
         ·exact ih (by simpa using hall.2) hlk
       exact this Y.bd hbd hl
      have hbden:∀ b:Bd,b.inB s.nx = true->b.den (qr Z s.nx us) = b.den Z:=by
       intro b hbin;cases b with
       | t x=>exact T.den_congr (n:=s.nx) (fun m hm=>qaU us Z s.nx m hm) x hbin
       | r m=>exact qaU us Z s.nx m (by simpa [Bd.inB] using hbin)
       | nil=>rfl
      have henv:∀ n,n < c.nv->Y.env (qr Z s.nx us) n = Z' n:=by
       intro n hn;rw [hag' n hn];unfold Sg.env;rw [jaf (by omega),jaf (by omega)];cases hl:look n Y.bd with
       | none=>rfl
       | some b=>exact hbden b (hlookbd n b hl).2
      have hget:∀ j,j < al.k->qr Z s.nx us (s.nx + j) = Z' (c.nv + j):=fun j hj =>
       qir us Z s.nx j _ (by simp only [us,jau]; rw [jdr hj]; rfl)
      let Y':Sg:={ Y with bd:=qcE c.nv s.nx al.k ++ Y.bd }
      have lookapp:∀ (l l':List (Nat × Bd)) n,look n (l ++ l') = (look n l).or (look n l'):=by
       intro l l' n
       induction l with
       | nil=>simp [look]
       | cons x l ih =>
        obtain ⟨kx,bx⟩:=x;simp only [jdo,look];split
        ·rfl
        ·exact ih
      have henv':∀ n,Nat.blt n (c.nv + al.k) = true->Y'.env (qr Z s.nx us) n = Z' n:=by
       intro n hn;simp only [ja6] at hn;unfold Sg.env;rw [jaf (by simp only [Y']; omega)];simp only [Y',lookapp,qiI];by_cases hlt:n < c.nv
       ·rw [jaf (by omega)]
        have:=henv n hlt;unfold Sg.env at this;rw [jaf (by omega)] at this;simpa using this
       ·rw [jag (by omega)]
        simp only [jcj,Bd.den];rw [hget (n - c.nv) (by omega),show c.nv + (n - c.nv) = n from by omega]
      split at h
      ·rename_i v hv' hsv hhs
       split at h
       ·rename_i s2 hput
        have hvden:SV.den (qr Z s.nx us) v = al.ret.den Z':=by
         rw [Sg.subSV_den hsv];exact SV.den_congrS henv' _ hret
        obtain ⟨hO',hd',hst',hsub',hwi'⟩:=hheap;have hdd:=Hp.disj_union'.1 hd';have hfr:=Holds.fresh (us:=us) (n:=s.nx + al.k) (s:={ s with heap:=hp,pc:=pc })
         (⟨hs'.gd,hs'.nt,hs'.df,hs'.env,hs'.ro,⟨h2,hdF.2,hst2,Hp.sub_le hsub (by
          intro y ob hy;simp only [Hp.union] at hy ⊢;cases hFy:hF y with
          | some o'=>rw [hFy] at hy; simpa using hy
          | none =>
           rw [hFy] at hy;simp only [jbg] at hy ⊢;rcases hd12 y with hz | hz
           ·rw [hz]; simpa using hy
           ·rw [hz] at hy; cases hy),hwi⟩,hs'.pc,hs'.vw⟩:Holds Z hF { s with heap:=hp,pc:=pc } a w) hsc hug
        have hstn:qD (qr Z s.nx us) hp h2:=by
         rcases hsc with hnil | hsc
         ·rw [hnil]; exact hst2
         ·exact qaS (n:=s.nx) (fun m hm=>(qaU us Z s.nx m hm).symm) _ (qbk hsc).2.1 _ hst2
        have hstv:qD (qr Z s.nx us) hv' hO':=by
         rw [Sg.subHs_den hhs];exact qcW (fun m hm=>(henv' m hm).symm) _ hheapS _ hst'
        have hH:Holds (qr Z s.nx us) hF { s with heap:=hv' ++ hp,pc:=pc,nx:=s.nx + al.k } a w':=by
         refine ⟨hfr.gd,hfr.nt,hfr.df,hfr.env,hfr.ro,⟨Hp.union hO' h2,Hp.disj_union.2 ⟨hdd.1,hdF.2⟩,qdT hstv hstn hdd.2.symm,?_,hwi'⟩,hfr.pc,hfr.vw⟩;refine Hp.sub_le hsub' ?_;rw [Hp.union_comm hdd.2.symm,<- Hp.union_assoc];exact Hp.le_refl _
        obtain ⟨hp2,e1,e2,e3,e4⟩:=Holds.put hH hput;rw [hvden] at hp2;have hmix:quc c.nv al.k s.nx (Y.env (qr Z s.nx us)) (qr Z s.nx us) = Z'.upto (c.nv + al.k):=by
         funext n
         simp only [quc,Env.upto];by_cases hlt:n < c.nv
         ·rw [jag hlt,jag (by omega),henv n hlt]
         ·rw [jaf hlt]
          by_cases hlt2:n < c.nv + al.k
          ·rw [jag hlt2,jag hlt2,hget (n - c.nv) (by omega),show c.nv + (n - c.nv) = n from by omega]
          ·rw [jaf hlt2,jaf hlt2]
        have hfin:=h (by simp only [hci,hal,Sg.clean_env,hmix]; exact hpost);exact hnext _ s2 _ _ (fun m hm=>qaU us Z s.nx m hm) (by rw [e1]; simp) (by rw [e1]; exact hk.mono (by simp) (fun m hm=>qaU us Z s.nx m hm)) hp2
         ⟨e2.trans hb.ro,e3.trans hb.nt,by rw [e1]; have:=hb.nv; simp only; omega,fun m hm=>by rw [qaU us Z s.nx m (by have:=hb.nv; omega)]; exact hb.ag m hm⟩ hfin
       ·exact h.elim
      ·exact h.elim
 ·split at h
  ·rename_i r hr
   split at h
   ·rename_i hsc
    obtain ⟨us,mb,w',hwhich,hul,hug,hheap,hran⟩:=qsf hs hsc hr h;have hf:=Holds.fresh (us:=us) (n:=s.nx + us.length) hs (.inr hsc) hug;have hlt:∀ m,m < s.nx->(qr Z s.nx us) m = Z m:=fun m hm=>qaU us Z s.nx m hm
    have hH:Holds (qr Z s.nx us) hF { s with heap:=mb.heap,nx:=s.nx + mb.fresh } a w':=by
     rw [<- hul];exact ⟨hf.gd,hf.nt,hf.df,hf.env,hf.ro,hheap,hf.pc,hf.vw⟩
    have hcont:(qk5 s i o k mb).den E (qr Z s.nx us):=by
     rcases hwhich with ⟨rfl,hw⟩ | ⟨hb,hw⟩
     ·exact hw
     ·rw [hb] at hw; exact hw
    unfold qk5 at hcont;split at hcont
    ·rename_i s2 hput
     have hbase:∀ s2:S,s2.nx = s.nx + mb.fresh->s2.ro = s.ro->s2.nt = s.nt->Base E Z0 RO NT (qr Z s.nx us) s2:=fun s2 e1 e2 e3 =>
      ⟨e2.trans hb.ro,e3.trans hb.nt,by rw [e1]; have:=hb.nv; omega,fun m hm=>by rw [hlt m (by have:=hb.nv; omega)]; exact hb.ag m hm⟩
     have hkm:∀ s2:S,s2.nx = s.nx + mb.fresh->KSem E hF QF RO NT (qr Z s.nx us) s2.nx K q:=fun s2 e1=>by
      rw [e1]; exact hk.mono (by omega) hlt
     unfold Oper.wp;cases hv:mb.val with
     | some v =>
      rw [hv] at hran hput;simp only [Ran] at hran;rw [hran,Oper.upon_value];obtain ⟨hp2,e1,e2,e3,e4⟩:=Holds.put hH hput;exact hnext _ s2 _ _ hlt (by rw [e1]; simp) (hkm s2 e1) hp2 (hbase s2 e1 e2 e3) hcont
     | none =>
      rw [hv] at hran hput;simp only [Ran] at hran;rw [hran,Oper.upon_skip];obtain ⟨hdst,rfl⟩:=qkN hput;rw [hdst];exact hnext _ _ _ _ hlt (by simp) (hkm _ rfl) hH (hbase _ rfl rfl rfl) hcont
    ·exact hcont.elim
   ·exact h.elim
  split at h
  ·rename_i r hr
   obtain ⟨hc,pc,hs',h⟩:=qbS hs h;have h0:=qz (hc _ (jac ..));have h1:=qcF (hc _ (jab _ (jac ..)));split at h
   ·rename_i hsc
    obtain ⟨u,w',hu,hput,hdst,hrun,hheap⟩:=qrV (s:={ s with pc:=pc }) hs' hsc (show qpE E.P { s with pc:=pc } o = some r from hr) h0 h1;have hf:=Holds.fresh (us:=[u]) (n:=s.nx + 1) hs' (.inr hsc) (by simpa using hu);have hH:Holds (Z.set s.nx u) hF { s with heap:=s.heap.set r.k (.abs s.nx r.tag),pc:=pc,nx:=s.nx + 1 } a w' :=
     ⟨hf.gd,hf.nt,hf.df,hf.env,hf.ro,hheap,hf.pc,hf.vw⟩
    have hlt:∀ m,m < s.nx->(Z.set s.nx u) m = Z m:=fun m hm=>Env.set_ne Z _ (by omega)
    unfold Oper.wp;rw [hrun,Oper.upon_skip,hdst];exact hnext _ _ _ _ hlt (by simp) (hk.mono (by simp) hlt) hH ⟨hb.ro,hb.nt,by have:=hb.nv; simp only; omega,fun m hm=>by rw [hlt m (by have:=hb.nv; omega)]; exact hb.ag m hm⟩ (h u hu hput)
   ·exact h.elim
  split at h
  ·rename_i fk y v hfz
   split at h
   ·rename_i hsc
    obtain ⟨u,w',hu,hvin,hrun,hheap,hro⟩:=qrD hs hsc hfz;have h:=h u hu;split at h
    ·rename_i s2 hput
     have hf:=Holds.fresh (us:=[u]) (n:=s.nx + 1) hs (.inr hsc) (by simpa using hu);have hlt:∀ m,m < s.nx->(Z.set s.nx u) m = Z m:=fun m hm=>Env.set_ne Z _ (by omega)
     have hH:Holds (Z.set s.nx u) hF { s with heap:=.abs s.nx 1001 :: s.heap.eraseIdx fk,vw:=([s.nx],y) :: s.vw,nx:=s.nx + 1 } a w' :=
      ⟨hf.gd,hf.nt,hf.df,hf.env,hf.ro,hheap,hf.pc,fun x hx=>by
       rcases jar.1 hx with rfl | hx
       ·exact ⟨s.nx,jak.2 rfl,by rw [Env.set_same]; exact hro⟩
       ·exact hf.vw x hx⟩
     obtain ⟨hp2,e1,e2,e3,e4⟩:=Holds.put hH hput;unfold Oper.wp;rw [hrun,Oper.upon_value];have hvd:v.den (Z.set s.nx u) = v.den Z:=(SV.den_congr (fun m hm=>(hlt m hm).symm) v hvin).symm;rw [hvd] at hp2;exact hnext _ s2 _ _ hlt (by rw [e1]; simp) (by rw [e1]; exact hk.mono (by simp) hlt) hp2 ⟨e2.trans hb.ro,e3.trans hb.nt,by rw [e1]; have:=hb.nv; simp only; omega,fun m hm=>by rw [hlt m (by have:=hb.nv; omega)]; exact hb.ag m hm⟩ h
    ·exact h.elim
   ·exact h.elim
  split at h
  ·exact h.elim
  ·rename_i r hr
   obtain ⟨hc,pc,hs',h⟩:=qbS hs h;by_cases hfr:r.fresh = 0∨s.scopedEH = true
   ·obtain ⟨us,w',hul,hug,hheap,hran,_⟩:=qrX hs hr hc hfr
    rw [<- hul] at h;obtain ⟨hsc,h⟩:=qdO hug h;split at h
    ·rename_i s2 hput
     have hf:=Holds.fresh (us:=us) (n:=s.nx + us.length) hs' hsc hug;have hH:Holds (qr Z s.nx us) hF { s with heap:=r.heap,pc:=pc,nx:=s.nx + us.length } a w' :=
      ⟨hf.gd,hf.nt,hf.df,hf.env,hf.ro,hheap,hf.pc,hf.vw⟩
     have hbase:∀ s2:S,s2.nx = s.nx + us.length->s2.ro = s.ro->s2.nt = s.nt->Base E Z0 RO NT (qr Z s.nx us) s2:=fun s2 e1 e2 e3 =>
      ⟨e2.trans hb.ro,e3.trans hb.nt,by rw [e1]; have:=hb.nv; omega,fun m hm=>by rw [qaU us Z s.nx m (by have:=hb.nv; omega)]; exact hb.ag m hm⟩
     have hkm:∀ s2:S,s2.nx = s.nx + us.length->KSem E hF QF RO NT (qr Z s.nx us) s2.nx K q:=fun s2 e1=>by
      rw [e1]; exact hk.mono (by omega) (fun m hm=>qaU us Z s.nx m hm)
     unfold Oper.wp;cases hv:r.val with
     | some v =>
      rw [hv] at hran hput;simp only [Ran] at hran;rw [hran,Oper.upon_value];obtain ⟨hp2,e1,e2,e3,e4⟩:=Holds.put hH hput;exact hnext _ s2 _ _ (fun m hm=>qaU us Z s.nx m hm) (by rw [e1]; simp) (hkm s2 e1) hp2 (hbase s2 e1 e2 e3) h
     | none =>
      rw [hv] at hran hput;simp only [Ran] at hran;rw [hran,Oper.upon_skip];obtain ⟨hdst,rfl⟩:=qkN hput;rw [hdst];exact hnext _ _ _ _ (fun m hm=>qaU us Z s.nx m hm) (by simp) (hkm _ rfl) hH (hbase _ rfl rfl rfl) h
    ·exact h.elim
   ·exfalso
    apply hfr
    match hf:r.fresh with
    | 0=>exact .inl rfl
    | m + 1 =>
     rw [hf] at h;simp only [qet] at h;split at h
     ·rename_i hsc
      obtain ⟨a1,a2,_,_⟩:=qbk hsc;right;simp only [S.scopedEH,jad];exact ⟨a1,a2⟩
     ·exact h.elim
theorem Base.anew {Z0 Z Z':Env} {s s':S} (hb:Base E Z0 RO NT Z s) (h1:∀ m,m < s.nx->Z' m = Z m) (h2:s.nx <= s'.nx) (h3:s'.ro = s.ro) (h4:s'.nt = s.nt):Base E Z0 RO NT Z' s' :=
 ⟨h3.trans hb.ro,h4.trans hb.nt,jdm hb.nv h2,fun m hm=>(h1 m (jdh hm hb.nv)).trans (hb.ag m hm)⟩
theorem qxb {P:Program} {Z:Env} {s:S} {a:Act} {w:World} {o:Oper} {k:S->Out} (hs:Holds Z hF s a w) (h:(qxv P s o k).den E Z):qaL E hF Z s a w k:=by
 unfold qxv at h;split at h
 ·exact qe6 hs h
 ·exact qaL.self hs h
theorem qme {Z0 Z:Env} {s:S} {a:Act} {w:World} {i:Nat} {o:Oper} {q q':Exit->Act->World->Prop} {K:List KI} {next:Act->World->Prop} {k:S->Out} (hctr:∀ c ∈ E.ctrs,c.ok E.P)
  (hs:Holds Z hF s a w) (hb:Base E Z0 RO NT Z s) (hk:KSem E hF QF RO NT Z s.nx K q)
  (hnext:∀ Z' s' a' w',(∀ m,m < s.nx->Z' m = Z m)->s.nx <= s'.nx->KSem E hF QF RO NT Z' s'.nx K q->Holds Z' hF s' a' w'->Base E Z0 RO NT Z' s'->(k s').den E Z'->next a' w')
  (h:(qnK E s i o k).den E Z):o.wp E.P a w next q':=by
 unfold qnK at h;obtain ⟨Z1,s1,a1,a2,a3,a4,a5,h⟩:=(qrQ hs h).bind (k':=fun s=>qp8 E (qfc E.me.ip s o) i o k) fun Z' s' e1 e2 hs' h' =>
  (qxb hs' h').bind fun Z' s' _ _ hs' h'=>(qvD hs' h').bind fun Z' s' _ _ hs' h'=>(qm5 hs' h').bind fun Z' s' _ _ hs' h'=>(qmQ hs' h').bind fun Z' s' _ _ hs' h'=>(qvq hs' h').bind fun Z' s' _ _ hs' h'=>qhV (fun c hm=>qpx hs' hm) hs' h'
 obtain ⟨b1,b2,b3,b4⟩:=qpp E.me.ip o a3;refine qst hctr b1 (hb.anew a1 (by rw [b2]; exact a2) (b3.trans a4) (b4.trans a5)) (by rw [b2]; exact hk.mono a2 a1) (fun Z' s' a' w' h1 h2 h3 h4 h5 h6=>?_) h;rw [b2] at h1 h2;exact hnext Z' s' a' w' (fun m hm=>(h1 m (by omega)).trans (a1 m hm)) (by omega) h3 h4 h5 h6
theorem qlf {Z:Env} {k:Nat->Out}:∀ {l:List Nat} {i:Nat},i ∈ l->(qnU k l).den E Z->(k i).den E Z
 | [],i,h,_=>by cases h
 | j :: l,i,h,hd=>by
  cases h with
  | head=>exact hd.1
  | tail _ h=>exact qlf h hd.2
theorem qix {base nv:Nat} {Z Zh:Env} (hag:∀ m,m < base + nv->Z m = Zh m):qdL base nv Z = qdL base nv Zh:=by
 funext m
 simp only [qdL];split
 ·split
  ·exact hag m (by omega)
  ·rfl
 ·split
  ·exact hag _ (by omega)
  ·rfl
theorem qtz {fn:Func} {Z0:Env} (hctr:∀ c ∈ E.ctrs,c.ok E.P)
  (hret:∀ Z s a w v,Holds Z hF s a w->qih fn s E.P = some v->qxM E hF Z0 (.returned (v.den Z)) w->QF .normal a w/\QF .ret a w) :
  ∀ (n:Nat) (K:List KI) (s:S) (Z:Env) (a:Act) (w:World) (q:Exit->Act->World->Prop),KSem E hF QF RO NT Z s.nx K q->Holds Z hF s a w->Base E Z0 RO NT Z s ->
   (qa3 E fn n K s).den E Z->q .normal a w:=by
 intro n
 induction n with
 | zero=>intro K s Z a w q hk hs hb h; exact h.elim
 | succ n ih =>
  intro K s Z a w q hk hs hb h;have hend:∀ {Z:Env} {s:S} {a:Act} {w:World},Holds Z hF s a w->Base E Z0 RO NT Z s->(qa3 E fn (n + 1) [] s).den E Z->QF .normal a w/\QF .ret a w:=by
   intro Z s a w hs hb h;simp only [qa3] at h;split at h
   ·rename_i v hv
    exact hret Z s a w v hs hv (qee hs hb _ 0 (fun j=>by rw [jbb]) h)
   ·exact h.elim
  cases hk with
  | nil=>exact (hend hs hb h).1
  | @blk _ id K q hk =>
   simp only [qa3] at h
   show q .normal a w
   exact ih K s Z a w q hk hs hb h
  | @again _ c K q hk =>
   simp only [qa3] at h
   show qnc E.P c q a w
   refine qjZ ?_;exact ih (.code c :: .again c :: K) s Z a w _ (.code (.again hk)) hs hb h
  | lend hI hbn hag he hh hf hro hpc hpt hk =>
   simp only [qa3,hI] at h;split at h
   ·obtain ⟨Z1,s1,a1,a2,a3,a4,a5,h⟩:=qdd hs h
    simp only [qxN] at h;split at h
    ·rename_i rest Y hm
     split at h
     ·rename_i cs hl
      obtain ⟨hc,pc',hs',hk'⟩:=qbS a3 h;simp only [Out.den,hI] at hk';have hag1:∀ m,m < _->Z1 m = _:=fun m hm=>(a1 m (jdh hm hbn)).trans (hag m hm)
      obtain ⟨Z2,h1,h2,h3⟩:=qfH a3 (fun m hm=>hag1 m (by omega)) hm hl hc he hh hf (by rw [a4,hb.ro]; exact hro) hpc hpt;rw [a4,hb.ro,a5,hb.nt] at h2;refine ⟨_,?_,Z2,h1,h2,by rw [h3]; exact hk'.1,rfl⟩;rw [h3];rw [<- qix hag1]; exact hk'.2
     ·exact h.elim
    ·exact h.elim
   ·exact h.elim
  | cutE hI hbn hag he hh hf hro hpc hpt hk =>
   simp only [qa3,hI] at h;split at h
   ·obtain ⟨Z1,s1,a1,a2,a3,a4,a5,h⟩:=qdd hs h
    simp only [qyJ] at h;split at h
    ·rename_i rest Y hm
     split at h
     ·rename_i cs hl
      obtain ⟨hc,pc',hs',hk'⟩:=qbS a3 h;simp only [Out.den,hI] at hk';have hag1:∀ m,m < _->Z1 m = _:=fun m hm=>(a1 m (jdh hm hbn)).trans (hag m hm)
      obtain ⟨Z2,h1,h2,h3⟩:=qfH a3 hag1 hm hl hc he hh hf (by rw [a4,hb.ro]; exact hro) hpc hpt;rw [a4,hb.ro,a5,hb.nt] at h2;exact ⟨_,Z2,h1,h2,by rw [h3]; exact hk',rfl⟩
     ·exact h.elim
    ·exact h.elim
   ·exact h.elim
  | @ops _ ops l K q hk =>
   cases l with
   | nil =>
    simp only [qa3] at h
    show q .normal a w
    exact ih K s Z a w q hk hs hb h
   | cons i l =>
    simp only [qa3] at h;refine qhl ?_;cases ho:ops[i]? with
    | none =>
     simp only [ho] at h;simp only [wpOps,ho];exact ih (.ops ops l :: K) s Z a w _ (.ops hk) hs hb h
    | some o =>
     simp only [ho] at h
     -- carrying the operation out
     have hgo:∀ (s:S),Holds Z hF s a w->Base E Z0 RO NT Z s->KSem E hF QF RO NT Z s.nx K q ->
       (qnK E s i o (fun s=>qa3 E fn n (.ops ops l :: K) s)).den E Z->o.wp E.P a w (wpOps E.P ops q l) q:=by
      intro s hs hb hk h;exact qme hctr hs hb hk (fun Z' s' a' w' _ _ hk' hs' hb' h'=>ih (.ops ops l :: K) s' Z' a' w' _ (.ops hk') hs' hb' h') h
     split at h
     ·exact h.elim
     ·rename_i hg
      exact qs5 ho (qe9 hs hg) (hgo s hs hb hk h)
     ·rename_i c want hg
      have hgw:=qe9 hs hg;obtain ⟨b,pc,hcb,hs',hk'⟩:=qi6 hs h;simp only [hcb] at hgw;have hb':Base E Z0 RO NT Z { s with pc:=pc }:=⟨hb.ro,hb.nt,hb.nv,hb.ag⟩;split at hk'
      ·rename_i hbw
       exact qs5 ho (by rw [hgw]; simpa using hbw) (hgo _ hs' hb' hk hk')
      ·rename_i hbw
       refine qyB ho (by rw [hgw]; simpa using hbw) ?_;split at hk'
       ·rename_i s2 hput
        obtain ⟨hp,e1,e2,e3,e4⟩:=Holds.put hs' hput;have hu:SV.den Z (.tup []) = undef:=by simp [SV.den,undef]
        rw [hu] at hp;exact ih (.ops ops l :: K) s2 Z _ w _ (.ops (by rw [e1]; exact hk)) hp ⟨e2.trans hb.ro,e3.trans hb.nt,by rw [e1]; exact hb.nv,hb.ag⟩ hk'
       ·exact hk'.elim
  | @any _ K q ZS n0 ops listed left st hst hn0 hagS hk =>
   refine qhl ?_;simp only [qa3] at h;split at h
   ·rename_i hr
    refine qrR hr ?_ _;exact NoPanic.normal (ih K s Z a w q hk hs hb h)
   ·rename_i j R hr
    split at h
    ·exact h.elim
    ·rename_i left
     ·skip
      have hSof:∀ {Z':Env} {s':S} {a':Act} {w':World},Holds Z' hF s' a' w'->qde st s'.heap = true->(∀ m,m < n0->Z' m = ZS m)->qt ZS hF st w':=by
       intro Z' s' a' w' hs' hsub hag;obtain ⟨hO,hd,hst',hsub',hwi'⟩:=hs'.hp;exact ⟨hO,hd,qaS hag _ hst _ (qg9 hsub hst'),hsub',hwi'⟩
      have hQ:∀ (o:Oper) (v:Value) c a w,NoPanic q (.panic c) (a.put o.dst v) w->NoPanic q (.panic c) a w:=fun _ _ _ _ _ h=>h.elim
      split at h
      ·-- a guard decided first
       rename_i c _;obtain ⟨b,pc,_,hs',hk'⟩:=qi6 hs h;exact ih (.any ops listed (left + 1) st :: K) { s with pc:=pc } Z a w _ (.any ZS n0 _ _ _ _ hst hn0 hagS hk) hs' ⟨hb.ro,hb.nt,hb.nv,hb.ag⟩ hk'
      ·-- one taken first
       rename_i i _;split at h
       ·exact h.elim
       ·rename_i hfree
        simp only [jay,jbp,jad] at hfree;obtain ⟨⟨⟨⟨hsubH,hnosel⟩,hiA⟩,hfr⟩,hcon⟩:=hfree;have hiA:i ∈ qf6 E.me.ip ops:=by simpa using hiA
        have hSw:=hSof hs hsubH hagS;split at h
        ·exact h.elim
        ·rename_i o ho
         split at h
         ·rename_i hg
          have hw:=qeC hs hg;split at h
          ·rename_i s2 hput
           obtain ⟨hp,e1,e2,e3,e4⟩:=Holds.put hs hput;have hu:SV.den Z (.tup []) = undef:=by simp [SV.den,undef]
           rw [hu] at hp;refine qkA ho hiA hnosel hfr (by rw [hr]; exact hcon) (hQ o undef) (.inr ⟨hw,rfl⟩) hSw ?_;exact ih (.any ops (listed.setIfInBounds i true) left st :: K) s2 Z _ w _ (.any ZS n0 _ _ _ _ hst (by rw [e1]; exact hn0) hagS (by rw [e1]; exact hk)) hp ⟨e2.trans hb.ro,e3.trans hb.nt,by rw [e1]; exact hb.nv,hb.ag⟩ h
          ·exact h.elim
         ·rename_i hg
          have hw:=qeC hs hg;obtain ⟨pc0,hs0,h⟩:=qvp hs h
          replace hs:=hs0
          split at h
          ·rename_i r hq
           obtain ⟨hc,pc,hs',hnd⟩:=qbS hs h;clear h;split at hnd
           ·rename_i s2 hput
            unfold qqu at hq;split at hq
            ·rename_i r' hstep
             split at hq
             ·rename_i hrr
              simp only [jaa] at hq; subst hq;simp only [jad] at hrr;have hf0:=Nat.eq_of_beq_eq_true hrr.1;obtain ⟨v,hv⟩:=Option.isSome_iff_exists.1 hrr.2;have hy:YieldsIf E.P ops (fun w'=>qt ZS hF st w') o (v.den Z) a:=by
               refine .inl ⟨hw,fun w' hSw'=>?_⟩;obtain ⟨hO,hd,hstS,hsubS,hwiS⟩:=hSw';have hsR:Holds Z hF { s with heap:=st,pc:=pc0 } a w':=⟨hs.gd,hs.nt,hs.df,hs.env,hs.ro,⟨hO,hd,qaS (fun m hm=>(hagS m hm).symm) _ hst _ hstS,hsubS,hwiS⟩,hs.pc,hs.vw⟩;obtain ⟨us,w2,hul,_,_,hran,hsame⟩:=qh1 hsR hstep hc (.inl hf0);have hw2:=hsame hf0 hrr.2;subst hw2;rw [hf0] at hul;have:us = []:=jc2.1 hul;subst this;simpa only [Ran,hv,qr] using hran
              rw [hv] at hput;obtain ⟨hp,e1,e2,e3,e4⟩:=Holds.put hs' hput;refine qkA ho hiA hnosel hfr (by rw [hr]; exact hcon) (hQ o _) hy hSw ?_;exact ih (.any ops (listed.setIfInBounds i true) left st :: K) s2 Z _ w _ (.any ZS n0 _ _ _ _ hst (by rw [e1]; exact hn0) hagS (by rw [e1]; exact hk)) hp ⟨e2.trans hb.ro,e3.trans hb.nt,by rw [e1]; exact hb.nv,hb.ag⟩ hnd
             ·simp at hq
            ·simp at hq
           ·exact hnd.elim
          ·exact h.elim
         ·exact h.elim
      ·-- whichever comes
       refine qtT hr (by simp) fun i hi=>?_
       have h:=qlf hi h;unfold wpOp;split at h
       ·exact h.elim
       ·rename_i o ho
        simp only [ho];split at h
        ·rename_i hg
         rw [jag (qeC hs hg)];refine .inl (qme hctr hs hb hk (fun Z' s' a' w' hag' hnx' hk' hs' hb' h'=>?_) h);split at h'
         ·exact h'.elim
         ·rename_i hsub2
          simp only [jay,jbp,jcc] at hsub2;have hag2:∀ m,m < n0->Z' m = ZS m:=fun m hm=>(hag' m (by omega)).trans (hagS m hm)
          exact ⟨hsub2.imp id (fun hsub2=>hSof hs' hsub2 hag2),ih (.any ops (listed.setIfInBounds i true) left st :: K) s' Z' a' w' _ (.any ZS n0 _ _ _ _ hst (by omega) hag2 hk') hs' hb' h'⟩
        ·rename_i hg
         rw [jaf (by rw [qeC hs hg]; simp)];split at h
         ·exact h.elim
         rename_i hsub2;simp only [jay,jbp,jcc] at hsub2;split at h
         ·rename_i s2 hput
          obtain ⟨hp,e1,e2,e3,e4⟩:=Holds.put hs hput;have hu:SV.den Z (.tup []) = undef:=by simp [SV.den,undef]
          rw [hu] at hp;exact ⟨hsub2.imp id (fun hsub2=>hSof hs hsub2 hagS),ih (.any ops (listed.setIfInBounds i true) left st :: K) s2 Z _ w _ (.any ZS n0 _ _ _ _ hst (by rw [e1]; exact hn0) hagS (by rw [e1]; exact hk)) hp ⟨e2.trans hb.ro,e3.trans hb.nt,by rw [e1]; exact hb.nv,hb.ag⟩ h⟩
         ·exact h.elim
        ·exact h.elim
  | @code _ c K q hk =>
   refine qhl ?_;cases c with
   | skip=>simp only [qa3] at h; exact wp_skip (ih K s Z a w q hk hs hb h)
   | label l=>simp only [qa3] at h; exact wp_label (ih K s Z a w q hk hs hb h)
   | seq x y =>
    simp only [qa3] at h;split at h
    ·rename_i li I hfi
     have hfi':E.invs[li]? = some I:=by
      obtain ⟨key,_,h2⟩:=jaj.1 hfi;simpa using (qfI h2).2
     obtain ⟨hA,h⟩:=h;simp only [qxE] at h;split at h
     ·exact h.elim
     ·rename_i hchk
      simp only [jay,jbp,jad] at hchk;obtain ⟨hsc,hfit⟩:=hchk;split at h
      ·rename_i env heap he hh
       obtain ⟨sc1,sc2,sc3,sc4⟩:=qbk hsc;have hro:RO.all (SH.inB s.nx) = true:=by rw [<- hb.ro]; exact sc3
       refine wp_seq ?_;have hw:=ih (.code x :: .cutE li s.nx :: .code y :: K) s Z a w _ (.code (.cutE (env:=env) (heap:=heap) (pc:=s.pc) hfi' (jbj _) (fun m _=>rfl) he hh hfit hro sc4 hs.pc (.code hk))) hs hb hA;refine wp_mono hw fun e a1 w1 hq=>?_
       cases e with
       | normal =>
        obtain ⟨m,Z3,g1,g2,g3,rfl⟩:=hq
        let us:List U:=(List.range I.nv).map fun j=>Z3 (s.nx + j)
        have hul:us.length = I.nv:=by simp [us]
        have hug:∀ u ∈ us,u.good:=fun u hu=>by
         obtain ⟨j,_,rfl⟩:=jbr.1 hu;exact g2.gd _
        rw [<- hul] at h;obtain ⟨_,h⟩:=qdO hug h;have hag3:∀ m,m < s.nx + I.nv->qr Z s.nx us m = Z3 m:=fun m hm=>by
         by_cases hlt:m < s.nx
         ·rw [qaU us Z s.nx m hlt,g1 m hlt]
         ·have:=qir us Z s.nx (m - s.nx) (Z3 m) (by simp only [us,jau]; rw [jdr (by omega)]; simp; congr 1; omega)
          rwa [show s.nx + (m - s.nx) = m from by omega] at this
        split at h
        ·exact h.elim
        ·rename_i hsc2
         simp only [jay,jbp] at hsc2;have hstate:({ env:=env,heap:=heap,ro:=s.ro,pc:=s.pc,nx:=s.nx + us.length,nt:=s.nt,vw:=[] }:S) = qdZ RO NT s.pc s.nx I.nv env heap:=by
          rw [qdZ,hul,hb.ro,hb.nt]
         simp only [Out.den,hfi'] at h;rw [hstate] at h hsc2;have hH:=g2.congr hsc2 (qgP us Z s.nx hs.gd hug) (fun m hm=>(hag3 m hm).symm);have hrel:qdL s.nx I.nv (qr Z s.nx us) = qdL s.nx I.nv Z3:=qix hag3;have hk3:KSem E hF QF RO NT (qr Z s.nx us) (s.nx + I.nv) K q:=hk.mono (by omega) (fun m hm=>qaU us Z s.nx m hm);exact ih (.code y :: K) (qdZ RO NT s.pc s.nx I.nv env heap) (qr Z s.nx us) a1 w1 _ (.code hk3) hH
          ⟨rfl,rfl,by have:=hb.nv; simp only [qdZ]; omega,fun m hm=>by rw [qaU us Z s.nx m (by have:=hb.nv; omega)]; exact hb.ag m hm⟩ (h (by rw [hrel]; exact g3))
       | exit id=>exact hq
       | goto l=>exact hq
       | ret=>exact hq
       | panic ch=>exact hq
       | outgrown=>exact hq
      ·exact h.elim
    ·exact wp_seq (ih (.code x :: .code y :: K) s Z a w _ (.code (.code hk)) hs hb h)
   | block id b =>
    simp only [qa3] at h;exact wp_block (ih (.code b :: .blk id :: K) s Z a w _ (.code (.blk hk)) hs hb h)
   | exit id =>
    simp only [qa3] at h;split at h
    ·rename_i K' hp
     obtain ⟨q',h1,h2⟩:=hk.pop hp;exact wp_exit (h2 a w (ih K' s Z a w q' h1 hs hb h))
    ·exact h.elim
   | ret =>
    simp only [qa3] at h;refine wp_ret (hk.ret ?_);cases n with
    | zero=>exact h.elim
    | succ m =>
     simp only [qa3] at h;split at h
     ·rename_i v hv
      exact (hret Z s a w v hs hv (qee hs hb _ 0 (fun j=>by rw [jbb]) h)).2
     ·exact h.elim
   | cond c x y =>
    simp only [qa3] at h;split at h
    ·rename_i t ht
     have hev:=hs.opd ht;simp only [SV.den,T.den,O1.den] at hev;obtain ⟨b,pc,hcb,hs',hk'⟩:=qi6 hs h;rw [hcb] at hev;refine wp_cond hev ?_;exact ih (.code (if b then x else y) :: K) { s with pc:=pc } Z a w _ (.code hk) hs' ⟨hb.ro,hb.nt,hb.nv,hb.ag⟩ hk'
    ·exact h.elim
   | region id ops draw =>
    cases draw with
    | true =>
     simp only [qa3] at h;split at h
     ·rename_i hc
      simp only [jad] at hc;have hst:(qhQ E s ops).all (SH.inB s.nx) = true∨True:=.inr trivial;refine wp_region_noPanic (qsr (A:=qf6 E.me.ip ops) (S:=fun w'=>qt Z hF (qhQ E s ops) w') hc.1.1 ?_);have hs2:Holds Z hF s a { w with drawn:=w.drawn + 1 }:=⟨hs.gd,hs.nt,hs.df,hs.env,hs.ro,hs.hp,hs.pc,hs.vw⟩;split at h
      ·rename_i hin
       exact ih (.any ops (Array.replicate ops.size false) ops.size (qhQ E s ops) :: K) s Z a _ _ (.any Z s.nx _ _ _ _ hin (jbj _) (fun _ _=>rfl) hk) hs2 hb h
      ·exact h.elim
     ·exact h.elim
    | false =>
     simp only [qa3] at h;exact wp_region (ih (.ops ops (List.range ops.size) :: K) s Z a w _ (.ops hk) hs hb h)
   | loop b =>
    simp only [qa3] at h;split at h
    ·refine qrN (qjZ ?_)
     exact ih (.code b :: .again b :: K) s Z a w _ (.code (.again hk)) hs hb h
    ·rename_i li I hfi
     have hfi':E.invs[li]? = some I:=by
      obtain ⟨key,_,h2⟩:=jaj.1 hfi;exact qqo h2
     split at h
     ·exact h.elim
     ·obtain ⟨Z1,s1,a1,a2,a3,a4,a5,h⟩:=qdd hs h
      have hb1:Base E Z0 RO NT Z1 s1:=hb.anew a1 a2 a4 a5;have hk1:=hk.mono a2 a1;simp only [qxK] at h;split at h
      ·exact h.elim
      ·rename_i rest Y hm
       split at h
       ·exact h.elim
       ·rename_i cs hl
        obtain ⟨hc,pc,hs',h⟩:=qbS a3 h;split at h
        ·exact h.elim
        ·rename_i hchk
         simp only [jay,jbp,jad] at hchk;obtain ⟨hsc,hfit⟩:=hchk;simp only [Out.den,hfi'] at h;obtain ⟨hinv,h⟩:=h;split at h
         ·rename_i env heap he hh
          obtain ⟨sc1,sc2,sc3,sc4⟩:=qbk hsc;have hb':Base E Z0 RO NT Z1 { s1 with pc:=pc }:=⟨hb1.ro,hb1.nt,hb1.nv,hb1.ag⟩;have hro:RO.all (SH.inB s1.nx) = true:=by rw [<- hb1.ro]; exact sc3
          obtain ⟨Z2,h1,h2,h3⟩:=qfH (Zh:=Z1) hs' (fun m _=>rfl) hm hl hc he hh hfit sc3 sc4 hs'.pc;have h2':Holds Z2 hF (qdZ RO NT pc s1.nx I.nv env heap) a w:=by rw [<- hb1.ro,<- hb1.nt]; exact h2
          refine qpu (fun m a w=>qpI E hF RO NT pc s1.nx I env heap Z1 m a w) ?_ (I.mu (qdL s1.nx I.nv Z2)) a w ⟨Z2,h1,h2',by rw [h3]; exact hinv,rfl⟩
          rintro m a1 w1 ⟨Z3,g1,g2,g3,rfl⟩
          let us:List U:=(List.range I.nv).map fun j=>Z3 (s1.nx + j)
          have hul:us.length = I.nv:=by simp [us]
          have hug:∀ u ∈ us,u.good:=fun u hu=>by
           obtain ⟨j,_,rfl⟩:=jbr.1 hu;exact g2.gd _
          rw [<- hul] at h;obtain ⟨_,h⟩:=qdO hug h;have hag3:∀ m,m < s1.nx + I.nv->qr Z1 s1.nx us m = Z3 m:=fun m hm=>by
           by_cases hlt:m < s1.nx
           ·rw [qaU us Z1 s1.nx m hlt,g1 m hlt]
           ·have:=qir us Z1 s1.nx (m - s1.nx) (Z3 m) (by simp only [us,jau]; rw [jdr (by omega)]; simp; congr 1; omega)
            rwa [show s1.nx + (m - s1.nx) = m from by omega] at this
          split at h
          ·exact h.elim
          ·rename_i hsc2
           simp only [jay,jbp] at hsc2;have hstate:({ env:=env,heap:=heap,ro:=s1.ro,pc:=pc,nx:=s1.nx + us.length,nt:=s1.nt,vw:=[] }:S) = qdZ RO NT pc s1.nx I.nv env heap:=by
            rw [qdZ,hul,hb1.ro,hb1.nt]
           simp only [Out.den,hfi'] at h;rw [hstate] at h hsc2;have hH:=g2.congr hsc2 (qgP us Z1 s1.nx a3.gd hug) (fun m hm=>(hag3 m hm).symm);have hrel:qdL s1.nx I.nv (qr Z1 s1.nx us) = qdL s1.nx I.nv Z3:=qix hag3;have hk3:KSem E hF QF RO NT (qr Z1 s1.nx us) (s1.nx + I.nv) K q:=hk1.mono (by omega) (fun m hm=>qaU us Z1 s1.nx m hm);rw [jeb] at h;have:=ih (.code b :: .lend li s1.nx :: K) (qdZ RO NT pc s1.nx I.nv env heap) (qr Z1 s1.nx us) a1 w1 _
            (.code (.lend hfi' (jbj _) (fun m hm=>rfl) he hh hfit hro sc4 hH.pc hk3)) hH
            ⟨rfl,rfl,by have:=hb1.nv; simp only [qdZ]; omega,fun m hm=>by rw [qaU us Z1 s1.nx m (by have:=hb1.nv; omega)]; exact hb1.ag m hm⟩ (h (by rw [hrel]; exact g3))
           refine wp_mono this fun e a2 w2 hq=>?_
           cases e with
           | normal =>
            obtain ⟨m',hm',Z4,k1,k2,k3,k4⟩:=hq;rw [hrel] at hm';exact ⟨m',hm',Z4,fun n hn=>(k1 n hn).trans (qaU us Z1 s1.nx n hn),k2,k3,k4⟩
           | exit id=>exact hq
           | goto l=>exact hq
           | ret=>exact hq
           | panic ch=>exact hq
           | outgrown=>exact hq
         ·exact h.elim
   | rangeFunc f p x y=>exact h.elim
   | scope b=>exact h.elim
   | goto l=>exact h.elim
   | refuse y=>exact h.elim
end Go.Eng
namespace Go.Eng
open Go
def qjG:Nat->List SV->List (Nat × SV)
 | _,[]=>[]
 | i,v :: r=>(i,v) :: qjG (i + 1) r
def qns (c:Ctr) (nt:Nat):S:={ env:=qjG 0 c.args,heap:=c.heap,ro:=c.ro,pc:=[],nx:=c.nv,nt }
theorem qjz:∀ (l:List SV) (i t:Nat) (v:SV),qbg t (qjG i l) = some v->i <= t/\l[t - i]? = some v
 | [],i,t,v,h=>by simp [qjG,qbg] at h
 | x :: r,i,t,v,h=>by
  simp only [qjG,qbg] at h;split at h
  ·rename_i ht
   have ht:=Nat.eq_of_beq_eq_true ht;simp only [jaa] at h;subst ht; subst h;simp
  ·obtain ⟨h1,h2⟩:=qjz r (i + 1) t v h
   refine ⟨by omega,?_⟩;rw [show t - i = (t - (i + 1)) + 1 from by omega,ja1]; exact h2
def qW (E:Ctx) (fuel:Nat) (fn:Func):Out :=
 match fn.body with
 | some c=>qa3 E fn fuel [.code c] (qns E.me fn.ntmps)
 | none=>.stuck 99 0 0
theorem qo {P:Program} {c:Ctr} {ctrs:List Ctr} {invs:List Inv} {fn:Func} (hf:P.funcs[c.fn]? = some fn)
  (hcall:∀ (args:Array Value) (w:World),(callFunc c.fn args).run P w = .ok (.enter c.fn args) w) (hctr:∀ c ∈ ctrs,c.ok P) (fuel:Nat)
  (h:∀ Z:Env,Z.good->c.pre Z->(qW ⟨P,c,ctrs,invs⟩ fuel fn).den ⟨P,c,ctrs,invs⟩ Z):c.ok P:=by
 refine ⟨hcall,fun Z w hF hO hg hd hsub hst hro hpre=>?_⟩;have h:=h Z hg hpre;unfold qW at h;split at h
 ·rename_i code hb
  refine calls_of_wp hf hb ?_;have hs:Holds Z hF (qns c fn.ntmps) { tmps:=(c.args.map (SV.den Z)).toArray ++ Array.replicate (fn.ntmps - (c.args.map (SV.den Z)).toArray.size) undef,defers:=[] } w:=by
   refine ⟨hg,?_,rfl,fun t v hv=>?_,hro,⟨hO,hd,hst,hsub.1,hsub.2⟩,fun c b hc=>(by cases hc),fun x hx=>(by cases hx)⟩
   ·simp only [qns,jdy,Array.size_replicate]; omega
   ·obtain ⟨_,h2⟩:=qjz c.args 0 t v hv
    simp only [jej] at h2;have hlt:t < c.args.length:=by
     rcases jbt t c.args.length with h | h
     ·exact h
     ·rw [jap h] at h2; cases h2
    rw [jbm,jda (by simpa using hlt)];simp [h2]
  have:=qtz (E:=⟨P,c,ctrs,invs⟩) (hF:=hF) (RO:=c.ro) (NT:=fn.ntmps) (Z0:=Z) (fn:=fn)
   (QF:=bodyPost P fn fun e w'=>∃ (ai:Nat) (al:Alt) (Z':Env),c.alts[ai]? = some al/\Z'.good/\(∀ n,n < c.nv->Z' n = Z n)/\e = .returned (al.ret.den Z')/\al.post (Z'.upto (c.nv + al.k))/\qt Z' hF al.heap w')
   hctr (fun Z' s a w v hs hv hr=>⟨⟨hs.df,_,qhS hs hv,hr⟩,⟨hs.df,_,qhS hs hv,hr⟩⟩)
   fuel [.code code] (qns c fn.ntmps) Z _ w _ (.code .nil) hs ⟨rfl,rfl,jbj _,fun _ _=>rfl⟩ h
  refine wp_mono this fun e a w hq=>?_
  cases e <;> exact hq
 ·exact h.elim
theorem qsa {p:Prop}:(∀ u:U,u.good->p)↔p:=⟨fun h=>h {} (by simp [U.good,Value.oneCell']),fun h _ _=>h⟩
@[simp] theorem qz9 (x y:Int):(qS .lss x y = true)↔(x < y):=by simp [qS]
@[simp] theorem qzC (x y:Int):(qS .lss x y = false)↔(y <= x):=by simp [qS]
@[simp] theorem qzD (x y:Int):(qS .leq x y = true)↔(x <= y):=by simp [qS]
@[simp] theorem qzB (x y:Int):(qS .leq x y = false)↔(y < x):=by simp [qS]
@[simp] theorem qz4 (x y:Int):(qS .gtr x y = true)↔(y < x):=by simp [qS]
@[simp] theorem qz3 (x y:Int):(qS .gtr x y = false)↔(x <= y):=by simp [qS]
@[simp] theorem qzA (x y:Int):(qS .geq x y = true)↔(y <= x):=by simp [qS]
@[simp] theorem qz7 (x y:Int):(qS .geq x y = false)↔(x < y):=by simp [qS]
@[simp] theorem qz5 (x y:Int):(qS .eql x y = true)↔(x = y):=by simp [qS]
@[simp] theorem qz8 (x y:Int):(qS .eql x y = false)↔(¬ x = y):=by simp [qS]
@[simp] theorem qz2 (x y:Int):(qS .neq x y = true)↔(¬ x = y):=by simp [qS]
@[simp] theorem qz6 (x y:Int):(qS .neq x y = false)↔(x = y):=by simp [qS]
attribute [simp] qsa MK.sem qbF qr Out.den T.den O0.den O1.den O2.den O3.den SV.den Sg.env Eng.look Bd.den Env.set Env.upto quc cutE qdL
abbrev qY (P:Program) (c:Ctr) (ds:List Ctr) (is:List Inv) (o:Out):Prop:=(∀ x ∈ ds,x.ok P)->(∀ Z:Env,Z.good->c.pre Z->o.den ⟨P,c,ds,is⟩ Z)->c.ok P
theorem qA {P:Program} {fn:Func} {c:Ctr} {ds:List Ctr} {is:List Inv} {o:Out} (hf:P.funcs[c.fn]? = some fn) (hcall:∀ (args:Array Value) (w:World),(callFunc c.fn args).run P w = .ok (.enter c.fn args) w) (ho:qW ⟨P,c,ds,is⟩ 100000 fn = o):qY P c ds is o:=fun hd h =>
 qo hf hcall hd 100000 fun Z a b=>by rw [ho]; exact h Z a b
def mem (a b:Nat):SV:=.agg [.vint .u64 (.var a),.vint .u8 (.var b)]
def qdV (i1 s1 i2 s2:Int):Bool:=decide (i1 > i2) || (i1 == i2 && decide (s1 > s2))
def qak:Ctr:={ fn:=17,nv:=4,args:=[mem 0 1,mem 2 3],heap:=[],ro:=[],pre:=fun _=>True,alts:=[{ k:=1,ret:=.one (.vbool (.var 4)),heap:=[],post:=fun Z=>(Z 4).b = qdV (Z 0).i (Z 1).i (Z 2).i (Z 3).i }] }
def qaC:Ctr:={ fn:=18,nv:=4,args:=[mem 0 1,mem 2 3],heap:=[],ro:=[],pre:=fun _=>True,alts:=[{ k:=2,ret:=mem 4 5,heap:=[],post:=fun Z=>if qdV (Z 2).i (Z 3).i (Z 0).i (Z 1).i then (Z 4).i = (Z 2).i/\(Z 5).i = (Z 3).i else (Z 4).i = (Z 0).i/\(Z 5).i = (Z 1).i }] }
def qan:List CK:=[.int .u64,.int .u8]
def qdz:List CK:=[.int .u64,.int .i64,.int .u64,.bool]
def qcD (self:T) (table since:T) (clock seq pinged:T) (probes:T) (chal left:T):List T :=
 [.vint .i64 self,table,since,.vint .u64 clock,.vint .u64 seq,.vint .i64 pinged,probes,.vint .u64 chal,.vbool left]
def ptr (r:Nat):SV:=.one (.vptr r (.lit 0) 0 0)
def iv (k:IntKind) (t:T):SV:=.one (.vint k t)
def qeD (self peers inc:Int):Bool:=decide (peers < 2) || decide (peers > 16) || decide (self < 0) || decide (self ≥ peers) || inc == 0
def qbc:Ctr:={ fn:=22,nv:=3,args:=[iv .i64 (.var 0),iv .i64 (.var 1),iv .u64 (.var 2)],heap:=[],ro:=[],pre:=fun _=>True,alts:=[
 { k:=0,ret:=.tup [(false,[.vnilp]),(false,[.vint .i64 (.lit 2)])],heap:=[],post:=fun Z=>qeD (Z 0).i (Z 1).i (Z 2).i = true },
 { k:=3,ret:=.tup [(false,[.vptr 3 (.lit 0) 0 0]),(false,[.vint .i64 (.lit 0)])],heap:=[.cells 3 117 (qcD (.var 0) (.vslice 4 (.lit 0) (.var 1) (.var 1) 2) (.vslice 5 (.lit 0) (.var 1) (.var 1) 1) (.lit 0) (.lit 0) (.var 0) .vnils (.lit 0) (.bl false)),.arr 4 25 qan (.dput (.drep (.var 1) (T.row [.vint .u64 (.lit 0),.vint .u8 (.lit 0)])) (.var 0) 0 (T.row [.vint .u64 (.var 2),.vint .u8 (.lit 1)])) (.var 1),.arr 5 22 [.int .u64] (.drep (.var 1) (T.row [.vint .u64 (.lit 0)])) (.var 1)],post:=fun Z=>qeD (Z 0).i (Z 1).i (Z 2).i = false }] }
def qau:Ctr:={ fn:=64,nv:=10,args:=[ptr 0],heap:=[],ro:=[.cells 0 117 (qcD (.var 1) (.var 2) (.var 3) (.var 4) (.var 5) (.var 6) (.var 7) (.var 8) (.var 9))],pre:=fun _=>True,alts:=[{ k:=1,ret:=iv .i64 (.var 10),heap:=[],post:=fun Z=>(Z 10).i = if (Z 9).b then 30 else 0 }] }
def qw:Ctr:={ fn:=50,nv:=10,args:=[ptr 0],heap:=[],ro:=[.cells 0 117 (qcD (.var 1) (.var 2) (.var 3) (.var 4) (.var 5) (.var 6) (.var 7) (.var 8) (.var 9))],pre:=fun _=>True,alts:=[{ k:=1,ret:=iv .u64 (.var 10),heap:=[],post:=fun Z=>(Z 10).i = (Z 8).i }] }
def qax:Ctr:={ fn:=45,nv:=10,args:=[ptr 0],heap:=[],ro:=[.cells 0 117 (qcD (.var 1) (.var 2) (.var 3) (.var 4) (.var 5) (.var 6) (.var 7) (.var 8) (.var 9))],pre:=fun _=>True,alts:=[{ k:=1,ret:=iv .u64 (.var 10),heap:=[],post:=fun Z=>(Z 10).i = (Z 4).i }] }
def qap:Ctr:={ fn:=24,nv:=1,args:=[iv .i64 (.var 0)],heap:=[],ro:=[],pre:=fun _=>True,alts:=[{ k:=1,ret:=iv .i64 (.var 1),heap:=[],post:=fun Z=>(Z 1).i = 10 + 3 * min (max (Z 0).i 0) 16 }] }
def qK:Ctr:={ qap with fn:=25 }
def qF:Ctr:={ qap with fn:=26,alts:=[{ k:=1,ret:=iv .i64 (.var 1),heap:=[],post:=fun Z=>(Z 1).i = 30 + 6 * min (max (Z 0).i 0) 16 }] }
def qx:Ctr:={ qF with fn:=27 }
def qP:Ctr:={ fn:=63,nv:=4,args:=[.one (.vslice 0 (.lit 0) (.var 1) (.var 2) 2)],heap:=[],ro:=[.arr 0 25 qan (.var 3) (.var 2)],pre:=fun Z=>(Z 1).i = (Z 3).d.length/\0 < (Z 1).i/\(Z 1).i <= 1000000,alts:=[{ k:=3,ret:=.one (.vslice 4 (.lit 0) (.var 1) (.var 5) 2),heap:=[.arr 4 25 qan (.var 6) (.var 5)],post:=fun Z=>(Z 6).d = (Z 3).d }] }
def il (k:IntKind) (z:Int):T:=.vint k (.lit z)
def sl (r:Nat) (n cap:T) (p:Nat):T:=.vslice r (.lit 0) n cap p
def qlJ (i s:Int):SV:=.agg [il .u64 i,il .u8 s]
def qqK (i s:Int):T:=T.row [il .u64 i,il .u8 s]
def T0:T:=.dput (.drep (.lit 3) (qqK 0 0)) (.lit 0) 0 (qqK 5 1)
def qaQ:List CK:=[.int .u8,.int .i64,.int .i64,.int .u64,.int .i64,.int .i64,.any,.any,.any,.int .i64] ++ List.replicate 32 (.int .u8) ++ [.any,.bool] ++ List.replicate 32 (.int .u8) ++ List.replicate 4 (.int .i64) ++ List.replicate 32 (.int .u8) ++ [.any,.int .i64,.any,.int .i64]
def qyA:List T:=[.vnils,.vnils,il .i64 0] ++ List.replicate 32 (il .u8 0) ++ [.vnils,.vbool (.bl false)] ++ List.replicate 32 (il .u8 0) ++ List.replicate 4 (il .i64 0) ++ List.replicate 32 (il .u8 0) ++ [.vnils,il .i64 0,.vnils,il .i64 0]
def ql1 (kind from_ to seq origin target:T) (table:T):List T:=[.vint .u8 kind,.vint .i64 from_,.vint .i64 to,.vint .u64 seq,.vint .i64 origin,.vint .i64 target,table] ++ qyA
def qsN (self:T) (table:T):List T:=qcD self table (.var 20) (.var 21) (.var 22) (.var 23) (.var 24) (.var 25) (.var 26)
def qab:Ctr:={ fn:=68,nv:=27,args:=[ptr 0,.one (.vslice 10 (.lit 0) (.lit 1) (.var 11) 116)],heap:=[.arr 10 43 qaQ (.var 15) (.var 11)],ro:=[.cells 0 117 (qsN (.var 1) (sl 2 (.var 3) (.var 4) 2)),.arr 2 25 qan (.var 5) (.var 4)],pre:=fun Z=>(Z 3).i = (Z 5).d.length/\0 < (Z 3).i/\(Z 3).i <= 1000000/\(Z 15).d.length = 1,alts:=[{ k:=3,ret:=.one (.vslice 10 (.lit 0) (.lit 1) (.var 11) 116),heap:=[.arr 10 43 qaQ (.dput (.dput (.var 15) (.lit 0) 1 (T.row [.vint .i64 (.var 1)])) (.lit 0) 6 (T.row [sl 27 (.var 3) (.var 28) 2])) (.var 11),.arr 27 25 qan (.var 29) (.var 28)],post:=fun Z=>(Z 29).d = (Z 5).d }] }
def qgZ (b n:Nat):List T:=(List.range n).map fun i=>.var (b + i)
def qaa:Ctr:={ fn:=68,nv:=150,args:=[ptr 0,.one (.vslice 10 (.lit 0) (.lit 1) (.lit 1) 116)],heap:=[.cells 10 43 (qgZ 30 116)],ro:=[.cells 0 117 (qsN (.var 1) (sl 2 (.var 3) (.var 4) 2)),.arr 2 25 qan (.var 5) (.var 4)],pre:=fun Z=>(Z 3).i = (Z 5).d.length/\0 < (Z 3).i/\(Z 3).i <= 1000000,alts:=[{ k:=3,ret:=.one (.vslice 10 (.lit 0) (.lit 1) (.lit 1) 116),heap:=[.cells 10 43 ([.var 30,.vint .i64 (.var 1)] ++ qgZ 32 4 ++ [sl 150 (.var 3) (.var 151) 2] ++ qgZ 37 109),.arr 150 25 qan (.var 152) (.var 151)],post:=fun Z=>(Z 152).d = (Z 5).d }] }
def qc3 (clock seq pinged:Int) (probes:T) (chal:Int):List T:=qcD (.lit 0) (sl 1 (.lit 3) (.lit 3) 2) (sl 2 (.lit 3) (.lit 3) 1) (.lit clock) (.lit seq) (.lit pinged) probes (.lit chal) (.bl false)
def S0:T:=.drep (.lit 3) (T.row [il .u64 0])
def qag:Ctr:={ fn:=67,nv:=3,args:=[ptr 0],heap:=[],ro:=[.cells 0 117 (qc3 1 0 0 .vnils 0)],pre:=fun _=>True,alts:=[{ k:=0,ret:=.one (il .i64 1),heap:=[],post:=fun _=>True }] }
def qal:Ctr:={ fn:=24,nv:=0,args:=[.one (il .i64 3)],heap:=[],ro:=[],pre:=fun _=>True,alts:=[{ k:=0,ret:=.one (il .i64 19),heap:=[],post:=fun _=>True }] }
def qJ:Ctr:={ qau with nv:=9,ro:=[.cells 0 117 (qcD (.var 1) (.var 2) (.var 3) (.var 4) (.var 5) (.var 6) (.var 7) (.var 8) (.bl false))],alts:=[{ k:=0,ret:=.one (il .i64 0),heap:=[],post:=fun _=>True }] }
def qai:Ctr:={ fn:=29,nv:=3,args:=[ptr 0,.one (il .u64 0)],heap:=[.cells 0 117 (qc3 0 0 0 .vnils 0),.arr 1 25 qan T0 (.lit 3),.arr 2 22 [.int .u64] S0 (.lit 3)],ro:=[],pre:=fun _=>True,alts:=[{ k:=7,ret:=.one (sl 3 (.lit 1) (.var 4) 116),heap:=[.cells 0 117 (qc3 1 1 1 (sl 8 (.lit 1) (.var 9) 4) 0),.arr 1 25 qan T0 (.lit 3),.arr 2 22 [.int .u64] S0 (.lit 3),.arr 8 63 qdz (T.row [il .u64 1,il .i64 1,il .u64 1,.vbool (.bl false)]) (.var 9),.arr 3 43 qaQ (.dput (.dput (T.row (ql1 (.lit 1) (.lit 0) (.lit 1) (.lit 1) (.lit 0) (.lit 0) .vnils)) (.lit 0) 1 (T.row [il .i64 0])) (.lit 0) 6 (T.row [sl 5 (.lit 3) (.var 6) 2])) (.var 4),.arr 5 25 qan (.var 7) (.var 6)],post:=fun _=>True }] }
def qE (a b c d:Int) (r:Bool):Ctr:={ fn:=17,nv:=0,args:=[qlJ a b,qlJ c d],heap:=[],ro:=[],pre:=fun _=>True,alts:=[{ k:=0,ret:=.one (.vbool (.bl r)),heap:=[],post:=fun _=>True }] }
def qaf (a b c d e f:Int):Ctr:={ fn:=18,nv:=0,args:=[qlJ a b,qlJ c d],heap:=[],ro:=[],pre:=fun _=>True,alts:=[{ k:=0,ret:=qlJ e f,heap:=[],post:=fun _=>True }] }
def T1:T:=.dput T0 (.lit 1) 0 (qqK 0 0)
def T2:T:=.dput T1 (.lit 2) 0 (qqK 1 1)
def qgT (chal:Int):SH:=.cells 0 117 (qcD (.lit 0) (sl 1 (.lit 3) (.lit 3) 2) (.var 3) (.lit 1) (.lit 1) (.lit 1) (.var 4) (.lit chal) (.bl false))
def qaM (i inc st:Int) (D:T):Ctr:={ fn:=65,nv:=5,args:=[ptr 0,.one (il .i64 i),qlJ inc st],heap:=[qgT 6,.arr 1 25 qan D (.lit 3)],ro:=[],pre:=fun _=>True,alts:=[{ k:=0,ret:=.tup [],heap:=[qgT 6,.arr 1 25 qan (.dput D (.lit i) 0 (qqK inc st)) (.lit 3)],post:=fun _=>True }] }
def qa9 (i:Int):Ctr:={ fn:=87,nv:=5,args:=[ptr 0,.one (il .i64 i)],heap:=[],ro:=[qgT 0],pre:=fun _=>True,alts:=[{ k:=0,ret:=.one (.vbool (.bl true)),heap:=[],post:=fun _=>True }] }
def qG (a b:Int):Ctr:={ fn:=61,nv:=0,args:=[qlJ a b],heap:=[],ro:=[],pre:=fun _=>True,alts:=[{ k:=0,ret:=.one (.vbool (.bl true)),heap:=[],post:=fun _=>True }] }
def qC (a b:Int):Ctr:={ qG a b with fn:=60,alts:=[{ k:=0,ret:=.one (.vbool (.bl false)),heap:=[],post:=fun _=>True }] }
def qae (a b:Int) (r:Bool):Ctr:={ qG a b with fn:=72,alts:=[{ k:=0,ret:=.one (.vbool (.bl r)),heap:=[],post:=fun _=>True }] }
def qxn:SH:=.cells 10 25 [il .u64 6,il .u8 2,il .u64 0,il .u8 0,il .u64 1,il .u8 1]
def qI:Ctr:={ fn:=84,nv:=11,args:=[.one (sl 10 (.lit 3) (.lit 3) 2),.fn (.func 60) [] []],heap:=[],ro:=[qxn],pre:=fun _=>True,alts:=[{ k:=0,ret:=.one (il .i64 (-1)),heap:=[],post:=fun _=>True }] }
def qm:Ctr:={ qI with fn:=59,alts:=[{ k:=0,ret:=.one (.vbool (.bl false)),heap:=[],post:=fun _=>True }] }
def qN:Ctr:={ qI with fn:=20,args:=[.one (sl 10 (.lit 3) (.lit 3) 2)],alts:=[{ k:=0,ret:=.one (.vbool (.bl true)),heap:=[],post:=fun _=>True }] }
def qzp:List T:=ql1 (.lit 1) (.lit 2) (.lit 0) (.lit 9) (.lit 2) (.lit 0) (sl 10 (.lit 3) (.lit 3) 2)
def qv:Ctr:={ fn:=81,nv:=11,args:=[ptr 0,.agg qzp],heap:=[],ro:=[qgT 0,qxn],pre:=fun _=>True,alts:=[{ k:=0,ret:=.one (.vbool (.bl true)),heap:=[],post:=fun _=>True }] }
def qu:Ctr:={ fn:=58,nv:=11,args:=[ptr 0,.agg qzp],heap:=[qgT 0,.arr 1 25 qan T0 (.lit 3)],ro:=[qxn],pre:=fun _=>True,alts:=[{ k:=4,ret:=.tup [(false,[sl 11 (.lit 1) (.lit 1) 116]),(false,[il .i64 0])],heap:=[qgT 6,.arr 1 25 qan T2 (.lit 3),.cells 11 43 (ql1 (.lit 2) (.lit 0) (.lit 2) (.lit 9) (.lit 2) (.lit 0) (sl 12 (.lit 3) (.var 13) 2)),.arr 12 25 qan (.var 14) (.var 13)],post:=fun _=>True }] }
def qh:Ctr:={ fn:=37,nv:=2,args:=[.one (sl 1 (.lit 3) (.lit 3) 2)],heap:=[],ro:=[.arr 1 25 qan T2 (.lit 3)],pre:=fun _=>True,alts:=[{ k:=3,ret:=.one (sl 2 (.lit 2) (.var 3) 1),heap:=[.arr 2 3 [.int .i64] (.var 4) (.var 3)],post:=fun _=>True }] }
def qaj:Ctr:={ fn:=30,nv:=5,args:=[ptr 0],heap:=[],ro:=[qgT 6,.arr 1 25 qan T2 (.lit 3)],pre:=fun _=>True,alts:=[{ k:=3,ret:=.one (sl 5 (.lit 2) (.var 6) 1),heap:=[.arr 5 3 [.int .i64] (.var 7) (.var 6)],post:=fun _=>True }] }
def qg:Ctr:={ fn:=50,nv:=5,args:=[ptr 0],heap:=[],ro:=[qgT 6],pre:=fun _=>True,alts:=[{ k:=0,ret:=.one (il .u64 6),heap:=[],post:=fun _=>True }] }
def qO:Ctr:={ qg with fn:=45,alts:=[{ k:=0,ret:=.one (il .u64 1),heap:=[],post:=fun _=>True }] }
def qa8:Ctr:={ fn:=22,nv:=0,args:=[.one (il .i64 0),.one (il .i64 3),.one (il .u64 5)],heap:=[],ro:=[],pre:=fun _=>True,alts:=[{ k:=3,ret:=.tup [(false,[.vptr 0 (.lit 0) 0 0]),(false,[il .i64 0])],heap:=[.cells 0 117 (qc3 0 0 0 .vnils 0),.arr 1 25 qan T0 (.lit 3),.arr 2 22 [.int .u64] S0 (.lit 3)],post:=fun _=>True }] }
def qR:Ctr:={ fn:=19,nv:=0,args:=[],heap:=[],ro:=[],pre:=fun _=>True,alts:=[{ k:=0,ret:=.one (.vbool (.bl true)),heap:=[],post:=fun _=>True }] }
def qzi (a b c d:T):T:=.or (.cmp .gtr a c) (.and (.cmp .eql a c) (.cmp .gtr b d))
def qg2:Ctr:={ qak with alts:=[{ k:=0,ret:=.one (.vbool (qzi (.var 0) (.var 1) (.var 2) (.var 3))),heap:=[],post:=fun _=>True }] }
def qlU:Ctr:={ qaC with alts:=[{ k:=0,ret:=mem 2 3,heap:=[],post:=fun Z=>qdV (Z 2).i (Z 3).i (Z 0).i (Z 1).i = true },{ k:=0,ret:=mem 0 1,heap:=[],post:=fun Z=>qdV (Z 2).i (Z 3).i (Z 0).i (Z 1).i = false }] }
def qcq:Ctr:={ fn:=5,nv:=1,args:=[iv .i64 (.var 0)],heap:=[],ro:=[],pre:=fun _=>True,alts:=[{ k:=0,ret:=.one (.vbool (.bl true)),heap:=[],post:=fun _=>True }] }
abbrev Ent:=Int × Int
def qbO (r:List Value) (c:Nat):Int:=qbK (r[c]?.getD .nilFunc)
def qb (d:List (List Value)):List Ent:=d.map fun r=>(qbO r 0,qbO r 1)
def qf (d:List (List Value)):List Int:=d.map fun r=>qbO r 0
def qf4 (e:Ent):Bool:=decide (e.2 <= 4) && ((e.1 == 0) == (e.2 == 0))
def qfM (l:List Ent):Bool:=l.all qf4
def okN (l:List Ent) (n:Nat):Bool:=(l.take n).all qf4
def qj0 (l:List Ent):Bool:=decide (1 <= l.length) && decide (l.length <= 16) && qfM l
def qbt (a b:Ent):Bool:=qdV a.1 a.2 b.1 b.2
def qb1 (a b:Ent):Ent:=if qbt b a then b else a
def qcb (s:Int):Bool:=s == 1 || s == 2
def qbj (l:List Ent) (n:Nat):List Int:=((List.range n).filter fun i=>qcb (l.getD i (0,0)).2).map Int.ofNat
def big:Int:=8796093021952
def qbC (l:List Ent):List Int:=qbj l l.length
def ql6 (r l c:Nat):SV:=.one (.vslice r (.lit 0) (.var l) (.var c) 2)
def tRo (r d k:Nat):SH:=.arr r 25 qan (.var d) (.var k)
def qjl (r l c:Nat):SV:=.one (.vslice r (.lit 0) (.var l) (.var c) 1)
def iRo (r d k:Nat):SH:=.arr r 3 [.int .i64] (.var d) (.var k)
def qi5 (n:Nat):SV:=.one (.vbool (.var n))
def qc1:Ctr:={ fn:=61,nv:=2,args:=[mem 0 1],heap:=[],ro:=[],pre:=fun _=>True,alts:=[{ k:=1,ret:=qi5 2,heap:=[],post:=fun Z=>(Z 2).b = qf4 ((Z 0).i,(Z 1).i) }] }
def qgJ:Ctr:={ qc1 with fn:=60,alts:=[{ k:=1,ret:=qi5 2,heap:=[],post:=fun Z=>(Z 2).b = !qf4 ((Z 0).i,(Z 1).i) }] }
def qhH:Ctr:={ qc1 with fn:=72,alts:=[{ k:=1,ret:=qi5 2,heap:=[],post:=fun Z=>(Z 2).b = qcb (Z 1).i }] }
def qcx:Ctr:={ fn:=84,nv:=5,args:=[ql6 0 1 2,.fn (.func 60) [] []],heap:=[],ro:=[tRo 0 3 4],pre:=fun Z=>(Z 1).i = (Z 3).d.length/\(Z 1).i <= big,alts:=[{ k:=1,ret:=iv .i64 (.var 5),heap:=[],post:=fun Z=>(0 <= (Z 5).i)↔qfM (qb (Z 3).d) = false }] }
def qrm:Inv:={ key:=2,nv:=1,env:=[(0,ql6 0 1 2),(1,.fn (.func 60) [] []),(7,iv .i64 (.var 1)),(8,iv .i64 (.var 1000))],heap:=[],inv:=(fun Z=>0 <= (Z 1000).i/\(Z 1000).i <= (Z 1).i/\okN (qb (Z 3).d) (Z 1000).i.toNat = true),mu:=(fun Z=>((Z 1).i - (Z 1000).i).toNat) }
def qcs:Ctr:={ qcx with fn:=59,alts:=[{ k:=1,ret:=qi5 5,heap:=[],post:=fun Z=>(Z 5).b = !qfM (qb (Z 3).d) }] }
def qgr:Ctr:={ qcx with fn:=20,args:=[ql6 0 1 2],alts:=[{ k:=1,ret:=qi5 5,heap:=[],post:=fun Z=>(Z 5).b = qj0 (qb (Z 3).d) }] }
def qjS:Ctr:={ fn:=21,nv:=5,args:=[ql6 0 1 2],heap:=[],ro:=[tRo 0 3 4],pre:=fun Z=>(Z 1).i = (Z 3).d.length/\(Z 1).i <= big,alts:=[{ k:=3,ret:=.one (.vslice 5 (.lit 0) (.var 1) (.var 6) 2),heap:=[.arr 5 25 qan (.var 7) (.var 6)],post:=fun Z=>(Z 7).d = (Z 3).d }] }
def qeo:Ctr:={ fn:=63,nv:=5,args:=[ql6 0 1 2],heap:=[],ro:=[tRo 0 3 4],pre:=fun Z=>(Z 1).i = (Z 3).d.length/\0 < (Z 1).i/\(Z 1).i <= big,alts:=[{ k:=3,ret:=.one (.vslice 5 (.lit 0) (.var 1) (.var 6) 2),heap:=[.arr 5 25 qan (.var 7) (.var 6)],post:=fun Z=>(Z 7).d = (Z 3).d }] }
def qdA:Ctr:={ fn:=37,nv:=5,args:=[ql6 0 1 2],heap:=[],ro:=[tRo 0 3 4],pre:=fun Z=>(Z 1).i = (Z 3).d.length/\(Z 1).i <= big,alts:=[{ k:=4,ret:=.one (.vslice 5 (.lit 0) (.var 8) (.var 6) 1),heap:=[.arr 5 3 [.int .i64] (.var 7) (.var 6)],post:=fun Z=>qf (Z 7).d = qbC (qb (Z 3).d)/\(Z 8).i = (Z 7).d.length/\(Z 8).i <= (Z 1).i }] }
def qsG:Inv:={ key:=3,nv:=5,env:=[(3,.one (.vslice 1001 (.lit 0) (.var 1004) (.var 1002) 1)),(6,ql6 0 1 2),(7,iv .i64 (.var 1)),(8,iv .i64 (.var 1000))],heap:=[.arr 1001 3 [.int .i64] (.var 1003) (.var 1002)],inv:=(fun Z=>0 <= (Z 1000).i/\(Z 1000).i <= (Z 1).i/\(Z 1004).i = (Z 1003).d.length/\(Z 1003).d.length <= (Z 1000).i/\qf (Z 1003).d = qbj (qb (Z 3).d) (Z 1000).i.toNat),mu:=(fun Z=>((Z 1).i - (Z 1000).i).toNat) }
def qq9 (r:List Value) (c:Nat):Bool:=qig (r[c]?.getD .nilFunc)
structure Prb where
 seq:Int
 target:Int
 sent:Int
 asked:Bool
def quP (r:List Value):Prb:=⟨qbO r 0,qbO r 1,qbO r 2,qq9 r 3⟩
def qM (d:List (List Value)):List Prb:=d.map quP
structure Msg where
 kind:Int
 src:Int
 dst:Int
 seq:Int
 origin:Int
 target:Int
def qzH:List Value:=[.slice none 0 0,.slice none 0 0,.int .i64 0] ++ List.replicate 32 (.int .u8 0) ++ [.slice none 0 0,.bool false] ++ List.replicate 32 (.int .u8 0) ++ List.replicate 4 (.int .i64 0) ++ List.replicate 32 (.int .u8 0) ++ [.slice none 0 0,.int .i64 0,.slice none 0 0,.int .i64 0]
def qg7 (m:Msg) (v:Value):List Value:=[.int .u8 m.kind,.int .i64 m.src,.int .i64 m.dst,.int .u64 m.seq,.int .i64 m.origin,.int .i64 m.target,v] ++ qzH
def qgG (m:Msg):List Value:=qg7 m (.slice none 0 0)
def atZ (v:Value):Prop:=∀ a n c,v = .slice (some a) n c->a.off = 0
def RdT (h:Hp) (v:Value) (t:List Ent):Prop:=∃ d,Rd h qan v d/\qb d = t/\atZ v
def qgp (ms:List Msg) (vs:List Value):List (List Value):=List.zipWith qg7 ms vs
def qa6 (h:Hp) (ms:List Msg) (self:Int) (t:List Ent) (i:Nat) (d:List (List Value)):Prop :=
 ∃ vs:List Value,vs.length = i/\d = qgp ((ms.take i).map fun m=>{ m with src:=self }) vs ++ (ms.drop i).map qgG/\∀ v ∈ vs,RdT h v t
def qah (d:List (List Value)) (ms:List Msg):Prop:=d = ms.map qgG
def qcl (t:List Ent) (i:Int) (x:Ent):List Ent:=t.set i.toNat x
def qb6 (t:List Ent) (s:List Int) (clock i:Int) (x:Ent):List Int:=if t[i.toNat]? ≠ some x/\x.2 = 2 then s.set i.toNat clock else s
def qaY (n self pinged:Int):Int:=if Int.tmod (pinged + 1) n = self then Int.tmod (Int.tmod (pinged + 1) n + 1) n else Int.tmod (pinged + 1) n
def qdl (t:List Ent) (self target:Int):List Int:=(qbC t).filter fun i=>!(i == self || i == target)
def qks (c:List Int) (seq target draw:Int) (i:Nat):Msg:=⟨3,0,c.getD (Int.tmod (Int.tmod draw c.length + (i:Int)) c.length).toNat 0,seq,0,target⟩
def qjs (c:List Int) (seq target draw:Int) (n:Nat):List Msg:=(List.range n).map (qks c seq target draw)
def qgo (t:List Ent) (self seq target draw:Int):List Msg:=qjs (qdl t self target) seq target draw (min 2 (qdl t self target).length)
def qbw (rest:T):SH:=.cells 0 117 [.vint .i64 (.var 1),.vslice 2 (.lit 0) (.var 3) (.var 4) 2,.vslice 6 (.lit 0) (.var 3) (.var 7) 1,.vint .u64 (.var 9),.vint .u64 (.var 10),.vint .i64 (.var 11),rest,.vint .u64 (.var 16),.vbool (.var 17)]
def qfJ:SH:=.arr 2 25 qan (.var 5) (.var 4)
def qlY:SH:=.arr 6 22 [.int .u64] (.var 8) (.var 7)
def mOk (Z:Env):Prop:=(Z 3).i = (Z 5).d.length/\2 <= (Z 3).i/\(Z 3).i <= 16/\0 <= (Z 1).i/\(Z 1).i < (Z 3).i/\0 <= (Z 11).i/\(Z 11).i < (Z 3).i
def qgE:Ctr:={ fn:=65,nv:=21,args:=[ptr 0,iv .i64 (.var 18),mem 19 20],heap:=[qbw (.var 12),qfJ,qlY],ro:=[],pre:=fun Z=>(Z 3).i = (Z 5).d.length/\(Z 3).i = (Z 8).d.length/\0 <= (Z 18).i/\(Z 18).i < (Z 3).i,alts:=[{ k:=2,ret:=.tup [],heap:=[qbw (.var 12),.arr 2 25 qan (.var 21) (.var 4),.arr 6 22 [.int .u64] (.var 22) (.var 7)],post:=fun Z=>qb (Z 21).d = qcl (qb (Z 5).d) (Z 18).i ((Z 19).i,(Z 20).i)/\qf (Z 22).d = qb6 (qb (Z 5).d) (qf (Z 8).d) (Z 9).i (Z 18).i ((Z 19).i,(Z 20).i)/\(Z 21).d.length = (Z 5).d.length/\(Z 22).d.length = (Z 8).d.length }] }
def qhL:Ctr:={ fn:=67,nv:=18,args:=[ptr 0],heap:=[],ro:=[qbw (.var 12)],pre:=fun Z=>2 <= (Z 3).i/\(Z 3).i <= 16/\0 <= (Z 11).i/\(Z 11).i < (Z 3).i,alts:=[{ k:=1,ret:=iv .i64 (.var 18),heap:=[],post:=fun Z=>(Z 18).i = qaY (Z 3).i (Z 1).i (Z 11).i }] }
def qbX:Ctr:={ fn:=64,nv:=18,args:=[ptr 0],heap:=[],ro:=[qbw (.var 12)],pre:=fun _=>True,alts:=[{ k:=0,ret:=.one (il .i64 30),heap:=[],post:=fun Z=>(Z 17).b = true },{ k:=0,ret:=.one (il .i64 0),heap:=[],post:=fun Z=>(Z 17).b = false }] }
def qcK:Ctr:={ fn:=68,nv:=22,args:=[ptr 0,.one (.vslice 18 (.lit 0) (.var 19) (.var 20) 116)],heap:=[.arr 18 43 qaQ (.var 21) (.var 20)],ro:=[qbw (.var 12),qfJ],pre:=fun Z=>mOk Z/\(Z 19).i = (Z 21).d.length/\(Z 19).i <= big/\∃ ms:List Msg,qah (Z 21).d ms,alts:=[{ k:=2,ret:=.one (.vslice 18 (.lit 0) (.var 19) (.var 20) 116),heap:=[.arr 18 43 qaQ (.var 22) (.var 20),.abs 23 2],post:=fun Z=>∀ ms:List Msg,qah (Z 21).d ms->qa6 (Z 23).h ms (Z 1).i (qb (Z 5).d) ms.length (Z 22).d }] }
def qpS:Inv:={ key:=2,nv:=3,env:=[(0,ptr 0),(1,.one (.vslice 18 (.lit 0) (.var 19) (.var 20) 116)),(7,iv .i64 (.var 19)),(8,iv .i64 (.var 1000))],heap:=[.arr 18 43 qaQ (.var 1001) (.var 20),.abs 1002 2],inv:=(fun Z=>0 <= (Z 1000).i/\(Z 1000).i <= (Z 19).i/\(Z 1001).d.length = (Z 21).d.length/\∀ ms:List Msg,qah (Z 21).d ms->qa6 (Z 1002).h ms (Z 1).i (qb (Z 5).d) (Z 1000).i.toNat (Z 1001).d),mu:=(fun Z=>((Z 19).i - (Z 1000).i).toNat) }
def qdm {α:Type} (p:α->Bool) (l:List α) (n:Nat):Bool:=(l.take n).all fun x=>!p x
def qwz {α:Type} (p:α->Bool) (l:List α) (i:Int):Prop:=(i = -1/\qdm p l l.length = true)∨(0 <= i/\i < l.length/\qdm p l i.toNat = true/\(l[i.toNat]?.map p) = some true)
def qfO {α:Type} (p:α->Bool) (orig cur:List α) (i j:Int):Prop :=
 0 <= i/\i < j/\j <= orig.length/\cur.length = orig.length/\cur.take i.toNat = (orig.take j.toNat).filter (fun x=>!p x)/\cur.drop j.toNat = orig.drop j.toNat
def qnO (a b:Int) (x:Int):Bool:=x == a || x == b
def qwH:SH:=.cells 25 46 [.vptr 0 (.lit 0) 0 0]
def qw5:SH:=.cells 26 63 [.vint .u64 (.var 18),.vint .i64 (.var 19),.vint .u64 (.var 20),.vbool (.var 21)]
def qtY:SV:=.fn (.func 86) [] [.vptr 25 (.lit 0) 0 0,.vptr 26 (.lit 0) 0 0]
def qgq:Ctr:={ fn:=86,nv:=27,args:=[iv .i64 (.var 24),ptr 25,ptr 26],heap:=[],ro:=[qwH,qw5,qbw (.var 12)],pre:=fun _=>True,alts:=[{ k:=1,ret:=qi5 27,heap:=[],post:=fun Z=>(Z 27).b = qnO (Z 1).i (Z 19).i (Z 24).i }] }
def qgH:Ctr:={ fn:=89,nv:=33,args:=[qjl 28 29 30,qtY],heap:=[],ro:=[iRo 28 31 32,qwH,qw5,qbw (.var 12)],pre:=fun Z=>(Z 29).i = (Z 31).d.length/\(Z 29).i <= big,alts:=[{ k:=1,ret:=iv .i64 (.var 33),heap:=[],post:=fun Z=>qwz (qnO (Z 1).i (Z 19).i) (qf (Z 31).d) (Z 33).i }] }
def qq5:Inv:={ key:=2,nv:=1,env:=[(0,qjl 28 29 30),(1,qtY),(7,iv .i64 (.var 29)),(8,iv .i64 (.var 1000))],heap:=[],inv:=(fun Z=>0 <= (Z 1000).i/\(Z 1000).i <= (Z 29).i/\qdm (qnO (Z 1).i (Z 19).i) (qf (Z 31).d) (Z 1000).i.toNat = true),mu:=(fun Z=>((Z 29).i - (Z 1000).i).toNat) }
def qfF:Ctr:={ fn:=85,nv:=33,args:=[qjl 28 29 30,qtY],heap:=[iRo 28 31 32],ro:=[qwH,qw5,qbw (.var 12)],pre:=fun Z=>(Z 29).i = (Z 31).d.length/\(Z 29).i <= big/\(Z 30).i = (Z 32).i,alts:=[{ k:=2,ret:=.one (.vslice 28 (.lit 0) (.var 33) (.var 30) 1),heap:=[.arr 28 3 [.int .i64] (.var 34) (.var 32)],post:=fun Z=>0 <= (Z 33).i/\(Z 33).i <= (Z 34).d.length/\(Z 33).i <= (Z 29).i/\(qf (Z 34).d).take (Z 33).i.toNat = (qf (Z 31).d).filter (fun x=>!qnO (Z 1).i (Z 19).i x) }] }
def qoy:Inv:={ key:=5,nv:=3,env:=[(0,qjl 28 29 30),(1,qtY),(5,iv .i64 (.var 1000)),(6,iv .i64 (.var 1001))],heap:=[.arr 28 3 [.int .i64] (.var 1002) (.var 32)],inv:=(fun Z=>qfO (qnO (Z 1).i (Z 19).i) (qf (Z 31).d) (qf (Z 1002).d) (Z 1000).i (Z 1001).i),mu:=(fun Z=>((Z 29).i - (Z 1001).i).toNat) }
def qlv (b:Nat):List T:=[.vint .u64 (.var b),.vint .i64 (.var (b + 1)),.vint .u64 (.var (b + 2)),.vbool (.var (b + 3))]
def qjd:Ctr:={ fn:=66,nv:=23,args:=[ptr 0,.agg (qlv 18),iv .u64 (.var 22)],heap:=[],ro:=[qbw (.var 12),qfJ],pre:=fun Z=>mOk Z/\0 <= (Z 22).i/\(Z 22).i < 18446744073709551616,alts:=[{ k:=4,ret:=.one (.vslice 23 (.lit 0) (.var 26) (.var 24) 116),heap:=[.arr 23 43 qaQ (.var 25) (.var 24)],post:=fun Z=>(Z 26).i = (Z 25).d.length/\qah (Z 25).d (qgo (qb (Z 5).d) (Z 1).i (Z 18).i (Z 19).i (Z 22).i) }] }
def qv7:Inv:={ key:=4,nv:=10,env:=[(4,ptr 1008),(2,iv .u64 (.var 22)),(7,.one (.vslice 1001 (.lit 0) (.var 1002) (.var 1003) 1)),(8,.one (.vslice 1004 (.lit 0) (.var 1005) (.var 1006) 116)),(20,iv .i64 (.imin (.lit 2) (.var 1002))),(21,iv .i64 (.var 1000))],heap:=[.cells 1008 63 (qlv 18),.arr 1001 3 [.int .i64] (.var 1007) (.var 1003),.arr 1004 43 qaQ (.var 1009) (.var 1006)],inv:=(fun Z=>0 <= (Z 1000).i/\(Z 1000).i <= (min 2 (qdl (qb (Z 5).d) (Z 1).i (Z 19).i).length:Nat)/\(Z 1002).i = (qdl (qb (Z 5).d) (Z 1).i (Z 19).i).length/\(qf (Z 1007).d).take (Z 1002).i.toNat = qdl (qb (Z 5).d) (Z 1).i (Z 19).i/\(Z 1002).i <= (Z 1007).d.length/\(Z 1005).i = (Z 1009).d.length/\(Z 1005).i = (Z 1000).i/\qah (Z 1009).d (qjs (qdl (qb (Z 5).d) (Z 1).i (Z 19).i) (Z 18).i (Z 19).i (Z 22).i (Z 1000).i.toNat)),mu:=(fun Z=>(2 - (Z 1000).i).toNat) }
end Go.Eng
namespace Go.Proofs
open Go Go.Eng
@[simp] def qox:Out:=.both (.ret 0 (sg 21 [bv 22 8,bt 21 (.dput (tv 5) (tv 18) 0 (.rcons (.vint .u64 (tv 19)) (.rcons (tu (tv 20)) .rnil)))])) .top
def qsE:Out:=(.fresh 21 (tn (tl 0) (tv 18) (ts (tv 18) (tv 3) (ts (tv 18) (.dlen (tv 5)) (.br (.not (.and (.cmp .eql (.icell (tv 5) (tv 18) 0) (tv 19)) (.cmp .eql (.icell (tv 5) (tv 18) 1) (tv 20))))
 (.br (.cmp .eql (tv 20) (tl 2))
 (ts (tv 18) (.dlen (tv 8)) (tb (tb (.ret 0 (sg 21 [bt 22 (.dput (tv 8) (tv 18) 0 (.rcons (.vint .u64 (tv 9)) .rnil)),bt 21 (.dput (tv 5) (tv 18) 0 (.rcons (.vint .u64 (tv 19)) (.rcons (tu (tv 20)) .rnil)))])))))
 qox)
 qox)))))
theorem qwC:qY Try.prog qgE [] [] qsE:=qA Try.func65 Try.call65 (by kernel_rfl)
def qr4:Out:=(tn (tl 0) (tv 3) (.need (.cmp .neq (tv 3) (tl 0)) (.br (.cmp .eql (.arith .rem .i64 (.arith .add .i64 (tv 11) (tl 1)) (tv 3)) (tv 1))
 (.ret 0 (sg 18 [bt 18 (.arith .rem .i64 (.arith .add .i64 (.arith .rem .i64 (.arith .add .i64 (tv 11) (tl 1)) (tv 3)) (tl 1)) (tv 3))]))
 (.ret 0 (sg 18 [bt 18 (.arith .rem .i64 (.arith .add .i64 (tv 11) (tl 1)) (tv 3))])))))
theorem qv0:qY Try.prog qhL [] [] qr4:=qA Try.func67 Try.call67 (by kernel_rfl)
def qoL:Out:=(.br (tv 17)
 (.ret 0 (sg 18 []))
 (.ret 1 (sg 18 [])))
theorem qtB:qY Try.prog qbX [] [] qoL:=qA Try.func64 Try.call64 (by kernel_rfl)
def qot:Out:=(tn (tl 0) (tv 19) (.pack [] 22 (.inv 0 23 (sg 1000 [bg 1002 22,bv 1001 21,bt 1000 (tl 0)]) (fr 23 3 (.hyp 0 23 (.br (.cmp .lss (tv 23) (tv 19))
 (tb (.pre 0 (sg 0 [bv 4 4,bv 3 5,bv 2 4,bv 1 3,bg 0 2]) (tb (fr 26 3 (.post 0 0 (sg 0 [bv 4 4,bv 3 5,bv 2 4,bv 1 3,bg 0 2]) 26 (tb (tn (tl 0) (tv 23) (ts (tv 23) (.dlen (tv 24)) (tb (tb (tb (tb (tb (.pack [.arr 26 25 [CK.int .u64,CK.int .u8] (tv 28) (tv 27),.abs 25 2] 29 (.back 0 23 (sg 1000 [bg 1002 29,bt 1001 (.dput (.dput (tv 24) (tv 23) 1 (.rcons (ti (tv 1)) .rnil)) (tv 23) 6 (.rcons (.vslice 26 (tl 0) (tv 3) (tv 27) 2) .rnil)),bt 1000 (.arith .add .i64 (tv 23) (tl 1))]))))))))))))))))
 (.ret 0 (sg 22 [bg 23 25,bv 22 24]))))))))
theorem quF:qY Try.prog qcK [qeo] [qpS] qot:=qA Try.func68 Try.call68 (by kernel_rfl)
def qsM:Out:=(.br (.cmp .eql (tv 24) (tv 1))
 (.ret 0 (sg 27 [bt 27 (.bl true)]))
 (.ret 0 (sg 27 [bt 27 (.cmp .eql (tv 24) (tv 19))])))
theorem qxm:qY Try.prog qgq [] [] qsM:=qA Try.func86 Try.call86 (by kernel_rfl)
@[simp] def qln:Sg:=sg 0 [bv 17 17,bv 16 16,bv 12 12,bv 11 11,bv 10 10,bv 9 9,bv 7 7,bg 6 6,bv 4 4,bv 3 3,bg 2 2,bv 1 1,bv 21 21,bv 20 20,bv 19 19,bv 18 18,bg 0 0,bg 26 26,bg 25 25,bt 24 (.icell (tv 31) (tv 33) 0)]
def qoR:Out:=(tn (tl 0) (tv 29) (.inv 0 33 (sg 1000 [bt 1000 (tl 0)]) (.fresh 33 (.hyp 0 33 (.br (.cmp .lss (tv 33) (tv 29))
 (tn (tl 0) (tv 33) (ts (tv 33) (.dlen (tv 31)) (.pre 0 qln (tb (.fresh 34 (.post 0 0 qln 34 (.br (tv 34)
 (.ret 0 (sg 33 [bv 33 33]))
 (.back 0 33 (sg 1000 [bt 1000 (.arith .add .i64 (tv 33) (tl 1))])))))))))
 (.ret 0 (sg 33 [bt 33 (.lit (-1))])))))))
theorem qtr:qY Try.prog qgH [qgq] [qq5] qoR:=qA Try.func89 Try.call89 (by kernel_rfl)
@[simp] def qkk:T:=.dtake (tv 36) (.ife (.minus (tv 29) (tv 34)) (tl 0) (.dlen (tv 36)) (.ife (tv 30) (tv 34) (tl 0) (tv 34)))
@[simp] def qjR:Sg:=sg 0 [bv 17 17,bv 16 16,bv 12 12,bv 11 11,bv 10 10,bv 9 9,bv 7 7,bg 6 6,bv 4 4,bv 3 3,bg 2 2,bv 1 1,bv 21 21,bv 20 20,bv 19 19,bv 18 18,bg 0 0,bg 26 26,bg 25 25,bt 24 (.icell (tv 36) (tv 35) 0)]
@[simp] def qj1:Sg:=sg 0 [bv 17 17,bv 16 16,bv 12 12,bv 11 11,bv 10 10,bv 9 9,bv 7 7,bg 6 6,bv 4 4,bv 3 3,bg 2 2,bv 1 1,bv 21 21,bv 20 20,bv 19 19,bv 18 18,bg 0 0,bv 32 32,bv 31 31,bg 26 26,bg 25 25,bv 30 30,bv 29 29,bg 28 28]
def qmn:Out:=(.pre 0 qj1 (tb (.fresh 33 (.post 0 0 qj1 33 (.br (.cmp .eql (tv 33) (.lit (-1)))
 (.ret 0 (sg 33 [bv 34 31,bv 33 29]))
 (.inv 0 34 (sg 1000 [bv 1002 31,bt 1001 (.arith .add .i64 (tv 33) (tl 1)),bv 1000 33]) (fr 34 3 (.hyp 0 34 (tn (tl 0) (tv 29) (.br (.cmp .lss (tv 35) (tv 29))
 (tn (tl 0) (tv 35) (ts (tv 35) (.dlen (tv 36)) (.pre 1 qjR (tb (.fresh 37 (.post 1 0 qjR 37 (.br (.not (tv 37))
 (tn (tl 0) (tv 34) (ts (tv 34) (tv 29) (ts (tv 34) (.dlen (tv 36)) (.back 0 34 (sg 1000 [bt 1002 (.dput (tv 36) (tv 34) 0 (.rcons (ti (.icell (tv 36) (tv 35) 0)) .rnil)),bt 1001 (.arith .add .i64 (tv 35) (tl 1)),bt 1000 (.arith .add .i64 (tv 34) (tl 1))])))))
 (.back 0 34 (sg 1000 [bv 1002 36,bt 1001 (.arith .add .i64 (tv 35) (tl 1)),bv 1000 34])))))))))
 (.know (.cmp .leq (.dlen (tv 36)) (tv 32)) (tn (tl 0) (tv 30) (tn (tl 0) (tv 34) (tn (tv 34) (tv 29) (tn (tv 29) (tv 30) (tn (tl 0) (.ife (tv 30) (tv 34) (tl 0) (tv 34)) (tn (tl 0) (.minus (tv 29) (tv 34)) (tn (.plus (.ife (tv 30) (tv 34) (tl 0) (tv 34)) (.minus (tv 29) (tv 34))) (.dlen (tv 36)) (.fresh 37 (.know (.cmp .leq (.dlen qkk) (tv 32)) (tn (tv 34) (tv 30) (.ret 0 (sg 33 [bt 34 qkk,bv 33 34])))))))))))))))))))))))
theorem qsp:qY Try.prog qfF [qgH,qgq] [qoy] qmn:=qA Try.func85 Try.call85 (by kernel_rfl)
@[simp] def qgR:T:=.arith .rem .i64 (.arith .add .i64 (.conv .i64 (.arith .rem .u64 (tv 22) (.conv .u64 (tv 33)))) (tv 31)) (tv 33)
@[simp] def qor:Sg:=sg 0 [bv 17 17,bv 16 16,bv 12 12,bv 11 11,bv 10 10,bv 9 9,bv 7 7,bg 6 6,bv 4 4,bv 3 3,bg 2 2,bv 1 1,bv 21 21,bv 20 20,bv 19 19,bv 18 18,bg 0 0,bv 32 26,bv 31 27,bg 26 24,bg 25 23,bv 30 26,bv 29 28,bg 28 25]
def qsR:Out:=(fr 23 2 (.pre 0 (sg 0 [bv 4 4,bv 3 5,bv 2 4,bv 1 3,bg 0 2]) (tb (fr 25 4 (.post 0 0 (sg 0 [bv 4 4,bv 3 5,bv 2 4,bv 1 3,bg 0 2]) 25 (.pre 1 qor (tb (fr 29 2 (.post 1 0 qor 29 (tn (tl 0) (tv 29) (.inv 0 31 (sg 1000 [bt 1009 .dnil,bv 1007 30,bt 1000 (tl 0),bt 1006 (tl 0),bt 1005 (tl 0),(1004,.nil),bv 1003 26,bv 1002 29,bg 1001 25,bg 1008 24]) (fr 31 10 (.hyp 0 31 (.br (.cmp .lss (tv 31) (.imin (tl 2) (tv 33)))
 (tn (tl 0) (tv 33) (.need (.cmp .neq (.conv .u64 (tv 33)) (tl 0)) (.need (.cmp .neq (tv 33) (tl 0)) (tn (tl 0) qgR (ts qgR (tv 33) (ts qgR (.dlen (tv 38)) (tb (.fresh 41 (tb (.need (.cmp .eql (tv 36) (.dlen (tv 40))) (tn (.tims (tl 352) (.plus (tv 36) (tl 1))) (tl 140737488355328) (fr 42 2 (tb (.back 0 31 (sg 1000 [bt 1009 (.dapp (tv 40) (.rcons (tu (tl 3)) (.rcons (ti (tl 0)) (.rcons (ti (.icell (tv 38) qgR 0)) (.rcons (.vint .u64 (tv 18)) (.rcons (ti (tl 0)) (.rcons (ti (tv 19)) (.rcons .vnils (.rcons .vnils (.rcons .vnils (.rcons (ti (tl 0)) (rr 32 (tu (tl 0)) (.rcons .vnils (.rcons (.vbool (.bl false)) (rr 32 (tu (tl 0)) (rr 4 (ti (tl 0)) (rr 32 (tu (tl 0)) (.rcons .vnils (.rcons (ti (tl 0)) (.rcons .vnils (.rcons (ti (tl 0)) .rnil))))))))))))))))))))),bv 1007 38,bt 1000 (.arith .add .i64 (tv 31) (tl 1)),bv 1006 43,bt 1005 (.plus (tv 36) (tl 1)),bg 1004 42,bv 1003 34,bv 1002 33,bg 1001 32,bg 1008 39])))))))))))))))
 (.ret 0 (sg 23 [bv 25 40,bv 24 37,bv 26 36,bg 23 35]))))))))))))))))
theorem qxf:qY Try.prog qjd [qdA,qfF] [qv7] qsR:=qA Try.func66 Try.call66 (by kernel_rfl)
end Go.Proofs
namespace Go.Eng
open Go
structure TS where
 tab:List Ent
 since:List Int
 kept:List Prb
 msgs:List Msg
def qaO (t:List Ent) (i:Int):Ent:=t.getD i.toNat (0,0)
def qaT (clock sent:Int):Int:=IntKind.u64.wrap (clock - sent)
def qaN (self clock draw:Int) (st:TS) (p:Prb):TS :=
 if 10 <= qaT clock p.sent then
  if (qaO st.tab p.target).2 = 1 then { st with tab:=qcl st.tab p.target ((qaO st.tab p.target).1,2),since:=qb6 st.tab st.since clock p.target ((qaO st.tab p.target).1,2) } else st
 else if 4 <= qaT clock p.sent/\p.asked = false then { st with kept:=st.kept ++ [{ p with asked:=true }],msgs:=st.msgs ++ qgo st.tab self p.seq p.target draw }
 else { st with kept:=st.kept ++ [p] }
def qbW (self clock draw:Int) (tab:List Ent) (since:List Int) (ps:List Prb):TS:=ps.foldl (qaN self clock draw) ⟨tab,since,[],[]⟩
def qgN (self clock wait:Int) (since:List Int) (i:Nat) (x:Ent):Ent:=if (i:Int) ≠ self/\x.2 = 2/\wait <= qaT clock (since.getD i 0) then (x.1,3) else x
def qeb (self clock wait:Int) (since:List Int) (t:List Ent):List Ent:=t.mapIdx (qgN self clock wait since)
structure Mach where
 self:Int
 tab:List Ent
 since:List Int
 clock:Int
 seq:Int
 pinged:Int
 probes:List Prb
 chal:Int
 left:Bool
def qaE (self:Int) (dT dS:List (List Value)) (clock seq pinged np:Int) (dP:List (List Value)) (chal:Int) (left:Bool):Mach :=
 ⟨self,qb dT,qf dS,clock,seq,pinged,(qM dP).take np.toNat,chal,left⟩
def qk (m:Mach):Int:=IntKind.u64.wrap (m.clock + 1)
def qat (m:Mach) (draw:Int):TS:=qbW m.self (qk m) draw m.tab m.since m.probes
def qbo (n:Nat):Int:=10 + 3 * min (max (n:Int) 0) 16
def qn (m:Mach) (draw:Int):Mach :=
 let st:=qat m draw
 let p:=qaY m.tab.length m.self m.pinged
 let q:=IntKind.u64.wrap (m.seq + 1)
 { m with tab:=qeb m.self (qk m) (qbo m.tab.length) st.since st.tab,since:=st.since,clock:=qk m,seq:=q,pinged:=p,probes:=st.kept ++ [⟨q,p,qk m,false⟩] }
def qas (m:Mach) (draw:Int):List Msg:=(qat m draw).msgs ++ [⟨1,0,qaY m.tab.length m.self m.pinged,IntKind.u64.wrap (m.seq + 1),m.self,0⟩]
def qdX (m:Mach):Prop:=2 <= m.tab.length/\m.tab.length <= 16/\m.since.length = m.tab.length/\0 <= m.self/\m.self < m.tab.length/\0 <= m.pinged/\m.pinged < m.tab.length/\∀ p ∈ m.probes,0 <= p.target/\p.target < m.tab.length
def qfT:T:=.vslice 12 (.lit 0) (.var 13) (.var 14) 4
def qgf:SH:=.arr 12 63 qdz (.var 15) (.var 14)
def m0 (Z:Env):Mach:=qaE (Z 1).i (Z 5).d (Z 8).d (Z 9).i (Z 10).i (Z 11).i (Z 13).i (Z 15).d (Z 16).i (Z 17).b
def qbI:List SH:=[qbw qfT,qfJ,qlY,qgf]
def qyS (Z:Env):Prop:=qdX (m0 Z)/\(Z 3).i = (Z 5).d.length/\0 <= (Z 13).i/\(Z 13).i <= (Z 15).d.length/\(Z 13).i <= 1000000
def qh8 (clock seq pinged rP np capP chal left:T) (rPn:Nat):SH:=.cells 0 117 [.vint .i64 (.var 1),.vslice 2 (.lit 0) (.var 3) (.var 4) 2,.vslice 6 (.lit 0) (.var 3) (.var 7) 1,.vint .u64 clock,.vint .u64 seq,.vint .i64 pinged,.vslice rPn (.lit 0) np capP 4,.vint .u64 chal,.vbool left]
def qgm:Ctr:={ fn:=29,nv:=19,args:=[ptr 0,iv .u64 (.var 18)],heap:=qbI,ro:=[],pre:=fun Z=>qyS Z/\0 <= (Z 18).i/\(Z 18).i < 18446744073709551616,ip:=[(82,0),(164,1)],alts:=[{ k:=0,ret:=.one .vnils,heap:=qbI,post:=fun Z=>(Z 17).b = true },
  { k:=14,ret:=.one (.vslice 19 (.lit 0) (.var 20) (.var 21) 116),heap:=[qh8 (.var 22) (.var 23) (.var 24) .dnil (.var 25) (.var 26) (.var 16) (.var 17) 27,.arr 2 25 qan (.var 28) (.var 4),.arr 6 22 [.int .u64] (.var 29) (.var 7),.arr 27 63 qdz (.var 30) (.var 26),.arr 19 43 qaQ (.var 31) (.var 21),.abs 32 2],post:=fun Z=>(Z 17).b = false/\qaE (Z 1).i (Z 28).d (Z 29).d (Z 22).i (Z 23).i (Z 24).i (Z 25).i (Z 30).d (Z 16).i (Z 17).b = qn (m0 Z) (Z 18).i/\(Z 20).i = (Z 31).d.length/\(Z 28).d.length = (Z 5).d.length/\0 <= (Z 25).i/\(Z 25).i <= (Z 30).d.length/\(Z 25).i <= (Z 13).i + 1/\qa6 (Z 32).h (qas (m0 Z) (Z 18).i) (Z 1).i (qn (m0 Z) (Z 18).i).tab (qas (m0 Z) (Z 18).i).length (Z 31).d }] }
def qsV:Inv:={ key:=7,nv:=10,env:=[(0,ptr 0),(1,iv .u64 (.var 18)),(5,.one (.vslice 1005 (.lit 0) (.var 1006) (.var 1007) 116)),(6,.one (.vslice 12 (.lit 0) (.var 1001) (.var 14) 4)),(32,.one qfT),(33,iv .i64 (.var 13)),(34,iv .i64 (.var 1000))],heap:=[qh8 (.var 1009) (.var 10) (.var 11) .dnil (.var 13) (.var 14) (.var 16) (.var 17) 12,.arr 2 25 qan (.var 1003) (.var 4),.arr 6 22 [.int .u64] (.var 1004) (.var 7),.arr 12 63 qdz (.var 1002) (.var 14),.arr 1005 43 qaQ (.var 1008) (.var 1007)],inv:=(fun Z=>0 <= (Z 1000).i/\(Z 1000).i <= (Z 13).i/\0 <= (Z 1001).i/\(Z 1001).i <= (Z 1000).i/\(Z 1009).i = qk (m0 Z)/\(Z 1002).d.length = (Z 15).d.length/\(Z 1003).d.length = (Z 5).d.length/\(Z 1004).d.length = (Z 8).d.length/\(Z 1006).i = (Z 1008).d.length/\(Z 1006).i <= 2 * (Z 1000).i/\(qbW (Z 1).i (Z 1009).i (Z 18).i (qb (Z 5).d) (qf (Z 8).d) ((qM (Z 15).d).take (Z 1000).i.toNat) = ⟨qb (Z 1003).d,qf (Z 1004).d,(qM (Z 1002).d).take (Z 1001).i.toNat,(qbW (Z 1).i (Z 1009).i (Z 18).i (qb (Z 5).d) (qf (Z 8).d) ((qM (Z 15).d).take (Z 1000).i.toNat)).msgs⟩)/\qah (Z 1008).d (qbW (Z 1).i (Z 1009).i (Z 18).i (qb (Z 5).d) (qf (Z 8).d) ((qM (Z 15).d).take (Z 1000).i.toNat)).msgs/\(qM (Z 1002).d).drop (Z 1000).i.toNat = (qM (Z 15).d).drop (Z 1000).i.toNat),mu:=(fun Z=>((Z 13).i - (Z 1000).i).toNat) }
def qsI:Inv:={ key:=21,nv:=11,env:=[(0,ptr 0),(5,.one (.vslice 1005 (.lit 0) (.var 1006) (.var 1007) 116)),(6,.one (.vslice 12 (.lit 0) (.var 1002) (.var 14) 4)),(11,iv .u64 (.var 1009)),(94,.one (.vslice 2 (.lit 0) (.var 3) (.var 4) 2)),(95,iv .i64 (.var 3)),(96,iv .i64 (.var 1000))],heap:=[qh8 (.var 1010) (.var 10) (.var 11) .dnil (.var 13) (.var 14) (.var 16) (.var 17) 12,.arr 2 25 qan (.var 1001) (.var 4),.arr 6 22 [.int .u64] (.var 1003) (.var 7),.arr 12 63 qdz (.var 1004) (.var 14),.arr 1005 43 qaQ (.var 1008) (.var 1007)],inv:=(fun Z=>0 <= (Z 1000).i/\(Z 1000).i <= (Z 3).i/\(Z 1010).i = qk (m0 Z)/\(Z 1009).i = qbo (qb (Z 5).d).length/\(Z 1001).d.length = (Z 5).d.length/\(Z 1003).d.length = (Z 8).d.length/\(Z 1006).i = (Z 1008).d.length/\(Z 1006).i <= 2 * (Z 13).i/\0 <= (Z 1002).i/\(Z 1002).i <= (Z 13).i/\(Z 1002).i <= (Z 1004).d.length/\qf (Z 1003).d = (qat (m0 Z) (Z 18).i).since/\(qM (Z 1004).d).take (Z 1002).i.toNat = (qat (m0 Z) (Z 18).i).kept/\qah (Z 1008).d (qat (m0 Z) (Z 18).i).msgs/\(qat (m0 Z) (Z 18).i).tab.length = (Z 5).d.length/\(∀ j:Nat,(qb (Z 1001).d)[j]? = if j < (Z 1000).i.toNat then (qeb (Z 1).i (qk (m0 Z)) (qbo (qb (Z 5).d).length) (qat (m0 Z) (Z 18).i).since (qat (m0 Z) (Z 18).i).tab)[j]? else (qat (m0 Z) (Z 18).i).tab[j]?)),mu:=(fun Z=>((Z 3).i - (Z 1000).i).toNat) }
end Go.Eng
namespace Go.Proofs
open Go Go.Eng
theorem qel {Z:Env} {x:SH}:∀ {l:List SH} {h:Hp},qD Z l h->x ∈ l->∃ hx,Hp.le hx h/\x.den Z hx
 | [],_,_,hx=>by cases hx
 | y :: l,h,⟨h1,h2,hd,hu,hy,hs⟩,hx=>by
  subst hu;rcases jar.1 hx with rfl | hx
  ·exact ⟨h1,Hp.le_left _ _,hy⟩
  ·obtain ⟨g,g1,g2⟩:=qel hs hx
   exact ⟨g,Hp.le_trans g1 (Hp.le_right hd),g2⟩
theorem qnL {h h':Hp} {pat:List CK} {v:Value} {d:List (List Value)} (hr:Rd h pat v d) (hl:Hp.le h h'):Rd h' pat v d:=by
 rcases hr with h0 | ⟨b,o,cap,c,ty,fr,h1,h2,h3,h4⟩
 ·exact .inl h0
 ·exact .inr ⟨b,o,cap,c,ty,fr,h1,h2,hl _ _ h3,h4⟩
theorem qvC {Z:Env} {r:Nat} {ty:TypeId} {pat:List CK} {d cap:T} {h H:Hp} {n:Nat} {k:Nat} (hx:SH.den Z (.arr r ty pat d cap) h) (hl:Hp.le h H) (hn:n = (d.den Z).d.length) (hc:k = (cap.den Z).i.toNat) :
  Rd H pat (.slice (qj (Z r).r 0) n k) (d.den Z).d:=by
 rcases hx with ⟨h1,h2,h3⟩ | ⟨b,c,h1,h2,h3,h4,h5⟩
 ·refine .inl ⟨none,?_,h2⟩
  rw [h1,hn,h2,hc,h3]; rfl
 ·refine .inr ⟨b,0,k,c,ty,(0,0),by rw [h1,hn]; rfl,by omega,hl _ _ h2,h5⟩
theorem qjH {Z:Env} {l:List SH} {H:Hp} (hs:qD Z l H) {n t:Nat} (hm:SH.abs n t ∈ l):∃ hb,Hp.le hb H/\Hp.le (Z n).h hb:=by
 obtain ⟨hb,lb,db⟩:=qel hs hm;exact ⟨hb,lb,db.1⟩
end Go.Proofs
