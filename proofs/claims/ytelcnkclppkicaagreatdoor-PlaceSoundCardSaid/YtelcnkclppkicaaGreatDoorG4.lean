/- Texts E8g, E9, E10, E10b, E11, E12, DA, DB, E15, E16, E17. -/
import Derived.Test.YtelcnkclppkicaaGreatDoorG3
import Derived.OrdersHeld
set_option linter.unusedSimpArgs false
set_option linter.unusedVariables false
namespace Go.Eng
open Go
variable {P:Program} {ρ:Env} {hF:Fr} {s:S} {a:Act} {w:World} {o:Oper}

def qew (P:Program) (ρ:Env) (hF:Fr) (s:S) (a:Act) (w:World) (o:Oper) (r:MR) (Y1 Y2:List U->Prop):Prop :=
 ∃ us mb w',((mb = r.a/\Y1 us)∨(r.b = some mb/\Y2 us))/\us.length = mb.fresh/\(∀ u ∈ us,u.good)/\qs (qq ρ s.nx us) hF mb.heap w'/\Ran P a o (qq ρ s.nx us) mb.val w w'

theorem qil:∀ (us:List U) (ρ:Env) (n m:Nat),m < n->qq ρ n us m = ρ m
 | [],_,_,_,_=>rfl
 | u :: us,ρ,n,m,h=>by rw [qq,qil us _ _ _ (by omega),Env.set_ne _ _ (by omega)]
theorem T.inB_up {n n':Nat} (h:n <= n'):∀ t:T,t.inB n = true->t.inB n' = true
 | .var m,hb=>by simp only [T.inB,Nat.blt_eq] at hb ⊢; omega
 | .c0 o,hb=>by
  cases o <;> simp_all [T.inB]
  all_goals omega
 | .c1 o a,hb=>by
  cases o <;> (simp only [T.inB,Bool.and_eq_true,Nat.blt_eq] at hb ⊢) <;>
   first
    | exact T.inB_up h a hb
    | exact ⟨by omega,T.inB_up h a hb.2⟩
 | .c2 o a b,hb=>by
  simp only [T.inB,Bool.and_eq_true] at hb ⊢
  exact ⟨T.inB_up h a hb.1,T.inB_up h b hb.2⟩
 | .c3 o a b c,hb=>by
  cases o <;> (simp only [T.inB,Bool.and_eq_true,Nat.blt_eq] at hb ⊢) <;>
   first
    | exact ⟨⟨T.inB_up h a hb.1.1,T.inB_up h b hb.1.2⟩,T.inB_up h c hb.2⟩
    | exact ⟨⟨⟨by omega,T.inB_up h a hb.1.1.2⟩,T.inB_up h b hb.1.2⟩,T.inB_up h c hb.2⟩
 | .ife a b x y,hb=>by
  simp only [T.inB,Bool.and_eq_true] at hb ⊢
  exact ⟨⟨⟨T.inB_up h a hb.1.1.1,T.inB_up h b hb.1.1.2⟩,T.inB_up h x hb.1.2⟩,T.inB_up h y hb.2⟩
theorem SH.inB_mono {n n':Nat} (h:n <= n') {x:SH} (hb:x.inB n = true):x.inB n' = true:=by
 cases x with
 | cells r ty cs =>
  simp only [SH.inB,Bool.and_eq_true,Nat.blt_eq] at hb ⊢
  exact ⟨by omega,List.all_eq_true.2 fun t ht=>T.inB_up h t (List.all_eq_true.1 hb.2 t ht)⟩
 | arr r ty pat d cap =>
  simp only [SH.inB,Bool.and_eq_true,Nat.blt_eq] at hb ⊢
  exact ⟨⟨by omega,T.inB_up h d hb.1.2⟩,T.inB_up h cap hb.2⟩
 | abs m t=>simp only [SH.inB,Nat.blt_eq] at hb ⊢; omega
theorem qeE {i:Int} {b:Bool} {h:Hp} {r:Option Addr}:({ i,b,h,r }:U).good:=by simp [U.good,Value.oneCell']
theorem qid {row:List Value} {b:Bool} (h:∀ v ∈ row,v.oneCell' = true):({ d:=[row],b }:U).good:=by
 refine ⟨rfl,fun r hr v hv=>?_⟩
 simp only [List.mem_singleton] at hr
 subst hr; exact h v hv
theorem qgn (hsc:s.inNx = true):s.heap.all (SH.inB s.nx) = true:=by
 simp only [S.inNx,Bool.and_eq_true] at hsc; exact hsc.1.1.1.2
theorem qs.same (hs:Holds ρ hF s a w) (hsc:s.inNx = true) (us:List U):qs (qq ρ s.nx us) hF s.heap w :=
 qs.congr hs.hp (qgn hsc) (fun m hm=>(qil us ρ s.nx m hm).symm)
theorem qz8 (hs:Holds ρ hF s a w) {mt:MT} {x:T} {l:List ME} {v:Value} (hv:v = (x.den ρ).v) (h:((x.den ρ).v = .map none/\l = [])∨∃ m ∈ qal s.heap ++ qal s.ro,∃ b clock,(x.den ρ).v = .map (some b)/\qaU (ρ m).h b mt l clock):qoD w mt v l:=by
 subst hv
 rcases h with h | ⟨m,hm,b,clock,h1,h2,h3⟩
 ·exact .inl h
 ·exact .inr ⟨b,clock,h1,qel hs hm h2,h3⟩

theorem q6C {t:TypeId} {Y1 Y2:List U->Prop} (hs:Holds ρ hF s a w) (hsc:s.inNx = true) (hop:o.op = .makeMap t none) (hsem:(qnw s).k.sem ρ Y1 Y2):qew P ρ hF s a w o (qnw s) Y1 Y2:=by
 let us:List U:=[{ h:=Hp.one w.heap.size (.map #[] 0) },{ v:=.map (some w.heap.size) }]
 have h1:=hsem { h:=Hp.one w.heap.size (.map #[] 0) } qeE { v:=.map (some w.heap.size) } (by simp [U.good,Value.oneCell']) ⟨w.heap.size,rfl,rfl⟩
 refine ⟨us,(qnw s).a,{ w with heap:=w.heap.push (.map #[] 0) },.inl ⟨rfl,h1⟩,rfl,?_,?_,?_⟩
 ·intro u hu
  simp only [us,List.mem_cons,List.not_mem_nil,or_false] at hu
  rcases hu with rfl | rfl
  ·exact qeE
  ·simp [U.good,Value.oneCell']
 ·refine qs.new (n:=s.nx) (d:=w.drawn) hs.hp (qgn hsc) (fun m hm=>(qil us ρ s.nx m hm).symm) ?_
  simp only [SH.den,us,qq]
  rw [Env.set_ne _ _ (by omega),Env.set_same]
  exact ⟨Hp.le_refl _,fun h=>by cases h⟩
 ·show (execOp a.eval o).run P w = _
  simp [execOp,hop,Instr.makeMap,newObj,Sem.run,SV.den,T.den,us,qq]

theorem q2n {t:TypeId} {x i:Operand} {ck:Bool} {r:MR} {Y1 Y2:List U->Prop} (hs:Holds ρ hF s a w) (hsc:s.inNx = true) (hop:o.op = .lookup t x i ck) (h:qmX P s t x i ck = some r) (hsem:r.k.sem ρ Y1 Y2):qew P ρ hF s a w o r Y1 Y2:=by
 unfold qmX at h
 split at h
 ·rename_i mt xt hmt hx
  split at h
  ·rename_i ks v hks hv
   simp only [Option.some.injEq] at h; subst h
   have hm:=qni hmt
   have hxe:=hs.opd hx
   obtain ⟨e1,e2⟩:=qrB hs hks
   obtain ⟨l,hl,h1⟩:=hsem
   have hV:qoD w mt (a.eval x) l:=qz8 hs (by rw [hxe]; rfl) hl
   have hrun:=qzH hm hV e2 ck ρ
   have hfit:qu mt.vpat (qcU l (qbU ρ ks) (qc ρ mt.zero)):=by
    rcases hl with ⟨_,rfl⟩ | ⟨m,_,b,clock,_,_,h3⟩
    ·exact hm.fits ρ
    ·exact q4H h3 (hm.fits ρ)
   refine ⟨_,_,w,.inl ⟨rfl,h1⟩,rfl,?_,qs.same hs hsc _,?_⟩
   ·intro u hu
    rw [List.mem_singleton] at hu; subst hu
    exact qid (qhU hfit)
   ·show (execOp a.eval o).run P w = _
    have hrow:qc (ρ.set s.nx { d:=[qcU l (qbU ρ ks) (qc ρ mt.zero)],b:=qaE l (qbU ρ ks) }) (qbv s.nx mt.vpat 0) = qcU l (qbU ρ ks) (qc ρ mt.zero):=qfN (by rw [Env.set_same]) hfit
    simp only [execOp,hop,Sem.run_bind,e1,hrun,Result.andThen_ok,Sem.run_pure,qq]
    congr 2
    cases ck with
    | true=>simp only [if_true,SV.den,List.map_cons,List.map_nil,qoK,hrow]; simp [mkV,qc,T.den,O1.den]
    | false=>simp only [Bool.false_eq_true,if_false]; rw [q6a hv,hrow]
  ·cases h
 ·cases h

theorem q8c {args:Array Operand} {tys:Array TypeId} {t:TypeId} {x:Operand} {r:MR} {Y1 Y2:List U->Prop} (hs:Holds ρ hF s a w) (hsc:s.inNx = true) (hop:o.op = .call { callee:=.builtin .len,args,argTypes:=tys }) (hargs:args = #[x]) (htys:tys = #[t]) (h:qwK P s t x = some r) (hsem:r.k.sem ρ Y1 Y2):qew P ρ hF s a w o r Y1 Y2:=by
 unfold qwK at h
 split at h
 ·rename_i mt xt hmt hx
  simp only [Option.some.injEq] at h; subst h
  have hm:=qni hmt
  have hxe:=hs.opd hx
  obtain ⟨l,hl,h1⟩:=hsem
  have hV:qoD w mt (a.eval x) l:=qz8 hs (by rw [hxe]; rfl) hl
  refine ⟨_,_,w,.inl ⟨rfl,h1⟩,rfl,?_,qs.same hs hsc _,?_⟩
  ·intro u hu
   rw [List.mem_singleton] at hu; subst hu
   exact qeE
  ·show (execOp a.eval o).run P w = _
   have hrun:=q0V (ty:=o.type) hm hV
   subst hargs; subst htys
   simp only [execOp,hop,resolve,invoke,builtin,Sem.run_bind,Sem.run_pure,Result.andThen_ok]
   simp only [List.map_toArray,List.map_cons,List.map_nil,hrun,Result.andThen_ok,Sem.run_pure,SV.den,T.den,O1.den,qq,Env.set_same]
 ·cases h

theorem q8l {op:BinOp} {t ty2:TypeId} {x y:Operand} {r:MR} {Y1 Y2:List U->Prop} (hs:Holds ρ hF s a w) (hsc:s.inNx = true) (hop:o.op = .binOp op t x y ty2) (h:qwJ P s op t x y = some r) (hsem:r.k.sem ρ Y1 Y2):qew P ρ hF s a w o r Y1 Y2:=by
 unfold qwJ at h
 split at h
 ·rename_i k e xt hu hx hy
  have hxe:=hs.opd hx
  have hye:=hs.opd hy
  have hye:a.eval y = .map none:=hye
  have key:∀ (b:Bool) (mo:Option Nat),(xt.den ρ).v = .map mo->b = mo.isNone->∀ (neg:Bool),(op = if neg then .neq else .eql) ->
    (execOp a.eval o).run P w = .ok (.value (SV.den (qq ρ s.nx [{ b:=b }]) (.one (.vbool (if neg then .not (.var s.nx) else .var s.nx))))) w:=by
   intro b mo hmo hb neg hneg
   have hxe:a.eval x = .map mo:=by rw [hxe]; exact hmo
   subst hneg hb
   cases neg with
   | true=>simp [execOp,hop,hxe,hye,qiD,qsv hu,SV.den,T.den,O1.den,qq]
   | false=>simp [execOp,hop,hxe,hye,qiD,qrT hu,SV.den,T.den,O1.den,qq]
  have go:∀ (neg:Bool),(op = if neg then .neq else .eql)->∀ mb:MB,mb = ⟨1,s.heap,some (.one (.vbool (if neg then .not (.var s.nx) else .var s.nx)))⟩->(MK.isnil xt).sem ρ Y1 Y2->qew P ρ hF s a w o ⟨.isnil xt,mb,none⟩ Y1 Y2:=by
   intro neg hneg mb hmb hsem
   subst hmb
   rcases hsem with ⟨hv,h1⟩ | ⟨⟨q,hv⟩,h1⟩
   ·refine ⟨_,_,w,.inl ⟨rfl,h1⟩,rfl,?_,qs.same hs hsc _,key true none hv rfl neg hneg⟩
    intro u hu
    rw [List.mem_singleton] at hu; subst hu
    exact qeE
   ·refine ⟨_,_,w,.inl ⟨rfl,h1⟩,rfl,?_,qs.same hs hsc _,key false (some q) hv rfl neg hneg⟩
    intro u hu
    rw [List.mem_singleton] at hu; subst hu
    exact qeE
  split at h
  ·simp only [Option.some.injEq] at h; subst h
   exact go false rfl _ rfl hsem
  ·simp only [Option.some.injEq] at h; subst h
   exact go true rfl _ rfl hsem
  ·cases h
 ·cases h

theorem qzU {t:TypeId} {x k v:Operand} {r:MR} {Y1 Y2:List U->Prop} (hs:Holds ρ hF s a w) (hsc:s.inNx = true) (hop:o.op = .mapUpdate t x k v) (h:qkm P s t x k v = some r) (hsem:r.k.sem ρ Y1 Y2):qew P ρ hF s a w o r Y1 Y2:=by
 unfold qkm at h
 split at h
 ·rename_i mt xt pos m hmt hx hpos
  split at h
  ·rename_i ks vs hks hvs
   split at h
   ·rename_i hc
    simp only [Option.some.injEq] at h; subst h
    have hm:=qni hmt
    have hxe:=hs.opd hx
    obtain ⟨e1,e2⟩:=qrB hs hks
    have e3:=qmf hs hvs
    obtain ⟨b,l,clock,hv,⟨hb,hwf⟩,h1⟩:=hsem
    have hmem:m ∈ qal s.heap ++ qal s.ro:=List.mem_append_left _ (qpJ hpos)
    have hwb:=qel hs hmem hb
    have hrun:=qtN hm hwb hwf e2 (v:=qc ρ vs)
    let ob:=mt.obj (qaY l (qbU ρ ks) (qc ρ vs) clock)
    refine ⟨[{ h:=Hp.upd (ρ m).h b ob }],_,{ w with heap:=w.heap.setIfInBounds b ob },.inl ⟨rfl,h1 _ qeE rfl⟩,rfl,?_,?_,?_⟩
    ·intro u hu
     rw [List.mem_singleton] at hu; subst hu
     exact qeE
    ·exact qs.repiece hs.hp (qgn hsc) (qcT hpos) hb (qvt hwb) (fun y hy=>set_ne hy) ⟨rfl,rfl⟩ rfl
    ·show (execOp a.eval o).run P w = _
     have hxe:a.eval x = .map (some b):=by rw [hxe]; exact hv
     simp only [execOp,hop,hxe,e1,e3,Sem.run_bind,hrun,Result.andThen_ok,Sem.run_pure]
     rfl
   ·cases h
  ·cases h
 ·cases h

theorem q1V {args:Array Operand} {tys:Array TypeId} {t t2:TypeId} {x k:Operand} {r:MR} {Y1 Y2:List U->Prop} (hs:Holds ρ hF s a w) (hsc:s.inNx = true) (hop:o.op = .call { callee:=.builtin .delete,args,argTypes:=tys }) (hargs:args = #[x,k]) (htys:tys = #[t,t2]) (h:qmB P s t x k = some r) (hsem:r.k.sem ρ Y1 Y2):qew P ρ hF s a w o r Y1 Y2:=by
 unfold qmB at h
 split at h
 ·rename_i mt xt pos m hmt hx hpos
  split at h
  ·rename_i ks hks
   simp only [Option.some.injEq] at h; subst h
   have hm:=qni hmt
   have hxe:=hs.opd hx
   obtain ⟨e1,e2⟩:=qrB hs hks
   obtain ⟨b,l,clock,hv,⟨hb,hwf⟩,h1⟩:=hsem
   have hmem:m ∈ qal s.heap ++ qal s.ro:=List.mem_append_left _ (qpJ hpos)
   have hwb:=qel hs hmem hb
   have hrun:=qtY (t2:=t2) (ty:=o.type) hm hwb hwf e2
   let ob:=mt.obj (qmv l (qbU ρ ks),clock)
   refine ⟨[{ h:=Hp.upd (ρ m).h b ob }],_,{ w with heap:=w.heap.setIfInBounds b ob },.inl ⟨rfl,h1 _ qeE rfl⟩,rfl,?_,?_,?_⟩
   ·intro u hu
    rw [List.mem_singleton] at hu; subst hu
    exact qeE
   ·exact qs.repiece hs.hp (qgn hsc) (qcT hpos) hb (qvt hwb) (fun y hy=>set_ne hy) ⟨rfl,rfl⟩ rfl
   ·show (execOp a.eval o).run P w = _
    have hxe:a.eval x = .map (some b):=by rw [hxe]; exact hv
    subst hargs; subst htys
    simp only [execOp,hop,resolve,invoke,builtin,Sem.run_bind,Sem.run_pure,Result.andThen_ok]
    simp only [List.map_toArray,List.map_cons,List.map_nil,hxe,e1,hrun,Result.andThen_ok,Sem.run_pure]
    rfl
  ·cases h
 ·cases h

theorem q3e {t:TypeId} {x:Operand} {r:MR} {Y1 Y2:List U->Prop} (hs:Holds ρ hF s a w) (hsc:s.inNx = true) (hop:o.op = .range t x) (h:qpj P s t x = some r) (hsem:r.k.sem ρ Y1 Y2):qew P ρ hF s a w o r Y1 Y2:=by
 unfold qpj at h
 split at h
 ·rename_i mt xt hmt hx
  simp only [Option.some.injEq] at h; subst h
  have hm:=qni hmt
  have hxe:=hs.opd hx
  obtain ⟨mo,clock,hl,h1⟩:=hsem
  have hV:(a.eval x = .map none/\mo = none/\clock = 0)∨∃ b l,a.eval x = .map (some b)/\mo = some b/\w.heap[b]? = some (mt.obj (l,clock)):=by
   rw [hxe]
   rcases hl with h | ⟨m,hm,b,l,g1,g2,g3,g4⟩
   ·exact .inl h
   ·exact .inr ⟨b,l,g1,g2,qel hs hm g3⟩
  have hrun:=q3M hm hV
  let ob:Obj:=.mapIter mo clock #[] clock
  let us:List U:=[{ h:=Hp.one w.heap.size ob },{ v:=.pointer (some ⟨w.heap.size,0,none⟩) }]
  have h1:=h1 { h:=Hp.one w.heap.size ob } qeE { v:=.pointer (some ⟨w.heap.size,0,none⟩) } (by simp [U.good,Value.oneCell']) ⟨w.heap.size,rfl,rfl⟩
  refine ⟨us,_,{ w with heap:=w.heap.push ob },.inl ⟨rfl,h1⟩,rfl,?_,?_,?_⟩
  ·intro u hu
   simp only [us,List.mem_cons,List.not_mem_nil,or_false] at hu
   rcases hu with rfl | rfl
   ·exact qeE
   ·simp [U.good,Value.oneCell']
  ·refine qs.new (n:=s.nx) (d:=w.drawn) hs.hp (qgn hsc) (fun m hm=>(qil us ρ s.nx m hm).symm) ?_
   simp only [SH.den,us,qq]
   rw [Env.set_ne _ _ (by omega),Env.set_same]
   exact ⟨Hp.le_refl _,fun h=>by cases h⟩
  ·show (execOp a.eval o).run P w = _
   simp only [execOp,hop,Sem.run_bind,hrun,Result.andThen_ok,Sem.run_pure]
   simp [SV.den,T.den,us,qq,ob]
 ·cases h

theorem q6K {x:Operand} {ip:List (Nat × Nat)} {r:MR} {Y1 Y2:List U->Prop} (hs:Holds ρ hF s a w) (hsc:s.inNx = true) (hop:o.op = .next x false) (h:mapNext P ip s x = some r) (hsem:r.k.sem ρ Y1 Y2):qew P ρ hF s a w o r Y1 Y2:=by
 unfold mapNext at h
 split at h
 ·rename_i mt xt pos m hmt hx hpos
  simp only [Option.some.injEq] at h; subst h
  have hxe:=hs.opd hx
  obtain ⟨b',since,seen,stepped,mo,hv,hb',hrest⟩:=hsem
  have hxe:a.eval x = .pointer (some ⟨b',0,none⟩):=by rw [hxe]; exact hv
  have hmem:m ∈ qal s.heap ++ qal s.ro:=List.mem_append_left _ (qpJ hpos)
  have hwb:=qel hs hmem hb'
  cases mo with
  | none =>
   refine ⟨[],_,w,.inr ⟨rfl,hrest⟩,rfl,by simp,hs.hp,?_⟩
   show (execOp a.eval o).run P w = _
   simp only [execOp,hop,hxe,Sem.run_bind,qxl hwb,Result.andThen_ok,Sem.run_pure]
   rfl
  | some b =>
   obtain ⟨l,clock,⟨n,hn,hb,hwf⟩,hgone,hover,hnext⟩:=hrest
   have hmb:=qel hs hn hb
   obtain ⟨w1,hw1,hcase⟩:=q4T (P:=P) (ty:=o.type) hwb hmb hgone
   have hhp:w1.heap = w.heap:=by rcases hw1 with rfl | rfl <;> rfl
   have hos:w1.os = w.os/\w1.output = w.output:=by rcases hw1 with rfl | rfl <;> exact ⟨rfl,rfl⟩
   rcases hcase with ⟨hall,hrun⟩ | ⟨e,he,hns,hrun⟩
   ·refine ⟨[],_,w1,.inr ⟨rfl,hover hall⟩,rfl,by simp,?_,?_⟩
    ·obtain ⟨hO,g1,g2,g3,g4⟩:=hs.hp
     exact ⟨hO,g1,g2,fun y ob hy=>by rw [hhp]; exact g3 y ob hy,⟨hos.1.trans g4.1,hos.2.trans g4.2⟩⟩
    ·show (execOp a.eval o).run P w = _
     simp only [execOp,hop,hxe,Sem.run_bind,hrun,Result.andThen_ok,Sem.run_pure]
     rfl
   ·let ob:Obj:=.mapIter (some b) since (seen ++ [e.born]).toArray clock
    have hek:=(hwf.1 e he).1
    have hev:=(hwf.1 e he).2.1
    let us:List U:=[{ h:=Hp.upd (ρ m).h b' ob },{ d:=[qV mt.kks e.k] },{ d:=[e.v] }]
    refine ⟨us,_,{ w1 with heap:=w1.heap.setIfInBounds b' ob },.inl ⟨rfl,hnext e he hns _ qeE rfl⟩,rfl,?_,?_,?_⟩
    ·intro u hu
     simp only [us,List.mem_cons,List.not_mem_nil,or_false] at hu
     rcases hu with rfl | rfl | rfl
     ·exact qeE
     ·exact qid (qhU (qhx hek))
     ·exact qid (qhU hev)
    ·have h0:qs (ρ.set s.nx { h:=Hp.upd (ρ m).h b' ob }) hF (s.heap.set pos (.abs s.nx 1003)) { w1 with heap:=w1.heap.setIfInBounds b' ob } :=
      qs.repiece hs.hp (qgn hsc) (qcT hpos) hb' (qvt (by rw [hhp]; exact hwb)) (fun y hy=>by rw [set_ne hy,hhp]) hos rfl
     refine qs.congr (n:=s.nx + 1) h0 ?_ (fun q hq=>?_)
     ·refine List.all_eq_true.2 fun y hy=>?_
      rcases List.mem_or_eq_of_mem_set hy with hy | rfl
      ·exact SH.inB_mono (by omega) (List.all_eq_true.1 (qgn hsc) y hy)
      ·simp [SH.inB]
     ·exact (qil [{ d:=[qV mt.kks e.k] },{ d:=[e.v] }] (ρ.set s.nx { h:=Hp.upd (ρ m).h b' ob }) (s.nx + 1) q hq).symm
    ·show (execOp a.eval o).run P w = _
     have hr1:qc (qq ρ s.nx us) (qbv (s.nx + 1) (mt.kks.map .int) 0) = qV mt.kks e.k:=qfN (by simp only [us,qq]; rw [Env.set_ne _ _ (by omega),Env.set_same]) (qhx hek)
     have hr2:qc (qq ρ s.nx us) (qbv (s.nx + 2) mt.vpat 0) = e.v:=qfN (by simp only [us,qq]; rw [show s.nx + 1 + 1 = s.nx + 2 by omega,Env.set_same]) hev
     simp only [execOp,hop,hxe,Sem.run_bind,hrun,Result.andThen_ok,Sem.run_pure,SV.den,List.map_cons,List.map_nil,qoK,hr1,hr2]
     simp [mkV,qc,T.den,O0.den,O1.den,MT.ent,ob]
 ·cases h

theorem q36 {x:Operand} {ip:List (Nat × Nat)} {r:MR} {Y1 Y2:List U->Prop} (hs:Holds ρ hF s a w) (hsc:s.inNx = true) (hop:o.op = .entry x) (h:qmD P ip s x = some r) (hsem:r.k.sem ρ Y1 Y2):qew P ρ hF s a w o r Y1 Y2:=by
 unfold qmD at h
 split at h
 ·rename_i mt xt pos m hmt hx hpos
  simp only [Option.some.injEq] at h; subst h
  have hxe:=hs.opd hx
  obtain ⟨b',since,seen,clock,b,l,e,hv,hb',⟨n,hn,hb,hwf⟩,he,h1⟩:=hsem
  have hxe:a.eval x = .pointer (some ⟨b',0,none⟩):=by rw [hxe]; exact hv
  have hmem:m ∈ qal s.heap ++ qal s.ro:=List.mem_append_left _ (qpJ hpos)
  have hwb:=qel hs hmem hb'
  have hmb:=qel hs hn hb
  have hek:=(hwf.1 e he).1
  have hev:=(hwf.1 e he).2.1
  let us:List U:=[{ d:=[qV mt.kks e.k] },{ d:=[e.v] }]
  refine ⟨us,_,w,.inl ⟨rfl,h1⟩,rfl,?_,qs.same hs hsc _,?_⟩
  ·intro u hu
   simp only [us,List.mem_cons,List.not_mem_nil,or_false] at hu
   rcases hu with rfl | rfl
   ·exact qid (qhU (qhx hek))
   ·exact qid (qhU hev)
  ·show (execOp a.eval o).run P w = _
   have hr1:qc (qq ρ s.nx us) (qbv s.nx (mt.kks.map .int) 0) = qV mt.kks e.k:=qfN (by simp only [us,qq]; rw [Env.set_ne _ _ (by omega),Env.set_same]) (qhx hek)
   have hr2:qc (qq ρ s.nx us) (qbv (s.nx + 1) mt.vpat 0) = e.v:=qfN (by simp only [us,qq]; rw [Env.set_same]) hev
   simp only [execOp,hop,hxe,Sem.run_bind,q4i hwb hmb hwf he,Result.andThen_ok,Sem.run_pure,SV.den,List.map_cons,List.map_nil,qoK,hr1,hr2]
   simp [MT.ent]
 ·cases h

theorem qxO {ip:List (Nat × Nat)} {r:MR} {Y1 Y2:List U->Prop} (hs:Holds ρ hF s a w) (hsc:s.inNx = true) (h:q1R P ip s o = some r) (hsem:r.k.sem ρ Y1 Y2):qew P ρ hF s a w o r Y1 Y2:=by
 unfold q1R at h
 split at h
 ·rename_i t hop
  simp only [Option.some.injEq] at h; subst h
  exact q6C hs hsc hop hsem
 ·rename_i hop; exact q2n hs hsc hop h hsem
 ·rename_i hop; exact qzU hs hsc hop h hsem
 ·rename_i args tys hop
  split at h
  ·rename_i hargs htys
   exact q1V hs hsc hop (qbI hargs) (qbI htys) h hsem
  ·cases h
 ·rename_i args tys hop
  split at h
  ·rename_i hargs htys
   exact q8c hs hsc hop (qhF hargs) (qhF htys) h hsem
  ·cases h
 ·rename_i hop; exact q8l hs hsc hop h hsem
 ·rename_i hop; exact q3e hs hsc hop h hsem
 ·rename_i hop; exact q6K hs hsc hop h hsem
 ·rename_i hop; exact q36 hs hsc hop h hsem
 ·cases h
end Go.Eng

set_option linter.unusedSimpArgs false
set_option linter.unusedVariables false
namespace Go.Eng
open Go
variable {P:Program} {ρ:Env} {hF:Fr} {s:S} {a:Act} {w:World}


theorem T.den_congrS {p:Nat->Bool} {ρ ρ':Env} (h:∀ m,p m = true->ρ m = ρ' m):∀ (t:T),t.inS p = true->t.den ρ = t.den ρ'
 | .var m,hb=>by simp [T.inS] at hb; simpa [T.den] using h m hb
 | .c0 o,hb=>by
  cases o <;> simp_all [T.inS,T.den,O0.den]
 | .c1 o a,hb=>by
  cases o <;> (simp only [T.inS,Bool.and_eq_true] at hb) <;>
   first
    | (simp only [T.den]; rw [T.den_congrS h a hb]; rfl)
    | (simp only [T.den]; rw [T.den_congrS h a hb.2]; simp [O1.den,h _ hb.1])
 | .c2 o a b,hb=>by
  simp only [T.inS,Bool.and_eq_true] at hb
  simp only [T.den]; rw [T.den_congrS h a hb.1,T.den_congrS h b hb.2]
 | .c3 o a b c,hb=>by
  cases o <;> (simp only [T.inS,Bool.and_eq_true] at hb)
  ·simp only [T.den]; rw [T.den_congrS h a hb.1.1.2,T.den_congrS h b hb.1.2,T.den_congrS h c hb.2]; simp [O3.den,h _ hb.1.1.1]
  all_goals (simp only [T.den]; rw [T.den_congrS h a hb.1.1,T.den_congrS h b hb.1.2,T.den_congrS h c hb.2]; rfl)
 | .ife a b x y,hb=>by
  simp only [T.inS,Bool.and_eq_true] at hb
  simp only [T.den]; rw [T.den_congrS h a hb.1.1.1,T.den_congrS h b hb.1.1.2,T.den_congrS h x hb.1.2,T.den_congrS h y hb.2]

theorem qeq {p:Nat->Bool} {ρ ρ':Env} (h:∀ m,p m = true->ρ m = ρ' m) (ts:List T) (hb:ts.all (T.inS p) = true):qc ρ ts = qc ρ' ts:=by
 unfold qc
 refine List.map_congr_left fun t ht=>?_
 rw [T.den_congrS h t (List.all_eq_true.1 hb t ht)]

theorem SV.den_congrS {p:Nat->Bool} {ρ ρ':Env} (h:∀ m,p m = true->ρ m = ρ' m) (v:SV) (hb:v.inS p = true):v.den ρ = v.den ρ':=by
 cases v with
 | one t=>simp only [SV.inS] at hb; simp only [SV.den]; rw [T.den_congrS h t hb]
 | agg ts=>simp only [SV.inS] at hb; simp only [SV.den]; rw [qeq h ts hb]
 | tup vs =>
  simp only [SV.inS] at hb; simp only [SV.den]
  congr 2
  refine List.map_congr_left fun x hx=>?_
  have:=List.all_eq_true.1 hb x hx
  obtain ⟨g,ts⟩:=x
  cases g <;> simp only [qeQ] <;> rw [qeq h ts this]
 | fn f a b =>
  simp only [SV.inS,Bool.and_eq_true] at hb; simp only [SV.den]
  rw [qeq h a hb.1,qeq h b hb.2]

theorem SH.den_congrS {p:Nat->Bool} {ρ ρ':Env} (h:∀ m,p m = true->ρ m = ρ' m) (x:SH) (hb:x.inS p = true) (hp:Hp):x.den ρ hp↔x.den ρ' hp:=by
 cases x with
 | cells r ty cs=>simp only [SH.inS,Bool.and_eq_true] at hb; simp only [SH.den]; rw [qeq h cs hb.2,h r hb.1]
 | arr r ty pat d cap =>
  simp only [SH.inS,Bool.and_eq_true] at hb; simp only [SH.den]
  rw [T.den_congrS h d hb.1.2,T.den_congrS h cap hb.2,h r hb.1.1]
 | abs m t=>simp only [SH.inS] at hb; simp only [SH.den]; rw [h m hb]

theorem qj5 {p:Nat->Bool} {ρ ρ':Env} (h:∀ m,p m = true->ρ m = ρ' m):∀ (l:List SH),l.all (SH.inS p) = true->∀ hp,qW ρ l hp->qW ρ' l hp
 | [],_,_,_=>trivial
 | x :: xs,hb,hp,⟨h1,h2,hd,hu,hx,hs⟩=>by
  simp only [List.all_cons,Bool.and_eq_true] at hb
  exact ⟨h1,h2,hd,hu,(SH.den_congrS h x hb.1 h1).1 hx,qj5 h xs hb.2 h2 hs⟩


def q2i (nv k base:Nat) (ρ1 ρ:Env):Env:=fun n=>if n < nv then ρ1 n else if n < nv + k then ρ (base + (n - nv)) else {}
def Env.upto (n:Nat) (ρ:Env):Env:=fun m=>if m < n then ρ m else {}
def cutE (base nv:Nat) (ρ:Env):Env:=fun n=>if n < 1000 then (if n < base then ρ n else {}) else if n < 1000 + nv then ρ n else {}
def qeS (base nv:Nat) (ρ:Env):Env:=fun n=>if n < 1000 then (if n < base then ρ n else {}) else if n < 1000 + nv then ρ (base + (n - 1000)) else {}

def Out.den (E:Ctx):Out->Env->Prop
 | .stuck _ _ _,_=>False
 | .need c o,ρ=>(c.den ρ).b = true/\o.den E ρ
 | .br c x y,ρ=>((c.den ρ).b = true->x.den E ρ)/\((c.den ρ).b = false->y.den E ρ)
 | .fresh n o,ρ=>∀ u:U,u.good->o.den E (ρ.set n u)
 | .both x y,ρ=>x.den E ρ/\y.den E ρ
 | .top,_=>True
 | .pre ci Z o,ρ=>(match E.ctrs[ci]? with | some c=>c.pre (Z.env ρ) | none=>False)/\o.den E ρ
 | .post ci ai Z base o,ρ=>(match E.ctrs[ci]? with | some c=>(match c.alts[ai]? with | some al=>al.post (q2i c.nv al.k base (Z.env ρ) ρ) | none=>False) | none=>False)->o.den E ρ
 | .inv li base Z o,ρ=>(match E.invs[li]? with | some I=>I.inv (cutE base I.nv (Z.env ρ)) | none=>False)/\o.den E ρ
 | .hyp li base o,ρ=>(match E.invs[li]? with | some I=>I.inv (qeS base I.nv ρ) | none=>False)->o.den E ρ
 | .back li base Z,ρ=>match E.invs[li]? with | some I=>I.inv (cutE base I.nv (Z.env ρ))/\I.mu (cutE base I.nv (Z.env ρ)) < I.mu (qeS base I.nv ρ) | none=>False
 | .cut li base Z,ρ=>match E.invs[li]? with | some I=>I.inv (cutE base I.nv (Z.env ρ)) | none=>False
 | .pack l n o,ρ=>∀ u:U,u.good->qW ρ l u.h->o.den E (ρ.set n u)
 | .view x pat ms base o,ρ=>∃ d:List (List Value),(∃ m ∈ ms,Rd (ρ m).h pat (x.den ρ).v d)/\∀ u0:U,u0.good->∀ u1:U,u1.good->o.den E (((ρ.set base u0).set (base + 1) u1).set (base + 2) { d:=d })
 | .viewL x pat ms base o,ρ=>∃ d:List (List Value),(∃ m ∈ ms,Rd (ρ m).h pat (x.den ρ).v d)/\∀ u0:U,u0.good->∀ u1:U,u1.good->(x.den ρ).v = .slice (qm u0.r 0) d.length u1.i.toNat->(d.length:Int) <= u1.i->o.den E (((ρ.set base u0).set (base + 1) u1).set (base + 2) { d:=d })
 | .know c o,ρ=>(c.den ρ).b = true->o.den E ρ
 | .take x el pat m base o,ρ=>∃ (h':Hp) (r:Option Addr) (cap:Int) (d:List (List Value)),qA0 (ρ m).h el pat (x.den ρ).v d h' r cap/\o.den E ((((ρ.set base { h:=h' }).set (base + 1) { r:=r }).set (base + 2) { i:=cap }).set (base + 3) { d:=d })
 | .put m rg pat d e c vs base o,ρ=>∀ u:U,u.good->Put (ρ m).h u.h (ρ rg).r pat (d.den ρ).d ((e.den ρ).i.toNat * pat.length + c) (qc ρ vs)->o.den E (ρ.set base u)
 | .mop k base o1 o2,ρ=>k.sem ρ (fun us=>o1.den E (qq ρ base us)) (fun us=>o2.den E (qq ρ base us))
 | .ret ai Z,ρ=>match E.me.alts[ai]? with | some al=>al.post ((Z.env ρ).upto (E.me.nv + al.k)) | none=>False

def Ctr.ok (P:Program) (c:Ctr):Prop :=
 (∀ (args:Array Value) (w:World),(callFunc c.fn args).run P w = .ok (.enter c.fn args) w) /\
 ∀ (ρ:Env) (w:World) (hF:Fr) (hO:Hp),ρ.good->Hp.disj hF hO->((Hp.union hF hO).sub w/\hF.wi w)->qW ρ c.heap hO->(∀ x ∈ c.ro,x.roden ρ hF)->c.pre ρ ->
  Calls P c.fn (c.args.map (SV.den ρ)).toArray w fun e w' =>
   ∃ (ai:Nat) (al:Alt) (ρ':Env),c.alts[ai]? = some al/\ρ'.good/\(∀ n,n < c.nv->ρ' n = ρ n)/\e = .returned (al.ret.den ρ')/\al.post (ρ'.upto (c.nv + al.k))/\qs ρ' hF al.heap w'


variable {E:Ctx}

theorem Holds.withPc (hs:Holds ρ hF s a w) (pc:List (T × Bool)) (h:∀ c b,(c,b) ∈ pc->(c.den ρ).b = b):Holds ρ hF { s with pc:=pc } a w :=
 ⟨hs.gd,hs.nt,hs.df,hs.env,hs.ro,hs.hp,h,hs.vw⟩

theorem qjk (hs:Holds ρ hF s a w) {c:T} (h:((qlv s c).den ρ).b = true):(c.den ρ).b = true:=by
 unfold qlv at h
 split at h
 ·rename_i r
  split at h
  ·rename_i r' ty cs hf
   obtain ⟨H,_,hro,hreg⟩:=hs.found hf
   simp only [SH.reg,Option.some.injEq] at hreg; subst hreg
   obtain ⟨b,o,c,ty',fr,h1,_⟩:=hro
   simp [T.den,O0.den,O1.den,h1]
  ·rename_i r' ty pat d cap hf
   obtain ⟨H,_,hro,hreg⟩:=hs.found hf
   simp only [SH.reg,Option.some.injEq] at hreg; subst hreg
   rw [qE _ _ _ (by simp),qaQ] at h
   rcases hro with h2 | ⟨b,o,c,ty',fr,h1,_⟩
   ·simp [T.den,O0.den,h2,qH] at h
   ·simp [T.den,O0.den,O1.den,h1]
  ·exact h
 ·exact h

theorem qcr:∀ {cs:List T} {s:S} {k:S->Out},Holds ρ hF s a w->(needs s cs k).den E ρ ->
  (∀ c ∈ cs,(c.den ρ).b = true)/\∃ pc,Holds ρ hF { s with pc:=pc } a w/\(k { s with pc:=pc }).den E ρ
 | [],s,k,hs,h=>⟨fun _ h=>(by cases h),s.pc,hs,h⟩
 | c :: cs,s,k,hs,h=>by
  simp only [needs] at h
  split at h
  ·rename_i hk
   have hk:=qdL hs hk
   obtain ⟨h1,h2⟩:=qcr hs h
   exact ⟨fun c' hc'=>by
    cases hc' with
    | head=>exact qjk hs hk
    | tail _ hc'=>exact h1 c' hc',h2⟩
  ·exact h.elim
  ·obtain ⟨hc,h⟩:=h
   obtain ⟨h1,pc,h2⟩:=qcr (s:={ s with pc:=(qlv s c,true) :: s.pc })
    (hs.withPc _ fun c' b hm=>by
     cases hm with
     | head=>exact hc
     | tail _ hm=>exact hs.pc c' b hm) h
   exact ⟨fun c' hc'=>by
    cases hc' with
    | head=>exact qjk hs hc
    | tail _ hc'=>exact h1 c' hc',pc,h2⟩

theorem qw4 {c c':T} {b b':Bool} (h:(c.den ρ).b = b) (he:qs9 c b = (c',b')):(c'.den ρ).b = b':=by
 unfold qs9 at he
 split at he
 ·simp only [Prod.mk.injEq] at he
  obtain ⟨rfl,rfl⟩:=he
  rw [<- h]; simp [T.den,O1.den]
 ·simp only [Prod.mk.injEq] at he
  obtain ⟨rfl,rfl⟩:=he
  exact h

theorem qkO {c:T} {k:Bool->S->Out} (hs:Holds ρ hF s a w) (h:(qlM s c k).den E ρ) :
  ∃ b pc,(c.den ρ).b = b/\Holds ρ hF { s with pc:=pc } a w/\(k b { s with pc:=pc }).den E ρ:=by
 unfold qlM at h
 split at h
 ·rename_i b hk
  exact ⟨b,s.pc,qdL hs hk,hs,h⟩
 ·obtain ⟨h1,h2⟩:=h
  cases hb:(c.den ρ).b with
  | true =>
   exact ⟨true,qs9 c true :: s.pc,rfl,hs.withPc _ (fun c' b hm=>by
    rcases List.mem_cons.1 hm with hm | hm
    ·exact qw4 hb hm.symm
    ·exact hs.pc c' b hm),h1 hb⟩
  | false =>
   exact ⟨false,qs9 c false :: s.pc,rfl,hs.withPc _ (fun c' b hm=>by
    rcases List.mem_cons.1 hm with hm | hm
    ·exact qw4 hb hm.symm
    ·exact hs.pc c' b hm),h2 hb⟩

theorem qbc (h:s.inNx = true):s.env.all (fun x=>x.2.inB s.nx) = true/\s.heap.all (SH.inB s.nx) = true/\s.ro.all (SH.inB s.nx) = true/\s.pc.all (fun x=>x.1.inB s.nx) = true:=by
 simp only [S.inNx,Bool.and_eq_true] at h
 exact ⟨h.1.1.1.1,h.1.1.1.2,h.1.1.2,h.1.2⟩
theorem q8a (h:s.inNx = true):∀ x ∈ s.vw,(∀ m ∈ x.1,m < s.nx)/\x.2.inB s.nx = true:=by
 simp only [S.inNx,Bool.and_eq_true] at h
 intro x hx
 have:=List.all_eq_true.1 h.2 x hx
 simp only [Bool.and_eq_true,List.all_eq_true,Nat.blt_eq] at this
 exact ⟨this.1,this.2⟩

theorem Holds.congr {ρ':Env} (hs:Holds ρ hF s a w) (hsc:s.inNx = true) (hg:ρ'.good) (h:∀ m,m < s.nx->ρ m = ρ' m):Holds ρ' hF s a w:=by
 obtain ⟨h1,h2,h3,h4⟩:=qbc hsc
 refine ⟨hg,hs.nt,hs.df,fun t v hv=>?_,fun x hx=>?_,?_,fun c b hc=>?_,fun x hx=>?_⟩
 ·rw [hs.env t v hv]; exact SV.den_congr h v (qoG h1 hv)
 ·exact (SH.roden_congr h x (List.all_eq_true.1 h3 x hx) hF).1 (hs.ro x hx)
 ·obtain ⟨hO,hd,hst,hsub,hwi⟩:=hs.hp
  exact ⟨hO,hd,qa1 h _ h2 hO hst,hsub,hwi⟩
 ·rw [<- hs.pc c b hc]; exact congrArg U.b (T.den_congr h c (List.all_eq_true.1 h4 (c,b) hc)).symm
 ·obtain ⟨m,hm,hr⟩:=hs.vw x hx
  obtain ⟨g1,g2⟩:=q8a hsc x hx
  refine ⟨m,hm,?_⟩
  rw [<- h m (g1 m hm)]
  exact (SH.roden_congr h x.2 g2 _).1 hr

theorem qa5:∀ (us:List U) (ρ:Env) (n m:Nat),m < n->qq ρ n us m = ρ m
 | [],ρ,n,m,_=>rfl
 | u :: us,ρ,n,m,h=>by
  simp only [qq]
  rw [qa5 us _ (n + 1) m (by omega),Env.set_ne ρ u (by omega)]
theorem qiA:∀ (us:List U) (ρ:Env) (n:Nat),ρ.good->(∀ u ∈ us,u.good)->(qq ρ n us).good
 | [],ρ,n,h,_=>h
 | u :: us,ρ,n,h,hu=>by
  simp only [qq]
  refine qiA us _ _ (fun m=>?_) (fun v hv=>hu v (List.mem_cons_of_mem _ hv))
  by_cases hm:m = n
  ·subst hm; rw [Env.set_same]; exact hu u (List.mem_cons_self ..)
  ·rw [Env.set_ne ρ u hm]; exact h m
theorem qkp:∀ (us:List U) (ρ:Env) (n j:Nat) (u:U),us[j]? = some u->qq ρ n us (n + j) = u
 | [],ρ,n,j,u,h=>by simp at h
 | u' :: us,ρ,n,0,u,h=>by
  simp only [List.getElem?_cons_zero,Option.some.injEq] at h
  simp only [qq,Nat.add_zero]
  rw [qa5 us _ (n + 1) n (by omega),Env.set_same,h]
 | u' :: us,ρ,n,j + 1,u,h=>by
  simp only [List.getElem?_cons_succ] at h
  simp only [qq]
  have:=qkp us (ρ.set n u') (n + 1) j u h
  rwa [show n + 1 + j = n + (j + 1) from by omega] at this

theorem qfl:∀ {us:List U} {ρ:Env} {s:S} {k:S->Out},(∀ u ∈ us,u.good)->(qfA s us.length k).den E ρ ->
  (us = []∨s.inNx = true)/\(k { s with nx:=s.nx + us.length }).den E (qq ρ s.nx us)
 | [],ρ,s,k,_,h=>⟨.inl rfl,h⟩
 | u :: us,ρ,s,k,hu,h=>by
  simp only [List.length_cons,qfA] at h
  split at h
  ·rename_i hsc
   have:=qfl (us:=us) (s:={ s with nx:=s.nx + 1 }) (fun v hv=>hu v (List.mem_cons_of_mem _ hv)) (h u (hu u (List.mem_cons_self ..)))
   refine ⟨.inr hsc,?_⟩
   have h2:=this.2
   simp only [List.length_cons,qq]
   rwa [show s.nx + (us.length + 1) = s.nx + 1 + us.length from by omega]
  ·exact h.elim

theorem Holds.fresh {us:List U} (hs:Holds ρ hF s a w) (hsc:us = []∨s.inNx = true) (hu:∀ u ∈ us,u.good) (n:Nat):Holds (qq ρ s.nx us) hF { s with nx:=n } a w:=by
 rcases hsc with rfl | hsc
 ·exact ⟨hs.gd,hs.nt,hs.df,hs.env,hs.ro,hs.hp,hs.pc,hs.vw⟩
 ·have:=hs.congr hsc (qiA us ρ s.nx hs.gd hu) (fun m hm=>(qa5 us ρ s.nx m hm).symm)
  exact ⟨this.gd,this.nt,this.df,this.env,this.ro,this.hp,this.pc,this.vw⟩

theorem qhz (d:Nat) (v:SV):∀ (l:List (Nat × SV)) (t:Nat) (u:SV),qaV t (qhn d v l) = some u->(t = d/\u = v)∨(t ≠ d/\qaV t l = some u)
 | [],t,u,h=>by
  simp only [qhn,qaV] at h
  split at h
  ·rename_i ht
   simp only [Option.some.injEq] at h
   exact .inl ⟨Nat.eq_of_beq_eq_true ht,h.symm⟩
  ·simp at h
 | (k,x) :: r,t,u,h=>by
  simp only [qhn] at h
  split at h
  ·rename_i hdk
   have hdk:=Nat.eq_of_beq_eq_true hdk
   simp only [qaV] at h ⊢
   split at h
   ·rename_i ht
    simp only [Option.some.injEq] at h
    exact .inl ⟨Nat.eq_of_beq_eq_true ht,h.symm⟩
   ·rename_i ht
    have htd:t ≠ d:=fun he=>ht (by rw [he]; simp)
    refine .inr ⟨htd,?_⟩
    rw [if_neg (by rw [<- hdk]; exact ht)]
    exact h
  ·split at h
   ·simp only [qaV] at h ⊢
    split at h
    ·rename_i ht
     simp only [Option.some.injEq] at h
     exact .inl ⟨Nat.eq_of_beq_eq_true ht,h.symm⟩
    ·rename_i ht
     exact .inr ⟨fun he=>ht (by rw [he]; simp),h⟩
   ·simp only [qaV] at h ⊢
    split at h
    ·rename_i hdk _ ht
     have ht':=Nat.eq_of_beq_eq_true ht
     exact .inr ⟨fun he=>hdk (by rw [<- he,ht']; simp),by simp [ht,h]⟩
    ·rename_i ht
     rcases qhz d v r t u h with h' | h'
     ·exact .inl h'
     ·exact .inr ⟨h'.1,by rw [if_neg ht]; exact h'.2⟩

theorem Holds.put {dst:Option Nat} {v:SV} {s':S} (hs:Holds ρ hF s a w) (h:qcD dst (some v) s = some s'):Holds ρ hF s' (a.put dst (v.den ρ)) w/\s'.nx = s.nx/\s'.ro = s.ro/\s'.nt = s.nt/\s'.heap = s.heap:=by
 cases dst with
 | none =>
  simp only [qcD,Option.some.injEq] at h; subst h
  exact ⟨hs,rfl,rfl,rfl,rfl⟩
 | some d =>
  simp only [qcD] at h
  split at h
  ·rename_i hd
   simp only [Option.some.injEq] at h; subst h
   simp only [Nat.blt_eq] at hd
   have hsz:d < a.tmps.size:=Nat.lt_of_lt_of_le hd hs.nt
   refine ⟨⟨hs.gd,by simpa [Act.put] using hs.nt,hs.df,fun t u hu=>?_,hs.ro,hs.hp,hs.pc,hs.vw⟩,rfl,rfl,rfl,rfl⟩
   rcases qhz d v s.env t u hu with ⟨rfl,rfl⟩ | ⟨hne,hl⟩
   ·simp [Act.put,Array.getD,hsz]
   ·rw [<- hs.env t u hl]
    simp only [Act.put,Array.getD_eq_getD_getElem?]
    rw [Array.getElem?_setIfInBounds_ne (fun h=>hne h.symm)]
  ·simp at h

theorem qnP {dst:Option Nat} {s':S} (h:qcD dst none s = some s'):dst = none/\s' = s:=by
 cases dst with
 | none=>simp only [qcD,Option.some.injEq] at h; exact ⟨rfl,h.symm⟩
 | some d=>simp [qcD] at h


theorem qnX (sel:SH->Bool):∀ {l:List SH} {h:Hp},qW ρ l h->∃ h1 h2,Hp.disj h1 h2/\h = Hp.union h1 h2/\qW ρ (l.filter sel) h1/\qW ρ (l.filter fun x=>!sel x) h2
 | [],h,_=>⟨Hp.emp,h,Hp.emp_disj _,(Hp.emp_union _).symm,trivial,trivial⟩
 | x :: l,h,⟨a1,a2,hd,hu,hx,hs⟩=>by
  obtain ⟨b1,b2,e1,e2,e3,e4⟩:=qnX sel hs
  subst e2; subst hu
  rw [Hp.disj_union] at hd
  cases hsel:sel x with
  | true =>
   refine ⟨Hp.union a1 b1,b2,Hp.disj_union'.2 ⟨hd.2,e1⟩,(Hp.union_assoc _ _ _).symm,?_,?_⟩
   ·simp only [List.filter_cons,hsel,if_true]; exact ⟨a1,b1,hd.1,rfl,hx,e3⟩
   ·simp only [List.filter_cons,hsel,Bool.not_true,Bool.false_eq_true,if_false]; exact e4
  | false =>
   refine ⟨b1,Hp.union a1 b2,Hp.disj_union.2 ⟨hd.1.symm,e1⟩,?_,?_,?_⟩
   ·rw [<- Hp.union_assoc,Hp.union_comm hd.1,Hp.union_assoc]
   ·simp only [List.filter_cons,hsel,Bool.false_eq_true,if_false]; exact e3
   ·simp only [List.filter_cons,hsel,Bool.not_false,if_true]; exact ⟨a1,b2,hd.2,rfl,hx,e4⟩

def qar (E:Ctx) (hF:Fr) (ρ:Env) (s:S) (a:Act) (w:World) (k:S->Out):Prop :=
 ∃ ρ' s',(∀ m,m < s.nx->ρ' m = ρ m)/\s.nx <= s'.nx/\Holds ρ' hF s' a w/\s'.ro = s.ro/\s'.nt = s.nt/\(k s').den E ρ'

theorem qar.self {k:S->Out} (hs:Holds ρ hF s a w) (h:(k s).den E ρ):qar E hF ρ s a w k:=⟨ρ,s,fun _ _=>rfl,Nat.le_refl _,hs,rfl,rfl,h⟩

def Hp.thaw (h:Hp):Hp:=fun b=>match h b with
 | some (.cells c ty fr)=>if fr = (0,0) then some (.cells c ty fr) else none
 | _=>none
theorem Hp.thaw_free (h:Hp):h.thaw.free:=fun b o ho=>by
 unfold Hp.thaw at ho
 split at ho
 ·split at ho
  ·rename_i h0; subst h0; exact ⟨_,_,(Option.some.inj ho).symm⟩
  ·cases ho
 ·cases ho
theorem Hp.thaw_le (h:Hp):Hp.le h.thaw h:=fun b o ho=>by
 unfold Hp.thaw at ho
 split at ho
 ·rename_i hb
  split at ho
  ·rw [hb]; exact ho
  ·cases ho
 ·cases ho
theorem Hp.thaw_at {h:Hp} {b:Nat} {c:Array Value} {ty:TypeId} (hb:h b = some (.cells c ty (0,0))):h.thaw b = some (.cells c ty (0,0)):=by
 simp [Hp.thaw,hb]
theorem Hp.thaw_none {h:Hp} {b:Nat} (hb:h b = none):h.thaw b = none:=by simp [Hp.thaw,hb]
theorem Hp.thaw_union {h1 h2:Hp} (hd:Hp.disj h1 h2):(Hp.union h1 h2).thaw = Hp.union h1.thaw h2.thaw:=by
 funext b
 rcases hd b with h | h
 ·simp only [Hp.union,Hp.thaw_none h,Option.none_or]
  simp only [Hp.thaw,Hp.union,h,Option.none_or]
 ·simp only [Hp.union,Hp.thaw_none h,Option.or_none]
  simp only [Hp.thaw,Hp.union,h,Option.or_none]
theorem SH.den_thaw {ρ:Env} {x:SH} {h:Hp} (ht:qnv x = false) (hx:x.den ρ h):x.den ρ h.thaw:=by
 cases x with
 | cells r ty cs=>obtain ⟨b,h1,h2⟩:=hx; exact ⟨b,h1,Hp.thaw_at h2⟩
 | arr r ty pat d cap =>
  rcases hx with h0 | ⟨b,c,h1,h2,h3⟩
  ·exact .inl h0
  ·exact .inr ⟨b,c,h1,Hp.thaw_at h2,h3⟩
 | abs n t =>
  have ht':Nat.blt t 1001 = true:=by
   simp only [qnv] at ht
   rw [Nat.blt_eq]
   rcases Nat.lt_or_ge t 1001 with h | h
   ·exact h
   ·rw [show Nat.ble 1001 t = true from by rw [Nat.ble_eq]; exact h] at ht; cases ht
  refine ⟨fun b o ho=>?_,hx.2⟩
  obtain ⟨c,ty,rfl⟩:=hx.2 ht' b o ho
  exact Hp.thaw_at (hx.1 b _ ho)
theorem qtA {ρ:Env}:∀ {l:List SH} {h:Hp},l.all (fun x=>!(qnv x)) = true->qW ρ l h->qW ρ l h.thaw
 | [],_,_,_=>trivial
 | x :: l,h,ha,⟨h1,h2,hd,hu,hx,hs⟩=>by
  simp only [List.all_cons,Bool.and_eq_true,Bool.not_eq_true'] at ha
  subst hu
  refine ⟨h1.thaw,h2.thaw,fun b=>?_,Hp.thaw_union hd,SH.den_thaw ha.1 hx,qtA ha.2 hs⟩
  rcases hd b with h | h
  ·exact .inl (Hp.thaw_none h)
  ·exact .inr (Hp.thaw_none h)

theorem qqo {sel:SH->Bool} {t:Nat} {k:S->Out} (hs:Holds ρ hF s a w) (h:(qqC s sel t k).den E ρ):qar E hF ρ s a w k:=by
 unfold qqC at h
 split at h
 ·rename_i hsc0
  simp only [Bool.and_eq_true] at hsc0
  obtain ⟨hsc,hcase⟩:=hsc0
  simp only [Out.den] at h
  obtain ⟨hO,hd,hst,hsub,hwi⟩:=hs.hp
  obtain ⟨h1,h2,e1,e2,e3,e4⟩:=qnX sel hst
  have key:∃ hp:Hp,Hp.le hp h1/\qW ρ (s.heap.filter sel) hp/\(Nat.blt t 1001 = true->hp.free):=by
   cases ht:Nat.beq t 1003 with
   | true=>exact ⟨h1,Hp.le_refl _,e3,fun h=>by rw [Nat.eq_of_beq_eq_true ht] at h; cases h⟩
   | false =>
    rw [ht,Bool.false_or,Bool.and_eq_true] at hcase
    exact ⟨h1.thaw,Hp.thaw_le h1,qtA hcase.1 e3,fun _=>Hp.thaw_free h1⟩
  obtain ⟨hp,hple,hpst,hpfr⟩:=key
  have hu:({ h:=hp }:U).good:=by simp [U.good,Value.oneCell']
  have h:=h { h:=hp } hu hpst
  have hag:∀ m,m < s.nx->(ρ.set s.nx { h:=hp }) m = ρ m:=fun m hm=>Env.set_ne ρ _ (by omega)
  have hg':(ρ.set s.nx { h:=hp }).good:=fun m=>by
   by_cases hm:m = s.nx
   ·subst hm; rw [Env.set_same]; exact hu
   ·rw [Env.set_ne ρ _ hm]; exact hs.gd m
  have hc:=hs.congr hsc hg' (fun m hm=>(hag m hm).symm)
  refine ⟨_,{ s with heap:=.abs s.nx t :: s.heap.filter (fun x=>!sel x),nx:=s.nx + 1 },hag,?_,⟨hc.gd,hc.nt,hc.df,hc.env,hc.ro,⟨hO,hd,?_,hsub,hwi⟩,hc.pc,hc.vw⟩,rfl,rfl,h⟩
  ·exact Nat.le_succ _
  ·subst e2
   refine ⟨h1,h2,e1,rfl,?_,?_⟩
   ·simp only [SH.den,Env.set_same]; exact ⟨hple,hpfr⟩
   ·refine qa1 (n:=s.nx) (fun m hm=>(hag m hm).symm) _ ?_ _ e4
    have:=(qbc hsc).2.1
    exact List.all_eq_true.2 fun x hx=>List.all_eq_true.1 this x (List.mem_filter.1 hx).1
 ·exact h.elim
theorem qnD {sel:SH->Bool} {t:Nat} {k:S->Out} (hs:Holds ρ hF s a w) (h:(qnt s sel t k).den E ρ):qar E hF ρ s a w k:=by
 unfold qnt at h
 split at h
 ·split at h
  ·exact qar.self hs h
  ·exact qqo hs h
 ·exact qqo hs h

theorem qar.bind {k k':S->Out} (h:qar E hF ρ s a w k) (hk:∀ ρ' s',s'.ro = s.ro->s'.nt = s.nt->Holds ρ' hF s' a w->(k s').den E ρ'->qar E hF ρ' s' a w k'):qar E hF ρ s a w k':=by
 obtain ⟨ρ1,s1,a1,a2,a3,a4,a5,a6⟩:=h
 obtain ⟨ρ2,s2,b1,b2,b3,b4,b5,b6⟩:=hk ρ1 s1 a4 a5 a3 a6
 exact ⟨ρ2,s2,fun m hm=>(b1 m (by omega)).trans (a1 m hm),by omega,b3,b4.trans a4,b5.trans a5,b6⟩

theorem qdF {left:List SH}:∀ {ts:List Nat} {s:S} {ρ:Env} {k:S->Out},Holds ρ hF s a w->(qfG s left ts k).den E ρ->qar E hF ρ s a w k
 | [],s,ρ,k,hs,h=>qar.self hs h
 | t :: ts,s,ρ,k,hs,h=>by
  simp only [qfG] at h
  exact (qnD hs h).bind fun ρ' s' _ _ hs' h'=>qdF hs' h'

theorem qge:∀ {ts:List Nat} {s:S} {ρ:Env} {k:S->Out},Holds ρ hF s a w->(qg3 s ts k).den E ρ->qar E hF ρ s a w k
 | [],s,ρ,k,hs,h=>qar.self hs h
 | t :: ts,s,ρ,k,hs,h=>by
  simp only [qg3] at h
  split at h
  ·exact (qnD hs h).bind fun ρ' s' _ _ hs' h'=>qge hs' h'
  ·exact qge hs h

theorem qx2 {ctrs:List Ctr} {o:Oper} {s:S} {ρ:Env} {k:S->Out} (hs:Holds ρ hF s a w) (h:(qrO ctrs s o k).den E ρ):qar E hF ρ s a w k:=by
 unfold qrO at h
 split at h
 ·exact qdF hs h
 ·exact qge hs h

theorem qjy {c:Array Value} {o:Nat} {pat:List CK} {d:List (List Value)} (h:qU c o pat d):∀ row ∈ d,∀ v ∈ row,v.oneCell' = true:=fun row hr v hv =>
 qtu (qj4 h) v (List.mem_flatten.2 ⟨row,hr,hv⟩)

theorem q4r {x:T} {pat:List CK} {ms:List Nat} {base:Nat} {o:Out} (h:(Out.view x pat ms base o).den E ρ):(Out.viewL x pat ms base o).den E ρ:=by
 simp only [Out.den] at h ⊢
 obtain ⟨d,hm,h⟩:=h
 exact ⟨d,hm,fun u0 g0 u1 g1 _ _=>h u0 g0 u1 g1⟩
theorem qnV {ow:List Nat} {x:T} {pat:List CK} {ms:List Nat} {base:Nat} {o:Out} (h:(qqJ ow x pat ms base o).den E ρ):(Out.viewL x pat ms base o).den E ρ:=by
 unfold qqJ at h
 split at h
 ·exact h
 ·exact q4r h
theorem qsQ {t el:Nat} {x:T} {pat:List CK} {u sv:SV} {k:S->Out} {ms:List Nat} (hms:∀ m ∈ ms,m ∈ qai s.heap ++ qai s.ro) (hs:Holds ρ hF s a w) (hsc:s.inNx = true) (hl:qaV t s.env = some u)
  (hsv:∀ ρ':Env,u.den ρ' = u.den ρ->((T.vslice s.nx (.lit 0) (.dlen (.var (s.nx + 2))) (.var (s.nx + 1)) pat.length).den ρ').v = (x.den ρ).v->sv.den ρ' = u.den ρ)
  (h:(Out.viewL x pat ms s.nx (k { s with
     env:=qhn t sv s.env
     vw:=(ms,.arr s.nx el pat (.var (s.nx + 2)) (.var (s.nx + 1))) :: s.vw
     nx:=s.nx + 3 })).den E ρ):qar E hF ρ s a w k:=by
 simp only [Out.den] at h
 obtain ⟨d,⟨m,hm,hrd⟩,h⟩:=h
 have hdg:({ d:=d }:U).good:=by
  refine ⟨rfl,?_⟩
  rcases hrd with ⟨_,_,h2⟩ | ⟨b,o,cap,c,ty,fr,_,_,_,h4⟩
  ·rw [h2]; simp
  ·exact qjy h4
 obtain ⟨r,cap,hval,hlc,hro⟩:∃ (r:Option Addr) (cap:Nat),(x.den ρ).v = .slice (qm r 0) d.length cap/\d.length <= cap /\
   (d = []∨∃ b o c ty fr,r = some ⟨b,o,none⟩/\(ρ m).h b = some (.cells c ty fr)/\qU c o pat d):=by
  rcases hrd with ⟨r,h1,h2⟩ | ⟨b,o,cap,c,ty,fr,h1,h2,h3,h4⟩
  ·exact ⟨r,0,by rw [h1,h2,qjh]; rfl,by rw [h2]; exact Nat.le_refl _,.inl h2⟩
  ·exact ⟨some ⟨b,o,none⟩,cap,by rw [h1]; rfl,h2,.inr ⟨b,o,c,ty,fr,rfl,h3,h4⟩⟩
 have hu0:({ r:=r }:U).good:=by simp [U.good,Value.oneCell']
 have hu1:({ i:=(cap:Int) }:U).good:=by simp [U.good,Value.oneCell']
 have h:=h { r:=r } hu0 { i:=(cap:Int) } hu1 (by rw [hval]; rfl) (Int.ofNat_le.2 hlc)
 let ρ':Env:=((ρ.set s.nx { r:=r }).set (s.nx + 1) { i:=(cap:Int) }).set (s.nx + 2) { d:=d }
 have hag:∀ m,m < s.nx->ρ' m = ρ m:=fun m hm=>by
  simp only [ρ']
  rw [Env.set_ne _ _ (by omega),Env.set_ne _ _ (by omega),Env.set_ne _ _ (by omega)]
 have e0:ρ' s.nx = { r:=r }:=by
  simp only [ρ']
  rw [Env.set_ne _ _ (by omega),Env.set_ne _ _ (by omega),Env.set_same]
 have e1:ρ' (s.nx + 1) = { i:=(cap:Int) }:=by
  simp only [ρ']
  rw [Env.set_ne _ _ (by omega),Env.set_same]
 have e2:ρ' (s.nx + 2) = { d:=d }:=by simp only [ρ']; rw [Env.set_same]
 have hg':ρ'.good:=fun n=>by
  by_cases h2:n = s.nx + 2
  ·subst h2; rw [e2]; exact hdg
  ·by_cases h1:n = s.nx + 1
   ·subst h1; rw [e1]; exact hu1
   ·by_cases h0:n = s.nx
    ·subst h0; rw [e0]; exact hu0
    ·simp only [ρ']
     rw [Env.set_ne _ _ h2,Env.set_ne _ _ h1,Env.set_ne _ _ h0]; exact hs.gd n
 have hc:=hs.congr hsc hg' (fun m hm=>(hag m hm).symm)
 have hmlt:m < s.nx:=by
  have hin:∀ {l:List SH},l.all (SH.inB s.nx) = true->m ∈ qai l->m < s.nx:=by
   intro l
   induction l with
   | nil=>intro _ h; simp [qai] at h
   | cons y l ih =>
    intro hall hmem
    simp only [List.all_cons,Bool.and_eq_true] at hall
    cases y with
    | cells r ty cs=>exact ih hall.2 (by simpa [qai] using hmem)
    | arr r ty pat d cap=>exact ih hall.2 (by simpa [qai] using hmem)
    | abs n t =>
     have hmem:m = n∨m ∈ qai l:=by
      simp only [qai] at hmem
      split at hmem
      ·exact .inr hmem
      ·exact List.mem_cons.1 hmem
     rcases hmem with rfl | hmem
     ·simpa [SH.inB] using hall.1
     ·exact ih hall.2 hmem
  obtain ⟨p1,p2,p3,p4⟩:=qbc hsc
  rcases List.mem_append.1 (hms m hm) with hm | hm
  ·exact hin p2 hm
  ·exact hin p3 hm
 refine ⟨ρ',{ s with
  env:=qhn t sv s.env
  vw:=(ms,.arr s.nx el pat (.var (s.nx + 2)) (.var (s.nx + 1))) :: s.vw
  nx:=s.nx + 3 },hag,?_,⟨hc.gd,hc.nt,hc.df,fun t' u' hu=>?_,hc.ro,hc.hp,hc.pc,fun y hy=>?_⟩,rfl,rfl,h⟩
 ·exact Nat.le_add_right _ _
 ·rcases qhz t _ s.env t' u' hu with ⟨rfl,rfl⟩ | ⟨hne,hl'⟩
  ·rw [hs.env t' _ hl]
   refine (hsv ρ' ((hc.env t' _ hl).symm.trans (hs.env t' _ hl)) ?_).symm
   simp only [T.den,O0.den,O1.den,O3.den,e0,e1,e2,hval]
   simp
  ·exact hc.env t' u' hl'
 ·rcases List.mem_cons.1 hy with rfl | hy
  ·refine ⟨m,hm,?_⟩
   rw [hag m hmlt]
   simp only [SH.roden,T.den,e0,e2]
   exact hro
  ·exact hc.vw y hy

theorem qq1 {ow:List Nat} {s:S} {t:Nat}:∀ m ∈ qff ow s t,m ∈ qai s.heap ++ qai s.ro:=fun m hm=>by
 have hsub:∀ {g:Nat} {l:List SH},m ∈ qai (l.filter (qiM g))->m ∈ qai l:=by
  intro g l
  induction l with
  | nil=>exact fun h=>h
  | cons y l ih =>
   intro h
   rw [List.filter_cons] at h
   split at h
   ·cases y with
    | cells r ty cs=>exact ih (by simpa [qai] using h)
    | arr r ty pat d cap=>exact ih (by simpa [qai] using h)
    | abs n t' =>
     simp only [qai] at h ⊢
     split at h
     ·rename_i h3; rw [if_pos h3]; exact ih h
     ·rename_i h3
      rw [if_neg h3]
      rcases List.mem_cons.1 h with rfl | h
      ·exact List.mem_cons_self ..
      ·exact List.mem_cons_of_mem _ (ih h)
   ·cases y with
    | cells r ty cs=>exact (by simpa [qai] using ih h)
    | arr r ty pat d cap=>exact (by simpa [qai] using ih h)
    | abs n t' =>
     simp only [qai]
     split
     ·exact ih h
     ·exact List.mem_cons_of_mem _ (ih h)
 unfold qff at hm
 split at hm
 ·exact List.mem_append_left _ (hsub hm)
 ·split at hm
  ·exact List.mem_append_left _ hm
  ·split at hm
   ·exact List.mem_append_right _ hm
   ·exact hm

theorem q4C {ow:List Nat} {t el:Nat} {pat:List CK} {k:S->Out} (hs:Holds ρ hF s a w) (h:(q1K ow s t el pat k).den E ρ):qar E hF ρ s a w k:=by
 unfold q1K at h
 split at h
 ·rename_i x hl
  split at h
  ·split at h
   ·rename_i hsc
    simp only [Bool.and_eq_true,Nat.blt_eq] at hsc
    exact qsQ (ms:=qff ow s t) qq1 (x:=x) (sv:=.one (.vslice s.nx (.lit 0) (.dlen (.var (s.nx + 2))) (.var (s.nx + 1)) pat.length)) hs hsc.1 hl (fun ρ' _ h2=>h2) (qnV h)
   ·exact h.elim
  ·exact qar.self hs h
 ·exact qar.self hs h

theorem qvf (ρ:Env):∀ ts:List T,qc ρ ts = ts.map fun t=>(t.den ρ).v
 | []=>rfl
 | t :: ts=>by rw [List.map_cons,<- qvf ρ ts]; rfl
theorem q34 {ow:List Nat} {t j el:Nat} {pat:List CK} {k:S->Out} (hs:Holds ρ hF s a w) (h:(q2w ow s t j el pat k).den E ρ):qar E hF ρ s a w k:=by
 unfold q2w at h
 split at h
 ·rename_i cs hl
  split at h
  ·rename_i x hx
   split at h
   ·split at h
    ·rename_i hsc
     simp only [Bool.and_eq_true,Nat.blt_eq] at hsc
     refine qsQ (ms:=qff ow s t) qq1 (x:=x) (sv:=.agg (cs.set j (.vslice s.nx (.lit 0) (.dlen (.var (s.nx + 2))) (.var (s.nx + 1)) pat.length))) hs hsc.1 hl (fun ρ' h1 h2=>?_) (qnV h)
     simp only [SV.den,Value.agg.injEq,qvf] at h1 ⊢
     have h1:cs.map (fun t=>(t.den ρ').v) = cs.map fun t=>(t.den ρ).v:=by simpa using h1
     rw [List.map_set,h2,h1]
     congr 1
     apply List.ext_getElem?
     intro i
     rw [List.getElem?_set]
     split
     ·rename_i hij
      subst hij
      split
      ·rw [List.getElem?_map,hx]; rfl
      ·rename_i hlt
       rw [List.getElem?_eq_none (by omega)]
     ·rfl
    ·exact h.elim
   ·exact qar.self hs h
  ·exact qar.self hs h
 ·exact qar.self hs h

theorem qqV {ow:List Nat}:∀ {l:List (Nat × Nat × Nat × List CK)} {s:S} {ρ:Env} {k:S->Out},Holds ρ hF s a w->(qqB ow s l k).den E ρ->qar E hF ρ s a w k
 | [],s,ρ,k,hs,h=>qar.self hs h
 | (t,j,el,pat) :: l,s,ρ,k,hs,h=>by
  simp only [qqB] at h
  exact (q34 hs h).bind fun ρ' s' _ _ hs' h'=>qqV hs' h'

theorem qqA {ow:List Nat}:∀ {l:List (Nat × Nat × List CK)} {s:S} {ρ:Env} {k:S->Out},Holds ρ hF s a w->(qp4 ow s l k).den E ρ->qar E hF ρ s a w k
 | [],s,ρ,k,hs,h=>qar.self hs h
 | (t,el,pat) :: l,s,ρ,k,hs,h=>by
  simp only [qp4] at h
  exact (q4C hs h).bind fun ρ' s' _ _ hs' h'=>qqA hs' h'

theorem qg1 {t c:T} (hs:Holds ρ hF s a w) (h:qe2 s t = some c):(c.den ρ).b = true:=by
 unfold qe2 at h
 split at h
 ·split at h
  ·rename_i k rr ty pat d cap hat
   simp only [Option.some.injEq] at h; subst h
   obtain ⟨hk,hreg⟩:=qG hat
   obtain ⟨hO,hd,hst,hsub,hwi⟩:=hs.hp
   obtain ⟨t1,t2,td,tu,tx,ts⟩:=qY hst hk
   rw [qE _ _ _ (by simp),qaQ]
   simp only [qH,decide_eq_true_eq]
   rcases tx with ⟨_,h2,h3⟩ | ⟨b,c,h1,h2,h3,h4,h5⟩
   ·rw [h2,h3]; simp
   ·exact h4
  ·cases h
 ·cases h
theorem qtX {x:Operand} {c:T} (hs:Holds ρ hF s a w) (h:qsw s x = some c):(c.den ρ).b = true:=by
 unfold qsw at h
 split at h
 ·obtain ⟨t,_,ht⟩:=List.exists_of_findSome?_eq_some h
  exact qg1 hs ht
 ·split at h
  ·obtain ⟨t,_,ht⟩:=List.exists_of_findSome?_eq_some h
   exact qg1 hs ht
  ·cases h
 ·cases h
theorem q32 {ow:List Nat} {t el:Nat} {pat:List CK} {k:S->Out} (hs:Holds ρ hF s a w) (h:(q0j ow s t el pat k).den E ρ):qar E hF ρ s a w k:=by
 unfold q0j at h
 split at h
 ·exact qar.self hs h
 ·rename_i g _
  split at h
  ·rename_i x hl
   split at h
   ·split at h
    ·rename_i j m hj
     split at h
     ·rename_i hsc0
      simp only [Bool.and_eq_true,Nat.blt_eq] at hsc0
      obtain ⟨hsc,_⟩:=hsc0
      simp only [Out.den] at h
      obtain ⟨h',r,cap,d,⟨hval,hcase⟩,h⟩:=h
      have hdg:({ d:=d }:U).good:=by
       refine ⟨rfl,?_⟩
       rcases hcase with ⟨_,h2,_⟩ | ⟨b,c,_,_,_,_,h4,_⟩
       ·rw [h2]; simp
       ·exact qjy h4
      have hu:∀ {i:Int} {r:Option Addr} {h:Hp},({ i:=i,r:=r,h:=h }:U).good:=by simp [U.good,Value.oneCell']
      let ρ':Env:=(((ρ.set s.nx { h:=h' }).set (s.nx + 1) { r:=r }).set (s.nx + 2) { i:=cap }).set (s.nx + 3) { d:=d }
      have hag:∀ m,m < s.nx->ρ' m = ρ m:=fun m hm=>by
       simp only [ρ']
       rw [Env.set_ne _ _ (by omega),Env.set_ne _ _ (by omega),Env.set_ne _ _ (by omega),Env.set_ne _ _ (by omega)]
      have e0:ρ' s.nx = { h:=h' }:=by
       simp only [ρ']
       rw [Env.set_ne _ _ (by omega),Env.set_ne _ _ (by omega),Env.set_ne _ _ (by omega),Env.set_same]
      have e1:ρ' (s.nx + 1) = { r:=r }:=by
       simp only [ρ']
       rw [Env.set_ne _ _ (by omega),Env.set_ne _ _ (by omega),Env.set_same]
      have e2:ρ' (s.nx + 2) = { i:=cap }:=by
       simp only [ρ']
       rw [Env.set_ne _ _ (by omega),Env.set_same]
      have e3:ρ' (s.nx + 3) = { d:=d }:=by simp only [ρ']; rw [Env.set_same]
      have hg':ρ'.good:=fun n=>by
       by_cases h3:n = s.nx + 3
       ·subst h3; rw [e3]; exact hdg
       ·by_cases h2:n = s.nx + 2
        ·subst h2; rw [e2]; exact hu
        ·by_cases h1:n = s.nx + 1
         ·subst h1; rw [e1]; exact hu
         ·by_cases h0:n = s.nx
          ·subst h0; rw [e0]; exact hu
          ·simp only [ρ']
           rw [Env.set_ne _ _ h3,Env.set_ne _ _ h2,Env.set_ne _ _ h1,Env.set_ne _ _ h0]; exact hs.gd n
      have hc:=hs.congr hsc hg' (fun m hm=>(hag m hm).symm)
      obtain ⟨hO,hd,hst,hsub,hwi⟩:=hs.hp
      obtain ⟨t1,t2,td,tu,tx,ts⟩:=qY hst (qd2 hj)
      have hall:=(qbc hsc).2.1
      have ts':qW ρ' (s.heap.eraseIdx j) t2:=qa1 (n:=s.nx) (fun m hm=>(hag m hm).symm) _ (List.all_eq_true.2 fun x hx=>List.all_eq_true.1 hall x (List.mem_of_mem_eraseIdx hx)) _ ts
      have hnew:qW ρ' (.arr (s.nx + 1) el pat (.var (s.nx + 3)) (.var (s.nx + 2)) :: .abs s.nx g :: s.heap.eraseIdx j) hO:=by
       rcases hcase with ⟨c1,c2,c3,c4⟩ | ⟨b,c,c1,c2,c3,c4,c5,c6⟩
       ·refine ⟨Hp.emp,hO,Hp.emp_disj _,(Hp.emp_union _).symm,.inl ?_,t1,t2,td,tu,?_,ts'⟩
        ·simp only [T.den,e1,e2,e3]; exact ⟨c1,c2,c3⟩
        ·simp only [SH.den,e0,c4]; exact tx
       ·have hb1:t1 b = some (.cells c el (0,0)):=tx.1 _ _ c2
        have hb2:t2 b = none:=(td b).resolve_left (by rw [hb1]; simp)
        refine ⟨Hp.one b (.cells c el (0,0)),Hp.union (t1.del b) t2,fun y=>?_,?_,.inr ⟨b,c,?_⟩,t1.del b,t2,fun y=>?_,rfl,?_,ts'⟩
        ·by_cases hy:y = b
         ·subst hy; right; simp [Hp.union,Hp.del,hb2]
         ·left; simp [Hp.one,hy]
        ·funext y
         rw [tu]
         by_cases hy:y = b
         ·subst hy; simp [Hp.union,Hp.one,hb1]
         ·simp [Hp.union,Hp.one,Hp.del,hy]
        ·simp only [T.den,e1,e2,e3]
         exact ⟨c1,by simp [Hp.one],c3,c4,c5⟩
        ·by_cases hy:y = b
         ·left; simp [Hp.del,hy]
         ·simpa [Hp.del,hy] using td y
        ·simp only [SH.den,e0,c6]
         refine ⟨fun y ob hy=>?_,fun ht y ob hy=>?_⟩
         ·by_cases hyb:y = b
          ·simp [Hp.del,hyb] at hy
          ·simp only [Hp.del,hyb,if_false] at hy ⊢; exact tx.1 _ _ hy
         ·by_cases hyb:y = b
          ·simp [Hp.del,hyb] at hy
          ·simp only [Hp.del,hyb,if_false] at hy; exact tx.2 ht _ _ hy
      refine ⟨ρ',{ s with
       env:=qhn t (.one (.vslice (s.nx + 1) (.lit 0) (.dlen (.var (s.nx + 3))) (.var (s.nx + 2)) pat.length)) s.env
       heap:=.arr (s.nx + 1) el pat (.var (s.nx + 3)) (.var (s.nx + 2)) :: .abs s.nx g :: s.heap.eraseIdx j
       nx:=s.nx + 4 },hag,?_,⟨hc.gd,hc.nt,hc.df,fun t' u' hu=>?_,hc.ro,⟨hO,hd,hnew,hsub,hwi⟩,hc.pc,hc.vw⟩,rfl,rfl,h⟩
      ·exact Nat.le_add_right _ _
      ·rcases qhz t _ s.env t' u' hu with ⟨rfl,rfl⟩ | ⟨hne,hl'⟩
       ·rw [hs.env t' _ hl]
        simp only [SV.den,T.den,O0.den,O1.den,O3.den,e1,e2,e3,hval]
        simp
       ·exact hc.env t' u' hl'
     ·exact h.elim
    ·exact qar.self hs h
   ·exact qar.self hs h
  ·exact qar.self hs h
theorem q4g {o:Oper} {ow:List Nat} {k:S->Out} (hs:Holds ρ hF s a w) (h:(q1Z P ow s o k).den E ρ):qar E hF ρ s a w k:=by
 unfold q1Z at h
 split at h
 ·split at h
  ·split at h
   ·exact q32 hs h
   ·exact qar.self hs h
  ·exact qar.self hs h
 ·exact qar.self hs h
theorem qlK {ip:List (Nat × Nat)} {o:Oper} {c:T} (hs:Holds ρ hF s a w) (h:qvR ip s o = some c):(c.den ρ).b = true:=by
 have key:∀ {x:Operand} {c:T},(match opd s x with
  | some (.one (.c3 (.vslice r _) _ _ _)) =>
   match qaf r s.heap with
   | some (_,.arr _ _ _ d cap)=>some (qr .leq (qR d) cap)
   | _=>none
  | _=>none) = some c->(c.den ρ).b = true:=by
  intro x c h
  split at h
  ·split at h
   ·rename_i r' p' off len cap' hx _ k rr ty pat d cap hat
    simp only [Option.some.injEq] at h; subst h
    obtain ⟨hk,hreg⟩:=qG hat
    obtain ⟨hO,hd,hst,hsub,hwi⟩:=hs.hp
    obtain ⟨t1,t2,td,tu,tx,ts⟩:=qY hst hk
    rw [qE _ _ _ (by simp),qaQ]
    simp only [qH,decide_eq_true_eq]
    rcases tx with ⟨_,h2,h3⟩ | ⟨b,c,h1,h2,h3,h4,h5⟩
    ·rw [h2,h3]; simp
    ·exact h4
   ·cases h
  ·cases h
 unfold qvR at h
 simp only at h
 split at h
 ·exact key h
 ·split at h
  ·split at h
   ·exact key h
   ·cases h
  ·cases h
 ·cases h
 ·split at h
  ·split at h
   ·obtain ⟨x,_,hx⟩:=List.exists_of_findSome?_eq_some h
    exact key hx
   ·split at h
    ·obtain ⟨x,_,hx⟩:=List.exists_of_findSome?_eq_some h
     exact qtX hs hx
    ·cases h
  ·cases h
 ·cases h

theorem q3y {ip:List (Nat × Nat)} {o:Oper} {k:S->Out} (hs:Holds ρ hF s a w) (h:(qpW ip s o k).den E ρ):qar E hF ρ s a w k:=by
 unfold qpW at h
 split at h
 ·rename_i c hc
  split at h
  ·exact qar.self hs h
  ·have hc:=qlK hs hc
   exact ⟨ρ,{ s with pc:=(c,true) :: s.pc },fun _ _=>rfl,Nat.le_refl _,hs.withPc _ (fun c' b hm=>by
    cases hm with
    | head=>exact hc
    | tail _ hm=>exact hs.pc c' b hm),rfl,rfl,h hc⟩
 ·exact qar.self hs h

theorem qrY {x:Operand} {c:T} (hs:Holds ρ hF s a w) (h:c ∈ qoW s x):(c.den ρ).b = true:=by
 have key:∀ {ts:List T},c ∈ ts.filterMap (qe2 s)->(c.den ρ).b = true:=fun h=>by
  obtain ⟨t,_,ht⟩:=List.mem_filterMap.1 h
  exact qg1 hs ht
 unfold qoW at h
 split at h
 ·split at h
  ·exact key h
  ·cases h
 ·exact key h
 ·exact key h
 ·cases h
theorem qtD {ip:List (Nat × Nat)} {o:Oper} {c:T} (hs:Holds ρ hF s a w) (h:c ∈ qr7 ip s o):(c.den ρ).b = true:=by
 unfold qr7 at h
 split at h
 ·split at h
  ·split at h
   ·obtain ⟨x,_,hx⟩:=List.mem_flatMap.1 h
    exact qrY hs hx
   ·cases h
  ·cases h
 ·cases h
theorem qkI:∀ {cs:List T} {s:S} {k:S->Out},(∀ c ∈ cs,(c.den ρ).b = true)->Holds ρ hF s a w->(qlR s cs k).den E ρ->qar E hF ρ s a w k
 | [],s,k,_,hs,h=>qar.self hs h
 | c :: cs,s,k,hc,hs,h=>by
  simp only [qlR] at h
  split at h
  ·exact qkI (fun c hm=>hc c (List.mem_cons_of_mem _ hm)) hs h
  ·have h0:=hc c (List.mem_cons_self ..)
   have hs':Holds ρ hF { s with pc:=(c,true) :: s.pc } a w:=hs.withPc _ (fun c' b hm=>by
    cases hm with
    | head=>exact h0
    | tail _ hm=>exact hs.pc c' b hm)
   obtain ⟨ρ',s',a1,a2,a3,a4,a5,a6⟩:=qkI (fun c hm=>hc c (List.mem_cons_of_mem _ hm)) hs' (h h0)
   exact ⟨ρ',s',a1,a2,a3,a4,a5,a6⟩
theorem q2H {ip:List (Nat × Nat)} {o:Oper} {k:S->Out} (hs:Holds ρ hF s a w) (h:(q0v ip s o k).den E ρ):∃ pc,Holds ρ hF { s with pc:=pc } a w/\(k { s with pc:=pc }).den E ρ:=by
 unfold q0v at h
 split at h
 ·unfold qpW at h
  split at h
  ·rename_i c hc
   split at h
   ·exact ⟨s.pc,hs,h⟩
   ·have hc:=qlK hs hc
    exact ⟨(c,true) :: s.pc,hs.withPc _ (fun c' b hm=>by
     cases hm with
     | head=>exact hc
     | tail _ hm=>exact hs.pc c' b hm),h hc⟩
  ·exact ⟨s.pc,hs,h⟩
 ·exact ⟨s.pc,hs,h⟩

theorem qtJ {s':S} {H:Hp} (hvw:∀ x ∈ s'.vw,∃ m ∈ x.1,x.2.roden ρ (ρ m).h) (hp:∀ m,s'.piece m = true->Hp.le (ρ m).h H):∀ x ∈ qhI s',x.roden ρ H:=by
 intro x hx
 unfold qhI at hx
 obtain ⟨y,hy,rfl⟩:=List.mem_map.1 hx
 obtain ⟨h1,h2⟩:=List.mem_filter.1 hy
 obtain ⟨m,hm,hr⟩:=hvw y h1
 exact SH.ro_mono hr (hp m (List.all_eq_true.1 h2 m hm))

end Go.Eng

set_option linter.unusedSimpArgs false
set_option linter.unusedVariables false
namespace Go.Eng
open Go
variable {ρ:Env} {hF:Fr} {s:S} {a:Act} {w:World} {E:Ctx}

theorem qk3 {Z:Sg} {cs:List T} (h:Z.left = some cs) (hc:∀ c ∈ cs,(c.den ρ).b = true):Sat Z ρ:=by
 unfold Sg.left at h
 split at h
 ·rename_i x y z hx hy hz
  simp only [Option.some.injEq] at h; subst h
  refine ⟨?_,?_,?_⟩
  ·exact qhb (ρ:=ρ) _ (fun p a=>(p.den (Z.env ρ)).i = (a.den ρ).i) (fun p p' a hp hs=>by rw [<- Sg.sub_den hp,T.same_eq hs])
    (fun p p' a c hp hf hb=>by
     simp only [Option.some.injEq] at hf; subst hf
     rw [qE _ _ _ (by simp)] at hb
     rw [<- Sg.sub_den hp]
     simpa [qH] using hb) hx (fun c hm=>hc c (by simp [hm]))
  ·exact qhb (ρ:=ρ) _ (fun p a=>(p.den (Z.env ρ)).b = (a.den ρ).b) (fun p p' a hp hs=>by rw [<- Sg.sub_den hp,T.same_eq hs])
    (fun p p' a c hp hf hb=>by
     simp only [Option.some.injEq] at hf; subst hf
     rw [qiO] at hb
     rw [<- Sg.sub_den hp]
     simpa using hb) hy (fun c hm=>hc c (by simp [hm]))
  ·exact qhb (ρ:=ρ) _ (fun p a=>(p.den (Z.env ρ)).d = (a.den ρ).d) (fun p p' a hp hs=>by rw [<- Sg.sub_den hp,T.same_eq hs])
    (fun p p' a c hp hf hb=>by simp at hf) hz (fun c hm=>hc c (by simp [hm]))
 ·simp at h

theorem Bd.den_good (hg:ρ.good) (b:Bd):(b.den ρ).good:=by
 cases b with
 | t x=>exact T.den_good hg x
 | r m=>exact hg m
 | nil=>simp [Bd.den,U.good,Value.oneCell']
theorem Sg.env_good (hg:ρ.good) (Z:Sg):(Z.env ρ).good:=fun n=>by
 unfold Sg.env
 split
 ·exact hg n
 ·split
  ·exact Bd.den_good hg _
  ·simp [U.good,Value.oneCell']


theorem qfV {ops:Array Oper} {o:Oper} {g:Option (T × Bool)} (hs:Holds ρ hF s a w) (h:qmS ops s o = some g) :
  match g with
  | none=>Region.wanted o (yielded ops a.tmps) = true
  | some (c,want)=>Region.wanted o (yielded ops a.tmps) = decide ((c.den ρ).b = want):=by
 unfold qmS at h
 unfold Region.wanted
 split at h
 ·rename_i hg
  simp only [Option.some.injEq] at h; subst h
  simp [hg]
 ·rename_i j want hg
  split at h
  ·rename_i t ht
   split at h
   ·rename_i c hl
    simp only [Option.some.injEq] at h; subst h
    have he:=hs.env t _ hl
    simp only [SV.den,T.den,O1.den] at he
    have:a.tmps[t]? = some (.bool (c.den ρ).b):=by
     rw [Array.getD_eq_getD_getElem?] at he
     cases hx:a.tmps[t]? with
     | none=>rw [hx] at he; simp [undef] at he
     | some v=>rw [hx] at he; simpa using he
    simp only [hg,yielded,ht,Option.bind_some,this]
    cases (c.den ρ).b <;> cases want <;> rfl
   ·rename_i hl
    simp only [Option.some.injEq] at h; subst h
    have he:=hs.env t _ hl
    simp only [SV.den,List.map_nil] at he
    have:yielded ops a.tmps j = none:=by
     simp only [yielded,ht,Option.bind_some]
     rw [Array.getD_eq_getD_getElem?] at he
     cases hx:a.tmps[t]? with
     | none=>rfl
     | some v=>rw [hx] at he; simp only [Option.getD_some] at he; subst he; rfl
    simp only [hg,this,T.den,O0.den]
    cases want <;> rfl
   ·simp at h
  ·simp at h


def qmi (tmps:Array Value):ResultVar->Sem Value
 | .tmp t=>pure (tmps.getD t undef)
 | .cell a t=>do loadVar t (<- asAddr (tmps.getD a undef))

theorem q0e (fn:Func) (tmps:Array Value):results fn tmps = (do let vs <- fn.results.mapM (qmi tmps); pure (if h:vs.size = 1 then vs[0] else .tuple vs)):=by
 unfold results
 congr 2

theorem qua (hs:Holds ρ hF s a w) {cs:List T} (h:qzp s cs = true):∀ c ∈ cs,(c.den ρ).b = true:=fun c hc=>by
 have h1:=List.all_eq_true.1 h c hc
 split at h1
 ·rename_i hk; exact qjk hs (qdL hs hk)
 ·cases h1
theorem qm8 {r:ResultVar} {P:Program} {v:SV} (hs:Holds ρ hF s a w) (h:qm3 P s r = some v):(qmi a.tmps r).run P w = .ok (v.den ρ) w:=by
 cases r with
 | tmp t=>simp only [qm3] at h; simp only [qmi,Sem.run_pure,hs.env t v h]
 | cell x t =>
  simp only [qm3] at h
  simp only [qmi]
  split at h
  ·rename_i rg p c e ag n hx hag hsz
   have hev:=hs.env x _ hx
   split at h
   ·rename_i k y hat
    obtain ⟨H,hsub,hro,hreg⟩:=hs.found (r:=rg) (k:=k) (x:=y) (by simp [S.look,hat])
    split at h
    ·rename_i cs nd hrd
     split at h
     ·rename_i hnd
      obtain ⟨hl,b,off,c',ty,fr,h1,h2,h3⟩:=qfm hrd hro hreg (qua hs hnd)
      simp only [SV.den,T.den,O1.den,h1,qm,Option.map_some] at hev
      simp only [Sem.run_bind,hev,asAddr,Sem.run_pure,Result.andThen_ok]
      split at h
      ·rename_i hagt
       simp only [Option.some.injEq] at h; subst h; subst hagt
       rw [qdK (P:=P) (w:=w) hag hsz (hsub _ _ h2) (by simp [qc,hl]) h3 (by simp)]
       simp [SV.den]
      ·rename_i hagf
       split at h
       ·rename_i t' _
        simp only [Option.some.injEq] at h; subst h
        have hagf':ag = false:=by simpa using hagf
        subst hagf'
        rw [qdK (P:=P) (w:=w) hag hsz (hsub _ _ h2) (by rw [<- hl]; simp [qc]) h3 (fun _=>by rw [<- hl]; rfl)]
        simp [SV.den,qc]
       ·simp at h
     ·simp at h
    ·simp at h
   ·simp at h
  ·simp at h

theorem qzP {v:SV} {x:Bool × List T} (h:quT v = some x):qeQ ρ x = v.den ρ:=by
 unfold quT at h
 split at h <;> simp only [Option.some.injEq,reduceCtorEq] at h <;> subst h <;> simp [SV.den,qeQ,qc]

theorem qnb {P:Program} (hs:Holds ρ hF s a w):∀ {rs:List ResultVar} {l:List (Bool × List T)},qmJ P s rs = some l ->
  (rs.mapM (qmi a.tmps)).run P w = .ok (l.map (qeQ ρ)) w/\l.length = rs.length
 | [],l,h=>by simp only [qmJ,Option.some.injEq] at h; subst h; simp
 | r :: rs,l,h=>by
  simp only [qmJ] at h
  split at h
  ·rename_i x l' hx hl
   simp only [Option.some.injEq] at h; subst h
   simp only [Option.bind_eq_some_iff] at hx
   obtain ⟨v,hv,hf⟩:=hx
   have h1:=qm8 hs hv
   obtain ⟨h2,h3⟩:=qnb hs hl
   simp only [List.mapM_cons,Sem.run_bind,h1,h2,Result.andThen_ok,Sem.run_pure,List.map_cons,qzP hf,List.length_cons,h3,and_self]
  ·simp at h

theorem qjJ {fn:Func} {P:Program} {v:SV} (hs:Holds ρ hF s a w) (h:qls fn s P = some v):(results fn a.tmps).run P w = .ok (v.den ρ) w:=by
 unfold qls at h
 rw [q0e]
 simp only [Sem.run_bind,Array.mapM_eq_mapM_toList,Sem.run_map]
 split at h
 ·rename_i r hr
  have h1:=qm8 hs h
  rw [hr]
  simp only [List.mapM_cons,List.mapM_nil,Sem.run_bind,h1,Result.andThen_ok,Sem.run_pure]
  simp
 ·rename_i rs hne
  simp only [Option.map_eq_some_iff] at h
  obtain ⟨vs,hvs,rfl⟩:=h
  obtain ⟨h1,hl⟩:=qnb hs hvs
  rw [h1]
  simp only [Result.andThen_ok,Sem.run_pure]
  have hne1:¬ (vs.map (qeQ ρ)).toArray.size = 1:=by
   intro h1
   simp only [List.size_toArray,List.length_map] at h1
   rw [hl] at h1
   match hrs:fn.results.toList,h1 with
   | [x],_=>exact hne x hrs
  rw [dif_neg hne1]
  simp [SV.den]

end Go.Eng

set_option linter.unusedSimpArgs false
set_option linter.unusedVariables false
namespace Go.Eng
open Go
variable {P:Program} {ops:Array Oper} {Q:Exit->Act->World->Prop} {md:Region.Mode} {S:World->Prop} {A:List Nat}

def qih (md:Region.Mode) (ops:Array Oper) (listed:Array Bool):Prop :=
 ∀ j o,ops[j]? = some o->listed.getD j false = true->∀ e ∈ o.after,Region.binds md e = true->listed.getD e.on false = true

theorem qqR {listed:Array Bool} {j:Nat} (h:qih md ops listed) (hj:j ∈ Region.ready md ops listed):qih md ops (listed.setIfInBounds j true):=by
 intro k o ho hk e he hb
 obtain ⟨hjun,oj,hoj,hall⟩:=mem_ready.1 hj
 have mono:∀ n,listed.getD n false = true->(listed.setIfInBounds j true).getD n false = true:=fun n hn=>by
  simp only [Array.getD_eq_getD_getElem?] at hn ⊢
  rw [Array.getElem?_setIfInBounds]
  split
  ·rename_i hjn; subst hjn
   split
   ·rfl
   ·rename_i hlt
    rw [Array.getElem?_eq_none (by omega)] at hn; cases hn
  ·exact hn
 by_cases hkj:k = j
 ·subst hkj
  rw [hoj] at ho; cases ho
  exact mono _ (hall e he hb)
 ·refine mono _ (h k o ho ?_ e he hb)
  simp only [Array.getD_eq_getD_getElem?] at hk ⊢
  rw [Array.getElem?_setIfInBounds_ne (Ne.symm hkj)] at hk
  exact hk

theorem qut (n:Nat):qih md ops (Array.replicate n false):=by
 intro j o _ hj
 simp only [Array.getD_eq_getD_getElem?,Array.getElem?_replicate] at hj
 split at hj <;> cases hj

inductive Reach (md:Region.Mode) (ops:Array Oper):Nat->Nat->Prop where
 | one {j:Nat} {o:Oper} {e:Edge} (ho:ops[j]? = some o) (he:e ∈ o.after) (hb:Region.binds md e = true):Reach md ops j e.on
 | step {j i:Nat} {o:Oper} {e:Edge} (ho:ops[j]? = some o) (he:e ∈ o.after) (hb:Region.binds md e = true) (h:Reach md ops e.on i):Reach md ops j i

theorem qtd {acc:Array Nat} {i:Nat}:∀ {l:List Edge} {m0:Nat},(l.foldl (fun m e=>if Region.binds md e then m ||| 2 ^ e.on ||| acc.getD e.on 0 else m) m0).testBit i = true ->
  m0.testBit i = true∨∃ e ∈ l,Region.binds md e = true/\(e.on = i∨(acc.getD e.on 0).testBit i = true)
 | [],m0,h=>.inl h
 | e :: l,m0,h=>by
  simp only [List.foldl_cons] at h
  rcases qtd h with h | ⟨e',he',hb,hx⟩
  ·split at h
   ·rename_i hb
    simp only [Nat.testBit_or,Bool.or_eq_true,Nat.testBit_two_pow,decide_eq_true_eq] at h
    rcases h with (h | h) | h
    ·exact .inl h
    ·exact .inr ⟨e,List.mem_cons_self ..,hb,.inl h⟩
    ·exact .inr ⟨e,List.mem_cons_self ..,hb,.inr h⟩
   ·exact .inl h
  ·exact .inr ⟨e',List.mem_cons_of_mem _ he',hb,hx⟩

theorem qq7:∀ (l:List Oper) (acc:Array Nat),(∀ n:Nat,l[n]? = ops[acc.size + n]?)->(∀ j m,acc[j]? = some m->∀ i,m.testBit i = true->Reach md ops j i) ->
  ∀ j m,(qps md l acc)[j]? = some m->∀ i,m.testBit i = true->Reach md ops j i
 | [],acc,_,hi=>hi
 | o :: r,acc,hl,hi=>by
  simp only [qps]
  have ho:ops[acc.size]? = some o:=by have:=hl 0; simpa using this.symm
  refine qq7 r _ (fun n=>?_) (fun j m hj i hb=>?_)
  ·have:=hl (n + 1)
   simp only [List.getElem?_cons_succ] at this
   rw [this,Array.size_push]; congr 1; omega
  ·rw [Array.getElem?_push] at hj
   split at hj
   ·rename_i hje
    subst hje
    simp only [Option.some.injEq] at hj; subst hj
    rcases qtd hb with h | ⟨e,he,hbe,hx⟩
    ·simp at h
    ·have he:=Array.mem_toList_iff.1 he
     rcases hx with rfl | hx
     ·exact .one ho he hbe
     ·refine .step ho he hbe ?_
      rw [Array.getD_eq_getD_getElem?] at hx
      cases ha:acc[e.on]? with
      | none=>rw [ha] at hx; simp at hx
      | some m'=>rw [ha] at hx; exact hi _ _ ha i hx
   ·exact hi j m hj i hb

theorem qwy {listed:Array Bool} (hc:qih md ops listed) {j i:Nat} (h:Reach md ops j i):(∀ o,ops[j]? = some o->∀ e ∈ o.after,Region.binds md e = true->listed.getD e.on false = true)->listed.getD i false = true:=by
 induction h with
 | one ho he hb=>intro hall; exact hall _ ho _ he hb
 | step ho he hb _ ih=>intro hall; exact ih fun o2 ho2 e2 he2 hb2=>hc _ _ ho2 (hall _ ho _ he hb) e2 he2 hb2

theorem qx5 {listed:Array Bool} {i j:Nat} (hc:qih md ops listed) (hj:j ∈ Region.ready md ops listed) (hi:i ∈ Region.ready md ops listed) (hiA:i ∈ A):qfR md ops A j = false:=by
 cases hl:qfR md ops A j with
 | false=>rfl
 | true =>
  exfalso
  obtain ⟨hjun,oj,hoj,hall⟩:=mem_ready.1 hj
  have hun:¬ (listed.getD i false = true):=fun h1=>by
   have h0:=(mem_ready.1 hi).1
   simp only [Array.getD_eq_getD_getElem?] at h0 h1
   cases hx:listed[i]? with
   | none=>rw [hx] at h1; cases h1
   | some b=>rw [hx] at h0 h1; simp only [Option.getD_some] at h0 h1; rw [h0] at h1; cases h1
  unfold qfR at hl
  split at hl
  ·rename_i m hm
   have hb:=List.all_eq_true.1 hl i hiA
   have hr:=qq7 (md:=md) (ops:=ops) ops.toList #[] (by simp) (by simp) j m hm i hb
   exact hun (qwy hc hr fun o ho e he hbe=>by
    rw [hoj] at ho; cases ho
    exact hall e he hbe)
  ·cases hl

def qek (P:Program) (md:Region.Mode) (ops:Array Oper) (A:List Nat) (Q:Exit->Act->World->Prop) (S:World->Prop):Nat->Array Bool->Act->World->Prop
 | 0,listed,a,w=>Region.ready md ops listed = []/\Q .normal a w
 | fuel + 1,listed,a,w=>qih md ops listed ->
  (Region.ready md ops listed = []->Q .normal a w) /\
  ∀ i ∈ Region.ready md ops listed,wpOp P ops Q i (fun a' w'=>(qfR md ops A i = true∨S w')/\qek P md ops A Q S fuel (listed.setIfInBounds i true) a' w') a w

theorem qqe:∀ (fuel:Nat) (listed:Array Bool) (a:Act) (w:World),qih md ops listed->qek P md ops A Q S fuel listed a w->wpAny P md ops Q fuel listed a w
 | 0,_,_,_,_,h=>h
 | fuel + 1,_,_,_,hc,h=>⟨(h hc).1,fun i hi=>wpOp_mono (fun a' w' h'=>qqe fuel _ a' w' (qqR hc hi) h'.2) ((h hc).2 i hi)⟩

theorem qxv {i:Nat} {oi:Oper} {v:Value} (hi:ops[i]? = some oi) (hiA:i ∈ A) (hsel:∀ (j:Nat) (o:Oper) cs b,ops[j]? = some o->o.op ≠ .select cs b)
  (hQ:∀ c a w,Q (.panic c) (a.put oi.dst v) w->Q (.panic c) a w) :
  ∀ (fuel:Nat) (listed:Array Bool) (a:Act) (w:World),
   (∀ j oj,ops[j]? = some oj->j ≠ i->listed.getD j true = false->(∀ e ∈ oj.after,Region.binds md e = true->e.on ≠ i)->oi.apart ops oj = true) ->
   i ∈ Region.ready md ops listed->YieldsIf P ops S oi v a->S w ->
   qek P md ops A Q S fuel (listed.setIfInBounds i true) (a.put oi.dst v) w->qek P md ops A Q S (fuel + 1) listed a w:=by
 intro fuel
 induction fuel with
 | zero =>
  intro listed a w _ hr hy hS H hc
  refine ⟨fun h=>(by rw [h] at hr; cases hr),fun j hj=>?_⟩
  by_cases hji:j = i
  ·subst hji; exact hy.wpOp hi hS ⟨.inr hS,H⟩
  ·have:=ready_mono hj hji
   rw [H.1] at this
   cases this
 | succ fuel ih =>
  intro listed a w hfree hr hy hS H hc
  refine ⟨fun h=>(by rw [h] at hr; cases hr),fun j hj=>?_⟩
  by_cases hji:j = i
  ·subst hji; exact hy.wpOp hi hS ⟨.inr hS,H⟩
  ·have h1:=(H (qqR hc hr)).2 j (ready_mono hj hji)
   obtain ⟨hjun,oj,hoj,hall⟩:=mem_ready.1 hj
   have hnot:∀ e ∈ oj.after,Region.binds md e = true->e.on ≠ i:=fun e he hb heq=>by
    have h1:=hall e he hb
    have h0:=(mem_ready.1 hr).1
    rw [heq] at h1
    rcases Nat.lt_or_ge i listed.size with h' | h'
    ·simp [h'] at h0 h1; rw [h0] at h1; cases h1
    ·simp [Array.getElem?_eq_none h'] at h1
   have h2:=wpOp_putIf hoj (hfree j oj hoj hji hjun hnot) (fun cs b=>hsel i oi cs b hi) (fun cs b=>hsel j oj cs b hoj) hQ hy h1
   have hfree':∀ k ok,ops[k]? = some ok->k ≠ i->(listed.setIfInBounds j true).getD k true = false ->
     (∀ e ∈ ok.after,Region.binds md e = true->e.on ≠ i)->oi.apart ops ok = true:=fun k ok hk hki hun hno=>by
    refine hfree k ok hk hki ?_ hno
    by_cases hjk:j = k
    ·subst hjk; exact hjun
    ·rw [getD_set_ne true hjk] at hun; exact hun
   have hlate:=qx5 (A:=A) hc hj hr hiA
   refine wpOp_mono (fun a' w' h3=>?_) h2
   have hSw:S w':=h3.2.1.resolve_left (by rw [hlate]; simp)
   refine ⟨.inr hSw,ih (listed.setIfInBounds j true) a' w' hfree' (ready_mono hr (Ne.symm hji)) h3.1 hSw ?_⟩
   rw [Array.setIfInBounds_comm _ _ hji]
   exact h3.2.2

theorem qnH {i:Nat} {oi:Oper} {v:Value} {fuel:Nat} {listed:Array Bool} {a:Act} {w:World} (hi:ops[i]? = some oi) (hiA:i ∈ A)
  (hs:Region.noSelect ops = true) (hf:Region.free md ops listed i = true) (hr:(Region.ready md ops listed).contains i = true)
  (hQ:∀ c a w,Q (.panic c) (a.put oi.dst v) w->Q (.panic c) a w) (hy:YieldsIf P ops S oi v a) (hS:S w)
  (h:qek P md ops A Q S fuel (listed.setIfInBounds i true) (a.put oi.dst v) w):qek P md ops A Q S (fuel + 1) listed a w :=
 qxv hi hiA (Region.noSelect_spec hs) hQ fuel listed a w (Region.free_spec hi hf) (by simpa using hr) hy hS h

theorem q2s {rs:List Nat} {fuel:Nat} {listed:Array Bool} {a:Act} {w:World} (hr:Region.ready md ops listed = rs) (hne:rs ≠ [])
  (h:∀ i ∈ rs,wpOp P ops Q i (fun a' w'=>(qfR md ops A i = true∨S w')/\qek P md ops A Q S fuel (listed.setIfInBounds i true) a' w') a w):qek P md ops A Q S (fuel + 1) listed a w :=
 fun _=>⟨fun h0=>absurd (hr ▸ h0) hne,hr ▸ h⟩

theorem qxW {listed:Array Bool} {a:Act} {w:World} (hr:Region.ready md ops listed = []) (h:Q .normal a w) :
  ∀ fuel,qek P md ops A Q S fuel listed a w
 | 0=>⟨hr,h⟩
 | _ + 1=>fun _=>⟨fun _=>h,by rw [hr]; simp⟩

theorem qyk {id:Nat} {a:Act} {w:World} (hm:P.follows .mixedOrders = true)
  (h:qek P .any ops A Q S ops.size (Array.replicate ops.size false) a { w with drawn:=w.drawn + 1 }):(Code.region id ops true).wp P Q a w :=
 wp_region_any hm (qqe _ _ _ _ (qut _) h)

end Go.Eng

set_option linter.unusedSimpArgs false
set_option linter.unusedVariables false
namespace Go.Eng
open Go
variable {hF:Fr} {E:Ctx}

structure Base (E:Ctx) (ρ0:Env) (RO:List SH) (NT:Nat) (ρ:Env) (s:S):Prop where
 ro:s.ro = RO
 nt:s.nt = NT
 nv:E.me.nv <= s.nx
 ag:∀ m,m < E.me.nv->ρ m = ρ0 m

def qfs (RO:List SH) (NT:Nat) (pc:List (T × Bool)) (base nv:Nat) (env:List (Nat × SV)) (heap:List SH):S :=
 { env,heap,ro:=RO,pc,nx:=base + nv,nt:=NT }

def qvu (E:Ctx) (hF:Fr) (RO:List SH) (NT:Nat) (pc:List (T × Bool)) (base:Nat) (I:Inv) (env:List (Nat × SV)) (heap:List SH) (ρh:Env) (m:Nat) (a:Act) (w:World):Prop :=
 ∃ ρ2:Env,(∀ n,n < base->ρ2 n = ρh n)/\Holds ρ2 hF (qfs RO NT pc base I.nv env heap) a w/\I.inv (qeS base I.nv ρ2)/\I.mu (qeS base I.nv ρ2) = m

theorem qtj:∀ {a b:List T},qjI a b = true->a = b
 | [],[],_=>rfl
 | x :: a,y :: b,h=>by
  simp only [qjI,Bool.and_eq_true] at h
  rw [T.same_eq h.1,qtj h.2]
 | [],_ :: _,h=>by simp [qjI] at h
 | _ :: _,[],h=>by simp [qjI] at h
theorem SH.same_eq {x y:SH} (h:x.same y = true):x = y:=by
 cases x <;> cases y <;> simp only [SH.same,Bool.and_eq_true,decide_eq_true_eq,Bool.false_eq_true] at h
 ·obtain ⟨⟨h1,h2⟩,h3⟩:=h
  rw [Nat.eq_of_beq_eq_true h1,Nat.eq_of_beq_eq_true h2,qtj h3]
 ·obtain ⟨⟨⟨⟨h1,h2⟩,h3⟩,h4⟩,h5⟩:=h
  rw [Nat.eq_of_beq_eq_true h1,Nat.eq_of_beq_eq_true h2,h3,T.same_eq h4,T.same_eq h5]
 ·rw [Nat.eq_of_beq_eq_true h.1,Nat.eq_of_beq_eq_true h.2]
theorem qi1 {ρ:Env}:∀ {st heap:List SH} {hp:Hp},qdJ st heap = true->qW ρ heap hp->qW ρ st hp
 | [],_,_,_,_=>trivial
 | _ :: _,[],_,h,_=>by simp [qdJ] at h
 | x :: xs,y :: ys,hp,h,hs=>by
  obtain ⟨h1,h2,hd,hu,hy,hs'⟩:=hs
  simp only [qdJ] at h
  split at h
  ·rename_i hsame
   have:=SH.same_eq hsame
   subst this
   exact ⟨h1,h2,hd,hu,hy,qi1 h hs'⟩
  ·exact star_weaken (qi1 h hs') (hu ▸ Hp.le_right hd)

theorem qgm {ρ:Env} {s:S} {a:Act} {w:World} {ops:Array Oper} {o:Oper} {g:Bool} (hs:Holds ρ hF s a w) (h:qlY ops s o = some (some g)):Region.wanted o (yielded ops a.tmps) = g:=by
 unfold qlY at h
 split at h
 ·simp at h
 ·rename_i hg
  simp only [Option.some.injEq] at h; subst h
  exact qfV hs hg
 ·rename_i c want hg
  split at h
  ·rename_i b hk
   simp only [Option.some.injEq] at h; subst h
   have h1:=qfV hs hg
   simp only [qdL hs hk] at h1
   rw [h1]
   cases b <;> cases want <;> rfl
  ·simp at h

def qqc (P:Program) (c:Code) (Q:Exit->Act->World->Prop) (a:Act) (w:World):Prop :=
 ∀ (b:Frame) k cs,∃ e a' w',Q e a' w'/\Arrives P (lone (b.at a (.code c :: .inLoop c :: k)) cs w) b k cs e a' w'

theorem qy5 {P:Program} {c:Code} {Q:Exit->Act->World->Prop} {a:Act} {w:World} (h:qqc P c Q a w):(Code.loop c).wp P Q a w:=by
 intro b k cs
 obtain ⟨e,a',w',hq,harr⟩:=h b k cs
 exact ⟨e,a',w',hq,.of_steps (.one step_loop) harr⟩

theorem qna {P:Program} {c:Code} {Q:Exit->Act->World->Prop} {a:Act} {w:World} (h:c.wp P (Exit.then (qqc P c Q) Q) a w):qqc P c Q a w:=by
 intro b k cs
 obtain ⟨e,a₁,w₁,hq,harr⟩:=h b (.inLoop c :: k) cs
 cases e with
 | normal =>
  obtain ⟨e₂,a₂,w₂,hq₂,harr₂⟩:=hq b k cs
  exact ⟨e₂,a₂,w₂,hq₂,.of_steps (Steps.trans harr (.one step_inLoop)) harr₂⟩
 | exit id=>exact ⟨_,a₁,w₁,hq,.pass (x:=.inLoop c) rfl (fun _ _=>.inl (by simp)) harr⟩
 | goto l=>exact ⟨_,a₁,w₁,hq,.pass (x:=.inLoop c) rfl (fun _ _=>.inl (by simp)) harr⟩
 | ret=>exact ⟨_,a₁,w₁,hq,.pass (x:=.inLoop c) rfl (fun _ _=>.inl (by simp)) harr⟩
 | panic ch=>exact ⟨_,a₁,w₁,hq,.pass (x:=.inLoop c) rfl (fun _ _=>.inl (by simp)) harr⟩
 | outgrown=>exact ⟨_,a₁,w₁,hq,.pass (x:=.inLoop c) rfl (fun _ _=>.inl (by simp)) harr⟩

inductive KSem (E:Ctx) (hF:Fr) (QF:Exit->Act->World->Prop) (RO:List SH) (NT:Nat):Env->Nat->List KI->(Exit->Act->World->Prop)->Prop where
 | nil {ρ:Env} {nx:Nat}:KSem E hF QF RO NT ρ nx [] QF
 | code {ρ:Env} {nx:Nat} {c:Code} {K:List KI} {q:Exit->Act->World->Prop} (h:KSem E hF QF RO NT ρ nx K q):KSem E hF QF RO NT ρ nx (.code c :: K) (Exit.then (c.wp E.P q) q)
 | blk {ρ:Env} {nx id:Nat} {K:List KI} {q:Exit->Act->World->Prop} (h:KSem E hF QF RO NT ρ nx K q):KSem E hF QF RO NT ρ nx (.blk id :: K) (Exit.inBlock id q)
 | ops {ρ:Env} {nx:Nat} {ops:Array Oper} {l:List Nat} {K:List KI} {q:Exit->Act->World->Prop} (h:KSem E hF QF RO NT ρ nx K q):KSem E hF QF RO NT ρ nx (.ops ops l :: K) (Exit.then (wpOps E.P ops q l) q)
 | lend {ρ ρh:Env} {nx li base:Nat} {K:List KI} {q:Exit->Act->World->Prop} {I:Inv} {pc:List (T × Bool)} {env:List (Nat × SV)} {heap:List SH}
   (hI:E.invs[li]? = some I) (hb:base + I.nv <= nx) (hag:∀ m,m < base + I.nv->ρ m = ρh m)
   (he:(Sg.subEnv { th:=1000,bd:=qd3 1000 base I.nv,eqI:=[],eqB:=[],eqD:=[] } I.env) = some env)
   (hh:(Sg.subHs { th:=1000,bd:=qd3 1000 base I.nv,eqI:=[],eqB:=[],eqD:=[] } I.heap) = some heap)
   (hf:I.fits base = true) (hro:RO.all (SH.inB base) = true) (hpc:pc.all (fun x=>x.1.inB base) = true) (hpt:∀ c b,(c,b) ∈ pc->(c.den ρh).b = b)
   (h:KSem E hF QF RO NT ρ nx K q) :
   KSem E hF QF RO NT ρ nx (.lend li base :: K) (Exit.then (fun a w=>∃ m,m < I.mu (qeS base I.nv ρh)/\qvu E hF RO NT pc base I env heap ρh m a w) q)
 | cutE {ρ ρh:Env} {nx li base:Nat} {K:List KI} {q:Exit->Act->World->Prop} {I:Inv} {pc:List (T × Bool)} {env:List (Nat × SV)} {heap:List SH}
   (hI:E.invs[li]? = some I) (hb:base <= nx) (hag:∀ m,m < base->ρ m = ρh m)
   (he:(Sg.subEnv { th:=1000,bd:=qd3 1000 base I.nv,eqI:=[],eqB:=[],eqD:=[] } I.env) = some env)
   (hh:(Sg.subHs { th:=1000,bd:=qd3 1000 base I.nv,eqI:=[],eqB:=[],eqD:=[] } I.heap) = some heap)
   (hf:I.fits base = true) (hro:RO.all (SH.inB base) = true) (hpc:pc.all (fun x=>x.1.inB base) = true) (hpt:∀ c b,(c,b) ∈ pc->(c.den ρh).b = b)
   (h:KSem E hF QF RO NT ρ nx K q) :
   KSem E hF QF RO NT ρ nx (.cutE li base :: K) (Exit.then (fun a w=>∃ m,qvu E hF RO NT pc base I env heap ρh m a w) q)
 | again {ρ:Env} {nx:Nat} {c:Code} {K:List KI} {q:Exit->Act->World->Prop} (h:KSem E hF QF RO NT ρ nx K q):KSem E hF QF RO NT ρ nx (.again c :: K) (Exit.then (qqc E.P c q) q)
 | any {ρ:Env} {nx:Nat} {K:List KI} {q:Exit->Act->World->Prop} (ρS:Env) (n0:Nat) (ops:Array Oper) (listed:Array Bool) (left:Nat) (st:List SH)
   (hst:st.all (SH.inB n0) = true) (hn:n0 <= nx) (hag:∀ m,m < n0->ρ m = ρS m) (h:KSem E hF QF RO NT ρ nx K q) :
   KSem E hF QF RO NT ρ nx (.any ops listed left st :: K) (Exit.then (fun a w=>qek E.P .any ops (qhg E.me.ip ops) (NoPanic q) (fun w'=>qs ρS hF st w') left listed a w) q)

variable {QF:Exit->Act->World->Prop} {RO:List SH} {NT:Nat}

theorem KSem.mono {ρ ρ':Env} {nx nx':Nat} {K:List KI} {q:Exit->Act->World->Prop} (h:KSem E hF QF RO NT ρ nx K q) (hn:nx <= nx') (ha:∀ m,m < nx->ρ' m = ρ m):KSem E hF QF RO NT ρ' nx' K q:=by
 induction h with
 | nil=>exact .nil
 | code _ ih=>exact .code (ih hn ha)
 | blk _ ih=>exact .blk (ih hn ha)
 | ops _ ih=>exact .ops (ih hn ha)
 | again _ ih=>exact .again (ih hn ha)
 | lend hI hb hag he hh hf hro hpc hpt _ ih=>exact .lend hI (by omega) (fun m hm=>(ha m (by omega)).trans (hag m hm)) he hh hf hro hpc hpt (ih hn ha)
 | cutE hI hb hag he hh hf hro hpc hpt _ ih=>exact .cutE hI (by omega) (fun m hm=>(ha m (by omega)).trans (hag m hm)) he hh hf hro hpc hpt (ih hn ha)
 | any ρS n0 ops listed left st hst hnn hag _ ih=>exact .any ρS n0 ops listed left st hst (by omega) (fun m hm=>(ha m (by omega)).trans (hag m hm)) (ih hn ha)

theorem KSem.ret {ρ:Env} {nx:Nat} {K:List KI} {q:Exit->Act->World->Prop} (h:KSem E hF QF RO NT ρ nx K q) {a:Act} {w:World} (hq:QF .ret a w):q .ret a w:=by
 induction h with
 | nil=>exact hq
 | code _ ih=>exact ih
 | blk _ ih=>exact ih
 | ops _ ih=>exact ih
 | again _ ih=>exact ih
 | lend _ _ _ _ _ _ _ _ _ _ ih=>exact ih
 | cutE _ _ _ _ _ _ _ _ _ _ ih=>exact ih
 | any _ _ _ _ _ _ _ _ _ _ ih=>exact ih

theorem KSem.pop {id:Nat} {ρ:Env} {nx:Nat} {K K':List KI} {q:Exit->Act->World->Prop} (h:KSem E hF QF RO NT ρ nx K q) (hp:qfu id K = some K') :
  ∃ q',KSem E hF QF RO NT ρ nx K' q'/\∀ a w,q' .normal a w->q (.exit id) a w:=by
 induction h with
 | nil=>simp [qfu] at hp
 | code _ ih=>obtain ⟨q',h1,h2⟩:=ih (by simpa [qfu] using hp); exact ⟨q',h1,h2⟩
 | ops _ ih=>obtain ⟨q',h1,h2⟩:=ih (by simpa [qfu] using hp); exact ⟨q',h1,h2⟩
 | again _ ih=>obtain ⟨q',h1,h2⟩:=ih (by simpa [qfu] using hp); exact ⟨q',h1,h2⟩
 | lend _ _ _ _ _ _ _ _ _ _ ih=>obtain ⟨q',h1,h2⟩:=ih (by simpa [qfu] using hp); exact ⟨q',h1,h2⟩
 | cutE _ _ _ _ _ _ _ _ _ _ ih=>obtain ⟨q',h1,h2⟩:=ih (by simpa [qfu] using hp); exact ⟨q',h1,h2⟩
 | any _ _ _ _ _ _ _ _ _ _ ih=>obtain ⟨q',h1,h2⟩:=ih (by simpa [qfu] using hp); exact ⟨q',h1,h2⟩
 | @blk nx j K q h ih =>
  simp only [qfu] at hp
  split at hp
  ·rename_i hid
   have hid:=Nat.eq_of_beq_eq_true hid
   simp only [Option.some.injEq] at hp; subst hp
   exact ⟨q,h,fun a w hq=>by simp only [Exit.inBlock,hid,if_true]; exact hq⟩
  ·rename_i hid
   obtain ⟨q',h1,h2⟩:=ih hp
   refine ⟨q',h1,fun a w hq=>?_⟩
   have:¬ id = j:=fun he=>hid (by rw [he]; simp)
   simp only [Exit.inBlock,this,if_false]
   exact h2 a w hq

theorem qtI {P:Program} {Q:Exit->Act->World->Prop} {c:Code} (I:Nat->Act->World->Prop)
  (round:∀ m a w,I m a w->c.wp P (Exit.then (fun a' w'=>∃ m',m' < m/\I m' a' w') Q) a w):∀ m a w,I m a w->(Code.loop c).wp P Q a w:=by
 intro m a w h₀ b k cs
 have key:∀ m a w,I m a w->∃ e a' w',Q e a' w'/\Arrives P (lone (b.at a (.code c :: .inLoop c :: k)) cs w) b k cs e a' w':=by
  intro m
  induction m using Nat.strongRecOn with
  | _ m ih =>
   intro a w hI
   obtain ⟨e,a₁,w₁,hq,harr⟩:=round m a w hI b (.inLoop c :: k) cs
   cases e with
   | normal =>
    obtain ⟨m',hlt,hI₁⟩:=hq
    obtain ⟨e₂,a₂,w₂,hq₂,harr₂⟩:=ih m' hlt a₁ w₁ hI₁
    exact ⟨e₂,a₂,w₂,hq₂,.of_steps (Steps.trans harr (.one step_inLoop)) harr₂⟩
   | exit id=>exact ⟨_,a₁,w₁,hq,.pass (x:=.inLoop c) rfl (fun _ _=>.inl (by simp)) harr⟩
   | goto l=>exact ⟨_,a₁,w₁,hq,.pass (x:=.inLoop c) rfl (fun _ _=>.inl (by simp)) harr⟩
   | ret=>exact ⟨_,a₁,w₁,hq,.pass (x:=.inLoop c) rfl (fun _ _=>.inl (by simp)) harr⟩
   | panic ch=>exact ⟨_,a₁,w₁,hq,.pass (x:=.inLoop c) rfl (fun _ _=>.inl (by simp)) harr⟩
   | outgrown=>exact ⟨_,a₁,w₁,hq,.pass (x:=.inLoop c) rfl (fun _ _=>.inl (by simp)) harr⟩
 obtain ⟨e,a',w',hq,harr⟩:=key m a w h₀
 exact ⟨e,a',w',hq,.of_steps (.one step_loop) harr⟩


theorem qpu {ρ:Env}:∀ {ps:List (Nat × SV)} {env:List (Nat × SV)} {Z Z':Sg},qhp ps env Z = some Z'->Ext Z Z'/\∀ Zf,Ext Z' Zf->Sat Zf ρ ->
  ∀ t p,(t,p) ∈ ps->∃ v,qaV t env = some v/\p.den (Zf.env ρ) = v.den ρ
 | [],env,Z,Z',h=>by simp only [qhp,Option.some.injEq] at h; subst h; exact ⟨Ext.refl _,fun _ _ _ t p hp=>by cases hp⟩
 | (t0,p0) :: ps,env,Z,Z',h=>by
  simp only [qhp] at h
  split at h
  ·rename_i v hv
   simp only [Option.bind_eq_some_iff] at h
   obtain ⟨Z1,h1,h2⟩:=h
   have g1:=qmq (ρ:=ρ) h1
   have g2:=qpu (ρ:=ρ) h2
   refine ⟨g1.1.trans g2.1,fun Zf he hs t p hp=>?_⟩
   cases hp with
   | head=>exact ⟨v,hv,g1.2 Zf (g2.1.trans he) hs⟩
   | tail _ hp=>exact g2.2 Zf he hs t p hp
  ·simp at h

theorem qnJ {Z:Sg}:∀ {l l':List (Nat × SV)},Z.subEnv l = some l'->∀ t v,qaV t l' = some v->∃ p,(t,p) ∈ l/\Z.subSV p = some v
 | [],l',h,t,v,hv=>by simp only [Sg.subEnv,Option.some.injEq] at h; subst h; simp [qaV] at hv
 | (k,p) :: r,l',h,t,v,hv=>by
  simp only [Sg.subEnv] at h
  split at h
  ·rename_i a b ha hb
   simp only [Option.some.injEq] at h; subst h
   simp only [qaV] at hv
   split at hv
   ·rename_i ht
    have ht:=Nat.eq_of_beq_eq_true ht
    simp only [Option.some.injEq] at hv; subst hv; subst ht
    exact ⟨p,List.mem_cons_self ..,ha⟩
   ·obtain ⟨p',h1,h2⟩:=qnJ hb t v hv
    exact ⟨p',List.mem_cons_of_mem _ h1,h2⟩
  ·simp at h

theorem qk0 (from_ base:Nat):∀ (k n:Nat),look n (qd3 from_ base k) = if from_ <= n/\n < from_ + k then some (.r (base + (n - from_))) else none
 | 0,n=>by rw [if_neg (by omega)]; rfl
 | k + 1,n=>by
  simp only [qd3,look]
  split
  ·rename_i h
   have h:=Nat.eq_of_beq_eq_true h
   rw [if_pos (by omega),h]
   congr 2; omega
  ·rename_i h
   have hne:n ≠ from_ + k:=fun he=>h (by rw [he]; simp)
   rw [qk0 from_ base k n]
   by_cases hc:from_ <= n/\n < from_ + k
   ·rw [if_pos hc,if_pos (by omega)]
   ·rw [if_neg hc,if_neg (by omega)]

theorem qhr {ρ ρh:Env} {s:S} {a:Act} {w:World} {I:Inv} {base:Nat} {Z:Sg} {rest:List SH} {cs:List T} {env:List (Nat × SV)} {heap:List SH} {pc:List (T × Bool)}
  (hs:Holds ρ hF s a w) (hag:∀ m,m < base->ρ m = ρh m)
  (hm:((qhp I.env s.env { th:=1000,bd:=[],eqI:=[],eqB:=[],eqD:=[] }).bind (mHs true I.heap s.heap [])) = some (rest,Z)) (hl:Z.left = some cs) (hc:∀ c ∈ cs,(c.den ρ).b = true)
  (he:(Sg.subEnv { th:=1000,bd:=qd3 1000 base I.nv,eqI:=[],eqB:=[],eqD:=[] } I.env) = some env)
  (hh:(Sg.subHs { th:=1000,bd:=qd3 1000 base I.nv,eqI:=[],eqB:=[],eqD:=[] } I.heap) = some heap)
  (hf:I.fits base = true) (hro:s.ro.all (SH.inB base) = true) (hpc:pc.all (fun x=>x.1.inB base) = true) (hpt:∀ c b,(c,b) ∈ pc->(c.den ρh).b = b) :
  ∃ ρ2:Env,(∀ n,n < base->ρ2 n = ρh n)/\Holds ρ2 hF (qfs s.ro s.nt pc base I.nv env heap) a w/\qeS base I.nv ρ2 = cutE base I.nv (Z.env ρ):=by
 simp only [Option.bind_eq_some_iff] at hm
 obtain ⟨Z1,hm1,hm2⟩:=hm
 obtain ⟨hO,hd,hst,hsub,hwi⟩:=hs.hp
 have g1:=qpu (ρ:=ρ) hm1
 have g2:=qhH (ρ:=ρ) hs.gd hm2 hst
 have hsat:=qk3 (ρ:=ρ) hl hc
 have hth:Z.th = 1000:=by rw [g2.1.th,g1.1.th]
 let ρ2:Env:=fun n=>if base <= n/\n < base + I.nv then Z.env ρ (1000 + (n - base)) else ρ n
 have hlt:∀ n,n < base->ρ2 n = ρ n:=fun n hn=>by simp only [ρ2]; rw [if_neg (by omega)]
 have hgd:ρ2.good:=fun n=>by
  simp only [ρ2]; split
  ·exact Sg.env_good hs.gd Z _
  ·exact hs.gd n
 -- the pattern's variables
 let Zn:Sg:={ th:=1000,bd:=qd3 1000 base I.nv,eqI:=[],eqB:=[],eqD:=[] }
 have hvar:∀ m,qzL base I.nv m = true->Zn.env ρ2 m = Z.env ρ m:=by
  intro m hm
  simp only [qzL,Bool.or_eq_true,Bool.and_eq_true,Nat.blt_eq,Nat.ble_eq] at hm
  rcases hm with ⟨h1,h2⟩ | ⟨h1,h2⟩
  ·rw [Sg.env_lt (Z:=Zn) h2,Sg.env_lt (Z:=Z) (by omega),hlt m h1]
  ·rw [Sg.env_look (Z:=Zn) (b:=.r (base + (m - 1000))) (by simp only [Zn]; omega) (by simp only [Zn]; rw [qk0,if_pos ⟨h1,h2⟩])]
   simp only [Bd.den,ρ2]
   rw [if_pos (by omega),show 1000 + (base + (m - 1000) - base) = m from by omega]
 simp only [Inv.fits,Bool.and_eq_true] at hf
 refine ⟨ρ2,fun n hn=>(hlt n hn).trans (hag n hn),⟨hgd,hs.nt,hs.df,fun t v hv=>?_,fun x hx=>?_,?_,fun c b hcb=>?_,fun x hx=>by cases hx⟩,?_⟩
 ·obtain ⟨p,hp1,hp2⟩:=qnJ he t v hv
  obtain ⟨u,hu1,hu2⟩:=g1.2 Z g2.1 hsat t p hp1
  rw [hs.env t u hu1,<- hu2,Sg.subSV_den hp2]
  exact (SV.den_congrS hvar p (List.all_eq_true.1 hf.1 (t,p) hp1)).symm
 ·exact (SH.roden_congr (n:=base) (fun m hm=>(hlt m hm).symm) x (List.all_eq_true.1 hro x hx) hF).1 (hs.ro x hx)
 ·obtain ⟨h1,h2,hd12,hu,hs1,hs2⟩:=g2.2 Z (Ext.refl _) hsat
  subst hu
  refine ⟨h1,(Hp.disj_union.1 hd).1,?_,?_⟩
  ·rw [qfs,Sg.subHs_den hh]
   exact qj5 (fun m hm=>(hvar m hm).symm) _ hf.2 h1 hs1
  ·refine ⟨Hp.sub_le hsub fun y o hy=>?_,hwi⟩
   simp only [Hp.union] at hy ⊢
   cases hFy:hF y with
   | some o'=>rw [hFy] at hy; simpa using hy
   | none=>rw [hFy] at hy; simp only [Option.none_or] at hy ⊢; simp [hy]
 ·rw [<- hpt c b hcb]
  exact congrArg U.b (T.den_congr (n:=base) (fun m hm=>(hlt m hm).trans (hag m hm)) c (List.all_eq_true.1 hpc (c,b) hcb))
 ·funext n
  simp only [qeS,cutE]
  by_cases h1:n < 1000
  ·rw [if_pos h1,if_pos h1]
   by_cases h2:n < base
   ·rw [if_pos h2,if_pos h2,hlt n h2,Sg.env_lt (Z:=Z) (by omega)]
   ·rw [if_neg h2,if_neg h2]
  ·rw [if_neg h1,if_neg h1]
   by_cases h2:n < 1000 + I.nv
   ·rw [if_pos h2,if_pos h2]
    simp only [ρ2]
    rw [if_pos (by omega),show 1000 + (base + (n - 1000) - base) = n from by omega]
   ·rw [if_neg h2,if_neg h2]


def q73 (E:Ctx) (hF:Fr) (ρ0:Env) (e:Ending) (w':World):Prop :=
 ∃ (ai:Nat) (al:Alt) (ρ':Env),E.me.alts[ai]? = some al/\ρ'.good/\(∀ n,n < E.me.nv->ρ' n = ρ0 n)/\e = .returned (al.ret.den ρ')/\al.post (ρ'.upto (E.me.nv + al.k))/\qs ρ' hF al.heap w'

theorem qfw {st:Bool} {ρ ρ0:Env} {s:S} {a:Act} {w:World} {v:SV} (hs:Holds ρ hF s a w) (hb:Base E ρ0 RO NT ρ s):∀ (l:List Alt) (ai:Nat),(∀ j,l[j]? = E.me.alts[ai + j]?) ->
  (qjU E.me s v st ai l).den E ρ->q73 E hF ρ0 (.returned (v.den ρ)) w
 | [],ai,_,h=>h.elim
 | al :: r,ai,hl,h=>by
  have hnext:∀ j,r[j]? = E.me.alts[ai + 1 + j]?:=fun j=>by
   have:=hl (j + 1)
   simp only [List.getElem?_cons_succ] at this
   rw [this,show ai + (j + 1) = ai + 1 + j from by omega]
  have h0:E.me.alts[ai]? = some al:=by have:=hl 0; simpa using this.symm
  simp only [qjU] at h
  split at h
  ·exact qfw hs hb r (ai + 1) hnext h
  ·rename_i rest ex hfit
   split at h
   ·exact qfw hs hb r (ai + 1) hnext h
   ·split at h
    ·exact h.elim
    ·rename_i hvin
     simp only [Bool.not_eq_true',Bool.not_eq_false] at hvin
     obtain ⟨ρ1,s1,a1,a2,a3,a4,a5,h⟩:=qdF hs h
     rw [SV.den_congr (ρ':=ρ1) (fun m hm=>(a1 m hm).symm) v hvin]
     simp only at h
     have hb1:Base E ρ0 RO NT ρ1 s1:=⟨a4.trans hb.ro,a5.trans hb.nt,Nat.le_trans hb.nv a2,fun m hm=>(a1 m (Nat.lt_of_lt_of_le hm hb.nv)).trans (hb.ag m hm)⟩
     split at h
     ·rename_i rest' Z hm
      split at h
      ·rename_i cs hleft
       obtain ⟨hc,pc,hs',hk⟩:=qcr a3 h
       simp only [Option.bind_eq_some_iff] at hm
       obtain ⟨Z1,hm1,hm2⟩:=hm
       obtain ⟨hO,hd,hst,hsub,hwi⟩:=a3.hp
       have g1:=qmq (ρ:=ρ1) hm1
       have g2:=qhH (ρ:=ρ1) a3.gd hm2 hst
       have hsat:=qk3 (ρ:=ρ1) hleft hc
       have hth:Z.th = E.me.nv:=by rw [g2.1.th,g1.1.th]
       simp only [Out.den,h0] at hk
       refine ⟨ai,al,Z.env ρ1,h0,Sg.env_good a3.gd Z,fun n hn=>?_,?_,hk,?_⟩
       ·rw [Sg.env_lt (Z:=Z) (by omega),hb1.ag n hn]
       ·rw [g1.2 Z g2.1 hsat]
       ·obtain ⟨h1,h2,hd12,hu,hs1,hs2⟩:=g2.2 Z (Ext.refl _) hsat
        subst hu
        refine ⟨h1,(Hp.disj_union.1 hd).1,hs1,Hp.sub_le hsub fun y o hy=>?_,hwi⟩
        simp only [Hp.union] at hy ⊢
        cases hFy:hF y with
        | some o'=>rw [hFy] at hy; simpa using hy
        | none=>rw [hFy] at hy; simp only [Option.none_or] at hy ⊢; simp [hy]
      ·exact h.elim
     ·exact h.elim


theorem qq0 {mip:List (Nat × Nat)} {s:S} {f:FuncId} {args:List SV}:∀ {l:List Ctr} {n:Nat} {ci:Nat} {c:Ctr} {h:List SH} {Z:Sg},qgK mip s f args n l = some (ci,c,h,Z) ->
  n <= ci/\l[ci - n]? = some c/\c.fn = f/\∃ Zi Z0 Z1,Zi.th = 0/\qju c.args args Zi = some Z0/\mHs true c.heap s.heap [] Z0 = some (h,Z1)/\∃ h',mHs false c.ro h (s.ro ++ qhI { s with heap:=h }) Z1 = some (h',Z)
 | [],n,ci,c,h,Z,hc=>by simp [qgK] at hc
 | c0 :: r,n,ci,c,h,Z,hc=>by
  have rec':qgK mip s f args (n + 1) r = some (ci,c,h,Z)->n <= ci/\(c0 :: r)[ci - n]? = some c/\c.fn = f/\∃ Zi Z0 Z1,Zi.th = 0/\qju c.args args Zi = some Z0 /\
    mHs true c.heap s.heap [] Z0 = some (h,Z1)/\∃ h',mHs false c.ro h (s.ro ++ qhI { s with heap:=h }) Z1 = some (h',Z):=fun hc=>by
   obtain ⟨h1,h2,h3⟩:=qq0 hc
   refine ⟨by omega,?_,h3⟩
   rw [show ci - n = (ci - (n + 1)) + 1 from by omega,List.getElem?_cons_succ]; exact h2
  simp only [qgK] at hc
  split at hc
  ·rename_i hf
   have hf:=Nat.eq_of_beq_eq_true hf
   split at hc
   ·rename_i h' Z1 hm
    split at hc
    ·rename_i h'' Z2 hm2
     split at hc
     ·simp only [Option.some.injEq,Prod.mk.injEq] at hc
      obtain ⟨rfl,rfl,rfl,rfl⟩:=hc
      simp only [Option.bind_eq_some_iff] at hm
      obtain ⟨Z0,hm0,hm1⟩:=hm
      exact ⟨Nat.le_refl _,by simp,hf,_,Z0,Z1,rfl,hm0,hm1,h'',hm2⟩
     ·exact rec' hc
    ·exact rec' hc
   ·exact rec' hc
  ·exact rec' hc

theorem qnK {ρ:Env} {k:Nat->Alt->Out}:∀ {l:List Alt} {n ai:Nat} {al:Alt},l[ai]? = some al->(qru k n l).den E ρ->(k (n + ai) al).den E ρ
 | [],n,ai,al,h,_=>by simp at h
 | a0 :: r,n,0,al,h,hd=>by
  simp only [List.getElem?_cons_zero,Option.some.injEq] at h; subst h
  exact hd.1
 | a0 :: r,n,ai + 1,al,h,hd=>by
  simp only [List.getElem?_cons_succ] at h
  have:=qnK (n:=n + 1) h hd.2
  rwa [show n + 1 + ai = n + (ai + 1) from by omega] at this


theorem qjf {next:Act->World->Prop} {Q:Exit->Act->World->Prop} {a:Act} {w:World} (h:next a w):Exit.then next Q .normal a w:=h

theorem qzd {P:Program} {ops:Array Oper} {q:Exit->Act->World->Prop} {i:Nat} {l:List Nat} {o:Oper} {a:Act} {w:World} (ho:ops[i]? = some o)
  (hw:Region.wanted o (yielded ops a.tmps) = true) (h:o.wp P a w (wpOps P ops q l) q):wpOps P ops q (i :: l) a w:=by
 simp only [wpOps,ho,hw,if_true]; exact .inl h
theorem q9z {P:Program} {ops:Array Oper} {q:Exit->Act->World->Prop} {i:Nat} {l:List Nat} {o:Oper} {a:Act} {w:World} (ho:ops[i]? = some o)
  (hw:Region.wanted o (yielded ops a.tmps) = false) (h:wpOps P ops q l (a.put o.dst undef) w):wpOps P ops q (i :: l) a w:=by
 simp only [wpOps,ho,hw,Bool.false_eq_true,if_false]; exact h

theorem qhq {key:Nat}:∀ {l:List Inv} {n li:Nat} {I:Inv},qg7 key l n = some (li,I)->n <= li/\l[li - n]? = some I
 | [],n,li,I,h=>by simp [qg7] at h
 | x :: r,n,li,I,h=>by
  simp only [qg7] at h
  split at h
  ·simp only [Option.some.injEq,Prod.mk.injEq] at h
   obtain ⟨rfl,rfl⟩:=h
   simp
  ·obtain ⟨h1,h2⟩:=qhq h
   refine ⟨by omega,?_⟩
   rw [show li - n = (li - (n + 1)) + 1 from by omega,List.getElem?_cons_succ]; exact h2
theorem qly {key:Nat} {s:S}:∀ {l:List Inv} {n li:Nat} {I:Inv},qib key s l n = some (li,I)->n <= li/\l[li - n]? = some I
 | [],n,li,I,h=>by simp [qib] at h
 | x :: r,n,li,I,h=>by
  simp only [qib] at h
  split at h
  ·simp only [Option.some.injEq,Prod.mk.injEq] at h
   obtain ⟨rfl,rfl⟩:=h
   simp
  ·obtain ⟨h1,h2⟩:=qly h
   refine ⟨by omega,?_⟩
   rw [show li - n = (li - (n + 1)) + 1 from by omega,List.getElem?_cons_succ]; exact h2
theorem quL {key:Nat} {s:S} {l:List Inv} {li:Nat} {I:Inv} (h:qrk key s l = some (li,I)):l[li]? = some I:=by
 unfold qrk at h
 split at h
 ·rename_i x hx
  simp only [Option.some.injEq] at h; subst h
  simpa using (qly hx).2
 ·simpa using (qhq h).2

theorem qw2 {s:S} {ρ:Env} {a:Act} {w:World} {o:Oper} {f:Operand} {args:Array Operand} {tys:Array TypeId} {fid:FuncId} {as:List SV} {P:Program} (hs:Holds ρ hF s a w) (hop:o.op = .call { callee:=.value f,args,argTypes:=tys })
  (h:qhP s { callee:=.value f,args,argTypes:=tys } = some (fid,as)) (hcall:∀ (args:Array Value) (w:World),(callFunc fid args).run P w = .ok (.enter fid args) w) :
  (execOp a.eval o).run P w = .ok (.enter fid (as.map (SV.den ρ)).toArray) w:=by
 simp only [qhP] at h
 split at h
 ·rename_i fid' first caps avs hf ha
  simp only [Option.some.injEq,Prod.mk.injEq] at h
  obtain ⟨rfl,rfl⟩:=h
  have hef:=hs.opd hf
  have hea:=hs.opds ha
  simp only [SV.den] at hef
  have h1:∀ l:List T,(l.map SV.one).map (SV.den ρ) = qc ρ l:=fun l=>by simp [qc,SV.den]
  simp only [execOp,hop,resolve,Deferred.ofValue,hef,Sem.run_bind,Sem.run_pure,Result.andThen_ok,invoke]
  rw [hcall]
  congr 2
  apply Array.ext'
  simp only [Array.toList_append,Array.toList_map,hea,List.map_append,h1]
 ·simp at h

theorem qjq {r:Nat}:∀ {l:List (List Nat × SH)} {x:List Nat × SH},qnh r l = some x->x ∈ l
 | y :: l,x,h=>by
  simp only [qnh] at h
  split at h
  ·split at h
   ·simp only [Option.some.injEq] at h; subst h; exact List.mem_cons_self ..
   ·exact List.mem_cons_of_mem _ (qjq h)
  ·exact List.mem_cons_of_mem _ (qjq h)
theorem qgJ {m:Nat}:∀ {l:List SH} {k i tag:Nat},qha m l i = some (k,tag)->∃ j,k = i + j/\l[j]? = some (.abs m tag)
 | .abs n t :: l,k,i,tag,h=>by
  simp only [qha] at h
  split at h
  ·rename_i he
   have he:=Nat.eq_of_beq_eq_true he
   simp only [Option.some.injEq,Prod.mk.injEq] at h
   obtain ⟨rfl,rfl⟩:=h
   subst he
   exact ⟨0,rfl,rfl⟩
  ·obtain ⟨j,e1,e2⟩:=qgJ h
   exact ⟨j + 1,by omega,e2⟩
 | .cells .. :: l,k,i,tag,h=>by
  simp only [qha] at h
  obtain ⟨j,e1,e2⟩:=qgJ h
  exact ⟨j + 1,by omega,e2⟩
 | .arr .. :: l,k,i,tag,h=>by
  simp only [qha] at h
  obtain ⟨j,e1,e2⟩:=qgJ h
  exact ⟨j + 1,by omega,e2⟩
 | [],k,i,tag,h=>by simp [qha] at h
theorem qy8 {ρ:Env} {s:S} {a:Act} {w:World} {o:Oper} {r:PutR} {P:Program} (hs:Holds ρ hF s a w) (hsc:s.inNx = true) (h:qum P s o = some r) (h0:0 <= (r.e.den ρ).i) (h1:(r.e.den ρ).i < ((r.d.den ρ).d.length:Int)) :
  ∃ u w',u.good/\Put (ρ r.m).h u.h (ρ r.rg).r r.pat (r.d.den ρ).d ((r.e.den ρ).i.toNat * r.pat.length + r.c) (qc ρ r.vs)/\o.dst = none/\(execOp a.eval o).run P w = .ok .skip w'/\qs (ρ.set s.nx u) hF (s.heap.set r.k (.abs s.nx r.tag)) w':=by
 unfold qum at h
 split at h
 ·rename_i t x y hop hdst
  split at h
  ·rename_i rg p c e vs n hx hvs hsz
   split at h
   ·rename_i m r' el pat d cap hnone hview
    split at h
    ·rename_i k tag hpos
     split at h
     ·rename_i hcond
      simp only [Bool.and_eq_true,Nat.ble_eq] at hcond
      obtain ⟨⟨⟨⟨⟨c0',c1⟩,c2⟩,c3⟩,c4⟩,c5⟩:=hcond
      have c0':Nat.blt tag 1001 = true:=c0'
      have c1:=Nat.eq_of_beq_eq_true c1
      have c2:=Nat.eq_of_beq_eq_true c2
      have c3:=Nat.eq_of_beq_eq_true c3
      simp only [Option.some.injEq] at h; subst h
      subst c1
      simp only at h0 h1 ⊢
      have hev:=hs.opd hx
      simp only [Option.bind_eq_some_iff] at hvs
      obtain ⟨v,hv,hc⟩:=hvs
      have hvev:=hs.opd hv
      have hcd:=qi8 hs.gd hc
      obtain ⟨j,e1,e2⟩:=qgJ hpos
      rw [Nat.zero_add] at e1; subst e1
      obtain ⟨m',hm',hro⟩:=hs.vw _ (qjq hview)
      rw [List.mem_singleton] at hm'; subst hm'
      have hlt:(e.den ρ).i.toNat < (d.den ρ).d.length:=by omega
      have hrow:=List.getElem?_eq_getElem hlt
      rcases hro with hd | ⟨b,o',c0,ty,fr,g1,g2,g3⟩
      ·have hd':(d.den ρ).d = []:=hd
       rw [hd'] at hlt; simp at hlt
      obtain ⟨hO,hdj,hst,hsub,hwi⟩:=hs.hp
      obtain ⟨t1,t2,td,tu,tx,ts⟩:=qY hst e2
      have hfr:fr = (0,0):=by
       obtain ⟨_,_,hh⟩:=tx.2 c0' b _ g2
       simp only [Obj.cells.injEq] at hh; exact hh.2.2
      subst hfr
      have hle:Hp.le t1 (Hp.union hF hO):=Hp.le_trans (tu ▸ Hp.le_left t1 t2) (Hp.le_right hdj)
      have g2':=tx.1 _ _ g2
      have hwb:=hsub _ _ (hle _ _ g2')
      obtain ⟨hfit,hcells⟩:=g3 _ _ hrow
      have hvl:(qc ρ vs).length = vs.length:=by simp [qc]
      have hsize:(o' + ((e.den ρ).i.toNat * p + c)) + (qc ρ vs).length <= c0.size:=by
       rw [hvl,c2]
       have hlast:p - 1 < ((d.den ρ).d[(e.den ρ).i.toNat]).length:=by rw [hfit.1,<- c3]; omega
       have:=hcells (p - 1) _ (List.getElem?_eq_getElem hlast)
       have:=(Array.getElem?_eq_some_iff.1 this).1
       rw [<- c3] at this
       omega
      obtain ⟨w',c1,hrun,hw1,hw2,hwrote,hos⟩:=qmN (P:=P) (w:=w) (off:=o' + ((e.den ρ).i.toNat * p + c)) hsz hcd (by rw [hvl,c2]) hwb (qh6 hs.gd vs) hsize
      refine ⟨{ h:=Hp.upd (ρ m').h b (.cells c1 ty (0,0)) },w',by simp [U.good,Value.oneCell'],⟨b,o',c0,c1,ty,g1,g2,g3,by rw [<- c3]; exact hwrote,rfl⟩,hdst,?_,?_⟩
      ·simp only [SV.den,T.den,O1.den,g1,qm,Option.map_some] at hev
       simp [execOp,hop,hev,hvev,Instr.storeAt,Instr.sureAddr,hrun]
      ·have hdisj:Hp.disj (Hp.upd t1 b (.cells c1 ty (0,0))) t2:=fun y=>by
        rcases td y with h | h
        ·unfold Hp.upd
         split
         ·rename_i he; subst he; rw [g2'] at h; cases h
         ·exact .inl h
        ·exact .inr h
       have hag:∀ q,q < s.nx->ρ q = (ρ.set s.nx { h:=Hp.upd (ρ m').h b (.cells c1 ty (0,0)) }) q:=fun q hq=>(Env.set_ne ρ _ (by omega)).symm
       refine ⟨Hp.union (Hp.upd t1 b (.cells c1 ty (0,0))) t2,?_,qd5 e2 (qa1 hag _ ?_ _ ts) hdisj ?_,?_,⟨hos.1.trans hwi.1,hos.2.trans hwi.2⟩⟩
       ·intro y
        rcases hdj y with h | h
        ·exact .inl h
        ·right
         rw [tu] at h
         simp only [Hp.union,Option.or_eq_none_iff] at h ⊢
         refine ⟨?_,h.2⟩
         unfold Hp.upd
         split
         ·rename_i he; subst he; rw [g2'] at h; cases h.1
         ·exact h.1
       ·have:=(qbc hsc).2.1
        exact List.all_eq_true.2 fun x hx=>List.all_eq_true.1 this x (List.mem_of_mem_eraseIdx hx)
       ·simp only [SH.den,Env.set_same]
        refine ⟨fun y ob hy=>?_,fun _ y ob hy=>?_⟩
        ·unfold Hp.upd at hy ⊢
         split at hy
         ·rename_i he; rw [if_pos he]; exact hy
         ·rename_i he; rw [if_neg he]; exact tx.1 _ _ hy
        ·unfold Hp.upd at hy
         split at hy
         ·exact ⟨_,_,(Option.some.inj hy).symm⟩
         ·exact tx.2 c0' _ _ hy
       ·intro y ob hy
        by_cases hyb:y = b
        ·subst hyb
         have hFn:hF y = none:=(hdj y).resolve_right (by rw [tu]; simp [Hp.union,g2'])
         simp only [Hp.union,hFn,Hp.upd,if_true,Option.none_or,Option.some_or,Option.some.injEq] at hy
         rw [hw1,hy]
        ·rw [hw2 y hyb]
         refine hsub y ob ?_
         rw [tu]
         simp only [Hp.union,Hp.upd,hyb,if_false] at hy ⊢
         exact hy
     ·cases h
    ·cases h
   ·cases h
  ·cases h
 ·cases h

theorem q4Z {P:Program} {w:World} {src e:TypeId} {b:Nat} {c:Array Value} {ty:TypeId} {l cap off:Nat} (hs:P.underlying src = some (.slice e)) (he:P.underlying e = some (.int .u8)) (hb:w.heap[b]? = some (.cells c ty (0,0))) :
  (convert src src (.slice (some ⟨b,off,none⟩) l cap)).run P w = .ok (.slice (some ⟨b,off,none⟩) l cap) (w.freeze ⟨b,c.size,none⟩ 1):=by
 have hsh:w.shape? b = some (ty,c.size):=by simp [World.shape?,hb]
 simp [convert,run_underlying hs,run_underlying he,markStringish,hsh]
theorem qy1 {w:World} {b:Nat} {c:Array Value} {ty:TypeId} {n:Nat} (hb:w.heap[b]? = some (.cells c ty (0,0))) :
  (w.freeze ⟨b,n,none⟩ 1).heap[b]? = some (.cells c ty (n,n + 1))/\(∀ y,y ≠ b->(w.freeze ⟨b,n,none⟩ 1).heap[y]? = w.heap[y]?)/\(w.freeze ⟨b,n,none⟩ 1).os = w.os/\(w.freeze ⟨b,n,none⟩ 1).output = w.output:=by
 refine ⟨by simp [World.freeze,Array.getElem?_modify,hb],fun y hy=>?_,by simp [World.freeze],by simp [World.freeze]⟩
 unfold World.freeze
 rw [if_neg (by decide)]
 simp only [Array.getElem?_modify]
 rw [if_neg (fun h=>hy h.symm)]
theorem qyo {ρ:Env} {s:S} {a:Act} {w:World} {o:Oper} {P:Program} {k:Nat} {y:SH} {v:SV} (hs:Holds ρ hF s a w) (hsc:s.inNx = true) (h:q0P P s o = some (k,y,v)) :
  ∃ u w',u.good/\v.inB s.nx = true/\(execOp a.eval o).run P w = .ok (.value (v.den ρ)) w'/\qs (ρ.set s.nx u) hF (.abs s.nx 1001 :: s.heap.eraseIdx k) w'/\y.roden (ρ.set s.nx u) u.h:=by
 unfold q0P at h
 split at h
 ·rename_i src dst x hop
  split at h
  ·rename_i hsd
   have hsd:=Nat.eq_of_beq_eq_true hsd
   subst hsd
   split at h
   ·rename_i e hu
    split at h
    ·rename_i r p off len cap he hx
     split at h
     ·rename_i k' r' ty cs hat
      split at h
      ·rename_i hrr
       have hrr:=Nat.eq_of_beq_eq_true hrr
       subst hrr
       simp only [Option.some.injEq,Prod.mk.injEq] at h
       obtain ⟨rfl,rfl,rfl⟩:=h
       have hev:=hs.opd hx
       obtain ⟨hk,_⟩:=qG hat
       obtain ⟨hO,hdj,hst,hsub,hwi⟩:=hs.hp
       obtain ⟨t1,t2,td,tu,tx,ts⟩:=qY hst hk
       obtain ⟨b,g1,g2⟩:=tx
       have hle:Hp.le t1 (Hp.union hF hO):=Hp.le_trans (tu ▸ Hp.le_left t1 t2) (Hp.le_right hdj)
       have hwb:=hsub _ _ (hle _ _ g2)
       obtain ⟨f1,f2,f3,f4⟩:=qy1 (n:=(qc ρ cs).toArray.size) hwb
       have hpar:=qbc hsc
       have hvin:SV.inB s.nx (.one (.c3 (.vslice r p) off len cap)) = true:=qmI (by simp only [S.scopedEH,Bool.and_eq_true]; exact ⟨hpar.1,hpar.2.1⟩) hx
       have hyin:SH.inB s.nx (.cells r ty cs) = true:=List.all_eq_true.1 hpar.2.1 _ (List.mem_of_getElem? hk)
       let ob:Obj:=.cells (qc ρ cs).toArray ty ((qc ρ cs).toArray.size,(qc ρ cs).toArray.size + 1)
       have hag:∀ q,q < s.nx->ρ q = (ρ.set s.nx { h:=Hp.upd t1 b ob }) q:=fun q hq=>(Env.set_ne ρ _ (by omega)).symm
       refine ⟨{ h:=Hp.upd t1 b ob },_,by simp [U.good,Value.oneCell'],hvin,?_,⟨Hp.union (Hp.upd t1 b ob) t2,?_,⟨Hp.upd t1 b ob,t2,?_,rfl,?_,?_⟩,?_,⟨f3.trans hwi.1,f4.trans hwi.2⟩⟩,?_⟩
       ·simp only [SV.den,T.den,O3.den,g1,qm,Option.map_some,Nat.zero_add] at hev ⊢
        simp only [execOp,hop,Sem.run_bind,hev,q4Z hu he hwb,Result.andThen_ok,Sem.run_pure]
       ·intro q
        rcases hdj q with h | h
        ·exact .inl h
        ·right
         rw [tu] at h
         simp only [Hp.union,Option.or_eq_none_iff] at h ⊢
         refine ⟨?_,h.2⟩
         unfold Hp.upd
         split
         ·rename_i he; subst he; rw [g2] at h; cases h.1
         ·exact h.1
       ·intro q
        rcases td q with h | h
        ·unfold Hp.upd
         split
         ·rename_i he; subst he; rw [g2] at h; cases h
         ·exact .inl h
        ·exact .inr h
       ·simp only [SH.den,Env.set_same]
        exact ⟨Hp.le_refl _,fun h=>by cases h⟩
       ·refine qa1 hag _ ?_ _ ts
        exact List.all_eq_true.2 fun x hx=>List.all_eq_true.1 hpar.2.1 x (List.mem_of_mem_eraseIdx hx)
       ·intro q o' hq
        by_cases hqb:q = b
        ·subst hqb
         have hFn:hF q = none:=(hdj q).resolve_right (by rw [tu]; simp [Hp.union,g2])
         simp only [Hp.union,hFn,Hp.upd,if_true,Option.none_or,Option.some_or,Option.some.injEq] at hq
         rw [f1,<- hq]
        ·rw [f2 q hqb]
         refine hsub q o' ?_
         rw [tu]
         simp only [Hp.union,Hp.upd,hqb,if_false] at hq ⊢
         exact hq
       ·refine (SH.roden_congr hag _ hyin _).1 ⟨b,0,(qc ρ cs).toArray,ty,_,g1,by simp only [Hp.upd,if_true]; rfl,fun q v hv=>by simpa using hv⟩
      ·cases h
     ·cases h
    ·cases h
   ·cases h
  ·cases h
 ·cases h
theorem Sg.clean_env (Z:Sg) (ρ:Env):Z.clean.env ρ = Z.env ρ:=rfl
theorem qyw {ρ0 ρ:Env} {s:S} {a:Act} {w:World} {i:Nat} {o:Oper} {q q':Exit->Act->World->Prop} {K:List KI} {next:Act->World->Prop} {k:S->Out} (hctr:∀ c ∈ E.ctrs,c.ok E.P)
  (hs:Holds ρ hF s a w) (hb:Base E ρ0 RO NT ρ s) (hk:KSem E hF QF RO NT ρ s.nx K q)
  (hnext:∀ ρ' s' a' w',(∀ m,m < s.nx->ρ' m = ρ m)->s.nx <= s'.nx->KSem E hF QF RO NT ρ' s'.nx K q->Holds ρ' hF s' a' w'->Base E ρ0 RO NT ρ' s'->(k s').den E ρ'->next a' w')
  (h:(quj E s i o k).den E ρ):o.wp E.P a w next q':=by
 unfold quj at h
 split at h
 ·rename_i f args tys hop
  split at h
  ·exact h.elim
  ·rename_i fid as hca
   split at h
   ·exact h.elim
   ·rename_i ci c hp Z hcc
    obtain ⟨_,hci,hfn,Zi,Z0,Z1,hith,hm0,hm1,h',hm2⟩:=qq0 hcc
    simp only [Nat.sub_zero] at hci
    have hok:=hctr c (List.mem_of_getElem? hci)
    subst hfn
    split at h
    ·exact h.elim
    ·rename_i cs hleft
     obtain ⟨hc,pc,hs',h⟩:=qcr hs h
     obtain ⟨hpre,h⟩:=h
     simp only [hci] at hpre
     have hsat:=qk3 (ρ:=ρ) hleft hc
     obtain ⟨hO,hd,hst,hsub,hwi⟩:=hs.hp
     have g0:=qqU (ρ:=ρ) hm0
     have g1:=qhH (ρ:=ρ) hs.gd hm1 hst
     -- what is only read, in what is left
     obtain ⟨_,h1,h2,hd12,hu,hst1,hst2⟩:∃ _:True,∃ h1 h2,Hp.disj h1 h2/\hO = Hp.union h1 h2/\qW (Z.env ρ) c.heap h1/\qW ρ hp h2:=by
      obtain ⟨x1,x2,y⟩:=g1.2 Z (by
       have:=qeB hm2
       exact this) hsat
      exact ⟨trivial,x1,x2,y⟩
     subst hu
     have hdF:=Hp.disj_union.1 hd
     have hro2:∀ x ∈ s.ro ++ qhI { s with heap:=hp },x.roden ρ (Hp.union hF h2):=by
      intro x hx
      rcases List.mem_append.1 hx with hx | hx
      ·exact SH.ro_mono (hs.ro x hx) (Hp.le_left _ _)
      ·refine qtJ (s':={ s with heap:=hp }) hs.vw (fun m hm=>?_) x hx
       rcases qpk hst2 hs.ro hm with h | h
       ·exact Hp.le_trans h (Hp.le_right hdF.2)
       ·exact Hp.le_trans h (Hp.le_left _ _)
     have g2:=qjN (ρ:=ρ) hs.gd (hF:=Hp.union hF h2) (H:=Hp.union hF h2) hm2 hst2 hro2 (Hp.le_right hdF.2) (Hp.le_refl _)
     have hrun:=qw2 hs hop hca hok.1
     have hargs:(c.args.map (SV.den (Z.env ρ))).toArray = (as.map (SV.den ρ)).toArray:=by rw [g0.2 Z ((g1.1).trans g2.1) hsat]
     have hcalls:=hok.2 (Z.env ρ) w ⟨Hp.union hF h2,hF.os,hF.out⟩ h1 (Sg.env_good hs.gd Z) (Hp.disj_union'.2 ⟨hdF.1,hd12.symm⟩)
      ⟨by
       refine Hp.sub_le hsub ?_
       rw [Hp.union_assoc,Hp.union_comm hd12.symm]
       exact Hp.le_refl _,hwi⟩
      hst1 (g2.2.2 Z (Ext.refl _) hsat) hpre
     rw [hargs] at hcalls
     unfold Oper.wp
     rw [hrun,Oper.upon_enter]
     refine hcalls.mono ?_
     rintro e w' ⟨ai,al,ρ',hal,hg',hag',rfl,hpost,hheap⟩
     simp only
     have h:=qnK (n:=0) hal h
     simp only [Nat.zero_add] at h
     split at h
     ·exact h.elim
     ·rename_i hchk
      simp only [Bool.not_eq_true',Bool.not_eq_false,q4a,Bool.and_eq_true] at hchk
      obtain ⟨⟨hbd,hret⟩,hheapS⟩:=hchk
      let us:List U:=(List.range al.k).map fun j=>ρ' (c.nv + j)
      have hul:us.length = al.k:=by simp [us]
      have hug:∀ u ∈ us,u.good:=fun u hu=>by
       obtain ⟨j,_,rfl⟩:=List.mem_map.1 hu
       exact hg' _
      rw [<- hul] at h
      obtain ⟨hsc,h⟩:=qfl hug h
      rw [hul] at h
      -- the contract's variables, seen from here
      have hth:Z.th = 0:=by rw [g2.1.th,g1.1.th,g0.1.th,hith]
      have hlookbd:∀ n b,look n Z.bd = some b->n < c.nv/\b.inB s.nx = true:=by
       intro n b hl
       have:∀ (l:List (Nat × Bd)),l.all (fun x=>Nat.blt x.1 c.nv && x.2.inB s.nx) = true->look n l = some b->n < c.nv/\b.inB s.nx = true:=by
        intro l
        induction l with
        | nil=>intro _ h; simp [look] at h
        | cons x l ih =>
         intro hall hlk
         obtain ⟨kx,bx⟩:=x
         simp only [List.all_cons,Bool.and_eq_true,Nat.blt_eq] at hall
         simp only [look] at hlk
         split at hlk
         ·rename_i hn
          have hn:=Nat.eq_of_beq_eq_true hn
          simp only [Option.some.injEq] at hlk
          subst hlk; subst hn
          exact hall.1
         ·exact ih (by simpa using hall.2) hlk
       exact this Z.bd hbd hl
      have hbden:∀ b:Bd,b.inB s.nx = true->b.den (qq ρ s.nx us) = b.den ρ:=by
       intro b hbin
       cases b with
       | t x=>exact T.den_congr (n:=s.nx) (fun m hm=>qa5 us ρ s.nx m hm) x hbin
       | r m=>exact qa5 us ρ s.nx m (by simpa [Bd.inB] using hbin)
       | nil=>rfl
      have henv:∀ n,n < c.nv->Z.env (qq ρ s.nx us) n = ρ' n:=by
       intro n hn
       rw [hag' n hn]
       unfold Sg.env
       rw [if_neg (by omega),if_neg (by omega)]
       cases hl:look n Z.bd with
       | none=>rfl
       | some b=>exact hbden b (hlookbd n b hl).2
      have hget:∀ j,j < al.k->qq ρ s.nx us (s.nx + j) = ρ' (c.nv + j):=fun j hj =>
       qkp us ρ s.nx j _ (by simp only [us,List.getElem?_map]; rw [List.getElem?_range hj]; rfl)
      let Z':Sg:={ Z with bd:=qd3 c.nv s.nx al.k ++ Z.bd }
      have lookapp:∀ (l l':List (Nat × Bd)) n,look n (l ++ l') = (look n l).or (look n l'):=by
       intro l l' n
       induction l with
       | nil=>simp [look]
       | cons x l ih =>
        obtain ⟨kx,bx⟩:=x
        simp only [List.cons_append,look]
        split
        ·rfl
        ·exact ih
      have henv':∀ n,Nat.blt n (c.nv + al.k) = true->Z'.env (qq ρ s.nx us) n = ρ' n:=by
       intro n hn
       simp only [Nat.blt_eq] at hn
       unfold Sg.env
       rw [if_neg (by simp only [Z']; omega)]
       simp only [Z',lookapp,qk0]
       by_cases hlt:n < c.nv
       ·rw [if_neg (by omega)]
        have:=henv n hlt
        unfold Sg.env at this
        rw [if_neg (by omega)] at this
        simpa using this
       ·rw [if_pos (by omega)]
        simp only [Option.some_or,Bd.den]
        rw [hget (n - c.nv) (by omega),show c.nv + (n - c.nv) = n from by omega]
      split at h
      ·rename_i v hv' hsv hhs
       split at h
       ·rename_i s2 hput
        have hvden:SV.den (qq ρ s.nx us) v = al.ret.den ρ':=by
         rw [Sg.subSV_den hsv]
         exact SV.den_congrS henv' _ hret
        obtain ⟨hO',hd',hst',hsub',hwi'⟩:=hheap
        have hdd:=Hp.disj_union'.1 hd'
        have hfr:=Holds.fresh (us:=us) (n:=s.nx + al.k) (s:={ s with heap:=hp,pc:=pc })
         (⟨hs'.gd,hs'.nt,hs'.df,hs'.env,hs'.ro,⟨h2,hdF.2,hst2,Hp.sub_le hsub (by
          intro y ob hy
          simp only [Hp.union] at hy ⊢
          cases hFy:hF y with
          | some o'=>rw [hFy] at hy; simpa using hy
          | none =>
           rw [hFy] at hy
           simp only [Option.none_or] at hy ⊢
           rcases hd12 y with hz | hz
           ·rw [hz]; simpa using hy
           ·rw [hz] at hy; cases hy),hwi⟩,hs'.pc,hs'.vw⟩:Holds ρ hF { s with heap:=hp,pc:=pc } a w) hsc hug
        have hstn:qW (qq ρ s.nx us) hp h2:=by
         rcases hsc with hnil | hsc
         ·rw [hnil]; exact hst2
         ·exact qa1 (n:=s.nx) (fun m hm=>(qa5 us ρ s.nx m hm).symm) _ (qbc hsc).2.1 _ hst2
        have hstv:qW (qq ρ s.nx us) hv' hO':=by
         rw [Sg.subHs_den hhs]
         exact qj5 (fun m hm=>(henv' m hm).symm) _ hheapS _ hst'
        have hH:Holds (qq ρ s.nx us) hF { s with heap:=hv' ++ hp,pc:=pc,nx:=s.nx + al.k } a w':=by
         refine ⟨hfr.gd,hfr.nt,hfr.df,hfr.env,hfr.ro,⟨Hp.union hO' h2,Hp.disj_union.2 ⟨hdd.1,hdF.2⟩,qj7 hstv hstn hdd.2.symm,?_,hwi'⟩,hfr.pc,hfr.vw⟩
         refine Hp.sub_le hsub' ?_
         rw [Hp.union_comm hdd.2.symm,<- Hp.union_assoc]
         exact Hp.le_refl _
        obtain ⟨hp2,e1,e2,e3,e4⟩:=Holds.put hH hput
        rw [hvden] at hp2
        have hmix:q2i c.nv al.k s.nx (Z.env (qq ρ s.nx us)) (qq ρ s.nx us) = ρ'.upto (c.nv + al.k):=by
         funext n
         simp only [q2i,Env.upto]
         by_cases hlt:n < c.nv
         ·rw [if_pos hlt,if_pos (by omega),henv n hlt]
         ·rw [if_neg hlt]
          by_cases hlt2:n < c.nv + al.k
          ·rw [if_pos hlt2,if_pos hlt2,hget (n - c.nv) (by omega),show c.nv + (n - c.nv) = n from by omega]
          ·rw [if_neg hlt2,if_neg hlt2]
        have hfin:=h (by simp only [hci,hal,Sg.clean_env,hmix]; exact hpost)
        exact hnext _ s2 _ _ (fun m hm=>qa5 us ρ s.nx m hm) (by rw [e1]; simp) (by rw [e1]; exact hk.mono (by simp) (fun m hm=>qa5 us ρ s.nx m hm)) hp2
         ⟨e2.trans hb.ro,e3.trans hb.nt,by rw [e1]; have:=hb.nv; simp only; omega,fun m hm=>by rw [qa5 us ρ s.nx m (by have:=hb.nv; omega)]; exact hb.ag m hm⟩ hfin
       ·exact h.elim
      ·exact h.elim
 ·split at h
  ·rename_i r hr
   split at h
   ·rename_i hsc
    obtain ⟨us,mb,w',hwhich,hul,hug,hheap,hran⟩:=qxO hs hsc hr h
    have hf:=Holds.fresh (us:=us) (n:=s.nx + us.length) hs (.inr hsc) hug
    have hlt:∀ m,m < s.nx->(qq ρ s.nx us) m = ρ m:=fun m hm=>qa5 us ρ s.nx m hm
    have hH:Holds (qq ρ s.nx us) hF { s with heap:=mb.heap,nx:=s.nx + mb.fresh } a w':=by
     rw [<- hul]
     exact ⟨hf.gd,hf.nt,hf.df,hf.env,hf.ro,hheap,hf.pc,hf.vw⟩
    have hcont:(qn1 s i o k mb).den E (qq ρ s.nx us):=by
     rcases hwhich with ⟨rfl,hw⟩ | ⟨hb,hw⟩
     ·exact hw
     ·rw [hb] at hw; exact hw
    unfold qn1 at hcont
    split at hcont
    ·rename_i s2 hput
     have hbase:∀ s2:S,s2.nx = s.nx + mb.fresh->s2.ro = s.ro->s2.nt = s.nt->Base E ρ0 RO NT (qq ρ s.nx us) s2:=fun s2 e1 e2 e3 =>
      ⟨e2.trans hb.ro,e3.trans hb.nt,by rw [e1]; have:=hb.nv; omega,fun m hm=>by rw [hlt m (by have:=hb.nv; omega)]; exact hb.ag m hm⟩
     have hkm:∀ s2:S,s2.nx = s.nx + mb.fresh->KSem E hF QF RO NT (qq ρ s.nx us) s2.nx K q:=fun s2 e1=>by
      rw [e1]; exact hk.mono (by omega) hlt
     unfold Oper.wp
     cases hv:mb.val with
     | some v =>
      rw [hv] at hran hput
      simp only [Ran] at hran
      rw [hran,Oper.upon_value]
      obtain ⟨hp2,e1,e2,e3,e4⟩:=Holds.put hH hput
      exact hnext _ s2 _ _ hlt (by rw [e1]; simp) (hkm s2 e1) hp2 (hbase s2 e1 e2 e3) hcont
     | none =>
      rw [hv] at hran hput
      simp only [Ran] at hran
      rw [hran,Oper.upon_skip]
      obtain ⟨hdst,rfl⟩:=qnP hput
      rw [hdst]
      exact hnext _ _ _ _ hlt (by simp) (hkm _ rfl) hH (hbase _ rfl rfl rfl) hcont
    ·exact hcont.elim
   ·exact h.elim
  split at h
  ·rename_i r hr
   obtain ⟨hc,pc,hs',h⟩:=qcr hs h
   have h0:=qv (hc _ (List.mem_cons_self ..))
   have h1:=qdw (hc _ (List.mem_cons_of_mem _ (List.mem_cons_self ..)))
   split at h
   ·rename_i hsc
    obtain ⟨u,w',hu,hput,hdst,hrun,hheap⟩:=qy8 (s:={ s with pc:=pc }) hs' hsc (show qum E.P { s with pc:=pc } o = some r from hr) h0 h1
    have hf:=Holds.fresh (us:=[u]) (n:=s.nx + 1) hs' (.inr hsc) (by simpa using hu)
    have hH:Holds (ρ.set s.nx u) hF { s with heap:=s.heap.set r.k (.abs s.nx r.tag),pc:=pc,nx:=s.nx + 1 } a w' :=
     ⟨hf.gd,hf.nt,hf.df,hf.env,hf.ro,hheap,hf.pc,hf.vw⟩
    have hlt:∀ m,m < s.nx->(ρ.set s.nx u) m = ρ m:=fun m hm=>Env.set_ne ρ _ (by omega)
    unfold Oper.wp
    rw [hrun,Oper.upon_skip,hdst]
    exact hnext _ _ _ _ hlt (by simp) (hk.mono (by simp) hlt) hH ⟨hb.ro,hb.nt,by have:=hb.nv; simp only; omega,fun m hm=>by rw [hlt m (by have:=hb.nv; omega)]; exact hb.ag m hm⟩ (h u hu hput)
   ·exact h.elim
  split at h
  ·rename_i fk y v hfz
   split at h
   ·rename_i hsc
    obtain ⟨u,w',hu,hvin,hrun,hheap,hro⟩:=qyo hs hsc hfz
    have h:=h u hu
    split at h
    ·rename_i s2 hput
     have hf:=Holds.fresh (us:=[u]) (n:=s.nx + 1) hs (.inr hsc) (by simpa using hu)
     have hlt:∀ m,m < s.nx->(ρ.set s.nx u) m = ρ m:=fun m hm=>Env.set_ne ρ _ (by omega)
     have hH:Holds (ρ.set s.nx u) hF { s with heap:=.abs s.nx 1001 :: s.heap.eraseIdx fk,vw:=([s.nx],y) :: s.vw,nx:=s.nx + 1 } a w' :=
      ⟨hf.gd,hf.nt,hf.df,hf.env,hf.ro,hheap,hf.pc,fun x hx=>by
       rcases List.mem_cons.1 hx with rfl | hx
       ·exact ⟨s.nx,List.mem_singleton.2 rfl,by rw [Env.set_same]; exact hro⟩
       ·exact hf.vw x hx⟩
     obtain ⟨hp2,e1,e2,e3,e4⟩:=Holds.put hH hput
     unfold Oper.wp
     rw [hrun,Oper.upon_value]
     have hvd:v.den (ρ.set s.nx u) = v.den ρ:=(SV.den_congr (fun m hm=>(hlt m hm).symm) v hvin).symm
     rw [hvd] at hp2
     exact hnext _ s2 _ _ hlt (by rw [e1]; simp) (by rw [e1]; exact hk.mono (by simp) hlt) hp2 ⟨e2.trans hb.ro,e3.trans hb.nt,by rw [e1]; have:=hb.nv; simp only; omega,fun m hm=>by rw [hlt m (by have:=hb.nv; omega)]; exact hb.ag m hm⟩ h
    ·exact h.elim
   ·exact h.elim
  split at h
  ·exact h.elim
  ·rename_i r hr
   obtain ⟨hc,pc,hs',h⟩:=qcr hs h
   by_cases hfr:r.fresh = 0∨s.scopedEH = true
   ·obtain ⟨us,w',hul,hug,hheap,hran,_⟩:=qxV hs hr hc hfr
    rw [<- hul] at h
    obtain ⟨hsc,h⟩:=qfl hug h
    split at h
    ·rename_i s2 hput
     have hf:=Holds.fresh (us:=us) (n:=s.nx + us.length) hs' hsc hug
     have hH:Holds (qq ρ s.nx us) hF { s with heap:=r.heap,pc:=pc,nx:=s.nx + us.length } a w' :=
      ⟨hf.gd,hf.nt,hf.df,hf.env,hf.ro,hheap,hf.pc,hf.vw⟩
     have hbase:∀ s2:S,s2.nx = s.nx + us.length->s2.ro = s.ro->s2.nt = s.nt->Base E ρ0 RO NT (qq ρ s.nx us) s2:=fun s2 e1 e2 e3 =>
      ⟨e2.trans hb.ro,e3.trans hb.nt,by rw [e1]; have:=hb.nv; omega,fun m hm=>by rw [qa5 us ρ s.nx m (by have:=hb.nv; omega)]; exact hb.ag m hm⟩
     have hkm:∀ s2:S,s2.nx = s.nx + us.length->KSem E hF QF RO NT (qq ρ s.nx us) s2.nx K q:=fun s2 e1=>by
      rw [e1]; exact hk.mono (by omega) (fun m hm=>qa5 us ρ s.nx m hm)
     unfold Oper.wp
     cases hv:r.val with
     | some v =>
      rw [hv] at hran hput
      simp only [Ran] at hran
      rw [hran,Oper.upon_value]
      obtain ⟨hp2,e1,e2,e3,e4⟩:=Holds.put hH hput
      exact hnext _ s2 _ _ (fun m hm=>qa5 us ρ s.nx m hm) (by rw [e1]; simp) (hkm s2 e1) hp2 (hbase s2 e1 e2 e3) h
     | none =>
      rw [hv] at hran hput
      simp only [Ran] at hran
      rw [hran,Oper.upon_skip]
      obtain ⟨hdst,rfl⟩:=qnP hput
      rw [hdst]
      exact hnext _ _ _ _ (fun m hm=>qa5 us ρ s.nx m hm) (by simp) (hkm _ rfl) hH (hbase _ rfl rfl rfl) h
    ·exact h.elim
   ·exfalso
    apply hfr
    match hf:r.fresh with
    | 0=>exact .inl rfl
    | m + 1 =>
     rw [hf] at h
     simp only [qfA] at h
     split at h
     ·rename_i hsc
      obtain ⟨a1,a2,_,_⟩:=qbc hsc
      right
      simp only [S.scopedEH,Bool.and_eq_true]
      exact ⟨a1,a2⟩
     ·exact h.elim

theorem Base.anew {ρ0 ρ ρ':Env} {s s':S} (hb:Base E ρ0 RO NT ρ s) (h1:∀ m,m < s.nx->ρ' m = ρ m) (h2:s.nx <= s'.nx) (h3:s'.ro = s.ro) (h4:s'.nt = s.nt):Base E ρ0 RO NT ρ' s' :=
 ⟨h3.trans hb.ro,h4.trans hb.nt,Nat.le_trans hb.nv h2,fun m hm=>(h1 m (Nat.lt_of_lt_of_le hm hb.nv)).trans (hb.ag m hm)⟩

theorem q6Y {P:Program} {ρ:Env} {s:S} {a:Act} {w:World} {o:Oper} {k:S->Out} (hs:Holds ρ hF s a w) (h:(q5b P s o k).den E ρ):qar E hF ρ s a w k:=by
 unfold q5b at h
 split at h
 ·exact qge hs h
 ·exact qar.self hs h
theorem qpn {ρ0 ρ:Env} {s:S} {a:Act} {w:World} {i:Nat} {o:Oper} {q q':Exit->Act->World->Prop} {K:List KI} {next:Act->World->Prop} {k:S->Out} (hctr:∀ c ∈ E.ctrs,c.ok E.P)
  (hs:Holds ρ hF s a w) (hb:Base E ρ0 RO NT ρ s) (hk:KSem E hF QF RO NT ρ s.nx K q)
  (hnext:∀ ρ' s' a' w',(∀ m,m < s.nx->ρ' m = ρ m)->s.nx <= s'.nx->KSem E hF QF RO NT ρ' s'.nx K q->Holds ρ' hF s' a' w'->Base E ρ0 RO NT ρ' s'->(k s').den E ρ'->next a' w')
  (h:(qsu E s i o k).den E ρ):o.wp E.P a w next q':=by
 unfold qsu at h
 obtain ⟨ρ1,s1,a1,a2,a3,a4,a5,h⟩:=(qx2 hs h).bind (k':=fun s=>quj E (qg4 E.me.ip s o) i o k) fun ρ' s' e1 e2 hs' h' =>
  (q6Y hs' h').bind fun ρ' s' _ _ hs' h'=>(q4g hs' h').bind fun ρ' s' _ _ hs' h'=>(qqA hs' h').bind fun ρ' s' _ _ hs' h'=>(qqV hs' h').bind fun ρ' s' _ _ hs' h'=>(q3y hs' h').bind fun ρ' s' _ _ hs' h'=>qkI (fun c hm=>qtD hs' hm) hs' h'
 obtain ⟨b1,b2,b3,b4⟩:=qtR E.me.ip o a3
 refine qyw hctr b1 (hb.anew a1 (by rw [b2]; exact a2) (b3.trans a4) (b4.trans a5)) (by rw [b2]; exact hk.mono a2 a1) (fun ρ' s' a' w' h1 h2 h3 h4 h5 h6=>?_) h
 rw [b2] at h1 h2
 exact hnext ρ' s' a' w' (fun m hm=>(h1 m (by omega)).trans (a1 m hm)) (by omega) h3 h4 h5 h6

theorem qnC {ρ:Env} {k:Nat->Out}:∀ {l:List Nat} {i:Nat},i ∈ l->(qs8 k l).den E ρ->(k i).den E ρ
 | [],i,h,_=>by cases h
 | j :: l,i,h,hd=>by
  cases h with
  | head=>exact hd.1
  | tail _ h=>exact qnC h hd.2

theorem qln {base nv:Nat} {ρ ρh:Env} (hag:∀ m,m < base + nv->ρ m = ρh m):qeS base nv ρ = qeS base nv ρh:=by
 funext m
 simp only [qeS]
 split
 ·split
  ·exact hag m (by omega)
  ·rfl
 ·split
  ·exact hag _ (by omega)
  ·rfl

theorem qzR {fn:Func} {ρ0:Env} (hctr:∀ c ∈ E.ctrs,c.ok E.P)
  (hret:∀ ρ s a w v,Holds ρ hF s a w->qls fn s E.P = some v->q73 E hF ρ0 (.returned (v.den ρ)) w->QF .normal a w/\QF .ret a w) :
  ∀ (n:Nat) (K:List KI) (s:S) (ρ:Env) (a:Act) (w:World) (q:Exit->Act->World->Prop),KSem E hF QF RO NT ρ s.nx K q->Holds ρ hF s a w->Base E ρ0 RO NT ρ s ->
   (qab E fn n K s).den E ρ->q .normal a w:=by
 intro n
 induction n with
 | zero=>intro K s ρ a w q hk hs hb h; exact h.elim
 | succ n ih =>
  intro K s ρ a w q hk hs hb h
  have hend:∀ {ρ:Env} {s:S} {a:Act} {w:World},Holds ρ hF s a w->Base E ρ0 RO NT ρ s->(qab E fn (n + 1) [] s).den E ρ->QF .normal a w/\QF .ret a w:=by
   intro ρ s a w hs hb h
   simp only [qab] at h
   split at h
   ·rename_i v hv
    exact hret ρ s a w v hs hv (qfw hs hb _ 0 (fun j=>by rw [Nat.zero_add]) h)
   ·exact h.elim
  cases hk with
  | nil=>exact (hend hs hb h).1
  | @blk _ id K q hk =>
   simp only [qab] at h
   show q .normal a w
   exact ih K s ρ a w q hk hs hb h
  | @again _ c K q hk =>
   simp only [qab] at h
   show qqc E.P c q a w
   refine qna ?_
   exact ih (.code c :: .again c :: K) s ρ a w _ (.code (.again hk)) hs hb h
  | lend hI hbn hag he hh hf hro hpc hpt hk =>
   simp only [qab,hI] at h
   split at h
   ·obtain ⟨ρ1,s1,a1,a2,a3,a4,a5,h⟩:=qdF hs h
    simp only [q7K] at h
    split at h
    ·rename_i rest Z hm
     split at h
     ·rename_i cs hl
      obtain ⟨hc,pc',hs',hk'⟩:=qcr a3 h
      simp only [Out.den,hI] at hk'
      have hag1:∀ m,m < _->ρ1 m = _:=fun m hm=>(a1 m (Nat.lt_of_lt_of_le hm hbn)).trans (hag m hm)
      obtain ⟨ρ2,h1,h2,h3⟩:=qhr a3 (fun m hm=>hag1 m (by omega)) hm hl hc he hh hf (by rw [a4,hb.ro]; exact hro) hpc hpt
      rw [a4,hb.ro,a5,hb.nt] at h2
      refine ⟨_,?_,ρ2,h1,h2,by rw [h3]; exact hk'.1,rfl⟩
      rw [h3]
      rw [<- qln hag1]; exact hk'.2
     ·exact h.elim
    ·exact h.elim
   ·exact h.elim
  | cutE hI hbn hag he hh hf hro hpc hpt hk =>
   simp only [qab,hI] at h
   split at h
   ·obtain ⟨ρ1,s1,a1,a2,a3,a4,a5,h⟩:=qdF hs h
    simp only [qAk] at h
    split at h
    ·rename_i rest Z hm
     split at h
     ·rename_i cs hl
      obtain ⟨hc,pc',hs',hk'⟩:=qcr a3 h
      simp only [Out.den,hI] at hk'
      have hag1:∀ m,m < _->ρ1 m = _:=fun m hm=>(a1 m (Nat.lt_of_lt_of_le hm hbn)).trans (hag m hm)
      obtain ⟨ρ2,h1,h2,h3⟩:=qhr a3 hag1 hm hl hc he hh hf (by rw [a4,hb.ro]; exact hro) hpc hpt
      rw [a4,hb.ro,a5,hb.nt] at h2
      exact ⟨_,ρ2,h1,h2,by rw [h3]; exact hk',rfl⟩
     ·exact h.elim
    ·exact h.elim
   ·exact h.elim
  | @ops _ ops l K q hk =>
   cases l with
   | nil =>
    simp only [qab] at h
    show q .normal a w
    exact ih K s ρ a w q hk hs hb h
   | cons i l =>
    simp only [qab] at h
    refine qjf ?_
    cases ho:ops[i]? with
    | none =>
     simp only [ho] at h
     simp only [wpOps,ho]
     exact ih (.ops ops l :: K) s ρ a w _ (.ops hk) hs hb h
    | some o =>
     simp only [ho] at h
     -- carrying the operation out
     have hgo:∀ (s:S),Holds ρ hF s a w->Base E ρ0 RO NT ρ s->KSem E hF QF RO NT ρ s.nx K q ->
       (qsu E s i o (fun s=>qab E fn n (.ops ops l :: K) s)).den E ρ->o.wp E.P a w (wpOps E.P ops q l) q:=by
      intro s hs hb hk h
      exact qpn hctr hs hb hk (fun ρ' s' a' w' _ _ hk' hs' hb' h'=>ih (.ops ops l :: K) s' ρ' a' w' _ (.ops hk') hs' hb' h') h
     split at h
     ·exact h.elim
     ·rename_i hg
      exact qzd ho (qfV hs hg) (hgo s hs hb hk h)
     ·rename_i c want hg
      have hgw:=qfV hs hg
      obtain ⟨b,pc,hcb,hs',hk'⟩:=qkO hs h
      simp only [hcb] at hgw
      have hb':Base E ρ0 RO NT ρ { s with pc:=pc }:=⟨hb.ro,hb.nt,hb.nv,hb.ag⟩
      split at hk'
      ·rename_i hbw
       exact qzd ho (by rw [hgw]; simpa using hbw) (hgo _ hs' hb' hk hk')
      ·rename_i hbw
       refine q9z ho (by rw [hgw]; simpa using hbw) ?_
       split at hk'
       ·rename_i s2 hput
        obtain ⟨hp,e1,e2,e3,e4⟩:=Holds.put hs' hput
        have hu:SV.den ρ (.tup []) = undef:=by simp [SV.den,undef]
        rw [hu] at hp
        exact ih (.ops ops l :: K) s2 ρ _ w _ (.ops (by rw [e1]; exact hk)) hp ⟨e2.trans hb.ro,e3.trans hb.nt,by rw [e1]; exact hb.nv,hb.ag⟩ hk'
       ·exact hk'.elim
  | @any _ K q ρS n0 ops listed left st hst hn0 hagS hk =>
   refine qjf ?_
   simp only [qab] at h
   split at h
   ·rename_i hr
    refine qxW hr ?_ _
    exact NoPanic.normal (ih K s ρ a w q hk hs hb h)
   ·rename_i j R hr
    split at h
    ·exact h.elim
    ·rename_i left
     ·skip
      have hSof:∀ {ρ':Env} {s':S} {a':Act} {w':World},Holds ρ' hF s' a' w'->qdJ st s'.heap = true->(∀ m,m < n0->ρ' m = ρS m)->qs ρS hF st w':=by
       intro ρ' s' a' w' hs' hsub hag
       obtain ⟨hO,hd,hst',hsub',hwi'⟩:=hs'.hp
       exact ⟨hO,hd,qa1 hag _ hst _ (qi1 hsub hst'),hsub',hwi'⟩
      have hQ:∀ (o:Oper) (v:Value) c a w,NoPanic q (.panic c) (a.put o.dst v) w->NoPanic q (.panic c) a w:=fun _ _ _ _ _ h=>h.elim
      split at h
      ·-- a guard decided first
       rename_i c _
       obtain ⟨b,pc,_,hs',hk'⟩:=qkO hs h
       exact ih (.any ops listed (left + 1) st :: K) { s with pc:=pc } ρ a w _ (.any ρS n0 _ _ _ _ hst hn0 hagS hk) hs' ⟨hb.ro,hb.nt,hb.nv,hb.ag⟩ hk'
      ·-- one taken first
       rename_i i _
       split at h
       ·exact h.elim
       ·rename_i hfree
        simp only [Bool.not_eq_true',Bool.not_eq_false,Bool.and_eq_true] at hfree
        obtain ⟨⟨⟨⟨hsubH,hnosel⟩,hiA⟩,hfr⟩,hcon⟩:=hfree
        have hiA:i ∈ qhg E.me.ip ops:=by simpa using hiA
        have hSw:=hSof hs hsubH hagS
        split at h
        ·exact h.elim
        ·rename_i o ho
         split at h
         ·rename_i hg
          have hw:=qgm hs hg
          split at h
          ·rename_i s2 hput
           obtain ⟨hp,e1,e2,e3,e4⟩:=Holds.put hs hput
           have hu:SV.den ρ (.tup []) = undef:=by simp [SV.den,undef]
           rw [hu] at hp
           refine qnH ho hiA hnosel hfr (by rw [hr]; exact hcon) (hQ o undef) (.inr ⟨hw,rfl⟩) hSw ?_
           exact ih (.any ops (listed.setIfInBounds i true) left st :: K) s2 ρ _ w _ (.any ρS n0 _ _ _ _ hst (by rw [e1]; exact hn0) hagS (by rw [e1]; exact hk)) hp ⟨e2.trans hb.ro,e3.trans hb.nt,by rw [e1]; exact hb.nv,hb.ag⟩ h
          ·exact h.elim
         ·rename_i hg
          have hw:=qgm hs hg
          obtain ⟨pc0,hs0,h⟩:=q2H hs h
          replace hs:=hs0
          split at h
          ·rename_i r hq
           obtain ⟨hc,pc,hs',hnd⟩:=qcr hs h
           clear h
           split at hnd
           ·rename_i s2 hput
            unfold qwC at hq
            split at hq
            ·rename_i r' hstep
             split at hq
             ·rename_i hrr
              simp only [Option.some.injEq] at hq; subst hq
              simp only [Bool.and_eq_true] at hrr
              have hf0:=Nat.eq_of_beq_eq_true hrr.1
              obtain ⟨v,hv⟩:=Option.isSome_iff_exists.1 hrr.2
              have hy:YieldsIf E.P ops (fun w'=>qs ρS hF st w') o (v.den ρ) a:=by
               refine .inl ⟨hw,fun w' hSw'=>?_⟩
               obtain ⟨hO,hd,hstS,hsubS,hwiS⟩:=hSw'
               have hsR:Holds ρ hF { s with heap:=st,pc:=pc0 } a w':=⟨hs.gd,hs.nt,hs.df,hs.env,hs.ro,⟨hO,hd,qa1 (fun m hm=>(hagS m hm).symm) _ hst _ hstS,hsubS,hwiS⟩,hs.pc,hs.vw⟩
               obtain ⟨us,w2,hul,_,_,hran,hsame⟩:=qj2 hsR hstep hc (.inl hf0)
               have hw2:=hsame hf0 hrr.2
               subst hw2
               rw [hf0] at hul
               have:us = []:=List.length_eq_zero_iff.1 hul
               subst this
               simpa only [Ran,hv,qq] using hran
              rw [hv] at hput
              obtain ⟨hp,e1,e2,e3,e4⟩:=Holds.put hs' hput
              refine qnH ho hiA hnosel hfr (by rw [hr]; exact hcon) (hQ o _) hy hSw ?_
              exact ih (.any ops (listed.setIfInBounds i true) left st :: K) s2 ρ _ w _ (.any ρS n0 _ _ _ _ hst (by rw [e1]; exact hn0) hagS (by rw [e1]; exact hk)) hp ⟨e2.trans hb.ro,e3.trans hb.nt,by rw [e1]; exact hb.nv,hb.ag⟩ hnd
             ·simp at hq
            ·simp at hq
           ·exact hnd.elim
          ·exact h.elim
         ·exact h.elim
      ·-- whichever comes
       refine q2s hr (by simp) fun i hi=>?_
       have h:=qnC hi h
       unfold wpOp
       split at h
       ·exact h.elim
       ·rename_i o ho
        simp only [ho]
        split at h
        ·rename_i hg
         rw [if_pos (qgm hs hg)]
         refine .inl (qpn hctr hs hb hk (fun ρ' s' a' w' hag' hnx' hk' hs' hb' h'=>?_) h)
         split at h'
         ·exact h'.elim
         ·rename_i hsub2
          simp only [Bool.not_eq_true',Bool.not_eq_false,Bool.or_eq_true] at hsub2
          have hag2:∀ m,m < n0->ρ' m = ρS m:=fun m hm=>(hag' m (by omega)).trans (hagS m hm)
          exact ⟨hsub2.imp id (fun hsub2=>hSof hs' hsub2 hag2),ih (.any ops (listed.setIfInBounds i true) left st :: K) s' ρ' a' w' _ (.any ρS n0 _ _ _ _ hst (by omega) hag2 hk') hs' hb' h'⟩
        ·rename_i hg
         rw [if_neg (by rw [qgm hs hg]; simp)]
         split at h
         ·exact h.elim
         rename_i hsub2
         simp only [Bool.not_eq_true',Bool.not_eq_false,Bool.or_eq_true] at hsub2
         split at h
         ·rename_i s2 hput
          obtain ⟨hp,e1,e2,e3,e4⟩:=Holds.put hs hput
          have hu:SV.den ρ (.tup []) = undef:=by simp [SV.den,undef]
          rw [hu] at hp
          exact ⟨hsub2.imp id (fun hsub2=>hSof hs hsub2 hagS),ih (.any ops (listed.setIfInBounds i true) left st :: K) s2 ρ _ w _ (.any ρS n0 _ _ _ _ hst (by rw [e1]; exact hn0) hagS (by rw [e1]; exact hk)) hp ⟨e2.trans hb.ro,e3.trans hb.nt,by rw [e1]; exact hb.nv,hb.ag⟩ h⟩
         ·exact h.elim
        ·exact h.elim
  | @code _ c K q hk =>
   refine qjf ?_
   cases c with
   | skip=>simp only [qab] at h; exact wp_skip (ih K s ρ a w q hk hs hb h)
   | label l=>simp only [qab] at h; exact wp_label (ih K s ρ a w q hk hs hb h)
   | seq x y =>
    simp only [qab] at h
    split at h
    ·rename_i li I hfi
     have hfi':E.invs[li]? = some I:=by
      obtain ⟨key,_,h2⟩:=Option.bind_eq_some_iff.1 hfi
      simpa using (qhq h2).2
     obtain ⟨hA,h⟩:=h
     simp only [q7A] at h
     split at h
     ·exact h.elim
     ·rename_i hchk
      simp only [Bool.not_eq_true',Bool.not_eq_false,Bool.and_eq_true] at hchk
      obtain ⟨hsc,hfit⟩:=hchk
      split at h
      ·rename_i env heap he hh
       obtain ⟨sc1,sc2,sc3,sc4⟩:=qbc hsc
       have hro:RO.all (SH.inB s.nx) = true:=by rw [<- hb.ro]; exact sc3
       refine wp_seq ?_
       have hw:=ih (.code x :: .cutE li s.nx :: .code y :: K) s ρ a w _ (.code (.cutE (env:=env) (heap:=heap) (pc:=s.pc) hfi' (Nat.le_refl _) (fun m _=>rfl) he hh hfit hro sc4 hs.pc (.code hk))) hs hb hA
       refine wp_mono hw fun e a1 w1 hq=>?_
       cases e with
       | normal =>
        obtain ⟨m,ρ3,g1,g2,g3,rfl⟩:=hq
        let us:List U:=(List.range I.nv).map fun j=>ρ3 (s.nx + j)
        have hul:us.length = I.nv:=by simp [us]
        have hug:∀ u ∈ us,u.good:=fun u hu=>by
         obtain ⟨j,_,rfl⟩:=List.mem_map.1 hu
         exact g2.gd _
        rw [<- hul] at h
        obtain ⟨_,h⟩:=qfl hug h
        have hag3:∀ m,m < s.nx + I.nv->qq ρ s.nx us m = ρ3 m:=fun m hm=>by
         by_cases hlt:m < s.nx
         ·rw [qa5 us ρ s.nx m hlt,g1 m hlt]
         ·have:=qkp us ρ s.nx (m - s.nx) (ρ3 m) (by simp only [us,List.getElem?_map]; rw [List.getElem?_range (by omega)]; simp; congr 1; omega)
          rwa [show s.nx + (m - s.nx) = m from by omega] at this
        split at h
        ·exact h.elim
        ·rename_i hsc2
         simp only [Bool.not_eq_true',Bool.not_eq_false] at hsc2
         have hstate:({ env:=env,heap:=heap,ro:=s.ro,pc:=s.pc,nx:=s.nx + us.length,nt:=s.nt,vw:=[] }:S) = qfs RO NT s.pc s.nx I.nv env heap:=by
          rw [qfs,hul,hb.ro,hb.nt]
         simp only [Out.den,hfi'] at h
         rw [hstate] at h hsc2
         have hH:=g2.congr hsc2 (qiA us ρ s.nx hs.gd hug) (fun m hm=>(hag3 m hm).symm)
         have hrel:qeS s.nx I.nv (qq ρ s.nx us) = qeS s.nx I.nv ρ3:=qln hag3
         have hk3:KSem E hF QF RO NT (qq ρ s.nx us) (s.nx + I.nv) K q:=hk.mono (by omega) (fun m hm=>qa5 us ρ s.nx m hm)
         exact ih (.code y :: K) (qfs RO NT s.pc s.nx I.nv env heap) (qq ρ s.nx us) a1 w1 _ (.code hk3) hH
          ⟨rfl,rfl,by have:=hb.nv; simp only [qfs]; omega,fun m hm=>by rw [qa5 us ρ s.nx m (by have:=hb.nv; omega)]; exact hb.ag m hm⟩ (h (by rw [hrel]; exact g3))
       | exit id=>exact hq
       | goto l=>exact hq
       | ret=>exact hq
       | panic ch=>exact hq
       | outgrown=>exact hq
      ·exact h.elim
    ·exact wp_seq (ih (.code x :: .code y :: K) s ρ a w _ (.code (.code hk)) hs hb h)
   | block id b =>
    simp only [qab] at h
    exact wp_block (ih (.code b :: .blk id :: K) s ρ a w _ (.code (.blk hk)) hs hb h)
   | exit id =>
    simp only [qab] at h
    split at h
    ·rename_i K' hp
     obtain ⟨q',h1,h2⟩:=hk.pop hp
     exact wp_exit (h2 a w (ih K' s ρ a w q' h1 hs hb h))
    ·exact h.elim
   | ret =>
    simp only [qab] at h
    refine wp_ret (hk.ret ?_)
    cases n with
    | zero=>exact h.elim
    | succ m =>
     simp only [qab] at h
     split at h
     ·rename_i v hv
      exact (hret ρ s a w v hs hv (qfw hs hb _ 0 (fun j=>by rw [Nat.zero_add]) h)).2
     ·exact h.elim
   | cond c x y =>
    simp only [qab] at h
    split at h
    ·rename_i t ht
     have hev:=hs.opd ht
     simp only [SV.den,T.den,O1.den] at hev
     obtain ⟨b,pc,hcb,hs',hk'⟩:=qkO hs h
     rw [hcb] at hev
     refine wp_cond hev ?_
     exact ih (.code (if b then x else y) :: K) { s with pc:=pc } ρ a w _ (.code hk) hs' ⟨hb.ro,hb.nt,hb.nv,hb.ag⟩ hk'
    ·exact h.elim
   | region id ops draw =>
    cases draw with
    | true =>
     simp only [qab] at h
     split at h
     ·rename_i hc
      simp only [Bool.and_eq_true] at hc
      have hst:(qjF E s ops).all (SH.inB s.nx) = true∨True:=.inr trivial
      refine wp_region_noPanic (qyk (A:=qhg E.me.ip ops) (S:=fun w'=>qs ρ hF (qjF E s ops) w') hc.1.1 ?_)
      have hs2:Holds ρ hF s a { w with drawn:=w.drawn + 1 }:=⟨hs.gd,hs.nt,hs.df,hs.env,hs.ro,hs.hp,hs.pc,hs.vw⟩
      split at h
      ·rename_i hin
       exact ih (.any ops (Array.replicate ops.size false) ops.size (qjF E s ops) :: K) s ρ a _ _ (.any ρ s.nx _ _ _ _ hin (Nat.le_refl _) (fun _ _=>rfl) hk) hs2 hb h
      ·exact h.elim
     ·exact h.elim
    | false =>
     simp only [qab] at h
     exact wp_region (ih (.ops ops (List.range ops.size) :: K) s ρ a w _ (.ops hk) hs hb h)
   | loop b =>
    simp only [qab] at h
    split at h
    ·refine qy5 (qna ?_)
     exact ih (.code b :: .again b :: K) s ρ a w _ (.code (.again hk)) hs hb h
    ·rename_i li I hfi
     have hfi':E.invs[li]? = some I:=by
      obtain ⟨key,_,h2⟩:=Option.bind_eq_some_iff.1 hfi
      exact quL h2
     split at h
     ·exact h.elim
     ·obtain ⟨ρ1,s1,a1,a2,a3,a4,a5,h⟩:=qdF hs h
      have hb1:Base E ρ0 RO NT ρ1 s1:=hb.anew a1 a2 a4 a5
      have hk1:=hk.mono a2 a1
      simp only [q79] at h
      split at h
      ·exact h.elim
      ·rename_i rest Z hm
       split at h
       ·exact h.elim
       ·rename_i cs hl
        obtain ⟨hc,pc,hs',h⟩:=qcr a3 h
        split at h
        ·exact h.elim
        ·rename_i hchk
         simp only [Bool.not_eq_true',Bool.not_eq_false,Bool.and_eq_true] at hchk
         obtain ⟨hsc,hfit⟩:=hchk
         simp only [Out.den,hfi'] at h
         obtain ⟨hinv,h⟩:=h
         split at h
         ·rename_i env heap he hh
          obtain ⟨sc1,sc2,sc3,sc4⟩:=qbc hsc
          have hb':Base E ρ0 RO NT ρ1 { s1 with pc:=pc }:=⟨hb1.ro,hb1.nt,hb1.nv,hb1.ag⟩
          have hro:RO.all (SH.inB s1.nx) = true:=by rw [<- hb1.ro]; exact sc3
          obtain ⟨ρ2,h1,h2,h3⟩:=qhr (ρh:=ρ1) hs' (fun m _=>rfl) hm hl hc he hh hfit sc3 sc4 hs'.pc
          have h2':Holds ρ2 hF (qfs RO NT pc s1.nx I.nv env heap) a w:=by rw [<- hb1.ro,<- hb1.nt]; exact h2
          refine qtI (fun m a w=>qvu E hF RO NT pc s1.nx I env heap ρ1 m a w) ?_ (I.mu (qeS s1.nx I.nv ρ2)) a w ⟨ρ2,h1,h2',by rw [h3]; exact hinv,rfl⟩
          rintro m a1 w1 ⟨ρ3,g1,g2,g3,rfl⟩
          let us:List U:=(List.range I.nv).map fun j=>ρ3 (s1.nx + j)
          have hul:us.length = I.nv:=by simp [us]
          have hug:∀ u ∈ us,u.good:=fun u hu=>by
           obtain ⟨j,_,rfl⟩:=List.mem_map.1 hu
           exact g2.gd _
          rw [<- hul] at h
          obtain ⟨_,h⟩:=qfl hug h
          have hag3:∀ m,m < s1.nx + I.nv->qq ρ1 s1.nx us m = ρ3 m:=fun m hm=>by
           by_cases hlt:m < s1.nx
           ·rw [qa5 us ρ1 s1.nx m hlt,g1 m hlt]
           ·have:=qkp us ρ1 s1.nx (m - s1.nx) (ρ3 m) (by simp only [us,List.getElem?_map]; rw [List.getElem?_range (by omega)]; simp; congr 1; omega)
            rwa [show s1.nx + (m - s1.nx) = m from by omega] at this
          split at h
          ·exact h.elim
          ·rename_i hsc2
           simp only [Bool.not_eq_true',Bool.not_eq_false] at hsc2
           have hstate:({ env:=env,heap:=heap,ro:=s1.ro,pc:=pc,nx:=s1.nx + us.length,nt:=s1.nt,vw:=[] }:S) = qfs RO NT pc s1.nx I.nv env heap:=by
            rw [qfs,hul,hb1.ro,hb1.nt]
           simp only [Out.den,hfi'] at h
           rw [hstate] at h hsc2
           have hH:=g2.congr hsc2 (qiA us ρ1 s1.nx a3.gd hug) (fun m hm=>(hag3 m hm).symm)
           have hrel:qeS s1.nx I.nv (qq ρ1 s1.nx us) = qeS s1.nx I.nv ρ3:=qln hag3
           have hk3:KSem E hF QF RO NT (qq ρ1 s1.nx us) (s1.nx + I.nv) K q:=hk1.mono (by omega) (fun m hm=>qa5 us ρ1 s1.nx m hm)
           rw [Nat.add_sub_cancel] at h
           have:=ih (.code b :: .lend li s1.nx :: K) (qfs RO NT pc s1.nx I.nv env heap) (qq ρ1 s1.nx us) a1 w1 _
            (.code (.lend hfi' (Nat.le_refl _) (fun m hm=>rfl) he hh hfit hro sc4 hH.pc hk3)) hH
            ⟨rfl,rfl,by have:=hb1.nv; simp only [qfs]; omega,fun m hm=>by rw [qa5 us ρ1 s1.nx m (by have:=hb1.nv; omega)]; exact hb1.ag m hm⟩ (h (by rw [hrel]; exact g3))
           refine wp_mono this fun e a2 w2 hq=>?_
           cases e with
           | normal =>
            obtain ⟨m',hm',ρ4,k1,k2,k3,k4⟩:=hq
            rw [hrel] at hm'
            exact ⟨m',hm',ρ4,fun n hn=>(k1 n hn).trans (qa5 us ρ1 s1.nx n hn),k2,k3,k4⟩
           | exit id=>exact hq
           | goto l=>exact hq
           | ret=>exact hq
           | panic ch=>exact hq
           | outgrown=>exact hq
         ·exact h.elim
   | rangeFunc f p x y=>exact h.elim
   | scope b=>exact h.elim
   | goto l=>exact h.elim
   | refuse y=>exact h.elim

end Go.Eng

set_option linter.unusedSimpArgs false
set_option linter.unusedVariables false
namespace Go.Eng
open Go

def qlI:Nat->List SV->List (Nat × SV)
 | _,[]=>[]
 | i,v :: r=>(i,v) :: qlI (i + 1) r
def qpy (c:Ctr) (nt:Nat):S:={ env:=qlI 0 c.args,heap:=c.heap,ro:=c.ro,pc:=[],nx:=c.nv,nt }

theorem qmU:∀ (l:List SV) (i t:Nat) (v:SV),qaV t (qlI i l) = some v->i <= t/\l[t - i]? = some v
 | [],i,t,v,h=>by simp [qlI,qaV] at h
 | x :: r,i,t,v,h=>by
  simp only [qlI,qaV] at h
  split at h
  ·rename_i ht
   have ht:=Nat.eq_of_beq_eq_true ht
   simp only [Option.some.injEq] at h
   subst ht; subst h
   simp
  ·obtain ⟨h1,h2⟩:=qmU r (i + 1) t v h
   refine ⟨by omega,?_⟩
   rw [show t - i = (t - (i + 1)) + 1 from by omega,List.getElem?_cons_succ]; exact h2

def qj (E:Ctx) (fuel:Nat) (fn:Func):Out :=
 match fn.body with
 | some c=>qab E fn fuel [.code c] (qpy E.me fn.ntmps)
 | none=>.stuck 99 0 0

theorem qf {P:Program} {c:Ctr} {ctrs:List Ctr} {invs:List Inv} {fn:Func} (hf:P.funcs[c.fn]? = some fn)
  (hcall:∀ (args:Array Value) (w:World),(callFunc c.fn args).run P w = .ok (.enter c.fn args) w) (hctr:∀ c ∈ ctrs,c.ok P) (fuel:Nat)
  (h:∀ ρ:Env,ρ.good->c.pre ρ->(qj ⟨P,c,ctrs,invs⟩ fuel fn).den ⟨P,c,ctrs,invs⟩ ρ):c.ok P:=by
 refine ⟨hcall,fun ρ w hF hO hg hd hsub hst hro hpre=>?_⟩
 have h:=h ρ hg hpre
 unfold qj at h
 split at h
 ·rename_i code hb
  refine calls_of_wp hf hb ?_
  have hs:Holds ρ hF (qpy c fn.ntmps) { tmps:=(c.args.map (SV.den ρ)).toArray ++ Array.replicate (fn.ntmps - (c.args.map (SV.den ρ)).toArray.size) undef,defers:=[] } w:=by
   refine ⟨hg,?_,rfl,fun t v hv=>?_,hro,⟨hO,hd,hst,hsub.1,hsub.2⟩,fun c b hc=>(by cases hc),fun x hx=>(by cases hx)⟩
   ·simp only [qpy,Array.size_append,Array.size_replicate]; omega
   ·obtain ⟨_,h2⟩:=qmU c.args 0 t v hv
    simp only [Nat.sub_zero] at h2
    have hlt:t < c.args.length:=by
     rcases Nat.lt_or_ge t c.args.length with h | h
     ·exact h
     ·rw [List.getElem?_eq_none h] at h2; cases h2
    rw [Array.getD_eq_getD_getElem?,Array.getElem?_append_left (by simpa using hlt)]
    simp [h2]
  have:=qzR (E:=⟨P,c,ctrs,invs⟩) (hF:=hF) (RO:=c.ro) (NT:=fn.ntmps) (ρ0:=ρ) (fn:=fn)
   (QF:=bodyPost P fn fun e w'=>∃ (ai:Nat) (al:Alt) (ρ':Env),c.alts[ai]? = some al/\ρ'.good/\(∀ n,n < c.nv->ρ' n = ρ n)/\e = .returned (al.ret.den ρ')/\al.post (ρ'.upto (c.nv + al.k))/\qs ρ' hF al.heap w')
   hctr (fun ρ' s a w v hs hv hr=>⟨⟨hs.df,_,qjJ hs hv,hr⟩,⟨hs.df,_,qjJ hs hv,hr⟩⟩)
   fuel [.code code] (qpy c fn.ntmps) ρ _ w _ (.code .nil) hs ⟨rfl,rfl,Nat.le_refl _,fun _ _=>rfl⟩ h
  refine wp_mono this fun e a w hq=>?_
  cases e <;> exact hq
 ·exact h.elim

theorem qyE {p:Prop}:(∀ u:U,u.good->p)↔p:=⟨fun h=>h {} (by simp [U.good,Value.oneCell']),fun h _ _=>h⟩

@[simp] theorem qAJ (x y:Int):(qH .lss x y = true)↔(x < y):=by simp [qH]
@[simp] theorem qAI (x y:Int):(qH .lss x y = false)↔(y <= x):=by simp [qH]
@[simp] theorem qAQ (x y:Int):(qH .leq x y = true)↔(x <= y):=by simp [qH]
@[simp] theorem qAL (x y:Int):(qH .leq x y = false)↔(y < x):=by simp [qH]
@[simp] theorem qAH (x y:Int):(qH .gtr x y = true)↔(y < x):=by simp [qH]
@[simp] theorem qAN (x y:Int):(qH .gtr x y = false)↔(x <= y):=by simp [qH]
@[simp] theorem qAP (x y:Int):(qH .geq x y = true)↔(y <= x):=by simp [qH]
@[simp] theorem qAF (x y:Int):(qH .geq x y = false)↔(x < y):=by simp [qH]
@[simp] theorem qAG (x y:Int):(qH .eql x y = true)↔(x = y):=by simp [qH]
@[simp] theorem qAM (x y:Int):(qH .eql x y = false)↔(¬ x = y):=by simp [qH]
@[simp] theorem qAR (x y:Int):(qH .neq x y = true)↔(¬ x = y):=by simp [qH]
@[simp] theorem qAK (x y:Int):(qH .neq x y = false)↔(x = y):=by simp [qH]

attribute [simp] qyE MK.sem qbU qq Out.den T.den O0.den O1.den O2.den O3.den SV.den Sg.env Eng.look Bd.den Env.set Env.upto q2i cutE qeS
end Go.Eng

set_option linter.unusedSimpArgs false
set_option linter.unusedVariables false
namespace Go.Eng
open Go
abbrev W32:=BitVec 32
def toW (x:Int):W32:=BitVec.ofInt 32 x
def ofW (b:W32):Int:=(b.toNat:Int)
def isW (x:Int):Prop:=0 <= x/\x < 4294967296
theorem qn0 {b:W32}:isW (ofW b):=⟨by unfold ofW; omega,by unfold ofW; have:=b.isLt; omega⟩
theorem qf4 {b:W32}:toW (ofW b) = b:=by
 apply BitVec.eq_of_toNat_eq
 simp [toW,ofW,BitVec.toNat_ofInt]
theorem qeP {x:Int} (h:isW x):ofW (toW x) = x:=by
 obtain ⟨h0,h1⟩:=h
 simp [toW,ofW,BitVec.toNat_ofInt]
 omega
theorem qqN {x:Int}:IntKind.u32.wrap x = ofW (toW x):=by
 simp [IntKind.wrap,IntKind.bits,IntKind.signed,ofW,toW,BitVec.toNat_ofInt]
 omega
theorem q8V {x y:Int}:toW (x + y) = toW x + toW y:=BitVec.ofInt_add ..
theorem qns {x y:Int}:qe .add .u32 x y = ofW (toW x + toW y):=by
 show IntKind.u32.wrap (x + y) = _
 rw [qqN,q8V]
theorem qvj {b:W32}:IntKind.u32.wrap (b.toNat:Int) = ofW b:=by
 rw [qqN]
 show ofW (toW (ofW b)) = _
 rw [qf4]
theorem q74 {x y:Int}:qe .xor .u32 x y = ofW (toW x ^^^ toW y):=qvj (b:=toW x ^^^ toW y)
theorem qBk {x y:Int}:qe .and .u32 x y = ofW (toW x &&& toW y):=qvj (b:=toW x &&& toW y)
theorem q6t {x y:Int}:qe .or .u32 x y = ofW (toW x ||| toW y):=qvj (b:=toW x ||| toW y)
theorem qui {x:Int} {n:Nat} (hn:n <= 32):qe .shl .u32 x (n:Int) = ofW (toW x <<< n):=by
 show IntKind.u32.wrap (x * 2 ^ (min (n:Int).toNat 32)) = _
 rw [qqN,Int.toNat_natCast,Nat.min_eq_left hn]
 congr 1
 apply BitVec.eq_of_toNat_eq
 rw [BitVec.toNat_shiftLeft,Nat.shiftLeft_eq]
 simp only [toW,BitVec.toNat_ofInt]
 have h1:((x % 4294967296).toNat:Int) = x % 4294967296:=Int.toNat_of_nonneg (Int.emod_nonneg _ (by decide))
 have h2:(((x % 4294967296).toNat * 2 ^ n % 4294967296:Nat):Int) = x * 2 ^ n % 4294967296:=by
  rw [Int.natCast_emod,Int.natCast_mul,h1,Int.natCast_pow]
  show x % 4294967296 * 2 ^ n % 4294967296 = _
  rw [Int.mul_emod,Int.emod_emod,<- Int.mul_emod]
 have h3:(2:Nat) ^ 32 = 4294967296:=by decide
 rw [h3]
 have h4:((4294967296:Nat):Int) = 4294967296:=by decide
 rw [h4,<- h2]
 exact Int.toNat_natCast _
theorem q1o {x:Int} {n:Nat} (hx:isW x) (hn:n <= 32):qe .shr .u32 x (n:Int) = ofW (toW x >>> n):=by
 show x.fdiv (2 ^ (min (n:Int).toNat 32)) = _
 rw [Int.toNat_natCast,Nat.min_eq_left hn]
 have hx':=qeP hx
 unfold ofW at hx' ⊢
 rw [BitVec.toNat_ushiftRight,Nat.shiftRight_eq_div_pow,Int.natCast_ediv,Int.natCast_pow,hx',Int.fdiv_eq_ediv_of_nonneg _ (by exact Int.pow_nonneg (by decide))]
 rfl
def qgw (x:W32) (n:Nat):W32:=x >>> n ||| x <<< (32 - n)
def sg0 (x:W32):W32:=qgw x 7 ^^^ qgw x 18 ^^^ x >>> 3
def sg1 (x:W32):W32:=qgw x 17 ^^^ qgw x 19 ^^^ x >>> 10
def bs0 (x:W32):W32:=qgw x 2 ^^^ qgw x 13 ^^^ qgw x 22
def bs1 (x:W32):W32:=qgw x 6 ^^^ qgw x 11 ^^^ qgw x 25
def chW (e f g:W32):W32:=(e &&& f) ^^^ (~~~e &&& g)
def q5a (a b c:W32):W32:=(a &&& b) ^^^ (a &&& c) ^^^ (b &&& c)
theorem qAj (e f g:W32):g ^^^ (e &&& (f ^^^ g)) = chW e f g:=by
 unfold chW
 apply BitVec.eq_of_getLsbD_eq
 intro i hi
 simp only [BitVec.getLsbD_xor,BitVec.getLsbD_and,BitVec.getLsbD_not,hi,decide_true,Bool.true_and]
 cases e.getLsbD i <;> cases f.getLsbD i <;> cases g.getLsbD i <;> rfl
theorem q8h (a b c:W32):(a &&& b) ||| (c &&& (a ||| b)) = q5a a b c:=by
 unfold q5a
 apply BitVec.eq_of_getLsbD_eq
 intro i hi
 simp only [BitVec.getLsbD_xor,BitVec.getLsbD_and,BitVec.getLsbD_or]
 cases a.getLsbD i <;> cases b.getLsbD i <;> cases c.getLsbD i <;> rfl
def qav (b:List W32):Nat->List W32
 | 0=>b
 | k + 1=>qav b k ++ [sg1 ((qav b k).getD (14 + k) 0) + (qav b k).getD (9 + k) 0 + sg0 ((qav b k).getD (1 + k) 0) + (qav b k).getD k 0]
structure St8 where
 a:W32
 b:W32
 c:W32
 d:W32
 e:W32
 f:W32
 g:W32
 h:W32
 deriving DecidableEq
def rnd (s:St8) (k w:W32):St8 :=
 let t1:=s.h + bs1 s.e + chW s.e s.f s.g + k + w
 let t2:=bs0 s.a + q5a s.a s.b s.c
 ⟨t1 + t2,s.a,s.b,s.c,s.d + t1,s.e,s.f,s.g⟩
def qwu (s:St8) (K W:List W32):Nat->St8
 | 0=>s
 | t + 1=>rnd (qwu s K W t) (K.getD t 0) (W.getD t 0)
def q9M (s t:St8):St8:=⟨s.a + t.a,s.b + t.b,s.c + t.c,s.d + t.d,s.e + t.e,s.f + t.f,s.g + t.g,s.h + t.h⟩
def qka (K:List W32) (s:St8) (b:List W32):St8:=q9M s (qwu s K (qav b 48) 64)
end Go.Eng

set_option linter.unusedSimpArgs false
set_option linter.unusedVariables false
namespace Go.Eng
open Go
def qaW:List Int:=[
 0x428a2f98,0x71374491,0xb5c0fbcf,0xe9b5dba5,0x3956c25b,0x59f111f1,0x923f82a4,0xab1c5ed5,0xd807aa98,0x12835b01,0x243185be,0x550c7dc3,0x72be5d74,0x80deb1fe,0x9bdc06a7,0xc19bf174,
 0xe49b69c1,0xefbe4786,0x0fc19dc6,0x240ca1cc,0x2de92c6f,0x4a7484aa,0x5cb0a9dc,0x76f988da,0x983e5152,0xa831c66d,0xb00327c8,0xbf597fc7,0xc6e00bf3,0xd5a79147,0x06ca6351,0x14292967,
 0x27b70a85,0x2e1b2138,0x4d2c6dfc,0x53380d13,0x650a7354,0x766a0abb,0x81c2c92e,0x92722c85,0xa2bfe8a1,0xa81a664b,0xc24b8b70,0xc76c51a3,0xd192e819,0xd6990624,0xf40e3585,0x106aa070,
 0x19a4c116,0x1e376c08,0x2748774c,0x34b0bcb5,0x391c0cb3,0x4ed8aa4a,0x5b9cca4f,0x682e6ff3,0x748f82ee,0x78a5636f,0x84c87814,0x8cc70208,0x90befffa,0xa4506ceb,0xbef9a3f7,0xc67178f2]
def q0d:List Int:=[0x6a09e667,0xbb67ae85,0x3c6ef372,0xa54ff53a,0x510e527f,0x9b05688c,0x1f83d9ab,0x5be0cd19]
def qit (k:List Int):List W32:=k.map toW
def qv5 (l:List Int):St8:=⟨toW (l.getD 0 0),toW (l.getD 1 0),toW (l.getD 2 0),toW (l.getD 3 0),toW (l.getD 4 0),toW (l.getD 5 0),toW (l.getD 6 0),toW (l.getD 7 0)⟩
def stL (s:St8):List Int:=[ofW s.a,ofW s.b,ofW s.c,ofW s.d,ofW s.e,ofW s.f,ofW s.g,ofW s.h]
def qwl (a b c d:Int):W32:=toW a <<< 24 ||| toW b <<< 16 ||| toW c <<< 8 ||| toW d
def qwF (m:List Int) (o:Nat):W32:=qwl (m.getD o 0) (m.getD (o + 1) 0) (m.getD (o + 2) 0) (m.getD (o + 3) 0)
def qhG (m:List Int) (o:Nat):List W32:=(List.range 16).map fun t=>qwF m (o + 4 * t)
def qkF (K:List W32) (s0:St8) (m:List Int):Nat->St8
 | 0=>s0
 | n + 1=>qka K (qkF K s0 m n) (qhG m (64 * n))
def beL (v:Int) (n:Nat):List Int:=(List.range n).map fun (j:Nat)=>(v.fdiv (2 ^ (8 * (n - 1 - j)))) % 256
def qs7 (m:List Int):List Int:=m ++ 128 :: (List.replicate (64 - (m.length + 8) % 64 - 1) 0 ++ beL ((m.length:Int) * 8) 8)
def qif (s:St8):List Int:=(List.range 32).map fun j=>(((stL s).getD (j / 4) 0).fdiv (2 ^ (24 - 8 * (j % 4)))) % 256
def qBF (K:List W32) (s0:St8) (m:List Int):List Int:=qif (qkF K s0 (qs7 m) ((qs7 m).length / 64))
def sha (m:List Int):List Int:=qBF (qit qaW) (qv5 q0d) m
theorem qaO {v:Int} {n:Nat}:(beL v n).length = n:=by simp [beL]
theorem qpT {s:St8}:(qif s).length = 32:=by simp [qif]
theorem q9f {m:List Int}:(sha m).length = 32:=qpT
theorem qxN {m r:List Int} {o:Nat} (h:o + 64 <= m.length):qhG (m ++ r) o = qhG m o:=by
 unfold qhG
 refine List.map_congr_left fun t ht=>?_
 have ht:=List.mem_range.1 ht
 have e:∀ i,i < m.length->(m ++ r).getD i 0 = m.getD i 0:=fun i hi=>by
  rw [List.getD_eq_getElem?_getD,List.getD_eq_getElem?_getD,List.getElem?_append_left hi]
 unfold qwF
 rw [e _ (by omega),e _ (by omega),e _ (by omega),e _ (by omega)]
theorem qor {K:List W32} {s0:St8} {m r:List Int}:∀ {n:Nat},64 * n <= m.length->qkF K s0 (m ++ r) n = qkF K s0 m n
 | 0,_=>rfl
 | n + 1,h=>by rw [qkF,qkF,qor (by omega),qxN (by omega)]
end Go.Eng

set_option linter.unusedSimpArgs false
set_option linter.unusedVariables false
namespace Go.Eng
open Go
theorem Ctr.ok_less {P:Program} {c c':Ctr} (h:c.ok P) (hfn:c'.fn = c.fn) (hnv:c'.nv = c.nv) (ha:c'.args = c.args) (hh:c'.heap = c.heap) (hr:c'.ro = c.ro) (hpre:∀ ρ,c'.pre ρ->c.pre ρ)
  (halt:∀ (ρ ρ':Env) (ai:Nat) (al:Alt),c'.pre ρ->(∀ n,n < c.nv->ρ' n = ρ n)->c.alts[ai]? = some al->al.post (ρ'.upto (c.nv + al.k))->∃ aj:Nat,c'.alts[aj]? = some al):c'.ok P:=by
 refine ⟨fun args w=>by rw [hfn]; exact h.1 args w,fun ρ w hF hO hg hd hw hs hro hp=>?_⟩
 rw [hfn,ha]
 refine (h.2 ρ w hF hO hg hd hw (hh ▸ hs) (hr ▸ hro) (hpre ρ hp)).mono fun e w' hpost=>?_
 obtain ⟨ai,al,ρ',h1,h2,h3,h4,h5,h6⟩:=hpost
 obtain ⟨aj,hj⟩:=halt ρ ρ' ai al hp h3 h1 h5
 exact ⟨aj,al,ρ',hj,h2,fun n hn=>h3 n (by rw [<- hnv]; exact hn),h4,by rw [hnv]; exact h5,h6⟩
end Go.Eng

set_option linter.unusedSimpArgs false
set_option linter.unusedVariables false
namespace Go.Proofs
open Go Go.Eng

theorem qii {ρ:Env} {x:SH}:∀ {l:List SH} {h:Hp},qW ρ l h->x ∈ l->∃ hx,Hp.le hx h/\x.den ρ hx
 | [],_,_,hx=>by cases hx
 | y :: l,h,⟨h1,h2,hd,hu,hy,hs⟩,hx=>by
  subst hu
  rcases List.mem_cons.1 hx with rfl | hx
  ·exact ⟨h1,Hp.le_left _ _,hy⟩
  ·obtain ⟨g,g1,g2⟩:=qii hs hx
   exact ⟨g,Hp.le_trans g1 (Hp.le_right hd),g2⟩
theorem qfE {h h':Hp} {pat:List CK} {v:Value} {d:List (List Value)} (hr:Rd h pat v d) (hl:Hp.le h h'):Rd h' pat v d:=by
 rcases hr with h0 | ⟨b,o,cap,c,ty,fr,h1,h2,h3,h4⟩
 ·exact .inl h0
 ·exact .inr ⟨b,o,cap,c,ty,fr,h1,h2,hl _ _ h3,h4⟩
theorem qv4 {ρ:Env} {r:Nat} {ty:TypeId} {pat:List CK} {d cap:T} {h H:Hp} {n:Nat} {k:Nat} (hx:SH.den ρ (.arr r ty pat d cap) h) (hl:Hp.le h H) (hn:n = (d.den ρ).d.length) (hc:k = (cap.den ρ).i.toNat) :
  Rd H pat (.slice (qm (ρ r).r 0) n k) (d.den ρ).d:=by
 rcases hx with ⟨h1,h2,h3⟩ | ⟨b,c,h1,h2,h3,h4,h5⟩
 ·refine .inl ⟨none,?_,h2⟩
  rw [h1,hn,h2,hc,h3]; rfl
 ·refine .inr ⟨b,0,k,c,ty,(0,0),by rw [h1,hn]; rfl,by omega,hl _ _ h2,h5⟩
theorem qbQ {ρ:Env} {l:List SH} {H:Hp} (hs:qW ρ l H) {n t:Nat} (hm:SH.abs n t ∈ l):∃ hb,Hp.le hb H/\Hp.le (ρ n).h hb:=by
 obtain ⟨hb,lb,db⟩:=qii hs hm
 exact ⟨hb,lb,db.1⟩
end Go.Proofs

set_option linter.unusedSimpArgs false
set_option linter.unusedVariables false
namespace Go.Eng
open Go
theorem Ctr.ok_tags {P:Program} {c c':Ctr} (h:c.ok P) (hfn:c'.fn = c.fn) (hnv:c'.nv = c.nv) (ha:c'.args = c.args) (hh:c'.heap = c.heap) (hr:∀ x ∈ c.ro,x ∈ c'.ro∨∃ n t t',x = .abs n t/\SH.abs n t' ∈ c'.ro) (hpre:∀ ρ,c'.pre ρ->c.pre ρ) (halt:c'.alts = c.alts):c'.ok P:=by
 refine ⟨fun args w=>by rw [hfn]; exact h.1 args w,fun ρ w hF hO hg hd hw hs hro hp=>?_⟩
 rw [hfn,ha,halt,hnv]
 refine h.2 ρ w hF hO hg hd hw (hh ▸ hs) (fun x hx=>?_) (hpre ρ hp)
 rcases hr x hx with hr | ⟨n,t,t',rfl,hr⟩
 ·exact hro x hr
 ·show SH.roden ρ (.abs n t') hF
  exact hro _ hr
end Go.Eng
