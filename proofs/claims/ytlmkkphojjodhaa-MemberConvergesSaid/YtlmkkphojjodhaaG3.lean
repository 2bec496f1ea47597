/- Texts E8c, E8d, E8e, E8f, E8g. -/
import Derived.Test.YtlmkkphojjodhaaG2
import Derived.Laws.BytesArg
import Derived.Test.YtlmkkphojjodhaaG1
import Derived.Laws.CopyRow
import Derived.Laws.IdiomCopy
set_option linter.unusedSimpArgs false
set_option linter.unusedVariables false
set_option linter.unusedSectionVars false
namespace Go.Eng
open Go
variable {P:Program} {Z:Env} {hF:Fr} {s:S} {a:Act} {w:World} {o:Oper} {r:R1}
structure SrcOk (w:World) (pat:List CK) (v:Value) (d:List (List Value)) (m:Nat):Prop where
 fits:∀ row ∈ d,qX pat row
 len:d.length = m
 shape:∃ b c,v = .slice b m c
 read:∀ (a:Addr) (c:Nat),v = .slice (some a) m c->∀ (j:Nat) (x:Value),(qp d)[j]? = some x->w.cell? (a.add j) = some x
 cells:∀ (h':Array Obj) (dr:Nat),h' = w.heap->(Builtin.firstCells pat.length m v).run P { w with heap:=h',drawn:=dr } = .ok (qp d).toArray { w with heap:=h',drawn:=dr }
theorem qff {w:World} {b o:Nat} {c:Array Value} {ty:TypeId} {fr:Nat × Nat} {pat:List CK} {d:List (List Value)} {m cap:Nat} (hp:0 < pat.length) (hb:w.heap[b]? = some (.cells c ty fr)) (h:qaA c o pat d) (hl:d.length = m) :
  (Builtin.firstCells pat.length m (.slice (some ⟨b,o,none⟩) m cap)).run P w = .ok (qp d).toArray w:=by
 have hfl:(qp d).length = m * pat.length:=by
  rw [<- hl];exact qds (fun row hr=>by
   obtain ⟨i,hi⟩:=jb0 hr;exact (h i row hi).1.1)
 exact run_firstCells_some w pat.length m ⟨b,o,none⟩ m cap (qp d) hfl (fun j v hv=>by rw [addr_add,qbz hb]; exact qfr hp h j v hv)
theorem qyK {pat:List CK} {dd:List (List Value)} {b o0:Nat} {c':Array Value} {ty:TypeId} {fr:Nat × Nat} {m cap:Nat} (hp:0 < pat.length) (hb:w.heap[b]? = some (.cells c' ty fr)) (hr:qaA c' o0 pat dd) (hl:dd.length = m):SrcOk (P:=P) w pat (.slice (some ⟨b,o0,none⟩) m cap) dd m:=by
 refine ⟨fun row hm=>?_,hl,⟨_,_,rfl⟩,fun a' c'' ha' j v hv=>?_,fun h' dr hh'=>?_⟩
 ·obtain ⟨i,hi⟩:=jb0 hm
  exact (hr i row hi).1
 ·simp only [Value.slice.injEq,jaa] at ha'
  rw [<- ha'.1,addr_add,qbz hb];exact qfr hp hr j v hv
 ·subst hh'
  exact qff (w:={ w with heap:=w.heap,drawn:=dr }) hp hb hr hl
theorem qyt {x y:T} (h:((qs .neq x y).den Z).b = true):(x.den Z).i ≠ (y.den Z).i:=by
 rw [qT _ _ _ (by simp)] at h;simpa [qS] using h
theorem qtu {off l:T} {z:Nat} {ns:List T} (h:qhK off = some (z,l,ns)) (hn:∀ c ∈ ns,(c.den Z).b = true):(off.den Z).i = (z:Int) + (l.den Z).i:=by
 unfold qhK at h;split at h
 ·split at h
  ·rename_i z0 hz
   simp only [jaa,jam] at h;obtain ⟨rfl,rfl,rfl⟩:=h;simp [T.den,O0.den]; omega
  ·cases h
 ·split at h
  ·rename_i z0 l0 hz
   simp only [jaa,jam] at h;obtain ⟨rfl,rfl,rfl⟩:=h;simp [T.den,O0.den,O2.den]; omega
  ·cases h
 ·split at h
  ·rename_i x y _ z0 l0 hz
   simp only [jaa,jam] at h;obtain ⟨rfl,rfl,rfl⟩:=h;have:=qyt (hn _ (jak.2 rfl));simp only [T.den,O0.den,O2.den];rw [jaf this]; omega
  ·cases h
 ·simp only [jaa,jam] at h
  obtain ⟨rfl,rfl,rfl⟩:=h;simp
 ·cases h
theorem qii:∀ (ts:List T),((T.row ts).den Z).d = [qa Z ts]
 | []=>rfl
 | t :: ts=>by
  show [(t.den Z).v :: ((T.row ts).den Z).d.headD []] = _
  rw [qii ts]; rfl
theorem qx1 (hg:Z.good) {y:SH} {pat:List CK} {d:T} {r:Nat} {H:Hp} (h:qfp y = some (pat,d)) (hr:y.reg = some r) (hro:y.roden Z H) :
  (d.den Z).d = []∨∃ b o c ty fr,(Z r).r = some ⟨b,o,none⟩/\H b = some (.cells c ty fr)/\qaA c o pat (d.den Z).d:=by
 cases y with
 | cells r' ty cs =>
  simp only [SH.reg,jaa] at hr; subst hr;simp only [qfp,jaa,jam] at h;obtain ⟨rfl,rfl⟩:=h;obtain ⟨b,o,c,ty',fr,h1,h2,h3⟩:=hro;refine .inr ⟨b,o,c,ty',fr,h1,h2,fun i row hi=>?_⟩;rw [qii] at hi
  match i,hi with
  | 0,hi =>
   simp only [ja7,jaa] at hi;subst hi;exact ⟨qkl hg cs,fun k v hv=>by rw [jek,jcq]; exact h3 k v hv⟩
  | i + 1,hi=>simp at hi
 | arr r' ty pat' d' cap =>
  simp only [SH.reg,jaa] at hr; subst hr;simp only [qfp,jaa,jam] at h;obtain ⟨rfl,rfl⟩:=h;exact hro
 | abs n t=>simp [qfp] at h
theorem qrZ {c:Array Value} {o z n:Nat} {pat:List CK} {d:List (List Value)} {k:CK} (hr:qaA c o pat d) (hd:0 < d.length) (hz:z + n <= pat.length) (hk:∀ i,i < n->pat[z + i]? = some k):qaA c (o + z) [k] (qjy d z n)/\(qjy d z n).length = n:=by
 match d,hd with
 | row :: rest,_ =>
  obtain ⟨⟨hl,hf⟩,hc⟩:=hr 0 row rfl;refine ⟨fun i r hi=>?_,?_⟩
  ·simp only [qjy,jb5,jau,jah] at hi
   obtain ⟨v,hv,rfl⟩:=hi;rw [jbe] at hv;split at hv
   ·rename_i hin
    rw [jbf] at hv;refine ⟨⟨rfl,fun q k' v' h1 h2=>?_⟩,fun q v' h1=>?_⟩
    ·match q,h1,h2 with
     | 0,h1,h2 =>
      simp only [ja7,jaa] at h1 h2;subst h1; subst h2;exact hf _ _ _ (hk i hin) hv
     | q + 1,h1,h2=>simp at h1
    ·match q,h1 with
     | 0,h1 =>
      simp only [ja7,jaa] at h1;subst h1;have:=hc (z + i) _ hv;rw [show o + z + i * [k].length + 0 = o + 0 * pat.length + (z + i) by simp; omega];exact this
     | q + 1,h1=>simp at h1
   ·cases hv
  ·simp only [qjy,jb5,jaz,jbc,jcr,hl]
   omega
theorem qov {k:CK}:∀ {l:List CK},qbL k l <= l.length
 | []=>jbj _
 | x :: l=>by
  have:=qov (k:=k) (l:=l);simp only [qbL]; split <;> simp <;> omega
theorem qjw {k:CK} {pat:List CK} {z:Nat} {l len d off:T} {ns:List T} (hzp:z <= pat.length) (ho:qhK off = some (z,l,ns)) (hn:∀ c ∈ qeU k pat z l len d ns,(c.den Z).b = true) :
  0 <= (off.den Z).i/\0 <= (len.den Z).i/\0 < (d.den Z).d.length/\(off.den Z).i.toNat + (len.den Z).i.toNat <= pat.length/\∀ i,i < (len.den Z).i.toNat->pat[(off.den Z).i.toNat + i]? = some k:=by
 have hns:∀ c ∈ ns,(c.den Z).b = true:=fun c hc=>hn c (jbn _ hc)
 have hrest:∀ c ∈ [qa0 l,qa0 len,qs .leq (qaI l len) (.lit (qbL k (pat.drop z):Nat)),qs .lss (.lit 0) (qaw d)],(c.den Z).b = true:=fun c hc=>hn c (jb4 _ hc)
 have h1:=qz (hrest _ (jac ..));have h2:=qz (hrest _ (jab _ (jac ..)));have h3:=qaZ (hrest _ (jab _ (jab _ (jac ..))));have h4:=qcF (hrest _ (jab _ (jab _ (jab _ (jac ..)))));rw [qaX] at h3;have h3:(l.den Z).i + (len.den Z).i <= (qbL k (pat.drop z):Nat):=h3;have h4:0 < ((d.den Z).d.length:Int):=h4;have hoff:=qtu ho hns;have hle:=qov (k:=k) (l:=pat.drop z);rw [jcr] at hle;have hgt:∀ i,i < (len.den Z).i.toNat->pat[(off.den Z).i.toNat + i]? = some k:=fun i hi=>by
  have:=qdD (k:=k) (l:=pat.drop z) (i:=(l.den Z).i.toNat + i) (by omega);rw [jbf] at this;rw [<- this]; congr 1; omega
 refine ⟨by omega,h2,by omega,?_,hgt⟩;omega
theorem qjh {pat:List CK} {y:SH} {off len cap:T} {src:Src} {rr p:Nat} {H:Hp} (hs:Holds Z hF s a w) (h:qlO pat y off len = some src) (hp:p = pat.length) (hreg:y.reg = some rr) (hro:y.roden Z H) (hsub:Hp.sub H w)
  (hn:∀ c ∈ src.needs,(c.den Z).b = true):0 <= (src.len.den Z).i/\SrcOk (P:=P) w pat (SV.den Z (.one (.c3 (.vslice rr p) off len cap))) (src.d.den Z).d (src.len.den Z).i.toNat:=by
 unfold qlO at h;split at h
 ·rename_i pat' d z l ns k hrow hoff
  split at h
  rotate_left
  ·cases h
  rename_i hzp;simp only [jaa] at h; subst h;obtain ⟨n1,n2,n3,n4,n5⟩:=qjw (jd3 hzp) hoff hn;refine ⟨n2,?_⟩;rcases qx1 hs.gd hrow hreg hro with hd | ⟨b,o,c,ty,fr,h1,h2,h3⟩
  ·rw [hd] at n3; simp at n3
  ·obtain ⟨r1,r2⟩:=qrZ h3 n3 n4 n5
   have hval:SV.den Z (.one (.c3 (.vslice rr p) off len cap)) = .slice (some ⟨b,o + (off.den Z).i.toNat,none⟩) (len.den Z).i.toNat (cap.den Z).i.toNat:=by
    subst hp;simp [SV.den,T.den,O3.den,h1,qj]
   rw [hval];exact qyK (by simp) (hsub _ _ h2) r1 r2
 ·cases h
theorem qcw {pat:List CK} {x:SV} {src:Src} (hp:0 < pat.length) (hs:Holds Z hF s a w) (h:qfk s pat x = some src) (hn:∀ c ∈ src.needs,(c.den Z).b = true) :
  0 <= (src.len.den Z).i/\SrcOk (P:=P) w pat (x.den Z) (src.d.den Z).d (src.len.den Z).i.toNat:=by
 unfold qfk at h;split at h
 ·simp only [jaa] at h; subst h
  refine ⟨by simp [T.den,O0.den],⟨by simp [T.den,O0.den],by simp [T.den,O0.den],⟨none,0,by simp [SV.den,T.den,O0.den]⟩,fun a c ha=>by simp [SV.den,T.den,O0.den] at ha,fun h' dr _=>?_⟩⟩;simp [SV.den,T.den,O0.den,run_firstCells_none,qp]
 ·rename_i rg p off len cap
  split at h
  ·simp at h
  ·rename_i hpp
   simp only [jay,jbp] at hpp;have hpp:=Nat.eq_of_beq_eq_true hpp;split at h
   ·rename_i k rr ty cs hf
    obtain ⟨H,hsub,hro,hreg⟩:=hs.found hf;simp only [SH.reg,jaa] at hreg; subst hreg;split at h
    ·rename_i n hoff hlen
     split at h
     ·rename_i hc
      simp only [jah] at h;obtain ⟨d,hd,rfl⟩:=h;obtain ⟨b,o0,c',ty',fr,g1,g2,g3⟩:=hro;obtain ⟨e1,e2,e3⟩:=qfq hs.gd hpp hd;have hl:(len.den Z).i = n:=by rw [qav hlen]; simp [T.den,O0.den]
      have ho:(off.den Z).i = 0:=by rw [qav hoff]; simp [T.den,O0.den]
      simp only;rw [hl];have hval:SV.den Z (.one (.c3 (.vslice rr p) off len cap)) = .slice (some ⟨b,o0,none⟩) n.toNat (cap.den Z).i.toNat:=by
       simp [SV.den,T.den,O3.den,g1,qj,hl,ho]
      rw [hval];refine ⟨hc.1,⟨e3,e1,⟨_,_,rfl⟩,fun a' c'' ha' j v hv=>?_,fun h' dr hh'=>?_⟩⟩
      ·simp only [Value.slice.injEq,jaa] at ha'
       rw [<- ha'.1,addr_add,qbz (hsub _ _ g2)];rw [e2] at hv;refine g3 j v ?_;simp only [qa,jcz] at hv ⊢;rw [jbe] at hv;split at hv
       ·exact hv
       ·cases hv
      subst hh';refine run_firstCells_some (P:=P) _ pat.length n.toNat ⟨b,o0,none⟩ _ _ (qp (d.den Z).d) ?_ (fun j v hv=>?_)
      ·rw [e2,<- hpp]; simp [qa]; omega
      ·rw [addr_add,qbz (w:={ w with heap:=w.heap,drawn:=dr }) (hsub _ _ g2)]
       rw [e2] at hv;refine g3 j v ?_;simp only [qa,jcz] at hv ⊢;rw [jbe] at hv;split at hv
       ·exact hv
       ·cases hv
     ·simp at h
    ·exact qjh hs h hpp rfl hro hsub hn
   ·rename_i k rr ty pat' d cap' hf
    obtain ⟨H,hsub,hro,hreg⟩:=hs.found hf;simp only [SH.reg,jaa] at hreg; subst hreg;split at h
    ·exact qjh hs h hpp rfl hro hsub hn
    ·rename_i hpat
     simp only [jay,jbp,jaw] at hpat;subst hpat
     -- the general case: rows n to n + m
     have key:∀ (n m:Nat) (dd:List (List Value)),dd = ((d.den Z).d.drop n).take m->n + m <= (d.den Z).d.length->(off.den Z).i.toNat = n->(len.den Z).i.toNat = m ->
       SrcOk (P:=P) w pat' (SV.den Z (.one (.c3 (.vslice rr p) off len cap))) dd m:=by
      intro n m dd hdd hle hoff hlen;subst hdd;rcases hro with g2 | ⟨b,o0,c',ty',fr,g1,g2,g3⟩
      ·rw [g2] at hle
       have hm0:m = 0:=by simp at hle; omega
       subst hm0;refine ⟨by simp [g2],by simp,⟨qj (Z rr).r ((off.den Z).i.toNat * p),_,by simp [SV.den,T.den,O3.den,hlen]; rfl⟩,fun a' c'' _ j v hv=>by simp [qp] at hv,fun h' dr _=>?_⟩;simp only [SV.den,T.den,O3.den,hlen,jet,qp];cases hadr:qj (Z rr).r ((off.den Z).i.toNat * p) with
       | none=>simp [run_firstCells_none,qp]
       | some a=>exact run_firstCells_some _ pat'.length 0 a _ _ _ (by simp) (by simp)
      ·have hr:=quw g3 n m
       have hval:SV.den Z (.one (.c3 (.vslice rr p) off len cap)) = .slice (some ⟨b,o0 + n * pat'.length,none⟩) m (cap.den Z).i.toNat:=by
        simp [SV.den,T.den,O3.den,g1,qj,hoff,hlen,hpp]
       rw [hval];refine ⟨fun row hm=>?_,by simp; omega,⟨_,_,rfl⟩,fun a' c'' ha' j v hv=>?_,fun h' dr hh'=>?_⟩
       ·obtain ⟨i,hi⟩:=jb0 hm
        exact (hr i row hi).1
       ·simp only [Value.slice.injEq,jaa] at ha'
        rw [<- ha'.1,addr_add,qbz (hsub _ _ g2)];exact qfr hp hr j v hv
       ·subst hh'
        exact qff (w:={ w with heap:=w.heap,drawn:=dr }) hp (hsub _ _ g2) hr (by simp; omega)
     split at h
     ·rename_i hoff
      have ho:(off.den Z).i.toNat = 0:=by rw [qav hoff]; simp [T.den,O0.den]
      split at h
      ·rename_i hsame
       simp only [jaa] at h; subst h;have hl:(len.den Z).i = ((d.den Z).d.length:Int):=by rw [T.same_eq hsame,qbe]
       refine ⟨by simp only; omega,?_⟩;refine key 0 _ _ ?_ ?_ ho rfl
       ·simp only [List.drop_zero]; rw [ja0 (by omega)]
       ·simp only; omega
      ·simp only [jaa] at h; subst h
       simp only at hn;have n1:=qz (hn _ (jac ..));have n2:=qaZ (hn _ (jab _ (jac ..)));rw [qbe] at n2;refine ⟨n1,key 0 _ _ ?_ (by simp only; omega) ho rfl⟩;simp [T.den,O2.den]
     ·simp only [jaa] at h; subst h
      simp only at hn;have n1:=qz (hn _ (jac ..));have n2:=qz (hn _ (jab _ (jac ..)));have n3:=qaZ (hn _ (jab _ (jab _ (jac ..))));rw [qaX,qbe] at n3;refine ⟨n2,key _ _ _ ?_ (by simp only; omega) rfl rfl⟩;simp [T.den,O2.den]
   ·simp at h
 ·simp at h
theorem qow (x y:T):((qgU x y).den Z).d = (x.den Z).d ++ (y.den Z).d:=by
 unfold qgU; split <;> simp [T.den,O0.den,O2.den]
structure DstOk (Z:Env) (hF:Fr) (heap:List SH) (w:World) (el:TypeId) (pat:List CK) (base:Option Addr) (cap:Nat) (d:List (List Value)) (hT hR:Hp):Prop where
 d1:Hp.disj hF hT
 d2:Hp.disj hF hR
 d3:Hp.disj hT hR
 st:qD Z heap hR
 sub:(Hp.union hF (Hp.union hT hR)).sub w
 wi:hF.wi w
 how:(base = none/\cap = 0/\d = [])∨∃ b c,base = some ⟨b,0,none⟩/\hT b = some (.cells c el (0,0))/\c.size = cap * pat.length/\d.length <= cap/\qaA c 0 pat d
theorem qsq {el:TypeId} {pat:List CK} {x:SV} {d len:T} {k:Option Nat} {n1:List T} (hs:Holds Z hF s a w) (h:qtI s el pat x = some (d,len,k,n1)) (hn:∀ c ∈ n1,(c.den Z).b = true) :
  ∃ base cap hT hR,DstOk Z hF (qrt s.heap k) w el pat base cap (d.den Z).d hT hR/\x.den Z = .slice base (d.den Z).d.length cap/\(len.den Z).i = ((d.den Z).d.length:Int):=by
 obtain ⟨hO,hd,hst,hsub,hwi⟩:=hs.hp;unfold qtI at h;split at h
 ·simp only [jaa,jam] at h
  obtain ⟨rfl,rfl,rfl,rfl⟩:=h;refine ⟨none,0,Hp.emp,hO,⟨fun _=>.inr rfl,hd,fun _=>.inl rfl,hst,?_,hwi,.inl ⟨rfl,rfl,by simp [T.den,O0.den]⟩⟩,by simp [SV.den,T.den,O0.den],by simp [T.den,O0.den]⟩;have:Hp.union hF (Hp.union Hp.emp hO) = Hp.union hF hO:=by funext y; simp [Hp.union,Hp.emp]
  rw [this]; exact hsub
 ·rename_i rg p off len' cap
  split at h
  ·simp at h
  ·rename_i hpp
   simp only [jay,jbp] at hpp;have hpp:=Nat.eq_of_beq_eq_true hpp;split at h
   ·rename_i k' rr ty' pat' d' cap' hoff hat
    split at h
    ·rename_i hc
     simp only [jad,jaw] at hc;have hty:=Nat.eq_of_beq_eq_true hc.1;have hpat:=hc.2;simp only [jaa,jam] at h;obtain ⟨rfl,rfl,rfl,rfl⟩:=h;have e1:=qew (hn _ (jac ..));have e2:=qew (hn _ (jab _ (jac ..)));rw [qbe] at e1;obtain ⟨hk,hreg⟩:=qZ hat;simp only [SH.reg,jaa] at hreg; subst hreg;obtain ⟨t1,t2,td,tu,tx,ts⟩:=qaz hst hk;have ho:(off.den Z).i = 0:=by rw [qav hoff]; simp [T.den,O0.den]
     have hl:(len'.den Z).i.toNat = (d'.den Z).d.length:=by omega
     have dj:Hp.disj hF t1/\Hp.disj hF t2:=Hp.disj_union.1 (tu ▸ hd);subst hty hpat;rcases tx with ⟨g1,g2,g3⟩ | ⟨b,c,g1,g2,g3,g4,g5⟩
     ·refine ⟨none,0,t1,t2,⟨dj.1,dj.2,td,ts,tu ▸ hsub,hwi,.inl ⟨rfl,rfl,g2⟩⟩,?_,e1⟩
      simp [SV.den,T.den,O3.den,g1,qj,hl,e2,g3]
     ·refine ⟨some ⟨b,0,none⟩,(cap'.den Z).i.toNat,t1,t2,⟨dj.1,dj.2,td,ts,tu ▸ hsub,hwi,.inr ⟨b,c,rfl,g2,g3,by omega,g5⟩⟩,?_,e1⟩
      simp [SV.den,T.den,O3.den,g1,qj,hl,e2,ho]
    ·simp at h
   ·rename_i k' rr ty' hoff hat
    split at h
    ·rename_i hc
     have hty:=Nat.eq_of_beq_eq_true hc;simp only [jaa,jam] at h;obtain ⟨rfl,rfl,rfl,rfl⟩:=h;have e1:=qew (hn _ (jac ..));have e2:=qew (hn _ (jab _ (jac ..)));obtain ⟨hk,hreg⟩:=qZ hat;simp only [SH.reg,jaa] at hreg; subst hreg;obtain ⟨t1,t2,td,tu,tx,ts⟩:=qaz hst hk;have ho:(off.den Z).i = 0:=by rw [qav hoff]; simp [T.den,O0.den]
     have dj:Hp.disj hF t1/\Hp.disj hF t2:=Hp.disj_union.1 (tu ▸ hd);subst hty;simp only [T.den,O0.den] at e1 e2;obtain ⟨b,g1,g2⟩:=tx;refine ⟨some ⟨b,0,none⟩,0,t1,t2,⟨dj.1,dj.2,td,ts,tu ▸ hsub,hwi,.inr ⟨b,_,rfl,g2,by simp [qa],by simp [T.den,O0.den],by simp [T.den,O0.den,qaA]⟩⟩,?_,by simp [T.den,O0.den]⟩;simp [SV.den,T.den,O0.den,O3.den,g1,qj,e1,e2,ho]
    ·simp at h
   ·rename_i k' rr ty' tc tcs hoff hat
    split at h
    ·rename_i n hlen
     split at h
     ·rename_i d0 hd0
      split at h
      ·rename_i hc
       simp only [jad,jaw] at hc;have hty:=Nat.eq_of_beq_eq_true hc.1.1;have hn0:=hc.1.2;have hsz:=Nat.eq_of_beq_eq_true hc.2;simp only [jaa,jam] at h;obtain ⟨rfl,rfl,rfl,rfl⟩:=h;have e2:=qew (hn _ (jac ..));obtain ⟨hk,hreg⟩:=qZ hat;simp only [SH.reg,jaa] at hreg; subst hreg;obtain ⟨t1,t2,td,tu,tx,ts⟩:=qaz hst hk;have ho:(off.den Z).i = 0:=by rw [qav hoff]; simp [T.den,O0.den]
       have hl:(len'.den Z).i = n:=by rw [qav hlen]; simp [T.den,O0.den]
       have dj:Hp.disj hF t1/\Hp.disj hF t2:=Hp.disj_union.1 (tu ▸ hd);subst hty;obtain ⟨b,g1,g2⟩:=tx;obtain ⟨l1,l2,l3⟩:=qfq hs.gd hpp hd0;refine ⟨some ⟨b,0,none⟩,n.toNat,t1,t2,⟨dj.1,dj.2,td,ts,tu ▸ hsub,hwi,.inr ⟨b,_,rfl,g2,?_,by rw [l1]; exact jbj _,qbV l3 (fun j v hv=>by rw [l2] at hv; simpa using hv)⟩⟩,?_,by rw [hl,l1]; omega⟩
       ·rw [<- hpp,<- hsz]; simp [qa]
       ·rw [l1]; simp [SV.den,T.den,O3.den,g1,qj,e2,ho,hl]
      ·simp at h
     ·simp at h
    ·simp at h
   ·simp at h
 ·simp at h
theorem qtM {heap:List SH} {t ty el:TypeId} {i:TypeInfo} {z:Value} {pat:List CK} {base:Option Addr} {cap m:Nat} {d dd:List (List Value)} {hT hR:Hp} {y:Value}
  (hD:DstOk Z hF heap w el pat base cap d hT hR) (hS:SrcOk (P:=P) w pat y dd m) (ht:P.underlying t = some (.slice el)) (hi:P.info? el = some i) (hz:i.zero = some z) (hzs:z.cells.size = i.size) (hp:pat.length = i.size) (hp0:0 < i.size) (hb0:0 < i.bytes)
  (hb:(d.length + m) * i.bytes <= 140737488355328) :
  ∃ w' u cap' hN,(Builtin.append_ #[t,t] ty #[.slice base d.length cap,y]).run P w = .ok (.slice (qj u 0) (d.length + m) cap') w'/\Hp.disj hF hN/\Hp.disj hN hR/\(Hp.union hF (Hp.union hN hR)).sub w'/\hF.wi w' /\
   ((u = none/\d ++ dd = []/\cap' = 0)∨∃ b c,u = some ⟨b,0,none⟩/\hN b = some (.cells c el (0,0))/\c.size = cap' * pat.length/\d.length + m <= cap'/\qaA c 0 pat (d ++ dd)):=by
 obtain ⟨yb,yc,rfl⟩:=hS.shape;have hlen:∀ w':World,(Builtin.lenOf (.slice yb m yc)).run P w' = .ok m w':=fun _=>rfl
 have hc0:(Builtin.firstCells i.size m (.slice yb m yc)).run P w = .ok (qp dd).toArray w:=by
  have:=hS.cells w.heap w.drawn rfl
  rwa [hp] at this
 have hcD:(Builtin.firstCells i.size m (.slice yb m yc)).run P w.drew = .ok (qp dd).toArray w.drew:=by
  have:=hS.cells w.heap (w.drawn + 1) rfl
  rwa [hp] at this
 have hdl:=hS.len;have hfl:(qp dd).length = m * i.size:=by rw [<- hdl]; exact qds (fun row hr=>by rw [(hS.fits row hr).1,hp])
 have hgd:=qof hS.fits;by_cases hroom:d.length + m <= cap
 ·rcases hD.how with ⟨rfl,rfl,rfl⟩ | ⟨b,c,rfl,g2,g3,g4,g5⟩
  ·have hm:m = 0:=by simp at hroom; exact hroom
   have hdd:dd = []:=jc2.1 (by omega);subst hdd;subst hm;refine ⟨w,none,0,hT,?_,hD.d1,hD.d3,hD.sub,hD.wi,.inl ⟨rfl,by simp,rfl⟩⟩;simp [Builtin.append_,run_underlying ht,sizeOf,typeInfo,hi,hlen,hc0,qj]
  ·have hlt:∀ b o,Hp.union hF (Hp.union hT hR) b = some o->w.heap[b]? = some o:=hD.sub
   have hFb:hF b = none:=(hD.d1 b).resolve_right (by rw [g2]; simp);have hRb:hR b = none:=(hD.d3 b).resolve_left (by rw [g2]; simp);have hwb:w.heap[b]? = some (.cells c el (0,0)):=hlt b _ (by simp [Hp.union,hFb,g2]);have hfit0:=qhw g5;have hfd:(qp d).length = d.length * i.size:=qds (fun row hr=>by rw [(hfit0 row hr).1,hp]);have hsz:d.length * i.size + (qp dd).length <= c.size:=by
    rw [g3,hfl,hp,<- jbq]; exact jby _ hroom
   obtain ⟨w',c1,hrun,hw1,hw2,⟨hsz1,hget⟩,hos⟩:=qc9 (P:=P) (off:=d.length * i.size) (qp dd) 0 c w hwb hgd (by simpa using hsz);refine ⟨w',some ⟨b,0,none⟩,cap,Hp.upd hT b (.cells c1 el (0,0)),?_,?_,?_,?_,⟨hos.1.trans hD.wi.1,hos.2.trans hD.wi.2⟩,.inr ⟨b,c1,rfl,by simp [Hp.upd],by rw [hsz1,g3],hroom,?_⟩⟩
   ·simp [Builtin.append_,run_underlying ht,sizeOf,typeInfo,hi,hlen,hroom,hc0,Addr.add_lit,hrun,qj]
   ·intro q
    rcases hD.d1 q with h | h
    ·exact .inl h
    ·right; unfold Hp.upd; split
     ·rename_i he; subst he; rw [g2] at h; cases h
     ·exact h
   ·intro q
    rcases hD.d3 q with h | h
    ·left; unfold Hp.upd; split
     ·rename_i he; subst he; rw [g2] at h; cases h
     ·exact h
    ·exact .inr h
   ·intro q ob hq
    by_cases hqb:q = b
    ·subst hqb
     simp only [Hp.union,hFb,Hp.upd,ja5,jbg,jcj,jaa] at hq;rw [hw1,hq]
    ·rw [hw2 q hqb]
     refine hlt q ob ?_;simp only [Hp.union,Hp.upd,hqb,ja3] at hq ⊢;exact hq
   ·refine qbV (fun row hr=>?_) (fun j v hv=>?_)
    ·rcases jax.1 hr with h | h
     ·exact hfit0 row h
     ·exact hS.fits row h
    ·rw [qhj] at hv
     rw [hget];by_cases hj:j < (qp d).length
     ·rw [jaf (by omega)]
      rw [jbs hj] at hv;exact qfr (by omega) g5 j v hv
     ·rw [jbd (by omega)] at hv
      have hj2:j - (qp d).length < (qp dd).length:=by
       rcases jbt (j - (qp d).length) (qp dd).length with h' | h'
       ·exact h'
       ·rw [jap h'] at hv; cases hv
      rw [jag (by omega)];rw [hfd] at hv;rw [show 0 + j - (d.length * i.size + 0) = j - d.length * i.size from by omega];exact hv
 ·have hg:cap < d.length + m:=by omega
  have hfit:=growslice_fits hg hb;have hge:=grownCap_ge w (d.length + m) cap el;have hn:¬ (d.length + m <= cap):=hroom;have h63:d.length + m <= 140737488355328:=jdm (by have:=Nat.mul_le_mul_left (d.length + m) hb0; omega) hb;have h63':¬ (9223372036854775807 < ((d.length:Int) + (m:Int))):=by omega
  have h48':¬ (281474976710656 < Builtin.nextslicecap (d.length + m) cap * i.bytes):=by omega
  have hfits:∀ row ∈ d,qX pat row:=by
   rcases hD.how with ⟨rfl,rfl,rfl⟩ | ⟨b,c,rfl,g2,g3,g4,g5⟩
   ·simp
   ·exact qhw g5
  have hold:(Builtin.firstCells i.size d.length (.slice base d.length cap)).run P w.drew = .ok (qp d).toArray w.drew:=by
   rcases hD.how with ⟨rfl,rfl,rfl⟩ | ⟨b,c,rfl,g2,g3,g4,g5⟩
   ·simp [run_firstCells_none,qp]
   ·have hFb:hF b = none:=(hD.d1 b).resolve_right (by rw [g2]; simp)
    have hwb:w.drew.heap[b]? = some (.cells c el (0,0)):=hD.sub b _ (by simp [Hp.union,hFb,g2]);have:=qff (P:=P) (w:=w.drew) (cap:=cap) (by omega) hwb g5 rfl
    rwa [hp] at this
  have hfd:(qp d).length = d.length * i.size:=qds (fun row hr=>by rw [(hfits row hr).1,hp])
  let G:=grownCap w (d.length + m) cap el
  let ob:Array Value:=((qp d ++ qp dd).toArray ++ Builtin.zeroCells z.cells (G - (d.length + m)))
  have hlt:∀ y o,Hp.union hF (Hp.union hT hR) y = some o->y < w.heap.size:=fun y o hy=>by
   have:=hD.sub y o hy;rcases jbt y w.heap.size with h | h
   ·exact h
   ·rw [jb8 h] at this; cases this
  have hR0:∀ q,q = w.heap.size->hF q = none/\hR q = none:=fun q hq=>by
   have:Hp.union hF (Hp.union hT hR) q = none:=by
    cases hx:Hp.union hF (Hp.union hT hR) q with
    | none=>rfl
    | some o=>have:=hlt q o hx; omega
   simp only [Hp.union,jb3] at this;exact ⟨this.1,this.2.2⟩
  refine ⟨w.drew.alloc (.cells ob el),some ⟨w.heap.size,0,none⟩,G,Hp.one w.heap.size (.cells ob el (0,0)),?_,?_,?_,?_,hD.wi,.inr ⟨w.heap.size,ob,rfl,by simp [Hp.one],?_,hge,?_⟩⟩
  ·simp [Builtin.append_,run_underlying ht,sizeOf,typeInfo,zeroValue,hi,hz,hlen,hn,h63',h48',Question.forced,hcD,hold,newRow,grownCap,ob,G,qj]
   congr 2
   apply jb6;simp [jbv]
  ·intro q
   by_cases hq:q = w.heap.size
   ·exact .inl (hR0 q hq).1
   ·right; simp [Hp.one,hq]
  ·intro q
   by_cases hq:q = w.heap.size
   ·exact .inr (hR0 q hq).2
   ·left; simp [Hp.one,hq]
  ·intro q o hq
   show (w.heap.push _)[q]? = some o
   by_cases hqb:q = w.heap.size
   ·subst hqb
    simp only [Hp.union,(hR0 _ rfl).1,Hp.one,ja5,jbg,jcj,jaa] at hq;simp [hq]
   ·have hq':Hp.union hF (Hp.union hT hR) q = some o:=by
     simp only [Hp.union,Hp.one,hqb,ja3,jbg] at hq ⊢;rcases hx:hF q with _ | o1
     ·rw [hx] at hq
      simp only [jbg] at hq ⊢;have:=(hD.d3 q).resolve_right (by rw [hq]; simp);rw [this,hq]; rfl
     ·rw [hx] at hq; simpa using hq
    have h2:=hlt q o hq';have h1:=hD.sub q o hq';rw [jdz h2]
    rwa [jcd h2] at h1
  ·simp only [ob,jdy,jef,jav,hfd,hfl,size_zeroCells,hzs,hp,<- jbq]
   congr 1
   simp only [G]; omega
  ·refine qbV (fun row hr=>?_) (fun j v hv=>?_)
   ·rcases jax.1 hr with h | h
    ·exact hfits row h
    ·exact hS.fits row h
   ·rw [qhj] at hv
    have hj:j < (qp d ++ qp dd).length:=by
     rcases jbt j (qp d ++ qp dd).length with h' | h'
     ·exact h'
     ·rw [jap h'] at hv; cases hv
    simp only [ob,jbb];rw [jda (by simpa using hj)];simpa using hv
theorem qpr (z:Array Value) (hz:0 < z.size) (n j:Nat) (hj:j < n * z.size):(Builtin.zeroCells z n)[j]? = z[j % z.size]?:=by
 have hm:j % z.size < z.size:=jeg _ hz;unfold Builtin.zeroCells;rw [Array.getElem?_map,Array.getElem?_range,jag hj,ja9,getElem!_pos z _ hm,getElem?_pos z _ hm]
theorem qvZ {t t2 ty el:TypeId} {i:TypeInfo} {z:Value} {k kk:IntKind} {m:Int} (w:World) (ht:P.underlying t = some (.slice el)) (h2:P.underlying t2 = some (.int k)) (hi:P.info? el = some i) (hz:i.zero = some z) (hzs:z.cells.size = i.size) (hp0:0 < i.size) (hb0:0 < i.bytes) (hm:0 <= m) (hb:(i.bytes:Int) * m <= 140737488355328) :
  ∃ w' u cap',(Builtin.append_ #[t,t2] ty #[.slice none 0 0,.int kk m]).run P w = .ok (.slice (qj u 0) m.toNat cap') w' /\
   ((m = 0/\u = none/\cap' = 0/\w' = w)∨∃ ob,u = some ⟨w.heap.size,0,none⟩/\w' = w.drew.alloc (.cells ob el)/\ob.size = cap' * i.size/\m.toNat <= cap'/\∀ j,j < m.toNat * i.size->ob[j]? = z.cells[j % i.size]?):=by
 have h63:m <= 140737488355328:=by
  have hb1:(1:Int) <= i.bytes:=by omega
  have:=jcx hb1 hm;omega
 have hwr:IntKind.i64.wrap m = m:=by
  simp [IntKind.wrap,IntKind.bits,IntKind.signed]; omega
 have hnl:¬ (m < 0):=by omega
 have hnb:¬ (281474976710656 < m * (i.bytes:Int)):=by rw [jem]; omega
 by_cases h0:m = 0
 ·subst h0
  refine ⟨w,none,0,?_,.inl ⟨rfl,rfl,rfl,rfl⟩⟩;simp [Builtin.append_,run_underlying ht,run_underlying h2,sizeOf,typeInfo,hi,asInt,asIntOf,hwr,qj]
 ·have hg:0 < m.toNat:=by omega
  have hbn:(0 + m.toNat) * i.bytes <= 140737488355328:=by
   have e:(((0 + m.toNat) * i.bytes:Nat):Int) = (i.bytes:Int) * m:=by
    rw [jer,jbb,jb9 hm,jem]
   omega
  have hfit:=growslice_fits (need:=0 + m.toNat) (old:=0) (by omega) hbn;have hge:=grownCap_ge w (0 + m.toNat) 0 el;have hn:¬ (0 + m.toNat <= 0):=by omega
  have h63':¬ (9223372036854775807 < ((m.toNat:Nat):Int)):=by omega
  have h48':¬ (281474976710656 < Builtin.nextslicecap (0 + m.toNat) 0 * i.bytes):=by omega
  have hms:¬ (m.toNat * i.size = 0):=by
   have:=Nat.mul_pos hg hp0;omega
  have hm1:¬ (m <= 0):=by omega
  have hm2:¬ (9223372036854775807 < max m 0):=by omega
  let G:=grownCap w (0 + m.toNat) 0 el
  let ob:Array Value:=Builtin.zeroCells z.cells m.toNat ++ Builtin.zeroCells z.cells (G - (0 + m.toNat))
  refine ⟨w.drew.alloc (.cells ob el),some ⟨w.heap.size,0,none⟩,G,?_,.inr ⟨ob,rfl,rfl,?_,by simp only [G]; omega,fun j hj=>?_⟩⟩
  ·simp only [jbb] at *
   simp [Builtin.append_,run_underlying ht,run_underlying h2,sizeOf,typeInfo,zeroValue,hi,hz,asInt,asIntOf,hwr,hnl,hnb,hn,h63',h48',hms,hg,h0,hm1,hm2,Question.forced,newRow,grownCap,ob,G,qj,run_firstCells_none]
  ·simp only [ob,jdy,size_zeroCells,hzs,<- jbq]
   congr 1
   simp only [G]; omega
  ·simp only [ob]
   rw [jda (by rw [size_zeroCells,hzs]; exact hj),qpr _ (by omega) _ _ (by rw [hzs]; exact hj),hzs]
theorem qtv {t t2:TypeId} {k kk:IntKind} {l:T} {x y:Operand} (hs:Holds Z hF s a w) (hop:o.op = .call { callee:=.builtin .append,args:=#[x,y],argTypes:=#[t,t2] }) (hsc:s.scopedEH = true) (hx:opd s x = some (.one (.c0 .vnils))) (hy:opd s y = some (.one (.c1 (.vint kk) l)))
  (h2:P.underlying t2 = some (.int k)) (h:qhb P s t l = some r) (hn:∀ c ∈ r.needs,(c.den Z).b = true):qe P Z hF s a w o r:=by
 have hex:=hs.opd hx;have hey:=hs.opd hy;simp only [SV.den,T.den,O0.den,O1.den] at hex hey;unfold qhb at h;split at h
 ·rename_i el hu
  split at h
  ·rename_i z n bz hz hsz hbz
   split at h
   ·rename_i hchk
    simp only [jad,ja6] at hchk;have hzl:=Nat.eq_of_beq_eq_true hchk.1.1.1;simp only [jaa] at h; subst h;have h0:=qz (hn _ (jac ..));have h1:=qaZ (hn _ (jab _ (jac ..)));simp only [T.den,O0.den,O2.den] at h1;obtain ⟨i,v,hi,hiz,hzc⟩:=qcM (Z:=Z) hz;have his:i.size = n:=by simpa [qao,hi] using hsz
    have hib:i.bytes = bz:=by simpa [qdp,hi] using hbz
    have hdl:(qa Z z).length = n:=by simp [qa,hzl]
    obtain ⟨w',u,cap',hrun,hcase⟩:=qvZ (P:=P) (ty:=o.type) (kk:=kk) w hu h2 hi hiz (by rw [hzc,his]; simp [hdl]) (by omega) (by omega) h0 (by rw [hib]; exact h1)
    let u1:U:={ r:=u }
    let u2:U:={ i:=(cap':Int) }
    have hag:∀ m,m < s.nx->Z m = ((Z.set s.nx u1).set (s.nx + 1) u2) m:=fun m hm=>by
     rw [Env.set_ne _ _ (by omega),Env.set_ne _ _ (by omega)]
    have hsh:s.heap.all (SH.inB s.nx) = true:=by simp only [S.scopedEH,jad] at hsc; exact hsc.2
    have hl:l.den ((Z.set s.nx u1).set (s.nx + 1) u2) = l.den Z:=(T.den_congr hag l hchk.2).symm;have hzd:qa ((Z.set s.nx u1).set (s.nx + 1) u2) z = qa Z z:=(qbn hag z (qiB hz)).symm;have e1:((Z.set s.nx u1).set (s.nx + 1) u2) s.nx = u1:=by rw [Env.set_ne _ _ (by omega),Env.set_same]
    have e2:((Z.set s.nx u1).set (s.nx + 1) u2) (s.nx + 1) = u2:=Env.set_same ..;have hran:Ran P a o ((Z.set s.nx u1).set (s.nx + 1) u2) (some (.one (.vslice s.nx (.lit 0) l (.var (s.nx + 1)) n))) w w':=by
     have hv:SV.den ((Z.set s.nx u1).set (s.nx + 1) u2) (.one (.vslice s.nx (.lit 0) l (.var (s.nx + 1)) n)) = .slice (qj u 0) (l.den Z).i.toNat cap':=by
      simp only [SV.den,T.den,O0.den,O3.den,hl,e1,e2,u1,u2];simp
     simp only [Ran,hv];simp [execOp,hop,resolve,invoke,builtin,hex,hey,hrun]
    rcases hcase with ⟨g0,rfl,rfl,rfl⟩ | ⟨ob,rfl,rfl,g3,g4,g5⟩
    ·obtain ⟨hO,a1,a2,a3,a4⟩:=hs.hp
     refine ⟨[u1,u2],_,rfl,by simp [U.good,u1,u2,Value.oneCell'],⟨hO,a1,⟨Hp.emp,hO,fun _=>.inl rfl,by funext b; simp [Hp.union,Hp.emp],?_,qaS hag _ hsh _ a2⟩,a3,a4⟩,hran,fun h=>by cases h⟩;refine .inl ⟨by simp only [qr]; rw [e1],?_,by simp only [qr,T.den]; rw [e2]; rfl⟩;simp only [qr,T.den,O2.den,hl];rw [g0]; rfl
    ·refine ⟨[u1,u2],_,rfl,by simp [U.good,u1,u2,Value.oneCell'],qt.new (Z':=(Z.set s.nx u1).set (s.nx + 1) u2) (d:=w.drew.drawn) (w:=w) hs.hp hsh hag (ob:=.cells ob el) ?_,hran,fun h=>by cases h⟩
     refine .inr ⟨w.heap.size,ob,by rw [e1],by simp [Hp.one],?_,?_,?_⟩
     ·simp only [T.den,e2,u2]
      rw [g3]; simp [hzl,his]
     ·simp only [T.den,O2.den,jcf,hl,e2,u2]; omega
     ·intro j row hrow
      simp only [T.den,O2.den,hl] at hrow;rw [jc3] at hrow;split at hrow
      ·rename_i hil2
       simp only [jaa,qgg,hzd] at hrow;subst hrow;refine ⟨qi9 hz Z,fun q v' hv=>?_⟩;have hk:q < n:=by
        rw [<- hdl];rcases jbt q (qa Z z).length with h | h
        ·exact h
        ·rw [jap h] at hv; cases hv
       have hmul:(j + 1) * n <= (l.den Z).i.toNat * n:=jby _ (by omega);rw [jbq,Nat.one_mul] at hmul;rw [jaz,hzl,jbb,g5 _ (by rw [his]; omega),his];rw [show (j * n + q) % n = q from by rw [jdd,Nat.mul_add_mod,jel hk],hzc];simpa using hv
      ·cases hrow
   ·simp at h
  ·simp at h
 ·simp at h
theorem qrE {args:Array Operand} {tys:Array TypeId} (hs:Holds Z hF s a w) (hop:o.op = .call { callee:=.builtin .append,args,argTypes:=tys }) (hsc:s.scopedEH = true) (h:qq P s o = some r) (hn:∀ c ∈ r.needs,(c.den Z).b = true):qe P Z hF s a w o r:=by
 simp only [qq,hop] at h;split at h
 ·rename_i x y t t2 ha ht
  have hargs:args = #[x,y]:=by apply jb6; simpa using ha
  have htys:tys = #[t,t2]:=by apply jb6; simpa using ht
  split at h
  ·rename_i htt
   have htt:=Nat.eq_of_beq_eq_true htt;subst htt;split at h
   ·rename_i va vb hx hy
    have hex:=hs.opd hx;have hey:=hs.opd hy;unfold qiD at h;split at h
    ·rename_i el hu
     split at h
     ·rename_i z n bz hz hsz hbz
      split at h
      ·rename_i hchk
       simp only [jad,ja6] at hchk;have hzl:=Nat.eq_of_beq_eq_true hchk.1.1;split at h
       ·rename_i d len k n1 src hdst hsrc
        split at h
        ·simp at h
        ·rename_i hin
         simp only [jay,jbp,jad] at hin;simp only [jaa] at h; subst h;obtain ⟨i,v,hi,hiz,hzc⟩:=qcM (Z:=Z) hz;have his:i.size = n:=by simpa [qao,hi] using hsz
         have hib:i.bytes = bz:=by simpa [qdp,hi] using hbz
         obtain ⟨base,cap,hT,hR,hD,hxv,hlen⟩:=qsq hs hdst (fun c hc=>hn c (by simp [hc]));obtain ⟨hm0,hS⟩:=qcw (P:=P) (by simp [hzl]; omega) hs hsrc (fun c hc=>hn c (by simp [hc]));have hnb:=qaZ (hn _ (jb4 _ (jak.2 rfl)));simp only [T.den,O0.den,O2.den,qaX,hlen] at hnb;have hbb:((d.den Z).d.length + (src.len.den Z).i.toNat) * i.bytes <= 140737488355328:=by
          rw [hib];have e:(((((d.den Z).d.length + (src.len.den Z).i.toNat) * bz:Nat)):Int) = (bz:Int) * (((d.den Z).d.length:Int) + (src.len.den Z).i):=by
           rw [jer,jd8,jb9 hm0,jem]
          omega
         obtain ⟨w',u,cap',hN,hrun,j1,j2,j3,jw,j4⟩:=qtM (P:=P) (ty:=o.type) hD hS hu hi hiz (by rw [hzc,his]; simp [qa,hzl]) (by simp [hzl,his]) (by omega) (by omega) hbb
         let u1:U:={ r:=u }
         let u2:U:={ i:=(cap':Int) }
         have hag:∀ m,m < s.nx->Z m = ((Z.set s.nx u1).set (s.nx + 1) u2) m:=fun m hm=>by
          rw [Env.set_ne _ _ (by omega),Env.set_ne _ _ (by omega)]
         have hsh:(qrt s.heap k).all (SH.inB s.nx) = true:=by
          simp only [S.scopedEH,jad] at hsc;have h0:=jao.1 hsc.2;cases k with
          | none=>exact hsc.2
          | some k=>exact jao.2 fun x hx=>h0 x (jbk hx)
         have hd':((qgU d src.d).den ((Z.set s.nx u1).set (s.nx + 1) u2)).d = (d.den Z).d ++ (src.d.den Z).d:=by
          rw [<- T.den_congr hag _ hin.1,qow]
         have hl':((qaI len src.len).den ((Z.set s.nx u1).set (s.nx + 1) u2)).i.toNat = (d.den Z).d.length + (src.len.den Z).i.toNat:=by
          rw [<- T.den_congr hag _ hin.2,qaX,hlen]; omega
         have e1:((Z.set s.nx u1).set (s.nx + 1) u2) s.nx = u1:=by rw [Env.set_ne _ _ (by omega),Env.set_same]
         have e2:((Z.set s.nx u1).set (s.nx + 1) u2) (s.nx + 1) = u2:=Env.set_same ..;have hsl:=hS.len;refine ⟨[u1,u2],w',rfl,by simp [U.good,u1,u2,Value.oneCell'],⟨Hp.union hN hR,Hp.disj_union.2 ⟨j1,hD.d2⟩,⟨hN,hR,j2,rfl,?_,qaS hag _ hsh _ hD.st⟩,j3,jw⟩,?_,fun h=>by cases h⟩
         ·rcases j4 with ⟨g1,g2,g3⟩ | ⟨b,c,g1,g2,g3,g4,g5⟩
          ·refine .inl ⟨by simp only [qr]; rw [e1]; exact g1,by simp only [qr]; rw [hd',g2],by simp only [qr,T.den]; rw [e2]; simp [u2,g3]⟩
          ·refine .inr ⟨b,c,by simp only [qr]; rw [e1]; exact g1,g2,by simp only [qr,T.den]; rw [e2]; simp [u2,g3],?_,by simp only [qr]; rw [hd']; exact g5⟩
           simp only [qr,T.den]; rw [e2,hd']; simp only [u2,jav,hsl]; omega
         ·have hv:SV.den ((Z.set s.nx u1).set (s.nx + 1) u2) (.one (.vslice s.nx (.lit 0) (qaI len src.len) (.var (s.nx + 1)) n)) = .slice (qj u 0) ((d.den Z).d.length + (src.len.den Z).i.toNat) cap':=by
           simp only [SV.den,T.den,O0.den,O3.den,hl',e1,e2,u1,u2];simp
          simp only [Ran,qr,hv];simp [execOp,hop,resolve,invoke,builtin,hargs,htys,hex,hey,hxv,hrun]
       ·simp at h
      ·simp at h
     ·simp at h
    ·simp at h
   ·simp at h
  ·split at h
   ·rename_i k kk l h2 hx hy
    subst hargs;subst htys;exact qtv hs hop hsc hx hy h2 h hn
   ·simp at h
 ·simp at h
theorem qt9 {d:List (List Value)} (h:∀ row ∈ d,qX [.int .u8] row):qp d = (d.map fun r=>qbK (r[0]?.getD .nilFunc)).map (Value.int .u8):=by
 induction d with
 | nil=>rfl
 | cons row d ih =>
  have hr:=h row (jac ..);obtain ⟨v,rfl⟩:∃ v,row = [v]:=List.length_eq_one_iff.1 hr.1;have hf:=hr.2 0 (.int .u8) v rfl rfl;obtain ⟨z,rfl⟩:∃ z,v = .int .u8 z:=by
   cases v <;> simp [CK.fits] at hf;subst hf; exact ⟨_,rfl⟩
  have ih:=ih fun r hr=>h r (jab _ hr)
  simp only [qp,jdj,jaq] at ih ⊢;rw [ih]; rfl
theorem qqO {src dst:TypeId} {x:Operand} (hs:Holds Z hF s a w) (hop:o.op = .convert src dst x) (h:qq P s o = some r) (hn:∀ c ∈ r.needs,(c.den Z).b = true):qe P Z hF s a w o r:=by
 simp only [qq,hop] at h;split at h
 ·rename_i d k k' t' hsrc hdst hx
  have hev:=hs.opd hx;simp only [jaa] at h; subst h;refine qe.quiet hs ?_;simp only [SV.den,T.den,O1.den] at hev ⊢;simp [execOp,hop,hev,convert,qy hsrc,qy hdst,Conv.intToInt,qtx]
 ·rename_i e v hsrc hdst hx
  split at h
  ·rename_i sr he hsr
   have hev:=hs.opd hx;simp only [jaa] at h; subst h;refine qe.quiet hs ?_;obtain ⟨_,hS⟩:=qcw (P:=P) (by decide) hs hsr hn;obtain ⟨b,c,hv⟩:=hS.shape;have hcells:=hS.cells w.heap w.drawn rfl;rw [hv] at hev hcells;have hfl:=qt9 hS.fits;have hgoal:(convert src dst (a.eval x)).run P w = .ok (.string ⟨(bytesOf (sr.d.den Z).d).toArray⟩) w:=by
    rw [hev,run_convert_bytes_string w src dst e _ _ _ hsrc he hdst];cases b with
    | none =>
     simp [Builtin.firstCells] at hcells;have h0:(sr.d.den Z).d = []:=by
      rw [hfl] at hcells;simpa using hcells
     rw [h0];simp [Conv.bytesToString,bytesOf];rfl
    | some ad =>
     rw [run_bytesToString w ad _ c ((sr.d.den Z).d.map fun r=>qbK (r[0]?.getD .nilFunc)) ?_,foldl_push_bytes]
     ·simp [bytesOf,ByteArray.empty,ByteArray.emptyWithCapacity,Function.comp_def]
      rfl
     ·have:(loadCells ad (sr.len.den Z).i.toNat).run P w = .ok (qp (sr.d.den Z).d).toArray w:=by
       simpa [Builtin.firstCells] using hcells
      rw [this,hfl]
   simp only [SV.den,T.den,O1.den];simp only [execOp,hop];simp [hgoal]
  ·simp at h
 ·simp at h
theorem qrh (hs:Holds Z hF s a w) (h:qq P s o = some r) (hn:∀ c ∈ r.needs,(c.den Z).b = true) (hsc:r.fresh = 0∨s.scopedEH = true):qe P Z hF s a w o r:=by
 have h0:=h;cases hop:o.op with
 | move x=>exact qoB hs (.inl hop) (by simpa [qq,hop] using h)
 | assign x=>exact qoB hs (.inr hop) (by simpa [qq,hop] using h)
 | pick c x y=>exact qvz hs hop h
 | box t x =>
  refine qwI hs hop (hsc.resolve_left fun hf=>?_) h;simp only [qq,hop] at h;split at h
  ·simp only [jaa] at h; subst h; cases hf
  ·simp at h
 | alloc t =>
  refine qup hs hop (hsc.resolve_left fun hf=>?_) h;simp only [qq,hop] at h;split at h
  ·simp only [jaa] at h; subst h; cases hf
  ·simp at h
 | build t ps=>exact quK hs hop h
 | buildSlice t n ps =>
  refine qnj hs hop (hsc.resolve_left fun hf=>?_) h;simp only [qq,hop] at h
  repeat' (split at h)
  all_goals first | (simp at h; done) | (simp only [jaa] at h; subst h; cases hf)
 | load t x=>exact qvn hs hop h hn
 | store t x y=>exact qt4 hs hop h hn
 | nilCheck x=>exact qpy hs hop h hn
 | binOp op t x y u=>exact qwU hs hop h hn
 | unOp op t x=>exact qvg hs hop h
 | convert src dst x=>exact qqO hs hop h hn
 | fieldAddr t x f=>exact qn2 hs hop h hn
 | field t x f=>exact qun hs hop h
 | indexAddr t x i=>exact qnX hs hop h hn
 | makeSlice t l c =>
  refine quW hs hop (hsc.resolve_left fun hf=>?_) h hn;simp only [qq,hop] at h;split at h
  ·unfold qlF at h
   repeat' (split at h)
   all_goals first | (simp at h; done) | (simp only [jaa] at h; subst h; cases hf)
  ·simp at h
 | slice t x lo hi mx=>exact quy hs hop h hn
 | extract x i=>exact qqH hs hop h
 | makeFunc fn f c=>exact qpz hs hop h
 | index t x i=>exact qtE hs hop h hn
 | call c =>
  obtain ⟨callee,args,tys⟩:=c;cases callee with
  | builtin b =>
   cases b
   case len=>exact qw2 hs hop h hn
   case cap=>exact qxk hs hop h hn
   case min=>exact qxg hs hop h
   case max=>exact qxh hs hop h
   case append =>
    refine qrE hs hop (hsc.resolve_left fun hf=>?_) h hn;simp only [qq,hop] at h
    repeat' (split at h)
    all_goals first | (simp at h; done) | skip
    all_goals first | unfold qiD at h | unfold qhb at h
    all_goals repeat' (split at h)
    all_goals first | (simp at h; done) | (simp only [jaa] at h; subst h; cases hf)
   all_goals simp [qq,hop] at h
  | value f=>simp [qq,hop] at h
  | invoke f m=>simp [qq,hop] at h
 | _=>simp [qq,hop] at h
end Go.Eng
namespace Go.Eng
open Go
variable {P:Program} {Z:Env} {hF:Fr} {s:S} {a:Act} {w:World} {o:Oper} {r:R1}
theorem qw7 (n:Nat) (x:SH):SH.inNx0 n x = SH.inB n x:=by cases x <;> rfl
theorem qdu {n:Nat} {l:List SH} (h:l.all (SH.inNx0 n) = true):l.all (SH.inB n) = true:=by
 rw [jao] at *;intro x hx; rw [<- qw7]; exact h x hx
theorem qt.wrote {heap:List SH} {k:Nat} {x x':SH} {b:Nat} {c0 c1:Array Value} {ty:TypeId} {w w':World} {hO t1 t2:Hp} (hd:Hp.disj hF hO) (hsub:(Hp.union hF hO).sub w) (hwi:hF.wi w)
  (hk:heap[k]? = some x) (td:Hp.disj t1 t2) (tu:hO = Hp.union t1 t2) (ts:qD Z (heap.eraseIdx k) t2) (g2:t1 b = some (.cells c0 ty (0,0))) (g4:x'.den Z (Hp.upd t1 b (.cells c1 ty (0,0))))
  (hw1:w'.heap[b]? = some (.cells c1 ty (0,0))) (hw2:∀ b',b' ≠ b->w'.heap[b']? = w.heap[b']?) (hos:w'.os = w.os/\w'.output = w.output):qt Z hF (heap.set k x') w':=by
 have hdisj:Hp.disj (Hp.upd t1 b (.cells c1 ty (0,0))) t2:=fun y=>by
  rcases td y with h | h
  ·unfold Hp.upd
   split
   ·rename_i he; subst he; rw [g2] at h; cases h
   ·exact .inl h
  ·exact .inr h
 refine ⟨Hp.union (Hp.upd t1 b (.cells c1 ty (0,0))) t2,?_,qcO hk ts hdisj g4,?_,⟨hos.1.trans hwi.1,hos.2.trans hwi.2⟩⟩
 ·intro y
  rcases hd y with h | h
  ·exact .inl h
  ·right
   rw [tu] at h;simp only [Hp.union,jb3] at h ⊢;refine ⟨?_,h.2⟩;unfold Hp.upd;split
   ·rename_i he; subst he; rw [g2] at h; cases h.1
   ·exact h.1
 ·intro y ob hy
  by_cases hyb:y = b
  ·subst hyb
   have hFn:hF y = none:=(hd y).resolve_right (by rw [tu]; simp [Hp.union,g2]);simp only [Hp.union,hFn,Hp.upd,ja5,jbg,jcj,jaa] at hy;rw [hw1,hy]
  ·rw [hw2 y hyb]
   refine hsub y ob ?_;rw [tu];simp only [Hp.union,Hp.upd,hyb,ja3] at hy ⊢;exact hy
theorem qt.congr {Z':Env} {heap:List SH} {n:Nat} (h:qt Z hF heap w) (hsc:heap.all (SH.inB n) = true) (hag:∀ m,m < n->Z m = Z' m):qt Z' hF heap w:=by
 obtain ⟨hO,hd,hst,hsub,hwi⟩:=h;exact ⟨hO,hd,qaS hag _ hsc _ hst,hsub,hwi⟩
theorem qvB {args:Array Operand} {tys:Array TypeId} {x y:Operand} {t:TypeId} {xa ya:SV} (hs:Holds Z hF s a w) (hop:o.op = .call { callee:=.builtin .append,args,argTypes:=tys }) (hargs:args = #[x,y]) (htys:tys = #[t,t])
  (hx:opd s x = some xa) (hy:opd s y = some ya) (h:qlK P s t xa ya = some r) (hn:∀ c ∈ r.needs,(c.den Z).b = true):qe P Z hF s a w o r:=by
 unfold qlK at h;split at h
 ·rename_i el rg p off len cap hu
  split at h
  ·rename_i z n bz hz hsz hbz
   split at h
   ·rename_i hc
    simp only [jad,ja6] at hc;obtain ⟨⟨hzl,hpos⟩,hnp⟩:=hc;have hzl:=Nat.eq_of_beq_eq_true hzl;have hnp:=Nat.eq_of_beq_eq_true hnp;subst hnp;split at h
    ·rename_i k rr ty pat d capA src hoff hat hsrc
     split at h
     ·rename_i ts hsl hrow
      split at h
      ·rename_i hc2
       simp only [jad,jaw] at hc2;obtain ⟨htsl,hpat⟩:=hc2;have htsl:=Nat.eq_of_beq_eq_true htsl;split at h
       ·rename_i x' ns hwr
        split at h
        ·rename_i hin
         simp only [jad,ja6] at hin;obtain ⟨⟨⟨hin1,hin2⟩,hin3⟩,hin4⟩:=hin;simp only [jaa] at h; subst h;have hev:=hs.opd hx;have hey:=hs.opd hy;simp only [jdo,jar,jax,forall_eq_or_imp] at hn;obtain ⟨hn1,hn2,hn3⟩:=hn;have hroom:=qaZ hn1;have hone:=qew hn2;rw [qaX] at hroom;simp only [T.den,O0.den] at hroom hone;have hplen:0 < (z.map qaP).length:=by simp [hzl,hpos]
         obtain ⟨_,hS⟩:=qcw (P:=P) hplen hs hsrc (fun c hc=>hn3 c (.inr hc));obtain ⟨hk,hreg⟩:=qZ hat;obtain ⟨hO,hd,hst,hsub,hwi⟩:=hs.hp;obtain ⟨t1,t2,td,tu,tx,tss⟩:=qaz hst hk;obtain ⟨b,c0,ty0,g1,g2,g3,g4⟩:=qjU hs.gd hwr tx hreg (fun c hc=>hn3 c (.inl hc));have hle:Hp.le t1 (Hp.union hF hO):=Hp.le_trans (tu ▸ Hp.le_left t1 t2) (Hp.le_right hd);have hlen0:0 <= (len.den Z).i:=by
          simp only [qhA] at hwr;split at hwr
          ·simp only [jaa,jam] at hwr
           obtain ⟨_,rfl⟩:=hwr;exact qz (hn3 _ (.inl (by simp)))
          ·split at hwr
           ·split at hwr
            ·split at hwr
             ·simp only [jaa,jam] at hwr
              obtain ⟨_,rfl⟩:=hwr;exact qz (hn3 _ (.inl (by simp)))
             ·simp at hwr
            ·split at hwr
             ·simp only [jaa,jam] at hwr
              obtain ⟨_,rfl⟩:=hwr;exact qz (hn3 _ (.inl (by simp)))
             ·simp at hwr
            ·simp at hwr
           ·simp at hwr
         have hrows:(src.d.den Z).d = [qa Z ts]:=by
          have l1:=qd1 (Z:=Z) hsl;have l2:=qf0 (Z:=Z) hrow
          match hx:(src.d.den Z).d,l1 with
          | [q],_=>rw [hx] at l2; simpa using l2
         have hm:(src.len.den Z).i.toNat = 1:=by omega
         obtain ⟨yb,yc,hyv⟩:=hS.shape;have hcells:=hS.cells w.heap w.drawn rfl;rw [hm] at hcells hyv;have hfl:qp (src.d.den Z).d = qa Z ts:=by rw [hrows]; simp [qp]
         rw [hfl] at hcells;have hpn:(z.map qaP).length = n:=by simp [hzl]
         rw [hpn] at hcells;obtain ⟨i,hi,hib⟩:=qrT hbz;obtain ⟨i',hi',his⟩:=qic hsz;have:i' = i:=jat (hi'.symm.trans hi);subst this;obtain ⟨w',c1,hrun,hw1,hw2,hwrote,hos⟩:=qc9 (P:=P) (b:=b) (off:=(len.den Z).i.toNat * n) (qa Z ts) 0 c0 w (hsub _ _ (hle _ _ g2)) (qfU hs.gd ts) (by simpa [qa] using g3);have hbase:=qt.wrote hd hsub hwi hk td tu tss g2 (g4 c1 (by simpa using hwrote)) hw1 hw2 hos;have hag:∀ m,m < s.nx->Z m = (Z.set s.nx {}) m:=fun m hm=>(Env.set_ne Z _ (by omega)).symm
         refine ⟨[{}],w',rfl,by simp [U.good,Value.oneCell'],qt.congr hbase (qdu hin1) hag,?_,fun h=>by cases h⟩;have hoff0:=qcg (Z:=Z) hoff;have hv:SV.den (Z.set s.nx {}) (.one (.vslice rg (.lit 0) (qaI len (.lit 1)) cap n)) = .slice (some ⟨b,0,none⟩) ((len.den Z).i.toNat + 1) (cap.den Z).i.toNat:=by
          simp only [SV.den,T.den,O0.den,O3.den,qj];rw [<- hag rg hin4,g1,<- T.den_congr hag _ hin2,<- T.den_congr hag _ hin3,qaX];simp [T.den,O0.den]; omega
         have hev':a.eval x = .slice (some ⟨b,0,none⟩) (len.den Z).i.toNat (cap.den Z).i.toNat:=by
          rw [hev]; simp [SV.den,T.den,O3.den,qj,g1,hoff0]
         have hroom':(len.den Z).i.toNat + 1 <= (cap.den Z).i.toNat:=by omega
         simp only [Ran,qr,hv];rw [hyv] at hey hcells;have hlenOf:∀ w':World,(Builtin.lenOf (.slice yb 1 yc)).run P w' = .ok ((1:Nat):Int).toNat w':=fun _=>rfl
         simp [execOp,hop,resolve,invoke,builtin,hargs,htys,hev',hey,Builtin.append_,run_underlying hu,sizeOf,typeInfo,hi,his,Builtin.lenOf,hroom',hcells,Addr.add_lit,hrun]
        ·simp at h
       ·simp at h
      ·simp at h
     ·simp at h
    ·simp at h
   ·simp at h
  ·simp at h
 ·simp at h
theorem quG {t:TypeId} {cs:List T} (h:qbA P t = some cs) (w:World):∃ v,(zeroValue t).run P w = .ok v w/\v.cells.size = cs.length/\∀ x ∈ v.cells.toList,x.oneCell' = true:=by
 obtain ⟨v,h1,h2⟩:=qj7 (Z:=fun _=>{}) h w;refine ⟨v,h1,by rw [h2]; simp [qa],fun x hx=>?_⟩;rw [h2] at hx;exact qfU (Z:=fun _=>{}) (fun n=>by simp [U.good,Value.oneCell']) cs x (by simpa using hx)
theorem qnV {z:Array Value} (hz:∀ x ∈ z.toList,x.oneCell' = true) (n:Nat):∀ x ∈ (Builtin.zeroCells z n).toList,x.oneCell' = true:=by
 intro x hx;simp only [Builtin.zeroCells,jd0,jbr] at hx;obtain ⟨i,hi,rfl⟩:=hx;by_cases hlt:i % z.size < z.size
 ·rw [getElem!_pos z _ hlt]; exact hz _ (by simp)
 ·rw [getElem!_neg z _ hlt]; rfl
theorem qtK {args:Array Operand} {tys:Array TypeId} {x:Operand} {t:TypeId} {xa:SV} (hs:Holds Z hF s a w) (hop:o.op = .call { callee:=.builtin .clear,args,argTypes:=tys }) (hargs:args = #[x]) (htys:tys = #[t])
  (hx:opd s x = some xa) (h:qje P s t xa = some r) (hn:∀ c ∈ r.needs,(c.den Z).b = true):qe P Z hF s a w o r:=by
 unfold qje at h;split at h
 ·rename_i el rg p off len cap hu
  split at h
  ·rename_i z n hz hsz
   split at h
   ·rename_i hc
    simp only [jad,ja6] at hc;obtain ⟨⟨hzl,hpos⟩,hnp⟩:=hc;have hzl:=Nat.eq_of_beq_eq_true hzl;have hnp:=Nat.eq_of_beq_eq_true hnp;subst hnp;split at h
    ·rename_i k rr ty pat d capA hat
     split at h
     ·rename_i hc2
      simp only [jad] at hc2;obtain ⟨hpl,hin⟩:=hc2;have hpl:=Nat.eq_of_beq_eq_true hpl;simp only [jaa] at h; subst h;have hev:=hs.opd hx;have hoff:=qz (hn _ (by simp):((qa0 off).den Z).b = true);have hlen:=qz (hn _ (by simp):((qa0 len).den Z).b = true);have hle:=qaZ (hn _ (by simp):((qs .leq (qaI off len) (qaw d)).den Z).b = true);rw [qaX,qbe] at hle;obtain ⟨hk,hreg⟩:=qZ hat;simp only [SH.reg,jaa] at hreg; subst hreg;obtain ⟨hO,hd,hst,hsub,hwi⟩:=hs.hp;obtain ⟨t1,t2,td,tu,tx,tss⟩:=qaz hst hk;have hag:∀ m,m < s.nx->Z m = (Z.set s.nx {}) m:=fun m hm=>(Env.set_ne Z _ (by omega)).symm
      obtain ⟨zv,hz1,hz2,hz3⟩:=quG hz w;have htake0:((T.dtake d (qd7 len (.lit 0) (qaw d) off)).den Z).d = (d.den Z).d.take ((qd7 len (.lit 0) (qaw d) off).den Z).i.toNat:=rfl;have hife:((qd7 len (.lit 0) (qaw d) off).den Z).i = if (len.den Z).i = 0 then ((d.den Z).d.length:Int) else (off.den Z).i:=by rw [qjn,qbe]; rfl
      by_cases hempty:(len.den Z).i.toNat = 0
      ·-- nothing is written
       have htake:((T.dtake d (qd7 len (.lit 0) (qaw d) off)).den Z).d = (d.den Z).d:=by
        rw [htake0,hife,jag (by omega)]; simp
       have hx':SH.den Z (.arr rr ty pat (.dtake d (qd7 len (.lit 0) (qaw d) off)) capA) t1:=by
        rcases tx with ⟨h1,h2,h3⟩ | ⟨b,c,h1,h2,h3,h4,h5⟩
        ·exact .inl ⟨h1,by rw [htake,h2],h3⟩
        ·exact .inr ⟨b,c,h1,h2,h3,by rw [htake]; exact h4,by rw [htake]; exact h5⟩
       refine ⟨[{}],w,rfl,by simp [U.good,Value.oneCell'],qt.congr ⟨hO,hd,by rw [tu]; exact qcO hk tss td hx',hsub,hwi⟩ (qdu hin) hag,?_,fun h=>by cases h⟩;have hev':a.eval x = .slice (qj (Z rr).r ((off.den Z).i.toNat * n)) 0 (cap.den Z).i.toNat:=by
        rw [hev]; simp [SV.den,T.den,O3.den,hempty]
       simp only [Ran,qr,SV.den,jbl];cases hadr:qj (Z rr).r ((off.den Z).i.toNat * n) <;> simp [execOp,hop,resolve,invoke,builtin,hargs,htys,hev',hadr,Builtin.clear_,run_underlying hu]
      ·have htake:((T.dtake d (qd7 len (.lit 0) (qaw d) off)).den Z).d = (d.den Z).d.take (off.den Z).i.toNat:=by
        rw [htake0,hife,jaf (by omega)]
       rcases tx with ⟨h1,h2,h3⟩ | ⟨b,c,h1,h2,h3,h4,h5⟩
       ·rw [h2] at hle; simp at hle; omega
       ·have hw:w.heap[b]? = some (.cells c ty (0,0)):=hsub b _ (Hp.le_right hd _ _ (tu ▸ Hp.le_left t1 t2 _ _ h2))
        have hzc:(Builtin.zeroCells zv.cells (len.den Z).i.toNat).toList.length = (len.den Z).i.toNat * n:=by
         rw [Array.length_toList,size_zeroCells,hz2,hzl]
        have hsz2:(off.den Z).i.toNat * n + (len.den Z).i.toNat * n <= c.size:=by
         rw [h3,hpl,<- jbq];exact jby _ (by omega)
        obtain ⟨w',c1,hrun,hw1,hw2,⟨hws,hwg⟩,hos⟩:=qc9 (P:=P) (b:=b) (off:=(off.den Z).i.toNat * n) (Builtin.zeroCells zv.cells (len.den Z).i.toNat).toList 0 c w hw (qnV hz3 _) (by rw [hzc]; simpa using hsz2);have hx':SH.den Z (.arr rr ty pat (.dtake d (qd7 len (.lit 0) (qaw d) off)) capA) (Hp.upd t1 b (.cells c1 ty (0,0))):=by
         refine .inr ⟨b,c1,h1,by simp [Hp.upd],by rw [hws]; exact h3,?_,fun i row hi=>?_⟩
         ·rw [htake,jbc]; omega
         ·rw [htake,jbe] at hi
          split at hi
          ·rename_i hlt
           obtain ⟨g1,g2⟩:=h5 i row hi;refine ⟨g1,fun kk v hv=>?_⟩;rw [hwg,jaf]
           ·exact g2 kk v hv
           ·have hkl:kk < pat.length:=by
             rw [<- g1.1]; exact (jal.1 hv).1
            have:(i + 1) * pat.length <= (off.den Z).i.toNat * pat.length:=jby _ hlt;rw [jbq] at this;rw [hpl] at this hkl ⊢;omega
          ·cases hi
        refine ⟨[{}],w',rfl,by simp [U.good,Value.oneCell'],qt.congr (qt.wrote hd hsub hwi hk td tu tss h2 hx' hw1 hw2 hos) (qdu hin) hag,?_,fun h=>by cases h⟩;obtain ⟨m,hm⟩:∃ m,(len.den Z).i.toNat = m + 1:=⟨(len.den Z).i.toNat - 1,by omega⟩;have hev':a.eval x = .slice (some ⟨b,(off.den Z).i.toNat * n,none⟩) (m + 1) (cap.den Z).i.toNat:=by
         rw [hev]; simp [SV.den,T.den,O3.den,hm,h1,qj]
        rw [hm] at hrun;simp only [Ran,qr,SV.den,jbl];simp [execOp,hop,resolve,invoke,builtin,hargs,htys,hev',Builtin.clear_,run_underlying hu,hz1,hrun]
     ·simp at h
    ·simp at h
   ·simp at h
  ·simp at h
 ·simp at h
theorem qeR {d:List (List Value)} {pat:List CK} (hp:pat.length = 1) (h:∀ row ∈ d,qX pat row):(qp d).length = d.length/\∀ i:Nat,(qp d)[i]? = (d[i]?).bind (·[0]?):=by
 induction d with
 | nil=>exact ⟨rfl,fun i=>by simp [qp]⟩
 | cons row d ih =>
  have hr:=(h row (jac ..)).1;rw [hp] at hr;obtain ⟨v,rfl⟩:∃ v,row = [v]:=List.length_eq_one_iff.1 hr;obtain ⟨i1,i2⟩:=ih fun r hr=>h r (jab _ hr)
  simp only [qp,jdj] at i1 i2 ⊢;refine ⟨by simp [i1],fun i=>?_⟩;cases i with
  | zero=>rfl
  | succ i=>simpa using i2 i
theorem qsl {d x:List (List Value)} {k:Nat} (h:k + x.length <= d.length):(qdc d k x).length = d.length:=by
 simp [qdc]; omega
theorem qrO {d x:List (List Value)} {k:Nat} (h:k + x.length <= d.length) (i:Nat):(qdc d k x)[i]? = if i < k then d[i]? else if i < k + x.length then x[i - k]? else d[i]?:=by
 unfold qdc;by_cases h1:i < k
 ·rw [jag h1,jbv,jbs (by simp; omega),List.getElem?_take_of_lt h1]
 ·rw [jaf h1]
  by_cases h2:i < k + x.length
  ·rw [jag h2,jbv,jbd (by simp; omega)]
   simp only [jbc];rw [jd7 (by omega),jbs (by omega)]
  ·rw [jaf h2,jbv,jbd (by simp; omega)]
   simp only [jbc];rw [jd7 (by omega),jbd (by omega),jbf]
   congr 1; omega
theorem qp1 {c0 c1:Array Value} {pat:List CK} {d x:List (List Value)} {k:Nat} (hp:pat.length = 1) (h:qaA c0 0 pat d) (hx:∀ row ∈ x,qX pat row) (hk:k + x.length <= d.length)
  (hw:qhf c0 c1 k (qp x)):qaA c1 0 pat (qdc d k x):=by
 obtain ⟨f1,f2⟩:=qeR hp hx;intro i row hi;rw [qrO hk] at hi;have hw2:=hw.2;have old:d[i]? = some row->¬ (k <= i/\i < k + x.length)->qX pat row/\∀ (j:Nat) (v:Value),row[j]? = some v->c1[0 + i * pat.length + j]? = some v:=fun hi hne=>by
  obtain ⟨g1,g2⟩:=h i row hi;refine ⟨g1,fun j v hv=>?_⟩;have hj:j < 1:=by rw [<- hp,<- g1.1]; exact (jal.1 hv).1
  rw [hw2,f1,jaf (by rw [hp]; omega)];exact g2 j v hv
 split at hi
 ·exact old hi (by omega)
 ·split at hi
  ·have hfit:=hx row (jas hi)
   refine ⟨hfit,fun j v hv=>?_⟩;have hj:j < 1:=by rw [<- hp,<- hfit.1]; exact (jal.1 hv).1
   have hj0:j = 0:=by omega
   subst hj0;rw [hw2,f1,hp,jag (by omega),show 0 + i * 1 + 0 - k = i - k by omega,f2,hi];exact hv
  ·exact old hi (by omega)
theorem qws {t t2:TypeId} {xa ya:SV} {args:Array Operand} {tys:Array TypeId} {x y:Operand} (hs:Holds Z hF s a w) (hop:o.op = .call { callee:=.builtin .copy,args:=args,argTypes:=tys }) (hargs:args = #[x,y]) (htys:tys = #[t,t2])
  (hx:opd s x = some xa) (hy:opd s y = some ya) (h:qlw P s t xa ya = some r) (hn:∀ c ∈ r.needs,(c.den Z).b = true):qe P Z hF s a w o r:=by
 unfold qlw at h;split at h
 ·rename_i el rg p off len cap hu
  split at h
  ·rename_i z n hz hsz
   split at h
   ·rename_i hc
    simp only [jad] at hc;have c1:=Nat.eq_of_beq_eq_true hc.1.1;have c2:=Nat.eq_of_beq_eq_true hc.1.2;have c3:=Nat.eq_of_beq_eq_true hc.2;subst c3; subst c2;split at h
    ·rename_i k rr ty pat d capA src hat hsrc
     split at h
     ·rename_i hin
      simp only [jad,jaw] at hin;obtain ⟨⟨hpat,hin1⟩,hin2⟩:=hin;simp only [jaa] at h; subst h;subst hpat;have hpl:(z.map qaP).length = 1:=by simp [c1]
      have hev:=hs.opd hx;have hey:=hs.opd hy;simp only [jdo,jco,jar,forall_eq_or_imp] at hn;obtain ⟨n1,n2,n3,n4⟩:=hn;have o0:=qz n1;have l0:=qz n2;have hfit:=qaZ n3;rw [qaX,qbe] at hfit;obtain ⟨hs0,hS⟩:=qcw (P:=P) (by omega) hs hsrc n4;obtain ⟨yb,yc,hyv⟩:=hS.shape;have hcells:=hS.cells w.heap w.drawn rfl;rw [hyv] at hey hcells;have hag:∀ m,m < s.nx->Z m = (Z.set s.nx {}) m:=fun m hm=>(Env.set_ne Z _ (by omega)).symm
      -- how many go over, and which
      obtain ⟨X,hX,hXl,hXt,hm⟩:∃ X,((qb5 len src).den Z).d = X/\X.length = Nat.min (src.len.den Z).i.toNat (len.den Z).i.toNat /\
        X = (src.d.den Z).d.take X.length/\((qc5 len src).den Z).i = (X.length:Int):=by
       have hmx:∀ a b:Nat,Nat.min a b = min a b:=fun _ _=>rfl
       by_cases hsame:len.same src.len = true
       ·have he:=T.same_eq hsame
        refine ⟨(src.d.den Z).d,by simp only [qb5,hsame,ja5],by rw [hS.len,he]; exact (Nat.min_self _).symm,by rw [jen],?_⟩;simp only [qc5,hsame,ja5]; rw [hS.len,he]; omega
       ·have hmin:(T.den Z (.imin len src.len)).i.toNat = Nat.min (src.len.den Z).i.toNat (len.den Z).i.toNat:=by
         simp only [T.den,O2.den];rw [hmx]; split <;> omega
        have hl:((src.d.den Z).d.take (T.den Z (.imin len src.len)).i.toNat).length = Nat.min (src.len.den Z).i.toNat (len.den Z).i.toNat:=by
         rw [jbc,hmin,hS.len,hmx]; omega
        have hns:len.same src.len = false:=by simpa using hsame
        refine ⟨(src.d.den Z).d.take (T.den Z (.imin len src.len)).i.toNat,by simp only [qb5,hns,jan,ja3]; rfl,hl,by rw [hl,hmin],?_⟩;simp only [qc5,hns,jan,ja3];rw [hl,<- hmin];have:0 <= (T.den Z (.imin len src.len)).i:=by simp only [T.den,O2.den]; split <;> omega
        omega
      have hXfit:∀ row ∈ X,qX (z.map qaP) row:=fun row hr=>hS.fits row (by rw [hXt] at hr; exact jb7 hr)
      obtain ⟨hk,hreg⟩:=qZ hat;simp only [SH.reg,jaa] at hreg; subst hreg;obtain ⟨hO,hd,hst,hsub,hwi⟩:=hs.hp;obtain ⟨t1,t2',td,tu,tx,tss⟩:=qaz hst hk;have hXle:(off.den Z).i.toNat + X.length <= (d.den Z).d.length:=by
       have:X.length <= (len.den Z).i.toNat:=by rw [hXl]; exact Nat.min_le_right _ _
       omega
      have hdn:(T.den Z (.c3 .dsplice d off (qb5 len src))).d = qdc (d.den Z).d (off.den Z).i.toNat X:=by
       rw [<- hX]; rfl
      have hsz1:(P.info? el).map (·.size) = some 1:=by
       obtain ⟨i,hi,his⟩:=qic hsz;rw [hi]; simp [his]
      have hret:SV.den (Z.set s.nx {}) (.one (.vint .i64 (qc5 len src))) = .int .i64 (X.length:Int):=by
       simp only [SV.den,T.den,O1.den];rw [<- T.den_congr hag _ hin2,hm]
      by_cases h0:X.length = 0
      ·have hXn:X = []:=jc1 h0
       have hdd:qdc (d.den Z).d (off.den Z).i.toNat X = (d.den Z).d:=by rw [hXn]; simp [qdc]
       have hx':SH.den Z (.arr rr ty (z.map qaP) (.c3 .dsplice d off (qb5 len src)) capA) t1:=by
        simp only [SH.den,hdn,hdd] at tx ⊢;exact tx
       refine ⟨[{}],w,rfl,by simp [U.good,Value.oneCell'],qt.congr ⟨hO,hd,by rw [tu]; exact qcO hk tss td hx',hsub,hwi⟩ (qdu hin1) hag,?_,fun h=>by cases h⟩;simp only [Ran,qr,hret,h0];have hrun:=run_copy_none (P:=P) w t t2 o.type el (qj (Z rr).r (off.den Z).i.toNat) yb (len.den Z).i.toNat (cap.den Z).i.toNat (src.len.den Z).i.toNat yc hu hsz1 (by rw [<- hXl,h0]);have hev':a.eval x = .slice (qj (Z rr).r (off.den Z).i.toNat) (len.den Z).i.toNat (cap.den Z).i.toNat:=by rw [hev]; simp [SV.den,T.den,O3.den]
       simp [execOp,hop,resolve,invoke,builtin,hargs,htys,hev',hey,hrun,goInt]
      ·-- both are qfS
       rcases tx with ⟨_,hd0,_⟩ | ⟨b,c0,g1,g2,g3,g4,g5⟩
       ·rw [hd0,jcm] at hXle; omega
       have hM:X.length <= (src.len.den Z).i.toNat:=by rw [hXl]; exact Nat.min_le_left _ _
       have hsl:=qeR hpl hS.fits;cases yb with
       | none =>
        exfalso;have hfl0:qp (src.d.den Z).d = []:=by
         simp [Builtin.firstCells] at hcells
         first | exact hcells | exact hcells.symm
        have:=hsl.1;rw [hfl0,hS.len,jcm] at this;omega
       | some ad =>
        have hfX:=qeR hpl hXfit;have hsrcc:∀ j v,(qp X)[j]? = some v->w.cell? (ad.add j) = some v:=fun j v hv=>by
         refine hS.read ad yc hyv j v ?_;rw [<- hv,hsl.2,hfX.2,hXt,jbe];have:j < X.length:=by rw [<- hfX.1]; exact (jal.1 hv).1
         simp [this]
        have hle:Hp.le t1 (Hp.union hF hO):=Hp.le_trans (tu ▸ Hp.le_left t1 t2') (Hp.le_right hd);have hwb:=hsub _ _ (hle _ _ g2);have hc0:(d.den Z).d.length <= c0.size:=by rw [g3,hpl]; omega
        have hgoodX:∀ v ∈ qp X,v.oneCell' = true:=fun v hv=>by
         have hg:=T.den_good hs.gd (qb5 len src);rw [U.good,hX] at hg;obtain ⟨row,hr,hv⟩:=jd1.1 hv;exact hg.2 row hr v hv
        have hrun:=run_copy_row (P:=P) w t t2 o.type el b (off.den Z).i.toNat (len.den Z).i.toNat (cap.den Z).i.toNat ad (src.len.den Z).i.toNat yc c0 ty (qp X) hu hsz1 hwb (by rw [hfX.1,hXl]) hsrcc (by rw [hfX.1]; omega) hgoodX;have hwr:qhf c0 (c0.toList.take (off.den Z).i.toNat ++ qp X ++ c0.toList.drop ((off.den Z).i.toNat + (qp X).length)).toArray (off.den Z).i.toNat (qp X):=by
         have hb:(off.den Z).i.toNat + (qp X).length <= c0.size:=by rw [hfX.1]; omega
         refine ⟨by simp; omega,fun j=>?_⟩;have:=qcP (row:=c0.toList) (c:=(off.den Z).i.toNat) (vs:=qp X) (by simpa using hb) j;simp only [qba] at this;rw [jcu,this];simp
        generalize hc1:(c0.toList.take (off.den Z).i.toNat ++ qp X ++ c0.toList.drop ((off.den Z).i.toNat + (qp X).length)).toArray = c1 at hrun hwr;have hset:(w.setRow b c1).heap[b]? = some (.cells c1 ty (0,0)):=setRow_heap w b c0 _ ty (0,0) hwb;have hoth:∀ b',b' ≠ b->(w.setRow b c1).heap[b']? = w.heap[b']?:=fun b' hne=>by
         simp only [World.setRow,jct];rw [jaf (fun h=>hne h.symm)]
        have hx':SH.den Z (.arr rr ty (z.map qaP) (.c3 .dsplice d off (qb5 len src)) capA) (Hp.upd t1 b (.cells c1 ty (0,0))):=by
         refine .inr ⟨b,c1,g1,by simp [Hp.upd],by rw [hwr.1,g3],?_,?_⟩
         ·rw [hdn,qsl hXle]; exact g4
         ·rw [hdn]; exact qp1 hpl g5 hXfit hXle hwr
        have hbase:=qt.wrote hd hsub hwi hk td tu tss g2 hx' hset hoth ⟨rfl,rfl⟩;refine ⟨[{}],_,rfl,by simp [U.good,Value.oneCell'],qt.congr hbase (qdu hin1) hag,?_,fun h=>by cases h⟩;simp only [Ran,qr,hret];have hev':a.eval x = .slice (some ⟨b,(off.den Z).i.toNat,none⟩) (len.den Z).i.toNat (cap.den Z).i.toNat:=by rw [hev]; simp [SV.den,T.den,O3.den,g1,qj]
        rw [hfX.1] at hrun;simp [execOp,hop,resolve,invoke,builtin,hargs,htys,hev',hey,hrun,goInt,hfX.1]
     ·simp at h
    ·simp at h
   ·simp at h
  ·simp at h
 ·simp at h
theorem qyE {hs:Holds Z hF s a w} {len:T} {src:Src} {pat:List CK} {v:Value} (l0:0 <= (len.den Z).i) (hs0:0 <= (src.len.den Z).i) (hS:SrcOk (P:=P) w pat v (src.d.den Z).d (src.len.den Z).i.toNat) :
  ∃ X,((qb5 len src).den Z).d = X/\X.length = Nat.min (src.len.den Z).i.toNat (len.den Z).i.toNat/\X = (src.d.den Z).d.take X.length/\((qc5 len src).den Z).i = (X.length:Int):=by
 have hmx:∀ a b:Nat,Nat.min a b = min a b:=fun _ _=>rfl
 by_cases hsame:len.same src.len = true
 ·have he:=T.same_eq hsame
  refine ⟨(src.d.den Z).d,by simp only [qb5,hsame,ja5],by rw [hS.len,he]; exact (Nat.min_self _).symm,by rw [jen],?_⟩;simp only [qc5,hsame,ja5]; rw [hS.len,he]; omega
 ·have hmin:(T.den Z (.imin len src.len)).i.toNat = Nat.min (src.len.den Z).i.toNat (len.den Z).i.toNat:=by
   simp only [T.den,O2.den];rw [hmx]; split <;> omega
  have hl:((src.d.den Z).d.take (T.den Z (.imin len src.len)).i.toNat).length = Nat.min (src.len.den Z).i.toNat (len.den Z).i.toNat:=by
   rw [jbc,hmin,hS.len,hmx]; omega
  have hns:len.same src.len = false:=by simpa using hsame
  refine ⟨(src.d.den Z).d.take (T.den Z (.imin len src.len)).i.toNat,by simp only [qb5,hns,jan,ja3]; rfl,hl,by rw [hl,hmin],?_⟩;simp only [qc5,hns,jan,ja3];rw [hl,<- hmin];have:0 <= (T.den Z (.imin len src.len)).i:=by simp only [T.den,O2.den]; split <;> omega
  omega
theorem qpX {c0 c1:Array Value} {pat:List CK} {d x:List (List Value)} {k:Nat} {ck:CK} (h:qaA c0 0 pat d) (hx:∀ row ∈ x,qX [ck] row) (hk:k + x.length <= pat.length) (hp:∀ i,i < x.length->pat[k + i]? = some ck)
  (hw:qhf c0 c1 k (qp x)):qaA c1 0 pat (qcU d k x):=by
 obtain ⟨f1,f2⟩:=qeR (pat:=[ck]) rfl hx;have hw2:=hw.2;cases d with
 | nil=>intro i row hi; simp [qcU] at hi
 | cons qgG rest =>
  obtain ⟨⟨hl0,hf0⟩,hc0⟩:=h 0 qgG rfl;have hml:(x.map fun r=>r.headD .nilFunc).length = x.length:=jaz ..;have hmg:∀ i,i < x.length->(x.map fun r=>r.headD .nilFunc)[i]? = (qp x)[i]?:=fun i hi=>by
   rw [f2,jau,jae hi];have hr:=(hx _ (jbu hi)).1
   match hx1:x[i],hr with
   | [v],_=>simp
  intro i row hi
  match i,hi with
  | 0,hi =>
   simp only [qcU,ja7,jaa] at hi;subst hi;have hsl:(qba qgG k (x.map fun r=>r.headD .nilFunc)).length = qgG.length:=by simp [qba]; omega
   have hget:=qcP (row:=qgG) (c:=k) (vs:=x.map fun r=>r.headD .nilFunc) (by rw [hml]; omega);refine ⟨⟨by rw [hsl,hl0],fun q kq v h1 h2=>?_⟩,fun q v hv=>?_⟩
   ·rw [hget q] at h2
    split at h2
    ·rename_i hin
     rw [hml] at hin;rw [hmg _ (by omega),f2] at h2;have hpq:=hp (q - k) (by omega);rw [show k + (q - k) = q by omega,h1] at hpq;simp only [jaa] at hpq;subst hpq;simp only [jaj] at h2;obtain ⟨r,hr,hv⟩:=h2;exact (hx r (jas hr)).2 0 kq v rfl hv
    ·exact hf0 q kq v h1 h2
   ·rw [hget q] at hv
    rw [show 0 + 0 * pat.length + q = q by omega,hw2];split at hv
    ·rename_i hin
     rw [hml] at hin;rw [jag (by rw [f1]; omega),<- hmg _ (by omega)];exact hv
    ·rename_i hin
     rw [hml] at hin;rw [jaf (by rw [f1]; omega)];have:=hc0 q v hv
     rwa [show 0 + 0 * pat.length + q = q by omega] at this
  | i + 1,hi =>
   have hi':(qgG :: rest)[i + 1]? = some row:=hi;obtain ⟨g1,g2⟩:=h (i + 1) row hi';refine ⟨g1,fun q v hv=>?_⟩;have hge:pat.length <= (i + 1) * pat.length:=by
    have:=jby pat.length (show 1 <= i + 1 by omega);omega
   rw [hw2,jaf (by rw [f1]; omega)];exact g2 q v hv
theorem qtt {d x:List (List Value)} {k:Nat}:(qcU d k x).length = d.length:=by cases d <;> rfl
theorem qvs (hg:Z.good) {y:SH} {pat:List CK} {d:T} {r:Nat} {ty:TypeId} {cap:T} {H:Hp} (h:qfp y = some (pat,d)) (hr:y.reg = some r) (hy:(∃ cs,y = .cells r ty cs/\cap = .lit 1)∨y = .arr r ty pat d cap) (hro:y.den Z H) (hd:0 < (d.den Z).d.length) :
  ∃ b c,(Z r).r = some ⟨b,0,none⟩/\H b = some (.cells c ty (0,0))/\c.size = (cap.den Z).i.toNat * pat.length/\((d.den Z).d.length:Int) <= (cap.den Z).i/\qaA c 0 pat (d.den Z).d:=by
 rcases hy with ⟨cs,rfl,rfl⟩ | rfl
 ·simp only [qfp,jaa,jam] at h
  obtain ⟨rfl,rfl⟩:=h;obtain ⟨b,h1,h2⟩:=hro;refine ⟨b,_,h1,h2,by simp [T.den,O0.den,qa],by rw [qii]; simp [T.den,O0.den],fun i row hi=>?_⟩;rw [qii] at hi
  match i,hi with
  | 0,hi =>
   simp only [ja7,jaa] at hi;subst hi;exact ⟨qkl hg cs,fun k v hv=>by simpa using hv⟩
  | i + 1,hi=>simp at hi
 ·rcases hro with ⟨_,h2,_⟩ | hro
  ·rw [h2] at hd; simp at hd
  ·exact hro
theorem qke {t t2:TypeId} {args:Array Operand} {tys:Array TypeId} {x y:Operand} {el ty:TypeId} {rr:Nat} {off len cap capA d l:T} {kk:IntKind} {k zz:Nat} {pat:List CK} {src:Src} {ns:List T} {ya:SV} {xh:SH} (hs:Holds Z hF s a w) (hop:o.op = .call { callee:=.builtin .copy,args:=args,argTypes:=tys }) (hargs:args = #[x,y]) (htys:tys = #[t,t2])
  (hx:opd s x = some (.one (.c3 (.vslice rr 1) off len cap))) (hy:opd s y = some ya) (hu:P.underlying t = some (.slice el)) (hsz:qao P el = some 1) (hat:qa4 rr s.heap = some (k,xh)) (hsrc:qfk s [.int kk] ya = some src) (hoff:qhK off = some (zz,l,ns))
  (hrow:qfp xh = some (pat,d)) (hxh:(∃ cs,xh = .cells rr ty cs/\capA = .lit 1)∨xh = .arr rr ty pat d capA) (hzp:zz <= pat.length)
  (hin1:(s.heap.set k (.arr rr ty pat (.c3 .xcopy d off (qb5 len src)) capA)).all (SH.inNx0 s.nx) = true) (hin2:(qc5 len src).inB s.nx = true)
  (hr:r = { needs:=qeU (.int kk) pat zz l len d ns ++ src.needs,fresh:=1,heap:=s.heap.set k (.arr rr ty pat (.c3 .xcopy d off (qb5 len src)) capA),val:=some (.one (.vint .i64 (qc5 len src))) })
  (hn:∀ c ∈ r.needs,(c.den Z).b = true):qe P Z hF s a w o r:=by
 subst hr;have hev:=hs.opd hx;have hey:=hs.opd hy;have hnA:∀ c ∈ qeU (.int kk) pat zz l len d ns,(c.den Z).b = true:=fun c hc=>hn c (jbn _ hc)
 have n4:∀ c ∈ src.needs,(c.den Z).b = true:=fun c hc=>hn c (jb4 _ hc)
 obtain ⟨o0,l0,hdl,hfit,hpk⟩:=qjw hzp hoff hnA;obtain ⟨hs0,hS⟩:=qcw (P:=P) (pat:=[.int kk]) (by simp) hs hsrc n4;obtain ⟨yb,yc,hyv⟩:=hS.shape;have hcells:=hS.cells w.heap w.drawn rfl;rw [hyv] at hey hcells;have hag:∀ m,m < s.nx->Z m = (Z.set s.nx {}) m:=fun m hm=>(Env.set_ne Z _ (by omega)).symm
 obtain ⟨X,hX,hXl,hXt,hm⟩:=qyE (hs:=hs) l0 hs0 hS;have hXfit:∀ row ∈ X,qX [.int kk] row:=fun row hr=>hS.fits row (by rw [hXt] at hr; exact jb7 hr)
 obtain ⟨hk,hreg⟩:=qZ hat;obtain ⟨hO,hd,hst,hsub,hwi⟩:=hs.hp;obtain ⟨t1,t2',td,tu,tx,tss⟩:=qaz hst hk;obtain ⟨b,c0,g1,g2,g3,g4,g5⟩:=qvs hs.gd hrow hreg hxh tx hdl;have hXL:X.length <= (len.den Z).i.toNat:=by rw [hXl]; exact Nat.min_le_right _ _
 have hdn:(T.den Z (.c3 .xcopy d off (qb5 len src))).d = qcU (d.den Z).d (off.den Z).i.toNat X:=by
  rw [<- hX]; rfl
 have hsz1:(P.info? el).map (·.size) = some 1:=by
  obtain ⟨i,hi,his⟩:=qic hsz;rw [hi]; simp [his]
 have hret:SV.den (Z.set s.nx {}) (.one (.vint .i64 (qc5 len src))) = .int .i64 (X.length:Int):=by
  simp only [SV.den,T.den,O1.den];rw [<- T.den_congr hag _ hin2,hm]
 have hle:Hp.le t1 (Hp.union hF hO):=Hp.le_trans (tu ▸ Hp.le_left t1 t2') (Hp.le_right hd);have hwb:=hsub _ _ (hle _ _ g2);by_cases h0:X.length = 0
 ·have hXn:X = []:=jc1 h0
  have hdd:qcU (d.den Z).d (off.den Z).i.toNat X = (d.den Z).d:=by
   rw [hXn];cases (d.den Z).d with
   | nil=>rfl
   | cons r0 rest=>simp [qcU,qba]
  have hx':SH.den Z (.arr rr ty pat (.c3 .xcopy d off (qb5 len src)) capA) t1:=by
   refine .inr ⟨b,c0,g1,g2,g3,?_,?_⟩
   ·rw [hdn,hdd]; exact g4
   ·rw [hdn,hdd]; exact g5
  refine ⟨[{}],w,rfl,by simp [U.good,Value.oneCell'],qt.congr ⟨hO,hd,by rw [tu]; exact qcO hk tss td hx',hsub,hwi⟩ (qdu hin1) hag,?_,fun h=>by cases h⟩;simp only [Ran,qr,hret,h0];have hrun:=run_copy_none (P:=P) w t t2 o.type el (qj (Z rr).r (off.den Z).i.toNat) yb (len.den Z).i.toNat (cap.den Z).i.toNat (src.len.den Z).i.toNat yc hu hsz1 (by rw [<- hXl,h0]);have hev':a.eval x = .slice (qj (Z rr).r (off.den Z).i.toNat) (len.den Z).i.toNat (cap.den Z).i.toNat:=by rw [hev]; simp [SV.den,T.den,O3.den]
  simp [execOp,hop,resolve,invoke,builtin,hargs,htys,hev',hey,hrun,goInt]
 ·have hM:X.length <= (src.len.den Z).i.toNat:=by rw [hXl]; exact Nat.min_le_left _ _
  have hsl:=qeR (pat:=[CK.int kk]) rfl hS.fits;cases yb with
  | none =>
   exfalso;have hfl0:qp (src.d.den Z).d = []:=by
    simp [Builtin.firstCells] at hcells
    first | exact hcells | exact hcells.symm
   have:=hsl.1;rw [hfl0,hS.len,jcm] at this;omega
  | some ad =>
   have hfX:=qeR (pat:=[CK.int kk]) rfl hXfit;have hsrcc:∀ j v,(qp X)[j]? = some v->w.cell? (ad.add j) = some v:=fun j v hv=>by
    refine hS.read ad yc hyv j v ?_;rw [<- hv,hsl.2,hfX.2,hXt,jbe];have:j < X.length:=by rw [<- hfX.1]; exact (jal.1 hv).1
    simp [this]
   have hc0:pat.length <= c0.size:=by
    rw [g3];have h1:1 <= (capA.den Z).i.toNat:=by omega
    have:=jby pat.length h1;omega
   have hgoodX:∀ v ∈ qp X,v.oneCell' = true:=fun v hv=>by
    have hg:=T.den_good hs.gd (qb5 len src);rw [U.good,hX] at hg;obtain ⟨row,hr,hv⟩:=jd1.1 hv;exact hg.2 row hr v hv
   have hrun:=run_copy_row (P:=P) w t t2 o.type el b (off.den Z).i.toNat (len.den Z).i.toNat (cap.den Z).i.toNat ad (src.len.den Z).i.toNat yc c0 ty (qp X) hu hsz1 hwb (by rw [hfX.1,hXl]) hsrcc (by rw [hfX.1]; omega) hgoodX;have hwr:qhf c0 (c0.toList.take (off.den Z).i.toNat ++ qp X ++ c0.toList.drop ((off.den Z).i.toNat + (qp X).length)).toArray (off.den Z).i.toNat (qp X):=by
    have hb:(off.den Z).i.toNat + (qp X).length <= c0.size:=by rw [hfX.1]; omega
    refine ⟨by simp; omega,fun j=>?_⟩;have:=qcP (row:=c0.toList) (c:=(off.den Z).i.toNat) (vs:=qp X) (by simpa using hb) j;simp only [qba] at this;rw [jcu,this];simp
   generalize hc1:(c0.toList.take (off.den Z).i.toNat ++ qp X ++ c0.toList.drop ((off.den Z).i.toNat + (qp X).length)).toArray = c1 at hrun hwr;have hset:(w.setRow b c1).heap[b]? = some (.cells c1 ty (0,0)):=setRow_heap w b c0 _ ty (0,0) hwb;have hoth:∀ b',b' ≠ b->(w.setRow b c1).heap[b']? = w.heap[b']?:=fun b' hne=>by
    simp only [World.setRow,jct];rw [jaf (fun h=>hne h.symm)]
   have hx':SH.den Z (.arr rr ty pat (.c3 .xcopy d off (qb5 len src)) capA) (Hp.upd t1 b (.cells c1 ty (0,0))):=by
    refine .inr ⟨b,c1,g1,by simp [Hp.upd],by rw [hwr.1,g3],?_,?_⟩
    ·rw [hdn,qtt]; exact g4
    ·rw [hdn]; exact qpX g5 hXfit (by omega) (fun i hi=>hpk i (by omega)) hwr
   have hbase:=qt.wrote hd hsub hwi hk td tu tss g2 hx' hset hoth ⟨rfl,rfl⟩;refine ⟨[{}],_,rfl,by simp [U.good,Value.oneCell'],qt.congr hbase (qdu hin1) hag,?_,fun h=>by cases h⟩;simp only [Ran,qr,hret];have hev':a.eval x = .slice (some ⟨b,(off.den Z).i.toNat,none⟩) (len.den Z).i.toNat (cap.den Z).i.toNat:=by rw [hev]; simp [SV.den,T.den,O3.den,g1,qj]
   rw [hfX.1] at hrun;simp [execOp,hop,resolve,invoke,builtin,hargs,htys,hev',hey,hrun,goInt,hfX.1]
theorem quS {t t2:TypeId} {xa ya:SV} {args:Array Operand} {tys:Array TypeId} {x y:Operand} (hs:Holds Z hF s a w) (hop:o.op = .call { callee:=.builtin .copy,args:=args,argTypes:=tys }) (hargs:args = #[x,y]) (htys:tys = #[t,t2])
  (hx:opd s x = some xa) (hy:opd s y = some ya) (h:qjp P s t xa ya = some r) (hn:∀ c ∈ r.needs,(c.den Z).b = true):qe P Z hF s a w o r:=by
 unfold qjp at h;split at h
 ·rename_i el rg p off len cap hu
  split at h
  ·rename_i z hz hsz
   split at h
   ·rename_i kk k xh src zz l ns hkz hat hsrc hoff
    rw [hkz] at hsrc;obtain ⟨_,hreg⟩:=qZ hat;split at h
    ·rename_i pat d rr ty cs _ hrow
     split at h
     ·rename_i hc
      simp only [jad] at hc;obtain ⟨⟨⟨⟨hp1,hzp⟩,_⟩,hin1⟩,hin2⟩:=hc;have hp1:=Nat.eq_of_beq_eq_true hp1;subst hp1;simp only [SH.reg,jaa] at hreg; subst hreg;simp only [jaa] at h;exact qke hs hop hargs htys hx hy hu hsz hat hsrc hoff hrow (.inl ⟨cs,rfl,rfl⟩) (jd3 hzp) hin1 hin2 h.symm hn
     ·cases h
    ·rename_i pat d rr ty pat' d' cap' _ hrow
     split at h
     ·rename_i hc
      simp only [jad] at hc;obtain ⟨⟨⟨⟨hp1,hzp⟩,_⟩,hin1⟩,hin2⟩:=hc;have hp1:=Nat.eq_of_beq_eq_true hp1;subst hp1;simp only [SH.reg,jaa] at hreg; subst hreg;have hrow':=hrow;simp only [qfp,jaa,jam] at hrow';obtain ⟨rfl,rfl⟩:=hrow';simp only [jaa] at h;exact qke hs hop hargs htys hx hy hu hsz hat hsrc hoff hrow (.inr rfl) (jd3 hzp) hin1 hin2 h.symm hn
     ·cases h
    ·cases h
   ·cases h
  ·cases h
 ·cases h
theorem qbE {α:Type} {l:Array α} {x y:α} (h:l.toList = [x,y]):l = #[x,y]:=by cases l; simp_all
theorem qgb {α:Type} {l:Array α} {x:α} (h:l.toList = [x]):l = #[x]:=by cases l; simp_all
theorem qny {g R:Nat} (h:((T.c1 (.isg g) (.var R)).den Z).b = true):(Z R).r = some ⟨g,0,none⟩:=jba h
theorem qh1 {ip:List (Nat × Nat)} (hs:Holds Z hF s a w) (h:qmj P ip s o = some r) (hn:∀ c ∈ r.needs,(c.den Z).b = true) (hsc:r.fresh = 0∨s.scopedEH = true):qe P Z hF s a w o r:=by
 unfold qmj at h;split at h
 ·rename_i t g hop
  have hev:a.eval (.global g) = .pointer (some ⟨g,0,none⟩):=rfl;split at h
  ·rename_i R ag n hR hag hsz
   split at h
   ·rename_i k y hf
    obtain ⟨H,hsub,hro,hreg⟩:=hs.found hf;split at h
    ·rename_i cs needs hrd
     split at h
     ·rename_i hagt
      simp only [jaa] at h; subst h; subst hagt;have hg:=qny (hn _ (jac ..));obtain ⟨hl,b,off,c',ty,fr,h1,h2,h3⟩:=qdU hrd hro hreg fun c hc=>hn c (jab _ hc)
      rw [hg] at h1;simp only [jaa,Addr.mk.injEq] at h1;obtain ⟨rfl,rfl,_⟩:=h1;refine qe.quiet hs ?_;have hrun:=qcZ (P:=P) (w:=w) hag hsz (hsub _ _ h2) (by simp [qa,hl]) h3 (by simp);simp [T.den,O0.den] at hrun;simp [execOp,hop,hev,Instr.loadAt,Instr.sureAddr,hrun,SV.den]
     ·rename_i hagf
      split at h
      ·rename_i t' _
       simp only [jaa] at h; subst h;have hg:=qny (hn _ (jac ..));obtain ⟨hl,b,off,c',ty,fr,h1,h2,h3⟩:=qdU hrd hro hreg fun c hc=>hn c (jab _ hc)
       rw [hg] at h1;simp only [jaa,Addr.mk.injEq] at h1;obtain ⟨rfl,rfl,_⟩:=h1;refine qe.quiet hs ?_;have hagf':ag = false:=by simpa using hagf
       have hrun:=qcZ (P:=P) (w:=w) hag hsz (hsub _ _ h2) (by rw [<- hl]; simp [qa]) h3 (fun _=>by rw [<- hl]; rfl);subst hagf';simp [T.den,O0.den] at hrun;simp [execOp,hop,hev,Instr.loadAt,Instr.sureAddr,hrun,qa,SV.den]
      ·simp at h
    ·simp at h
   ·simp at h
  ·simp at h
 ·rename_i t g i hop
  have hev:a.eval (.global g) = .pointer (some ⟨g,0,none⟩):=rfl;split at h
  ·rename_i R m el k j hR hu hi
   have hei:=hs.opd hi;split at h
   ·rename_i n hsz
    simp only [jaa] at h; subst h;have hg:=qny (hn _ (jac ..));have h0:=qz (hn _ (jab _ (jac ..)));have h1:=hn _ (jab _ (jab _ (jac ..)));rw [qT _ _ _ (by simp)] at h1;have h1:(j.den Z).i < (m:Int):=jba h1;refine qe.quiet hs ?_;simp only [SV.den,T.den,O1.den] at hei ⊢;have hcond:0 <= (j.den Z).i/\(j.den Z).i < (m:Int):=⟨h0,h1⟩;simp [execOp,hop,hev,hei,Instr.indexAt,Instr.sureAddr,asIntOf,qy hu,qaW hsz,hcond,hg,qj,Addr.add];exact fun h=>h.symm
   ·simp at h
  ·simp at h
 ·exact qrh hs h hn hsc
theorem qrF {t ty el:TypeId} {i:TypeInfo} {z:Value} {pat:List CK} {base:Option Addr} {cap n m:Nat} {d dd:List (List Value)} {y:Value}
  (hX:SrcOk (P:=P) w pat (.slice base n cap) d n) (hS:SrcOk (P:=P) w pat y dd m) (hg:cap < n + m) (ht:P.underlying t = some (.slice el)) (hi:P.info? el = some i) (hz:i.zero = some z) (hzs:z.cells.size = i.size) (hp:pat.length = i.size) (hp0:0 < i.size) (hb0:0 < i.bytes)
  (hb:(n + m) * i.bytes <= 140737488355328) :
  ∃ G ob,(Builtin.append_ #[t,t] ty #[.slice base n cap,y]).run P w = .ok (.slice (some ⟨w.heap.size,0,none⟩) (n + m) G) (w.drew.alloc (.cells ob el))/\ob.size = G * pat.length/\n + m <= G/\qaA ob 0 pat (d ++ dd):=by
 obtain ⟨yb,yc,rfl⟩:=hS.shape;have hlen:∀ w':World,(Builtin.lenOf (.slice yb m yc)).run P w' = .ok m w':=fun _=>rfl
 have hcD:(Builtin.firstCells i.size m (.slice yb m yc)).run P w.drew = .ok (qp dd).toArray w.drew:=by
  have:=hS.cells w.heap (w.drawn + 1) rfl
  rwa [hp] at this
 have hold:(Builtin.firstCells i.size n (.slice base n cap)).run P w.drew = .ok (qp d).toArray w.drew:=by
  have:=hX.cells w.heap (w.drawn + 1) rfl
  rwa [hp] at this
 have hdl:=hS.len;have hdn:=hX.len;have hfl:(qp dd).length = m * i.size:=by rw [<- hdl]; exact qds (fun row hr=>by rw [(hS.fits row hr).1,hp])
 have hfd:(qp d).length = n * i.size:=by rw [<- hdn]; exact qds (fun row hr=>by rw [(hX.fits row hr).1,hp])
 have hfit:=growslice_fits hg hb;have hge:=grownCap_ge w (n + m) cap el;have hn:¬ (n + m <= cap):=by omega
 have h63:n + m <= 140737488355328:=jdm (by have:=Nat.mul_le_mul_left (n + m) hb0; omega) hb;have h63':¬ (9223372036854775807 < ((n:Int) + (m:Int))):=by omega
 have h48':¬ (281474976710656 < Builtin.nextslicecap (n + m) cap * i.bytes):=by omega
 let G:=grownCap w (n + m) cap el
 let ob:Array Value:=((qp d ++ qp dd).toArray ++ Builtin.zeroCells z.cells (G - (n + m)))
 refine ⟨G,ob,?_,?_,hge,?_⟩
 ·simp [Builtin.append_,run_underlying ht,sizeOf,typeInfo,zeroValue,hi,hz,hlen,hn,h63',h48',Question.forced,hcD,hold,newRow,grownCap,ob,G,qj]
  congr 2
  apply jb6;simp [jbv]
 ·simp only [ob,jdy,jef,jav,hfd,hfl,size_zeroCells,hzs,hp,<- jbq]
  congr 1
  simp only [G]; omega
 ·refine qbV (fun row hr=>?_) (fun j v hv=>?_)
  ·rcases jax.1 hr with h | h
   ·exact hX.fits row h
   ·exact hS.fits row h
  ·rw [qhj] at hv
   have hj:j < (qp d ++ qp dd).length:=by
    rcases jbt j (qp d ++ qp dd).length with h' | h'
    ·exact h'
    ·rw [jap h'] at hv; cases hv
   simp only [ob,jbb];rw [jda (by simpa using hj)];simpa using hv
theorem qwm {args:Array Operand} {tys:Array TypeId} {x y:Operand} {t:TypeId} {xa ya:SV} (hs:Holds Z hF s a w) (hop:o.op = .call { callee:=.builtin .append,args,argTypes:=tys }) (hargs:args = #[x,y]) (htys:tys = #[t,t]) (hx:opd s x = some xa) (hy:opd s y = some ya) (hsc:s.scopedEH = true)
  (h:qiy P s t xa ya = some r) (hn:∀ c ∈ r.needs,(c.den Z).b = true):qe P Z hF s a w o r:=by
 have hex:=hs.opd hx;have hey:=hs.opd hy;unfold qiy at h;split at h
 ·rename_i el rr p off len cap hu
  split at h
  ·rename_i z n bz hz hsz hbz
   split at h
   ·rename_i hchk
    simp only [jad,ja6] at hchk;have hzl:=Nat.eq_of_beq_eq_true hchk.1.1;split at h
    ·rename_i sx sy hsx hsy
     split at h
     ·simp at h
     ·rename_i hin
      simp only [jay,jbp,jad] at hin;simp only [jaa] at h; subst h;obtain ⟨i,v,hi,hiz,hzc⟩:=qcM (Z:=Z) hz;have his:i.size = n:=by simpa [qao,hi] using hsz
      have hib:i.bytes = bz:=by simpa [qdp,hi] using hbz
      obtain ⟨hx0,hX⟩:=qcw (P:=P) (by simp [hzl]; omega) hs hsx (fun c hc=>hn c (by simp [hc]));obtain ⟨hy0,hY⟩:=qcw (P:=P) (by simp [hzl]; omega) hs hsy (fun c hc=>hn c (by simp [hc]));have n1:=qew (hn (qs .eql len sx.len) (by simp));have n2:=qew (hn (qs .eql cap len) (by simp));have n3:=qaZ (hn (qs .leq (.lit 1) sy.len) (by simp));have n4:=qaZ (hn (qs .leq (.tims (.lit bz) (qaI len sy.len)) (.lit 140737488355328)) (by simp));simp only [T.den,O0.den,O2.den,qaX] at n3 n4;have hval:SV.den Z (.one (.c3 (.vslice rr p) off len cap)) = .slice (qj (Z rr).r ((off.den Z).i.toNat * p)) (sx.len.den Z).i.toNat (cap.den Z).i.toNat:=by
       simp only [SV.den,T.den,O3.den,n1]
      rw [hval] at hX hex;have hbb:((sx.len.den Z).i.toNat + (sy.len.den Z).i.toNat) * i.bytes <= 140737488355328:=by
       rw [hib];have e:(((((sx.len.den Z).i.toNat + (sy.len.den Z).i.toNat) * bz:Nat)):Int) = (bz:Int) * ((sx.len.den Z).i + (sy.len.den Z).i):=by
        rw [jer,jd8,jb9 hx0,jb9 hy0,jem]
       rw [n1] at n4;omega
      obtain ⟨G,ob,hrun,g1,g2,g3⟩:=qrF (P:=P) (ty:=o.type) hX hY (by omega) hu hi hiz (by rw [hzc,his]; simp [qa,hzl]) (by simp [hzl,his]) (by omega) (by omega) hbb
      let u1:U:={ r:=some ⟨w.heap.size,0,none⟩ }
      let u2:U:={ i:=(G:Int) }
      have hag:∀ m,m < s.nx->Z m = ((Z.set s.nx u1).set (s.nx + 1) u2) m:=fun m hm=>by
       rw [Env.set_ne _ _ (by omega),Env.set_ne _ _ (by omega)]
      have hsh:s.heap.all (SH.inB s.nx) = true:=by
       simp only [S.scopedEH,jad] at hsc; exact hsc.2
      have e1:((Z.set s.nx u1).set (s.nx + 1) u2) s.nx = u1:=by rw [Env.set_ne _ _ (by omega),Env.set_same]
      have e2:((Z.set s.nx u1).set (s.nx + 1) u2) (s.nx + 1) = u2:=Env.set_same ..;have hd':((qgU sx.d sy.d).den ((Z.set s.nx u1).set (s.nx + 1) u2)).d = (sx.d.den Z).d ++ (sy.d.den Z).d:=by
       rw [<- T.den_congr hag _ hin.1,qow]
      have hl':((qaI len sy.len).den ((Z.set s.nx u1).set (s.nx + 1) u2)).i.toNat = (sx.len.den Z).i.toNat + (sy.len.den Z).i.toNat:=by
       rw [<- T.den_congr hag _ hin.2,qaX,n1]; omega
      have lx:=hX.len;have ly:=hY.len;refine ⟨[u1,u2],w.drew.alloc (.cells ob el),rfl,by simp [U.good,u1,u2,Value.oneCell'],?_,?_,fun h=>by cases h⟩
      ·refine qt.new (n:=s.nx) (d:=w.drawn + 1) hs.hp hsh hag (.inr ⟨w.heap.size,ob,?_,by simp [Hp.one],?_,?_,?_⟩)
       ·simp only [qr]; rw [e1]
       ·simp only [qr,T.den]; rw [e2]; simp [u2,g1]
       ·simp only [qr,T.den]; rw [e2,hd']; simp only [u2,jav,lx,ly]; omega
       ·simp only [qr]; rw [hd']; exact g3
      ·have hv:SV.den ((Z.set s.nx u1).set (s.nx + 1) u2) (.one (.vslice s.nx (.lit 0) (qaI len sy.len) (.var (s.nx + 1)) n)) = .slice (some ⟨w.heap.size,0,none⟩) ((sx.len.den Z).i.toNat + (sy.len.den Z).i.toNat) G:=by
        simp only [SV.den,T.den,O0.den,O3.den,hl',e1,e2,u1,u2];simp [qj]
       simp only [Ran,qr,hv];simp [execOp,hop,resolve,invoke,builtin,hargs,htys,hex,hey,hrun]
    ·simp at h
   ·simp at h
  ·simp at h
 ·simp at h
theorem qrX {ip:List (Nat × Nat)} (hs:Holds Z hF s a w) (h:qtm P ip s o = some r) (hn:∀ c ∈ r.needs,(c.den Z).b = true) (hsc:r.fresh = 0∨s.scopedEH = true):qe P Z hF s a w o r:=by
 unfold qtm at h;split at h
 ·rename_i args tys hop
  split at h
  ·split at h
   ·rename_i x y t t2 hargs htys
    split at h
    ·rename_i ht
     have ht:=Nat.eq_of_beq_eq_true ht;subst ht;split at h
     ·rename_i xa ya hx hy
      exact qvB hs hop (qbE hargs) (qbE htys) hx hy h hn
     ·simp at h
    ·simp at h
   ·simp at h
  ·split at h
   ·rename_i r' hr'
    simp only [jaa] at h; subst h;exact qh1 hs hr' hn hsc
   ·split at h
    ·rename_i x y t t2 hargs htys
     split at h
     ·rename_i ht
      have ht:=Nat.eq_of_beq_eq_true ht;subst ht;split at h
      ·rename_i xa ya hx hy
       have h2:r.fresh = 2:=by
        unfold qiy at h;split at h
        ·split at h
         ·split at h
          ·split at h
           ·split at h
            ·simp at h
            ·simp only [jaa] at h; subst h; rfl
           ·simp at h
          ·simp at h
         ·simp at h
        ·simp at h
       exact qwm hs hop (qbE hargs) (qbE htys) hx hy (hsc.resolve_left (by omega)) h hn
      ·simp at h
     ·simp at h
    ·simp at h
 ·rename_i args tys hop
  split at h
  ·rename_i x t hargs htys
   split at h
   ·rename_i xa hx
    exact qtK hs hop (qgb hargs) (qgb htys) hx h hn
   ·simp at h
  ·simp at h
 ·rename_i args tys hop
  split at h
  ·rename_i x y t t2 hargs htys
   split at h
   ·rename_i xa ya hx hy
    split at h
    ·rename_i r' hr'
     simp only [jaa] at h; subst h;exact qws hs hop (qbE hargs) (qbE htys) hx hy hr' hn
    ·exact quS hs hop (qbE hargs) (qbE htys) hx hy h hn
   ·simp at h
  ·simp at h
 ·exact qh1 hs h hn hsc
theorem qpp (ip:List (Nat × Nat)) (o:Oper) (hs:Holds Z hF s a w):Holds Z hF (qfc ip s o) a w/\(qfc ip s o).nx = s.nx/\(qfc ip s o).ro = s.ro/\(qfc ip s o).nt = s.nt:=by
 unfold qfc
 repeat' split
 all_goals first | exact ⟨hs,rfl,rfl,rfl⟩ | skip
 rename_i rg p off len cap hx _ k rr ty pat d cap' hat;obtain ⟨hk,hreg⟩:=qZ hat;obtain ⟨hO,hd,hst,hsub,hwi⟩:=hs.hp;obtain ⟨t1,t2,td,tu,tx,tss⟩:=qaz hst hk;refine ⟨⟨hs.gd,hs.nt,hs.df,hs.env,hs.ro,⟨hO,hd,?_,hsub,hwi⟩,hs.pc,hs.vw⟩,rfl,rfl,rfl⟩;rw [tu];refine qcO hk tss td ?_;have htake:((T.dtake d len).den Z).d = (d.den Z).d.take (len.den Z).i.toNat:=rfl;rcases tx with ⟨h1,h2,h3⟩ | ⟨b,c,h1,h2,h3,h4,h5⟩
 ·exact .inl ⟨h1,by rw [htake,h2]; simp,h3⟩
 ·refine .inr ⟨b,c,h1,h2,h3,?_,fun i row hi=>h5 i row ?_⟩
  ·rw [htake,jbc]; omega
  ·rw [htake,jbe] at hi; split at hi
   ·exact hi
   ·cases hi
end Go.Eng
namespace Go.Eng
open Go
variable {P:Program} {Z:Env} {hF:Fr} {s:S} {a:Act} {w:World} {o:Oper}
def qdI (mt:MT):List ME->List Int->Nat->Option (Nat × Value)
 | [],_,_=>none
 | x :: l,k,i=>if x.k == k then some (i,mkV mt.vagg x.v) else qdI mt l k (i + 1)
theorem qfY {mt:MT}:∀ {l:List ME} {k:List Int} {i:Nat},qdJ l k = false->qdI mt l k i = none
 | [],_,_,_=>rfl
 | x :: l,k,i,h=>by
  simp only [qdJ,List.any_cons,jd9] at h;simp only [qdI,h.1,jan,ja3];exact qfY h.2
theorem qv3 {l:List ME} {k:List Int} {z:List Value} (h:qdJ l k = false):qep l k z = z:=by
 unfold qep;rw [List.find?_eq_none.2];intro x hx;have:=List.any_eq_false.1 h x hx;simpa using this
theorem qfQ {mt:MT}:∀ {l:List ME} {k:List Int} {i:Nat},qdJ l k = true->∃ j x,l[j]? = some x/\x.k = k/\qdI mt l k i = some (i + j,mkV mt.vagg x.v)/\∀ z,qep l k z = x.v
 | [],_,_,h=>by simp [qdJ] at h
 | x :: l,k,i,h=>by
  cases hx:(x.k == k) with
  | true=>exact ⟨0,x,rfl,by simpa using hx,by simp only [qdI,hx,ja5,jcq],fun z=>by simp [qep,hx]⟩
  | false =>
   have h':qdJ l k = true:=by simpa [qdJ,hx] using h
   obtain ⟨j,y,h1,h2,h3,h4⟩:=qfQ (mt:=mt) (i:=i + 1) h';refine ⟨j + 1,y,by simpa using h1,h2,?_,fun z=>?_⟩
   ·simp only [qdI,hx,jan,ja3,h3,jaa,jam,and_true]; omega
   ·rw [<- h4 z]; simp [qep,hx]
theorem ql7 {l:List ME} {c:Nat} {mt:MT} (h:MWf mt l c) {i j:Nat} {x y:ME} (hi:l[i]? = some x) (hj:l[j]? = some y) (hk:x.k = y.k):i = j:=by
 rcases Nat.lt_trichotomy i j with hlt | he | hlt
 ·exact absurd hk ((jeh.1 h.2) i j (jal.1 hi).1 (jal.1 hj).1 hlt |>.2 |> fun g=>by
   rw [(jal.1 hi).2,(jal.1 hj).2] at g; exact g)
 ·exact he
 ·exact absurd hk.symm ((jeh.1 h.2) j i (jal.1 hj).1 (jal.1 hi).1 hlt |>.2 |> fun g=>by
   rw [(jal.1 hi).2,(jal.1 hj).2] at g; exact g)
theorem qte {mt:MT} {l:List ME} {c j:Nat} {x:ME} {k:List Int} {v:List Value} (h:MWf mt l c) (hj:l[j]? = some x) (hk:x.k = k) :
  (l.map mt.ent).toArray.modify j (fun e=>{ e with key:=mkV mt.kagg (qaJ mt.kks k),val:=mkV mt.vagg v }) = ((l.map fun x=>if x.k = k then { x with v:=v } else x).map mt.ent).toArray:=by
 apply jb6;rw [Array.toList_modify];refine jbo fun i=>?_
 simp only [List.getElem?_modify,jau];cases hi:l[i]? with
 | none=>simp
 | some y =>
  simp only [ja9,Option.map_eq_map,jaa];by_cases hij:j = i
  ·subst hij
   rw [hj] at hi; cases hi;simp [hk,MT.ent]
  ·rw [jaf hij]
   have:¬ y.k = k:=fun hyk=>hij (ql7 h hj hi (hk.trans hyk.symm))
   simp [this]
theorem qvm {mt:MT} {l:List ME} {c j:Nat} {x:ME} {k:List Int} (h:MWf mt l c) (hj:l[j]? = some x) (hk:x.k = k) :
  (l.map mt.ent).toArray.eraseIdxIfInBounds j = ((qju l k).map mt.ent).toArray:=by
 have hlt:=(jal.1 hj).1;have hx:=(jal.1 hj).2;have hs:j < (l.map mt.ent).toArray.size:=by simpa using hlt
 rw [Array.eraseIdxIfInBounds,dif_pos hs];apply jb6;rw [Array.toList_eraseIdx];simp only [jcp];rw [jd5,<- jcz,<- List.map_drop,<- jcl]
 congr 1
 have hd:∀ y ∈ l.take j,y.k ≠ k:=fun y hy hyk=>by
  obtain ⟨i,hi,rfl⟩:=jbz hy;rw [jbc] at hi;rw [List.getElem_take] at hyk;have:=ql7 h (jae (show i < l.length by omega)) hj (hyk.trans hk.symm);omega
 have hd2:∀ y ∈ l.drop (j + 1),y.k ≠ k:=fun y hy hyk=>by
  obtain ⟨i,hi,rfl⟩:=jbz hy;rw [jcr] at hi;rw [List.getElem_drop] at hyk;have:=ql7 h (jae (show j + 1 + i < l.length by omega)) hj (hyk.trans hk.symm);omega
 conv=>rhs; rw [<- List.take_append_drop j l,jcb hlt]
 unfold qju;rw [jch,jci,hx];simp only [hk,ne_eq,not_true_eq_false,decide_false,jan,ja3];rw [jdt.2 (fun y hy=>by simpa using hd y hy),jdt.2 (fun y hy=>by simpa using hd2 y hy)]
theorem qwM {l:List ME} {k:List Int} (h:qdJ l k = false):qju l k = l:=by
 unfold qju;rw [jdt];intro x hx;have:=List.any_eq_false.1 h x hx;simpa using this
structure KeyOk (P:Program) (kt:TypeId) (ka:Bool) (ks:List IntKind):Prop where
 check:∀ (em:Bool) (k:List Int) (w:World),k.length = ks.length->(Instr.checkKey em 10000 kt (mkV ka (qaJ ks k))).run P w = .ok () w
 find:∀ (mt:MT) (k:List Int) (l:List ME) (w:World),mt.kagg = ka->mt.kks = ks->k.length = ks.length->(∀ x ∈ l,x.k.length = ks.length)->(Instr.findKey kt (mkV ka (qaJ ks k)) (l.map mt.ent)).run P w = .ok (qdI mt l k 0) w
 stays:∀ (k:List Int) (w:World),k.length = ks.length->(Instr.keyThatStays (mkV ka (qaJ ks k)) (mkV ka (qaJ ks k))).run P w = .ok (mkV ka (qaJ ks k)) w
theorem qkz {k:List Int} (h:k.length = 1):∃ z,k = [z]:=by
 match k,h with
 | [z],_=>exact ⟨z,rfl⟩
theorem qhe {n:Nat} {k:IntKind} {l:List Int} (h:l.length = n):qaJ (List.replicate n k) l = l.map (Value.int k):=by
 subst h
 induction l with
 | nil=>rfl
 | cons x l ih=>simp only [qaJ] at ih ⊢; simp [List.replicate_succ,ih]
theorem qj6 {d:Nat} {k:IntKind} {z:Int}:Instr.sameBits d (.int k z) (.int k z) = true:=by
 cases d <;> simp [Instr.sameBits]
theorem qpv {d:Nat} {k:IntKind} {l:List Int}:Instr.sameBits (d + 1) (.agg (l.map (Value.int k)).toArray) (.agg (l.map (Value.int k)).toArray) = true:=by
 simp only [Instr.sameBits,beq_self_eq_true,Bool.true_and,jcp];rw [jao];intro x hx;obtain ⟨i,hi,rfl⟩:=jbz hx;simp [qj6]
theorem qvV {kt:TypeId} {k:IntKind} (hu:P.underlying kt = some (.int k)):KeyOk P kt false [k]:=by
 refine ⟨fun em z w hz=>?_,fun mt z l w hk1 hk2 hz hl=>?_,fun z w hz=>?_⟩
 ·obtain ⟨z,rfl⟩:=qkz hz
  rw [show (10000:Nat) = 9999 + 1 from rfl,Instr.checkKey];simp [run_underlying hu,mkV,qaJ]
 ·obtain ⟨z,rfl⟩:=qkz hz
  unfold Instr.findKey;have:∀ (l:List ME) (i:Nat),(∀ x ∈ l,x.k.length = 1)->Instr.findNow (.int k) (mkV false (qaJ [k] [z])) (l.map mt.ent) i = some (qdI mt l [z] i):=by
   intro l
   induction l with
   | nil=>intro i _; rfl
   | cons x l ih =>
    intro i hl;obtain ⟨y,hy⟩:=qkz (hl x (jac ..));have hk:(mt.ent x).key = .int k y:=by simp [MT.ent,hk1,hk2,hy,mkV,qaJ]
    have hv:(mt.ent x).val = mkV mt.vagg x.v:=rfl;simp only [jaq,Instr.findNow,hk,hv]
    show (match (if k = k then some (z == y) else none) with | some true=>_ | some false=>_ | none=>_) = _
    rw [jag rfl];simp only [qdI,hy];by_cases h:z = y
    ·subst h; simp
    ·have h1:(z == y) = false:=by simpa using h
     have h2:(([y]:List Int) == [z]) = false:=by simpa using fun e=>h e.symm
     rw [h1,h2];simp only [jan,ja3];exact ih (i + 1) fun x hx=>hl x (jab _ hx)
  simp only [Sem.run_bind,run_underlying hu,Result.andThen_ok,this l 0 hl,Sem.run_pure]
 ·obtain ⟨z,rfl⟩:=qkz hz
  simp [Instr.keyThatStays,mkV,qaJ,qj6]
theorem qwh {kt el:TypeId} {k:IntKind} {n:Nat} (hu:P.underlying kt = some (.array n el)) (he:P.underlying el = some (.int k)) (hsz:qao P el = some 1) (hag:qcB P el = some false):KeyOk P kt true (List.replicate n k):=by
 refine ⟨fun em z w hz=>?_,fun mt z l w hk1 hk2 hz hl=>?_,fun z w hz=>?_⟩
 ·rw [jcf] at hz
  rw [qhe hz,show (10000:Nat) = 9999 + 1 from rfl,Instr.checkKey];simp only [mkV,Sem.run_bind,run_underlying hu,Result.andThen_ok,qaW hsz,Std.Legacy.Range.forIn_eq_forIn_range',Std.Legacy.Range.size,jej,jeb,Nat.div_one];have hl:∀ i ∈ List.range' 0 n 1,i < n:=fun i hi=>by simpa using (List.mem_range'_1.1 hi).2
  generalize List.range' 0 n 1 = l at hl ⊢
  induction l with
  | nil=>simp
  | cons i l ih =>
   have px:=qg5 (P:=P) (k:=k) (zs:=z) hag (i:=i) (by have:=hl i (by simp); omega) w;have pe:(Instr.checkKey em 9999 el (.int k (z.getD i 0))).run P w = .ok () w:=by
    rw [show (9999:Nat) = 9998 + 1 from rfl,Instr.checkKey];simp [run_underlying he]
   have ih:=ih fun j hj=>hl j (by simp [hj])
   simp only [List.forIn_cons,Sem.run_bind,qaW hsz,px,pe,Result.andThen_ok,Sem.run_pure] at ih ⊢;exact ih
 ·rw [jcf] at hz
  have hl:∀ x ∈ l,x.k.length = n:=fun x hx=>by have:=hl x hx; rwa [jcf] at this
  have hkey:∀ x ∈ l,(mt.ent x).key = .agg (x.k.map (Value.int k)).toArray:=fun x hx=>by simp [MT.ent,hk1,hk2,mkV,qhe (hl x hx)]
  rw [qhe hz];unfold Instr.findKey;have hask:∀ (l:List ME) (i:Nat),(∀ x ∈ l,x.k.length = n)->(∀ x ∈ l,(mt.ent x).key = .agg (x.k.map (Value.int k)).toArray)->(Instr.findAsking kt (mkV true (z.map (Value.int k))) (l.map mt.ent) i).run P w = .ok (qdI mt l z i) w:=by
   intro l
   induction l with
   | nil=>intro i _ _; simp [Instr.findAsking,qdI]
   | cons x l ih =>
    intro i hl hkey;have hk:=hkey x (jac ..);have hv:(mt.ent x).val = mkV mt.vagg x.v:=rfl;have hr:=qgs (P:=P) 9998 kt el n k hu he hag hsz z x.k hz (hl x (jac ..)) w;have hkv:mkV true (z.map (Value.int k)) = .agg (z.map (Value.int k)).toArray:=rfl;simp only [jaq,Instr.findAsking,hk,hv,hkv,Op.equal,Op.maxDepth,Sem.run_bind,hr,Result.andThen_ok];simp only [qdI];rw [hkv] at ih;by_cases h:z = x.k
    ·subst h; simp
    ·have h1:(z == x.k) = false:=by simpa using h
     have h2:(x.k == z) = false:=by simpa using fun e=>h e.symm
     rw [h1,h2];simp only [jan,ja3];exact ih (i + 1) (fun x hx=>hl x (jab _ hx)) (fun x hx=>hkey x (jab _ hx))
  simp only [Sem.run_bind,run_underlying hu,Result.andThen_ok];cases l with
  | nil=>simp [Instr.findNow,qdI]
  | cons x l =>
   have:Instr.findNow (.array n el) (mkV true (z.map (Value.int k))) ((x :: l).map mt.ent) 0 = none:=by
    simp [Instr.findNow,Instr.sameNow]
   rw [this];exact hask (x :: l) 0 hl hkey
 ·rw [jcf] at hz
  rw [qhe hz];simp [Instr.keyThatStays,mkV,qpv]
theorem qyd {kt:TypeId} {ka:Bool} {ks:List IntKind} (h:qx4 P kt = some (ka,ks)):KeyOk P kt ka ks:=by
 unfold qx4 at h;split at h
 ·rename_i k hu
  simp only [jaa,jam] at h;obtain ⟨rfl,rfl⟩:=h;exact qvV hu
 ·rename_i n el hu
  split at h
  ·rename_i k he hsz hag
   simp only [jaa,jam] at h;obtain ⟨rfl,rfl⟩:=h;exact qwh hu he hsz hag
  ·cases h
 ·cases h
structure MapOk (P:Program) (t:TypeId) (mt:MT):Prop where
 ex:∃ k e,P.underlying t = some (.map k e)/\KeyOk P k mt.kagg mt.kks/\∀ (Z:Env) (w:World),(zeroValue e).run P w = .ok (mkV mt.vagg (qa Z mt.zero)) w
 one:mt.vagg = false->mt.vpat.length = 1
 fits:∀ Z:Env,qX mt.vpat (qa Z mt.zero)
theorem qwr {v:Value} (h:∀ cs,v ≠ .agg cs):v.cells = #[v]:=by
 cases v <;> first | rfl | exact absurd rfl (h _)
theorem qj8 {t:TypeId} {mt:MT} (h:mtP P t = some mt):MapOk P t mt:=by
 unfold mtP at h;split at h
 ·rename_i k e hu
  split at h
  ·rename_i ka ks va z hk hz hz2
   split at h
   ·rename_i hc
    simp only [jaa] at h; subst h;refine ⟨⟨k,e,hu,qyd hk,fun Z w=>?_⟩,fun hv=>?_,fun Z=>qi9 hz2 Z⟩
    ·obtain ⟨i,v,hi,hv,hvc⟩:=qcM (Z:=Z) hz2
     obtain ⟨v',hr,hvc'⟩:=qj7 (Z:=Z) hz2 w;have hvv:v' = v:=by
      unfold zeroValue at hr;simp [typeInfo,hi,hv] at hr;exact hr.symm
     subst hvv;rw [hr];unfold qyX at hz;simp only [hi,jei,hv] at hz
     congr 1
     by_cases hag:∃ cs,v' = .agg cs
     ·obtain ⟨cs,rfl⟩:=hag
      simp only [jaa] at hz; subst hz;simp only [Value.cells] at hvc;simp [mkV,hvc]
     ·have hag:∀ cs,v' ≠ .agg cs:=fun cs h=>hag ⟨cs,h⟩
      have hvf:va = false:=by
       revert hz
       cases v' <;> simp_all
      subst hvf;rw [qwr hag] at hvc;have:=congrArg Array.toList hvc;simp only [jcp] at this;simp [mkV,<- this]
    ·simp only at hv; subst hv
     simpa using Nat.eq_of_beq_eq_true (by simpa using hc)
   ·cases h
  ·cases h
 ·cases h
theorem qc2:∀ {l:List SH} {k m:Nat},qcS l = some (k,m)->l[k]? = some (.abs m 1003)
 | .abs n t :: l,k,m,h=>by
  simp only [qcS] at h;split at h
  ·rename_i ht
   have ht:=Nat.eq_of_beq_eq_true ht;simp only [jaa,jam] at h;obtain ⟨rfl,rfl⟩:=h;subst ht; rfl
  ·simp only [jah,jam,jc4] at h
   obtain ⟨k',m',h1,rfl,rfl⟩:=h;exact qc2 (l:=l) h1
 | .cells .. :: l,k,m,h=>by
  simp only [qcS,jah,jam,jc4] at h;obtain ⟨k',m',h1,rfl,rfl⟩:=h;exact qc2 (l:=l) h1
 | .arr .. :: l,k,m,h=>by
  simp only [qcS,jah,jam,jc4] at h;obtain ⟨k',m',h1,rfl,rfl⟩:=h;exact qc2 (l:=l) h1
 | [],k,m,h=>by simp [qcS] at h
theorem qex:∀ {l:List SH} {m:Nat},m ∈ qaF l->qcj m l = true
 | .abs n t :: l,m,h=>by
  simp only [qaF] at h;simp only [qcj,jcc];split at h
  ·rcases jar.1 h with rfl | h
   ·exact .inl (Nat.beq_refl _)
   ·exact .inr (qex h)
  ·exact .inr (qex h)
 | .cells .. :: l,m,h=>by simp only [qaF] at h; simpa [qcj] using qex h
 | .arr .. :: l,m,h=>by simp only [qaF] at h; simpa [qcj] using qex h
 | [],m,h=>by simp [qaF] at h
theorem qd4 (hs:Holds Z hF s a w) {m:Nat} (h:m ∈ qaF s.heap ++ qaF s.ro) {b:Nat} {ob:Obj} (hb:(Z m).h b = some ob):w.heap[b]? = some ob:=by
 obtain ⟨hO,hd,hst,hsub,_⟩:=hs.hp;have:(qcj m s.heap || qcj m s.ro) = true:=by
  rcases jax.1 h with h | h
  ·rw [qex h,Bool.true_or]
  ·rw [qex h,Bool.or_true]
 rcases qlz hst hs.ro this with h | h
 ·exact hsub _ _ (Hp.le_right hd _ _ (h _ _ hb))
 ·exact hsub _ _ (Hp.le_left _ _ _ _ (h _ _ hb))
theorem qlS {l:List SH} {k m:Nat} (h:qcS l = some (k,m)):m ∈ qaF l:=by
 have:∀ {l:List SH} {k m:Nat},l[k]? = some (.abs m 1003)->m ∈ qaF l:=by
  intro l
  induction l with
  | nil=>intro k m h; simp at h
  | cons x l ih =>
   intro k m h;cases k with
   | zero =>
    simp only [ja7,jaa] at h;subst h;simp [qaF]
   | succ k =>
    simp only [ja1] at h;have:=ih h;cases x with
    | abs n t =>
     simp only [qaF];split
     ·exact jab _ this
     ·exact this
    | cells=>simpa [qaF] using this
    | arr=>simpa [qaF] using this
 exact this (qc2 h)
theorem qt.repiece {heap:List SH} {n k m b:Nat} {ob ob':Obj} {w':World} {u:U} (h:qt Z hF heap w) (hsc:heap.all (SH.inB n) = true) (hk:heap[k]? = some (.abs m 1003)) (hb:(Z m).h b = some ob)
  (h1:w'.heap[b]? = some ob') (h2:∀ y,y ≠ b->w'.heap[y]? = w.heap[y]?) (hos:w'.os = w.os/\w'.output = w.output) (hu:u.h = Hp.upd (Z m).h b ob') :
  qt (Z.set n u) hF (heap.set k (.abs n 1003)) w':=by
 obtain ⟨hO,hdj,hst,hsub,hwi⟩:=h;obtain ⟨t1,t2,td,tu,tx,ts⟩:=qaz hst hk;have hle:Hp.le t1 (Hp.union hF hO):=Hp.le_trans (tu ▸ Hp.le_left t1 t2) (Hp.le_right hdj);have g2':=tx.1 _ _ hb;have hdisj:Hp.disj (Hp.upd t1 b ob') t2:=fun y=>by
  rcases td y with h | h
  ·unfold Hp.upd
   split
   ·rename_i he; subst he; rw [g2'] at h; cases h
   ·exact .inl h
  ·exact .inr h
 have hag:∀ q,q < n->Z q = (Z.set n u) q:=fun q hq=>(Env.set_ne Z _ (by omega)).symm
 refine ⟨Hp.union (Hp.upd t1 b ob') t2,?_,qcO hk (qaS hag _ ?_ _ ts) hdisj ?_,?_,⟨hos.1.trans hwi.1,hos.2.trans hwi.2⟩⟩
 ·intro y
  rcases hdj y with h | h
  ·exact .inl h
  ·right
   rw [tu] at h;simp only [Hp.union,jb3] at h ⊢;refine ⟨?_,h.2⟩;unfold Hp.upd;split
   ·rename_i he; subst he; rw [g2'] at h; cases h.1
   ·exact h.1
 ·exact jao.2 fun x hx=>jao.1 hsc x (jbk hx)
 ·simp only [SH.den,Env.set_same,hu]
  refine ⟨fun y ob hy=>?_,fun ht=>by cases ht⟩;unfold Hp.upd at hy ⊢;split at hy
  ·rename_i he; rw [jag he]; exact hy
  ·rename_i he; rw [jaf he]; exact tx.1 _ _ hy
 ·intro y ob hy
  by_cases hyb:y = b
  ·subst hyb
   have hFn:hF y = none:=(hdj y).resolve_right (by rw [tu]; simp [Hp.union,g2']);simp only [Hp.union,hFn,Hp.upd,ja5,jbg,jcj,jaa] at hy;rw [h1,hy]
  ·rw [h2 y hyb]
   refine hsub y ob ?_;rw [tu];simp only [Hp.union,Hp.upd,hyb,ja3] at hy ⊢;exact hy
theorem qnw {n:Nat} {row:List Value} (hd:(Z n).d = [row]):∀ (pat:List CK) (c:Nat),(∀ i k v,pat[i]? = some k->row[c + i]? = some v->CK.fits k v = true)->row.length = c + pat.length->qa Z (qb3 n pat c) = row.drop c
 | [],c,_,hl=>by rw [List.drop_eq_nil_of_le (by simp at hl; omega)]; rfl
 | k :: pat,c,hf,hl=>by
  simp only [jbh] at hl;have hc:c < row.length:=by omega
  have h0:=hf 0 k row[c] rfl (by rw [jcq]; exact jae hc);have ih:=qnw hd pat (c + 1) (fun i k v hi hv=>hf (i + 1) k v (by simpa using hi) (by rw [show c + (i + 1) = c + 1 + i by omega]; exact hv)) (by omega);rw [jcb hc,<- ih];have hg:row[c]? = some row[c]:=jae hc;cases k with
  | int k =>
   simp only [qb3,qa,jaq,T.den,O1.den,O2.den,O0.den,hd,qnb,jb5,jea,jbb,hg,jbi,jdv,and_true]
   revert h0
   generalize row[c] = v;intro h0;cases v <;> simp_all [CK.fits,qbK]
  | bool =>
   simp only [qb3,qa,jaq,T.den,O1.den,O2.den,O0.den,hd,qmD,jb5,jea,jbb,hg,jbi,jdv,and_true]
   revert h0
   generalize row[c] = v;intro h0;cases v <;> simp_all [CK.fits,qig]
  | any =>
   simp [qb3,qa,T.den,O2.den,O0.den,hd,qU,hg]
theorem qeF {n:Nat} {row:List Value} {pat:List CK} (hd:(Z n).d = [row]) (h:qX pat row):qa Z (qb3 n pat 0) = row:=by
 have:=qnw hd pat 0 (fun i k v hi hv=>h.2 i k v hi (by rwa [jbb] at hv)) (by rw [jbb]; exact h.1)
 rwa [List.drop_zero] at this
theorem qlG (b:Bool) (ts:List T):qdM Z (b,ts) = mkV b (qa Z ts):=by cases b <;> rfl
theorem qwQ {b:Bool} {ts:List T} {v:SV} (h:qwS b ts = some v):v.den Z = mkV b (qa Z ts):=by
 unfold qwS at h;split at h
 ·simp only [jaa] at h; subst h; rfl
 ·simp only [jaa] at h; subst h; rfl
 ·cases h
theorem qgd {ks:List IntKind} {k:List Int} (h:k.length = ks.length):qX (ks.map CK.int) (qaJ ks k):=by
 refine ⟨by simp [qaJ,h],fun c ck v hc hv=>?_⟩;simp only [jau,jah] at hc;obtain ⟨kk,hk,rfl⟩:=hc;simp only [qaJ,List.getElem?_zipWith] at hv;rw [hk] at hv;cases hz:k[c]? with
 | none=>rw [hz] at hv; simp at hv
 | some z=>rw [hz] at hv; simp at hv; subst hv; simp [CK.fits]
theorem qpe:∀ {ks:List IntKind} {ts is:List T},qfg ks ts = some is->qa Z ts = qaJ ks (qbF Z is)/\(qbF Z is).length = ks.length
 | [],[],is,h=>by simp only [qfg,jaa] at h; subst h; exact ⟨rfl,rfl⟩
 | k :: ks,t :: ts,is,h=>by
  unfold qfg at h;split at h
  ·rename_i h1 h2; cases h1
  ·rename_i k1 ks1 k' t' ts1 h1 h2
   simp only [jdv] at h1 h2;obtain ⟨rfl,rfl⟩:=h1;obtain ⟨rfl,rfl⟩:=h2;split at h
   ·rename_i hk; subst hk
    simp only [jah] at h;obtain ⟨js,hj,rfl⟩:=h;obtain ⟨e1,e2⟩:=qpe hj;refine ⟨?_,by simpa [qbF] using e2⟩;simp only [qa,jaq,T.den,O1.den,qbF,qaJ,List.zipWith_cons_cons,jdv,true_and] at e1 ⊢;exact e1
   ·cases h
  ·cases h
 | [],_ :: _,is,h=>by simp [qfg] at h
 | _ :: _,[],is,h=>by simp [qfg] at h
theorem qjO (hs:Holds Z hF s a w) {b:Bool} {x:Operand} {ts:List T} (h:qef s b x = some ts):a.eval x = mkV b (qa Z ts):=by
 unfold qef at h;split at h
 ·rename_i ts' he
  simp only [jaa] at h; subst h;rw [hs.opd he]; rfl
 ·rename_i t he
  simp only [jaa] at h; subst h;rw [hs.opd he]; rfl
 ·cases h
theorem qn9 (hs:Holds Z hF s a w) {b:Bool} {ks:List IntKind} {x:Operand} {is:List T} (h:(qef s b x).bind (qfg ks) = some is):a.eval x = mkV b (qaJ ks (qbF Z is))/\(qbF Z is).length = ks.length:=by
 rw [jaj] at h;obtain ⟨ts,h1,h2⟩:=h;obtain ⟨e1,e2⟩:=qpe (Z:=Z) h2;exact ⟨by rw [qjO hs h1,e1],e2⟩
theorem qgy {pat:List CK} {row:List Value} (h:qX pat row):∀ v ∈ row,v.oneCell' = true:=fun v hv=>by
 obtain ⟨i,hi,rfl⟩:=jbz hv;have hp:i < pat.length:=by rw [<- h.1]; exact hi
 have:=h.2 i pat[i] row[i] (jae hp) (jae hi);cases hk:pat[i] with
 | any=>rw [hk] at this; exact this
 | int k =>
  rw [hk] at this
  revert this; generalize row[i] = v; intro this
  cases v <;> simp_all [CK.fits,Value.oneCell']
 | bool =>
  rw [hk] at this
  revert this; generalize row[i] = v; intro this
  cases v <;> simp_all [CK.fits,Value.oneCell']
theorem quX {mt:MT} {l:List ME} {c:Nat} {k:List Int} {z:List Value} (h:MWf mt l c) (hz:qX mt.vpat z):qX mt.vpat (qep l k z):=by
 unfold qep;split
 ·rename_i x hx; exact (h.1 x (List.mem_of_find?_eq_some hx)).2.1
 ·exact hz
end Go.Eng
namespace Go.Eng
open Go
variable {P:Program} {Z:Env} {hF:Fr} {s:S} {a:Act} {w:World} {o:Oper}
theorem qbQ {b c:Nat} {es:Array MapEntry} (h:w.heap[b]? = some (.map es c)):(getObj b).run P w = .ok (.map es c) w:=by simp [getObj,Sem.run,h]
theorem qkh {b since stepped:Nat} {mo:Option Nat} {seen:Array Nat} (h:w.heap[b]? = some (.mapIter mo since seen stepped)):(getObj b).run P w = .ok (.mapIter mo since seen stepped) w:=by simp [getObj,Sem.run,h]
theorem qfZ {b c:Nat} {es:Array MapEntry} {ob:Obj} (h:w.heap[b]? = some (.map es c)):(setObj b ob).run P w = .ok () { w with heap:=w.heap.setIfInBounds b ob }:=by simp [setObj,Sem.run,h]
theorem qwg {b since stepped:Nat} {mo:Option Nat} {seen:Array Nat} {ob:Obj} (h:w.heap[b]? = some (.mapIter mo since seen stepped)):(setObj b ob).run P w = .ok () { w with heap:=w.heap.setIfInBounds b ob }:=by simp [setObj,Sem.run,h]
theorem qqR {b:Nat} {ob ob':Obj} (h:w.heap[b]? = some ob):(w.heap.setIfInBounds b ob')[b]? = some ob':=by
 have:=(jc8.1 h).1;simp [jdn,this]
theorem set_ne {b y:Nat} {ob':Obj} (h:y ≠ b):(w.heap.setIfInBounds b ob')[y]? = w.heap[y]?:=by
 rw [jdn];simp [Ne.symm h]
def qlt (w:World) (mt:MT) (v:Value) (l:List ME):Prop:=(v = .map none/\l = [])∨∃ b clock,v = .map (some b)/\w.heap[b]? = some (mt.obj (l,clock))/\MWf mt l clock
theorem qlt.lens {mt:MT} {v:Value} {l:List ME} (h:qlt w mt v l):∀ x ∈ l,x.k.length = mt.kks.length:=by
 rcases h with ⟨_,rfl⟩ | ⟨_,_,_,_,h⟩
 ·intro x hx; cases hx
 ·exact fun x hx=>(h.1 x hx).1
theorem qu8 {t:TypeId} {mt:MT} (hm:MapOk P t mt) {v:Value} {l:List ME} (hv:qlt w mt v l) {k:List Int} (hk:k.length = mt.kks.length) (ck:Bool) (Z:Env) :
  (Instr.lookup t v (mkV mt.kagg (qaJ mt.kks k)) ck).run P w = .ok (if ck then .tuple #[mkV mt.vagg (qep l k (qa Z mt.zero)),.bool (qdJ l k)] else mkV mt.vagg (qep l k (qa Z mt.zero))) w:=by
 obtain ⟨kt,e,hu,ko,hz⟩:=hm.ex;have hf:∀ em,(Instr.checkKey em 10000 kt (mkV mt.kagg (qaJ mt.kks k))).run P w = .ok () w:=fun em=>ko.check em k w hk
 have hfind:=ko.find mt k l w rfl rfl hk hv.lens;have hz:=hz Z w;have main:((do
   Instr.checkKey (l.map mt.ent).toArray.isEmpty 10000 kt (mkV mt.kagg (qaJ mt.kks k))
   let (v,ok) <- match <- Instr.findKey kt (mkV mt.kagg (qaJ mt.kks k)) (l.map mt.ent).toArray.toList with
    | some (_,v)=>pure (v,true)
    | none=>pure (<- zeroValue e,false)
   pure (if ck then .tuple #[v,.bool ok] else v)):Sem Value).run P w = .ok (if ck then .tuple #[mkV mt.vagg (qep l k (qa Z mt.zero)),.bool (qdJ l k)] else mkV mt.vagg (qep l k (qa Z mt.zero))) w:=by
  simp only [Sem.run_bind,hf,Result.andThen_ok,jcp,hfind];cases hh:qdJ l k with
  | false =>
   rw [qfY hh,qv3 hh];simp only [Sem.run_bind,hz,Result.andThen_ok,Sem.run_pure]
  | true =>
   obtain ⟨j,x,h1,h2,h3,h4⟩:=qfQ (mt:=mt) (i:=0) hh;rw [h3,h4];simp only [Sem.run_bind,Sem.run_pure,Result.andThen_ok]
 rcases hv with ⟨rfl,rfl⟩ | ⟨b,clock,rfl,hb,hwf⟩
 ·rw [<- main]
  simp only [Instr.lookup,Sem.run_bind,run_underlying hu,Result.andThen_ok,Sem.run_pure];rfl
 ·have hb':w.heap[b]? = some (.map (l.map mt.ent).toArray clock):=hb
  rw [<- main];simp only [Instr.lookup,Sem.run_bind,run_underlying hu,Result.andThen_ok,Sem.run_pure,qbQ hb'];rfl
theorem qto {t ty:TypeId} {mt:MT} (hm:MapOk P t mt) {v:Value} {l:List ME} (hv:qlt w mt v l):(Builtin.len_ #[t] ty #[v]).run P w = .ok (.int .i64 (l.length:Int)) w:=by
 obtain ⟨kt,e,hu,ko,hz⟩:=hm.ex;rcases hv with ⟨rfl,rfl⟩ | ⟨b,clock,rfl,hb,hwf⟩
 ·simp [Builtin.len_,run_underlying hu,goInt]
 ·have hb':w.heap[b]? = some (.map (l.map mt.ent).toArray clock):=hb
  simp [Builtin.len_,run_underlying hu,qbQ hb',goInt]
theorem qp6 {t:TypeId} {mt:MT} (hm:MapOk P t mt) {b clock:Nat} {l:List ME} (hb:w.heap[b]? = some (mt.obj (l,clock))) (hwf:MWf mt l clock) {k:List Int} (hk:k.length = mt.kks.length) {v:List Value} :
  (Instr.mapUpdate t (.map (some b)) (mkV mt.kagg (qaJ mt.kks k)) (mkV mt.vagg v)).run P w = .ok () { w with heap:=w.heap.setIfInBounds b (mt.obj (qlE l k v clock)) }:=by
 obtain ⟨kt,e,hu,ko,hz⟩:=hm.ex;have hb':w.heap[b]? = some (.map (l.map mt.ent).toArray clock):=hb;have hfind:=ko.find mt k l w rfl rfl hk (fun x hx=>(hwf.1 x hx).1);have hcheck:=ko.check false k w hk;cases hh:qdJ l k with
 | false =>
  have hp:qlE l k v clock = (l ++ [⟨k,v,clock⟩],clock + 1):=by simp [qlE,hh]
  rw [qfY hh] at hfind;simp only [Instr.mapUpdate,Sem.run_bind,run_underlying hu,Result.andThen_ok,qbQ hb',hcheck,jcp,hfind,qfZ hb',hp];simp [MT.obj,MT.ent]
 | true =>
  obtain ⟨j,x,h1,h2,h3,h4⟩:=qfQ (mt:=mt) (i:=0) hh;have hp:qlE l k v clock = (l.map fun x=>if x.k = k then { x with v:=v } else x,clock):=by simp [qlE,hh]
  rw [h3,jbb] at hfind;have hkey:((((l.map mt.ent).toArray[j]?).map (·.key)).getD (mkV mt.kagg (qaJ mt.kks k))) = mkV mt.kagg (qaJ mt.kks k):=by
   simp [h1,MT.ent,h2]
  simp only [Instr.mapUpdate,Sem.run_bind,run_underlying hu,Result.andThen_ok,qbQ hb',hcheck,jcp,hfind,hkey,ko.stays k w hk,qfZ hb',hp];rw [qte hwf h1 h2];rfl
theorem qp3 {t t2 ty:TypeId} {mt:MT} (hm:MapOk P t mt) {b clock:Nat} {l:List ME} (hb:w.heap[b]? = some (mt.obj (l,clock))) (hwf:MWf mt l clock) {k:List Int} (hk:k.length = mt.kks.length) :
  (Builtin.delete_ #[t,t2] ty #[.map (some b),mkV mt.kagg (qaJ mt.kks k)]).run P w = .ok (.tuple #[]) { w with heap:=w.heap.setIfInBounds b (mt.obj (qju l k,clock)) }:=by
 obtain ⟨kt,e,hu,ko,hz⟩:=hm.ex;have hb':w.heap[b]? = some (.map (l.map mt.ent).toArray clock):=hb;have hfind:=ko.find mt k l w rfl rfl hk (fun x hx=>(hwf.1 x hx).1);have hcheck:=fun em=>ko.check em k w hk
 cases hh:qdJ l k with
 | false =>
  rw [qfY hh] at hfind;simp [Builtin.delete_,run_underlying hu,qbQ hb',hcheck,hfind,qfZ hb',qwM hh,MT.obj]
 | true =>
  obtain ⟨j,x,h1,h2,h3,h4⟩:=qfQ (mt:=mt) (i:=0) hh;rw [h3,jbb] at hfind;have he:((l.map mt.ent).eraseIdx j).toArray = ((qju l k).map mt.ent).toArray:=by simpa using qvm hwf h1 h2
  simp [Builtin.delete_,run_underlying hu,qbQ hb',hcheck,hfind,qfZ hb',he,MT.obj]
theorem qgW {op:BinOp} {t:TypeId} {x y:Operand} {m n:Option Nat}:(eqGuard op t x y (.map m) (.map n)).run P w = .ok () w:=by
 unfold eqGuard; split <;> simp
theorem qfC (d:Nat) {ty k e:TypeId} (hu:P.underlying ty = some (.map k e)) (m:Option Nat):(Op.equalIn (d + 1) ty (.map m) (.map none)).run P w = .ok m.isNone w:=by
 unfold Op.equalIn;simp only [Sem.run_bind,qy hu,Result.andThen_ok];cases m <;> simp
theorem qnG {ty k e:TypeId} (hu:P.underlying ty = some (.map k e)) (m:Option Nat):(binOp .eql ty (.map m) (.map none)).run P w = .ok (.bool m.isNone) w:=by
 have h:binOp .eql ty (.map m) (.map none) = (do pure (.bool (<- Op.equal ty (.map m) (.map none)))):=by cases m <;> rfl
 rw [h];simp only [Op.equal];rw [show Op.maxDepth = 9999 + 1 from rfl];simp only [Sem.run_bind,qfC 9999 hu,Result.andThen_ok,Sem.run_pure]
theorem qnQ {ty k e:TypeId} (hu:P.underlying ty = some (.map k e)) (m:Option Nat):(binOp .neq ty (.map m) (.map none)).run P w = .ok (.bool (!m.isNone)) w:=by
 have h:binOp .neq ty (.map m) (.map none) = (do pure (.bool (!(<- Op.equal ty (.map m) (.map none))))):=by cases m <;> rfl
 rw [h];simp only [Op.equal];rw [show Op.maxDepth = 9999 + 1 from rfl];simp only [Sem.run_bind,qfC 9999 hu,Result.andThen_ok,Sem.run_pure]
theorem qwn {t:TypeId} {mt:MT} (hm:MapOk P t mt) {v:Value} {mo:Option Nat} {clock:Nat} (hv:(v = .map none/\mo = none/\clock = 0)∨∃ b l,v = .map (some b)/\mo = some b/\w.heap[b]? = some (mt.obj (l,clock))) :
  (Instr.range t v).run P w = .ok (.pointer (some ⟨w.heap.size,0,none⟩)) { w with heap:=w.heap.push (.mapIter mo clock #[] clock) }:=by
 obtain ⟨kt,e,hu,ko,hz⟩:=hm.ex;rcases hv with ⟨rfl,rfl,rfl⟩ | ⟨b,l,rfl,rfl,hb⟩
 ·simp [Instr.range,run_underlying hu,newObj,Sem.run]
 ·have hb':w.heap[b]? = some (.map (l.map mt.ent).toArray clock):=hb
  simp [Instr.range,run_underlying hu,qbQ hb',newObj,Sem.run]
theorem qqU {ty:TypeId} {r since stepped:Nat} {seen:Array Nat} (hr:w.heap[r]? = some (.mapIter none since seen stepped)) :
  (Instr.next (.pointer (some ⟨r,0,none⟩)) false ty).run P w = .ok (.tuple #[.bool false]) w:=by
 simp [Instr.next,qkh hr]
theorem qug (q:Question) (n:Nat) (hq:q = .mapNext n) (hn:0 < n):∃ j w1,j < n/\(w1 = w∨w1 = { w with drawn:=w.drawn + 1 })/\(choose q).run P w = .ok j w1:=by
 subst hq;by_cases hf:n <= 1
 ·exact ⟨0,w,by omega,.inl rfl,by simp [choose,Sem.run,Question.forced,hf]⟩
 ·exact ⟨_,_,jeg _ hn,.inr rfl,by
   simp only [choose,Sem.run,Question.forced,jaw,hf,ja3,Question.cut];rfl⟩
theorem qxp {ty:TypeId} {mt:MT} {r b since stepped clock:Nat} {seen:List Nat} {l:List ME} (hr:w.heap[r]? = some (.mapIter (some b) since seen.toArray stepped)) (hb:w.heap[b]? = some (mt.obj (l,clock)))
  (hgone:seen = []∨l = []∨∃ e ∈ l,e.born < stepped) :
  ∃ w1,(w1 = w∨w1 = { w with drawn:=w.drawn + 1 }) /\
   (((∀ e ∈ l,e.born < since->e.born ∈ seen)/\(Instr.next (.pointer (some ⟨r,0,none⟩)) false ty).run P w = .ok (.tuple #[.bool false]) w1) ∨
    ∃ e ∈ l,e.born ∉ seen/\(Instr.next (.pointer (some ⟨r,0,none⟩)) false ty).run P w = .ok (.tuple #[.bool true,(mt.ent e).key,(mt.ent e).val]) { w1 with heap:=w1.heap.setIfInBounds r (.mapIter (some b) since (seen ++ [e.born]).toArray clock) }):=by
 have hb':w.heap[b]? = some (.map (l.map mt.ent).toArray clock):=hb;have hg:(!seen.toArray.isEmpty && !(l.map mt.ent).toArray.isEmpty && (l.map mt.ent).toArray.all (fun e=>decide (e.born ≥ stepped))) = false:=by
  rcases hgone with rfl | rfl | ⟨e,he,hlt⟩
  ·simp
  ·simp
  ·have:(l.map mt.ent).toArray.all (fun e=>decide (e.born ≥ stepped)) = false:=by
    rw [Array.all_eq_false'];exact ⟨mt.ent e,by simp; exact ⟨e,he,rfl⟩,by simpa [MT.ent] using hlt⟩
   rw [this,Bool.and_false]
 let left:=(l.map mt.ent).toArray.filter fun e=>!seen.toArray.contains e.born
 let old:=left.filter fun e=>decide (e.born < since)
 let new:=left.filter fun e=>decide (e.born ≥ since)
 let cand:Array (Option MapEntry):=(if old.isEmpty then #[none] else #[]) ++ (old ++ new).map some
 have hpos:0 < cand.size:=by
  show 0 < ((if old.isEmpty then #[none] else #[]) ++ (old ++ new).map some).size
  by_cases ho:old.isEmpty
  ·rw [jag ho]; simp; omega
  ·rw [jaf ho]
   have:0 < old.size:=by
    rcases Nat.eq_zero_or_pos old.size with h | h
    ·exact absurd (by simpa [Array.isEmpty] using h) ho
    ·exact h
   simp; omega
 obtain ⟨j,w1,hj,hw1,hrun⟩:=qug (P:=P) (w:=w) (.mapNext cand.size) cand.size rfl hpos;refine ⟨w1,hw1,?_⟩;have hstep:∀ (Q:Sem Value),True:=fun _=>trivial
 have hr1:w1.heap[r]? = some (.mapIter (some b) since seen.toArray stepped):=by rcases hw1 with rfl | rfl <;> exact hr
 have hmem:∀ x,cand[j]? = some (some x)->∃ e ∈ l,e.born ∉ seen/\x = mt.ent e:=by
  intro x hx;have hx:=Array.mem_of_getElem? hx;have:some x ∈ (if old.isEmpty then #[none] else #[]) ++ (old ++ new).map some:=hx;rw [jeo] at this;rcases this with h | h
  ·split at h <;> simp at h
  ·rw [Array.mem_map] at h
   obtain ⟨y,hy,hxy⟩:=h;cases hxy;have hl:x ∈ left:=by
    rcases jeo.1 hy with h | h
    ·exact (jdp.1 h).1
    ·exact (jdp.1 h).1
   obtain ⟨h1,h2⟩:=jdp.1 hl;simp only [List.mem_toArray,jbr] at h1;obtain ⟨e,he,rfl⟩:=h1;exact ⟨e,he,by simpa [MT.ent] using h2,rfl⟩
 have hnone:cand[j]? = some none->∀ e ∈ l,e.born < since->e.born ∈ seen:=by
  intro hx e he hlt;have hx:=Array.mem_of_getElem? hx;have:(none:Option MapEntry) ∈ (if old.isEmpty then #[none] else #[]) ++ (old ++ new).map some:=hx;rw [jeo] at this;rcases this with h | h
  ·by_cases ho:old.isEmpty
   ·have ho':old = #[]:=by simpa [Array.isEmpty] using ho
    rcases Classical.em (e.born ∈ seen) with h | h
    ·exact h
    ·exfalso
     have:mt.ent e ∈ old:=by
      refine jdp.2 ⟨jdp.2 ⟨by simp; exact ⟨e,he,rfl⟩,by simpa [MT.ent] using h⟩,jeu hlt⟩
     rw [ho'] at this; simp at this
   ·rw [jaf ho] at h; simp at h
  ·rw [Array.mem_map] at h
   obtain ⟨y,_,hy⟩:=h;cases hy
 have hun:(Instr.next (.pointer (some ⟨r,0,none⟩)) false ty).run P w = (match cand[j]? with
   | some (some e)=>(do
     setObj r (.mapIter (some b) since (seen.toArray.push e.born) clock)
     pure (.tuple #[.bool true,e.key,e.val]):Sem Value)
   | some none=>pure (.tuple #[.bool false])
   | none=>stuck "Next: no such candidate").run P w1:=by
  simp only [Instr.next,Sem.run_bind,qkh hr,Result.andThen_ok,qbQ hb'];rw [hg];simp only [jan,ja3,Sem.run_bind,Result.andThen_ok];exact congrArg (fun z=>Result.andThen z fun a w'=>Sem.run P (match cand[a]? with
   | some (some e)=>(do
     setObj r (.mapIter (some b) since (seen.toArray.push e.born) clock)
     pure (.tuple #[.bool true,e.key,e.val]):Sem Value)
   | some none=>pure (.tuple #[.bool false])
   | none=>stuck "Next: no such candidate") w') hrun
 rw [hun];cases hc:cand[j]? with
 | none=>exact absurd hc (by simp [hj])
 | some c =>
  cases c with
  | none=>exact .inl ⟨hnone hc,by simp⟩
  | some x =>
   obtain ⟨e,he,hns,rfl⟩:=hmem x hc;refine .inr ⟨e,he,hns,?_⟩;simp only [Sem.run_bind,qwg hr1,Result.andThen_ok,Sem.run_pure];simp [MT.ent]
theorem qvX {mt:MT} {r b since clock:Nat} {seen:List Nat} {l:List ME} {e:ME} (hr:w.heap[r]? = some (.mapIter (some b) since (seen ++ [e.born]).toArray clock)) (hb:w.heap[b]? = some (mt.obj (l,clock))) (hwf:MWf mt l clock) (he:e ∈ l) :
  (Instr.entry (.pointer (some ⟨r,0,none⟩))).run P w = .ok (.tuple #[(mt.ent e).key,(mt.ent e).val]) w:=by
 have hb':w.heap[b]? = some (.map (l.map mt.ent).toArray clock):=hb;have hfind:(l.map mt.ent).toArray.find? (fun x=>x.born == e.born) = some (mt.ent e):=by
  rw [<- Array.find?_toList,jcp];have:∀ {l:List ME},(l.Pairwise fun x y=>x.born < y.born/\x.k ≠ y.k)->e ∈ l->(l.map mt.ent).find? (fun x=>x.born == e.born) = some (mt.ent e):=by
   intro l
   induction l with
   | nil=>intro _ h; cases h
   | cons x l ih =>
    intro hp he;rw [List.pairwise_cons] at hp;rcases jar.1 he with rfl | he
    ·simp [MT.ent]
    ·have:=hp.1 e he
     have hne:(x.born == e.born) = false:=by simpa using Nat.ne_of_lt this.1
     simp only [jaq,List.find?_cons];rw [show (mt.ent x).born = x.born from rfl,hne];exact ih hp.2 he
  exact this hwf.2 he
 simp [Instr.entry,qkh hr,qbQ hb',hfind]
end Go.Eng
namespace Go.Eng
open Go
variable {P:Program} {Z:Env} {hF:Fr} {s:S} {a:Act} {w:World} {o:Oper}
def qdr (P:Program) (Z:Env) (hF:Fr) (s:S) (a:Act) (w:World) (o:Oper) (r:MR) (J1 J2:List U->Prop):Prop :=
 ∃ us mb w',((mb = r.a/\J1 us)∨(r.b = some mb/\J2 us))/\us.length = mb.fresh/\(∀ u ∈ us,u.good)/\qt (qr Z s.nx us) hF mb.heap w'/\Ran P a o (qr Z s.nx us) mb.val w w'
theorem qgu:∀ (us:List U) (Z:Env) (n m:Nat),m < n->qr Z n us m = Z m
 | [],_,_,_,_=>rfl
 | u :: us,Z,n,m,h=>by rw [qr,qgu us _ _ _ (by omega),Env.set_ne _ _ (by omega)]
theorem T.inB_up {n n':Nat} (h:n <= n'):∀ t:T,t.inB n = true->t.inB n' = true
 | .var m,hb=>by simp only [T.inB,ja6] at hb ⊢; omega
 | .c0 o,hb=>by
  cases o <;> simp_all [T.inB]
  all_goals omega
 | .c1 o a,hb=>by
  cases o <;> (simp only [T.inB,jad,ja6] at hb ⊢) <;>
   first
    | exact T.inB_up h a hb
    | exact ⟨by omega,T.inB_up h a hb.2⟩
 | .c2 o a b,hb=>by
  simp only [T.inB,jad] at hb ⊢;exact ⟨T.inB_up h a hb.1,T.inB_up h b hb.2⟩
 | .c3 o a b c,hb=>by
  cases o <;> (simp only [T.inB,jad,ja6] at hb ⊢) <;>
   first
    | exact ⟨⟨T.inB_up h a hb.1.1,T.inB_up h b hb.1.2⟩,T.inB_up h c hb.2⟩
    | exact ⟨⟨⟨by omega,T.inB_up h a hb.1.1.2⟩,T.inB_up h b hb.1.2⟩,T.inB_up h c hb.2⟩
 | .ife a b x y,hb=>by
  simp only [T.inB,jad] at hb ⊢;exact ⟨⟨⟨T.inB_up h a hb.1.1.1,T.inB_up h b hb.1.1.2⟩,T.inB_up h x hb.1.2⟩,T.inB_up h y hb.2⟩
theorem SH.inB_mono {n n':Nat} (h:n <= n') {x:SH} (hb:x.inB n = true):x.inB n' = true:=by
 cases x with
 | cells r ty cs =>
  simp only [SH.inB,jad,ja6] at hb ⊢;exact ⟨by omega,jao.2 fun t ht=>T.inB_up h t (jao.1 hb.2 t ht)⟩
 | arr r ty pat d cap =>
  simp only [SH.inB,jad,ja6] at hb ⊢;exact ⟨⟨by omega,T.inB_up h d hb.1.2⟩,T.inB_up h cap hb.2⟩
 | abs m t=>simp only [SH.inB,ja6] at hb ⊢; omega
theorem qd9 {i:Int} {b:Bool} {h:Hp} {r:Option Addr}:({ i,b,h,r }:U).good:=by simp [U.good,Value.oneCell']
theorem qg6 {row:List Value} {b:Bool} (h:∀ v ∈ row,v.oneCell' = true):({ d:=[row],b }:U).good:=by
 refine ⟨rfl,fun r hr v hv=>?_⟩;simp only [jak] at hr;subst hr; exact h v hv
theorem qeW (hsc:s.inNx = true):s.heap.all (SH.inB s.nx) = true:=by
 simp only [S.inNx,jad] at hsc; exact hsc.1.1.1.2
theorem qt.same (hs:Holds Z hF s a w) (hsc:s.inNx = true) (us:List U):qt (qr Z s.nx us) hF s.heap w :=
 qt.congr hs.hp (qeW hsc) (fun m hm=>(qgu us Z s.nx m hm).symm)
theorem qs9 (hs:Holds Z hF s a w) {mt:MT} {x:T} {l:List ME} {v:Value} (hv:v = (x.den Z).v) (h:((x.den Z).v = .map none/\l = [])∨∃ m ∈ qaF s.heap ++ qaF s.ro,∃ b clock,(x.den Z).v = .map (some b)/\qj4 (Z m).h b mt l clock):qlt w mt v l:=by
 subst hv;rcases h with h | ⟨m,hm,b,clock,h1,h2,h3⟩
 ·exact .inl h
 ·exact .inr ⟨b,clock,h1,qd4 hs hm h2,h3⟩
theorem qwy {t:TypeId} {J1 J2:List U->Prop} (hs:Holds Z hF s a w) (hsc:s.inNx = true) (hop:o.op = .makeMap t none) (hsem:(qkv s).k.sem Z J1 J2):qdr P Z hF s a w o (qkv s) J1 J2:=by
 let us:List U:=[{ h:=Hp.one w.heap.size (.map #[] 0) },{ v:=.map (some w.heap.size) }]
 have h1:=hsem { h:=Hp.one w.heap.size (.map #[] 0) } qd9 { v:=.map (some w.heap.size) } (by simp [U.good,Value.oneCell']) ⟨w.heap.size,rfl,rfl⟩;refine ⟨us,(qkv s).a,{ w with heap:=w.heap.push (.map #[] 0) },.inl ⟨rfl,h1⟩,rfl,?_,?_,?_⟩
 ·intro u hu
  simp only [us,jar,ja2,or_false] at hu;rcases hu with rfl | rfl
  ·exact qd9
  ·simp [U.good,Value.oneCell']
 ·refine qt.new (n:=s.nx) (d:=w.drawn) hs.hp (qeW hsc) (fun m hm=>(qgu us Z s.nx m hm).symm) ?_
  simp only [SH.den,us,qr];rw [Env.set_ne _ _ (by omega),Env.set_same];exact ⟨Hp.le_refl _,fun h=>by cases h⟩
 ·show (execOp a.eval o).run P w = _
  simp [execOp,hop,Instr.makeMap,newObj,Sem.run,SV.den,T.den,us,qr]
theorem qu1 {t:TypeId} {x i:Operand} {ck:Bool} {r:MR} {J1 J2:List U->Prop} (hs:Holds Z hF s a w) (hsc:s.inNx = true) (hop:o.op = .lookup t x i ck) (h:qjj P s t x i ck = some r) (hsem:r.k.sem Z J1 J2):qdr P Z hF s a w o r J1 J2:=by
 unfold qjj at h;split at h
 ·rename_i mt xt hmt hx
  split at h
  ·rename_i ks v hks hv
   simp only [jaa] at h; subst h;have hm:=qj8 hmt;have hxe:=hs.opd hx;obtain ⟨e1,e2⟩:=qn9 hs hks;obtain ⟨l,hl,h1⟩:=hsem;have hV:qlt w mt (a.eval x) l:=qs9 hs (by rw [hxe]; rfl) hl;have hrun:=qu8 hm hV e2 ck Z;have hfit:qX mt.vpat (qep l (qbF Z ks) (qa Z mt.zero)):=by
    rcases hl with ⟨_,rfl⟩ | ⟨m,_,b,clock,_,_,h3⟩
    ·exact hm.fits Z
    ·exact quX h3 (hm.fits Z)
   refine ⟨_,_,w,.inl ⟨rfl,h1⟩,rfl,?_,qt.same hs hsc _,?_⟩
   ·intro u hu
    rw [jak] at hu; subst hu;exact qg6 (qgy hfit)
   ·show (execOp a.eval o).run P w = _
    have hrow:qa (Z.set s.nx { d:=[qep l (qbF Z ks) (qa Z mt.zero)],b:=qdJ l (qbF Z ks) }) (qb3 s.nx mt.vpat 0) = qep l (qbF Z ks) (qa Z mt.zero):=qeF (by rw [Env.set_same]) hfit;simp only [execOp,hop,Sem.run_bind,e1,hrun,Result.andThen_ok,Sem.run_pure,qr]
    congr 2
    cases ck with
    | true=>simp only [ja5,SV.den,jaq,jbl,qlG,hrow]; simp [mkV,qa,T.den,O1.den]
    | false=>simp only [jan,ja3]; rw [qwQ hv,hrow]
  ·cases h
 ·cases h
theorem qy5 {args:Array Operand} {tys:Array TypeId} {t:TypeId} {x:Operand} {r:MR} {J1 J2:List U->Prop} (hs:Holds Z hF s a w) (hsc:s.inNx = true) (hop:o.op = .call { callee:=.builtin .len,args,argTypes:=tys }) (hargs:args = #[x]) (htys:tys = #[t]) (h:qqD P s t x = some r) (hsem:r.k.sem Z J1 J2):qdr P Z hF s a w o r J1 J2:=by
 unfold qqD at h;split at h
 ·rename_i mt xt hmt hx
  simp only [jaa] at h; subst h;have hm:=qj8 hmt;have hxe:=hs.opd hx;obtain ⟨l,hl,h1⟩:=hsem;have hV:qlt w mt (a.eval x) l:=qs9 hs (by rw [hxe]; rfl) hl;refine ⟨_,_,w,.inl ⟨rfl,h1⟩,rfl,?_,qt.same hs hsc _,?_⟩
  ·intro u hu
   rw [jak] at hu; subst hu;exact qd9
  ·show (execOp a.eval o).run P w = _
   have hrun:=qto (ty:=o.type) hm hV;subst hargs; subst htys;simp only [execOp,hop,resolve,invoke,builtin,Sem.run_bind,Sem.run_pure,Result.andThen_ok];simp only [List.map_toArray,jaq,jbl,hrun,Result.andThen_ok,Sem.run_pure,SV.den,T.den,O1.den,qr,Env.set_same]
 ·cases h
theorem qxV {op:BinOp} {t ty2:TypeId} {x y:Operand} {r:MR} {J1 J2:List U->Prop} (hs:Holds Z hF s a w) (hsc:s.inNx = true) (hop:o.op = .binOp op t x y ty2) (h:qqp P s op t x y = some r) (hsem:r.k.sem Z J1 J2):qdr P Z hF s a w o r J1 J2:=by
 unfold qqp at h;split at h
 ·rename_i k e xt hu hx hy
  have hxe:=hs.opd hx;have hye:=hs.opd hy;have hye:a.eval y = .map none:=hye;have key:∀ (b:Bool) (mo:Option Nat),(xt.den Z).v = .map mo->b = mo.isNone->∀ (neg:Bool),(op = if neg then .neq else .eql) ->
    (execOp a.eval o).run P w = .ok (.value (SV.den (qr Z s.nx [{ b:=b }]) (.one (.vbool (if neg then .not (.var s.nx) else .var s.nx))))) w:=by
   intro b mo hmo hb neg hneg;have hxe:a.eval x = .map mo:=by rw [hxe]; exact hmo
   subst hneg hb;cases neg with
   | true=>simp [execOp,hop,hxe,hye,qgW,qnQ hu,SV.den,T.den,O1.den,qr]
   | false=>simp [execOp,hop,hxe,hye,qgW,qnG hu,SV.den,T.den,O1.den,qr]
  have go:∀ (neg:Bool),(op = if neg then .neq else .eql)->∀ mb:MB,mb = ⟨1,s.heap,some (.one (.vbool (if neg then .not (.var s.nx) else .var s.nx)))⟩->(MK.isnil xt).sem Z J1 J2->qdr P Z hF s a w o ⟨.isnil xt,mb,none⟩ J1 J2:=by
   intro neg hneg mb hmb hsem;subst hmb;rcases hsem with ⟨hv,h1⟩ | ⟨⟨q,hv⟩,h1⟩
   ·refine ⟨_,_,w,.inl ⟨rfl,h1⟩,rfl,?_,qt.same hs hsc _,key true none hv rfl neg hneg⟩
    intro u hu;rw [jak] at hu; subst hu;exact qd9
   ·refine ⟨_,_,w,.inl ⟨rfl,h1⟩,rfl,?_,qt.same hs hsc _,key false (some q) hv rfl neg hneg⟩
    intro u hu;rw [jak] at hu; subst hu;exact qd9
  split at h
  ·simp only [jaa] at h; subst h
   exact go false rfl _ rfl hsem
  ·simp only [jaa] at h; subst h
   exact go true rfl _ rfl hsem
  ·cases h
 ·cases h
theorem qtq {t:TypeId} {x k v:Operand} {r:MR} {J1 J2:List U->Prop} (hs:Holds Z hF s a w) (hsc:s.inNx = true) (hop:o.op = .mapUpdate t x k v) (h:qip P s t x k v = some r) (hsem:r.k.sem Z J1 J2):qdr P Z hF s a w o r J1 J2:=by
 unfold qip at h;split at h
 ·rename_i mt xt pos m hmt hx hpos
  split at h
  ·rename_i ks vs hks hvs
   split at h
   ·rename_i hc
    simp only [jaa] at h; subst h;have hm:=qj8 hmt;have hxe:=hs.opd hx;obtain ⟨e1,e2⟩:=qn9 hs hks;have e3:=qjO hs hvs;obtain ⟨b,l,clock,hv,⟨hb,hwf⟩,h1⟩:=hsem;have hmem:m ∈ qaF s.heap ++ qaF s.ro:=jbn _ (qlS hpos);have hwb:=qd4 hs hmem hb;have hrun:=qp6 hm hwb hwf e2 (v:=qa Z vs)
    let ob:=mt.obj (qlE l (qbF Z ks) (qa Z vs) clock)
    refine ⟨[{ h:=Hp.upd (Z m).h b ob }],_,{ w with heap:=w.heap.setIfInBounds b ob },.inl ⟨rfl,h1 _ qd9 rfl⟩,rfl,?_,?_,?_⟩
    ·intro u hu
     rw [jak] at hu; subst hu;exact qd9
    ·exact qt.repiece hs.hp (qeW hsc) (qc2 hpos) hb (qqR hwb) (fun y hy=>set_ne hy) ⟨rfl,rfl⟩ rfl
    ·show (execOp a.eval o).run P w = _
     have hxe:a.eval x = .map (some b):=by rw [hxe]; exact hv
     simp only [execOp,hop,hxe,e1,e3,Sem.run_bind,hrun,Result.andThen_ok,Sem.run_pure];rfl
   ·cases h
  ·cases h
 ·cases h
theorem qtL {args:Array Operand} {tys:Array TypeId} {t t2:TypeId} {x k:Operand} {r:MR} {J1 J2:List U->Prop} (hs:Holds Z hF s a w) (hsc:s.inNx = true) (hop:o.op = .call { callee:=.builtin .delete,args,argTypes:=tys }) (hargs:args = #[x,k]) (htys:tys = #[t,t2]) (h:qj2 P s t x k = some r) (hsem:r.k.sem Z J1 J2):qdr P Z hF s a w o r J1 J2:=by
 unfold qj2 at h;split at h
 ·rename_i mt xt pos m hmt hx hpos
  split at h
  ·rename_i ks hks
   simp only [jaa] at h; subst h;have hm:=qj8 hmt;have hxe:=hs.opd hx;obtain ⟨e1,e2⟩:=qn9 hs hks;obtain ⟨b,l,clock,hv,⟨hb,hwf⟩,h1⟩:=hsem;have hmem:m ∈ qaF s.heap ++ qaF s.ro:=jbn _ (qlS hpos);have hwb:=qd4 hs hmem hb;have hrun:=qp3 (t2:=t2) (ty:=o.type) hm hwb hwf e2
   let ob:=mt.obj (qju l (qbF Z ks),clock)
   refine ⟨[{ h:=Hp.upd (Z m).h b ob }],_,{ w with heap:=w.heap.setIfInBounds b ob },.inl ⟨rfl,h1 _ qd9 rfl⟩,rfl,?_,?_,?_⟩
   ·intro u hu
    rw [jak] at hu; subst hu;exact qd9
   ·exact qt.repiece hs.hp (qeW hsc) (qc2 hpos) hb (qqR hwb) (fun y hy=>set_ne hy) ⟨rfl,rfl⟩ rfl
   ·show (execOp a.eval o).run P w = _
    have hxe:a.eval x = .map (some b):=by rw [hxe]; exact hv
    subst hargs; subst htys;simp only [execOp,hop,resolve,invoke,builtin,Sem.run_bind,Sem.run_pure,Result.andThen_ok];simp only [List.map_toArray,jaq,jbl,hxe,e1,hrun,Result.andThen_ok,Sem.run_pure];rfl
  ·cases h
 ·cases h
theorem qwj {t:TypeId} {x:Operand} {r:MR} {J1 J2:List U->Prop} (hs:Holds Z hF s a w) (hsc:s.inNx = true) (hop:o.op = .range t x) (h:ql0 P s t x = some r) (hsem:r.k.sem Z J1 J2):qdr P Z hF s a w o r J1 J2:=by
 unfold ql0 at h;split at h
 ·rename_i mt xt hmt hx
  simp only [jaa] at h; subst h;have hm:=qj8 hmt;have hxe:=hs.opd hx;obtain ⟨mo,clock,hl,h1⟩:=hsem;have hV:(a.eval x = .map none/\mo = none/\clock = 0)∨∃ b l,a.eval x = .map (some b)/\mo = some b/\w.heap[b]? = some (mt.obj (l,clock)):=by
   rw [hxe];rcases hl with h | ⟨m,hm,b,l,g1,g2,g3,g4⟩
   ·exact .inl h
   ·exact .inr ⟨b,l,g1,g2,qd4 hs hm g3⟩
  have hrun:=qwn hm hV
  let ob:Obj:=.mapIter mo clock #[] clock
  let us:List U:=[{ h:=Hp.one w.heap.size ob },{ v:=.pointer (some ⟨w.heap.size,0,none⟩) }]
  have h1:=h1 { h:=Hp.one w.heap.size ob } qd9 { v:=.pointer (some ⟨w.heap.size,0,none⟩) } (by simp [U.good,Value.oneCell']) ⟨w.heap.size,rfl,rfl⟩;refine ⟨us,_,{ w with heap:=w.heap.push ob },.inl ⟨rfl,h1⟩,rfl,?_,?_,?_⟩
  ·intro u hu
   simp only [us,jar,ja2,or_false] at hu;rcases hu with rfl | rfl
   ·exact qd9
   ·simp [U.good,Value.oneCell']
  ·refine qt.new (n:=s.nx) (d:=w.drawn) hs.hp (qeW hsc) (fun m hm=>(qgu us Z s.nx m hm).symm) ?_
   simp only [SH.den,us,qr];rw [Env.set_ne _ _ (by omega),Env.set_same];exact ⟨Hp.le_refl _,fun h=>by cases h⟩
  ·show (execOp a.eval o).run P w = _
   simp only [execOp,hop,Sem.run_bind,hrun,Result.andThen_ok,Sem.run_pure];simp [SV.den,T.den,us,qr,ob]
 ·cases h
theorem qww {x:Operand} {ip:List (Nat × Nat)} {r:MR} {J1 J2:List U->Prop} (hs:Holds Z hF s a w) (hsc:s.inNx = true) (hop:o.op = .next x false) (h:mapNext P ip s x = some r) (hsem:r.k.sem Z J1 J2):qdr P Z hF s a w o r J1 J2:=by
 unfold mapNext at h;split at h
 ·rename_i mt xt pos m hmt hx hpos
  simp only [jaa] at h; subst h;have hxe:=hs.opd hx;obtain ⟨b',since,seen,stepped,mo,hv,hb',hrest⟩:=hsem;have hxe:a.eval x = .pointer (some ⟨b',0,none⟩):=by rw [hxe]; exact hv
  have hmem:m ∈ qaF s.heap ++ qaF s.ro:=jbn _ (qlS hpos);have hwb:=qd4 hs hmem hb';cases mo with
  | none =>
   refine ⟨[],_,w,.inr ⟨rfl,hrest⟩,rfl,by simp,hs.hp,?_⟩
   show (execOp a.eval o).run P w = _
   simp only [execOp,hop,hxe,Sem.run_bind,qqU hwb,Result.andThen_ok,Sem.run_pure];rfl
  | some b =>
   obtain ⟨l,clock,⟨n,hn,hb,hwf⟩,hgone,hover,hnext⟩:=hrest;have hmb:=qd4 hs hn hb;obtain ⟨w1,hw1,hcase⟩:=qxp (P:=P) (ty:=o.type) hwb hmb hgone;have hhp:w1.heap = w.heap:=by rcases hw1 with rfl | rfl <;> rfl
   have hos:w1.os = w.os/\w1.output = w.output:=by rcases hw1 with rfl | rfl <;> exact ⟨rfl,rfl⟩
   rcases hcase with ⟨hall,hrun⟩ | ⟨e,he,hns,hrun⟩
   ·refine ⟨[],_,w1,.inr ⟨rfl,hover hall⟩,rfl,by simp,?_,?_⟩
    ·obtain ⟨hO,g1,g2,g3,g4⟩:=hs.hp
     exact ⟨hO,g1,g2,fun y ob hy=>by rw [hhp]; exact g3 y ob hy,⟨hos.1.trans g4.1,hos.2.trans g4.2⟩⟩
    ·show (execOp a.eval o).run P w = _
     simp only [execOp,hop,hxe,Sem.run_bind,hrun,Result.andThen_ok,Sem.run_pure];rfl
   ·let ob:Obj:=.mapIter (some b) since (seen ++ [e.born]).toArray clock
    have hek:=(hwf.1 e he).1;have hev:=(hwf.1 e he).2.1
    let us:List U:=[{ h:=Hp.upd (Z m).h b' ob },{ d:=[qaJ mt.kks e.k] },{ d:=[e.v] }]
    refine ⟨us,_,{ w1 with heap:=w1.heap.setIfInBounds b' ob },.inl ⟨rfl,hnext e he hns _ qd9 rfl⟩,rfl,?_,?_,?_⟩
    ·intro u hu
     simp only [us,jar,ja2,or_false] at hu;rcases hu with rfl | rfl | rfl
     ·exact qd9
     ·exact qg6 (qgy (qgd hek))
     ·exact qg6 (qgy hev)
    ·have h0:qt (Z.set s.nx { h:=Hp.upd (Z m).h b' ob }) hF (s.heap.set pos (.abs s.nx 1003)) { w1 with heap:=w1.heap.setIfInBounds b' ob } :=
      qt.repiece hs.hp (qeW hsc) (qc2 hpos) hb' (qqR (by rw [hhp]; exact hwb)) (fun y hy=>by rw [set_ne hy,hhp]) hos rfl
     refine qt.congr (n:=s.nx + 1) h0 ?_ (fun q hq=>?_)
     ·refine jao.2 fun y hy=>?_
      rcases jbx hy with hy | rfl
      ·exact SH.inB_mono (by omega) (jao.1 (qeW hsc) y hy)
      ·simp [SH.inB]
     ·exact (qgu [{ d:=[qaJ mt.kks e.k] },{ d:=[e.v] }] (Z.set s.nx { h:=Hp.upd (Z m).h b' ob }) (s.nx + 1) q hq).symm
    ·show (execOp a.eval o).run P w = _
     have hr1:qa (qr Z s.nx us) (qb3 (s.nx + 1) (mt.kks.map .int) 0) = qaJ mt.kks e.k:=qeF (by simp only [us,qr]; rw [Env.set_ne _ _ (by omega),Env.set_same]) (qgd hek);have hr2:qa (qr Z s.nx us) (qb3 (s.nx + 2) mt.vpat 0) = e.v:=qeF (by simp only [us,qr]; rw [show s.nx + 1 + 1 = s.nx + 2 by omega,Env.set_same]) hev;simp only [execOp,hop,hxe,Sem.run_bind,hrun,Result.andThen_ok,Sem.run_pure,SV.den,jaq,jbl,qlG,hr1,hr2];simp [mkV,qa,T.den,O0.den,O1.den,MT.ent,ob]
 ·cases h
theorem qwc {x:Operand} {ip:List (Nat × Nat)} {r:MR} {J1 J2:List U->Prop} (hs:Holds Z hF s a w) (hsc:s.inNx = true) (hop:o.op = .entry x) (h:qjE P ip s x = some r) (hsem:r.k.sem Z J1 J2):qdr P Z hF s a w o r J1 J2:=by
 unfold qjE at h;split at h
 ·rename_i mt xt pos m hmt hx hpos
  simp only [jaa] at h; subst h;have hxe:=hs.opd hx;obtain ⟨b',since,seen,clock,b,l,e,hv,hb',⟨n,hn,hb,hwf⟩,he,h1⟩:=hsem;have hxe:a.eval x = .pointer (some ⟨b',0,none⟩):=by rw [hxe]; exact hv
  have hmem:m ∈ qaF s.heap ++ qaF s.ro:=jbn _ (qlS hpos);have hwb:=qd4 hs hmem hb';have hmb:=qd4 hs hn hb;have hek:=(hwf.1 e he).1;have hev:=(hwf.1 e he).2.1
  let us:List U:=[{ d:=[qaJ mt.kks e.k] },{ d:=[e.v] }]
  refine ⟨us,_,w,.inl ⟨rfl,h1⟩,rfl,?_,qt.same hs hsc _,?_⟩
  ·intro u hu
   simp only [us,jar,ja2,or_false] at hu;rcases hu with rfl | rfl
   ·exact qg6 (qgy (qgd hek))
   ·exact qg6 (qgy hev)
  ·show (execOp a.eval o).run P w = _
   have hr1:qa (qr Z s.nx us) (qb3 s.nx (mt.kks.map .int) 0) = qaJ mt.kks e.k:=qeF (by simp only [us,qr]; rw [Env.set_ne _ _ (by omega),Env.set_same]) (qgd hek);have hr2:qa (qr Z s.nx us) (qb3 (s.nx + 1) mt.vpat 0) = e.v:=qeF (by simp only [us,qr]; rw [Env.set_same]) hev;simp only [execOp,hop,hxe,Sem.run_bind,qvX hwb hmb hwf he,Result.andThen_ok,Sem.run_pure,SV.den,jaq,jbl,qlG,hr1,hr2];simp [MT.ent]
 ·cases h
theorem qsf {ip:List (Nat × Nat)} {r:MR} {J1 J2:List U->Prop} (hs:Holds Z hF s a w) (hsc:s.inNx = true) (h:quD P ip s o = some r) (hsem:r.k.sem Z J1 J2):qdr P Z hF s a w o r J1 J2:=by
 unfold quD at h;split at h
 ·rename_i t hop
  simp only [jaa] at h; subst h;exact qwy hs hsc hop hsem
 ·rename_i hop; exact qu1 hs hsc hop h hsem
 ·rename_i hop; exact qtq hs hsc hop h hsem
 ·rename_i args tys hop
  split at h
  ·rename_i hargs htys
   exact qtL hs hsc hop (qbE hargs) (qbE htys) h hsem
  ·cases h
 ·rename_i args tys hop
  split at h
  ·rename_i hargs htys
   exact qy5 hs hsc hop (qgb hargs) (qgb htys) h hsem
  ·cases h
 ·rename_i hop; exact qxV hs hsc hop h hsem
 ·rename_i hop; exact qwj hs hsc hop h hsem
 ·rename_i hop; exact qww hs hsc hop h hsem
 ·rename_i hop; exact qwc hs hsc hop h hsem
 ·cases h
end Go.Eng
