/- Texts E8c, E8d, E8e, E8f, E8g. -/
import Derived.Test.YtelcnkclppkicaaGreatDoorG2
import Derived.Laws.BytesArg
import Derived.Test.YtelcnkclppkicaaGreatDoorG1
import Derived.Laws.CopyRow
import Derived.Laws.IdiomCopy
set_option linter.unusedSimpArgs false
set_option linter.unusedVariables false
namespace Go.Eng
open Go
variable {P:Program} {Z:Env} {hF:Fr} {s:S} {a:Act} {w:World} {o:Oper} {r:R1}
structure SrcOk (w:World) (pat:List CK) (v:Value) (d:List (List Value)) (m:Nat):Prop where
 fits:∀ row ∈ d,qv pat row
 len:d.length = m
 shape:∃ b c,v = .slice b m c
 read:∀ (a:Addr) (c:Nat),v = .slice (some a) m c->∀ (j:Nat) (x:Value),(qo d)[j]? = some x->w.cell? (a.add j) = some x
 cells:∀ (h':Array Obj) (dr:Nat),h' = w.heap->(Builtin.firstCells pat.length m v).run P { w with heap:=h',drawn:=dr } = .ok (qo d).toArray { w with heap:=h',drawn:=dr }
theorem qgG {w:World} {b o:Nat} {c:Array Value} {ty:TypeId} {fr:Nat × Nat} {pat:List CK} {d:List (List Value)} {m cap:Nat} (hp:0 < pat.length) (hb:w.heap[b]? = some (.cells c ty fr)) (h:qT c o pat d) (hl:d.length = m) :
  (Builtin.firstCells pat.length m (.slice (some ⟨b,o,none⟩) m cap)).run P w = .ok (qo d).toArray w:=by
 have hfl:(qo d).length = m * pat.length:=by
  rw [<- hl];exact qcf (fun row hr=>by
   obtain ⟨i,hi⟩:=jbi hr;exact (h i row hi).1.1)
 exact run_firstCells_some w pat.length m ⟨b,o,none⟩ m cap (qo d) hfl (fun j v hv=>by rw [addr_add,qbl hb]; exact qhy hp h j v hv)
theorem qDv {pat:List CK} {dd:List (List Value)} {b o0:Nat} {c':Array Value} {ty:TypeId} {fr:Nat × Nat} {m cap:Nat} (hp:0 < pat.length) (hb:w.heap[b]? = some (.cells c' ty fr)) (hr:qT c' o0 pat dd) (hl:dd.length = m):SrcOk (P:=P) w pat (.slice (some ⟨b,o0,none⟩) m cap) dd m:=by
 refine ⟨fun row hm=>?_,hl,⟨_,_,rfl⟩,fun a' c'' ha' j v hv=>?_,fun h' dr hh'=>?_⟩
 ·obtain ⟨i,hi⟩:=jbi hm
  exact (hr i row hi).1
 ·simp only [Value.slice.injEq,jaa] at ha'
  rw [<- ha'.1,addr_add,qbl hb];exact qhy hp hr j v hv
 ·subst hh'
  exact qgG (w:={ w with heap:=w.heap,drawn:=dr }) hp hb hr hl
theorem qC4 {x y:T} (h:((qr .neq x y).den Z).b = true):(x.den Z).i ≠ (y.den Z).i:=by
 rw [qK _ _ _ (by simp)] at h;simpa [qJ] using h
theorem q3v {off l:T} {z:Nat} {ns:List T} (h:qkL off = some (z,l,ns)) (hn:∀ c ∈ ns,(c.den Z).b = true):(off.den Z).i = (z:Int) + (l.den Z).i:=by
 unfold qkL at h;split at h
 ·split at h
  ·rename_i z0 hz
   simp only [jaa,jau] at h;obtain ⟨rfl,rfl,rfl⟩:=h;simp [T.den,O0.den]; omega
  ·cases h
 ·split at h
  ·rename_i z0 l0 hz
   simp only [jaa,jau] at h;obtain ⟨rfl,rfl,rfl⟩:=h;simp [T.den,O0.den,O2.den]; omega
  ·cases h
 ·split at h
  ·rename_i x y _ z0 l0 hz
   simp only [jaa,jau] at h;obtain ⟨rfl,rfl,rfl⟩:=h;have:=qC4 (hn _ (jak.2 rfl));simp only [T.den,O0.den,O2.den];rw [jaf this]; omega
  ·cases h
 ·simp only [jaa,jau] at h
  obtain ⟨rfl,rfl,rfl⟩:=h;simp
 ·cases h
theorem qmj:∀ (ts:List T),((T.row ts).den Z).d = [qd Z ts]
 | []=>rfl
 | t :: ts=>by
  show [(t.den Z).v :: ((T.row ts).den Z).d.headD []] = _
  rw [qmj ts]; rfl
theorem q9J (hg:Z.good) {y:SH} {pat:List CK} {d:T} {r:Nat} {H:Hp} (h:qho y = some (pat,d)) (hr:y.reg = some r) (hro:y.roden Z H) :
  (d.den Z).d = []∨∃ b o c ty fr,(Z r).r = some ⟨b,o,none⟩/\H b = some (.cells c ty fr)/\qT c o pat (d.den Z).d:=by
 cases y with
 | cells r' ty cs =>
  simp only [SH.reg,jaa] at hr; subst hr;simp only [qho,jaa,jau] at h;obtain ⟨rfl,rfl⟩:=h;obtain ⟨b,o,c,ty',fr,h1,h2,h3⟩:=hro;refine .inr ⟨b,o,c,ty',fr,h1,h2,fun i row hi=>?_⟩;rw [qmj] at hi
  match i,hi with
  | 0,hi =>
   simp only [jav,jaa] at hi;subst hi;exact ⟨qmT hg cs,fun k v hv=>by rw [jff,jci]; exact h3 k v hv⟩
  | i + 1,hi=>simp at hi
 | arr r' ty pat' d' cap =>
  simp only [SH.reg,jaa] at hr; subst hr;simp only [qho,jaa,jau] at h;obtain ⟨rfl,rfl⟩:=h;exact hro
 | abs n t=>simp [qho] at h
theorem qz9 {c:Array Value} {o z n:Nat} {pat:List CK} {d:List (List Value)} {k:CK} (hr:qT c o pat d) (hd:0 < d.length) (hz:z + n <= pat.length) (hk:∀ i,i < n->pat[z + i]? = some k):qT c (o + z) [k] (qb2 d z n)/\(qb2 d z n).length = n:=by
 match d,hd with
 | row :: rest,_ =>
  obtain ⟨⟨hl,hf⟩,hc⟩:=hr 0 row rfl;refine ⟨fun i r hi=>?_,?_⟩
  ·simp only [qb2,jbm,jaq,jai] at hi
   obtain ⟨v,hv,rfl⟩:=hi;rw [jbb] at hv;split at hv
   ·rename_i hin
    rw [jbc] at hv;refine ⟨⟨rfl,fun q k' v' h1 h2=>?_⟩,fun q v' h1=>?_⟩
    ·match q,h1,h2 with
     | 0,h1,h2 =>
      simp only [jav,jaa] at h1 h2;subst h1; subst h2;exact hf _ _ _ (hk i hin) hv
     | q + 1,h1,h2=>simp at h1
    ·match q,h1 with
     | 0,h1 =>
      simp only [jav,jaa] at h1;subst h1;have:=hc (z + i) _ hv;rw [show o + z + i * [k].length + 0 = o + 0 * pat.length + (z + i) by simp; omega];exact this
     | q + 1,h1=>simp at h1
   ·cases hv
  ·simp only [qb2,jbm,ja7,jbe,jc2,hl]
   omega
theorem qt9 {k:CK}:∀ {l:List CK},qbX k l <= l.length
 | []=>ja4 _
 | x :: l=>by
  have:=qt9 (k:=k) (l:=l);simp only [qbX]; split <;> simp <;> omega
theorem qnc {k:CK} {pat:List CK} {z:Nat} {l len d off:T} {ns:List T} (hzp:z <= pat.length) (ho:qkL off = some (z,l,ns)) (hn:∀ c ∈ qhb k pat z l len d ns,(c.den Z).b = true) :
  0 <= (off.den Z).i/\0 <= (len.den Z).i/\0 < (d.den Z).d.length/\(off.den Z).i.toNat + (len.den Z).i.toNat <= pat.length/\∀ i,i < (len.den Z).i.toNat->pat[(off.den Z).i.toNat + i]? = some k:=by
 have hns:∀ c ∈ ns,(c.den Z).b = true:=fun c hc=>hn c (jb3 _ hc)
 have hrest:∀ c ∈ [qaf l,qaf len,qr .leq (qau l len) (.lit (qbX k (pat.drop z):Nat)),qr .lss (.lit 0) (qaa d)],(c.den Z).b = true:=fun c hc=>hn c (jcs _ hc)
 have h1:=qw (hrest _ (jae ..));have h2:=qw (hrest _ (jad _ (jae ..)));have h3:=qaP (hrest _ (jad _ (jad _ (jae ..))));have h4:=qdn (hrest _ (jad _ (jad _ (jad _ (jae ..)))));rw [qaO] at h3;have h3:(l.den Z).i + (len.den Z).i <= (qbX k (pat.drop z):Nat):=h3;have h4:0 < ((d.den Z).d.length:Int):=h4;have hoff:=q3v ho hns;have hle:=qt9 (k:=k) (l:=pat.drop z);rw [jc2] at hle;have hgt:∀ i,i < (len.den Z).i.toNat->pat[(off.den Z).i.toNat + i]? = some k:=fun i hi=>by
  have:=qeO (k:=k) (l:=pat.drop z) (i:=(l.den Z).i.toNat + i) (by omega);rw [jbc] at this;rw [<- this]; congr 1; omega
 refine ⟨by omega,h2,by omega,?_,hgt⟩;omega
theorem qnn {pat:List CK} {y:SH} {off len cap:T} {src:Src} {rr p:Nat} {H:Hp} (hs:Holds Z hF s a w) (h:qqJ pat y off len = some src) (hp:p = pat.length) (hreg:y.reg = some rr) (hro:y.roden Z H) (hsub:Hp.sub H w)
  (hn:∀ c ∈ src.needs,(c.den Z).b = true):0 <= (src.len.den Z).i/\SrcOk (P:=P) w pat (SV.den Z (.one (.c3 (.vslice rr p) off len cap))) (src.d.den Z).d (src.len.den Z).i.toNat:=by
 unfold qqJ at h;split at h
 ·rename_i pat' d z l ns k hrow hoff
  split at h
  rotate_left
  ·cases h
  rename_i hzp;simp only [jaa] at h; subst h;obtain ⟨n1,n2,n3,n4,n5⟩:=qnc (jfd hzp) hoff hn;refine ⟨n2,?_⟩;rcases q9J hs.gd hrow hreg hro with hd | ⟨b,o,c,ty,fr,h1,h2,h3⟩
  ·rw [hd] at n3; simp at n3
  ·obtain ⟨r1,r2⟩:=qz9 h3 n3 n4 n5
   have hval:SV.den Z (.one (.c3 (.vslice rr p) off len cap)) = .slice (some ⟨b,o + (off.den Z).i.toNat,none⟩) (len.den Z).i.toNat (cap.den Z).i.toNat:=by
    subst hp;simp [SV.den,T.den,O3.den,h1,qn]
   rw [hval];exact qDv (by simp) (hsub _ _ h2) r1 r2
 ·cases h
theorem qcT {pat:List CK} {x:SV} {src:Src} (hp:0 < pat.length) (hs:Holds Z hF s a w) (h:qhv s pat x = some src) (hn:∀ c ∈ src.needs,(c.den Z).b = true) :
  0 <= (src.len.den Z).i/\SrcOk (P:=P) w pat (x.den Z) (src.d.den Z).d (src.len.den Z).i.toNat:=by
 unfold qhv at h;split at h
 ·simp only [jaa] at h; subst h
  refine ⟨by simp [T.den,O0.den],⟨by simp [T.den,O0.den],by simp [T.den,O0.den],⟨none,0,by simp [SV.den,T.den,O0.den]⟩,fun a c ha=>by simp [SV.den,T.den,O0.den] at ha,fun h' dr _=>?_⟩⟩;simp [SV.den,T.den,O0.den,run_firstCells_none,qo]
 ·rename_i rg p off len cap
  split at h
  ·simp at h
  ·rename_i hpp
   simp only [jbg,jb6] at hpp;have hpp:=Nat.eq_of_beq_eq_true hpp;split at h
   ·rename_i k rr ty cs hf
    obtain ⟨H,hsub,hro,hreg⟩:=hs.found hf;simp only [SH.reg,jaa] at hreg; subst hreg;split at h
    ·rename_i n hoff hlen
     split at h
     ·rename_i hc
      simp only [jai] at h;obtain ⟨d,hd,rfl⟩:=h;obtain ⟨b,o0,c',ty',fr,g1,g2,g3⟩:=hro;obtain ⟨e1,e2,e3⟩:=qhe hs.gd hpp hd;have hl:(len.den Z).i = n:=by rw [qY hlen]; simp [T.den,O0.den]
      have ho:(off.den Z).i = 0:=by rw [qY hoff]; simp [T.den,O0.den]
      simp only;rw [hl];have hval:SV.den Z (.one (.c3 (.vslice rr p) off len cap)) = .slice (some ⟨b,o0,none⟩) n.toNat (cap.den Z).i.toNat:=by
       simp [SV.den,T.den,O3.den,g1,qn,hl,ho]
      rw [hval];refine ⟨hc.1,⟨e3,e1,⟨_,_,rfl⟩,fun a' c'' ha' j v hv=>?_,fun h' dr hh'=>?_⟩⟩
      ·simp only [Value.slice.injEq,jaa] at ha'
       rw [<- ha'.1,addr_add,qbl (hsub _ _ g2)];rw [e2] at hv;refine g3 j v ?_;simp only [qd,jc4] at hv ⊢;rw [jbb] at hv;split at hv
       ·exact hv
       ·cases hv
      subst hh';refine run_firstCells_some (P:=P) _ pat.length n.toNat ⟨b,o0,none⟩ _ _ (qo (d.den Z).d) ?_ (fun j v hv=>?_)
      ·rw [e2,<- hpp]; simp [qd]; omega
      ·rw [addr_add,qbl (w:={ w with heap:=w.heap,drawn:=dr }) (hsub _ _ g2)]
       rw [e2] at hv;refine g3 j v ?_;simp only [qd,jc4] at hv ⊢;rw [jbb] at hv;split at hv
       ·exact hv
       ·cases hv
     ·simp at h
    ·exact qnn hs h hpp rfl hro hsub hn
   ·rename_i k rr ty pat' d cap' hf
    obtain ⟨H,hsub,hro,hreg⟩:=hs.found hf;simp only [SH.reg,jaa] at hreg; subst hreg;split at h
    ·exact qnn hs h hpp rfl hro hsub hn
    ·rename_i hpat
     simp only [jbg,jb6,ja8] at hpat;subst hpat
     -- the general case: rows n to n + m
     have key:∀ (n m:Nat) (dd:List (List Value)),dd = ((d.den Z).d.drop n).take m->n + m <= (d.den Z).d.length->(off.den Z).i.toNat = n->(len.den Z).i.toNat = m ->
       SrcOk (P:=P) w pat' (SV.den Z (.one (.c3 (.vslice rr p) off len cap))) dd m:=by
      intro n m dd hdd hle hoff hlen;subst hdd;rcases hro with g2 | ⟨b,o0,c',ty',fr,g1,g2,g3⟩
      ·rw [g2] at hle
       have hm0:m = 0:=by simp at hle; omega
       subst hm0;refine ⟨by simp [g2],by simp,⟨qn (Z rr).r ((off.den Z).i.toNat * p),_,by simp [SV.den,T.den,O3.den,hlen]; rfl⟩,fun a' c'' _ j v hv=>by simp [qo] at hv,fun h' dr _=>?_⟩;simp only [SV.den,T.den,O3.den,hlen,jf4,qo];cases hadr:qn (Z rr).r ((off.den Z).i.toNat * p) with
       | none=>simp [run_firstCells_none,qo]
       | some a=>exact run_firstCells_some _ pat'.length 0 a _ _ _ (by simp) (by simp)
      ·have hr:=q4G g3 n m
       have hval:SV.den Z (.one (.c3 (.vslice rr p) off len cap)) = .slice (some ⟨b,o0 + n * pat'.length,none⟩) m (cap.den Z).i.toNat:=by
        simp [SV.den,T.den,O3.den,g1,qn,hoff,hlen,hpp]
       rw [hval];refine ⟨fun row hm=>?_,by simp; omega,⟨_,_,rfl⟩,fun a' c'' ha' j v hv=>?_,fun h' dr hh'=>?_⟩
       ·obtain ⟨i,hi⟩:=jbi hm
        exact (hr i row hi).1
       ·simp only [Value.slice.injEq,jaa] at ha'
        rw [<- ha'.1,addr_add,qbl (hsub _ _ g2)];exact qhy hp hr j v hv
       ·subst hh'
        exact qgG (w:={ w with heap:=w.heap,drawn:=dr }) hp (hsub _ _ g2) hr (by simp; omega)
     split at h
     ·rename_i hoff
      have ho:(off.den Z).i.toNat = 0:=by rw [qY hoff]; simp [T.den,O0.den]
      split at h
      ·rename_i hsame
       simp only [jaa] at h; subst h;have hl:(len.den Z).i = ((d.den Z).d.length:Int):=by rw [T.same_eq hsame,qaV]
       refine ⟨by simp only; omega,?_⟩;refine key 0 _ _ ?_ ?_ ho rfl
       ·simp only [jdl]; rw [jap (by omega)]
       ·simp only; omega
      ·simp only [jaa] at h; subst h
       simp only at hn;have n1:=qw (hn _ (jae ..));have n2:=qaP (hn _ (jad _ (jae ..)));rw [qaV] at n2;refine ⟨n1,key 0 _ _ ?_ (by simp only; omega) ho rfl⟩;simp [T.den,O2.den]
     ·simp only [jaa] at h; subst h
      simp only at hn;have n1:=qw (hn _ (jae ..));have n2:=qw (hn _ (jad _ (jae ..)));have n3:=qaP (hn _ (jad _ (jad _ (jae ..))));rw [qaO,qaV] at n3;refine ⟨n2,key _ _ _ ?_ (by simp only; omega) rfl rfl⟩;simp [T.den,O2.den]
   ·simp at h
 ·simp at h
theorem quG (x y:T):((qjL x y).den Z).d = (x.den Z).d ++ (y.den Z).d:=by
 unfold qjL; split <;> simp [T.den,O0.den,O2.den]
structure DstOk (Z:Env) (hF:Fr) (heap:List SH) (w:World) (el:TypeId) (pat:List CK) (base:Option Addr) (cap:Nat) (d:List (List Value)) (hT hR:Hp):Prop where
 d1:Hp.disj hF hT
 d2:Hp.disj hF hR
 d3:Hp.disj hT hR
 st:qac Z heap hR
 sub:(Hp.union hF (Hp.union hT hR)).sub w
 wi:hF.wi w
 how:(base = none/\cap = 0/\d = [])∨∃ b c,base = some ⟨b,0,none⟩/\hT b = some (.cells c el (0,0))/\c.size = cap * pat.length/\d.length <= cap/\qT c 0 pat d
theorem qzM {el:TypeId} {pat:List CK} {x:SV} {d len:T} {k:Option Nat} {n1:List T} (hs:Holds Z hF s a w) (h:q5h s el pat x = some (d,len,k,n1)) (hn:∀ c ∈ n1,(c.den Z).b = true) :
  ∃ base cap hT hR,DstOk Z hF (qya s.heap k) w el pat base cap (d.den Z).d hT hR/\x.den Z = .slice base (d.den Z).d.length cap/\(len.den Z).i = ((d.den Z).d.length:Int):=by
 obtain ⟨hO,hd,hst,hsub,hwi⟩:=hs.hp;unfold q5h at h;split at h
 ·simp only [jaa,jau] at h
  obtain ⟨rfl,rfl,rfl,rfl⟩:=h;refine ⟨none,0,Hp.emp,hO,⟨fun _=>.inr rfl,hd,fun _=>.inl rfl,hst,?_,hwi,.inl ⟨rfl,rfl,by simp [T.den,O0.den]⟩⟩,by simp [SV.den,T.den,O0.den],by simp [T.den,O0.den]⟩;have:Hp.union hF (Hp.union Hp.emp hO) = Hp.union hF hO:=by funext y; simp [Hp.union,Hp.emp]
  rw [this]; exact hsub
 ·rename_i rg p off len' cap
  split at h
  ·simp at h
  ·rename_i hpp
   simp only [jbg,jb6] at hpp;have hpp:=Nat.eq_of_beq_eq_true hpp;split at h
   ·rename_i k' rr ty' pat' d' cap' hoff hat
    split at h
    ·rename_i hc
     simp only [jag,ja8] at hc;have hty:=Nat.eq_of_beq_eq_true hc.1;have hpat:=hc.2;simp only [jaa,jau] at h;obtain ⟨rfl,rfl,rfl,rfl⟩:=h;have e1:=qfA (hn _ (jae ..));have e2:=qfA (hn _ (jad _ (jae ..)));rw [qaV] at e1;obtain ⟨hk,hreg⟩:=qO hat;simp only [SH.reg,jaa] at hreg; subst hreg;obtain ⟨t1,t2,td,tu,tx,ts⟩:=qae hst hk;have ho:(off.den Z).i = 0:=by rw [qY hoff]; simp [T.den,O0.den]
     have hl:(len'.den Z).i.toNat = (d'.den Z).d.length:=by omega
     have dj:Hp.disj hF t1/\Hp.disj hF t2:=Hp.disj_union.1 (tu ▸ hd);subst hty hpat;rcases tx with ⟨g1,g2,g3⟩ | ⟨b,c,g1,g2,g3,g4,g5⟩
     ·refine ⟨none,0,t1,t2,⟨dj.1,dj.2,td,ts,tu ▸ hsub,hwi,.inl ⟨rfl,rfl,g2⟩⟩,?_,e1⟩
      simp [SV.den,T.den,O3.den,g1,qn,hl,e2,g3]
     ·refine ⟨some ⟨b,0,none⟩,(cap'.den Z).i.toNat,t1,t2,⟨dj.1,dj.2,td,ts,tu ▸ hsub,hwi,.inr ⟨b,c,rfl,g2,g3,by omega,g5⟩⟩,?_,e1⟩
      simp [SV.den,T.den,O3.den,g1,qn,hl,e2,ho]
    ·simp at h
   ·rename_i k' rr ty' hoff hat
    split at h
    ·rename_i hc
     have hty:=Nat.eq_of_beq_eq_true hc;simp only [jaa,jau] at h;obtain ⟨rfl,rfl,rfl,rfl⟩:=h;have e1:=qfA (hn _ (jae ..));have e2:=qfA (hn _ (jad _ (jae ..)));obtain ⟨hk,hreg⟩:=qO hat;simp only [SH.reg,jaa] at hreg; subst hreg;obtain ⟨t1,t2,td,tu,tx,ts⟩:=qae hst hk;have ho:(off.den Z).i = 0:=by rw [qY hoff]; simp [T.den,O0.den]
     have dj:Hp.disj hF t1/\Hp.disj hF t2:=Hp.disj_union.1 (tu ▸ hd);subst hty;simp only [T.den,O0.den] at e1 e2;obtain ⟨b,g1,g2⟩:=tx;refine ⟨some ⟨b,0,none⟩,0,t1,t2,⟨dj.1,dj.2,td,ts,tu ▸ hsub,hwi,.inr ⟨b,_,rfl,g2,by simp [qd],by simp [T.den,O0.den],by simp [T.den,O0.den,qT]⟩⟩,?_,by simp [T.den,O0.den]⟩;simp [SV.den,T.den,O0.den,O3.den,g1,qn,e1,e2,ho]
    ·simp at h
   ·rename_i k' rr ty' tc tcs hoff hat
    split at h
    ·rename_i n hlen
     split at h
     ·rename_i d0 hd0
      split at h
      ·rename_i hc
       simp only [jag,ja8] at hc;have hty:=Nat.eq_of_beq_eq_true hc.1.1;have hn0:=hc.1.2;have hsz:=Nat.eq_of_beq_eq_true hc.2;simp only [jaa,jau] at h;obtain ⟨rfl,rfl,rfl,rfl⟩:=h;have e2:=qfA (hn _ (jae ..));obtain ⟨hk,hreg⟩:=qO hat;simp only [SH.reg,jaa] at hreg; subst hreg;obtain ⟨t1,t2,td,tu,tx,ts⟩:=qae hst hk;have ho:(off.den Z).i = 0:=by rw [qY hoff]; simp [T.den,O0.den]
       have hl:(len'.den Z).i = n:=by rw [qY hlen]; simp [T.den,O0.den]
       have dj:Hp.disj hF t1/\Hp.disj hF t2:=Hp.disj_union.1 (tu ▸ hd);subst hty;obtain ⟨b,g1,g2⟩:=tx;obtain ⟨l1,l2,l3⟩:=qhe hs.gd hpp hd0;refine ⟨some ⟨b,0,none⟩,n.toNat,t1,t2,⟨dj.1,dj.2,td,ts,tu ▸ hsub,hwi,.inr ⟨b,_,rfl,g2,?_,by rw [l1]; exact ja4 _,qcp l3 (fun j v hv=>by rw [l2] at hv; simpa using hv)⟩⟩,?_,by rw [hl,l1]; omega⟩
       ·rw [<- hpp,<- hsz]; simp [qd]
       ·rw [l1]; simp [SV.den,T.den,O3.den,g1,qn,e2,ho,hl]
      ·simp at h
     ·simp at h
    ·simp at h
   ·simp at h
 ·simp at h
theorem q27 {heap:List SH} {t ty el:TypeId} {i:TypeInfo} {z:Value} {pat:List CK} {base:Option Addr} {cap m:Nat} {d dd:List (List Value)} {hT hR:Hp} {y:Value}
  (hD:DstOk Z hF heap w el pat base cap d hT hR) (hS:SrcOk (P:=P) w pat y dd m) (ht:P.underlying t = some (.slice el)) (hi:P.info? el = some i) (hz:i.zero = some z) (hzs:z.cells.size = i.size) (hp:pat.length = i.size) (hp0:0 < i.size) (hb0:0 < i.bytes)
  (hb:(d.length + m) * i.bytes <= 140737488355328) :
  ∃ w' u cap' hN,(Builtin.append_ #[t,t] ty #[.slice base d.length cap,y]).run P w = .ok (.slice (qn u 0) (d.length + m) cap') w'/\Hp.disj hF hN/\Hp.disj hN hR/\(Hp.union hF (Hp.union hN hR)).sub w'/\hF.wi w' /\
   ((u = none/\d ++ dd = []/\cap' = 0)∨∃ b c,u = some ⟨b,0,none⟩/\hN b = some (.cells c el (0,0))/\c.size = cap' * pat.length/\d.length + m <= cap'/\qT c 0 pat (d ++ dd)):=by
 obtain ⟨yb,yc,rfl⟩:=hS.shape;have hlen:∀ w':World,(Builtin.lenOf (.slice yb m yc)).run P w' = .ok m w':=fun _=>rfl
 have hc0:(Builtin.firstCells i.size m (.slice yb m yc)).run P w = .ok (qo dd).toArray w:=by
  have:=hS.cells w.heap w.drawn rfl
  rwa [hp] at this
 have hcD:(Builtin.firstCells i.size m (.slice yb m yc)).run P w.drew = .ok (qo dd).toArray w.drew:=by
  have:=hS.cells w.heap (w.drawn + 1) rfl
  rwa [hp] at this
 have hdl:=hS.len;have hfl:(qo dd).length = m * i.size:=by rw [<- hdl]; exact qcf (fun row hr=>by rw [(hS.fits row hr).1,hp])
 have hgd:=quz hS.fits;by_cases hroom:d.length + m <= cap
 ·rcases hD.how with ⟨rfl,rfl,rfl⟩ | ⟨b,c,rfl,g2,g3,g4,g5⟩
  ·have hm:m = 0:=by simp at hroom; exact hroom
   have hdd:dd = []:=jcu.1 (by omega);subst hdd;subst hm;refine ⟨w,none,0,hT,?_,hD.d1,hD.d3,hD.sub,hD.wi,.inl ⟨rfl,by simp,rfl⟩⟩;simp [Builtin.append_,run_underlying ht,sizeOf,typeInfo,hi,hlen,hc0,qn]
  ·have hlt:∀ b o,Hp.union hF (Hp.union hT hR) b = some o->w.heap[b]? = some o:=hD.sub
   have hFb:hF b = none:=(hD.d1 b).resolve_right (by rw [g2]; simp);have hRb:hR b = none:=(hD.d3 b).resolve_left (by rw [g2]; simp);have hwb:w.heap[b]? = some (.cells c el (0,0)):=hlt b _ (by simp [Hp.union,hFb,g2]);have hfit0:=qka g5;have hfd:(qo d).length = d.length * i.size:=qcf (fun row hr=>by rw [(hfit0 row hr).1,hp]);have hsz:d.length * i.size + (qo dd).length <= c.size:=by
    rw [g3,hfl,hp,<- jbt]; exact jbq _ hroom
   obtain ⟨w',c1,hrun,hw1,hw2,⟨hsz1,hget⟩,hos⟩:=qdg (P:=P) (off:=d.length * i.size) (qo dd) 0 c w hwb hgd (by simpa using hsz);refine ⟨w',some ⟨b,0,none⟩,cap,Hp.upd hT b (.cells c1 el (0,0)),?_,?_,?_,?_,⟨hos.1.trans hD.wi.1,hos.2.trans hD.wi.2⟩,.inr ⟨b,c1,rfl,by simp [Hp.upd],by rw [hsz1,g3],hroom,?_⟩⟩
   ·simp [Builtin.append_,run_underlying ht,sizeOf,typeInfo,hi,hlen,hroom,hc0,Addr.add_lit,hrun,qn]
   ·intro q
    rcases hD.d1 q with h | h
    ·exact .inl h
    ·right; unfold Hp.upd; split
     ·rename_i he; subst he; rw [g2] at h; cases h
     ·exact h
   ·intro q
    rcases hD.d3 q with h | h
    ·left; unfold Hp.upd; split
     ·rename_i he; subst he; rw [g2] at h; cases h
     ·exact h
    ·exact .inr h
   ·intro q ob hq
    by_cases hqb:q = b
    ·subst hqb
     simp only [Hp.union,hFb,Hp.upd,jbz,jb2,jc5,jaa] at hq;rw [hw1,hq]
    ·rw [hw2 q hqb]
     refine hlt q ob ?_;simp only [Hp.union,Hp.upd,hqb,jbd] at hq ⊢;exact hq
   ·refine qcp (fun row hr=>?_) (fun j v hv=>?_)
    ·rcases jaw.1 hr with h | h
     ·exact hfit0 row h
     ·exact hS.fits row h
    ·rw [qkk] at hv
     rw [hget];by_cases hj:j < (qo d).length
     ·rw [jaf (by omega)]
      rw [jar hj] at hv;exact qhy (by omega) g5 j v hv
     ·rw [jao (by omega)] at hv
      have hj2:j - (qo d).length < (qo dd).length:=by
       rcases jbu (j - (qo d).length) (qo dd).length with h' | h'
       ·exact h'
       ·rw [jat h'] at hv; cases hv
      rw [jah (by omega)];rw [hfd] at hv;rw [show 0 + j - (d.length * i.size + 0) = j - d.length * i.size from by omega];exact hv
 ·have hg:cap < d.length + m:=by omega
  have hfit:=growslice_fits hg hb;have hge:=grownCap_ge w (d.length + m) cap el;have hn:¬ (d.length + m <= cap):=hroom;have h63:d.length + m <= 140737488355328:=jey (by have:=jeo (d.length + m) hb0; omega) hb;have h63':¬ (9223372036854775807 < ((d.length:Int) + (m:Int))):=by omega
  have h48':¬ (281474976710656 < Builtin.nextslicecap (d.length + m) cap * i.bytes):=by omega
  have hfits:∀ row ∈ d,qv pat row:=by
   rcases hD.how with ⟨rfl,rfl,rfl⟩ | ⟨b,c,rfl,g2,g3,g4,g5⟩
   ·simp
   ·exact qka g5
  have hold:(Builtin.firstCells i.size d.length (.slice base d.length cap)).run P w.drew = .ok (qo d).toArray w.drew:=by
   rcases hD.how with ⟨rfl,rfl,rfl⟩ | ⟨b,c,rfl,g2,g3,g4,g5⟩
   ·simp [run_firstCells_none,qo]
   ·have hFb:hF b = none:=(hD.d1 b).resolve_right (by rw [g2]; simp)
    have hwb:w.drew.heap[b]? = some (.cells c el (0,0)):=hD.sub b _ (by simp [Hp.union,hFb,g2]);have:=qgG (P:=P) (w:=w.drew) (cap:=cap) (by omega) hwb g5 rfl
    rwa [hp] at this
  have hfd:(qo d).length = d.length * i.size:=qcf (fun row hr=>by rw [(hfits row hr).1,hp])
  let G:=grownCap w (d.length + m) cap el
  let ob:Array Value:=((qo d ++ qo dd).toArray ++ Builtin.zeroCells z.cells (G - (d.length + m)))
  have hlt:∀ y o,Hp.union hF (Hp.union hT hR) y = some o->y < w.heap.size:=fun y o hy=>by
   have:=hD.sub y o hy;rcases jbu y w.heap.size with h | h
   ·exact h
   ·rw [jcx h] at this; cases this
  have hR0:∀ q,q = w.heap.size->hF q = none/\hR q = none:=fun q hq=>by
   have:Hp.union hF (Hp.union hT hR) q = none:=by
    cases hx:Hp.union hF (Hp.union hT hR) q with
    | none=>rfl
    | some o=>have:=hlt q o hx; omega
   simp only [Hp.union,jcr] at this;exact ⟨this.1,this.2.2⟩
  refine ⟨w.drew.alloc (.cells ob el),some ⟨w.heap.size,0,none⟩,G,Hp.one w.heap.size (.cells ob el (0,0)),?_,?_,?_,?_,hD.wi,.inr ⟨w.heap.size,ob,rfl,by simp [Hp.one],?_,hge,?_⟩⟩
  ·simp [Builtin.append_,run_underlying ht,sizeOf,typeInfo,zeroValue,hi,hz,hlen,hn,h63',h48',Question.forced,hcD,hold,newRow,grownCap,ob,G,qn]
   congr 2
   apply jcv;simp [jbr]
  ·intro q
   by_cases hq:q = w.heap.size
   ·exact .inl (hR0 q hq).1
   ·right; simp [Hp.one,hq]
  ·intro q
   by_cases hq:q = w.heap.size
   ·exact .inr (hR0 q hq).2
   ·left; simp [Hp.one,hq]
  ·intro q o hq
   show (w.heap.push _)[q]? = some o
   by_cases hqb:q = w.heap.size
   ·subst hqb
    simp only [Hp.union,(hR0 _ rfl).1,Hp.one,jbz,jb2,jc5,jaa] at hq;simp [hq]
   ·have hq':Hp.union hF (Hp.union hT hR) q = some o:=by
     simp only [Hp.union,Hp.one,hqb,jbd,jb2] at hq ⊢;rcases hx:hF q with _ | o1
     ·rw [hx] at hq
      simp only [jb2] at hq ⊢;have:=(hD.d3 q).resolve_right (by rw [hq]; simp);rw [this,hq]; rfl
     ·rw [hx] at hq; simpa using hq
    have h2:=hlt q o hq';have h1:=hD.sub q o hq';rw [je6 h2]
    rwa [jcp h2] at h1
  ·simp only [ob,je3,je2,jaj,hfd,hfl,size_zeroCells,hzs,hp,<- jbt]
   congr 1
   simp only [G]; omega
  ·refine qcp (fun row hr=>?_) (fun j v hv=>?_)
   ·rcases jaw.1 hr with h | h
    ·exact hfits row h
    ·exact hS.fits row h
   ·rw [qkk] at hv
    have hj:j < (qo d ++ qo dd).length:=by
     rcases jbu j (qo d ++ qo dd).length with h' | h'
     ·exact h'
     ·rw [jat h'] at hv; cases hv
    simp only [ob,jbj];rw [jcw (by simpa using hj)];simpa using hv
theorem qvl (z:Array Value) (hz:0 < z.size) (n j:Nat) (hj:j < n * z.size):(Builtin.zeroCells z n)[j]? = z[j % z.size]?:=by
 have hm:j % z.size < z.size:=jd8 _ hz;unfold Builtin.zeroCells;rw [Array.getElem?_map,Array.getElem?_range,jah hj,ja0,jfx z _ hm,getElem?_pos z _ hm]
theorem q5s {t t2 ty el:TypeId} {i:TypeInfo} {z:Value} {k kk:IntKind} {m:Int} (w:World) (ht:P.underlying t = some (.slice el)) (h2:P.underlying t2 = some (.int k)) (hi:P.info? el = some i) (hz:i.zero = some z) (hzs:z.cells.size = i.size) (hp0:0 < i.size) (hb0:0 < i.bytes) (hm:0 <= m) (hb:(i.bytes:Int) * m <= 140737488355328) :
  ∃ w' u cap',(Builtin.append_ #[t,t2] ty #[.slice none 0 0,.int kk m]).run P w = .ok (.slice (qn u 0) m.toNat cap') w' /\
   ((m = 0/\u = none/\cap' = 0/\w' = w)∨∃ ob,u = some ⟨w.heap.size,0,none⟩/\w' = w.drew.alloc (.cells ob el)/\ob.size = cap' * i.size/\m.toNat <= cap'/\∀ j,j < m.toNat * i.size->ob[j]? = z.cells[j % i.size]?):=by
 have h63:m <= 140737488355328:=by
  have hb1:(1:Int) <= i.bytes:=by omega
  have:=ja1 hb1 hm;omega
 have hwr:IntKind.i64.wrap m = m:=by
  simp [IntKind.wrap,IntKind.bits,IntKind.signed]; omega
 have hnl:¬ (m < 0):=by omega
 have hnb:¬ (281474976710656 < m * (i.bytes:Int)):=by rw [jef]; omega
 by_cases h0:m = 0
 ·subst h0
  refine ⟨w,none,0,?_,.inl ⟨rfl,rfl,rfl,rfl⟩⟩;simp [Builtin.append_,run_underlying ht,run_underlying h2,sizeOf,typeInfo,hi,asInt,asIntOf,hwr,qn]
 ·have hg:0 < m.toNat:=by omega
  have hbn:(0 + m.toNat) * i.bytes <= 140737488355328:=by
   have e:(((0 + m.toNat) * i.bytes:Nat):Int) = (i.bytes:Int) * m:=by
    rw [jdt,jbj,jay hm,jef]
   omega
  have hfit:=growslice_fits (need:=0 + m.toNat) (old:=0) (by omega) hbn;have hge:=grownCap_ge w (0 + m.toNat) 0 el;have hn:¬ (0 + m.toNat <= 0):=by omega
  have h63':¬ (9223372036854775807 < ((m.toNat:Nat):Int)):=by omega
  have h48':¬ (281474976710656 < Builtin.nextslicecap (0 + m.toNat) 0 * i.bytes):=by omega
  have hms:¬ (m.toNat * i.size = 0):=by
   have:=Nat.mul_pos hg hp0;omega
  have hm1:¬ (m <= 0):=by omega
  have hm2:¬ (9223372036854775807 < max m 0):=by omega
  let G:=grownCap w (0 + m.toNat) 0 el
  let ob:Array Value:=Builtin.zeroCells z.cells m.toNat ++ Builtin.zeroCells z.cells (G - (0 + m.toNat))
  refine ⟨w.drew.alloc (.cells ob el),some ⟨w.heap.size,0,none⟩,G,?_,.inr ⟨ob,rfl,rfl,?_,by simp only [G]; omega,fun j hj=>?_⟩⟩
  ·simp only [jbj] at *
   simp [Builtin.append_,run_underlying ht,run_underlying h2,sizeOf,typeInfo,zeroValue,hi,hz,asInt,asIntOf,hwr,hnl,hnb,hn,h63',h48',hms,hg,h0,hm1,hm2,Question.forced,newRow,grownCap,ob,G,qn,run_firstCells_none]
  ·simp only [ob,je3,size_zeroCells,hzs,<- jbt]
   congr 1
   simp only [G]; omega
  ·simp only [ob]
   rw [jcw (by rw [size_zeroCells,hzs]; exact hj),qvl _ (by omega) _ _ (by rw [hzs]; exact hj),hzs]
theorem q2D {t t2:TypeId} {k kk:IntKind} {l:T} {x y:Operand} (hs:Holds Z hF s a w) (hop:o.op = .call { callee:=.builtin .append,args:=#[x,y],argTypes:=#[t,t2] }) (hsc:s.scopedEH = true) (hx:opd s x = some (.one (.c0 .vnils))) (hy:opd s y = some (.one (.c1 (.vint kk) l)))
  (h2:P.underlying t2 = some (.int k)) (h:qj5 P s t l = some r) (hn:∀ c ∈ r.needs,(c.den Z).b = true):qi P Z hF s a w o r:=by
 have hex:=hs.opd hx;have hey:=hs.opd hy;simp only [SV.den,T.den,O0.den,O1.den] at hex hey;unfold qj5 at h;split at h
 ·rename_i el hu
  split at h
  ·rename_i z n bz hz hsz hbz
   split at h
   ·rename_i hchk
    simp only [jag,jbn] at hchk;have hzl:=Nat.eq_of_beq_eq_true hchk.1.1.1;simp only [jaa] at h; subst h;have h0:=qw (hn _ (jae ..));have h1:=qaP (hn _ (jad _ (jae ..)));simp only [T.den,O0.den,O2.den] at h1;obtain ⟨i,v,hi,hiz,hzc⟩:=qdu (Z:=Z) hz;have his:i.size = n:=by simpa [qV,hi] using hsz
    have hib:i.bytes = bz:=by simpa [qey,hi] using hbz
    have hdl:(qd Z z).length = n:=by simp [qd,hzl]
    obtain ⟨w',u,cap',hrun,hcase⟩:=q5s (P:=P) (ty:=o.type) (kk:=kk) w hu h2 hi hiz (by rw [hzc,his]; simp [hdl]) (by omega) (by omega) h0 (by rw [hib]; exact h1)
    let u1:U:={ r:=u }
    let u2:U:={ i:=(cap':Int) }
    have hag:∀ m,m < s.nx->Z m = ((Z.set s.nx u1).set (s.nx + 1) u2) m:=fun m hm=>by
     rw [Env.set_ne _ _ (by omega),Env.set_ne _ _ (by omega)]
    have hsh:s.heap.all (SH.inB s.nx) = true:=by simp only [S.scopedEH,jag] at hsc; exact hsc.2
    have hl:l.den ((Z.set s.nx u1).set (s.nx + 1) u2) = l.den Z:=(T.den_congr hag l hchk.2).symm;have hzd:qd ((Z.set s.nx u1).set (s.nx + 1) u2) z = qd Z z:=(qbk hag z (qlx hz)).symm;have e1:((Z.set s.nx u1).set (s.nx + 1) u2) s.nx = u1:=by rw [Env.set_ne _ _ (by omega),Env.set_same]
    have e2:((Z.set s.nx u1).set (s.nx + 1) u2) (s.nx + 1) = u2:=Env.set_same ..;have hran:Ran P a o ((Z.set s.nx u1).set (s.nx + 1) u2) (some (.one (.vslice s.nx (.lit 0) l (.var (s.nx + 1)) n))) w w':=by
     have hv:SV.den ((Z.set s.nx u1).set (s.nx + 1) u2) (.one (.vslice s.nx (.lit 0) l (.var (s.nx + 1)) n)) = .slice (qn u 0) (l.den Z).i.toNat cap':=by
      simp only [SV.den,T.den,O0.den,O3.den,hl,e1,e2,u1,u2];simp
     simp only [Ran,hv];simp [execOp,hop,resolve,invoke,builtin,hex,hey,hrun]
    rcases hcase with ⟨g0,rfl,rfl,rfl⟩ | ⟨ob,rfl,rfl,g3,g4,g5⟩
    ·obtain ⟨hO,a1,a2,a3,a4⟩:=hs.hp
     refine ⟨[u1,u2],_,rfl,by simp [U.good,u1,u2,Value.oneCell'],⟨hO,a1,⟨Hp.emp,hO,fun _=>.inl rfl,by funext b; simp [Hp.union,Hp.emp],?_,qaA hag _ hsh _ a2⟩,a3,a4⟩,hran,fun h=>by cases h⟩;refine .inl ⟨by simp only [qq]; rw [e1],?_,by simp only [qq,T.den]; rw [e2]; rfl⟩;simp only [qq,T.den,O2.den,hl];rw [g0]; rfl
    ·refine ⟨[u1,u2],_,rfl,by simp [U.good,u1,u2,Value.oneCell'],qs.new (Z':=(Z.set s.nx u1).set (s.nx + 1) u2) (d:=w.drew.drawn) (w:=w) hs.hp hsh hag (ob:=.cells ob el) ?_,hran,fun h=>by cases h⟩
     refine .inr ⟨w.heap.size,ob,by rw [e1],by simp [Hp.one],?_,?_,?_⟩
     ·simp only [T.den,e2,u2]
      rw [g3]; simp [hzl,his]
     ·simp only [T.den,O2.den,jaz,hl,e2,u2]; omega
     ·intro j row hrow
      simp only [T.den,O2.den,hl] at hrow;rw [jbf] at hrow;split at hrow
      ·rename_i hil2
       simp only [jaa,qi5,hzd] at hrow;subst hrow;refine ⟨ql0 hz Z,fun q v' hv=>?_⟩;have hk:q < n:=by
        rw [<- hdl];rcases jbu q (qd Z z).length with h | h
        ·exact h
        ·rw [jat h] at hv; cases hv
       have hmul:(j + 1) * n <= (l.den Z).i.toNat * n:=jbq _ (by omega);rw [jbt,jd0] at hmul;rw [ja7,hzl,jbj,g5 _ (by rw [his]; omega),his];rw [show (j * n + q) % n = q from by rw [jce,jfh,jdm hk],hzc];simpa using hv
      ·cases hrow
   ·simp at h
  ·simp at h
 ·simp at h
theorem qzN {args:Array Operand} {tys:Array TypeId} (hs:Holds Z hF s a w) (hop:o.op = .call { callee:=.builtin .append,args,argTypes:=tys }) (hsc:s.scopedEH = true) (h:qp P s o = some r) (hn:∀ c ∈ r.needs,(c.den Z).b = true):qi P Z hF s a w o r:=by
 simp only [qp,hop] at h;split at h
 ·rename_i x y t t2 ha ht
  have hargs:args = #[x,y]:=by apply jcv; simpa using ha
  have htys:tys = #[t,t2]:=by apply jcv; simpa using ht
  split at h
  ·rename_i htt
   have htt:=Nat.eq_of_beq_eq_true htt;subst htt;split at h
   ·rename_i va vb hx hy
    have hex:=hs.opd hx;have hey:=hs.opd hy;unfold qls at h;split at h
    ·rename_i el hu
     split at h
     ·rename_i z n bz hz hsz hbz
      split at h
      ·rename_i hchk
       simp only [jag,jbn] at hchk;have hzl:=Nat.eq_of_beq_eq_true hchk.1.1;split at h
       ·rename_i d len k n1 src hdst hsrc
        split at h
        ·simp at h
        ·rename_i hin
         simp only [jbg,jb6,jag] at hin;simp only [jaa] at h; subst h;obtain ⟨i,v,hi,hiz,hzc⟩:=qdu (Z:=Z) hz;have his:i.size = n:=by simpa [qV,hi] using hsz
         have hib:i.bytes = bz:=by simpa [qey,hi] using hbz
         obtain ⟨base,cap,hT,hR,hD,hxv,hlen⟩:=qzM hs hdst (fun c hc=>hn c (by simp [hc]));obtain ⟨hm0,hS⟩:=qcT (P:=P) (by simp [hzl]; omega) hs hsrc (fun c hc=>hn c (by simp [hc]));have hnb:=qaP (hn _ (jcs _ (jak.2 rfl)));simp only [T.den,O0.den,O2.den,qaO,hlen] at hnb;have hbb:((d.den Z).d.length + (src.len.den Z).i.toNat) * i.bytes <= 140737488355328:=by
          rw [hib];have e:(((((d.den Z).d.length + (src.len.den Z).i.toNat) * bz:Nat)):Int) = (bz:Int) * (((d.den Z).d.length:Int) + (src.len.den Z).i):=by
           rw [jdt,Int.natCast_add,jay hm0,jef]
          omega
         obtain ⟨w',u,cap',hN,hrun,j1,j2,j3,jw,j4⟩:=q27 (P:=P) (ty:=o.type) hD hS hu hi hiz (by rw [hzc,his]; simp [qd,hzl]) (by simp [hzl,his]) (by omega) (by omega) hbb
         let u1:U:={ r:=u }
         let u2:U:={ i:=(cap':Int) }
         have hag:∀ m,m < s.nx->Z m = ((Z.set s.nx u1).set (s.nx + 1) u2) m:=fun m hm=>by
          rw [Env.set_ne _ _ (by omega),Env.set_ne _ _ (by omega)]
         have hsh:(qya s.heap k).all (SH.inB s.nx) = true:=by
          simp only [S.scopedEH,jag] at hsc;have h0:=ja3.1 hsc.2;cases k with
          | none=>exact hsc.2
          | some k=>exact ja3.2 fun x hx=>h0 x (jde hx)
         have hd':((qjL d src.d).den ((Z.set s.nx u1).set (s.nx + 1) u2)).d = (d.den Z).d ++ (src.d.den Z).d:=by
          rw [<- T.den_congr hag _ hin.1,quG]
         have hl':((qau len src.len).den ((Z.set s.nx u1).set (s.nx + 1) u2)).i.toNat = (d.den Z).d.length + (src.len.den Z).i.toNat:=by
          rw [<- T.den_congr hag _ hin.2,qaO,hlen]; omega
         have e1:((Z.set s.nx u1).set (s.nx + 1) u2) s.nx = u1:=by rw [Env.set_ne _ _ (by omega),Env.set_same]
         have e2:((Z.set s.nx u1).set (s.nx + 1) u2) (s.nx + 1) = u2:=Env.set_same ..;have hsl:=hS.len;refine ⟨[u1,u2],w',rfl,by simp [U.good,u1,u2,Value.oneCell'],⟨Hp.union hN hR,Hp.disj_union.2 ⟨j1,hD.d2⟩,⟨hN,hR,j2,rfl,?_,qaA hag _ hsh _ hD.st⟩,j3,jw⟩,?_,fun h=>by cases h⟩
         ·rcases j4 with ⟨g1,g2,g3⟩ | ⟨b,c,g1,g2,g3,g4,g5⟩
          ·refine .inl ⟨by simp only [qq]; rw [e1]; exact g1,by simp only [qq]; rw [hd',g2],by simp only [qq,T.den]; rw [e2]; simp [u2,g3]⟩
          ·refine .inr ⟨b,c,by simp only [qq]; rw [e1]; exact g1,g2,by simp only [qq,T.den]; rw [e2]; simp [u2,g3],?_,by simp only [qq]; rw [hd']; exact g5⟩
           simp only [qq,T.den]; rw [e2,hd']; simp only [u2,jaj,hsl]; omega
         ·have hv:SV.den ((Z.set s.nx u1).set (s.nx + 1) u2) (.one (.vslice s.nx (.lit 0) (qau len src.len) (.var (s.nx + 1)) n)) = .slice (qn u 0) ((d.den Z).d.length + (src.len.den Z).i.toNat) cap':=by
           simp only [SV.den,T.den,O0.den,O3.den,hl',e1,e2,u1,u2];simp
          simp only [Ran,qq,hv];simp [execOp,hop,resolve,invoke,builtin,hargs,htys,hex,hey,hxv,hrun]
       ·simp at h
      ·simp at h
     ·simp at h
    ·simp at h
   ·simp at h
  ·split at h
   ·rename_i k kk l h2 hx hy
    subst hargs;subst htys;exact q2D hs hop hsc hx hy h2 h hn
   ·simp at h
 ·simp at h
theorem q2T {d:List (List Value)} (h:∀ row ∈ d,qv [.int .u8] row):qo d = (d.map fun r=>qX (r[0]?.getD .nilFunc)).map (Value.int .u8):=by
 induction d with
 | nil=>rfl
 | cons row d ih =>
  have hr:=h row (jae ..);obtain ⟨v,rfl⟩:∃ v,row = [v]:=jed.1 hr.1;have hf:=hr.2 0 (.int .u8) v rfl rfl;obtain ⟨z,rfl⟩:∃ z,v = .int .u8 z:=by
   cases v <;> simp [CK.fits] at hf;subst hf; exact ⟨_,rfl⟩
  have ih:=ih fun r hr=>h r (jad _ hr)
  simp only [qo,jdg,ja5] at ih ⊢;rw [ih]; rfl
theorem qzd {src dst:TypeId} {x:Operand} (hs:Holds Z hF s a w) (hop:o.op = .convert src dst x) (h:qp P s o = some r) (hn:∀ c ∈ r.needs,(c.den Z).b = true):qi P Z hF s a w o r:=by
 simp only [qp,hop] at h;split at h
 ·rename_i d k k' t' hsrc hdst hx
  have hev:=hs.opd hx;simp only [jaa] at h; subst h;refine qi.quiet hs ?_;simp only [SV.den,T.den,O1.den] at hev ⊢;simp [execOp,hop,hev,convert,qu hsrc,qu hdst,Conv.intToInt,q3U]
 ·rename_i e v hsrc hdst hx
  split at h
  ·rename_i sr he hsr
   have hev:=hs.opd hx;simp only [jaa] at h; subst h;refine qi.quiet hs ?_;obtain ⟨_,hS⟩:=qcT (P:=P) (by decide) hs hsr hn;obtain ⟨b,c,hv⟩:=hS.shape;have hcells:=hS.cells w.heap w.drawn rfl;rw [hv] at hev hcells;have hfl:=q2T hS.fits;have hgoal:(convert src dst (a.eval x)).run P w = .ok (.string ⟨(bytesOf (sr.d.den Z).d).toArray⟩) w:=by
    rw [hev,run_convert_bytes_string w src dst e _ _ _ hsrc he hdst];cases b with
    | none =>
     simp [Builtin.firstCells] at hcells;have h0:(sr.d.den Z).d = []:=by
      rw [hfl] at hcells;simpa using hcells
     rw [h0];simp [Conv.bytesToString,bytesOf];rfl
    | some ad =>
     rw [run_bytesToString w ad _ c ((sr.d.den Z).d.map fun r=>qX (r[0]?.getD .nilFunc)) ?_,foldl_push_bytes]
     ·simp [bytesOf,ByteArray.empty,ByteArray.emptyWithCapacity,Function.comp_def]
      rfl
     ·have:(loadCells ad (sr.len.den Z).i.toNat).run P w = .ok (qo (sr.d.den Z).d).toArray w:=by
       simpa [Builtin.firstCells] using hcells
      rw [this,hfl]
   simp only [SV.den,T.den,O1.den];simp only [execOp,hop];simp [hgoal]
  ·simp at h
 ·simp at h
theorem qyM (hs:Holds Z hF s a w) (h:qp P s o = some r) (hn:∀ c ∈ r.needs,(c.den Z).b = true) (hsc:r.fresh = 0∨s.scopedEH = true):qi P Z hF s a w o r:=by
 have h0:=h;cases hop:o.op with
 | move x=>exact quO hs (.inl hop) (by simpa [qp,hop] using h)
 | assign x=>exact quO hs (.inr hop) (by simpa [qp,hop] using h)
 | pick c x y=>exact q6c hs hop h
 | box t x =>
  refine qAv hs hop (hsc.resolve_left fun hf=>?_) h;simp only [qp,hop] at h;split at h
  ·simp only [jaa] at h; subst h; cases hf
  ·simp at h
 | alloc t =>
  refine q4M hs hop (hsc.resolve_left fun hf=>?_) h;simp only [qp,hop] at h;split at h
  ·simp only [jaa] at h; subst h; cases hf
  ·simp at h
 | build t ps=>exact q4U hs hop h
 | buildSlice t n ps =>
  refine qq9 hs hop (hsc.resolve_left fun hf=>?_) h;simp only [qp,hop] at h
  repeat' (split at h)
  all_goals first | (simp at h; done) | (simp only [jaa] at h; subst h; cases hf)
 | load t x=>exact q7R hs hop h hn
 | store t x y=>exact q4N hs hop h hn
 | nilCheck x=>exact qvg hs hop h hn
 | binOp op t x y u=>exact q9Q hs hop h hn
 | unOp op t x=>exact q6n hs hop h
 | convert src dst x=>exact qzd hs hop h hn
 | fieldAddr t x f=>exact qsY hs hop h hn
 | field t x f=>exact q4a hs hop h
 | indexAddr t x i=>exact qtr hs hop h hn
 | makeSlice t l c =>
  refine q6M hs hop (hsc.resolve_left fun hf=>?_) h hn;simp only [qp,hop] at h;split at h
  ·unfold qpD at h
   repeat' (split at h)
   all_goals first | (simp at h; done) | (simp only [jaa] at h; subst h; cases hf)
  ·simp at h
 | slice t x lo hi mx=>exact q4e hs hop h hn
 | extract x i=>exact qxs hs hop h
 | makeFunc fn f c=>exact qvs hs hop h
 | index t x i=>exact q3V hs hop h hn
 | call c =>
  obtain ⟨callee,args,tys⟩:=c;cases callee with
  | builtin b =>
   cases b
   case len=>exact q85 hs hop h hn
   case cap=>exact q8E hs hop h hn
   case min=>exact q8y hs hop h
   case max=>exact q8F hs hop h
   case append =>
    refine qzN hs hop (hsc.resolve_left fun hf=>?_) h hn;simp only [qp,hop] at h
    repeat' (split at h)
    all_goals first | (simp at h; done) | skip
    all_goals first | unfold qls at h | unfold qj5 at h
    all_goals repeat' (split at h)
    all_goals first | (simp at h; done) | (simp only [jaa] at h; subst h; cases hf)
   all_goals simp [qp,hop] at h
  | value f=>simp [qp,hop] at h
  | invoke f m=>simp [qp,hop] at h
 | _=>simp [qp,hop] at h
end Go.Eng
namespace Go.Eng
open Go
variable {P:Program} {Z:Env} {hF:Fr} {s:S} {a:Act} {w:World} {o:Oper} {r:R1}
theorem q9K (n:Nat) (x:SH):SH.inNx0 n x = SH.inB n x:=by cases x <;> rfl
theorem qet {n:Nat} {l:List SH} (h:l.all (SH.inNx0 n) = true):l.all (SH.inB n) = true:=by
 rw [ja3] at *;intro x hx; rw [<- q9K]; exact h x hx
theorem qs.wrote {heap:List SH} {k:Nat} {x x':SH} {b:Nat} {c0 c1:Array Value} {ty:TypeId} {w w':World} {hO t1 t2:Hp} (hd:Hp.disj hF hO) (hsub:(Hp.union hF hO).sub w) (hwi:hF.wi w)
  (hk:heap[k]? = some x) (td:Hp.disj t1 t2) (tu:hO = Hp.union t1 t2) (ts:qac Z (heap.eraseIdx k) t2) (g2:t1 b = some (.cells c0 ty (0,0))) (g4:x'.den Z (Hp.upd t1 b (.cells c1 ty (0,0))))
  (hw1:w'.heap[b]? = some (.cells c1 ty (0,0))) (hw2:∀ b',b' ≠ b->w'.heap[b']? = w.heap[b']?) (hos:w'.os = w.os/\w'.output = w.output):qs Z hF (heap.set k x') w':=by
 have hdisj:Hp.disj (Hp.upd t1 b (.cells c1 ty (0,0))) t2:=fun y=>by
  rcases td y with h | h
  ·unfold Hp.upd
   split
   ·rename_i he; subst he; rw [g2] at h; cases h
   ·exact .inl h
  ·exact .inr h
 refine ⟨Hp.union (Hp.upd t1 b (.cells c1 ty (0,0))) t2,?_,qdr hk ts hdisj g4,?_,⟨hos.1.trans hwi.1,hos.2.trans hwi.2⟩⟩
 ·intro y
  rcases hd y with h | h
  ·exact .inl h
  ·right
   rw [tu] at h;simp only [Hp.union,jcr] at h ⊢;refine ⟨?_,h.2⟩;unfold Hp.upd;split
   ·rename_i he; subst he; rw [g2] at h; cases h.1
   ·exact h.1
 ·intro y ob hy
  by_cases hyb:y = b
  ·subst hyb
   have hFn:hF y = none:=(hd y).resolve_right (by rw [tu]; simp [Hp.union,g2]);simp only [Hp.union,hFn,Hp.upd,jbz,jb2,jc5,jaa] at hy;rw [hw1,hy]
  ·rw [hw2 y hyb]
   refine hsub y ob ?_;rw [tu];simp only [Hp.union,Hp.upd,hyb,jbd] at hy ⊢;exact hy
theorem qs.congr {Z':Env} {heap:List SH} {n:Nat} (h:qs Z hF heap w) (hsc:heap.all (SH.inB n) = true) (hag:∀ m,m < n->Z m = Z' m):qs Z' hF heap w:=by
 obtain ⟨hO,hd,hst,hsub,hwi⟩:=h;exact ⟨hO,hd,qaA hag _ hsc _ hst,hsub,hwi⟩
theorem q54 {args:Array Operand} {tys:Array TypeId} {x y:Operand} {t:TypeId} {xa ya:SV} (hs:Holds Z hF s a w) (hop:o.op = .call { callee:=.builtin .append,args,argTypes:=tys }) (hargs:args = #[x,y]) (htys:tys = #[t,t])
  (hx:opd s x = some xa) (hy:opd s y = some ya) (h:qp6 P s t xa ya = some r) (hn:∀ c ∈ r.needs,(c.den Z).b = true):qi P Z hF s a w o r:=by
 unfold qp6 at h;split at h
 ·rename_i el rg p off len cap hu
  split at h
  ·rename_i z n bz hz hsz hbz
   split at h
   ·rename_i hc
    simp only [jag,jbn] at hc;obtain ⟨⟨hzl,hpos⟩,hnp⟩:=hc;have hzl:=Nat.eq_of_beq_eq_true hzl;have hnp:=Nat.eq_of_beq_eq_true hnp;subst hnp;split at h
    ·rename_i k rr ty pat d capA src hoff hat hsrc
     split at h
     ·rename_i ts hsl hrow
      split at h
      ·rename_i hc2
       simp only [jag,ja8] at hc2;obtain ⟨htsl,hpat⟩:=hc2;have htsl:=Nat.eq_of_beq_eq_true htsl;split at h
       ·rename_i x' ns hwr
        split at h
        ·rename_i hin
         simp only [jag,jbn] at hin;obtain ⟨⟨⟨hin1,hin2⟩,hin3⟩,hin4⟩:=hin;simp only [jaa] at h; subst h;have hev:=hs.opd hx;have hey:=hs.opd hy;simp only [jd1,ja9,jaw,forall_eq_or_imp] at hn;obtain ⟨hn1,hn2,hn3⟩:=hn;have hroom:=qaP hn1;have hone:=qfA hn2;rw [qaO] at hroom;simp only [T.den,O0.den] at hroom hone;have hplen:0 < (z.map qa4).length:=by simp [hzl,hpos]
         obtain ⟨_,hS⟩:=qcT (P:=P) hplen hs hsrc (fun c hc=>hn3 c (.inr hc));obtain ⟨hk,hreg⟩:=qO hat;obtain ⟨hO,hd,hst,hsub,hwi⟩:=hs.hp;obtain ⟨t1,t2,td,tu,tx,tss⟩:=qae hst hk;obtain ⟨b,c0,ty0,g1,g2,g3,g4⟩:=qnC hs.gd hwr tx hreg (fun c hc=>hn3 c (.inl hc));have hle:Hp.le t1 (Hp.union hF hO):=Hp.le_trans (tu ▸ Hp.le_left t1 t2) (Hp.le_right hd);have hlen0:0 <= (len.den Z).i:=by
          simp only [qkF] at hwr;split at hwr
          ·simp only [jaa,jau] at hwr
           obtain ⟨_,rfl⟩:=hwr;exact qw (hn3 _ (.inl (by simp)))
          ·split at hwr
           ·split at hwr
            ·split at hwr
             ·simp only [jaa,jau] at hwr
              obtain ⟨_,rfl⟩:=hwr;exact qw (hn3 _ (.inl (by simp)))
             ·simp at hwr
            ·split at hwr
             ·simp only [jaa,jau] at hwr
              obtain ⟨_,rfl⟩:=hwr;exact qw (hn3 _ (.inl (by simp)))
             ·simp at hwr
            ·simp at hwr
           ·simp at hwr
         have hrows:(src.d.den Z).d = [qd Z ts]:=by
          have l1:=qed (Z:=Z) hsl;have l2:=qhK (Z:=Z) hrow
          match hx:(src.d.den Z).d,l1 with
          | [q],_=>rw [hx] at l2; simpa using l2
         have hm:(src.len.den Z).i.toNat = 1:=by omega
         obtain ⟨yb,yc,hyv⟩:=hS.shape;have hcells:=hS.cells w.heap w.drawn rfl;rw [hm] at hcells hyv;have hfl:qo (src.d.den Z).d = qd Z ts:=by rw [hrows]; simp [qo]
         rw [hfl] at hcells;have hpn:(z.map qa4).length = n:=by simp [hzl]
         rw [hpn] at hcells;obtain ⟨i,hi,hib⟩:=qzu hbz;obtain ⟨i',hi',his⟩:=qlp hsz;have:i' = i:=jax (hi'.symm.trans hi);subst this;obtain ⟨w',c1,hrun,hw1,hw2,hwrote,hos⟩:=qdg (P:=P) (b:=b) (off:=(len.den Z).i.toNat * n) (qd Z ts) 0 c0 w (hsub _ _ (hle _ _ g2)) (qhY hs.gd ts) (by simpa [qd] using g3);have hbase:=qs.wrote hd hsub hwi hk td tu tss g2 (g4 c1 (by simpa using hwrote)) hw1 hw2 hos;have hag:∀ m,m < s.nx->Z m = (Z.set s.nx {}) m:=fun m hm=>(Env.set_ne Z _ (by omega)).symm
         refine ⟨[{}],w',rfl,by simp [U.good,Value.oneCell'],qs.congr hbase (qet hin1) hag,?_,fun h=>by cases h⟩;have hoff0:=qc5 (Z:=Z) hoff;have hv:SV.den (Z.set s.nx {}) (.one (.vslice rg (.lit 0) (qau len (.lit 1)) cap n)) = .slice (some ⟨b,0,none⟩) ((len.den Z).i.toNat + 1) (cap.den Z).i.toNat:=by
          simp only [SV.den,T.den,O0.den,O3.den,qn];rw [<- hag rg hin4,g1,<- T.den_congr hag _ hin2,<- T.den_congr hag _ hin3,qaO];simp [T.den,O0.den]; omega
         have hev':a.eval x = .slice (some ⟨b,0,none⟩) (len.den Z).i.toNat (cap.den Z).i.toNat:=by
          rw [hev]; simp [SV.den,T.den,O3.den,qn,g1,hoff0]
         have hroom':(len.den Z).i.toNat + 1 <= (cap.den Z).i.toNat:=by omega
         simp only [Ran,qq,hv];rw [hyv] at hey hcells;have hlenOf:∀ w':World,(Builtin.lenOf (.slice yb 1 yc)).run P w' = .ok ((1:Nat):Int).toNat w':=fun _=>rfl
         simp [execOp,hop,resolve,invoke,builtin,hargs,htys,hev',hey,Builtin.append_,run_underlying hu,sizeOf,typeInfo,hi,his,Builtin.lenOf,hroom',hcells,Addr.add_lit,hrun]
        ·simp at h
       ·simp at h
      ·simp at h
     ·simp at h
    ·simp at h
   ·simp at h
  ·simp at h
 ·simp at h
theorem q4u {t:TypeId} {cs:List T} (h:qbP P t = some cs) (w:World):∃ v,(zeroValue t).run P w = .ok v w/\v.cells.size = cs.length/\∀ x ∈ v.cells.toList,x.oneCell' = true:=by
 obtain ⟨v,h1,h2⟩:=qnU (Z:=fun _=>{}) h w;refine ⟨v,h1,by rw [h2]; simp [qd],fun x hx=>?_⟩;rw [h2] at hx;exact qhY (Z:=fun _=>{}) (fun n=>by simp [U.good,Value.oneCell']) cs x (by simpa using hx)
theorem qtf {z:Array Value} (hz:∀ x ∈ z.toList,x.oneCell' = true) (n:Nat):∀ x ∈ (Builtin.zeroCells z n).toList,x.oneCell' = true:=by
 intro x hx;simp only [Builtin.zeroCells,je9,jbk] at hx;obtain ⟨i,hi,rfl⟩:=hx;by_cases hlt:i % z.size < z.size
 ·rw [jfx z _ hlt]; exact hz _ (by simp)
 ·rw [getElem!_neg z _ hlt]; rfl
theorem q31 {args:Array Operand} {tys:Array TypeId} {x:Operand} {t:TypeId} {xa:SV} (hs:Holds Z hF s a w) (hop:o.op = .call { callee:=.builtin .clear,args,argTypes:=tys }) (hargs:args = #[x]) (htys:tys = #[t])
  (hx:opd s x = some xa) (h:qmS P s t xa = some r) (hn:∀ c ∈ r.needs,(c.den Z).b = true):qi P Z hF s a w o r:=by
 unfold qmS at h;split at h
 ·rename_i el rg p off len cap hu
  split at h
  ·rename_i z n hz hsz
   split at h
   ·rename_i hc
    simp only [jag,jbn] at hc;obtain ⟨⟨hzl,hpos⟩,hnp⟩:=hc;have hzl:=Nat.eq_of_beq_eq_true hzl;have hnp:=Nat.eq_of_beq_eq_true hnp;subst hnp;split at h
    ·rename_i k rr ty pat d capA hat
     split at h
     ·rename_i hc2
      simp only [jag] at hc2;obtain ⟨hpl,hin⟩:=hc2;have hpl:=Nat.eq_of_beq_eq_true hpl;simp only [jaa] at h; subst h;have hev:=hs.opd hx;have hoff:=qw (hn _ (by simp):((qaf off).den Z).b = true);have hlen:=qw (hn _ (by simp):((qaf len).den Z).b = true);have hle:=qaP (hn _ (by simp):((qr .leq (qau off len) (qaa d)).den Z).b = true);rw [qaO,qaV] at hle;obtain ⟨hk,hreg⟩:=qO hat;simp only [SH.reg,jaa] at hreg; subst hreg;obtain ⟨hO,hd,hst,hsub,hwi⟩:=hs.hp;obtain ⟨t1,t2,td,tu,tx,tss⟩:=qae hst hk;have hag:∀ m,m < s.nx->Z m = (Z.set s.nx {}) m:=fun m hm=>(Env.set_ne Z _ (by omega)).symm
      obtain ⟨zv,hz1,hz2,hz3⟩:=q4u hz w;have htake0:((T.dtake d (qeM len (.lit 0) (qaa d) off)).den Z).d = (d.den Z).d.take ((qeM len (.lit 0) (qaa d) off).den Z).i.toNat:=rfl;have hife:((qeM len (.lit 0) (qaa d) off).den Z).i = if (len.den Z).i = 0 then ((d.den Z).d.length:Int) else (off.den Z).i:=by rw [qns,qaV]; rfl
      by_cases hempty:(len.den Z).i.toNat = 0
      ·-- nothing is written
       have htake:((T.dtake d (qeM len (.lit 0) (qaa d) off)).den Z).d = (d.den Z).d:=by
        rw [htake0,hife,jah (by omega)]; simp
       have hx':SH.den Z (.arr rr ty pat (.dtake d (qeM len (.lit 0) (qaa d) off)) capA) t1:=by
        rcases tx with ⟨h1,h2,h3⟩ | ⟨b,c,h1,h2,h3,h4,h5⟩
        ·exact .inl ⟨h1,by rw [htake,h2],h3⟩
        ·exact .inr ⟨b,c,h1,h2,h3,by rw [htake]; exact h4,by rw [htake]; exact h5⟩
       refine ⟨[{}],w,rfl,by simp [U.good,Value.oneCell'],qs.congr ⟨hO,hd,by rw [tu]; exact qdr hk tss td hx',hsub,hwi⟩ (qet hin) hag,?_,fun h=>by cases h⟩;have hev':a.eval x = .slice (qn (Z rr).r ((off.den Z).i.toNat * n)) 0 (cap.den Z).i.toNat:=by
        rw [hev]; simp [SV.den,T.den,O3.den,hempty]
       simp only [Ran,qq,SV.den,jb5];cases hadr:qn (Z rr).r ((off.den Z).i.toNat * n) <;> simp [execOp,hop,resolve,invoke,builtin,hargs,htys,hev',hadr,Builtin.clear_,run_underlying hu]
      ·have htake:((T.dtake d (qeM len (.lit 0) (qaa d) off)).den Z).d = (d.den Z).d.take (off.den Z).i.toNat:=by
        rw [htake0,hife,jaf (by omega)]
       rcases tx with ⟨h1,h2,h3⟩ | ⟨b,c,h1,h2,h3,h4,h5⟩
       ·rw [h2] at hle; simp at hle; omega
       ·have hw:w.heap[b]? = some (.cells c ty (0,0)):=hsub b _ (Hp.le_right hd _ _ (tu ▸ Hp.le_left t1 t2 _ _ h2))
        have hzc:(Builtin.zeroCells zv.cells (len.den Z).i.toNat).toList.length = (len.den Z).i.toNat * n:=by
         rw [jfj,size_zeroCells,hz2,hzl]
        have hsz2:(off.den Z).i.toNat * n + (len.den Z).i.toNat * n <= c.size:=by
         rw [h3,hpl,<- jbt];exact jbq _ (by omega)
        obtain ⟨w',c1,hrun,hw1,hw2,⟨hws,hwg⟩,hos⟩:=qdg (P:=P) (b:=b) (off:=(off.den Z).i.toNat * n) (Builtin.zeroCells zv.cells (len.den Z).i.toNat).toList 0 c w hw (qtf hz3 _) (by rw [hzc]; simpa using hsz2);have hx':SH.den Z (.arr rr ty pat (.dtake d (qeM len (.lit 0) (qaa d) off)) capA) (Hp.upd t1 b (.cells c1 ty (0,0))):=by
         refine .inr ⟨b,c1,h1,by simp [Hp.upd],by rw [hws]; exact h3,?_,fun i row hi=>?_⟩
         ·rw [htake,jbe]; omega
         ·rw [htake,jbb] at hi
          split at hi
          ·rename_i hlt
           obtain ⟨g1,g2⟩:=h5 i row hi;refine ⟨g1,fun kk v hv=>?_⟩;rw [hwg,jaf]
           ·exact g2 kk v hv
           ·have hkl:kk < pat.length:=by
             rw [<- g1.1]; exact (jan.1 hv).1
            have:(i + 1) * pat.length <= (off.den Z).i.toNat * pat.length:=jbq _ hlt;rw [jbt] at this;rw [hpl] at this hkl ⊢;omega
          ·cases hi
        refine ⟨[{}],w',rfl,by simp [U.good,Value.oneCell'],qs.congr (qs.wrote hd hsub hwi hk td tu tss h2 hx' hw1 hw2 hos) (qet hin) hag,?_,fun h=>by cases h⟩;obtain ⟨m,hm⟩:∃ m,(len.den Z).i.toNat = m + 1:=⟨(len.den Z).i.toNat - 1,by omega⟩;have hev':a.eval x = .slice (some ⟨b,(off.den Z).i.toNat * n,none⟩) (m + 1) (cap.den Z).i.toNat:=by
         rw [hev]; simp [SV.den,T.den,O3.den,hm,h1,qn]
        rw [hm] at hrun;simp only [Ran,qq,SV.den,jb5];simp [execOp,hop,resolve,invoke,builtin,hargs,htys,hev',Builtin.clear_,run_underlying hu,hz1,hrun]
     ·simp at h
    ·simp at h
   ·simp at h
  ·simp at h
 ·simp at h
theorem qgJ {d:List (List Value)} {pat:List CK} (hp:pat.length = 1) (h:∀ row ∈ d,qv pat row):(qo d).length = d.length/\∀ i:Nat,(qo d)[i]? = (d[i]?).bind (·[0]?):=by
 induction d with
 | nil=>exact ⟨rfl,fun i=>by simp [qo]⟩
 | cons row d ih =>
  have hr:=(h row (jae ..)).1;rw [hp] at hr;obtain ⟨v,rfl⟩:∃ v,row = [v]:=jed.1 hr;obtain ⟨i1,i2⟩:=ih fun r hr=>h r (jad _ hr)
  simp only [qo,jdg] at i1 i2 ⊢;refine ⟨by simp [i1],fun i=>?_⟩;cases i with
  | zero=>rfl
  | succ i=>simpa using i2 i
theorem qhg {d x:List (List Value)} {k:Nat} (h:k + x.length <= d.length):(qaZ d k x).length = d.length:=by
 simp [qaZ]; omega
theorem qzE {d x:List (List Value)} {k:Nat} (h:k + x.length <= d.length) (i:Nat):(qaZ d k x)[i]? = if i < k then d[i]? else if i < k + x.length then x[i - k]? else d[i]?:=by
 unfold qaZ;by_cases h1:i < k
 ·rw [jah h1,jbr,jar (by simp; omega),jex h1]
 ·rw [jaf h1]
  by_cases h2:i < k + x.length
  ·rw [jah h2,jbr,jao (by simp; omega)]
   simp only [jbe];rw [jb8 (by omega),jar (by omega)]
  ·rw [jaf h2,jbr,jao (by simp; omega)]
   simp only [jbe];rw [jb8 (by omega),jao (by omega),jbc]
   congr 1; omega
theorem qvh {c0 c1:Array Value} {pat:List CK} {d x:List (List Value)} {k:Nat} (hp:pat.length = 1) (h:qT c0 0 pat d) (hx:∀ row ∈ x,qv pat row) (hk:k + x.length <= d.length)
  (hw:qir c0 c1 k (qo x)):qT c1 0 pat (qaZ d k x):=by
 obtain ⟨f1,f2⟩:=qgJ hp hx;intro i row hi;rw [qzE hk] at hi;have hw2:=hw.2;have old:d[i]? = some row->¬ (k <= i/\i < k + x.length)->qv pat row/\∀ (j:Nat) (v:Value),row[j]? = some v->c1[0 + i * pat.length + j]? = some v:=fun hi hne=>by
  obtain ⟨g1,g2⟩:=h i row hi;refine ⟨g1,fun j v hv=>?_⟩;have hj:j < 1:=by rw [<- hp,<- g1.1]; exact (jan.1 hv).1
  rw [hw2,f1,jaf (by rw [hp]; omega)];exact g2 j v hv
 split at hi
 ·exact old hi (by omega)
 ·split at hi
  ·have hfit:=hx row (jbl hi)
   refine ⟨hfit,fun j v hv=>?_⟩;have hj:j < 1:=by rw [<- hp,<- hfit.1]; exact (jan.1 hv).1
   have hj0:j = 0:=by omega
   subst hj0;rw [hw2,f1,hp,jah (by omega),show 0 + i * 1 + 0 - k = i - k by omega,f2,hi];exact hv
  ·exact old hi (by omega)
theorem q72 {t t2:TypeId} {xa ya:SV} {args:Array Operand} {tys:Array TypeId} {x y:Operand} (hs:Holds Z hF s a w) (hop:o.op = .call { callee:=.builtin .copy,args:=args,argTypes:=tys }) (hargs:args = #[x,y]) (htys:tys = #[t,t2])
  (hx:opd s x = some xa) (hy:opd s y = some ya) (h:qpG P s t xa ya = some r) (hn:∀ c ∈ r.needs,(c.den Z).b = true):qi P Z hF s a w o r:=by
 unfold qpG at h;split at h
 ·rename_i el rg p off len cap hu
  split at h
  ·rename_i z n hz hsz
   split at h
   ·rename_i hc
    simp only [jag] at hc;have c1:=Nat.eq_of_beq_eq_true hc.1.1;have c2:=Nat.eq_of_beq_eq_true hc.1.2;have c3:=Nat.eq_of_beq_eq_true hc.2;subst c3; subst c2;split at h
    ·rename_i k rr ty pat d capA src hat hsrc
     split at h
     ·rename_i hin
      simp only [jag,ja8] at hin;obtain ⟨⟨hpat,hin1⟩,hin2⟩:=hin;simp only [jaa] at h; subst h;subst hpat;have hpl:(z.map qa4).length = 1:=by simp [c1]
      have hev:=hs.opd hx;have hey:=hs.opd hy;simp only [jd1,jdd,ja9,forall_eq_or_imp] at hn;obtain ⟨n1,n2,n3,n4⟩:=hn;have o0:=qw n1;have l0:=qw n2;have hfit:=qaP n3;rw [qaO,qaV] at hfit;obtain ⟨hs0,hS⟩:=qcT (P:=P) (by omega) hs hsrc n4;obtain ⟨yb,yc,hyv⟩:=hS.shape;have hcells:=hS.cells w.heap w.drawn rfl;rw [hyv] at hey hcells;have hag:∀ m,m < s.nx->Z m = (Z.set s.nx {}) m:=fun m hm=>(Env.set_ne Z _ (by omega)).symm
      -- how many go over, and which
      obtain ⟨X,hX,hXl,hXt,hm⟩:∃ X,((qbB len src).den Z).d = X/\X.length = Nat.min (src.len.den Z).i.toNat (len.den Z).i.toNat /\
        X = (src.d.den Z).d.take X.length/\((qcZ len src).den Z).i = (X.length:Int):=by
       have hmx:∀ a b:Nat,Nat.min a b = min a b:=fun _ _=>rfl
       by_cases hsame:len.same src.len = true
       ·have he:=T.same_eq hsame
        refine ⟨(src.d.den Z).d,by simp only [qbB,hsame,jbz],by rw [hS.len,he]; exact (Nat.min_self _).symm,by rw [List.take_length],?_⟩;simp only [qcZ,hsame,jbz]; rw [hS.len,he]; omega
       ·have hmin:(T.den Z (.imin len src.len)).i.toNat = Nat.min (src.len.den Z).i.toNat (len.den Z).i.toNat:=by
         simp only [T.den,O2.den];rw [hmx]; split <;> omega
        have hl:((src.d.den Z).d.take (T.den Z (.imin len src.len)).i.toNat).length = Nat.min (src.len.den Z).i.toNat (len.den Z).i.toNat:=by
         rw [jbe,hmin,hS.len,hmx]; omega
        have hns:len.same src.len = false:=by simpa using hsame
        refine ⟨(src.d.den Z).d.take (T.den Z (.imin len src.len)).i.toNat,by simp only [qbB,hns,jas,jbd]; rfl,hl,by rw [hl,hmin],?_⟩;simp only [qcZ,hns,jas,jbd];rw [hl,<- hmin];have:0 <= (T.den Z (.imin len src.len)).i:=by simp only [T.den,O2.den]; split <;> omega
        omega
      have hXfit:∀ row ∈ X,qv (z.map qa4) row:=fun row hr=>hS.fits row (by rw [hXt] at hr; exact jbx hr)
      obtain ⟨hk,hreg⟩:=qO hat;simp only [SH.reg,jaa] at hreg; subst hreg;obtain ⟨hO,hd,hst,hsub,hwi⟩:=hs.hp;obtain ⟨t1,t2',td,tu,tx,tss⟩:=qae hst hk;have hXle:(off.den Z).i.toNat + X.length <= (d.den Z).d.length:=by
       have:X.length <= (len.den Z).i.toNat:=by rw [hXl]; exact Nat.min_le_right _ _
       omega
      have hdn:(T.den Z (.c3 .dsplice d off (qbB len src))).d = qaZ (d.den Z).d (off.den Z).i.toNat X:=by
       rw [<- hX]; rfl
      have hsz1:(P.info? el).map (·.size) = some 1:=by
       obtain ⟨i,hi,his⟩:=qlp hsz;rw [hi]; simp [his]
      have hret:SV.den (Z.set s.nx {}) (.one (.vint .i64 (qcZ len src))) = .int .i64 (X.length:Int):=by
       simp only [SV.den,T.den,O1.den];rw [<- T.den_congr hag _ hin2,hm]
      by_cases h0:X.length = 0
      ·have hXn:X = []:=jdi h0
       have hdd:qaZ (d.den Z).d (off.den Z).i.toNat X = (d.den Z).d:=by rw [hXn]; simp [qaZ]
       have hx':SH.den Z (.arr rr ty (z.map qa4) (.c3 .dsplice d off (qbB len src)) capA) t1:=by
        simp only [SH.den,hdn,hdd] at tx ⊢;exact tx
       refine ⟨[{}],w,rfl,by simp [U.good,Value.oneCell'],qs.congr ⟨hO,hd,by rw [tu]; exact qdr hk tss td hx',hsub,hwi⟩ (qet hin1) hag,?_,fun h=>by cases h⟩;simp only [Ran,qq,hret,h0];have hrun:=run_copy_none (P:=P) w t t2 o.type el (qn (Z rr).r (off.den Z).i.toNat) yb (len.den Z).i.toNat (cap.den Z).i.toNat (src.len.den Z).i.toNat yc hu hsz1 (by rw [<- hXl,h0]);have hev':a.eval x = .slice (qn (Z rr).r (off.den Z).i.toNat) (len.den Z).i.toNat (cap.den Z).i.toNat:=by rw [hev]; simp [SV.den,T.den,O3.den]
       simp [execOp,hop,resolve,invoke,builtin,hargs,htys,hev',hey,hrun,goInt]
      ·-- both are qig
       rcases tx with ⟨_,hd0,_⟩ | ⟨b,c0,g1,g2,g3,g4,g5⟩
       ·rw [hd0,jct] at hXle; omega
       have hM:X.length <= (src.len.den Z).i.toNat:=by rw [hXl]; exact Nat.min_le_left _ _
       have hsl:=qgJ hpl hS.fits;cases yb with
       | none =>
        exfalso;have hfl0:qo (src.d.den Z).d = []:=by
         simp [Builtin.firstCells] at hcells
         first | exact hcells | exact hcells.symm
        have:=hsl.1;rw [hfl0,hS.len,jct] at this;omega
       | some ad =>
        have hfX:=qgJ hpl hXfit;have hsrcc:∀ j v,(qo X)[j]? = some v->w.cell? (ad.add j) = some v:=fun j v hv=>by
         refine hS.read ad yc hyv j v ?_;rw [<- hv,hsl.2,hfX.2,hXt,jbb];have:j < X.length:=by rw [<- hfX.1]; exact (jan.1 hv).1
         simp [this]
        have hle:Hp.le t1 (Hp.union hF hO):=Hp.le_trans (tu ▸ Hp.le_left t1 t2') (Hp.le_right hd);have hwb:=hsub _ _ (hle _ _ g2);have hc0:(d.den Z).d.length <= c0.size:=by rw [g3,hpl]; omega
        have hgoodX:∀ v ∈ qo X,v.oneCell' = true:=fun v hv=>by
         have hg:=T.den_good hs.gd (qbB len src);rw [U.good,hX] at hg;obtain ⟨row,hr,hv⟩:=jfa.1 hv;exact hg.2 row hr v hv
        have hrun:=run_copy_row (P:=P) w t t2 o.type el b (off.den Z).i.toNat (len.den Z).i.toNat (cap.den Z).i.toNat ad (src.len.den Z).i.toNat yc c0 ty (qo X) hu hsz1 hwb (by rw [hfX.1,hXl]) hsrcc (by rw [hfX.1]; omega) hgoodX;have hwr:qir c0 (c0.toList.take (off.den Z).i.toNat ++ qo X ++ c0.toList.drop ((off.den Z).i.toNat + (qo X).length)).toArray (off.den Z).i.toNat (qo X):=by
         have hb:(off.den Z).i.toNat + (qo X).length <= c0.size:=by rw [hfX.1]; omega
         refine ⟨by simp; omega,fun j=>?_⟩;have:=qdt (row:=c0.toList) (c:=(off.den Z).i.toNat) (vs:=qo X) (by simpa using hb) j;simp only [qas] at this;rw [jda,this];simp
        generalize hc1:(c0.toList.take (off.den Z).i.toNat ++ qo X ++ c0.toList.drop ((off.den Z).i.toNat + (qo X).length)).toArray = c1 at hrun hwr;have hset:(w.setRow b c1).heap[b]? = some (.cells c1 ty (0,0)):=setRow_heap w b c0 _ ty (0,0) hwb;have hoth:∀ b',b' ≠ b->(w.setRow b c1).heap[b']? = w.heap[b']?:=fun b' hne=>by
         simp only [World.setRow,jb9];rw [jaf (fun h=>hne h.symm)]
        have hx':SH.den Z (.arr rr ty (z.map qa4) (.c3 .dsplice d off (qbB len src)) capA) (Hp.upd t1 b (.cells c1 ty (0,0))):=by
         refine .inr ⟨b,c1,g1,by simp [Hp.upd],by rw [hwr.1,g3],?_,?_⟩
         ·rw [hdn,qhg hXle]; exact g4
         ·rw [hdn]; exact qvh hpl g5 hXfit hXle hwr
        have hbase:=qs.wrote hd hsub hwi hk td tu tss g2 hx' hset hoth ⟨rfl,rfl⟩;refine ⟨[{}],_,rfl,by simp [U.good,Value.oneCell'],qs.congr hbase (qet hin1) hag,?_,fun h=>by cases h⟩;simp only [Ran,qq,hret];have hev':a.eval x = .slice (some ⟨b,(off.den Z).i.toNat,none⟩) (len.den Z).i.toNat (cap.den Z).i.toNat:=by rw [hev]; simp [SV.den,T.den,O3.den,g1,qn]
        rw [hfX.1] at hrun;simp [execOp,hop,resolve,invoke,builtin,hargs,htys,hev',hey,hrun,goInt,hfX.1]
     ·simp at h
    ·simp at h
   ·simp at h
  ·simp at h
 ·simp at h
theorem qDX {hs:Holds Z hF s a w} {len:T} {src:Src} {pat:List CK} {v:Value} (l0:0 <= (len.den Z).i) (hs0:0 <= (src.len.den Z).i) (hS:SrcOk (P:=P) w pat v (src.d.den Z).d (src.len.den Z).i.toNat) :
  ∃ X,((qbB len src).den Z).d = X/\X.length = Nat.min (src.len.den Z).i.toNat (len.den Z).i.toNat/\X = (src.d.den Z).d.take X.length/\((qcZ len src).den Z).i = (X.length:Int):=by
 have hmx:∀ a b:Nat,Nat.min a b = min a b:=fun _ _=>rfl
 by_cases hsame:len.same src.len = true
 ·have he:=T.same_eq hsame
  refine ⟨(src.d.den Z).d,by simp only [qbB,hsame,jbz],by rw [hS.len,he]; exact (Nat.min_self _).symm,by rw [List.take_length],?_⟩;simp only [qcZ,hsame,jbz]; rw [hS.len,he]; omega
 ·have hmin:(T.den Z (.imin len src.len)).i.toNat = Nat.min (src.len.den Z).i.toNat (len.den Z).i.toNat:=by
   simp only [T.den,O2.den];rw [hmx]; split <;> omega
  have hl:((src.d.den Z).d.take (T.den Z (.imin len src.len)).i.toNat).length = Nat.min (src.len.den Z).i.toNat (len.den Z).i.toNat:=by
   rw [jbe,hmin,hS.len,hmx]; omega
  have hns:len.same src.len = false:=by simpa using hsame
  refine ⟨(src.d.den Z).d.take (T.den Z (.imin len src.len)).i.toNat,by simp only [qbB,hns,jas,jbd]; rfl,hl,by rw [hl,hmin],?_⟩;simp only [qcZ,hns,jas,jbd];rw [hl,<- hmin];have:0 <= (T.den Z (.imin len src.len)).i:=by simp only [T.den,O2.den]; split <;> omega
  omega
theorem qwg {c0 c1:Array Value} {pat:List CK} {d x:List (List Value)} {k:Nat} {ck:CK} (h:qT c0 0 pat d) (hx:∀ row ∈ x,qv [ck] row) (hk:k + x.length <= pat.length) (hp:∀ i,i < x.length->pat[k + i]? = some ck)
  (hw:qir c0 c1 k (qo x)):qT c1 0 pat (qa6 d k x):=by
 obtain ⟨f1,f2⟩:=qgJ (pat:=[ck]) rfl hx;have hw2:=hw.2;cases d with
 | nil=>intro i row hi; simp [qa6] at hi
 | cons row0 rest =>
  obtain ⟨⟨hl0,hf0⟩,hc0⟩:=h 0 row0 rfl;have hml:(x.map fun r=>r.headD .nilFunc).length = x.length:=ja7 ..;have hmg:∀ i,i < x.length->(x.map fun r=>r.headD .nilFunc)[i]? = (qo x)[i]?:=fun i hi=>by
   rw [f2,jaq,jac hi];have hr:=(hx _ (jbv hi)).1
   match hx1:x[i],hr with
   | [v],_=>simp
  intro i row hi
  match i,hi with
  | 0,hi =>
   simp only [qa6,jav,jaa] at hi;subst hi;have hsl:(qas row0 k (x.map fun r=>r.headD .nilFunc)).length = row0.length:=by simp [qas]; omega
   have hget:=qdt (row:=row0) (c:=k) (vs:=x.map fun r=>r.headD .nilFunc) (by rw [hml]; omega);refine ⟨⟨by rw [hsl,hl0],fun q kq v h1 h2=>?_⟩,fun q v hv=>?_⟩
   ·rw [hget q] at h2
    split at h2
    ·rename_i hin
     rw [hml] at hin;rw [hmg _ (by omega),f2] at h2;have hpq:=hp (q - k) (by omega);rw [show k + (q - k) = q by omega,h1] at hpq;simp only [jaa] at hpq;subst hpq;simp only [jam] at h2;obtain ⟨r,hr,hv⟩:=h2;exact (hx r (jbl hr)).2 0 kq v rfl hv
    ·exact hf0 q kq v h1 h2
   ·rw [hget q] at hv
    rw [show 0 + 0 * pat.length + q = q by omega,hw2];split at hv
    ·rename_i hin
     rw [hml] at hin;rw [jah (by rw [f1]; omega),<- hmg _ (by omega)];exact hv
    ·rename_i hin
     rw [hml] at hin;rw [jaf (by rw [f1]; omega)];have:=hc0 q v hv
     rwa [show 0 + 0 * pat.length + q = q by omega] at this
  | i + 1,hi =>
   have hi':(row0 :: rest)[i + 1]? = some row:=hi;obtain ⟨g1,g2⟩:=h (i + 1) row hi';refine ⟨g1,fun q v hv=>?_⟩;have hge:pat.length <= (i + 1) * pat.length:=by
    have:=jbq pat.length (show 1 <= i + 1 by omega);omega
   rw [hw2,jaf (by rw [f1]; omega)];exact g2 q v hv
theorem q3e {d x:List (List Value)} {k:Nat}:(qa6 d k x).length = d.length:=by cases d <;> rfl
theorem q6Q (hg:Z.good) {y:SH} {pat:List CK} {d:T} {r:Nat} {ty:TypeId} {cap:T} {H:Hp} (h:qho y = some (pat,d)) (hr:y.reg = some r) (hy:(∃ cs,y = .cells r ty cs/\cap = .lit 1)∨y = .arr r ty pat d cap) (hro:y.den Z H) (hd:0 < (d.den Z).d.length) :
  ∃ b c,(Z r).r = some ⟨b,0,none⟩/\H b = some (.cells c ty (0,0))/\c.size = (cap.den Z).i.toNat * pat.length/\((d.den Z).d.length:Int) <= (cap.den Z).i/\qT c 0 pat (d.den Z).d:=by
 rcases hy with ⟨cs,rfl,rfl⟩ | rfl
 ·simp only [qho,jaa,jau] at h
  obtain ⟨rfl,rfl⟩:=h;obtain ⟨b,h1,h2⟩:=hro;refine ⟨b,_,h1,h2,by simp [T.den,O0.den,qd],by rw [qmj]; simp [T.den,O0.den],fun i row hi=>?_⟩;rw [qmj] at hi
  match i,hi with
  | 0,hi =>
   simp only [jav,jaa] at hi;subst hi;exact ⟨qmT hg cs,fun k v hv=>by simpa using hv⟩
  | i + 1,hi=>simp at hi
 ·rcases hro with ⟨_,h2,_⟩ | hro
  ·rw [h2] at hd; simp at hd
  ·exact hro
theorem qod {t t2:TypeId} {args:Array Operand} {tys:Array TypeId} {x y:Operand} {el ty:TypeId} {rr:Nat} {off len cap capA d l:T} {kk:IntKind} {k zz:Nat} {pat:List CK} {src:Src} {ns:List T} {ya:SV} {xh:SH} (hs:Holds Z hF s a w) (hop:o.op = .call { callee:=.builtin .copy,args:=args,argTypes:=tys }) (hargs:args = #[x,y]) (htys:tys = #[t,t2])
  (hx:opd s x = some (.one (.c3 (.vslice rr 1) off len cap))) (hy:opd s y = some ya) (hu:P.underlying t = some (.slice el)) (hsz:qV P el = some 1) (hat:qal rr s.heap = some (k,xh)) (hsrc:qhv s [.int kk] ya = some src) (hoff:qkL off = some (zz,l,ns))
  (hrow:qho xh = some (pat,d)) (hxh:(∃ cs,xh = .cells rr ty cs/\capA = .lit 1)∨xh = .arr rr ty pat d capA) (hzp:zz <= pat.length)
  (hin1:(s.heap.set k (.arr rr ty pat (.c3 .xcopy d off (qbB len src)) capA)).all (SH.inNx0 s.nx) = true) (hin2:(qcZ len src).inB s.nx = true)
  (hr:r = { needs:=qhb (.int kk) pat zz l len d ns ++ src.needs,fresh:=1,heap:=s.heap.set k (.arr rr ty pat (.c3 .xcopy d off (qbB len src)) capA),val:=some (.one (.vint .i64 (qcZ len src))) })
  (hn:∀ c ∈ r.needs,(c.den Z).b = true):qi P Z hF s a w o r:=by
 subst hr;have hev:=hs.opd hx;have hey:=hs.opd hy;have hnA:∀ c ∈ qhb (.int kk) pat zz l len d ns,(c.den Z).b = true:=fun c hc=>hn c (jb3 _ hc)
 have n4:∀ c ∈ src.needs,(c.den Z).b = true:=fun c hc=>hn c (jcs _ hc)
 obtain ⟨o0,l0,hdl,hfit,hpk⟩:=qnc hzp hoff hnA;obtain ⟨hs0,hS⟩:=qcT (P:=P) (pat:=[.int kk]) (by simp) hs hsrc n4;obtain ⟨yb,yc,hyv⟩:=hS.shape;have hcells:=hS.cells w.heap w.drawn rfl;rw [hyv] at hey hcells;have hag:∀ m,m < s.nx->Z m = (Z.set s.nx {}) m:=fun m hm=>(Env.set_ne Z _ (by omega)).symm
 obtain ⟨X,hX,hXl,hXt,hm⟩:=qDX (hs:=hs) l0 hs0 hS;have hXfit:∀ row ∈ X,qv [.int kk] row:=fun row hr=>hS.fits row (by rw [hXt] at hr; exact jbx hr)
 obtain ⟨hk,hreg⟩:=qO hat;obtain ⟨hO,hd,hst,hsub,hwi⟩:=hs.hp;obtain ⟨t1,t2',td,tu,tx,tss⟩:=qae hst hk;obtain ⟨b,c0,g1,g2,g3,g4,g5⟩:=q6Q hs.gd hrow hreg hxh tx hdl;have hXL:X.length <= (len.den Z).i.toNat:=by rw [hXl]; exact Nat.min_le_right _ _
 have hdn:(T.den Z (.c3 .xcopy d off (qbB len src))).d = qa6 (d.den Z).d (off.den Z).i.toNat X:=by
  rw [<- hX]; rfl
 have hsz1:(P.info? el).map (·.size) = some 1:=by
  obtain ⟨i,hi,his⟩:=qlp hsz;rw [hi]; simp [his]
 have hret:SV.den (Z.set s.nx {}) (.one (.vint .i64 (qcZ len src))) = .int .i64 (X.length:Int):=by
  simp only [SV.den,T.den,O1.den];rw [<- T.den_congr hag _ hin2,hm]
 have hle:Hp.le t1 (Hp.union hF hO):=Hp.le_trans (tu ▸ Hp.le_left t1 t2') (Hp.le_right hd);have hwb:=hsub _ _ (hle _ _ g2);by_cases h0:X.length = 0
 ·have hXn:X = []:=jdi h0
  have hdd:qa6 (d.den Z).d (off.den Z).i.toNat X = (d.den Z).d:=by
   rw [hXn];cases (d.den Z).d with
   | nil=>rfl
   | cons r0 rest=>simp [qa6,qas]
  have hx':SH.den Z (.arr rr ty pat (.c3 .xcopy d off (qbB len src)) capA) t1:=by
   refine .inr ⟨b,c0,g1,g2,g3,?_,?_⟩
   ·rw [hdn,hdd]; exact g4
   ·rw [hdn,hdd]; exact g5
  refine ⟨[{}],w,rfl,by simp [U.good,Value.oneCell'],qs.congr ⟨hO,hd,by rw [tu]; exact qdr hk tss td hx',hsub,hwi⟩ (qet hin1) hag,?_,fun h=>by cases h⟩;simp only [Ran,qq,hret,h0];have hrun:=run_copy_none (P:=P) w t t2 o.type el (qn (Z rr).r (off.den Z).i.toNat) yb (len.den Z).i.toNat (cap.den Z).i.toNat (src.len.den Z).i.toNat yc hu hsz1 (by rw [<- hXl,h0]);have hev':a.eval x = .slice (qn (Z rr).r (off.den Z).i.toNat) (len.den Z).i.toNat (cap.den Z).i.toNat:=by rw [hev]; simp [SV.den,T.den,O3.den]
  simp [execOp,hop,resolve,invoke,builtin,hargs,htys,hev',hey,hrun,goInt]
 ·have hM:X.length <= (src.len.den Z).i.toNat:=by rw [hXl]; exact Nat.min_le_left _ _
  have hsl:=qgJ (pat:=[CK.int kk]) rfl hS.fits;cases yb with
  | none =>
   exfalso;have hfl0:qo (src.d.den Z).d = []:=by
    simp [Builtin.firstCells] at hcells
    first | exact hcells | exact hcells.symm
   have:=hsl.1;rw [hfl0,hS.len,jct] at this;omega
  | some ad =>
   have hfX:=qgJ (pat:=[CK.int kk]) rfl hXfit;have hsrcc:∀ j v,(qo X)[j]? = some v->w.cell? (ad.add j) = some v:=fun j v hv=>by
    refine hS.read ad yc hyv j v ?_;rw [<- hv,hsl.2,hfX.2,hXt,jbb];have:j < X.length:=by rw [<- hfX.1]; exact (jan.1 hv).1
    simp [this]
   have hc0:pat.length <= c0.size:=by
    rw [g3];have h1:1 <= (capA.den Z).i.toNat:=by omega
    have:=jbq pat.length h1;omega
   have hgoodX:∀ v ∈ qo X,v.oneCell' = true:=fun v hv=>by
    have hg:=T.den_good hs.gd (qbB len src);rw [U.good,hX] at hg;obtain ⟨row,hr,hv⟩:=jfa.1 hv;exact hg.2 row hr v hv
   have hrun:=run_copy_row (P:=P) w t t2 o.type el b (off.den Z).i.toNat (len.den Z).i.toNat (cap.den Z).i.toNat ad (src.len.den Z).i.toNat yc c0 ty (qo X) hu hsz1 hwb (by rw [hfX.1,hXl]) hsrcc (by rw [hfX.1]; omega) hgoodX;have hwr:qir c0 (c0.toList.take (off.den Z).i.toNat ++ qo X ++ c0.toList.drop ((off.den Z).i.toNat + (qo X).length)).toArray (off.den Z).i.toNat (qo X):=by
    have hb:(off.den Z).i.toNat + (qo X).length <= c0.size:=by rw [hfX.1]; omega
    refine ⟨by simp; omega,fun j=>?_⟩;have:=qdt (row:=c0.toList) (c:=(off.den Z).i.toNat) (vs:=qo X) (by simpa using hb) j;simp only [qas] at this;rw [jda,this];simp
   generalize hc1:(c0.toList.take (off.den Z).i.toNat ++ qo X ++ c0.toList.drop ((off.den Z).i.toNat + (qo X).length)).toArray = c1 at hrun hwr;have hset:(w.setRow b c1).heap[b]? = some (.cells c1 ty (0,0)):=setRow_heap w b c0 _ ty (0,0) hwb;have hoth:∀ b',b' ≠ b->(w.setRow b c1).heap[b']? = w.heap[b']?:=fun b' hne=>by
    simp only [World.setRow,jb9];rw [jaf (fun h=>hne h.symm)]
   have hx':SH.den Z (.arr rr ty pat (.c3 .xcopy d off (qbB len src)) capA) (Hp.upd t1 b (.cells c1 ty (0,0))):=by
    refine .inr ⟨b,c1,g1,by simp [Hp.upd],by rw [hwr.1,g3],?_,?_⟩
    ·rw [hdn,q3e]; exact g4
    ·rw [hdn]; exact qwg g5 hXfit (by omega) (fun i hi=>hpk i (by omega)) hwr
   have hbase:=qs.wrote hd hsub hwi hk td tu tss g2 hx' hset hoth ⟨rfl,rfl⟩;refine ⟨[{}],_,rfl,by simp [U.good,Value.oneCell'],qs.congr hbase (qet hin1) hag,?_,fun h=>by cases h⟩;simp only [Ran,qq,hret];have hev':a.eval x = .slice (some ⟨b,(off.den Z).i.toNat,none⟩) (len.den Z).i.toNat (cap.den Z).i.toNat:=by rw [hev]; simp [SV.den,T.den,O3.den,g1,qn]
   rw [hfX.1] at hrun;simp [execOp,hop,resolve,invoke,builtin,hargs,htys,hev',hey,hrun,goInt,hfX.1]
theorem q2P {t t2:TypeId} {xa ya:SV} {args:Array Operand} {tys:Array TypeId} {x y:Operand} (hs:Holds Z hF s a w) (hop:o.op = .call { callee:=.builtin .copy,args:=args,argTypes:=tys }) (hargs:args = #[x,y]) (htys:tys = #[t,t2])
  (hx:opd s x = some xa) (hy:opd s y = some ya) (h:qnw P s t xa ya = some r) (hn:∀ c ∈ r.needs,(c.den Z).b = true):qi P Z hF s a w o r:=by
 unfold qnw at h;split at h
 ·rename_i el rg p off len cap hu
  split at h
  ·rename_i z hz hsz
   split at h
   ·rename_i kk k xh src zz l ns hkz hat hsrc hoff
    rw [hkz] at hsrc;obtain ⟨_,hreg⟩:=qO hat;split at h
    ·rename_i pat d rr ty cs _ hrow
     split at h
     ·rename_i hc
      simp only [jag] at hc;obtain ⟨⟨⟨⟨hp1,hzp⟩,_⟩,hin1⟩,hin2⟩:=hc;have hp1:=Nat.eq_of_beq_eq_true hp1;subst hp1;simp only [SH.reg,jaa] at hreg; subst hreg;simp only [jaa] at h;exact qod hs hop hargs htys hx hy hu hsz hat hsrc hoff hrow (.inl ⟨cs,rfl,rfl⟩) (jfd hzp) hin1 hin2 h.symm hn
     ·cases h
    ·rename_i pat d rr ty pat' d' cap' _ hrow
     split at h
     ·rename_i hc
      simp only [jag] at hc;obtain ⟨⟨⟨⟨hp1,hzp⟩,_⟩,hin1⟩,hin2⟩:=hc;have hp1:=Nat.eq_of_beq_eq_true hp1;subst hp1;simp only [SH.reg,jaa] at hreg; subst hreg;have hrow':=hrow;simp only [qho,jaa,jau] at hrow';obtain ⟨rfl,rfl⟩:=hrow';simp only [jaa] at h;exact qod hs hop hargs htys hx hy hu hsz hat hsrc hoff hrow (.inr rfl) (jfd hzp) hin1 hin2 h.symm hn
     ·cases h
    ·cases h
   ·cases h
  ·cases h
 ·cases h
theorem qbO {α:Type} {l:Array α} {x y:α} (h:l.toList = [x,y]):l = #[x,y]:=by cases l; simp_all
theorem qil {α:Type} {l:Array α} {x:α} (h:l.toList = [x]):l = #[x]:=by cases l; simp_all
theorem qsI {g R:Nat} (h:((T.c1 (.isg g) (.var R)).den Z).b = true):(Z R).r = some ⟨g,0,none⟩:=jbh h
theorem qkt {ip:List (Nat × Nat)} (hs:Holds Z hF s a w) (h:qrW P ip s o = some r) (hn:∀ c ∈ r.needs,(c.den Z).b = true) (hsc:r.fresh = 0∨s.scopedEH = true):qi P Z hF s a w o r:=by
 unfold qrW at h;split at h
 ·rename_i t g hop
  have hev:a.eval (.global g) = .pointer (some ⟨g,0,none⟩):=rfl;split at h
  ·rename_i R ag n hR hag hsz
   split at h
   ·rename_i k y hf
    obtain ⟨H,hsub,hro,hreg⟩:=hs.found hf;split at h
    ·rename_i cs needs hrd
     split at h
     ·rename_i hagt
      simp only [jaa] at h; subst h; subst hagt;have hg:=qsI (hn _ (jae ..));obtain ⟨hl,b,off,c',ty,fr,h1,h2,h3⟩:=qfa hrd hro hreg fun c hc=>hn c (jad _ hc)
      rw [hg] at h1;simp only [jaa,Addr.mk.injEq] at h1;obtain ⟨rfl,rfl,_⟩:=h1;refine qi.quiet hs ?_;have hrun:=qdJ (P:=P) (w:=w) hag hsz (hsub _ _ h2) (by simp [qd,hl]) h3 (by simp);simp [T.den,O0.den] at hrun;simp [execOp,hop,hev,Instr.loadAt,Instr.sureAddr,hrun,SV.den]
     ·rename_i hagf
      split at h
      ·rename_i t' _
       simp only [jaa] at h; subst h;have hg:=qsI (hn _ (jae ..));obtain ⟨hl,b,off,c',ty,fr,h1,h2,h3⟩:=qfa hrd hro hreg fun c hc=>hn c (jad _ hc)
       rw [hg] at h1;simp only [jaa,Addr.mk.injEq] at h1;obtain ⟨rfl,rfl,_⟩:=h1;refine qi.quiet hs ?_;have hagf':ag = false:=by simpa using hagf
       have hrun:=qdJ (P:=P) (w:=w) hag hsz (hsub _ _ h2) (by rw [<- hl]; simp [qd]) h3 (fun _=>by rw [<- hl]; rfl);subst hagf';simp [T.den,O0.den] at hrun;simp [execOp,hop,hev,Instr.loadAt,Instr.sureAddr,hrun,qd,SV.den]
      ·simp at h
    ·simp at h
   ·simp at h
  ·simp at h
 ·rename_i t g i hop
  have hev:a.eval (.global g) = .pointer (some ⟨g,0,none⟩):=rfl;split at h
  ·rename_i R m el k j hR hu hi
   have hei:=hs.opd hi;split at h
   ·rename_i n hsz
    simp only [jaa] at h; subst h;have hg:=qsI (hn _ (jae ..));have h0:=qw (hn _ (jad _ (jae ..)));have h1:=hn _ (jad _ (jad _ (jae ..)));rw [qK _ _ _ (by simp)] at h1;have h1:(j.den Z).i < (m:Int):=jbh h1;refine qi.quiet hs ?_;simp only [SV.den,T.den,O1.den] at hei ⊢;have hcond:0 <= (j.den Z).i/\(j.den Z).i < (m:Int):=⟨h0,h1⟩;simp [execOp,hop,hev,hei,Instr.indexAt,Instr.sureAddr,asIntOf,qu hu,qaI hsz,hcond,hg,qn,Addr.add];exact fun h=>h.symm
   ·simp at h
  ·simp at h
 ·exact qyM hs h hn hsc
theorem q0w {t ty el:TypeId} {i:TypeInfo} {z:Value} {pat:List CK} {base:Option Addr} {cap n m:Nat} {d dd:List (List Value)} {y:Value}
  (hX:SrcOk (P:=P) w pat (.slice base n cap) d n) (hS:SrcOk (P:=P) w pat y dd m) (hg:cap < n + m) (ht:P.underlying t = some (.slice el)) (hi:P.info? el = some i) (hz:i.zero = some z) (hzs:z.cells.size = i.size) (hp:pat.length = i.size) (hp0:0 < i.size) (hb0:0 < i.bytes)
  (hb:(n + m) * i.bytes <= 140737488355328) :
  ∃ G ob,(Builtin.append_ #[t,t] ty #[.slice base n cap,y]).run P w = .ok (.slice (some ⟨w.heap.size,0,none⟩) (n + m) G) (w.drew.alloc (.cells ob el))/\ob.size = G * pat.length/\n + m <= G/\qT ob 0 pat (d ++ dd):=by
 obtain ⟨yb,yc,rfl⟩:=hS.shape;have hlen:∀ w':World,(Builtin.lenOf (.slice yb m yc)).run P w' = .ok m w':=fun _=>rfl
 have hcD:(Builtin.firstCells i.size m (.slice yb m yc)).run P w.drew = .ok (qo dd).toArray w.drew:=by
  have:=hS.cells w.heap (w.drawn + 1) rfl
  rwa [hp] at this
 have hold:(Builtin.firstCells i.size n (.slice base n cap)).run P w.drew = .ok (qo d).toArray w.drew:=by
  have:=hX.cells w.heap (w.drawn + 1) rfl
  rwa [hp] at this
 have hdl:=hS.len;have hdn:=hX.len;have hfl:(qo dd).length = m * i.size:=by rw [<- hdl]; exact qcf (fun row hr=>by rw [(hS.fits row hr).1,hp])
 have hfd:(qo d).length = n * i.size:=by rw [<- hdn]; exact qcf (fun row hr=>by rw [(hX.fits row hr).1,hp])
 have hfit:=growslice_fits hg hb;have hge:=grownCap_ge w (n + m) cap el;have hn:¬ (n + m <= cap):=by omega
 have h63:n + m <= 140737488355328:=jey (by have:=jeo (n + m) hb0; omega) hb;have h63':¬ (9223372036854775807 < ((n:Int) + (m:Int))):=by omega
 have h48':¬ (281474976710656 < Builtin.nextslicecap (n + m) cap * i.bytes):=by omega
 let G:=grownCap w (n + m) cap el
 let ob:Array Value:=((qo d ++ qo dd).toArray ++ Builtin.zeroCells z.cells (G - (n + m)))
 refine ⟨G,ob,?_,?_,hge,?_⟩
 ·simp [Builtin.append_,run_underlying ht,sizeOf,typeInfo,zeroValue,hi,hz,hlen,hn,h63',h48',Question.forced,hcD,hold,newRow,grownCap,ob,G,qn]
  congr 2
  apply jcv;simp [jbr]
 ·simp only [ob,je3,je2,jaj,hfd,hfl,size_zeroCells,hzs,hp,<- jbt]
  congr 1
  simp only [G]; omega
 ·refine qcp (fun row hr=>?_) (fun j v hv=>?_)
  ·rcases jaw.1 hr with h | h
   ·exact hX.fits row h
   ·exact hS.fits row h
  ·rw [qkk] at hv
   have hj:j < (qo d ++ qo dd).length:=by
    rcases jbu j (qo d ++ qo dd).length with h' | h'
    ·exact h'
    ·rw [jat h'] at hv; cases hv
   simp only [ob,jbj];rw [jcw (by simpa using hj)];simpa using hv
theorem q73 {args:Array Operand} {tys:Array TypeId} {x y:Operand} {t:TypeId} {xa ya:SV} (hs:Holds Z hF s a w) (hop:o.op = .call { callee:=.builtin .append,args,argTypes:=tys }) (hargs:args = #[x,y]) (htys:tys = #[t,t]) (hx:opd s x = some xa) (hy:opd s y = some ya) (hsc:s.scopedEH = true)
  (h:qlj P s t xa ya = some r) (hn:∀ c ∈ r.needs,(c.den Z).b = true):qi P Z hF s a w o r:=by
 have hex:=hs.opd hx;have hey:=hs.opd hy;unfold qlj at h;split at h
 ·rename_i el rr p off len cap hu
  split at h
  ·rename_i z n bz hz hsz hbz
   split at h
   ·rename_i hchk
    simp only [jag,jbn] at hchk;have hzl:=Nat.eq_of_beq_eq_true hchk.1.1;split at h
    ·rename_i sx sy hsx hsy
     split at h
     ·simp at h
     ·rename_i hin
      simp only [jbg,jb6,jag] at hin;simp only [jaa] at h; subst h;obtain ⟨i,v,hi,hiz,hzc⟩:=qdu (Z:=Z) hz;have his:i.size = n:=by simpa [qV,hi] using hsz
      have hib:i.bytes = bz:=by simpa [qey,hi] using hbz
      obtain ⟨hx0,hX⟩:=qcT (P:=P) (by simp [hzl]; omega) hs hsx (fun c hc=>hn c (by simp [hc]));obtain ⟨hy0,hY⟩:=qcT (P:=P) (by simp [hzl]; omega) hs hsy (fun c hc=>hn c (by simp [hc]));have n1:=qfA (hn (qr .eql len sx.len) (by simp));have n2:=qfA (hn (qr .eql cap len) (by simp));have n3:=qaP (hn (qr .leq (.lit 1) sy.len) (by simp));have n4:=qaP (hn (qr .leq (.tims (.lit bz) (qau len sy.len)) (.lit 140737488355328)) (by simp));simp only [T.den,O0.den,O2.den,qaO] at n3 n4;have hval:SV.den Z (.one (.c3 (.vslice rr p) off len cap)) = .slice (qn (Z rr).r ((off.den Z).i.toNat * p)) (sx.len.den Z).i.toNat (cap.den Z).i.toNat:=by
       simp only [SV.den,T.den,O3.den,n1]
      rw [hval] at hX hex;have hbb:((sx.len.den Z).i.toNat + (sy.len.den Z).i.toNat) * i.bytes <= 140737488355328:=by
       rw [hib];have e:(((((sx.len.den Z).i.toNat + (sy.len.den Z).i.toNat) * bz:Nat)):Int) = (bz:Int) * ((sx.len.den Z).i + (sy.len.den Z).i):=by
        rw [jdt,Int.natCast_add,jay hx0,jay hy0,jef]
       rw [n1] at n4;omega
      obtain ⟨G,ob,hrun,g1,g2,g3⟩:=q0w (P:=P) (ty:=o.type) hX hY (by omega) hu hi hiz (by rw [hzc,his]; simp [qd,hzl]) (by simp [hzl,his]) (by omega) (by omega) hbb
      let u1:U:={ r:=some ⟨w.heap.size,0,none⟩ }
      let u2:U:={ i:=(G:Int) }
      have hag:∀ m,m < s.nx->Z m = ((Z.set s.nx u1).set (s.nx + 1) u2) m:=fun m hm=>by
       rw [Env.set_ne _ _ (by omega),Env.set_ne _ _ (by omega)]
      have hsh:s.heap.all (SH.inB s.nx) = true:=by
       simp only [S.scopedEH,jag] at hsc; exact hsc.2
      have e1:((Z.set s.nx u1).set (s.nx + 1) u2) s.nx = u1:=by rw [Env.set_ne _ _ (by omega),Env.set_same]
      have e2:((Z.set s.nx u1).set (s.nx + 1) u2) (s.nx + 1) = u2:=Env.set_same ..;have hd':((qjL sx.d sy.d).den ((Z.set s.nx u1).set (s.nx + 1) u2)).d = (sx.d.den Z).d ++ (sy.d.den Z).d:=by
       rw [<- T.den_congr hag _ hin.1,quG]
      have hl':((qau len sy.len).den ((Z.set s.nx u1).set (s.nx + 1) u2)).i.toNat = (sx.len.den Z).i.toNat + (sy.len.den Z).i.toNat:=by
       rw [<- T.den_congr hag _ hin.2,qaO,n1]; omega
      have lx:=hX.len;have ly:=hY.len;refine ⟨[u1,u2],w.drew.alloc (.cells ob el),rfl,by simp [U.good,u1,u2,Value.oneCell'],?_,?_,fun h=>by cases h⟩
      ·refine qs.new (n:=s.nx) (d:=w.drawn + 1) hs.hp hsh hag (.inr ⟨w.heap.size,ob,?_,by simp [Hp.one],?_,?_,?_⟩)
       ·simp only [qq]; rw [e1]
       ·simp only [qq,T.den]; rw [e2]; simp [u2,g1]
       ·simp only [qq,T.den]; rw [e2,hd']; simp only [u2,jaj,lx,ly]; omega
       ·simp only [qq]; rw [hd']; exact g3
      ·have hv:SV.den ((Z.set s.nx u1).set (s.nx + 1) u2) (.one (.vslice s.nx (.lit 0) (qau len sy.len) (.var (s.nx + 1)) n)) = .slice (some ⟨w.heap.size,0,none⟩) ((sx.len.den Z).i.toNat + (sy.len.den Z).i.toNat) G:=by
        simp only [SV.den,T.den,O0.den,O3.den,hl',e1,e2,u1,u2];simp [qn]
       simp only [Ran,qq,hv];simp [execOp,hop,resolve,invoke,builtin,hargs,htys,hex,hey,hrun]
    ·simp at h
   ·simp at h
  ·simp at h
 ·simp at h
theorem q0c {ip:List (Nat × Nat)} (hs:Holds Z hF s a w) (h:q3p P ip s o = some r) (hn:∀ c ∈ r.needs,(c.den Z).b = true) (hsc:r.fresh = 0∨s.scopedEH = true):qi P Z hF s a w o r:=by
 unfold q3p at h;split at h
 ·rename_i args tys hop
  split at h
  ·split at h
   ·rename_i x y t t2 hargs htys
    split at h
    ·rename_i ht
     have ht:=Nat.eq_of_beq_eq_true ht;subst ht;split at h
     ·rename_i xa ya hx hy
      exact q54 hs hop (qbO hargs) (qbO htys) hx hy h hn
     ·simp at h
    ·simp at h
   ·simp at h
  ·split at h
   ·rename_i r' hr'
    simp only [jaa] at h; subst h;exact qkt hs hr' hn hsc
   ·split at h
    ·rename_i x y t t2 hargs htys
     split at h
     ·rename_i ht
      have ht:=Nat.eq_of_beq_eq_true ht;subst ht;split at h
      ·rename_i xa ya hx hy
       have h2:r.fresh = 2:=by
        unfold qlj at h;split at h
        ·split at h
         ·split at h
          ·split at h
           ·split at h
            ·simp at h
            ·simp only [jaa] at h; subst h; rfl
           ·simp at h
          ·simp at h
         ·simp at h
        ·simp at h
       exact q73 hs hop (qbO hargs) (qbO htys) hx hy (hsc.resolve_left (by omega)) h hn
      ·simp at h
     ·simp at h
    ·simp at h
 ·rename_i args tys hop
  split at h
  ·rename_i x t hargs htys
   split at h
   ·rename_i xa hx
    exact q31 hs hop (qil hargs) (qil htys) hx h hn
   ·simp at h
  ·simp at h
 ·rename_i args tys hop
  split at h
  ·rename_i x y t t2 hargs htys
   split at h
   ·rename_i xa ya hx hy
    split at h
    ·rename_i r' hr'
     simp only [jaa] at h; subst h;exact q72 hs hop (qbO hargs) (qbO htys) hx hy hr' hn
    ·exact q2P hs hop (qbO hargs) (qbO htys) hx hy h hn
   ·simp at h
  ·simp at h
 ·exact qkt hs h hn hsc
theorem qvo (ip:List (Nat × Nat)) (o:Oper) (hs:Holds Z hF s a w):Holds Z hF (qg9 ip s o) a w/\(qg9 ip s o).nx = s.nx/\(qg9 ip s o).ro = s.ro/\(qg9 ip s o).nt = s.nt:=by
 unfold qg9
 repeat' split
 all_goals first | exact ⟨hs,rfl,rfl,rfl⟩ | skip
 rename_i rg p off len cap hx _ k rr ty pat d cap' hat;obtain ⟨hk,hreg⟩:=qO hat;obtain ⟨hO,hd,hst,hsub,hwi⟩:=hs.hp;obtain ⟨t1,t2,td,tu,tx,tss⟩:=qae hst hk;refine ⟨⟨hs.gd,hs.nt,hs.df,hs.env,hs.ro,⟨hO,hd,?_,hsub,hwi⟩,hs.pc,hs.vw⟩,rfl,rfl,rfl⟩;rw [tu];refine qdr hk tss td ?_;have htake:((T.dtake d len).den Z).d = (d.den Z).d.take (len.den Z).i.toNat:=rfl;rcases tx with ⟨h1,h2,h3⟩ | ⟨b,c,h1,h2,h3,h4,h5⟩
 ·exact .inl ⟨h1,by rw [htake,h2]; simp,h3⟩
 ·refine .inr ⟨b,c,h1,h2,h3,?_,fun i row hi=>h5 i row ?_⟩
  ·rw [htake,jbe]; omega
  ·rw [htake,jbb] at hi; split at hi
   ·exact hi
   ·cases hi
end Go.Eng
namespace Go.Eng
open Go
variable {P:Program} {Z:Env} {hF:Fr} {s:S} {a:Act} {w:World} {o:Oper}
def qeP (mt:MT):List ME->List Int->Nat->Option (Nat × Value)
 | [],_,_=>none
 | x :: l,k,i=>if x.k == k then some (i,mkV mt.vagg x.v) else qeP mt l k (i + 1)
theorem qic {mt:MT}:∀ {l:List ME} {k:List Int} {i:Nat},qaM l k = false->qeP mt l k i = none
 | [],_,_,_=>rfl
 | x :: l,k,i,h=>by
  simp only [qaM,List.any_cons,Bool.or_eq_false_iff] at h;simp only [qeP,h.1,jas,jbd];exact qic h.2
theorem qjQ {l:List ME} {k:List Int} {z:List Value} (h:qaM l k = false):qcQ l k z = z:=by
 unfold qcQ;rw [jd9.2];intro x hx;have:=je4.1 h x hx;simpa using this
theorem qe9 {mt:MT}:∀ {l:List ME} {k:List Int} {i:Nat},qaM l k = true->∃ j x,l[j]? = some x/\x.k = k/\qeP mt l k i = some (i + j,mkV mt.vagg x.v)/\∀ z,qcQ l k z = x.v
 | [],_,_,h=>by simp [qaM] at h
 | x :: l,k,i,h=>by
  cases hx:(x.k == k) with
  | true=>exact ⟨0,x,rfl,by simpa using hx,by simp only [qeP,hx,jbz,jci],fun z=>by simp [qcQ,hx]⟩
  | false =>
   have h':qaM l k = true:=by simpa [qaM,hx] using h
   obtain ⟨j,y,h1,h2,h3,h4⟩:=qe9 (mt:=mt) (i:=i + 1) h';refine ⟨j + 1,y,by simpa using h1,h2,?_,fun z=>?_⟩
   ·simp only [qeP,hx,jas,jbd,h3,jaa,jau,and_true]; omega
   ·rw [<- h4 z]; simp [qcQ,hx]
theorem qiF {l:List ME} {c:Nat} {mt:MT} (h:MWf mt l c) {i j:Nat} {x y:ME} (hi:l[i]? = some x) (hj:l[j]? = some y) (hk:x.k = y.k):i = j:=by
 rcases jdz i j with hlt | he | hlt
 ·exact absurd hk ((jet.1 h.2) i j (jan.1 hi).1 (jan.1 hj).1 hlt |>.2 |> fun g=>by
   rw [(jan.1 hi).2,(jan.1 hj).2] at g; exact g)
 ·exact he
 ·exact absurd hk.symm ((jet.1 h.2) j i (jan.1 hj).1 (jan.1 hi).1 hlt |>.2 |> fun g=>by
   rw [(jan.1 hi).2,(jan.1 hj).2] at g; exact g)
theorem q3S {mt:MT} {l:List ME} {c j:Nat} {x:ME} {k:List Int} {v:List Value} (h:MWf mt l c) (hj:l[j]? = some x) (hk:x.k = k) :
  (l.map mt.ent).toArray.modify j (fun e=>{ e with key:=mkV mt.kagg (qab mt.kks k),val:=mkV mt.vagg v }) = ((l.map fun x=>if x.k = k then { x with v:=v } else x).map mt.ent).toArray:=by
 apply jcv;rw [Array.toList_modify];refine jbs fun i=>?_
 simp only [List.getElem?_modify,jaq];cases hi:l[i]? with
 | none=>simp
 | some y =>
  simp only [ja0,Option.map_eq_map,jaa];by_cases hij:j = i
  ·subst hij
   rw [hj] at hi; cases hi;simp [hk,MT.ent]
  ·rw [jaf hij]
   have:¬ y.k = k:=fun hyk=>hij (qiF h hj hi (hk.trans hyk.symm))
   simp [this]
theorem q6N {mt:MT} {l:List ME} {c j:Nat} {x:ME} {k:List Int} (h:MWf mt l c) (hj:l[j]? = some x) (hk:x.k = k) :
  (l.map mt.ent).toArray.eraseIdxIfInBounds j = ((qnq l k).map mt.ent).toArray:=by
 have hlt:=(jan.1 hj).1;have hx:=(jan.1 hj).2;have hs:j < (l.map mt.ent).toArray.size:=by simpa using hlt
 rw [Array.eraseIdxIfInBounds,dif_pos hs];apply jcv;rw [Array.toList_eraseIdx];simp only [jcj];rw [List.eraseIdx_eq_take_drop_succ,<- jc4,<- jd3,<- jcn]
 congr 1
 have hd:∀ y ∈ l.take j,y.k ≠ k:=fun y hy hyk=>by
  obtain ⟨i,hi,rfl⟩:=jep hy;rw [jbe] at hi;rw [List.getElem_take] at hyk;have:=qiF h (jac (show i < l.length by omega)) hj (hyk.trans hk.symm);omega
 have hd2:∀ y ∈ l.drop (j + 1),y.k ≠ k:=fun y hy hyk=>by
  obtain ⟨i,hi,rfl⟩:=jep hy;rw [jc2] at hi;rw [List.getElem_drop] at hyk;have:=qiF h (jac (show j + 1 + i < l.length by omega)) hj (hyk.trans hk.symm);omega
 conv=>rhs; rw [<- List.take_append_drop j l,jcf hlt]
 unfold qnq;rw [jfr,jdn,hx];simp only [hk,ne_eq,not_true_eq_false,decide_false,jas,jbd];rw [jeq.2 (fun y hy=>by simpa using hd y hy),jeq.2 (fun y hy=>by simpa using hd2 y hy)]
theorem q8W {l:List ME} {k:List Int} (h:qaM l k = false):qnq l k = l:=by
 unfold qnq;rw [jeq];intro x hx;have:=je4.1 h x hx;simpa using this
theorem qkD {mt:MT} {l:List ME} {c:Nat} {k:List Int} {v:List Value} (h:MWf mt l c) (hk:k.length = mt.kks.length) (hv:qv mt.vpat v):MWf mt (qbg l k v c).1 (qbg l k v c).2:=by
 unfold qbg;by_cases hh:qaM l k = true
 ·rw [jah hh]
  refine ⟨fun x hx=>?_,?_⟩
  ·obtain ⟨y,hy,rfl⟩:=jbk.1 hx
   have:=h.1 y hy;split
   ·exact ⟨this.1,hv,this.2.2⟩
   ·exact this
  ·rw [jfv]
   refine h.2.imp fun {x y} hxy=>?_
   have e1:(if x.k = k then { x with v:=v } else x).k = x.k:=by split <;> rfl
   have e2:(if y.k = k then { y with v:=v } else y).k = y.k:=by split <;> rfl
   have e3:(if x.k = k then { x with v:=v } else x).born = x.born:=by split <;> rfl
   have e4:(if y.k = k then { y with v:=v } else y).born = y.born:=by split <;> rfl
   rw [e1,e2,e3,e4]; exact hxy
 ·rw [jaf hh]
  have hh:qaM l k = false:=by simpa using hh
  refine ⟨fun x hx=>?_,?_⟩
  ·rcases jaw.1 hx with hx | hx
   ·have:=h.1 x hx; exact ⟨this.1,this.2.1,Nat.lt_succ_of_lt this.2.2⟩
   ·rw [jak] at hx; subst hx; exact ⟨hk,hv,Nat.lt_succ_self c⟩
  ·refine List.pairwise_append.2 ⟨h.2,List.pairwise_singleton _ _,fun x hx y hy=>?_⟩
   rw [jak] at hy; subst hy;have:=je4.1 hh x hx;exact ⟨(h.1 x hx).2.2,by simpa using this⟩
structure KeyOk (P:Program) (kt:TypeId) (ka:Bool) (ks:List IntKind):Prop where
 check:∀ (em:Bool) (k:List Int) (w:World),k.length = ks.length->(Instr.checkKey em 10000 kt (mkV ka (qab ks k))).run P w = .ok () w
 find:∀ (mt:MT) (k:List Int) (l:List ME) (w:World),mt.kagg = ka->mt.kks = ks->k.length = ks.length->(∀ x ∈ l,x.k.length = ks.length)->(Instr.findKey kt (mkV ka (qab ks k)) (l.map mt.ent)).run P w = .ok (qeP mt l k 0) w
 stays:∀ (k:List Int) (w:World),k.length = ks.length->(Instr.keyThatStays (mkV ka (qab ks k)) (mkV ka (qab ks k))).run P w = .ok (mkV ka (qab ks k)) w
theorem qlg {k:List Int} (h:k.length = 1):∃ z,k = [z]:=by
 match k,h with
 | [z],_=>exact ⟨z,rfl⟩
theorem qjA {n:Nat} {k:IntKind} {l:List Int} (h:l.length = n):qab (List.replicate n k) l = l.map (Value.int k):=by
 subst h
 induction l with
 | nil=>rfl
 | cons x l ih=>simp only [qab] at ih ⊢; simp [List.replicate_succ,ih]
theorem qnK {d:Nat} {k:IntKind} {z:Int}:Instr.sameBits d (.int k z) (.int k z) = true:=by
 cases d <;> simp [Instr.sameBits]
theorem qvt {d:Nat} {k:IntKind} {l:List Int}:Instr.sameBits (d + 1) (.agg (l.map (Value.int k)).toArray) (.agg (l.map (Value.int k)).toArray) = true:=by
 simp only [Instr.sameBits,jfc,jel,jcj];rw [ja3];intro x hx;obtain ⟨i,hi,rfl⟩:=jep hx;simp [qnK]
theorem q6g {kt:TypeId} {k:IntKind} (hu:P.underlying kt = some (.int k)):KeyOk P kt false [k]:=by
 refine ⟨fun em z w hz=>?_,fun mt z l w hk1 hk2 hz hl=>?_,fun z w hz=>?_⟩
 ·obtain ⟨z,rfl⟩:=qlg hz
  rw [show (10000:Nat) = 9999 + 1 from rfl,Instr.checkKey];simp [run_underlying hu,mkV,qab]
 ·obtain ⟨z,rfl⟩:=qlg hz
  unfold Instr.findKey;have:∀ (l:List ME) (i:Nat),(∀ x ∈ l,x.k.length = 1)->Instr.findNow (.int k) (mkV false (qab [k] [z])) (l.map mt.ent) i = some (qeP mt l [z] i):=by
   intro l
   induction l with
   | nil=>intro i _; rfl
   | cons x l ih =>
    intro i hl;obtain ⟨y,hy⟩:=qlg (hl x (jae ..));have hk:(mt.ent x).key = .int k y:=by simp [MT.ent,hk1,hk2,hy,mkV,qab]
    have hv:(mt.ent x).val = mkV mt.vagg x.v:=rfl;simp only [ja5,Instr.findNow,hk,hv]
    show (match (if k = k then some (z == y) else none) with | some true=>_ | some false=>_ | none=>_) = _
    rw [jah rfl];simp only [qeP,hy];by_cases h:z = y
    ·subst h; simp
    ·have h1:(z == y) = false:=by simpa using h
     have h2:(([y]:List Int) == [z]) = false:=by simpa using fun e=>h e.symm
     rw [h1,h2];simp only [jas,jbd];exact ih (i + 1) fun x hx=>hl x (jad _ hx)
  simp only [Sem.run_bind,run_underlying hu,Result.andThen_ok,this l 0 hl,Sem.run_pure]
 ·obtain ⟨z,rfl⟩:=qlg hz
  simp [Instr.keyThatStays,mkV,qab,qnK]
theorem q6q {kt el:TypeId} {k:IntKind} {n:Nat} (hu:P.underlying kt = some (.array n el)) (he:P.underlying el = some (.int k)) (hsz:qV P el = some 1) (hag:qdf P el = some false):KeyOk P kt true (List.replicate n k):=by
 refine ⟨fun em z w hz=>?_,fun mt z l w hk1 hk2 hz hl=>?_,fun z w hz=>?_⟩
 ·rw [jaz] at hz
  rw [qjA hz,show (10000:Nat) = 9999 + 1 from rfl,Instr.checkKey];simp only [mkV,Sem.run_bind,run_underlying hu,Result.andThen_ok,qaI hsz,Std.Legacy.Range.forIn_eq_forIn_range',Std.Legacy.Range.size,jei,jc9,Nat.div_one];have hl:∀ i ∈ List.range' 0 n 1,i < n:=fun i hi=>by simpa using (List.mem_range'_1.1 hi).2
  generalize List.range' 0 n 1 = l at hl ⊢
  induction l with
  | nil=>simp
  | cons i l ih =>
   have px:=qjv (P:=P) (k:=k) (zs:=z) hag (i:=i) (by have:=hl i (by simp); omega) w;have pe:(Instr.checkKey em 9999 el (.int k (z.getD i 0))).run P w = .ok () w:=by
    rw [show (9999:Nat) = 9998 + 1 from rfl,Instr.checkKey];simp [run_underlying he]
   have ih:=ih fun j hj=>hl j (by simp [hj])
   simp only [List.forIn_cons,Sem.run_bind,qaI hsz,px,pe,Result.andThen_ok,Sem.run_pure] at ih ⊢;exact ih
 ·rw [jaz] at hz
  have hl:∀ x ∈ l,x.k.length = n:=fun x hx=>by have:=hl x hx; rwa [jaz] at this
  have hkey:∀ x ∈ l,(mt.ent x).key = .agg (x.k.map (Value.int k)).toArray:=fun x hx=>by simp [MT.ent,hk1,hk2,mkV,qjA (hl x hx)]
  rw [qjA hz];unfold Instr.findKey;have hask:∀ (l:List ME) (i:Nat),(∀ x ∈ l,x.k.length = n)->(∀ x ∈ l,(mt.ent x).key = .agg (x.k.map (Value.int k)).toArray)->(Instr.findAsking kt (mkV true (z.map (Value.int k))) (l.map mt.ent) i).run P w = .ok (qeP mt l z i) w:=by
   intro l
   induction l with
   | nil=>intro i _ _; simp [Instr.findAsking,qeP]
   | cons x l ih =>
    intro i hl hkey;have hk:=hkey x (jae ..);have hv:(mt.ent x).val = mkV mt.vagg x.v:=rfl;have hr:=qiJ (P:=P) 9998 kt el n k hu he hag hsz z x.k hz (hl x (jae ..)) w;have hkv:mkV true (z.map (Value.int k)) = .agg (z.map (Value.int k)).toArray:=rfl;simp only [ja5,Instr.findAsking,hk,hv,hkv,Op.equal,Op.maxDepth,Sem.run_bind,hr,Result.andThen_ok];simp only [qeP];rw [hkv] at ih;by_cases h:z = x.k
    ·subst h; simp
    ·have h1:(z == x.k) = false:=by simpa using h
     have h2:(x.k == z) = false:=by simpa using fun e=>h e.symm
     rw [h1,h2];simp only [jas,jbd];exact ih (i + 1) (fun x hx=>hl x (jad _ hx)) (fun x hx=>hkey x (jad _ hx))
  simp only [Sem.run_bind,run_underlying hu,Result.andThen_ok];cases l with
  | nil=>simp [Instr.findNow,qeP]
  | cons x l =>
   have:Instr.findNow (.array n el) (mkV true (z.map (Value.int k))) ((x :: l).map mt.ent) 0 = none:=by
    simp [Instr.findNow,Instr.sameNow]
   rw [this];exact hask (x :: l) 0 hl hkey
 ·rw [jaz] at hz
  rw [qjA hz];simp [Instr.keyThatStays,mkV,qvt]
theorem qC8 {kt:TypeId} {ka:Bool} {ks:List IntKind} (h:qAs P kt = some (ka,ks)):KeyOk P kt ka ks:=by
 unfold qAs at h;split at h
 ·rename_i k hu
  simp only [jaa,jau] at h;obtain ⟨rfl,rfl⟩:=h;exact q6g hu
 ·rename_i n el hu
  split at h
  ·rename_i k he hsz hag
   simp only [jaa,jau] at h;obtain ⟨rfl,rfl⟩:=h;exact q6q hu he hsz hag
  ·cases h
 ·cases h
structure MapOk (P:Program) (t:TypeId) (mt:MT):Prop where
 ex:∃ k e,P.underlying t = some (.map k e)/\KeyOk P k mt.kagg mt.kks/\∀ (Z:Env) (w:World),(zeroValue e).run P w = .ok (mkV mt.vagg (qd Z mt.zero)) w
 one:mt.vagg = false->mt.vpat.length = 1
 fits:∀ Z:Env,qv mt.vpat (qd Z mt.zero)
theorem q7u {v:Value} (h:∀ cs,v ≠ .agg cs):v.cells = #[v]:=by
 cases v <;> first | rfl | exact absurd rfl (h _)
theorem qmL {t:TypeId} {mt:MT} (h:mtP P t = some mt):MapOk P t mt:=by
 unfold mtP at h;split at h
 ·rename_i k e hu
  split at h
  ·rename_i ka ks va z hk hz hz2
   split at h
   ·rename_i hc
    simp only [jaa] at h; subst h;refine ⟨⟨k,e,hu,qC8 hk,fun Z w=>?_⟩,fun hv=>?_,fun Z=>ql0 hz2 Z⟩
    ·obtain ⟨i,v,hi,hv,hvc⟩:=qdu (Z:=Z) hz2
     obtain ⟨v',hr,hvc'⟩:=qnU (Z:=Z) hz2 w;have hvv:v' = v:=by
      unfold zeroValue at hr;simp [typeInfo,hi,hv] at hr;exact hr.symm
     subst hvv;rw [hr];unfold qEy at hz;simp only [hi,je8,hv] at hz
     congr 1
     by_cases hag:∃ cs,v' = .agg cs
     ·obtain ⟨cs,rfl⟩:=hag
      simp only [jaa] at hz; subst hz;simp only [Value.cells] at hvc;simp [mkV,hvc]
     ·have hag:∀ cs,v' ≠ .agg cs:=fun cs h=>hag ⟨cs,h⟩
      have hvf:va = false:=by
       revert hz
       cases v' <;> simp_all
      subst hvf;rw [q7u hag] at hvc;have:=congrArg Array.toList hvc;simp only [jcj] at this;simp [mkV,<- this]
    ·simp only at hv; subst hv
     simpa using Nat.eq_of_beq_eq_true (by simpa using hc)
   ·cases h
  ·cases h
 ·cases h
theorem qcU:∀ {l:List SH} {k m:Nat},qdB l = some (k,m)->l[k]? = some (.abs m 1003)
 | .abs n t :: l,k,m,h=>by
  simp only [qdB] at h;split at h
  ·rename_i ht
   have ht:=Nat.eq_of_beq_eq_true ht;simp only [jaa,jau] at h;obtain ⟨rfl,rfl⟩:=h;subst ht; rfl
  ·simp only [jai,jau,jdo] at h
   obtain ⟨k',m',h1,rfl,rfl⟩:=h;exact qcU (l:=l) h1
 | .cells .. :: l,k,m,h=>by
  simp only [qdB,jai,jau,jdo] at h;obtain ⟨k',m',h1,rfl,rfl⟩:=h;exact qcU (l:=l) h1
 | .arr .. :: l,k,m,h=>by
  simp only [qdB,jai,jau,jdo] at h;obtain ⟨k',m',h1,rfl,rfl⟩:=h;exact qcU (l:=l) h1
 | [],k,m,h=>by simp [qdB] at h
theorem qfL:∀ {l:List SH} {m:Nat},m ∈ qaq l->qc7 m l = true
 | .abs n t :: l,m,h=>by
  simp only [qaq] at h;simp only [qc7,jcy];split at h
  ·rcases ja9.1 h with rfl | h
   ·exact .inl (Nat.beq_refl _)
   ·exact .inr (qfL h)
  ·exact .inr (qfL h)
 | .cells .. :: l,m,h=>by simp only [qaq] at h; simpa [qc7] using qfL h
 | .arr .. :: l,m,h=>by simp only [qaq] at h; simpa [qc7] using qfL h
 | [],m,h=>by simp [qaq] at h
theorem qen (hs:Holds Z hF s a w) {m:Nat} (h:m ∈ qaq s.heap ++ qaq s.ro) {b:Nat} {ob:Obj} (hb:(Z m).h b = some ob):w.heap[b]? = some ob:=by
 obtain ⟨hO,hd,hst,hsub,_⟩:=hs.hp;have:(qc7 m s.heap || qc7 m s.ro) = true:=by
  rcases jaw.1 h with h | h
  ·rw [qfL h,Bool.true_or]
  ·rw [qfL h,Bool.or_true]
 rcases qpz hst hs.ro this with h | h
 ·exact hsub _ _ (Hp.le_right hd _ _ (h _ _ hb))
 ·exact hsub _ _ (Hp.le_left _ _ _ _ (h _ _ hb))
theorem qr9 {l:List SH} {k m:Nat} (h:qdB l = some (k,m)):m ∈ qaq l:=by
 have:∀ {l:List SH} {k m:Nat},l[k]? = some (.abs m 1003)->m ∈ qaq l:=by
  intro l
  induction l with
  | nil=>intro k m h; simp at h
  | cons x l ih =>
   intro k m h;cases k with
   | zero =>
    simp only [jav,jaa] at h;subst h;simp [qaq]
   | succ k =>
    simp only [ja6] at h;have:=ih h;cases x with
    | abs n t =>
     simp only [qaq];split
     ·exact jad _ this
     ·exact this
    | cells=>simpa [qaq] using this
    | arr=>simpa [qaq] using this
 exact this (qcU h)
theorem qs.repiece {heap:List SH} {n k m b:Nat} {ob ob':Obj} {w':World} {u:U} (h:qs Z hF heap w) (hsc:heap.all (SH.inB n) = true) (hk:heap[k]? = some (.abs m 1003)) (hb:(Z m).h b = some ob)
  (h1:w'.heap[b]? = some ob') (h2:∀ y,y ≠ b->w'.heap[y]? = w.heap[y]?) (hos:w'.os = w.os/\w'.output = w.output) (hu:u.h = Hp.upd (Z m).h b ob') :
  qs (Z.set n u) hF (heap.set k (.abs n 1003)) w':=by
 obtain ⟨hO,hdj,hst,hsub,hwi⟩:=h;obtain ⟨t1,t2,td,tu,tx,ts⟩:=qae hst hk;have hle:Hp.le t1 (Hp.union hF hO):=Hp.le_trans (tu ▸ Hp.le_left t1 t2) (Hp.le_right hdj);have g2':=tx.1 _ _ hb;have hdisj:Hp.disj (Hp.upd t1 b ob') t2:=fun y=>by
  rcases td y with h | h
  ·unfold Hp.upd
   split
   ·rename_i he; subst he; rw [g2'] at h; cases h
   ·exact .inl h
  ·exact .inr h
 have hag:∀ q,q < n->Z q = (Z.set n u) q:=fun q hq=>(Env.set_ne Z _ (by omega)).symm
 refine ⟨Hp.union (Hp.upd t1 b ob') t2,?_,qdr hk (qaA hag _ ?_ _ ts) hdisj ?_,?_,⟨hos.1.trans hwi.1,hos.2.trans hwi.2⟩⟩
 ·intro y
  rcases hdj y with h | h
  ·exact .inl h
  ·right
   rw [tu] at h;simp only [Hp.union,jcr] at h ⊢;refine ⟨?_,h.2⟩;unfold Hp.upd;split
   ·rename_i he; subst he; rw [g2'] at h; cases h.1
   ·exact h.1
 ·exact ja3.2 fun x hx=>ja3.1 hsc x (jde hx)
 ·simp only [SH.den,Env.set_same,hu]
  refine ⟨fun y ob hy=>?_,fun ht=>by cases ht⟩;unfold Hp.upd at hy ⊢;split at hy
  ·rename_i he; rw [jah he]; exact hy
  ·rename_i he; rw [jaf he]; exact tx.1 _ _ hy
 ·intro y ob hy
  by_cases hyb:y = b
  ·subst hyb
   have hFn:hF y = none:=(hdj y).resolve_right (by rw [tu]; simp [Hp.union,g2']);simp only [Hp.union,hFn,Hp.upd,jbz,jb2,jc5,jaa] at hy;rw [h1,hy]
  ·rw [h2 y hyb]
   refine hsub y ob ?_;rw [tu];simp only [Hp.union,Hp.upd,hyb,jbd] at hy ⊢;exact hy
theorem qsj {n:Nat} {row:List Value} (hd:(Z n).d = [row]):∀ (pat:List CK) (c:Nat),(∀ i k v,pat[i]? = some k->row[c + i]? = some v->CK.fits k v = true)->row.length = c + pat.length->qd Z (qb7 n pat c) = row.drop c
 | [],c,_,hl=>by rw [jec (by simp at hl; omega)]; rfl
 | k :: pat,c,hf,hl=>by
  simp only [jba] at hl;have hc:c < row.length:=by omega
  have h0:=hf 0 k row[c] rfl (by rw [jci]; exact jac hc);have ih:=qsj hd pat (c + 1) (fun i k v hi hv=>hf (i + 1) k v (by simpa using hi) (by rw [show c + (i + 1) = c + 1 + i by omega]; exact hv)) (by omega);rw [jcf hc,<- ih];have hg:row[c]? = some row[c]:=jac hc;cases k with
  | int k =>
   simp only [qb7,qd,ja5,T.den,O1.den,O2.den,O0.den,hd,qa,jbm,jdk,jbj,hg,ja2,jcg,and_true]
   revert h0
   generalize row[c] = v;intro h0;cases v <;> simp_all [CK.fits,qX]
  | bool =>
   simp only [qb7,qd,ja5,T.den,O1.den,O2.den,O0.den,hd,qay,jbm,jdk,jbj,hg,ja2,jcg,and_true]
   revert h0
   generalize row[c] = v;intro h0;cases v <;> simp_all [CK.fits,qv0]
  | any =>
   simp [qb7,qd,T.den,O2.den,O0.den,hd,qC,hg]
theorem qgg {n:Nat} {row:List Value} {pat:List CK} (hd:(Z n).d = [row]) (h:qv pat row):qd Z (qb7 n pat 0) = row:=by
 have:=qsj hd pat 0 (fun i k v hi hv=>h.2 i k v hi (by rwa [jbj] at hv)) (by rw [jbj]; exact h.1)
 rwa [jdl] at this
theorem qp7 (b:Bool) (ts:List T):qeS Z (b,ts) = mkV b (qd Z ts):=by cases b <;> rfl
theorem q9i {b:Bool} {ts:List T} {v:SV} (h:q9W b ts = some v):v.den Z = mkV b (qd Z ts):=by
 unfold q9W at h;split at h
 ·simp only [jaa] at h; subst h; rfl
 ·simp only [jaa] at h; subst h; rfl
 ·cases h
theorem qid {ks:List IntKind} {k:List Int} (h:k.length = ks.length):qv (ks.map CK.int) (qab ks k):=by
 refine ⟨by simp [qab,h],fun c ck v hc hv=>?_⟩;simp only [jaq,jai] at hc;obtain ⟨kk,hk,rfl⟩:=hc;simp only [qab,List.getElem?_zipWith] at hv;rw [hk] at hv;cases hz:k[c]? with
 | none=>rw [hz] at hv; simp at hv
 | some z=>rw [hz] at hv; simp at hv; subst hv; simp [CK.fits]
theorem quS:∀ {ks:List IntKind} {ts is:List T},qhq ks ts = some is->qd Z ts = qab ks (qbU Z is)/\(qbU Z is).length = ks.length
 | [],[],is,h=>by simp only [qhq,jaa] at h; subst h; exact ⟨rfl,rfl⟩
 | k :: ks,t :: ts,is,h=>by
  unfold qhq at h;split at h
  ·rename_i h1 h2; cases h1
  ·rename_i k1 ks1 k' t' ts1 h1 h2
   simp only [jcg] at h1 h2;obtain ⟨rfl,rfl⟩:=h1;obtain ⟨rfl,rfl⟩:=h2;split at h
   ·rename_i hk; subst hk
    simp only [jai] at h;obtain ⟨js,hj,rfl⟩:=h;obtain ⟨e1,e2⟩:=quS hj;refine ⟨?_,by simpa [qbU] using e2⟩;simp only [qd,ja5,T.den,O1.den,qbU,qab,List.zipWith_cons_cons,jcg,true_and] at e1 ⊢;exact e1
   ·cases h
  ·cases h
 | [],_ :: _,is,h=>by simp [qhq] at h
 | _ :: _,[],is,h=>by simp [qhq] at h
theorem qnj (hs:Holds Z hF s a w) {b:Bool} {x:Operand} {ts:List T} (h:qf2 s b x = some ts):a.eval x = mkV b (qd Z ts):=by
 unfold qf2 at h;split at h
 ·rename_i ts' he
  simp only [jaa] at h; subst h;rw [hs.opd he]; rfl
 ·rename_i t he
  simp only [jaa] at h; subst h;rw [hs.opd he]; rfl
 ·cases h
theorem qs0 (hs:Holds Z hF s a w) {b:Bool} {ks:List IntKind} {x:Operand} {is:List T} (h:(qf2 s b x).bind (qhq ks) = some is):a.eval x = mkV b (qab ks (qbU Z is))/\(qbU Z is).length = ks.length:=by
 rw [jam] at h;obtain ⟨ts,h1,h2⟩:=h;obtain ⟨e1,e2⟩:=quS (Z:=Z) h2;exact ⟨by rw [qnj hs h1,e1],e2⟩
theorem qiB {pat:List CK} {row:List Value} (h:qv pat row):∀ v ∈ row,v.oneCell' = true:=fun v hv=>by
 obtain ⟨i,hi,rfl⟩:=jep hv;have hp:i < pat.length:=by rw [<- h.1]; exact hi
 have:=h.2 i pat[i] row[i] (jac hp) (jac hi);cases hk:pat[i] with
 | any=>rw [hk] at this; exact this
 | int k =>
  rw [hk] at this
  revert this; generalize row[i] = v; intro this
  cases v <;> simp_all [CK.fits,Value.oneCell']
 | bool =>
  rw [hk] at this
  revert this; generalize row[i] = v; intro this
  cases v <;> simp_all [CK.fits,Value.oneCell']
theorem q5I {mt:MT} {l:List ME} {c:Nat} {k:List Int} {z:List Value} (h:MWf mt l c) (hz:qv mt.vpat z):qv mt.vpat (qcQ l k z):=by
 unfold qcQ;split
 ·rename_i x hx; exact (h.1 x (jeu hx)).2.1
 ·exact hz
end Go.Eng
namespace Go.Eng
open Go
variable {P:Program} {Z:Env} {hF:Fr} {s:S} {a:Act} {w:World} {o:Oper}
theorem qcl {b c:Nat} {es:Array MapEntry} (h:w.heap[b]? = some (.map es c)):(getObj b).run P w = .ok (.map es c) w:=by simp [getObj,Sem.run,h]
theorem qnF {b since stepped:Nat} {mo:Option Nat} {seen:Array Nat} (h:w.heap[b]? = some (.mapIter mo since seen stepped)):(getObj b).run P w = .ok (.mapIter mo since seen stepped) w:=by simp [getObj,Sem.run,h]
theorem qif {b c:Nat} {es:Array MapEntry} {ob:Obj} (h:w.heap[b]? = some (.map es c)):(setObj b ob).run P w = .ok () { w with heap:=w.heap.setIfInBounds b ob }:=by simp [setObj,Sem.run,h]
theorem q53 {b since stepped:Nat} {mo:Option Nat} {seen:Array Nat} {ob:Obj} (h:w.heap[b]? = some (.mapIter mo since seen stepped)):(setObj b ob).run P w = .ok () { w with heap:=w.heap.setIfInBounds b ob }:=by simp [setObj,Sem.run,h]
theorem qwk {b:Nat} {ob ob':Obj} (h:w.heap[b]? = some ob):(w.heap.setIfInBounds b ob')[b]? = some ob':=by
 have:=(jcm.1 h).1;simp [jeh,this]
theorem set_ne {b y:Nat} {ob':Obj} (h:y ≠ b):(w.heap.setIfInBounds b ob')[y]? = w.heap[y]?:=by
 rw [jeh];simp [Ne.symm h]
def qpL (w:World) (mt:MT) (v:Value) (l:List ME):Prop:=(v = .map none/\l = [])∨∃ b clock,v = .map (some b)/\w.heap[b]? = some (mt.obj (l,clock))/\MWf mt l clock
theorem qpL.lens {mt:MT} {v:Value} {l:List ME} (h:qpL w mt v l):∀ x ∈ l,x.k.length = mt.kks.length:=by
 rcases h with ⟨_,rfl⟩ | ⟨_,_,_,_,h⟩
 ·intro x hx; cases hx
 ·exact fun x hx=>(h.1 x hx).1
theorem q2K {t:TypeId} {mt:MT} (hm:MapOk P t mt) {v:Value} {l:List ME} (hv:qpL w mt v l) {k:List Int} (hk:k.length = mt.kks.length) (ck:Bool) (Z:Env) :
  (Instr.lookup t v (mkV mt.kagg (qab mt.kks k)) ck).run P w = .ok (if ck then .tuple #[mkV mt.vagg (qcQ l k (qd Z mt.zero)),.bool (qaM l k)] else mkV mt.vagg (qcQ l k (qd Z mt.zero))) w:=by
 obtain ⟨kt,e,hu,ko,hz⟩:=hm.ex;have hf:∀ em,(Instr.checkKey em 10000 kt (mkV mt.kagg (qab mt.kks k))).run P w = .ok () w:=fun em=>ko.check em k w hk
 have hfind:=ko.find mt k l w rfl rfl hk hv.lens;have hz:=hz Z w;have main:((do
   Instr.checkKey (l.map mt.ent).toArray.isEmpty 10000 kt (mkV mt.kagg (qab mt.kks k))
   let (v,ok) <- match <- Instr.findKey kt (mkV mt.kagg (qab mt.kks k)) (l.map mt.ent).toArray.toList with
    | some (_,v)=>pure (v,true)
    | none=>pure (<- zeroValue e,false)
   pure (if ck then .tuple #[v,.bool ok] else v)):Sem Value).run P w = .ok (if ck then .tuple #[mkV mt.vagg (qcQ l k (qd Z mt.zero)),.bool (qaM l k)] else mkV mt.vagg (qcQ l k (qd Z mt.zero))) w:=by
  simp only [Sem.run_bind,hf,Result.andThen_ok,jcj,hfind];cases hh:qaM l k with
  | false =>
   rw [qic hh,qjQ hh];simp only [Sem.run_bind,hz,Result.andThen_ok,Sem.run_pure]
  | true =>
   obtain ⟨j,x,h1,h2,h3,h4⟩:=qe9 (mt:=mt) (i:=0) hh;rw [h3,h4];simp only [Sem.run_bind,Sem.run_pure,Result.andThen_ok]
 rcases hv with ⟨rfl,rfl⟩ | ⟨b,clock,rfl,hb,hwf⟩
 ·rw [<- main]
  simp only [Instr.lookup,Sem.run_bind,run_underlying hu,Result.andThen_ok,Sem.run_pure];rfl
 ·have hb':w.heap[b]? = some (.map (l.map mt.ent).toArray clock):=hb
  rw [<- main];simp only [Instr.lookup,Sem.run_bind,run_underlying hu,Result.andThen_ok,Sem.run_pure,qcl hb'];rfl
theorem q34 {t ty:TypeId} {mt:MT} (hm:MapOk P t mt) {v:Value} {l:List ME} (hv:qpL w mt v l):(Builtin.len_ #[t] ty #[v]).run P w = .ok (.int .i64 (l.length:Int)) w:=by
 obtain ⟨kt,e,hu,ko,hz⟩:=hm.ex;rcases hv with ⟨rfl,rfl⟩ | ⟨b,clock,rfl,hb,hwf⟩
 ·simp [Builtin.len_,run_underlying hu,goInt]
 ·have hb':w.heap[b]? = some (.map (l.map mt.ent).toArray clock):=hb
  simp [Builtin.len_,run_underlying hu,qcl hb',goInt]
theorem qvj {t:TypeId} {mt:MT} (hm:MapOk P t mt) {b clock:Nat} {l:List ME} (hb:w.heap[b]? = some (mt.obj (l,clock))) (hwf:MWf mt l clock) {k:List Int} (hk:k.length = mt.kks.length) {v:List Value} :
  (Instr.mapUpdate t (.map (some b)) (mkV mt.kagg (qab mt.kks k)) (mkV mt.vagg v)).run P w = .ok () { w with heap:=w.heap.setIfInBounds b (mt.obj (qbg l k v clock)) }:=by
 obtain ⟨kt,e,hu,ko,hz⟩:=hm.ex;have hb':w.heap[b]? = some (.map (l.map mt.ent).toArray clock):=hb;have hfind:=ko.find mt k l w rfl rfl hk (fun x hx=>(hwf.1 x hx).1);have hcheck:=ko.check false k w hk;cases hh:qaM l k with
 | false =>
  have hp:qbg l k v clock = (l ++ [⟨k,v,clock⟩],clock + 1):=by simp [qbg,hh]
  rw [qic hh] at hfind;simp only [Instr.mapUpdate,Sem.run_bind,run_underlying hu,Result.andThen_ok,qcl hb',hcheck,jcj,hfind,qif hb',hp];simp [MT.obj,MT.ent]
 | true =>
  obtain ⟨j,x,h1,h2,h3,h4⟩:=qe9 (mt:=mt) (i:=0) hh;have hp:qbg l k v clock = (l.map fun x=>if x.k = k then { x with v:=v } else x,clock):=by simp [qbg,hh]
  rw [h3,jbj] at hfind;have hkey:((((l.map mt.ent).toArray[j]?).map (·.key)).getD (mkV mt.kagg (qab mt.kks k))) = mkV mt.kagg (qab mt.kks k):=by
   simp [h1,MT.ent,h2]
  simp only [Instr.mapUpdate,Sem.run_bind,run_underlying hu,Result.andThen_ok,qcl hb',hcheck,jcj,hfind,hkey,ko.stays k w hk,qif hb',hp];rw [q3S hwf h1 h2];rfl
theorem qvp {t t2 ty:TypeId} {mt:MT} (hm:MapOk P t mt) {b clock:Nat} {l:List ME} (hb:w.heap[b]? = some (mt.obj (l,clock))) (hwf:MWf mt l clock) {k:List Int} (hk:k.length = mt.kks.length) :
  (Builtin.delete_ #[t,t2] ty #[.map (some b),mkV mt.kagg (qab mt.kks k)]).run P w = .ok (.tuple #[]) { w with heap:=w.heap.setIfInBounds b (mt.obj (qnq l k,clock)) }:=by
 obtain ⟨kt,e,hu,ko,hz⟩:=hm.ex;have hb':w.heap[b]? = some (.map (l.map mt.ent).toArray clock):=hb;have hfind:=ko.find mt k l w rfl rfl hk (fun x hx=>(hwf.1 x hx).1);have hcheck:=fun em=>ko.check em k w hk
 cases hh:qaM l k with
 | false =>
  rw [qic hh] at hfind;simp [Builtin.delete_,run_underlying hu,qcl hb',hcheck,hfind,qif hb',q8W hh,MT.obj]
 | true =>
  obtain ⟨j,x,h1,h2,h3,h4⟩:=qe9 (mt:=mt) (i:=0) hh;rw [h3,jbj] at hfind;have he:((l.map mt.ent).eraseIdx j).toArray = ((qnq l k).map mt.ent).toArray:=by simpa using q6N hwf h1 h2
  simp [Builtin.delete_,run_underlying hu,qcl hb',hcheck,hfind,qif hb',he,MT.obj]
theorem qjI {op:BinOp} {t:TypeId} {x y:Operand} {m n:Option Nat}:(eqGuard op t x y (.map m) (.map n)).run P w = .ok () w:=by
 unfold eqGuard; split <;> simp
theorem qhA (d:Nat) {ty k e:TypeId} (hu:P.underlying ty = some (.map k e)) (m:Option Nat):(Op.equalIn (d + 1) ty (.map m) (.map none)).run P w = .ok m.isNone w:=by
 unfold Op.equalIn;simp only [Sem.run_bind,qu hu,Result.andThen_ok];cases m <;> simp
theorem qsS {ty k e:TypeId} (hu:P.underlying ty = some (.map k e)) (m:Option Nat):(binOp .eql ty (.map m) (.map none)).run P w = .ok (.bool m.isNone) w:=by
 have h:binOp .eql ty (.map m) (.map none) = (do pure (.bool (<- Op.equal ty (.map m) (.map none)))):=by cases m <;> rfl
 rw [h];simp only [Op.equal];rw [show Op.maxDepth = 9999 + 1 from rfl];simp only [Sem.run_bind,qhA 9999 hu,Result.andThen_ok,Sem.run_pure]
theorem qth {ty k e:TypeId} (hu:P.underlying ty = some (.map k e)) (m:Option Nat):(binOp .neq ty (.map m) (.map none)).run P w = .ok (.bool (!m.isNone)) w:=by
 have h:binOp .neq ty (.map m) (.map none) = (do pure (.bool (!(<- Op.equal ty (.map m) (.map none))))):=by cases m <;> rfl
 rw [h];simp only [Op.equal];rw [show Op.maxDepth = 9999 + 1 from rfl];simp only [Sem.run_bind,qhA 9999 hu,Result.andThen_ok,Sem.run_pure]
theorem q7N {t:TypeId} {mt:MT} (hm:MapOk P t mt) {v:Value} {mo:Option Nat} {clock:Nat} (hv:(v = .map none/\mo = none/\clock = 0)∨∃ b l,v = .map (some b)/\mo = some b/\w.heap[b]? = some (mt.obj (l,clock))) :
  (Instr.range t v).run P w = .ok (.pointer (some ⟨w.heap.size,0,none⟩)) { w with heap:=w.heap.push (.mapIter mo clock #[] clock) }:=by
 obtain ⟨kt,e,hu,ko,hz⟩:=hm.ex;rcases hv with ⟨rfl,rfl,rfl⟩ | ⟨b,l,rfl,rfl,hb⟩
 ·simp [Instr.range,run_underlying hu,newObj,Sem.run]
 ·have hb':w.heap[b]? = some (.map (l.map mt.ent).toArray clock):=hb
  simp [Instr.range,run_underlying hu,qcl hb',newObj,Sem.run]
theorem qzn {ty:TypeId} {r since stepped:Nat} {seen:Array Nat} (hr:w.heap[r]? = some (.mapIter none since seen stepped)) :
  (Instr.next (.pointer (some ⟨r,0,none⟩)) false ty).run P w = .ok (.tuple #[.bool false]) w:=by
 simp [Instr.next,qnF hr]
theorem q47 (q:Question) (n:Nat) (hq:q = .mapNext n) (hn:0 < n):∃ j w1,j < n/\(w1 = w∨w1 = { w with drawn:=w.drawn + 1 })/\(choose q).run P w = .ok j w1:=by
 subst hq;by_cases hf:n <= 1
 ·exact ⟨0,w,by omega,.inl rfl,by simp [choose,Sem.run,Question.forced,hf]⟩
 ·exact ⟨_,_,jd8 _ hn,.inr rfl,by
   simp only [choose,Sem.run,Question.forced,ja8,hf,jbd,Question.cut];rfl⟩
theorem qAD {ty:TypeId} {mt:MT} {r b since stepped clock:Nat} {seen:List Nat} {l:List ME} (hr:w.heap[r]? = some (.mapIter (some b) since seen.toArray stepped)) (hb:w.heap[b]? = some (mt.obj (l,clock)))
  (hgone:seen = []∨l = []∨∃ e ∈ l,e.born < stepped) :
  ∃ w1,(w1 = w∨w1 = { w with drawn:=w.drawn + 1 }) /\
   (((∀ e ∈ l,e.born < since->e.born ∈ seen)/\(Instr.next (.pointer (some ⟨r,0,none⟩)) false ty).run P w = .ok (.tuple #[.bool false]) w1) ∨
    ∃ e ∈ l,e.born ∉ seen/\(Instr.next (.pointer (some ⟨r,0,none⟩)) false ty).run P w = .ok (.tuple #[.bool true,(mt.ent e).key,(mt.ent e).val]) { w1 with heap:=w1.heap.setIfInBounds r (.mapIter (some b) since (seen ++ [e.born]).toArray clock) }):=by
 have hb':w.heap[b]? = some (.map (l.map mt.ent).toArray clock):=hb;have hg:(!seen.toArray.isEmpty && !(l.map mt.ent).toArray.isEmpty && (l.map mt.ent).toArray.all (fun e=>decide (e.born ≥ stepped))) = false:=by
  rcases hgone with rfl | rfl | ⟨e,he,hlt⟩
  ·simp
  ·simp
  ·have:(l.map mt.ent).toArray.all (fun e=>decide (e.born ≥ stepped)) = false:=by
    rw [Array.all_eq_false'];exact ⟨mt.ent e,by simp; exact ⟨e,he,rfl⟩,by simpa [MT.ent] using hlt⟩
   rw [this,Bool.and_false]
 let left:=(l.map mt.ent).toArray.filter fun e=>!seen.toArray.contains e.born
 let old:=left.filter fun e=>decide (e.born < since)
 let new:=left.filter fun e=>decide (e.born ≥ since)
 let cand:Array (Option MapEntry):=(if old.isEmpty then #[none] else #[]) ++ (old ++ new).map some
 have hpos:0 < cand.size:=by
  show 0 < ((if old.isEmpty then #[none] else #[]) ++ (old ++ new).map some).size
  by_cases ho:old.isEmpty
  ·rw [jah ho]; simp; omega
  ·rw [jaf ho]
   have:0 < old.size:=by
    rcases Nat.eq_zero_or_pos old.size with h | h
    ·exact absurd (by simpa [Array.isEmpty] using h) ho
    ·exact h
   simp; omega
 obtain ⟨j,w1,hj,hw1,hrun⟩:=q47 (P:=P) (w:=w) (.mapNext cand.size) cand.size rfl hpos;refine ⟨w1,hw1,?_⟩;have hstep:∀ (Q:Sem Value),True:=fun _=>trivial
 have hr1:w1.heap[r]? = some (.mapIter (some b) since seen.toArray stepped):=by rcases hw1 with rfl | rfl <;> exact hr
 have hmem:∀ x,cand[j]? = some (some x)->∃ e ∈ l,e.born ∉ seen/\x = mt.ent e:=by
  intro x hx;have hx:=Array.mem_of_getElem? hx;have:some x ∈ (if old.isEmpty then #[none] else #[]) ++ (old ++ new).map some:=hx;rw [jfy] at this;rcases this with h | h
  ·split at h <;> simp at h
  ·rw [Array.mem_map] at h
   obtain ⟨y,hy,hxy⟩:=h;cases hxy;have hl:x ∈ left:=by
    rcases jfy.1 hy with h | h
    ·exact (jek.1 h).1
    ·exact (jek.1 h).1
   obtain ⟨h1,h2⟩:=jek.1 hl;simp only [List.mem_toArray,jbk] at h1;obtain ⟨e,he,rfl⟩:=h1;exact ⟨e,he,by simpa [MT.ent] using h2,rfl⟩
 have hnone:cand[j]? = some none->∀ e ∈ l,e.born < since->e.born ∈ seen:=by
  intro hx e he hlt;have hx:=Array.mem_of_getElem? hx;have:(none:Option MapEntry) ∈ (if old.isEmpty then #[none] else #[]) ++ (old ++ new).map some:=hx;rw [jfy] at this;rcases this with h | h
  ·by_cases ho:old.isEmpty
   ·have ho':old = #[]:=by simpa [Array.isEmpty] using ho
    rcases Classical.em (e.born ∈ seen) with h | h
    ·exact h
    ·exfalso
     have:mt.ent e ∈ old:=by
      refine jek.2 ⟨jek.2 ⟨by simp; exact ⟨e,he,rfl⟩,by simpa [MT.ent] using h⟩,jcl hlt⟩
     rw [ho'] at this; simp at this
   ·rw [jaf ho] at h; simp at h
  ·rw [Array.mem_map] at h
   obtain ⟨y,_,hy⟩:=h;cases hy
 have hun:(Instr.next (.pointer (some ⟨r,0,none⟩)) false ty).run P w = (match cand[j]? with
   | some (some e)=>(do
     setObj r (.mapIter (some b) since (seen.toArray.push e.born) clock)
     pure (.tuple #[.bool true,e.key,e.val]):Sem Value)
   | some none=>pure (.tuple #[.bool false])
   | none=>stuck "Next: no such candidate").run P w1:=by
  simp only [Instr.next,Sem.run_bind,qnF hr,Result.andThen_ok,qcl hb'];rw [hg];simp only [jas,jbd,Sem.run_bind,Result.andThen_ok];exact congrArg (fun z=>Result.andThen z fun a w'=>Sem.run P (match cand[a]? with
   | some (some e)=>(do
     setObj r (.mapIter (some b) since (seen.toArray.push e.born) clock)
     pure (.tuple #[.bool true,e.key,e.val]):Sem Value)
   | some none=>pure (.tuple #[.bool false])
   | none=>stuck "Next: no such candidate") w') hrun
 rw [hun];cases hc:cand[j]? with
 | none=>exact absurd hc (by simp [hj])
 | some c =>
  cases c with
  | none=>exact .inl ⟨hnone hc,by simp⟩
  | some x =>
   obtain ⟨e,he,hns,rfl⟩:=hmem x hc;refine .inr ⟨e,he,hns,?_⟩;simp only [Sem.run_bind,q53 hr1,Result.andThen_ok,Sem.run_pure];simp [MT.ent]
theorem q7B {mt:MT} {r b since clock:Nat} {seen:List Nat} {l:List ME} {e:ME} (hr:w.heap[r]? = some (.mapIter (some b) since (seen ++ [e.born]).toArray clock)) (hb:w.heap[b]? = some (mt.obj (l,clock))) (hwf:MWf mt l clock) (he:e ∈ l) :
  (Instr.entry (.pointer (some ⟨r,0,none⟩))).run P w = .ok (.tuple #[(mt.ent e).key,(mt.ent e).val]) w:=by
 have hb':w.heap[b]? = some (.map (l.map mt.ent).toArray clock):=hb;have hfind:(l.map mt.ent).toArray.find? (fun x=>x.born == e.born) = some (mt.ent e):=by
  rw [<- Array.find?_toList,jcj];have:∀ {l:List ME},(l.Pairwise fun x y=>x.born < y.born/\x.k ≠ y.k)->e ∈ l->(l.map mt.ent).find? (fun x=>x.born == e.born) = some (mt.ent e):=by
   intro l
   induction l with
   | nil=>intro _ h; cases h
   | cons x l ih =>
    intro hp he;rw [List.pairwise_cons] at hp;rcases ja9.1 he with rfl | he
    ·simp [MT.ent]
    ·have:=hp.1 e he
     have hne:(x.born == e.born) = false:=by simpa using Nat.ne_of_lt this.1
     simp only [ja5,List.find?_cons];rw [show (mt.ent x).born = x.born from rfl,hne];exact ih hp.2 he
  exact this hwf.2 he
 simp [Instr.entry,qnF hr,qcl hb',hfind]
end Go.Eng
namespace Go.Eng
open Go
variable {P:Program} {Z:Env} {hF:Fr} {s:S} {a:Act} {w:World} {o:Oper}
def qe5 (P:Program) (Z:Env) (hF:Fr) (s:S) (a:Act) (w:World) (o:Oper) (r:MR) (φ1 φ2:List U->Prop):Prop :=
 ∃ us mb w',((mb = r.a/\φ1 us)∨(r.b = some mb/\φ2 us))/\us.length = mb.fresh/\(∀ u ∈ us,u.good)/\qs (qq Z s.nx us) hF mb.heap w'/\Ran P a o (qq Z s.nx us) mb.val w w'
theorem qiI:∀ (us:List U) (Z:Env) (n m:Nat),m < n->qq Z n us m = Z m
 | [],_,_,_,_=>rfl
 | u :: us,Z,n,m,h=>by rw [qq,qiI us _ _ _ (by omega),Env.set_ne _ _ (by omega)]
theorem T.inB_up {n n':Nat} (h:n <= n'):∀ t:T,t.inB n = true->t.inB n' = true
 | .var m,hb=>by simp only [T.inB,jbn] at hb ⊢; omega
 | .c0 o,hb=>by
  cases o <;> simp_all [T.inB]
  all_goals omega
 | .c1 o a,hb=>by
  cases o <;> (simp only [T.inB,jag,jbn] at hb ⊢) <;>
   first
    | exact T.inB_up h a hb
    | exact ⟨by omega,T.inB_up h a hb.2⟩
 | .c2 o a b,hb=>by
  simp only [T.inB,jag] at hb ⊢;exact ⟨T.inB_up h a hb.1,T.inB_up h b hb.2⟩
 | .c3 o a b c,hb=>by
  cases o <;> (simp only [T.inB,jag,jbn] at hb ⊢) <;>
   first
    | exact ⟨⟨T.inB_up h a hb.1.1,T.inB_up h b hb.1.2⟩,T.inB_up h c hb.2⟩
    | exact ⟨⟨⟨by omega,T.inB_up h a hb.1.1.2⟩,T.inB_up h b hb.1.2⟩,T.inB_up h c hb.2⟩
 | .ife a b x y,hb=>by
  simp only [T.inB,jag] at hb ⊢;exact ⟨⟨⟨T.inB_up h a hb.1.1.1,T.inB_up h b hb.1.1.2⟩,T.inB_up h x hb.1.2⟩,T.inB_up h y hb.2⟩
theorem SH.inB_mono {n n':Nat} (h:n <= n') {x:SH} (hb:x.inB n = true):x.inB n' = true:=by
 cases x with
 | cells r ty cs =>
  simp only [SH.inB,jag,jbn] at hb ⊢;exact ⟨by omega,ja3.2 fun t ht=>T.inB_up h t (ja3.1 hb.2 t ht)⟩
 | arr r ty pat d cap =>
  simp only [SH.inB,jag,jbn] at hb ⊢;exact ⟨⟨by omega,T.inB_up h d hb.1.2⟩,T.inB_up h cap hb.2⟩
 | abs m t=>simp only [SH.inB,jbn] at hb ⊢; omega
theorem qeB {i:Int} {b:Bool} {h:Hp} {r:Option Addr}:({ i,b,h,r }:U).good:=by simp [U.good,Value.oneCell']
theorem qiA {row:List Value} {b:Bool} (h:∀ v ∈ row,v.oneCell' = true):({ d:=[row],b }:U).good:=by
 refine ⟨rfl,fun r hr v hv=>?_⟩;simp only [jak] at hr;subst hr; exact h v hv
theorem qgT (hsc:s.inNx = true):s.heap.all (SH.inB s.nx) = true:=by
 simp only [S.inNx,jag] at hsc; exact hsc.1.1.1.2
theorem qs.same (hs:Holds Z hF s a w) (hsc:s.inNx = true) (us:List U):qs (qq Z s.nx us) hF s.heap w :=
 qs.congr hs.hp (qgT hsc) (fun m hm=>(qiI us Z s.nx m hm).symm)
theorem q0W (hs:Holds Z hF s a w) {mt:MT} {x:T} {l:List ME} {v:Value} (hv:v = (x.den Z).v) (h:((x.den Z).v = .map none/\l = [])∨∃ m ∈ qaq s.heap ++ qaq s.ro,∃ b clock,(x.den Z).v = .map (some b)/\qaX (Z m).h b mt l clock):qpL w mt v l:=by
 subst hv;rcases h with h | ⟨m,hm,b,clock,h1,h2,h3⟩
 ·exact .inl h
 ·exact .inr ⟨b,clock,h1,qen hs hm h2,h3⟩
theorem qA5 {t:TypeId} {φ1 φ2:List U->Prop} (hs:Holds Z hF s a w) (hsc:s.inNx = true) (hop:o.op = .makeMap t none) (hsem:(qox s).k.sem Z φ1 φ2):qe5 P Z hF s a w o (qox s) φ1 φ2:=by
 let us:List U:=[{ h:=Hp.one w.heap.size (.map #[] 0) },{ v:=.map (some w.heap.size) }]
 have h1:=hsem { h:=Hp.one w.heap.size (.map #[] 0) } qeB { v:=.map (some w.heap.size) } (by simp [U.good,Value.oneCell']) ⟨w.heap.size,rfl,rfl⟩;refine ⟨us,(qox s).a,{ w with heap:=w.heap.push (.map #[] 0) },.inl ⟨rfl,h1⟩,rfl,?_,?_,?_⟩
 ·intro u hu
  simp only [us,ja9,jco,or_false] at hu;rcases hu with rfl | rfl
  ·exact qeB
  ·simp [U.good,Value.oneCell']
 ·refine qs.new (n:=s.nx) (d:=w.drawn) hs.hp (qgT hsc) (fun m hm=>(qiI us Z s.nx m hm).symm) ?_
  simp only [SH.den,us,qq];rw [Env.set_ne _ _ (by omega),Env.set_same];exact ⟨Hp.le_refl _,fun h=>by cases h⟩
 ·show (execOp a.eval o).run P w = _
  simp [execOp,hop,Instr.makeMap,newObj,Sem.run,SV.den,T.den,us,qq]
theorem q4R {t:TypeId} {x i:Operand} {ck:Bool} {r:MR} {φ1 φ2:List U->Prop} (hs:Holds Z hF s a w) (hsc:s.inNx = true) (hop:o.op = .lookup t x i ck) (h:qn8 P s t x i ck = some r) (hsem:r.k.sem Z φ1 φ2):qe5 P Z hF s a w o r φ1 φ2:=by
 unfold qn8 at h;split at h
 ·rename_i mt xt hmt hx
  split at h
  ·rename_i ks v hks hv
   simp only [jaa] at h; subst h;have hm:=qmL hmt;have hxe:=hs.opd hx;obtain ⟨e1,e2⟩:=qs0 hs hks;obtain ⟨l,hl,h1⟩:=hsem;have hV:qpL w mt (a.eval x) l:=q0W hs (by rw [hxe]; rfl) hl;have hrun:=q2K hm hV e2 ck Z;have hfit:qv mt.vpat (qcQ l (qbU Z ks) (qd Z mt.zero)):=by
    rcases hl with ⟨_,rfl⟩ | ⟨m,_,b,clock,_,_,h3⟩
    ·exact hm.fits Z
    ·exact q5I h3 (hm.fits Z)
   refine ⟨_,_,w,.inl ⟨rfl,h1⟩,rfl,?_,qs.same hs hsc _,?_⟩
   ·intro u hu
    rw [jak] at hu; subst hu;exact qiA (qiB hfit)
   ·show (execOp a.eval o).run P w = _
    have hrow:qd (Z.set s.nx { d:=[qcQ l (qbU Z ks) (qd Z mt.zero)],b:=qaM l (qbU Z ks) }) (qb7 s.nx mt.vpat 0) = qcQ l (qbU Z ks) (qd Z mt.zero):=qgg (by rw [Env.set_same]) hfit;simp only [execOp,hop,Sem.run_bind,e1,hrun,Result.andThen_ok,Sem.run_pure,qq]
    congr 2
    cases ck with
    | true=>simp only [jbz,SV.den,ja5,jb5,qp7,hrow]; simp [mkV,qd,T.den,O1.den]
    | false=>simp only [jas,jbd]; rw [q9i hv,hrow]
  ·cases h
 ·cases h
theorem qC2 {args:Array Operand} {tys:Array TypeId} {t:TypeId} {x:Operand} {r:MR} {φ1 φ2:List U->Prop} (hs:Holds Z hF s a w) (hsc:s.inNx = true) (hop:o.op = .call { callee:=.builtin .len,args,argTypes:=tys }) (hargs:args = #[x]) (htys:tys = #[t]) (h:qvI P s t x = some r) (hsem:r.k.sem Z φ1 φ2):qe5 P Z hF s a w o r φ1 φ2:=by
 unfold qvI at h;split at h
 ·rename_i mt xt hmt hx
  simp only [jaa] at h; subst h;have hm:=qmL hmt;have hxe:=hs.opd hx;obtain ⟨l,hl,h1⟩:=hsem;have hV:qpL w mt (a.eval x) l:=q0W hs (by rw [hxe]; rfl) hl;refine ⟨_,_,w,.inl ⟨rfl,h1⟩,rfl,?_,qs.same hs hsc _,?_⟩
  ·intro u hu
   rw [jak] at hu; subst hu;exact qeB
  ·show (execOp a.eval o).run P w = _
   have hrun:=q34 (ty:=o.type) hm hV;subst hargs; subst htys;simp only [execOp,hop,resolve,invoke,builtin,Sem.run_bind,Sem.run_pure,Result.andThen_ok];simp only [List.map_toArray,ja5,jb5,hrun,Result.andThen_ok,Sem.run_pure,SV.den,T.den,O1.den,qq,Env.set_same]
 ·cases h
theorem qDc {op:BinOp} {t ty2:TypeId} {x y:Operand} {r:MR} {φ1 φ2:List U->Prop} (hs:Holds Z hF s a w) (hsc:s.inNx = true) (hop:o.op = .binOp op t x y ty2) (h:qwi P s op t x y = some r) (hsem:r.k.sem Z φ1 φ2):qe5 P Z hF s a w o r φ1 φ2:=by
 unfold qwi at h;split at h
 ·rename_i k e xt hu hx hy
  have hxe:=hs.opd hx;have hye:=hs.opd hy;have hye:a.eval y = .map none:=hye;have key:∀ (b:Bool) (mo:Option Nat),(xt.den Z).v = .map mo->b = mo.isNone->∀ (neg:Bool),(op = if neg then .neq else .eql) ->
    (execOp a.eval o).run P w = .ok (.value (SV.den (qq Z s.nx [{ b:=b }]) (.one (.vbool (if neg then .not (.var s.nx) else .var s.nx))))) w:=by
   intro b mo hmo hb neg hneg;have hxe:a.eval x = .map mo:=by rw [hxe]; exact hmo
   subst hneg hb;cases neg with
   | true=>simp [execOp,hop,hxe,hye,qjI,qth hu,SV.den,T.den,O1.den,qq]
   | false=>simp [execOp,hop,hxe,hye,qjI,qsS hu,SV.den,T.den,O1.den,qq]
  have go:∀ (neg:Bool),(op = if neg then .neq else .eql)->∀ mb:MB,mb = ⟨1,s.heap,some (.one (.vbool (if neg then .not (.var s.nx) else .var s.nx)))⟩->(MK.isnil xt).sem Z φ1 φ2->qe5 P Z hF s a w o ⟨.isnil xt,mb,none⟩ φ1 φ2:=by
   intro neg hneg mb hmb hsem;subst hmb;rcases hsem with ⟨hv,h1⟩ | ⟨⟨q,hv⟩,h1⟩
   ·refine ⟨_,_,w,.inl ⟨rfl,h1⟩,rfl,?_,qs.same hs hsc _,key true none hv rfl neg hneg⟩
    intro u hu;rw [jak] at hu; subst hu;exact qeB
   ·refine ⟨_,_,w,.inl ⟨rfl,h1⟩,rfl,?_,qs.same hs hsc _,key false (some q) hv rfl neg hneg⟩
    intro u hu;rw [jak] at hu; subst hu;exact qeB
  split at h
  ·simp only [jaa] at h; subst h
   exact go false rfl _ rfl hsem
  ·simp only [jaa] at h; subst h
   exact go true rfl _ rfl hsem
  ·cases h
 ·cases h
theorem q3P {t:TypeId} {x k v:Operand} {r:MR} {φ1 φ2:List U->Prop} (hs:Holds Z hF s a w) (hsc:s.inNx = true) (hop:o.op = .mapUpdate t x k v) (h:qlS P s t x k v = some r) (hsem:r.k.sem Z φ1 φ2):qe5 P Z hF s a w o r φ1 φ2:=by
 unfold qlS at h;split at h
 ·rename_i mt xt pos m hmt hx hpos
  split at h
  ·rename_i ks vs hks hvs
   split at h
   ·rename_i hc
    simp only [jaa] at h; subst h;have hm:=qmL hmt;have hxe:=hs.opd hx;obtain ⟨e1,e2⟩:=qs0 hs hks;have e3:=qnj hs hvs;obtain ⟨b,l,clock,hv,⟨hb,hwf⟩,h1⟩:=hsem;have hmem:m ∈ qaq s.heap ++ qaq s.ro:=jb3 _ (qr9 hpos);have hwb:=qen hs hmem hb;have hrun:=qvj hm hwb hwf e2 (v:=qd Z vs)
    let ob:=mt.obj (qbg l (qbU Z ks) (qd Z vs) clock)
    refine ⟨[{ h:=Hp.upd (Z m).h b ob }],_,{ w with heap:=w.heap.setIfInBounds b ob },.inl ⟨rfl,h1 _ qeB rfl⟩,rfl,?_,?_,?_⟩
    ·intro u hu
     rw [jak] at hu; subst hu;exact qeB
    ·exact qs.repiece hs.hp (qgT hsc) (qcU hpos) hb (qwk hwb) (fun y hy=>set_ne hy) ⟨rfl,rfl⟩ rfl
    ·show (execOp a.eval o).run P w = _
     have hxe:a.eval x = .map (some b):=by rw [hxe]; exact hv
     simp only [execOp,hop,hxe,e1,e3,Sem.run_bind,hrun,Result.andThen_ok,Sem.run_pure];rfl
   ·cases h
  ·cases h
 ·cases h
theorem q5b {args:Array Operand} {tys:Array TypeId} {t t2:TypeId} {x k:Operand} {r:MR} {φ1 φ2:List U->Prop} (hs:Holds Z hF s a w) (hsc:s.inNx = true) (hop:o.op = .call { callee:=.builtin .delete,args,argTypes:=tys }) (hargs:args = #[x,k]) (htys:tys = #[t,t2]) (h:qny P s t x k = some r) (hsem:r.k.sem Z φ1 φ2):qe5 P Z hF s a w o r φ1 φ2:=by
 unfold qny at h;split at h
 ·rename_i mt xt pos m hmt hx hpos
  split at h
  ·rename_i ks hks
   simp only [jaa] at h; subst h;have hm:=qmL hmt;have hxe:=hs.opd hx;obtain ⟨e1,e2⟩:=qs0 hs hks;obtain ⟨b,l,clock,hv,⟨hb,hwf⟩,h1⟩:=hsem;have hmem:m ∈ qaq s.heap ++ qaq s.ro:=jb3 _ (qr9 hpos);have hwb:=qen hs hmem hb;have hrun:=qvp (t2:=t2) (ty:=o.type) hm hwb hwf e2
   let ob:=mt.obj (qnq l (qbU Z ks),clock)
   refine ⟨[{ h:=Hp.upd (Z m).h b ob }],_,{ w with heap:=w.heap.setIfInBounds b ob },.inl ⟨rfl,h1 _ qeB rfl⟩,rfl,?_,?_,?_⟩
   ·intro u hu
    rw [jak] at hu; subst hu;exact qeB
   ·exact qs.repiece hs.hp (qgT hsc) (qcU hpos) hb (qwk hwb) (fun y hy=>set_ne hy) ⟨rfl,rfl⟩ rfl
   ·show (execOp a.eval o).run P w = _
    have hxe:a.eval x = .map (some b):=by rw [hxe]; exact hv
    subst hargs; subst htys;simp only [execOp,hop,resolve,invoke,builtin,Sem.run_bind,Sem.run_pure,Result.andThen_ok];simp only [List.map_toArray,ja5,jb5,hxe,e1,hrun,Result.andThen_ok,Sem.run_pure];rfl
  ·cases h
 ·cases h
theorem q6u {t:TypeId} {x:Operand} {r:MR} {φ1 φ2:List U->Prop} (hs:Holds Z hF s a w) (hsc:s.inNx = true) (hop:o.op = .range t x) (h:qpR P s t x = some r) (hsem:r.k.sem Z φ1 φ2):qe5 P Z hF s a w o r φ1 φ2:=by
 unfold qpR at h;split at h
 ·rename_i mt xt hmt hx
  simp only [jaa] at h; subst h;have hm:=qmL hmt;have hxe:=hs.opd hx;obtain ⟨mo,clock,hl,h1⟩:=hsem;have hV:(a.eval x = .map none/\mo = none/\clock = 0)∨∃ b l,a.eval x = .map (some b)/\mo = some b/\w.heap[b]? = some (mt.obj (l,clock)):=by
   rw [hxe];rcases hl with h | ⟨m,hm,b,l,g1,g2,g3,g4⟩
   ·exact .inl h
   ·exact .inr ⟨b,l,g1,g2,qen hs hm g3⟩
  have hrun:=q7N hm hV
  let ob:Obj:=.mapIter mo clock #[] clock
  let us:List U:=[{ h:=Hp.one w.heap.size ob },{ v:=.pointer (some ⟨w.heap.size,0,none⟩) }]
  have h1:=h1 { h:=Hp.one w.heap.size ob } qeB { v:=.pointer (some ⟨w.heap.size,0,none⟩) } (by simp [U.good,Value.oneCell']) ⟨w.heap.size,rfl,rfl⟩;refine ⟨us,_,{ w with heap:=w.heap.push ob },.inl ⟨rfl,h1⟩,rfl,?_,?_,?_⟩
  ·intro u hu
   simp only [us,ja9,jco,or_false] at hu;rcases hu with rfl | rfl
   ·exact qeB
   ·simp [U.good,Value.oneCell']
  ·refine qs.new (n:=s.nx) (d:=w.drawn) hs.hp (qgT hsc) (fun m hm=>(qiI us Z s.nx m hm).symm) ?_
   simp only [SH.den,us,qq];rw [Env.set_ne _ _ (by omega),Env.set_same];exact ⟨Hp.le_refl _,fun h=>by cases h⟩
  ·show (execOp a.eval o).run P w = _
   simp only [execOp,hop,Sem.run_bind,hrun,Result.andThen_ok,Sem.run_pure];simp [SV.den,T.den,us,qq,ob]
 ·cases h
theorem q8M {x:Operand} {ip:List (Nat × Nat)} {r:MR} {φ1 φ2:List U->Prop} (hs:Holds Z hF s a w) (hsc:s.inNx = true) (hop:o.op = .next x false) (h:mapNext P ip s x = some r) (hsem:r.k.sem Z φ1 φ2):qe5 P Z hF s a w o r φ1 φ2:=by
 unfold mapNext at h;split at h
 ·rename_i mt xt pos m hmt hx hpos
  simp only [jaa] at h; subst h;have hxe:=hs.opd hx;obtain ⟨b',since,seen,stepped,mo,hv,hb',hrest⟩:=hsem;have hxe:a.eval x = .pointer (some ⟨b',0,none⟩):=by rw [hxe]; exact hv
  have hmem:m ∈ qaq s.heap ++ qaq s.ro:=jb3 _ (qr9 hpos);have hwb:=qen hs hmem hb';cases mo with
  | none =>
   refine ⟨[],_,w,.inr ⟨rfl,hrest⟩,rfl,by simp,hs.hp,?_⟩
   show (execOp a.eval o).run P w = _
   simp only [execOp,hop,hxe,Sem.run_bind,qzn hwb,Result.andThen_ok,Sem.run_pure];rfl
  | some b =>
   obtain ⟨l,clock,⟨n,hn,hb,hwf⟩,hgone,hover,hnext⟩:=hrest;have hmb:=qen hs hn hb;obtain ⟨w1,hw1,hcase⟩:=qAD (P:=P) (ty:=o.type) hwb hmb hgone;have hhp:w1.heap = w.heap:=by rcases hw1 with rfl | rfl <;> rfl
   have hos:w1.os = w.os/\w1.output = w.output:=by rcases hw1 with rfl | rfl <;> exact ⟨rfl,rfl⟩
   rcases hcase with ⟨hall,hrun⟩ | ⟨e,he,hns,hrun⟩
   ·refine ⟨[],_,w1,.inr ⟨rfl,hover hall⟩,rfl,by simp,?_,?_⟩
    ·obtain ⟨hO,g1,g2,g3,g4⟩:=hs.hp
     exact ⟨hO,g1,g2,fun y ob hy=>by rw [hhp]; exact g3 y ob hy,⟨hos.1.trans g4.1,hos.2.trans g4.2⟩⟩
    ·show (execOp a.eval o).run P w = _
     simp only [execOp,hop,hxe,Sem.run_bind,hrun,Result.andThen_ok,Sem.run_pure];rfl
   ·let ob:Obj:=.mapIter (some b) since (seen ++ [e.born]).toArray clock
    have hek:=(hwf.1 e he).1;have hev:=(hwf.1 e he).2.1
    let us:List U:=[{ h:=Hp.upd (Z m).h b' ob },{ d:=[qab mt.kks e.k] },{ d:=[e.v] }]
    refine ⟨us,_,{ w1 with heap:=w1.heap.setIfInBounds b' ob },.inl ⟨rfl,hnext e he hns _ qeB rfl⟩,rfl,?_,?_,?_⟩
    ·intro u hu
     simp only [us,ja9,jco,or_false] at hu;rcases hu with rfl | rfl | rfl
     ·exact qeB
     ·exact qiA (qiB (qid hek))
     ·exact qiA (qiB hev)
    ·have h0:qs (Z.set s.nx { h:=Hp.upd (Z m).h b' ob }) hF (s.heap.set pos (.abs s.nx 1003)) { w1 with heap:=w1.heap.setIfInBounds b' ob } :=
      qs.repiece hs.hp (qgT hsc) (qcU hpos) hb' (qwk (by rw [hhp]; exact hwb)) (fun y hy=>by rw [set_ne hy,hhp]) hos rfl
     refine qs.congr (n:=s.nx + 1) h0 ?_ (fun q hq=>?_)
     ·refine ja3.2 fun y hy=>?_
      rcases jc0 hy with hy | rfl
      ·exact SH.inB_mono (by omega) (ja3.1 (qgT hsc) y hy)
      ·simp [SH.inB]
     ·exact (qiI [{ d:=[qab mt.kks e.k] },{ d:=[e.v] }] (Z.set s.nx { h:=Hp.upd (Z m).h b' ob }) (s.nx + 1) q hq).symm
    ·show (execOp a.eval o).run P w = _
     have hr1:qd (qq Z s.nx us) (qb7 (s.nx + 1) (mt.kks.map .int) 0) = qab mt.kks e.k:=qgg (by simp only [us,qq]; rw [Env.set_ne _ _ (by omega),Env.set_same]) (qid hek);have hr2:qd (qq Z s.nx us) (qb7 (s.nx + 2) mt.vpat 0) = e.v:=qgg (by simp only [us,qq]; rw [show s.nx + 1 + 1 = s.nx + 2 by omega,Env.set_same]) hev;simp only [execOp,hop,hxe,Sem.run_bind,hrun,Result.andThen_ok,Sem.run_pure,SV.den,ja5,jb5,qp7,hr1,hr2];simp [mkV,qd,T.den,O0.den,O1.den,MT.ent,ob]
 ·cases h
theorem q5H {x:Operand} {ip:List (Nat × Nat)} {r:MR} {φ1 φ2:List U->Prop} (hs:Holds Z hF s a w) (hsc:s.inNx = true) (hop:o.op = .entry x) (h:qn7 P ip s x = some r) (hsem:r.k.sem Z φ1 φ2):qe5 P Z hF s a w o r φ1 φ2:=by
 unfold qn7 at h;split at h
 ·rename_i mt xt pos m hmt hx hpos
  simp only [jaa] at h; subst h;have hxe:=hs.opd hx;obtain ⟨b',since,seen,clock,b,l,e,hv,hb',⟨n,hn,hb,hwf⟩,he,h1⟩:=hsem;have hxe:a.eval x = .pointer (some ⟨b',0,none⟩):=by rw [hxe]; exact hv
  have hmem:m ∈ qaq s.heap ++ qaq s.ro:=jb3 _ (qr9 hpos);have hwb:=qen hs hmem hb';have hmb:=qen hs hn hb;have hek:=(hwf.1 e he).1;have hev:=(hwf.1 e he).2.1
  let us:List U:=[{ d:=[qab mt.kks e.k] },{ d:=[e.v] }]
  refine ⟨us,_,w,.inl ⟨rfl,h1⟩,rfl,?_,qs.same hs hsc _,?_⟩
  ·intro u hu
   simp only [us,ja9,jco,or_false] at hu;rcases hu with rfl | rfl
   ·exact qiA (qiB (qid hek))
   ·exact qiA (qiB hev)
  ·show (execOp a.eval o).run P w = _
   have hr1:qd (qq Z s.nx us) (qb7 s.nx (mt.kks.map .int) 0) = qab mt.kks e.k:=qgg (by simp only [us,qq]; rw [Env.set_ne _ _ (by omega),Env.set_same]) (qid hek);have hr2:qd (qq Z s.nx us) (qb7 (s.nx + 1) mt.vpat 0) = e.v:=qgg (by simp only [us,qq]; rw [Env.set_same]) hev;simp only [execOp,hop,hxe,Sem.run_bind,q7B hwb hmb hwf he,Result.andThen_ok,Sem.run_pure,SV.den,ja5,jb5,qp7,hr1,hr2];simp [MT.ent]
 ·cases h
theorem qzB {ip:List (Nat × Nat)} {r:MR} {φ1 φ2:List U->Prop} (hs:Holds Z hF s a w) (hsc:s.inNx = true) (h:q3Y P ip s o = some r) (hsem:r.k.sem Z φ1 φ2):qe5 P Z hF s a w o r φ1 φ2:=by
 unfold q3Y at h;split at h
 ·rename_i t hop
  simp only [jaa] at h; subst h;exact qA5 hs hsc hop hsem
 ·rename_i hop; exact q4R hs hsc hop h hsem
 ·rename_i hop; exact q3P hs hsc hop h hsem
 ·rename_i args tys hop
  split at h
  ·rename_i hargs htys
   exact q5b hs hsc hop (qbO hargs) (qbO htys) h hsem
  ·cases h
 ·rename_i args tys hop
  split at h
  ·rename_i hargs htys
   exact qC2 hs hsc hop (qil hargs) (qil htys) h hsem
  ·cases h
 ·rename_i hop; exact qDc hs hsc hop h hsem
 ·rename_i hop; exact q6u hs hsc hop h hsem
 ·rename_i hop; exact q8M hs hsc hop h hsem
 ·rename_i hop; exact q5H hs hsc hop h hsem
 ·cases h
end Go.Eng
