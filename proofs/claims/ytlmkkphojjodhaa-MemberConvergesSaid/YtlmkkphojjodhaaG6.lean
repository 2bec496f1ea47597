/- Texts QA, QB, RB, RE, UQ, WA, WB, WC, WD, WE, XA, XE, XF, CW, E17, VA, VB, VD, VE, UT, UP, XB. -/
import Derived.Test.YtlmkkphojjodhaaG5
import Derived.Test.YtlmkkphojjodhaaG1
import Derived.Test.YtlmkkphojjodhaaG4
import Derived.Test.YtlmkkphojjodhaaProg
set_option linter.unusedSimpArgs false
set_option linter.unusedVariables false
set_option linter.unusedSectionVars false
namespace Go.Proofs
open Go Go.Eng
def qc0 (clock:Int) (p:Prb):Bool:=decide (10 <= qaT clock p.sent)
def qe3 (clock:Int) (p:Prb):Prb:=if 4 <= qaT clock p.sent/\p.asked = false then { p with asked:=true } else p
theorem qt0 (self clock draw:Int) (st:TS) (p:Prb):(qaN self clock draw st p).kept = st.kept ++ (if qc0 clock p then [] else [qe3 clock p]):=by
 unfold qaN qc0 qe3;by_cases h:10 <= qaT clock p.sent
 ·rw [jag h]; simp only [h,decide_true,ja5]; split <;> simp
 ·rw [jaf h]; simp only [h,decide_false]
  split <;> simp
theorem qoo (self clock draw:Int):∀ (ps:List Prb) (st:TS),(ps.foldl (qaN self clock draw) st).kept = st.kept ++ (ps.filter (fun p=>!qc0 clock p)).map (qe3 clock)
 | [],st=>by simp
 | p :: ps,st=>by
  rw [jc5,qoo self clock draw ps,qt0];by_cases h:qc0 clock p = true
  ·simp [h]
  ·simp [h]
theorem qum {t:List Ent} {i:Int} {x:Ent}:(qcl t i x).length = t.length:=by simp [qcl]
theorem qqw {t:List Ent} {s:List Int} {c i:Int} {x:Ent}:(qb6 t s c i x).length = s.length:=by unfold qb6; split <;> simp
theorem qmY (self clock draw:Int) (st:TS) (p:Prb):(qaN self clock draw st p).tab.length = st.tab.length/\(qaN self clock draw st p).since.length = st.since.length:=by
 unfold qaN; split
 ·split
  ·simp [qum,qqw]
  ·exact ⟨rfl,rfl⟩
 ·split <;> exact ⟨rfl,rfl⟩
theorem qol (self clock draw:Int):∀ (ps:List Prb) (st:TS),(ps.foldl (qaN self clock draw) st).tab.length = st.tab.length/\(ps.foldl (qaN self clock draw) st).since.length = st.since.length
 | [],st=>⟨rfl,rfl⟩
 | p :: ps,st=>by
  have h1:=qol self clock draw ps (qaN self clock draw st p);have h2:=qmY self clock draw st p;exact ⟨h1.1.trans h2.1,h1.2.trans h2.2⟩
def qbD (clock:Int) (ps:List Prb) (j:Nat):Bool:=ps.any fun p=>qc0 clock p && p.target.toNat == j
theorem qsv (self clock draw:Int) {st:TS} {p:Prb} {j:Nat} {x:Ent} {s:Int} (hx:st.tab[j]? = some x) (hs:st.since[j]? = some s) :
  (qaN self clock draw st p).tab[j]? = some (if (qc0 clock p && p.target.toNat == j) = true/\x.2 = 1 then (x.1,2) else x) /\
  (qaN self clock draw st p).since[j]? = some (if (qc0 clock p && p.target.toNat == j) = true/\x.2 = 1 then clock else s):=by
 unfold qaN;by_cases ho:10 <= qaT clock p.sent
 ·have ho':qc0 clock p = true:=by simp [qc0,ho]
  rw [jag ho,ho'];by_cases ht:p.target.toNat = j
  ·have hst:qaO st.tab p.target = x:=by simp [qaO,ht,jai,hx]
   rw [hst];by_cases h1:x.2 = 1
   ·rw [jag h1]
    have hjl:j < st.tab.length:=(jal.1 hx).1;have hsl:j < st.since.length:=(jal.1 hs).1;have hne:st.tab[p.target.toNat]? ≠ some (x.1,2):=by rw [ht,hx]; intro h; rw [jat h] at h1; simp at h1
    have hs2:qb6 st.tab st.since clock p.target (x.1,2) = st.since.set p.target.toNat clock:=by rw [qb6,jag ⟨hne,rfl⟩]
    simp only [hs2,qcl];simp [ht,h1,hjl,hsl,ja4]
   ·rw [jaf h1]; simp [h1,hx,hs]
  ·split
   ·refine ⟨?_,?_⟩
    ·simp only [qcl]; rw [ja4,jaf ht]; simp [ht,hx]
    ·simp only [qb6]; split
     ·rw [ja4,jaf ht]; simp [ht,hs]
     ·simp [ht,hs]
   ·simp [ht,hx,hs]
 ·have ho':qc0 clock p = false:=by simp [qc0]; omega
  rw [jaf ho,ho'];split <;> simp [hx,hs]
theorem qmK (self clock draw:Int):∀ (ps:List Prb) (st:TS) {j:Nat} {x:Ent} {s:Int},st.tab[j]? = some x->st.since[j]? = some s ->
  (ps.foldl (qaN self clock draw) st).tab[j]? = some (if qbD clock ps j = true/\x.2 = 1 then (x.1,2) else x) /\
  (ps.foldl (qaN self clock draw) st).since[j]? = some (if qbD clock ps j = true/\x.2 = 1 then clock else s)
 | [],st,j,x,s,hx,hs=>by simp [qbD,hx,hs]
 | p :: ps,st,j,x,s,hx,hs=>by
  obtain ⟨h1,h2⟩:=qsv self clock draw (p:=p) hx hs;obtain ⟨h3,h4⟩:=qmK self clock draw ps _ h1 h2;rw [jc5,h3,h4];have hc:qbD clock (p :: ps) j = ((qc0 clock p && p.target.toNat == j) || qbD clock ps j):=rfl;rw [hc];by_cases ha:(qc0 clock p && p.target.toNat == j) = true <;> by_cases hb:qbD clock ps j = true <;> by_cases hx1:x.2 = 1 <;> simp [ha,hb,hx1]
def qec (c:Int) (ps:List Prb) (j:Nat) (x:Ent):Ent:=if qbD c ps j = true/\x.2 = 1 then (x.1,2) else x
def qha (c:Int) (ps:List Prb) (j:Nat) (x:Ent) (s:Int):Int:=if qbD c ps j = true/\x.2 = 1 then c else s
theorem qdb (m:Mach) (draw:Int) {j:Nat} {x:Ent} {s:Int} (hx:m.tab[j]? = some x) (hs:m.since[j]? = some s) :
  (qn m draw).tab[j]? = some (if (j:Int) ≠ m.self/\(qec (qk m) m.probes j x).2 = 2/\qbo m.tab.length <= qaT (qk m) (qha (qk m) m.probes j x s) then ((qec (qk m) m.probes j x).1,3) else qec (qk m) m.probes j x) /\
  (qn m draw).since[j]? = some (qha (qk m) m.probes j x s):=by
 obtain ⟨h1,h2⟩:=qmK m.self (qk m) draw m.probes ⟨m.tab,m.since,[],[]⟩ hx hs;have h1':(qat m draw).tab[j]? = some (qec (qk m) m.probes j x):=h1;have h2':(qat m draw).since[j]? = some (qha (qk m) m.probes j x s):=h2;refine ⟨?_,h2'⟩
 show (qeb m.self (qk m) (qbo m.tab.length) (qat m draw).since (qat m draw).tab)[j]? = _
 rw [qly h1',qgN,jai,h2']; rfl
theorem qeE (m:Mach) (draw:Int):(qn m draw).tab.length = m.tab.length/\(qn m draw).since.length = m.since.length:=by
 have h:=qol m.self (qk m) draw m.probes ⟨m.tab,m.since,[],[]⟩;refine ⟨?_,h.2⟩
 show (qeb m.self (qk m) (qbo m.tab.length) (qat m draw).since (qat m draw).tab).length = _
 rw [qlM]; exact h.1
theorem qbZ (m:Mach) (draw:Int):(qn m draw).probes = (m.probes.filter (fun p=>!qc0 (qk m) p)).map (qe3 (qk m)) ++ [⟨IntKind.u64.wrap (m.seq + 1),qaY m.tab.length m.self m.pinged,qk m,false⟩]:=by
 show (qat m draw).kept ++ _ = _
 rw [show (qat m draw).kept = (m.probes.filter (fun p=>!qc0 (qk m) p)).map (qe3 (qk m)) from by
  have:=qoo m.self (qk m) draw m.probes ⟨m.tab,m.since,[],[]⟩;rw [jco] at this; exact this]
def qac (n self:Int):Nat->Int
 | 0=>self
 | k + 1=>qaY n self (qac n self k)
theorem qq1 {n self pinged:Int} (h2:2 <= n) (h0:0 <= pinged) (hs:0 <= self) (hs':self < n):qaY n self pinged ≠ self:=by
 have a1:Int.tmod (pinged + 1) n < n:=jcg _ (by omega);have a0:0 <= Int.tmod (pinged + 1) n:=jcn _ (by omega);unfold qaY;split
 ·rename_i h
  rw [h];intro hh;by_cases hl:self + 1 < n
  ·rw [jdb (by omega) hl] at hh; omega
  ·have:self + 1 = n:=by omega
   rw [this,jee] at hh; omega
 ·assumption
theorem qbJ {n self:Int} (h2:2 <= n) (h16:n <= 16) (hs:0 <= self) (hs':self < n):∀ k,0 <= qac n self k/\qac n self k < n
 | 0=>⟨hs,hs'⟩
 | k + 1=>qfm h2 h16 (qbJ h2 h16 hs hs' k).1
theorem qkf {n self:Int} (h2:2 <= n) (h16:n <= 16) (hs:0 <= self) (hs':self < n) {k:Nat} (hk:1 <= k):qac n self k ≠ self:=by
 match k,hk with
 | k + 1,_=>exact qq1 h2 (qbJ h2 h16 hs hs' k).1 hs hs'
theorem qcI {c s:Int} (h0:0 <= s) (h:s <= c) (hc:c < 18446744073709551616):qaT c s = c - s:=qbB (by omega) (by omega)
theorem qfx {n self:Int} (h2:2 <= n) (hs:0 <= self) (hs':self < n):∀ k:Nat,(k:Int) < n->qac n self k = if self + k < n then self + k else self + k - n
 | 0,_=>by simp [qac]; omega
 | k + 1,hk=>by
  have ih:=qfx h2 hs hs' k (by omega);simp only [qac,ih];have hr:Int.tmod ((if self + k < n then self + k else self + k - n) + 1) n = if self + (k + 1:Nat) < n then self + (k + 1:Nat) else self + (k + 1:Nat) - n:=by
   by_cases h1:self + (k + 1:Nat) < n
   ·rw [jag h1,jag (by omega),jdb (by omega) (by omega)]; omega
   ·rw [jaf h1]
    by_cases h3:self + k < n
    ·rw [jag h3,show self + k + 1 = n by omega,jee]; omega
    ·rw [jaf h3,jdb (by omega) (by omega)]; omega
  unfold qaY;rw [hr,jaf];split <;> omega
theorem qmC {n self:Int} (h2:2 <= n) (hs:0 <= self) (hs':self < n) {j:Int} (h0:0 <= j) (hj:j < n) (hne:j ≠ self):∃ s:Nat,1 <= s/\(s:Int) <= n - 1/\qac n self s = j:=by
 by_cases h:self < j
 ·refine ⟨(j - self).toNat,by omega,by omega,?_⟩
  rw [qfx h2 hs hs' _ (by omega)]; split <;> omega
 ·refine ⟨(j - self + n).toNat,by omega,by omega,?_⟩
  rw [qfx h2 hs hs' _ (by omega)]; split <;> omega
structure Runs (n me:Int) (m:Mach) (k:Nat):Prop where
 self_eq:m.self = me
 clk:m.clock = k
 sq:m.seq = k
 png:m.pinged = qac n me k
 tl:(m.tab.length:Int) = n
 sl:(m.since.length:Int) = n
 prb:∀ p ∈ m.probes,∃ s:Nat,1 <= s/\s <= k/\p.sent = s/\p.target = qac n me s
 prb':∀ s:Nat,1 <= s->s <= k->k < s + 10->∃ p ∈ m.probes,p.sent = s/\p.target = qac n me s
theorem qfX (c:Int) (p:Prb):(qe3 c p).sent = p.sent/\(qe3 c p).target = p.target/\(qe3 c p).seq = p.seq:=by unfold qe3; split <;> exact ⟨rfl,rfl,rfl⟩
theorem Runs.clock {n me:Int} {m:Mach} {k:Nat} (h:Runs n me m k) (hk:k < 1000):qk m = (k + 1:Nat):=by
 rw [qk,h.clk,qbB (by omega) (by omega)]; omega
theorem Runs.step {n me:Int} {m:Mach} {k:Nat} (draw:Int) (h:Runs n me m k) (hk:k < 1000):Runs n me (qn m draw) (k + 1):=by
 have hc:=h.clock hk;have hl:=qeE m draw;refine ⟨h.self_eq,hc,?_,?_,by rw [hl.1]; exact h.tl,by rw [hl.2]; exact h.sl,fun p hp=>?_,fun s hs1 hs2 hs3=>?_⟩
 ·show IntKind.u64.wrap (m.seq + 1) = _
  rw [h.sq,qbB (by omega) (by omega)]; omega
 ·show qaY m.tab.length m.self m.pinged = _
  rw [h.tl,h.self_eq,h.png]; rfl
 ·rw [qbZ] at hp
  rcases jax.1 hp with hp | hp
  ·obtain ⟨q,hq,rfl⟩:=jbr.1 hp
   obtain ⟨s,a1,a2,a3,a4⟩:=h.prb q (jb2.1 hq).1;obtain ⟨b1,b2,_⟩:=qfX (qk m) q;exact ⟨s,a1,by omega,by rw [b1,a3],by rw [b2,a4]⟩
  ·simp only [jak] at hp
   subst hp;exact ⟨k + 1,by omega,by omega,hc,by show qaY m.tab.length m.self m.pinged = _; rw [h.tl,h.self_eq,h.png]; rfl⟩
 ·rw [qbZ]
  by_cases hsk:s = k + 1
  ·subst hsk
   exact ⟨_,jb4 _ (jak.2 rfl),hc,by show qaY m.tab.length m.self m.pinged = _; rw [h.tl,h.self_eq,h.png]; rfl⟩
  ·obtain ⟨q,hq,a3,a4⟩:=h.prb' s hs1 (by omega) (by omega)
   obtain ⟨b1,b2,_⟩:=qfX (qk m) q;refine ⟨_,jbn _ (jbr.2 ⟨q,jb2.2 ⟨hq,?_⟩,rfl⟩),by rw [b1,a3],by rw [b2,a4]⟩;simp only [qc0,hc,a3,qcI (s:=(s:Int)) (c:=((k + 1:Nat):Int)) (by omega) (by omega) (by omega),jay,jdf];omega
structure Fades (n me:Int) (m0 m:Mach) (k:Nat):Prop where
 own:m.tab[me.toNat]? = m0.tab[me.toNat]?
 early:k <= 10->∀ (j:Nat) (x:Ent),m0.tab[j]? = some x->x.2 = 1->∃ y,m.tab[j]? = some y/\y.2 = 1
 late:∀ (j s:Nat),(j:Int) ≠ me->1 <= s->qac n me s = j->s + 10 <= k->∀ y,m.tab[j]? = some y->y.2 ≠ 1
 susp:∀ (j:Nat),(j:Int) ≠ me->∀ y,m.tab[j]? = some y->y.2 = 2->∃ c:Nat,m.since[j]? = some (c:Int)/\(c:Int) <= n - 1 + 10/\c <= k/\(1 <= k->(k:Int) - c < qbo n.toNat)
theorem Runs.old {n me:Int} {m:Mach} {k:Nat} (h:Runs n me m k) (hk:k < 1000) (h2:2 <= n) (h16:n <= 16) (hs:0 <= me) (hs':me < n) {j:Nat} (hj:qbD (qk m) m.probes j = true) :
  ∃ s:Nat,1 <= s/\s + 10 <= k + 1/\qac n me s = j:=by
 simp only [qbD,jd2,jad,jdq] at hj;obtain ⟨p,hp,ho,ht⟩:=hj;obtain ⟨s,a1,a2,a3,a4⟩:=h.prb p hp;rw [qc0,h.clock hk,a3,jaw,qcI (by omega) (by omega) (by omega)] at ho;have:=qbJ h2 h16 hs hs' s;exact ⟨s,a1,by omega,by rw [<- a4,<- ht,a4]; omega⟩
theorem Runs.young {n me:Int} {m:Mach} {k:Nat} (h:Runs n me m k) (hk:k < 1000) {j s:Nat} (h1:1 <= s) (hs:s + 10 = k + 1) (hp:qac n me s = j):qbD (qk m) m.probes j = true:=by
 obtain ⟨p,hp',a3,a4⟩:=h.prb' s h1 (by omega) (by omega);simp only [qbD,jd2,jad,jdq];refine ⟨p,hp',?_,by rw [a4,hp]; simp⟩;rw [qc0,h.clock hk,a3,jaw,qcI (by omega) (by omega) (by omega)];omega
theorem qim {c:Int} {ps:List Prb} {j:Nat} {x:Ent} (h:¬ (qbD c ps j = true/\x.2 = 1)):qec c ps j x = x:=jaf h
theorem qwP {c:Int} {ps:List Prb} {j:Nat} {x:Ent} {s:Int} (h:¬ (qbD c ps j = true/\x.2 = 1)):qha c ps j x s = s:=jaf h
theorem Fades.step {n me:Int} {m0 m:Mach} {k:Nat} (draw:Int) (h:Runs n me m k) (f:Fades n me m0 m k) (hk:k < 1000) (h2:2 <= n) (h16:n <= 16) (hs:0 <= me) (hs':me < n):Fades n me m0 (qn m draw) (k + 1):=by
 have hc:=h.clock hk;have htl:=h.tl;have hsl:=h.sl;have ent:∀ {j:Nat} {y:Ent},(qn m draw).tab[j]? = some y->∃ (x:Ent) (s:Int),m.tab[j]? = some x/\m.since[j]? = some s:=fun {j y} hy=>by
  have hj:j < m.tab.length:=by have:=(jal.1 hy).1; rwa [(qeE m draw).1] at this
  exact ⟨_,_,jae hj,jae (by omega)⟩
 have w2:10 <= qbo n.toNat:=by unfold qbo; omega
 have hwn:qbo m.tab.length = qbo n.toNat:=by rw [<- htl]; rfl
 refine ⟨?_,fun hk10 j x hx hx1=>?_,fun j s hj h1 hp hsk y hy=>?_,fun j hj y hy hy2=>?_⟩
 ·have hm:m.tab[me.toNat]? = some m.tab[me.toNat]:=jae (by omega)
  have hsn:m.since[me.toNat]? = some m.since[me.toNat]:=jae (by omega);have hno:¬ (qbD (qk m) m.probes me.toNat = true/\m.tab[me.toNat].2 = 1):=fun hh=>by
   obtain ⟨s,a1,_,a3⟩:=h.old hk h2 h16 hs hs' hh.1;exact qkf h2 h16 hs hs' a1 (by rw [a3]; omega)
  rw [(qdb m draw hm hsn).1,qim hno,jaf (fun hh=>hh.1 (by rw [h.self_eq]; omega)),<- hm,f.own]
 ·obtain ⟨y,hy,hy1⟩:=f.early (by omega) j x hx hx1
  have hsn:m.since[j]? = some _:=jae (by have:=(jal.1 hy).1; omega);have hno:¬ (qbD (qk m) m.probes j = true/\y.2 = 1):=fun hh=>by
   obtain ⟨s,a1,a2,_⟩:=h.old hk h2 h16 hs hs' hh.1;omega
  refine ⟨y,?_,hy1⟩;rw [(qdb m draw hy hsn).1,qim hno,jaf (fun hh=>by have:=hh.2.1; omega)]
 ·obtain ⟨x,c,hx,hcs⟩:=ent hy
  rw [(qdb m draw hx hcs).1] at hy;have hy:=jat hy;have hne:(qec (qk m) m.probes j x).2 ≠ 1:=by
   by_cases hlt:s + 10 <= k
   ·have:=f.late j s hj h1 hp hlt x hx
    rw [qim (fun hh=>this hh.2)]; exact this
   ·have hy':=h.young hk h1 (show s + 10 = k + 1 by omega) hp
    unfold qec;split
    ·simp
    ·rename_i hh; exact fun e=>hh ⟨hy',e⟩
  rw [<- hy];split
  ·simp
  ·exact hne
 ·obtain ⟨x,c,hx,hcs⟩:=ent hy
  obtain ⟨e1,e2⟩:=qdb m draw hx hcs;rw [e1] at hy;have hy:=jat hy;rw [e2];rw [h.self_eq,hwn] at hy;split at hy
  ·rw [<- hy] at hy2; cases hy2
  ·rename_i hnd
   rw [<- hy] at hy2;by_cases hh:qbD (qk m) m.probes j = true/\x.2 = 1
   ·have hjn:(j:Int) < n:=by have:=(jal.1 hx).1; omega
    obtain ⟨s0,a1,a2,a3⟩:=qmC h2 hs hs' (j:=(j:Int)) (by omega) hjn hj;have:¬ s0 + 10 <= k:=fun hle=>f.late j s0 hj a1 a3 hle x hx hh.2
    refine ⟨k + 1,by rw [qha,jag hh,hc],by omega,by omega,fun _=>by omega⟩
   ·rw [qim hh] at hy2 hnd
    rw [qwP hh] at hnd ⊢;obtain ⟨c',b1,b2,b3,b4⟩:=f.susp j hj x hx hy2;rw [hcs] at b1;have b1:=jat b1;refine ⟨c',by rw [b1],b2,by omega,fun _=>?_⟩;have:¬ qbo n.toNat <= qaT (qk m) c:=fun hw=>hnd ⟨hj,hy2,hw⟩
    rw [hc,b1,qcI (by omega) (by omega) (by omega)] at this;omega
theorem Runs.wf {n me:Int} {m:Mach} {k:Nat} (h:Runs n me m k) (h2:2 <= n) (h16:n <= 16) (hs:0 <= me) (hs':me < n):qdX m:=by
 have h1:=h.tl;have h3:=h.sl;have hr:=qbJ h2 h16 hs hs' k;refine ⟨by omega,by omega,by omega,by rw [h.self_eq]; exact hs,by rw [h.self_eq]; omega,by rw [h.png]; exact hr.1,by rw [h.png]; omega,fun p hp=>?_⟩;obtain ⟨s,_,_,_,a4⟩:=h.prb p hp;have:=qbJ h2 h16 hs hs' s;rw [a4]; omega
theorem qi3 (self clock draw:Int):∀ (ps:List Prb) (st:TS),(∀ p ∈ ps,qaT clock p.sent < 4)->ps.foldl (qaN self clock draw) st = { st with kept:=st.kept ++ ps }
 | [],st,_=>by simp
 | p :: ps,st,h=>by
  have hp:=h p (jac ..);rw [jc5,qi3 self clock draw ps _ fun q hq=>h q (jab _ hq),qaN,jaf (by omega),jaf (by omega)];simp
theorem qu7 {self clock wait:Int} {since:List Int} {t:List Ent} (h:∀ (j:Nat) (x:Ent),t[j]? = some x->qaT clock (since.getD j 0) < wait):qeb self clock wait since t = t:=by
 apply jbo;intro j;by_cases hj:j < t.length
 ·have hx:=jae hj
  rw [qly hx,hx,qgN,jaf];have:=h j _ hx;omega
 ·rw [jap (by rw [qlM]; omega),jap (by omega)]
theorem qtC {m:Mach} {draw:Int} (hp:∀ p ∈ m.probes,qaT (qk m) p.sent < 4):qat m draw = ⟨m.tab,m.since,m.probes,[]⟩:=by
 have:=qi3 m.self (qk m) draw m.probes ⟨m.tab,m.since,[],[]⟩ hp;rw [jco] at this; exact this
def pr (n me:Int) (a:Bool) (s:Nat):Prb:=⟨s,qac n me s,s,a⟩
structure Calm0 (n me:Int) (m0 m:Mach) (k:Nat):Prop where
 runs:Runs n me m k
 tab:m.tab = m0.tab
 since:m.since = m0.since
 prbs:m.probes = (List.range k).map fun s=>pr n me false (s + 1)
theorem Calm0.young {n me:Int} {m0 m:Mach} {k:Nat} (h:Calm0 n me m0 m k) (hk:k <= 3):∀ p ∈ m.probes,qaT (qk m) p.sent < 4:=fun p hp=>by
 rw [h.prbs] at hp;obtain ⟨s,hs,rfl⟩:=jbr.1 hp;have:=jex.1 hs;rw [h.runs.clock (by omega)]
 show qaT _ ((s + 1:Nat):Int) < 4
 rw [qcI (by omega) (by omega) (by omega)]; omega
theorem Calm0.dead {n me:Int} {m0 m:Mach} {k:Nat} (h:Calm0 n me m0 m k) (h0:∀ s ∈ m0.since,s = 0) (hk:k <= 4):qeb m.self (qk m) (qbo m.tab.length) m.since m.tab = m.tab:=by
 apply qu7;intro j x hx;have w:10 <= qbo m.tab.length:=by unfold qbo; omega
 have:m.since.getD j 0 = 0:=by
  rw [h.since,jai];cases hj:m0.since[j]? with
  | none=>rfl
  | some s=>exact h0 s (jas hj)
 rw [this,h.runs.clock (by omega),qcI (by omega) (by omega) (by omega)]; omega
theorem Calm0.step {n me:Int} {m0 m:Mach} {k:Nat} (draw:Int) (h:Calm0 n me m0 m k) (h0:∀ s ∈ m0.since,s = 0) (hk:k <= 3):Calm0 n me m0 (qn m draw) (k + 1)/\qas m draw = [⟨1,0,qac n me (k + 1),(k + 1:Nat),me,0⟩]:=by
 have hq:=qtC (draw:=draw) (h.young hk);have hq1:IntKind.u64.wrap (m.seq + 1) = (k + 1:Nat):=by rw [h.runs.sq,qbB (by omega) (by omega)]; omega
 have hn:qaY m.tab.length m.self m.pinged = qac n me (k + 1):=by rw [h.runs.tl,h.runs.self_eq,h.runs.png]; rfl
 refine ⟨⟨h.runs.step draw (by omega),?_,?_,?_⟩,?_⟩
 ·simp only [qn,hq]
  rw [h.dead h0 (by omega),h.tab]
 ·simp only [qn,hq]; exact h.since
 ·simp only [qn,hq]
  rw [hq1,hn,h.runs.clock (by omega),h.prbs,jc7,jcl]; rfl
 ·simp only [qas,hq,hq1,jco]
  rw [hn,h.runs.self_eq]
theorem qzL {n me draw:Int} {m0 m:Mach} (h:Calm0 n me m0 m 4) (h0:∀ s ∈ m0.since,s = 0) :
  qas m draw = qgo m0.tab me 1 (qac n me 1) draw ++ [⟨1,0,qac n me 5,5,me,0⟩]/\(qn m draw).probes = [pr n me true 1,pr n me false 2,pr n me false 3,pr n me false 4,pr n me false 5]/\(qn m draw).tab = m0.tab:=by
 have hc:qk m = 5:=h.runs.clock (by omega);have hps:m.probes = [pr n me false 1,pr n me false 2,pr n me false 3,pr n me false 4]:=h.prbs;have hT:qat m draw = ⟨m.tab,m.since,[pr n me true 1,pr n me false 2,pr n me false 3,pr n me false 4],qgo m.tab me 1 (qac n me 1) draw⟩:=by
  rw [qat,qbW,hc,hps,jc5,qi3]
  ·have a1:¬ 10 <= qaT 5 (pr n me false 1).sent:=(by decide:¬ 10 <= qaT 5 1)
   have a2:4 <= qaT 5 (pr n me false 1).sent:=(by decide:4 <= qaT 5 1);rw [qaN,jaf a1,jag ⟨a2,rfl⟩,h.runs.self_eq];rfl
  ·intro p hp
   simp only [jar,ja2,or_false] at hp;rcases hp with rfl | rfl | rfl
   ·exact (by decide:qaT 5 2 < 4)
   ·exact (by decide:qaT 5 3 < 4)
   ·exact (by decide:qaT 5 4 < 4)
 have hq1:IntKind.u64.wrap (m.seq + 1) = 5:=by rw [h.runs.sq]; decide
 have hn:qaY m.tab.length m.self m.pinged = qac n me 5:=by rw [h.runs.tl,h.runs.self_eq,h.runs.png]; rfl
 refine ⟨?_,?_,?_⟩
 ·simp only [qas,hT,hq1]
  rw [hn,h.runs.self_eq,h.tab]
 ·simp only [qn,hT,hq1,hc]
  rw [hn]; rfl
 ·simp only [qn,hT]; rw [h.dead h0 (by omega),h.tab]
theorem qrM {h:Hp} {ms:List Msg} {self:Int} {t:List Ent} {d:List (List Value)} (hs:qa6 h ms self t ms.length d) {i:Nat} {g:Msg} (hg:ms[i]? = some g):∃ v,d[i]? = some (qg7 { g with src:=self } v)/\RdT h v t:=by
 obtain ⟨vs,hl,rfl,hv⟩:=hs;have hi:=(jal.1 hg).1;refine ⟨vs[i]'(by omega),?_,hv _ (jbu _)⟩;simp only [jen,List.drop_length,jbl,jca,qgp,List.getElem?_zipWith,jau,hg,ja9,jae (show i < vs.length by omega)]
theorem qwO {d:List (List Value)} {i:Int} {g:Msg} {v:Value} (h:d[i.toNat]? = some (qg7 g v)):qc d i 0 = g.kind/\qc d i 1 = g.src/\qc d i 2 = g.dst/\qc d i 3 = g.seq/\qc d i 4 = g.origin/\qc d i 5 = g.target:=by
 simp [qc,qU,jai,h,qg7,qbK]
theorem qyG {c:List Int} {draw:Int} (h0:0 <= draw) (hc:1 <= c.length) (j:Nat):∃ k:Nat,k < c.length/\(k:Int) = Int.tmod (Int.tmod draw c.length + j) c.length/\c.getD (Int.tmod (Int.tmod draw c.length + j) c.length).toNat 0 ∈ c:=by
 have a0:0 <= Int.tmod draw c.length:=jcn _ h0;have b0:0 <= Int.tmod (Int.tmod draw c.length + j) c.length:=jcn _ (by omega);have b1:Int.tmod (Int.tmod draw c.length + j) c.length < c.length:=jcg _ (by omega);refine ⟨(Int.tmod (Int.tmod draw c.length + j) c.length).toNat,by omega,by omega,?_⟩;rw [jai,jae (by omega)];exact jbu _
theorem HM.next {me n draw i:Int} {t:List Ent} {m:Mach} {dT dS dP:qbp} {np:Int} {dL:qbp} {nl nm:Int} {dM:qbp} {h:Hp} {nPr:Int} {dPr:qbp}
  (x:HM me n draw i t m dT dS dP np dL nl nm dM h nPr dPr):HI me n draw (i + 1) t m dT dS dP np dL nl:=by
 obtain ⟨hi,⟨o1,o2,o3,o4,o5⟩,hm,hL,_⟩:=x;subst hi;exact ⟨by omega,by omega,⟨o1,o2,o3,o4,by omega⟩,hm,hL⟩
theorem qga {x y:Ent}:qbt x y = false↔¬ (x.1 > y.1∨(x.1 = y.1/\x.2 > y.2)):=by
 simp only [qbt,qdV,jd9,Bool.and_eq_false_iff,jdf,jdu,ne_eq];omega
theorem qkJ {x:Ent}:qbt x x = false:=by rw [qga]; omega
theorem qki.refl {me kind:Int} {t:List Ent}:qki me kind t t:=fun j x y hx hy=>by
 rw [hx] at hy;obtain rfl:=jat hy;exact ⟨qkJ,fun _ _=>rfl⟩
theorem qtV {m:Mach} {draw kind:Int} (hw:qdX m) (hp:∀ p ∈ m.probes,p.target ≠ m.self):qki m.self kind m.tab (qn m draw).tab:=fun j x y hx hy=>by
 have hj:j < m.tab.length:=(jal.1 hx).1;have hs:m.since[j]? = some (m.since[j]'(by rw [hw.2.2.1]; exact hj)):=jae _;obtain ⟨h1,_⟩:=qdb m draw hx hs;rw [hy] at h1;have h1:=jat h1;have hE:∀ z,z = qec (qk m) m.probes j x->(z = x∨(x.2 = 1/\z = (x.1,2)))/\((j:Int) = m.self->z = x):=fun z hz=>by
  unfold qec at hz;split at hz
  ·rename_i hc
   refine ⟨.inr ⟨hc.2,hz⟩,fun hjm=>?_⟩;exfalso;have hc1:=hc.1;simp only [qbD,jd2,jad,jdq] at hc1;obtain ⟨p,hpm,_,ht⟩:=hc1;have h2:=(hw.2.2.2.2.2.2.2 p hpm).1;exact hp p hpm (by omega)
  ·exact ⟨.inl hz,fun _=>hz⟩
 generalize hz:qec (qk m) m.probes j x = z at h1;obtain ⟨c1,c2⟩:=hE z hz.symm;split at h1
 ·rename_i hd
  obtain ⟨d1,d2,_⟩:=hd;subst h1;refine ⟨?_,fun h _=>(d1 h).elim⟩;rw [qga];rcases c1 with rfl | ⟨a,rfl⟩ <;> simp only <;> omega
 ·subst h1
  refine ⟨?_,fun h _=>c2 h⟩;rcases c1 with rfl | ⟨a,rfl⟩
  ·exact qkJ
  ·rw [qga]; simp only; omega
theorem GW.tick {m:Mach} (draw:Int) (h:GW m):GW (qn m draw):=by
 obtain ⟨hw,hp,x,hx,x1,x2⟩:=h;have hw':=hw;obtain ⟨a1,a2,a3,a4,a5,a6,a7,a8⟩:=hw;obtain ⟨l1,l2⟩:=qeE m draw;have hr:=qfm (self:=m.self) (show (2:Int) <= m.tab.length by omega) (by omega) a6;have hn:=qq1 (n:=m.tab.length) (self:=m.self) (by omega) a6 a4 a5;have hpr:∀ p ∈ (qn m draw).probes,(∃ q ∈ m.probes,p.target = q.target)∨p.target = qaY m.tab.length m.self m.pinged:=fun p hpm=>by
  rw [qbZ] at hpm;rcases jax.1 hpm with h | h
  ·obtain ⟨q,hq,rfl⟩:=jbr.1 h
   refine .inl ⟨q,(jb2.1 hq).1,?_⟩;unfold qe3; split <;> rfl
  ·rw [jak.1 h]; exact .inr rfl
 refine ⟨⟨by omega,by omega,by omega,a4,by rw [l1]; exact a5,hr.1,by rw [l1]; exact hr.2,fun p hpm=>?_⟩,fun p hpm=>?_,?_⟩
 ·rcases hpr p hpm with ⟨q,hq,e⟩ | e
  ·rw [l1,e]; exact a8 q hq
  ·rw [l1,e]; exact hr
 ·rcases hpr p hpm with ⟨q,hq,e⟩ | e
  ·rw [e]; exact hp q hq
  ·rw [e]; exact hn
 ·have hj:m.self.toNat < (qn m draw).tab.length:=by omega
  have hy:=jae hj;have:=(qtV (draw:=draw) (kind:=0) hw' hp m.self.toNat x _ hx hy).2 (by omega) (by omega);exact ⟨x,by rw [<- this]; exact hy,x1,x2⟩
theorem qcL {self:Int} {tab t:List Ent} {j:Nat} {x:Ent} (h:tab[j]? = some x):(qc8 self tab t)[j]? = some (if (j:Int) = self then x else qb1 x (qd t j)):=by
 simp [qc8,h]
theorem qh0 (m:Mach) (g:Msg) (t:List Ent):qB m g t = m∨qB m g t = qaK m g t:=by unfold qB; split <;> simp
theorem GW.recv {m:Mach} {g:Msg} {t:List Ent} (h:GW m):GW (qB m g t):=by
 rcases qh0 m g t with e | e <;> rw [e]
 ·exact h
 obtain ⟨⟨a1,a2,a3,a4,a5,a6,a7,a8⟩,hp,x,hx,x1,x2⟩:=h;have l1:(qaK m g t).tab.length = m.tab.length:=qct;have l2:(qaK m g t).since.length = m.since.length:=qed;have hs:∀ p ∈ (qaK m g t).probes,p ∈ m.probes:=fun p hpm=>by
  simp only [qaK] at hpm;split at hpm
  ·exact (jb2.1 hpm).1
  ·exact hpm
 refine ⟨⟨by omega,by omega,by omega,a4,by rw [l1]; exact a5,a6,by rw [l1]; exact a7,fun p hpm=>by rw [l1]; exact a8 p (hs p hpm)⟩,fun p hpm=>hp p (hs p hpm),x,?_,x1,x2⟩;have:=qcL (self:=m.self) (t:=t) hx;rw [jag (by omega)] at this;exact this
theorem GW.leave {m:Mach} (h:GW m):GW (qdR m):=by
 unfold qdR;split
 ·exact h
 ·obtain ⟨⟨a1,a2,a3,a4,a5,a6,a7,a8⟩,hp,x,hx,x1,x2⟩:=h
  refine ⟨⟨?_,?_,?_,a4,?_,a6,?_,fun p hpm=>?_⟩,hp,((qaO m.tab m.self).1,4),?_,by simp,by simp⟩ <;> simp only [qL,ja8]
  ·exact a1
  ·exact a2
  ·exact a3
  ·exact a5
  ·exact a7
  ·exact a8 p hpm
  ·rw [jdi (by omega)]
structure NM where
 m:Msg
 t:List Ent
def qb2 (self:Int) (t:List Ent) (l:List Msg):List NM:=l.map fun g=>⟨{ g with src:=self },t⟩
def qce (m:Mach):Int:=max m.chal (qaO m.tab m.self).1 + 1
def qa7 (m:Mach) (x:NM):Mach:=if (qB m x.m x.t).chal = 0 then qB m x.m x.t else qch (qB m x.m x.t) (qce (qB m x.m x.t))
def okE (K:Int) (e:Ent):Prop:=0 <= e.1/\e.1 <= K/\0 <= e.2/\e.2 <= 4/\(e.1 = 0↔e.2 = 0)
structure MI (n a:Nat) (k K:Int) (m:Mach):Prop where
 self:m.self = a
 han:a < n
 tl:m.tab.length = n
 sl:m.since.length = n
 lf:m.left = false
 ch:m.chal = 0
 ok:∀ e ∈ m.tab,okE K e
 own:(qd m.tab a).2 = 1
 c0:0 <= m.clock
 ck:m.clock <= k
 sq:m.seq = m.clock
 pg:m.pinged = qac n a m.clock.toNat
 snc:∀ s ∈ m.since,0 <= s/\s <= m.clock
 prb:∀ p ∈ m.probes,p.sent = p.seq/\1 <= p.seq/\p.seq <= m.clock/\m.clock <= p.seq + 9/\p.target = qac n a p.seq.toNat
 pl:(m.probes.length:Int) <= m.clock
structure XI (n:Nat) (K:Int) (x:NM):Prop where
 tl:x.t.length = n
 ok:∀ e ∈ x.t,okE K e
 s0:0 <= x.m.src
 s1:x.m.src < n
 d0:0 <= x.m.dst
 d1:x.m.dst < n
 ne:x.m.src ≠ x.m.dst
 kd:(x.m.kind = 1/\0 <= x.m.origin/\x.m.origin < n/\1 <= x.m.seq/\x.m.dst = qac n x.m.origin x.m.seq.toNat)∨(x.m.kind = 2/\0 <= x.m.origin/\x.m.origin < n/\0 <= x.m.seq) ∨
  (x.m.kind = 3/\0 <= x.m.target/\x.m.target < n/\1 <= x.m.seq/\x.m.target = qac n x.m.src x.m.seq.toNat)
theorem okE.mono {K K':Int} {e:Ent} (h:okE K e) (hk:K <= K'):okE K' e:=⟨h.1,by have:=h.2.1; omega,h.2.2⟩
theorem XI.mono {n:Nat} {K K':Int} {x:NM} (h:XI n K x) (hk:K <= K'):XI n K' x:=⟨h.tl,fun e he=>(h.ok e he).mono hk,h.s0,h.s1,h.d0,h.d1,h.ne,h.kd⟩
theorem MI.mono {n a:Nat} {k K k' K':Int} {m:Mach} (h:MI n a k K m) (hk:k <= k') (hK:K <= K'):MI n a k' K' m :=
 ⟨h.self,h.han,h.tl,h.sl,h.lf,h.ch,fun e he=>(h.ok e he).mono hK,h.own,h.c0,by have:=h.ck; omega,h.sq,h.pg,h.snc,h.prb,h.pl⟩
theorem qcA {t:List Ent} {j:Nat} (h:j < t.length):t[j]? = some (qd t j):=by
 rw [jae h]; simp [qd,jai,h]
theorem qkt {t:List Ent} {j:Nat} (h:j < t.length):qd t j ∈ t:=jas (qcA h)
theorem qcz {t:List Ent} {j:Nat} {e:Ent} (h:t[j]? = some e):qd t j = e:=by simp [qd,jai,h]
theorem qk6 {t:List Int} {j:Nat} (h:j < t.length):t[j]? = some (t.getD j 0):=by
 rw [jae h]; simp [jai,h]
theorem MI.oke {n a:Nat} {k K:Int} {m:Mach} (h:MI n a k K m) {x:Nat} (hx:x < n):okE K (qd m.tab x):=h.ok _ (qkt (by rw [h.tl]; exact hx))
theorem MI.sncx {n a:Nat} {k K:Int} {m:Mach} (h:MI n a k K m) {x:Nat} (hx:x < n):0 <= m.since.getD x 0/\m.since.getD x 0 <= m.clock:=h.snc _ (jas (qk6 (by rw [h.sl]; exact hx)))
theorem MI.wf {n a:Nat} {k K:Int} {m:Mach} (h:MI n a k K m) (h2:2 <= n) (h16:n <= 16):qdX m:=by
 have hr:=qbJ (n:=n) (self:=a) (by omega) (by omega) (by omega) (by have:=h.han; omega);have ha:=h.han;refine ⟨by rw [h.tl]; exact h2,by rw [h.tl]; exact h16,by rw [h.tl,h.sl],by rw [h.self]; omega,by rw [h.self,h.tl]; omega,by rw [h.pg]; exact (hr _).1,by rw [h.pg,h.tl]; exact (hr _).2,fun p hp=>?_⟩;obtain ⟨_,_,_,_,e⟩:=h.prb p hp;rw [e,h.tl]; exact hr _
section
variable {n a:Nat} {k K:Int} {m:Mach} (h:MI n a k K m) (h2:2 <= n) (h16:n <= 16) (hk:k < 1000000000) (d:Int)
include h hk
theorem MI.clk1:qk m = m.clock + 1:=qbB (by have:=h.c0; omega) (by have:=h.ck; have:=h.c0; omega)
theorem MI.age {p:Prb} (hp:p ∈ m.probes):qaT (qk m) p.sent = m.clock + 1 - p.seq:=by
 obtain ⟨e,b1,b2,_⟩:=h.prb p hp;rw [h.clk1 hk,e,qcI (by omega) (by omega) (by have:=h.ck; omega)]
theorem MI.oldp {p:Prb} (hp:p ∈ m.probes):qc0 (qk m) p = decide (p.seq + 9 <= m.clock):=by
 rw [qc0,h.age hk hp]
 congr 1
 exact propext ⟨fun _=>by omega,fun _=>by omega⟩
theorem MI.susp {x:Nat}:qbD (qk m) m.probes x = true↔∃ p ∈ m.probes,p.seq + 9 <= m.clock/\p.target.toNat = x:=by
 simp only [qbD,jd2,jad,jdq];constructor
 ·rintro ⟨p,hp,h1,h3⟩
  rw [h.oldp hk hp] at h1;exact ⟨p,hp,by simpa using h1,h3⟩
 ·rintro ⟨p,hp,h1,h3⟩
  exact ⟨p,hp,by rw [h.oldp hk hp]; simpa using h1,h3⟩
theorem MI.tick_ent {x:Nat} (hx:x < n) :
  (qd (qn m d).tab x = qd m.tab x/\(qn m d).since.getD x 0 = m.since.getD x 0/\¬ ((qd m.tab x).2 = 2/\x ≠ a/\10 + 3 * (n:Int) <= m.clock + 1 - m.since.getD x 0/\n <= 16)/\¬ ((qd m.tab x).2 = 1/\∃ p ∈ m.probes,p.seq + 9 <= m.clock/\p.target.toNat = x)) ∨
  ((qd m.tab x).2 = 1/\qd (qn m d).tab x = ((qd m.tab x).1,2)/\(qn m d).since.getD x 0 = m.clock + 1/\∃ p ∈ m.probes,p.seq + 9 <= m.clock/\p.target.toNat = x) ∨
  ((qd m.tab x).2 = 2/\qd (qn m d).tab x = ((qd m.tab x).1,3)/\x ≠ a/\(qn m d).since.getD x 0 = m.since.getD x 0):=by
 obtain ⟨e1,e2⟩:=qdb m d (qcA (show x < m.tab.length by rw [h.tl]; exact hx)) (qk6 (show x < m.since.length by rw [h.sl]; exact hx));have hS:(qn m d).since.getD x 0 = qha (qk m) m.probes x (qd m.tab x) (m.since.getD x 0):=by simp only [jai] at e2 ⊢; rw [e2]; rfl
 have hE:=qcz e1;have hsu:=h.susp hk (x:=x);obtain ⟨b1,b2⟩:=h.sncx hx;have hw:qbo m.tab.length = 10 + 3 * min (n:Int) 16:=by rw [qbo,h.tl]; omega
 have hck:=h.ck;have hc1:=h.clk1 hk;by_cases hc:qbD (qk m) m.probes x = true/\(qd m.tab x).2 = 1
 ·have hz:qec (qk m) m.probes x (qd m.tab x) = ((qd m.tab x).1,2):=jag hc
  have hs:qha (qk m) m.probes x (qd m.tab x) (m.since.getD x 0) = qk m:=jag hc;have hc0:=h.c0;rw [hz,hs,jaf (by
   rintro ⟨_,_,h3⟩
   rw [qcI (by omega) (by omega) (by omega),hw] at h3;omega)] at hE
  exact .inr (.inl ⟨hc.2,hE,by rw [hS,hs,hc1],hsu.1 hc.1⟩)
 ·have hz:qec (qk m) m.probes x (qd m.tab x) = qd m.tab x:=jaf hc
  have hs:qha (qk m) m.probes x (qd m.tab x) (m.since.getD x 0) = m.since.getD x 0:=jaf hc;rw [hz,hs] at hE;rw [hs] at hS;have hag:qaT (qk m) (m.since.getD x 0) = m.clock + 1 - m.since.getD x 0:=by rw [qcI (by omega) (by omega) (by omega),hc1]
  rw [hag,hw,h.self] at hE;split at hE
  ·rename_i hd
   exact .inr (.inr ⟨hd.2.1,hE,by have:=hd.1; omega,hS⟩)
  ·rename_i hd
   refine .inl ⟨hE,hS,fun hh=>hd ⟨by omega,hh.1,by omega⟩,fun hh=>hc ⟨hsu.2 hh.2,hh.1⟩⟩
theorem MI.tick_prb {p':Prb} (hp:p' ∈ (qn m d).probes):(∃ p ∈ m.probes,p'.seq = p.seq/\p'.target = p.target/\p'.sent = p.sent/\m.clock < p.seq + 9)∨(p'.seq = m.clock + 1/\p'.target = (qn m d).pinged/\p'.sent = m.clock + 1):=by
 have hc1:=h.clk1 hk;rw [qbZ] at hp;rcases jax.1 hp with hp | hp
 ·obtain ⟨p,hq,rfl⟩:=jbr.1 hp
  obtain ⟨hq1,hq2⟩:=jb2.1 hq;rw [h.oldp hk hq1] at hq2;obtain ⟨y1,y2,y3⟩:=qfX (qk m) p;exact .inl ⟨p,hq1,y3,y2,y1,by simpa using hq2⟩
 ·rw [jak.1 hp]
  exact .inr ⟨by show IntKind.u64.wrap (m.seq + 1) = _; rw [h.sq]; exact hc1,rfl,hc1⟩
theorem MI.tick_keep {p:Prb} (hp:p ∈ m.probes) (ha:m.clock < p.seq + 9):∃ p' ∈ (qn m d).probes,p'.seq = p.seq/\p'.target = p.target:=by
 obtain ⟨y1,y2,y3⟩:=qfX (qk m) p;refine ⟨qe3 (qk m) p,?_,y3,y2⟩;rw [qbZ];refine jax.2 (.inl (jbr.2 ⟨p,jb2.2 ⟨hp,?_⟩,rfl⟩));rw [h.oldp hk hp]; simp; omega
theorem MI.tick_new:∃ p' ∈ (qn m d).probes,p'.seq = m.clock + 1/\p'.target = (qn m d).pinged:=by
 refine ⟨_,by rw [qbZ]; exact jax.2 (.inr (jak.2 rfl)),?_,rfl⟩
 show IntKind.u64.wrap (m.seq + 1) = _; rw [h.sq]; exact h.clk1 hk
theorem MI.tick_png:(qn m d).pinged = qac n a (m.clock + 1).toNat:=by
 show qaY m.tab.length m.self m.pinged = _
 rw [h.tl,h.self,h.pg,show (m.clock + 1).toNat = m.clock.toNat + 1 by have:=h.c0; omega];rfl
theorem MI.tick_clk:(qn m d).clock = m.clock + 1/\(qn m d).seq = m.clock + 1:=⟨h.clk1 hk,by show IntKind.u64.wrap (m.seq + 1) = _; rw [h.sq]; exact h.clk1 hk⟩
include h2 h16
theorem MI.prb_ne {p:Prb} (hp:p ∈ m.probes):p.target ≠ a/\0 <= p.target/\p.target < n:=by
 obtain ⟨_,b1,_,_,e⟩:=h.prb p hp;have ha:=h.han;rw [e];exact ⟨qkf (by omega) (by omega) (by omega) (by omega) (by omega),qbJ (by omega) (by omega) (by omega) (by omega) _⟩
theorem MI.tick_own:qd (qn m d).tab a = qd m.tab a:=by
 rcases h.tick_ent hk d h.han with h1 | ⟨_,_,_,p,hp,_,h3⟩ | ⟨_,_,h3,_⟩
 ·exact h1.1
 ·obtain ⟨q1,q2,q3⟩:=h.prb_ne h2 h16 hk hp
  omega
 ·exact (h3 rfl).elim
theorem MI.tick:MI n a (k + 1) K (qn m d):=by
 obtain ⟨l1,l2⟩:=qeE m d;obtain ⟨c1,c2⟩:=h.tick_clk hk d;have hck:=h.ck;have hc0:=h.c0;have e1:=l1.trans h.tl;have e2:=l2.trans h.sl;refine ⟨h.self,h.han,e1,e2,h.lf,h.ch,fun e he=>?_,by rw [h.tick_own h2 h16 hk d]; exact h.own,by omega,by omega,by omega,by rw [h.tick_png hk d,c1],fun s hs=>?_,fun p hp=>?_,?_⟩
 ·obtain ⟨x,hx,rfl⟩:=jbz he
  rw [<- qcz (jae hx)];have hx':x < n:=by omega
  obtain ⟨o1,o2,o3,o4,o5⟩:=h.oke hx';rcases h.tick_ent hk d hx' with ⟨g,_⟩ | ⟨g0,g,_⟩ | ⟨g0,g,_⟩ <;> rw [g]
  ·exact h.oke hx'
  ·exact ⟨o1,o2,by simp,by simp,by simp only; omega⟩
  ·exact ⟨o1,o2,by simp,by simp,by simp only; omega⟩
 ·obtain ⟨x,hx,rfl⟩:=jbz hs
  have hx':x < n:=by omega
  have hq:(qn m d).since[x] = (qn m d).since.getD x 0:=by simp [jai,hx]
  obtain ⟨b1,b2⟩:=h.sncx hx';rw [hq,c1];rcases h.tick_ent hk d hx' with ⟨_,g,_⟩ | ⟨_,_,g,_⟩ | ⟨_,_,_,g⟩ <;> rw [g] <;> omega
 ·rcases h.tick_prb hk d hp with ⟨q,hq,f1,f2,f3,f4⟩ | ⟨f1,f2,f3⟩
  ·obtain ⟨g1,g2,g3,g4,g5⟩:=h.prb q hq
   exact ⟨by rw [f3,f1,g1],by omega,by omega,by omega,by rw [f2,f1,g5]⟩
  ·exact ⟨by omega,by omega,by omega,by omega,by rw [f2,h.tick_png hk d,f1]⟩
 ·rw [qbZ,c1]
  simp only [jav,jaz,jbh,jcm];have:=jc6 (fun p=>!qc0 (qk m) p) m.probes;have:=h.pl;omega
end
theorem qwb (self clock draw:Int) (st:TS) (p:Prb) {g:Msg} (hg:g ∈ (qaN self clock draw st p).msgs):g ∈ st.msgs∨∃ T:List Ent,T.length = st.tab.length/\g ∈ qgo T self p.seq p.target draw:=by
 unfold qaN at hg;split at hg
 ·split at hg <;> exact .inl hg
 ·split at hg
  ·rcases jax.1 hg with h | h
   ·exact .inl h
   ·exact .inr ⟨_,rfl,h⟩
  ·exact .inl hg
theorem qqd (self clock draw:Int):∀ (ps:List Prb) (st:TS) {g:Msg},g ∈ (ps.foldl (qaN self clock draw) st).msgs->g ∈ st.msgs∨∃ p ∈ ps,∃ T:List Ent,T.length = st.tab.length/\g ∈ qgo T self p.seq p.target draw
 | [],st,g,hg=>.inl hg
 | p :: ps,st,g,hg=>by
  rcases qqd self clock draw ps _ hg with h | ⟨q,hq,T,hT,h⟩
  ·rcases qwb self clock draw st p h with h | ⟨T,hT,h⟩
   ·exact .inl h
   ·exact .inr ⟨p,jac ..,T,hT,h⟩
  ·exact .inr ⟨q,jab _ hq,T,by rw [hT,(qmY self clock draw st p).1],h⟩
theorem qq7 {l:List Ent} {i:Int} (h:i ∈ qbC l):0 <= i/\i < l.length/\qcb (qd l i.toNat).2 = true:=by
 simp only [qbC,qbj,jbr,jb2,jex] at h;obtain ⟨j,⟨hj,hl⟩,rfl⟩:=h;exact ⟨by simp,by simp; exact hj,by simpa [qd] using hl⟩
theorem qyw {t:List Ent} {self seq target draw:Int} {g:Msg} (h0:0 <= draw) (hg:g ∈ qgo t self seq target draw):∃ i:Int,g = ⟨3,0,i,seq,0,target⟩/\0 <= i/\i < t.length/\i ≠ self/\i ≠ target:=by
 simp only [qgo,qjs,jbr,jex] at hg;obtain ⟨j,hj,rfl⟩:=hg;obtain ⟨_,_,_,hm⟩:=qyG (c:=qdl t self target) h0 (by omega) j;simp only [qdl,jb2,jay,jd9,jdu] at hm;obtain ⟨hl,n1,n2⟩:=hm;obtain ⟨b1,b2,_⟩:=qq7 hl;exact ⟨_,rfl,b1,b2,n1,n2⟩
theorem qfB {self:Int} {t:List Ent} {l:List Msg} {x:NM}:x ∈ qb2 self t l↔∃ g ∈ l,x = ⟨{ g with src:=self },t⟩:=by
 simp only [qb2,jbr,eq_comm]
section
variable {n a:Nat} {k K:Int} {m:Mach} (h:MI n a k K m) (h2:2 <= n) (h16:n <= 16) (hk:k < 1000000000) {d:Int} (hd:0 <= d)
include h h2 h16 hk
theorem MI.tick_net (hd:0 <= d) {x:NM} (hx:x ∈ qb2 m.self (qn m d).tab (qas m d)):XI n K x/\x.t = (qn m d).tab/\x.m.src = a/\x.m.kind ≠ 2:=by
 obtain ⟨g,hg,rfl⟩:=qfB.1 hx;have ht:=h.tick h2 h16 hk d;have ha:=h.han;have hc0:=h.c0;have hr:=qbJ (n:=n) (self:=a) (by omega) (by omega) (by omega) (by omega);rw [qas] at hg;rcases jax.1 hg with hg | hg
 ·rcases qqd _ _ _ _ _ hg with hg | ⟨p,hp,T,hT,hg⟩
  ·cases hg
  ·obtain ⟨i,rfl,b1,b2,b3,b4⟩:=qyw hd hg
   obtain ⟨_,c1,c2,c3,c4⟩:=h.prb p hp;obtain ⟨q1,q2,q3⟩:=h.prb_ne h2 h16 hk hp;rw [h.self] at b3;have hT':T.length = n:=by rw [hT]; exact h.tl
   refine ⟨⟨ht.tl,ht.ok,by simp only [h.self]; omega,by simp only [h.self]; omega,b1,by simp only; omega,by simp only [h.self]; omega,.inr (.inr ⟨rfl,q2,q3,c1,by simp only [h.self]; exact c4⟩)⟩,rfl,h.self,by simp⟩
 ·rw [jak.1 hg]
  have hp:qaY m.tab.length a m.pinged = qac n a (m.clock + 1).toNat:=by rw [<- h.self]; exact (h.tick_png hk d).trans (by rw [h.self])
  have hq:IntKind.u64.wrap (m.seq + 1) = m.clock + 1:=(h.tick_clk hk d).2;have hne:=qkf (n:=n) (self:=a) (by omega) (by omega) (by omega) (by omega) (show 1 <= (m.clock + 1).toNat by omega);refine ⟨⟨ht.tl,ht.ok,by simp only [h.self]; omega,by simp only [h.self]; omega,by simp only [h.self,hp]; exact (hr _).1,by simp only [h.self,hp]; exact (hr _).2,by simp only [h.self,hp]; exact fun e=>hne e.symm,.inl ⟨rfl,by simp only [h.self]; omega,by simp only [h.self]; omega,by simp only [hq]; omega,by simp only [h.self,hp,hq]⟩⟩,rfl,h.self,by simp⟩
theorem MI.tick_ping:(⟨⟨1,a,qac n a (m.clock + 1).toNat,m.clock + 1,a,0⟩,(qn m d).tab⟩:NM) ∈ qb2 m.self (qn m d).tab (qas m d):=by
 refine qfB.2 ⟨_,by rw [qas]; exact jax.2 (.inr (jak.2 rfl)),?_⟩;have hp:qaY m.tab.length a m.pinged = qac n a (m.clock + 1).toNat:=by rw [<- h.self]; exact (h.tick_png hk d).trans (by rw [h.self])
 have hq:IntKind.u64.wrap (m.seq + 1) = m.clock + 1:=(h.tick_clk hk d).2;simp only [h.self,hp,hq]
end
theorem qwK {K:Int} {t:List Ent} (h:∀ e ∈ t,okE K e):qfM t = true:=by
 simp only [qfM,jao];intro e he;obtain ⟨o1,o2,o3,o4,o5⟩:=h e he;simp only [qf4,jad,jaw,jdq];refine ⟨o4,?_⟩;by_cases hz:e.1 = 0
 ·simp [o5.1 hz,hz]
 ·have h2:¬ e.2 = 0:=fun hh=>hz (o5.2 hh)
  rw [show (e.1 == 0) = false by simpa using hz,show (e.2 == 0) = false by simpa using h2]
theorem qcN {x y:Ent}:qbt x y = true↔(y.1 < x.1∨(x.1 = y.1/\y.2 < x.2)):=by
 simp only [qbt,qdV,jcc,jad,jaw,jdq]
theorem qqk {K:Int} {x y:Ent} (h1:okE K x) (h2:okE K y):okE K (qb1 x y):=by unfold qb1; split <;> assumption
section
variable {n a:Nat} {k K:Int} {m:Mach} (h:MI n a k K m) (h2:2 <= n) (h16:n <= 16) {x:NM} (hx:XI n K x) (hd:x.m.dst = a)
include h h2 h16 hx hd
theorem MI.recv_ok:qc7 m x.m x.t = 0:=by
 have hv:qj0 x.t = true:=by
  simp only [qj0,jad,jaw];exact ⟨⟨by rw [hx.tl]; omega,by rw [hx.tl]; exact h16⟩,qwK hx.ok⟩
 have hne:=hx.ne;have s0:=hx.s0;have s1:=hx.s1;rw [qc7,h.lf,jaf (by decide),jag];simp only [qgA,h.self,h.tl,hv,hd,hx.tl,qk0,jad,jaw,jay,jdu,beq_self_eq_true,and_true];refine ⟨⟨⟨s0,s1⟩,by omega⟩,?_⟩;rcases hx.kd with ⟨e,c1,c2,_⟩ | ⟨e,c1,c2,_⟩ | ⟨e,c1,c2,_⟩ <;> rw [e] <;> simp <;> omega
theorem MI.recv_eq:qB m x.m x.t = qaK m x.m x.t:=by rw [qB,jag (h.recv_ok h2 h16 hx hd)]
theorem MI.own_ok:okE K (qd m.tab a)/\okE K (qd x.t a):=⟨h.oke h.han,hx.ok _ (qkt (by rw [hx.tl]; exact h.han))⟩
theorem MI.chal:((qB m x.m x.t).chal = 0/\qbt (qd x.t a) (qd m.tab a) = false) ∨
  ((qB m x.m x.t).chal = (qd x.t a).1/\(qB m x.m x.t).chal ≠ 0/\qbt (qd x.t a) (qd m.tab a) = true/\qce (qB m x.m x.t) = (qd x.t a).1 + 1/\qdQ (qB m x.m x.t) (qce (qB m x.m x.t)) = 0):=by
 have hown:=h.own;obtain ⟨⟨o1,o2,o3,o4,o5⟩,⟨p1,p2,p3,p4,p5⟩⟩:=h.own_ok h2 h16 hx hd;have hat:(qd m.tab a).1 ≠ 0:=fun hh=>by have:=o5.1 hh; omega
 rw [h.recv_eq h2 h16 hx hd];have hst:qaO (qaK m x.m x.t).tab (qaK m x.m x.t).self = qd m.tab a:=by
  show qaO (qc8 m.self m.tab x.t) m.self = _
  have:=qcL (self:=m.self) (t:=x.t) (qcA (show a < m.tab.length by rw [h.tl]; exact h.han));rw [jag (by rw [h.self])] at this;simp only [qaO,h.self,jbw,jai];rw [h.self] at this;rw [this]; rfl
 have hch:(qaK m x.m x.t).chal = if qbt (qd x.t a) (qd m.tab a) = true then max 0 (qd x.t a).1 else 0:=by
  show qdx m.self m.tab x.t m.chal = _
  rw [qdx,h.self,h.ch,jbw]
 by_cases hn:qbt (qd x.t a) (qd m.tab a) = true
 ·rw [jag hn] at hch
  have hgt:=qcN.1 hn;have hi:qce (qaK m x.m x.t) = (qd x.t a).1 + 1:=by rw [qce,hch,hst]; omega
  refine .inr ⟨by omega,by omega,hn,hi,?_⟩;rw [hi,qdQ,hst,hch,show (qaK m x.m x.t).left = m.left from rfl,h.lf,jaf (by decide),jaf (by omega)]
 ·rw [jaf hn] at hch
  exact .inl ⟨hch,by simpa using hn⟩
theorem MI.hear_ent {y:Nat} (hy:y < n) (hya:y ≠ a):qd (qa7 m x).tab y = qb1 (qd m.tab y) (qd x.t y):=by
 have hr:qd (qaK m x.m x.t).tab y = qb1 (qd m.tab y) (qd x.t y):=by
  have:=qcL (self:=m.self) (t:=x.t) (qcA (show y < m.tab.length by rw [h.tl]; exact hy));rw [jaf (by rw [h.self]; omega)] at this;exact qcz this
 rw [<- hr];rcases h.chal h2 h16 hx hd with ⟨c,_⟩ | ⟨_,c,_,hi,hr0⟩
 ·rw [qa7,jag c,h.recv_eq h2 h16 hx hd]
 ·rw [qa7,jaf c,qch,jag hr0,h.recv_eq h2 h16 hx hd]
  show qd ((qaK m x.m x.t).tab.set m.self.toNat _) y = _
  simp only [qd,jai,h.self,jbw];rw [List.getElem?_set_ne (Ne.symm hya)]
theorem MI.hear_own:(qbt (qd x.t a) (qd m.tab a) = false/\qd (qa7 m x).tab a = qd m.tab a)∨(qbt (qd x.t a) (qd m.tab a) = true/\qd (qa7 m x).tab a = ((qd x.t a).1 + 1,1)):=by
 have hl:(qaK m x.m x.t).tab.length = n:=by rw [show (qaK m x.m x.t).tab.length = m.tab.length from qct,h.tl]
 rcases h.chal h2 h16 hx hd with ⟨c,hn⟩ | ⟨_,c,hn,hi,hr0⟩
 ·refine .inl ⟨hn,?_⟩
  rw [qa7,jag c,h.recv_eq h2 h16 hx hd];have:=qcL (self:=m.self) (t:=x.t) (qcA (show a < m.tab.length by rw [h.tl]; exact h.han));rw [jag (by rw [h.self])] at this;exact qcz this
 ·refine .inr ⟨hn,?_⟩
  rw [qa7,jaf c,qch,jag hr0,hi,h.recv_eq h2 h16 hx hd]
  show qd ((qaK m x.m x.t).tab.set m.self.toNat _) a = _
  have:=h.han;simp only [qd,jai,h.self,jbw];rw [jdi (by omega)]; rfl
theorem MI.hear_same:(qa7 m x).clock = m.clock/\(qa7 m x).seq = m.seq/\(qa7 m x).pinged = m.pinged/\(qa7 m x).self = m.self/\(qa7 m x).left = m.left/\(qa7 m x).chal = 0 /\
  (qa7 m x).probes = (if x.m.kind = 2/\x.m.origin = a then m.probes.filter (fun p=>!(p.seq == x.m.seq)) else m.probes)/\(qa7 m x).since = qbh m.self m.clock m.tab m.since x.t/\(qa7 m x).tab.length = n:=by
 have hp:(qaK m x.m x.t).probes = (if x.m.kind = 2/\x.m.origin = a then m.probes.filter (fun p=>!(p.seq == x.m.seq)) else m.probes):=by
  simp only [qaK,qb4,h.self,jaw]
 have hl:(qaK m x.m x.t).tab.length = n:=by rw [show (qaK m x.m x.t).tab.length = m.tab.length from qct,h.tl]
 rw [<- hp];rcases h.chal h2 h16 hx hd with ⟨c,hn⟩ | ⟨_,c,hn,hi,hr0⟩
 ·rw [qa7,jag c,h.recv_eq h2 h16 hx hd]
  rw [h.recv_eq h2 h16 hx hd] at c;exact ⟨rfl,rfl,rfl,rfl,rfl,c,rfl,rfl,hl⟩
 ·rw [qa7,jaf c,qch,jag hr0,h.recv_eq h2 h16 hx hd]
  exact ⟨rfl,rfl,rfl,rfl,rfl,rfl,rfl,rfl,by simp only [ja8]; exact hl⟩
theorem MI.hear_since {y:Nat} (hy:y < n) (hya:y ≠ a):(qa7 m x).since.getD y 0 = if qd (qa7 m x).tab y ≠ qd m.tab y/\(qd (qa7 m x).tab y).2 = 2 then m.clock else m.since.getD y 0:=by
 rw [h.hear_ent h2 h16 hx hd hy hya,(h.hear_same h2 h16 hx hd).2.2.2.2.2.2.2.1];have hs:=qk6 (show y < m.since.length by rw [h.sl]; exact hy);simp only [qbh,jai,jdc] at hs ⊢;rw [hs];simp only [ja9,jbi,h.self];have:(y:Int) ≠ (a:Int):=by omega
 simp [this]
theorem MI.hear:MI n a k (K + 1) (qa7 m x):=by
 obtain ⟨e1,e2,e3,e4,e5,e6,e7,e8,e9⟩:=h.hear_same h2 h16 hx hd;obtain ⟨⟨o1,o2,o3,o4,o5⟩,⟨p1,p2,p3,p4,p5⟩⟩:=h.own_ok h2 h16 hx hd;have hsub:∀ p ∈ (qa7 m x).probes,p ∈ m.probes:=fun p hp=>by
  rw [e7] at hp;split at hp
  ·exact (jb2.1 hp).1
  ·exact hp
 have hsl:(qa7 m x).since.length = n:=by rw [e8,qed,h.sl]
 refine ⟨e4.trans h.self,h.han,e9,hsl,e5.trans h.lf,e6,fun e he=>?_,?_,by rw [e1]; exact h.c0,by rw [e1]; exact h.ck,by rw [e2,e1,h.sq],by rw [e3,e1,h.pg],fun s hs=>?_,fun p hp=>by rw [e1]; exact h.prb p (hsub p hp),?_⟩
 ·obtain ⟨y,hy,rfl⟩:=jbz he
  rw [<- qcz (jae hy)];have hy':y < n:=by omega
  by_cases hya:y = a
  ·subst hya
   rcases h.hear_own h2 h16 hx hd with ⟨_,g⟩ | ⟨_,g⟩ <;> rw [g]
   ·exact (h.oke hy').mono (by omega)
   ·exact ⟨by simp only; omega,by simp only; omega,by simp,by simp,by simp only; omega⟩
  ·rw [h.hear_ent h2 h16 hx hd hy' hya]
   exact (qqk (h.oke hy') (hx.ok _ (qkt (by rw [hx.tl]; exact hy')))).mono (by omega)
 ·rcases h.hear_own h2 h16 hx hd with ⟨_,g⟩ | ⟨_,g⟩ <;> rw [g]
  exact h.own
 ·obtain ⟨y,hy,rfl⟩:=jbz hs
  have hy':y < n:=by omega
  obtain ⟨b1,b2⟩:=h.sncx hy';have hc0:=h.c0;have hq:(qa7 m x).since[y] = (qa7 m x).since.getD y 0:=by simp [jai,hy]
  rw [hq,e1];have hgs:=qk6 (show y < m.since.length by rw [h.sl]; exact hy');have:(qa7 m x).since.getD y 0 = m.clock∨(qa7 m x).since.getD y 0 = m.since.getD y 0:=by
   rw [e8];simp only [qbh,jai,jdc] at hgs ⊢;rw [hgs];simp only [ja9,jbi];split <;> simp
  omega
 ·rw [e1]
  have:=h.pl;rw [e7];split
  ·have:=jc6 (fun p:Prb=>!(p.seq == x.m.seq)) m.probes
   omega
  ·exact this
theorem MI.hear_net {z:NM} (hz:z ∈ qb2 m.self (qB m x.m x.t).tab (qa5 m x.m x.t)):XI n K z/\z.m.src = a/\(∀ y,y < n->y ≠ a->qd z.t y = qd (qa7 m x).tab y)/\qd z.t a = qd m.tab a/\z.m = { qam a x.m with src:=a }/\¬ (x.m.kind = 2/\x.m.origin = a):=by
 obtain ⟨g,hg,rfl⟩:=qfB.1 hz;have hne:=hx.ne;have s0:=hx.s0;have s1:=hx.s1;have ha:=h.han;rw [qa5] at hg;split at hg
 ·rename_i hf
  rw [jak.1 hg,h.recv_eq h2 h16 hx hd];have hf2:¬ (x.m.kind = 2/\x.m.origin = a):=by have:=hf.2; simp only [qb4,h.self,jdf] at this; exact this
  have hl:(qaK m x.m x.t).tab.length = n:=by rw [show (qaK m x.m x.t).tab.length = m.tab.length from qct,h.tl]
  have hown:qd (qaK m x.m x.t).tab a = qd m.tab a:=by
   have:=qcL (self:=m.self) (t:=x.t) (qcA (show a < m.tab.length by rw [h.tl]; exact ha));rw [jag (by rw [h.self])] at this;exact qcz this
  have hoth:∀ y,y < n->y ≠ a->qd (qaK m x.m x.t).tab y = qb1 (qd m.tab y) (qd x.t y):=fun y hy hya=>by
   have:=qcL (self:=m.self) (t:=x.t) (qcA (show y < m.tab.length by rw [h.tl]; exact hy));rw [jaf (by rw [h.self]; omega)] at this;exact qcz this
  refine ⟨⟨hl,fun e he=>?_,by simp only [h.self]; omega,by simp only [h.self]; omega,?_,?_,?_,?_⟩,h.self,fun y hy hya=>by rw [h.hear_ent h2 h16 hx hd hy hya]; exact hoth y hy hya,hown,by simp only [h.self],hf2⟩
  ·have he':e ∈ (qaK m x.m x.t).tab:=he
   obtain ⟨y,hy,rfl⟩:=jbz he';have hy':y < n:=by omega
   have:(qaK m x.m x.t).tab[y] = qd (qaK m x.m x.t).tab y:=(qcz (jae hy)).symm
   show okE K ((qaK m x.m x.t).tab[y])
   rw [this];by_cases hya:y = a
   ·subst hya; rw [hown]; exact h.oke hy'
   ·rw [hoth y hy' hya]; exact qqk (h.oke hy') (hx.ok _ (qkt (by rw [hx.tl]; exact hy')))
  all_goals
   rcases hx.kd with ⟨e,c1,c2,c3,c4⟩ | ⟨e,c1,c2,c3⟩ | ⟨e,c1,c2,c3,c4⟩
  ·simp only [qam,e,h.self]; simp; omega
  ·simp only [qam,e,h.self]; simp; omega
  ·simp only [qam,e,h.self]; simp only [ja5]; split <;> simp <;> omega
  ·simp only [qam,e,h.self]; simp; omega
  ·simp only [qam,e,h.self]; simp; omega
  ·simp only [qam,e,h.self]; simp only [ja5]; split <;> simp <;> omega
  ·simp only [qam,e,h.self]; simp; omega
  ·simp only [qam,e,h.self]; simp; have:¬ x.m.origin = a:=fun hh=>hf2 ⟨e,hh⟩; omega
  ·simp only [qam,e,h.self]; simp only [ja5]; split <;> simp <;> omega
  ·simp only [qam,e,h.self]; simp; omega
  ·simp only [qam,e,h.self]; simp; omega
  ·simp only [qam,e,h.self]; simp only [ja5]; split
   ·simp; omega
   ·simp; exact ⟨s0,s1,c3,c4⟩
 ·cases hg
end
def qc3:Mach:=⟨0,[],[],0,0,0,[],0,true⟩
structure Sw where
 ms:List Mach
 run:List Bool
 last:List Int
 net:List NM
def Sw.m (s:Sw) (a:Nat):Mach:=s.ms.getD a qc3
def Sw.r (s:Sw) (a:Nat):Bool:=s.run.getD a false
def Sw.e (s:Sw) (a y:Nat):Ent:=qd (s.m a).tab y
def qa2 (s:Sw) (x:NM):Sw :=
 if s.r x.m.dst.toNat = true then
  ⟨s.ms.set x.m.dst.toNat (qa7 (s.m x.m.dst.toNat) x),s.run,
   if (qB (s.m x.m.dst.toNat) x.m x.t).chal = 0 then s.last else s.last.set x.m.dst.toNat (qce (qB (s.m x.m.dst.toNat) x.m x.t)),
   s.net ++ qb2 (s.m x.m.dst.toNat).self (qB (s.m x.m.dst.toNat) x.m x.t).tab (qa5 (s.m x.m.dst.toNat) x.m x.t)⟩
 else s
def tickW (d:Int) (s:Sw) (a:Nat):Sw :=
 if s.r a = true then ⟨s.ms.set a (qn (s.m a) d),s.run,s.last,s.net ++ qb2 (s.m a).self (qn (s.m a) d).tab (qas (s.m a) d)⟩ else s
def qar (d:Int) (s:Sw) (j:Nat):Sw:=(List.range j).foldl (tickW d) s
inductive Drain:Sw->List NM->Sw->Prop
 | nil (s:Sw):Drain s [] s
 | cons (s:Sw) (old:List NM) (i:Nat) (s':Sw) (hi:i < old.length) (h:Drain (qa2 s old[i]) (old.eraseIdx i) s'):Drain s old s'
def qeN (d:Int) (s s':Sw):Prop:=Drain (qar d { s with net:=[] } s.ms.length) s.net s'
structure SI (n:Nat) (k K N:Int) (s:Sw):Prop where
 ml:s.ms.length = n
 rl:s.run.length = n
 ll:s.last.length = n
 mi:∀ a,a < n->s.r a = true->MI n a k K (s.m a)
 la:∀ v ∈ s.last,0 <= v/\v <= K
 xi:∀ x ∈ s.net,XI n K x
 nl:(s.net.length:Int) <= N
theorem SI.mono {n:Nat} {k K N k' K' N':Int} {s:Sw} (h:SI n k K N s) (hk:k <= k') (hK:K <= K') (hN:N <= N'):SI n k' K' N' s :=
 ⟨h.ml,h.rl,h.ll,fun a ha hr=>(h.mi a ha hr).mono hk hK,fun v hv=>by have:=h.la v hv; omega,fun x hx=>(h.xi x hx).mono hK,by have:=h.nl; omega⟩
theorem SI.lt {n:Nat} {k K N:Int} {s:Sw} (h:SI n k K N s) {a:Nat} (hr:s.r a = true):a < n:=by
 rw [<- h.rl];apply Classical.byContradiction;intro hc;simp [Sw.r,jai,jap (show s.run.length <= a by omega)] at hr
theorem SI.mir {n:Nat} {k K N:Int} {s:Sw} (h:SI n k K N s) {a:Nat} (hr:s.r a = true):MI n a k K (s.m a):=h.mi a (h.lt hr) hr
theorem qgV {s:Sw} {l:List Mach} {a b:Nat} {x:Mach} (hl:a < l.length):(l.set a x).getD b qc3 = if b = a then x else l.getD b qc3:=by
 simp only [jai,ja4];by_cases h:a = b
 ·subst h; simp [hl]
 ·simp [h,Ne.symm h]
section
variable {n:Nat} {k K N:Int} {s:Sw} (h:SI n k K N s) (h2:2 <= n) (h16:n <= 16) {x:NM} (hx:XI n K x)
include h hx
theorem SI.hear_run:(qa2 s x).run = s.run:=by unfold qa2; split <;> rfl
theorem SI.hear_m (b:Nat):(qa2 s x).m b = if (b:Int) = x.m.dst/\s.r b = true then qa7 (s.m b) x else s.m b:=by
 have d0:=hx.d0;have d1:=hx.d1;unfold qa2;split
 ·rename_i hr
  have hl:x.m.dst.toNat < s.ms.length:=by rw [h.ml]; omega
  show (s.ms.set x.m.dst.toNat (qa7 (s.m x.m.dst.toNat) x)).getD b qc3 = _
  rw [qgV (s:=s) hl];by_cases hb:b = x.m.dst.toNat
  ·rw [jag hb,jag ⟨by omega,by rw [hb]; exact hr⟩,hb]
  ·rw [jaf hb,jaf (by rintro ⟨e,_⟩; omega)]; rfl
 ·rename_i hr
  rw [jaf]
  rintro ⟨e,e2⟩
  rw [show x.m.dst.toNat = b by omega] at hr;exact hr e2
theorem SI.hear_net {z:NM}:z ∈ (qa2 s x).net↔z ∈ s.net∨(s.r x.m.dst.toNat = true/\z ∈ qb2 (s.m x.m.dst.toNat).self (qB (s.m x.m.dst.toNat) x.m x.t).tab (qa5 (s.m x.m.dst.toNat) x.m x.t)):=by
 unfold qa2;split
 ·rename_i hr
  simp only [jax,hr,true_and]
 ·rename_i hr
  simp [hr]
include h2 h16
theorem SI.hear:SI n k (K + 1) (N + 1) (qa2 s x):=by
 have d0:=hx.d0;have d1:=hx.d1;have hrun:=h.hear_run hx;have hnn:=h.nl;refine ⟨?_,by rw [hrun]; exact h.rl,?_,fun a ha hr=>?_,?_,fun z hz=>?_,?_⟩
 ·unfold qa2; split
  ·simp only [ja8]; exact h.ml
  ·exact h.ml
 ·unfold qa2; split
  ·simp only; split
   ·exact h.ll
   ·simp only [ja8]; exact h.ll
  ·exact h.ll
 ·have hr':s.r a = true:=by rw [Sw.r,hrun] at hr; exact hr
  rw [h.hear_m hx];split
  ·rename_i hc
   exact (h.mi a ha hr').hear h2 h16 hx hc.1.symm
  ·exact (h.mi a ha hr').mono (by omega) (by omega)
 ·intro v hv
  unfold qa2 at hv; split at hv
  ·rename_i hr
   simp only at hv; split at hv
   ·have:=h.la v hv; omega
   ·rename_i hc
    have hm:=h.mir hr;have ho:=hm.own_ok h2 h16 hx (by omega);have hb:=ho.2.2.1;have hb0:=ho.2.1;rcases jbx hv with hv | rfl
    ·have:=h.la v hv; omega
    ·rcases hm.chal h2 h16 hx (by omega) with ⟨c,_⟩ | ⟨_,_,_,c,_⟩
     ·exact absurd c hc
     ·omega
  ·have:=h.la v hv; omega
 ·rcases (h.hear_net hx).1 hz with hz | ⟨hr,hz⟩
  ·exact (h.xi z hz).mono (by omega)
  ·exact ((h.mir hr).hear_net h2 h16 hx (by omega) hz).1.mono (by omega)
 ·unfold qa2; split
  ·simp only [jav,qb2,jaz]
   have:(qa5 (s.m x.m.dst.toNat) x.m x.t).length <= 1:=by unfold qa5; split <;> simp
   omega
  ·omega
end
theorem qca (d:Int) (s:Sw) (j:Nat):qar d s (j + 1) = tickW d (qar d s j) j:=by
 simp [qar,jc7,List.foldl_append]
theorem qe2 (d:Int) (s:Sw):qar d s 0 = s:=rfl
theorem qwe (d:Int) (s:Sw) (a:Nat):(tickW d s a).run = s.run/\(tickW d s a).last = s.last/\(tickW d s a).ms.length = s.ms.length:=by
 unfold tickW; split <;> simp
theorem qby (d:Int) (s:Sw):∀ j:Nat,(qar d s j).run = s.run/\(qar d s j).last = s.last/\(qar d s j).ms.length = s.ms.length
 | 0=>⟨rfl,rfl,rfl⟩
 | j + 1=>by
  rw [qca];obtain ⟨h1,h2,h3⟩:=qby d s j;obtain ⟨g1,g2,g3⟩:=qwe d (qar d s j) j;exact ⟨g1.trans h1,g2.trans h2,g3.trans h3⟩
theorem qcp (d:Int) (s:Sw) (hl:s.run.length = s.ms.length):∀ (j:Nat) (b:Nat),(qar d s j).m b = if b < j/\s.r b = true then qn (s.m b) d else s.m b
 | 0,b=>by simp [qe2]
 | j + 1,b=>by
  have ih:=qcp d s hl j b;have ihj:=qcp d s hl j j;obtain ⟨h1,h2,h3⟩:=qby d s j;rw [jaf (by omega)] at ihj;rw [qca,tickW];have hr:(qar d s j).r j = s.r j:=by rw [Sw.r,h1]; rfl
  rw [hr];by_cases hj:s.r j = true
  ·rw [jag hj]
   have hlt:j < (qar d s j).ms.length:=by
    rw [h3,<- hl];apply Classical.byContradiction;intro hc;simp [Sw.r,jai,jap (show s.run.length <= j by omega)] at hj
   show ((qar d s j).ms.set j (qn ((qar d s j).m j) d)).getD b qc3 = _
   rw [qgV (s:=s) hlt,ihj];by_cases hb:b = j
   ·subst hb; rw [jag rfl,jag ⟨by omega,hj⟩]
   ·rw [jaf hb,show (qar d s j).ms.getD b qc3 = (qar d s j).m b from rfl,ih]
    by_cases hbj:b < j/\s.r b = true
    ·rw [jag hbj,jag ⟨by omega,hbj.2⟩]
    ·rw [jaf hbj,jaf (fun hh=>hbj ⟨by omega,hh.2⟩)]
  ·rw [jaf hj,ih]
   by_cases hbj:b < j/\s.r b = true
   ·rw [jag hbj,jag ⟨by omega,hbj.2⟩]
   ·rw [jaf hbj,jaf (fun hh=>hbj ⟨by
     have:=hh.1;have:b ≠ j:=fun e=>hj (e ▸ hh.2)
     omega,hh.2⟩)]
theorem qfi (d:Int) (s:Sw) (hl:s.run.length = s.ms.length):∀ (j:Nat) (x:NM),x ∈ (qar d s j).net↔x ∈ s.net∨∃ b,b < j/\s.r b = true/\x ∈ qb2 (s.m b).self (qn (s.m b) d).tab (qas (s.m b) d)
 | 0,x=>by simp [qe2]
 | j + 1,x=>by
  have ih:=qfi d s hl j x;have ihj:=qcp d s hl j j;obtain ⟨h1,h2,h3⟩:=qby d s j;rw [jaf (by omega)] at ihj;rw [qca,tickW];have hr:(qar d s j).r j = s.r j:=by rw [Sw.r,h1]; rfl
  rw [hr];by_cases hj:s.r j = true
  ·rw [jag hj]
   simp only [jax,ihj,ih];constructor
   ·rintro ((h | ⟨b,hb,h⟩) | h)
    ·exact .inl h
    ·exact .inr ⟨b,by omega,h⟩
    ·exact .inr ⟨j,by omega,hj,h⟩
   ·rintro (h | ⟨b,hb,h⟩)
    ·exact .inl (.inl h)
    ·by_cases hbj:b = j
     ·subst hbj; exact .inr h.2
     ·exact .inl (.inr ⟨b,by omega,h⟩)
  ·rw [jaf hj,ih]
   constructor
   ·rintro (h | ⟨b,hb,h⟩)
    ·exact .inl h
    ·exact .inr ⟨b,by omega,h⟩
   ·rintro (h | ⟨b,hb,h⟩)
    ·exact .inl h
    ·exact .inr ⟨b,by (have:b ≠ j:=fun e=>hj (e ▸ h.1)); omega,h⟩
theorem qkY (self clock draw:Int):∀ (ps:List Prb) (st:TS),(ps.foldl (qaN self clock draw) st).msgs.length <= st.msgs.length + 2 * ps.length
 | [],st=>by simp
 | p :: ps,st=>by
  have h1:=qkY self clock draw ps (qaN self clock draw st p);have h2:(qaN self clock draw st p).msgs.length <= st.msgs.length + 2:=by
   unfold qaN;split
   ·split <;> simp
   ·split
    ·have:=qrk st.tab self p.seq p.target draw
     simp only [jav]; omega
    ·simp
  simp only [jc5,jbh]; omega
theorem qcV (m:Mach) (draw:Int):(qas m draw).length <= 2 * m.probes.length + 1:=by
 have:=qkY m.self (qk m) draw m.probes ⟨m.tab,m.since,[],[]⟩;simp only [qas,qat,qbW,jav,jbh,jcm];simp only [jcm] at this; omega
theorem SI.tickW {n:Nat} {k K N:Int} {s:Sw} (h:SI n k K N s) (h2:2 <= n) (h16:n <= 16) (hk:k < 1000000000) {d:Int} (hd:0 <= d) (a:Nat):SI n (k + 1) K (N + (2 * k + 1)) (tickW d s a)∨(tickW d s a = s):=by
 unfold Go.Proofs.tickW;split
 ·rename_i hr
  have hm:=h.mir hr;have hlt:a < s.ms.length:=by rw [h.ml]; exact h.lt hr
  refine .inl ⟨by simp only [ja8]; exact h.ml,h.rl,h.ll,fun b hb hrb=>?_,h.la,fun x hx=>?_,?_⟩
  ·show MI n b (k + 1) K ((s.ms.set a (qn (s.m a) d)).getD b qc3)
   rw [qgV (s:=s) hlt];split
   ·rename_i e; subst e; exact hm.tick h2 h16 hk d
   ·exact (h.mi b hb hrb).mono (by omega) (by omega)
  ·rcases jax.1 hx with hx | hx
   ·exact h.xi x hx
   ·exact (hm.tick_net h2 h16 hk hd hx).1
  ·simp only [jav,qb2,jaz]
   have:=qcV (s.m a) d;have:=hm.pl;have:=hm.ck;have:=h.nl;omega
 ·exact .inr rfl
theorem SI.ticks {n:Nat} {k K N:Int} {s:Sw} (h:SI n k K N s) (h2:2 <= n) (h16:n <= 16) (hk:k <= 1000000) (hk0:0 <= k) {d:Int} (hd:0 <= d):SI n (k + 1) K ((n:Int) * (2 * k + 1)) (qar d { s with net:=[] } n):=by
 have hl:s.run.length = s.ms.length:=by rw [h.rl,h.ml]
 have hm:=qcp d { s with net:=[] } hl n;have hn:=qfi d { s with net:=[] } hl n;obtain ⟨g1,g2,g3⟩:=qby d { s with net:=[] } n;refine ⟨g3.trans h.ml,by rw [g1]; exact h.rl,by rw [g2]; exact h.ll,fun a ha hr=>?_,by rw [g2]; exact h.la,fun x hx=>?_,?_⟩
 ·have hr':s.r a = true:=by rw [Sw.r,g1] at hr; exact hr
  rw [hm,jag ⟨ha,hr'⟩];exact (h.mi a ha hr').tick h2 h16 (by omega) d
 ·rcases (hn x).1 hx with hx | ⟨b,hb,hr,hx⟩
  ·cases hx
  ·exact ((h.mir hr).tick_net h2 h16 (by omega) hd hx).1
 ·have key:∀ j:Nat,j <= n->((qar d { s with net:=[] } j).net.length:Int) <= (j:Int) * (2 * k + 1):=by
   intro j
   induction j with
   | zero=>intro _; simp [qe2]
   | succ j ih =>
    intro hj;have ih:=ih (by omega);have hmj:=qcp d { s with net:=[] } hl j j;rw [jaf (by omega)] at hmj;rw [qca,Go.Proofs.tickW];have e:((j + 1:Nat):Int) * (2 * k + 1) = (j:Int) * (2 * k + 1) + (2 * k + 1):=by
     rw [jd8,Int.add_mul]; simp
    split
    ·rename_i hr
     have hr':s.r j = true:=by rw [Sw.r,(qby d { s with net:=[] } j).1] at hr; exact hr
     have hmi:=h.mir hr';simp only [jav,qb2,jaz,hmj];have:=qcV (s.m j) d;have:=hmi.pl;have:=hmi.ck;have e2:(({ s with net:=[] }:Sw).m j) = s.m j:=rfl;rw [e2];omega
    ·omega
  exact key n (jbj n)
def leE (e f:Ent):Prop:=e.1 < f.1∨(e.1 = f.1/\e.2 <= f.2)
theorem leE.refl (e:Ent):leE e e:=.inr ⟨rfl,Int.le_refl _⟩
theorem leE.trans {e f g:Ent} (h1:leE e f) (h2:leE f g):leE e g:=by unfold leE at *; omega
theorem leE.antisymm {e f:Ent} (h1:leE e f) (h2:leE f e):e = f:=by
 unfold leE at *;have a:e.1 = f.1:=by omega
 have b:e.2 = f.2:=by omega
 exact Prod.ext a b
theorem qi4 (e f:Ent):leE e (qb1 e f)/\leE f (qb1 e f)/\(qb1 e f = e∨qb1 e f = f):=by
 unfold qb1;split
 ·rename_i h
  have:=qcN.1 h;exact ⟨by unfold leE; omega,leE.refl _,.inr rfl⟩
 ·rename_i h
  refine ⟨leE.refl _,?_,.inl rfl⟩;have:¬ (e.1 < f.1∨(f.1 = e.1/\e.2 < f.2)):=fun hh=>h (qcN.2 hh)
  unfold leE; omega
def CJ (n:Nat) (now:Sw) (old:List NM):Prop:=∃ k K N:Int,0 <= k/\k <= 1000000/\SI n k K N now/\∀ x ∈ old,XI n K x
theorem qvr {α:Type} {l:List α} {i:Nat} (hi:i < l.length) {x:α} (hx:x ∈ l):x = l[i]∨x ∈ l.eraseIdx i:=by
 obtain ⟨j,hj,rfl⟩:=jbz hx;by_cases h:j = i
 ·subst h; exact .inl rfl
 ·right
  rw [List.mem_eraseIdx_iff_getElem?];exact ⟨j,h,jae hj⟩
theorem CJ.step {n:Nat} (h2:2 <= n) (h16:n <= 16) {now:Sw} {old:List NM} (h:CJ n now old) {i:Nat} (hi:i < old.length):CJ n (qa2 now old[i]) (old.eraseIdx i):=by
 obtain ⟨k,K,N,h0,h1,hs,hx⟩:=h;exact ⟨k,K + 1,N + 1,h0,h1,hs.hear h2 h16 (hx _ (jbu hi)),fun x hx'=>(hx x (jbk hx')).mono (by omega)⟩
theorem Drain.ind {P:Sw->List NM->Prop} {e:Sw}:∀ {s:Sw} {old:List NM},Drain s old e->P s old->(∀ (s:Sw) (old:List NM) (i:Nat) (hi:i < old.length),P s old->Drain (qa2 s old[i]) (old.eraseIdx i) e->P (qa2 s old[i]) (old.eraseIdx i))->P e []
 | _,_,.nil _,h,_=>h
 | _,_,.cons s old i _ hi hd,h,hs=>Drain.ind hd (hs s old i hi h hd) hs
structure RDI (n:Nat) (s1:Sw) (net0:List NM) (now:Sw) (old:List NM):Prop where
 cj:CJ n now old
 rn:now.run = s1.run
 sub:∀ x ∈ old,x ∈ net0
 clk:∀ p,s1.r p = true->(now.m p).clock = (s1.m p).clock
 mono:∀ p y,s1.r p = true->y < n->leE (s1.e p y) (now.e p y)
 pers:∀ x ∈ s1.net,x ∈ now.net
 deliv:∀ x ∈ net0,x ∈ old∨∀ q:Nat,(q:Int) = x.m.dst->s1.r q = true->∀ y,y < n->leE (qd x.t y) (now.e q y)
 dom:∀ x ∈ now.net,∃ p:Nat,(p:Int) = x.m.src/\s1.r p = true/\∀ y,y < n->leE (qd x.t y) (now.e p y)
 psub:∀ p,s1.r p = true->∀ b ∈ (now.m p).probes,b ∈ (s1.m p).probes
 keep:∀ p:Nat,s1.r p = true->∀ b ∈ (s1.m p).probes,b ∈ (now.m p).probes∨∃ x ∈ net0,x.m.dst = p/\x.m.kind = 2/\x.m.origin = p/\b.seq = x.m.seq
 ack:∀ x ∈ net0,x.m.kind = 1->x ∈ old∨∀ q:Nat,(q:Int) = x.m.dst->s1.r q = true->∃ z ∈ now.net,z.m.kind = 2/\z.m.dst = x.m.src/\z.m.seq = x.m.seq/\z.m.origin = x.m.origin
 gone:∀ x ∈ net0,x.m.kind = 2->x.m.origin = x.m.dst->x ∈ old∨∀ q:Nat,(q:Int) = x.m.dst->s1.r q = true->∀ b ∈ (now.m q).probes,b.seq ≠ x.m.seq
 fresh:∀ z ∈ now.net,z ∈ s1.net∨∃ x ∈ net0,∃ q:Nat,(q:Int) = x.m.dst/\s1.r q = true/\z.m = { qam q x.m with src:=q }/\¬ (x.m.kind = 2/\x.m.origin = q)
 snc:∀ p y:Nat,s1.r p = true->y < n->y ≠ p->(now.e p y = s1.e p y/\(now.m p).since.getD y 0 = (s1.m p).since.getD y 0)∨now.e p y ≠ s1.e p y
theorem RDI.step {n:Nat} (h2:2 <= n) (h16:n <= 16) {s1:Sw} {net0:List NM} {now:Sw} {old:List NM} (h:RDI n s1 net0 now old) {i:Nat} (hi:i < old.length):RDI n s1 net0 (qa2 now old[i]) (old.eraseIdx i):=by
 obtain ⟨k,K,N,hk0,hk1,hs,hxs⟩:=id h.cj;have hx:=hxs _ (jbu hi);have hm0:=hs.hear_m hx;have hnet:=@SI.hear_net n k K N now hs _ hx;have hrun:=hs.hear_run hx;have hin:old[i] ∈ net0:=h.sub _ (jbu hi);have hmem:∀ y ∈ old,y = old[i]∨y ∈ old.eraseIdx i:=fun y hy=>qvr hi hy
 have hcj:=h.cj.step h2 h16 hi;have hr1:∀ p,now.r p = s1.r p:=fun p=>by rw [Sw.r,h.rn]; rfl
 have d0:=hx.d0;have hdN:((old[i]).m.dst.toNat:Int) = (old[i]).m.dst:=by omega
 generalize old[i] = x at *
 -- what becomes of one machine
 have hself:∀ p:Nat,(p:Int) = x.m.dst->s1.r p = true->MI n p k K (now.m p)/\(qa2 now x).m p = qa7 (now.m p) x:=fun p hp hr=>by
  refine ⟨hs.mir (by rw [hr1]; exact hr),?_⟩;rw [hm0,jag ⟨hp,by rw [hr1]; exact hr⟩]
 have hoth:∀ p:Nat,(p:Int) ≠ x.m.dst->(qa2 now x).m p = now.m p:=fun p hp=>by rw [hm0,jaf (fun hh=>hp hh.1)]
 have hle:∀ p y:Nat,s1.r p = true->y < n->leE (now.e p y) ((qa2 now x).e p y):=fun p y hr hy=>by
  by_cases hp:(p:Int) = x.m.dst
  ·obtain ⟨hmi,he⟩:=hself p hp hr
   unfold Sw.e;rw [he];by_cases hyp:y = p
   ·subst hyp
    rcases hmi.hear_own h2 h16 hx hp.symm with ⟨_,g⟩ | ⟨g0,g⟩ <;> rw [g]
    ·exact leE.refl _
    ·have:=qcN.1 g0
     unfold leE; simp only; omega
   ·rw [hmi.hear_ent h2 h16 hx hp.symm hy hyp]; exact (qi4 _ _).1
  ·unfold Sw.e; rw [hoth p hp]; exact leE.refl _
 have hgot:∀ q:Nat,(q:Int) = x.m.dst->s1.r q = true->∀ y,y < n->leE (qd x.t y) ((qa2 now x).e q y):=fun q hq hr y hy=>by
  obtain ⟨hmi,he⟩:=hself q hq hr;unfold Sw.e;rw [he];by_cases hyp:y = q
  ·subst hyp
   rcases hmi.hear_own h2 h16 hx hq.symm with ⟨g0,g⟩ | ⟨g0,g⟩ <;> rw [g]
   ·have:¬ ((qd (now.m y).tab y).1 < (qd x.t y).1∨((qd x.t y).1 = (qd (now.m y).tab y).1/\(qd (now.m y).tab y).2 < (qd x.t y).2)):=fun hh=>by rw [qcN.2 hh] at g0; cases g0
    unfold leE; omega
   ·unfold leE; simp only; omega
  ·rw [hmi.hear_ent h2 h16 hx hq.symm hy hyp]; exact (qi4 _ _).2.1
 have hclk:∀ p,s1.r p = true->((qa2 now x).m p).clock = (now.m p).clock:=fun p hr=>by
  by_cases hp:(p:Int) = x.m.dst
  ·obtain ⟨hmi,he⟩:=hself p hp hr
   rw [he]; exact (hmi.hear_same h2 h16 hx hp.symm).1
  ·rw [hoth p hp]
 have hpr:∀ p:Nat,s1.r p = true->∀ b,b ∈ ((qa2 now x).m p).probes↔b ∈ (now.m p).probes/\¬ ((p:Int) = x.m.dst/\x.m.kind = 2/\x.m.origin = p/\b.seq = x.m.seq):=fun p hr b=>by
  by_cases hp:(p:Int) = x.m.dst
  ·obtain ⟨hmi,he⟩:=hself p hp hr
   rw [he,(hmi.hear_same h2 h16 hx hp.symm).2.2.2.2.2.2.1];by_cases hc:x.m.kind = 2/\x.m.origin = p
   ·rw [jag hc,jb2]
    simp only [jay,jdu];constructor
    ·rintro ⟨a,b'⟩; exact ⟨a,fun hh=>b' hh.2.2.2⟩
    ·rintro ⟨a,b'⟩; exact ⟨a,fun hh=>b' ⟨hp,hc.1,hc.2,hh⟩⟩
   ·rw [jaf hc]
    exact ⟨fun a=>⟨a,fun hh=>hc ⟨hh.2.1,hh.2.2.1⟩⟩,fun a=>a.1⟩
  ·rw [hoth p hp]
   exact ⟨fun a=>⟨a,fun hh=>hp hh.1⟩,fun a=>a.1⟩
 refine ⟨hcj,hrun.trans h.rn,fun y hy=>h.sub y (jbk hy),fun p hr=>(hclk p hr).trans (h.clk p hr),fun p y hr hy=>(h.mono p y hr hy).trans (hle p y hr hy),fun y hy=>hnet.2 (.inl (h.pers y hy)),?_,?_,fun p hr b hb=>h.psub p hr b ((hpr p hr b).1 hb).1,?_,?_,?_,?_,?_⟩
 ·intro z hz
  rcases h.deliv z hz with hz' | hz'
  ·rcases hmem z hz' with rfl | hz'
   ·exact .inr hgot
   ·exact .inl hz'
  ·exact .inr fun q hq hr y hy=>(hz' q hq hr y hy).trans (hle q y hr hy)
 ·intro z hz
  rcases hnet.1 hz with hz | ⟨hr,hz⟩
  ·obtain ⟨p,hp,hr,hy⟩:=h.dom z hz
   exact ⟨p,hp,hr,fun y hyn=>(hy y hyn).trans (hle p y hr hyn)⟩
  ·have hr':s1.r x.m.dst.toNat = true:=by rw [<- hr1]; exact hr
   obtain ⟨hmi,he⟩:=hself _ hdN hr';obtain ⟨q1,q2,q3,q4,_⟩:=hmi.hear_net h2 h16 hx hdN.symm hz;refine ⟨_,q2.symm,hr',fun y hy=>?_⟩;by_cases hyp:y = x.m.dst.toNat
   ·have:=hle _ _ hr' hy
    subst hyp;rw [q4]; exact this
   ·rw [q3 y hy hyp]; unfold Sw.e; rw [he]; exact leE.refl _
 ·intro p hr b hb
  rcases h.keep p hr b hb with hb | hb
  ·by_cases hc:(p:Int) = x.m.dst/\x.m.kind = 2/\x.m.origin = p/\b.seq = x.m.seq
   ·exact .inr ⟨x,hin,hc.1.symm,hc.2.1,hc.2.2.1,hc.2.2.2⟩
   ·exact .inl ((hpr p hr b).2 ⟨hb,hc⟩)
  ·exact .inr hb
 ·intro z hz hk
  rcases h.ack z hz hk with hz' | hz'
  ·rcases hmem z hz' with rfl | hz'
   ·refine .inr fun q hq hr=>?_
    have hqd:z.m.dst.toNat = q:=by omega
    obtain ⟨hmi,he⟩:=hself q hq hr;have hro:=hmi.recv_ok h2 h16 hx hq.symm;refine ⟨⟨{ qam q z.m with src:=(now.m q).self },(qB (now.m q) z.m z.t).tab⟩,hnet.2 (.inr ⟨by rw [hqd,hr1]; exact hr,?_⟩),by simp [qam,hk]⟩;rw [hqd];refine qfB.2 ⟨qam q z.m,?_,rfl⟩;rw [qa5,jag ⟨hro,by simp [qb4,hk]⟩,hmi.self];exact jak.2 rfl
   ·exact .inl hz'
  ·refine .inr fun q hq hr=>?_
   obtain ⟨w,hw,hw'⟩:=hz' q hq hr;exact ⟨w,hnet.2 (.inl hw),hw'⟩
 ·intro z hz hk ho
  rcases h.gone z hz hk ho with hz' | hz'
  ·rcases hmem z hz' with rfl | hz'
   ·exact .inr fun q hq hr b hb hbs=>((hpr q hr b).1 hb).2 ⟨hq,hk,by rw [ho]; exact hq.symm,hbs⟩
   ·exact .inl hz'
  ·exact .inr fun q hq hr b hb=>hz' q hq hr b ((hpr q hr b).1 hb).1
 ·intro z hz
  rcases hnet.1 hz with hz | ⟨hr,hz⟩
  ·exact h.fresh z hz
  ·have hr':s1.r x.m.dst.toNat = true:=by rw [<- hr1]; exact hr
   obtain ⟨hmi,he⟩:=hself _ hdN hr';obtain ⟨_,_,_,_,q5,q6⟩:=hmi.hear_net h2 h16 hx hdN.symm hz;exact .inr ⟨x,hin,_,hdN,hr',q5,q6⟩
 ·intro p y hr hy hyp
  by_cases hp:(p:Int) = x.m.dst
  ·obtain ⟨hmi,he⟩:=hself p hp hr
   have hsn:=hmi.hear_since h2 h16 hx hp.symm hy hyp;rw [<- he] at hsn;by_cases hsame:(qa2 now x).e p y = now.e p y
   ·have hsame':qd ((qa2 now x).m p).tab y = qd (now.m p).tab y:=hsame
    rw [jaf (fun hh=>hh.1 hsame')] at hsn;rcases h.snc p y hr hy hyp with ⟨a,b⟩ | a
    ·exact .inl ⟨hsame.trans a,hsn.trans b⟩
    ·exact .inr (by rw [hsame]; exact a)
   ·refine .inr fun hh=>hsame ?_
    have l1:=h.mono p y hr hy;have l2:=hle p y hr hy;rw [hh] at l2 ⊢;exact l1.antisymm l2
  ·have hq:(qa2 now x).e p y = now.e p y:=by unfold Sw.e; rw [hoth p hp]
   rw [hq,hoth p hp];exact h.snc p y hr hy hyp
theorem RDI.start {n:Nat} {k K N:Int} {s:Sw} (h:SI n k K N s) (h2:2 <= n) (h16:n <= 16) (hk:k <= 999999) (hk0:0 <= k) {d:Int} (hd:0 <= d):RDI n (qar d { s with net:=[] } n) s.net (qar d { s with net:=[] } n) s.net:=by
 have hl:s.run.length = s.ms.length:=by rw [h.rl,h.ml]
 have hm:=qcp d { s with net:=[] } hl n;have hn:=qfi d { s with net:=[] } hl n;obtain ⟨g1,g2,g3⟩:=qby d { s with net:=[] } n;have ht:=h.ticks h2 h16 (by omega) hk0 hd;have hr1:∀ p,(qar d { s with net:=[] } n).r p = s.r p:=fun p=>by rw [Sw.r,g1]; rfl
 refine ⟨⟨k + 1,K,_,by omega,by omega,ht,h.xi⟩,rfl,fun x hx=>hx,fun _ _=>rfl,fun _ _ _ _=>leE.refl _,fun x hx=>hx,fun x hx=>.inl hx,fun x hx=>?_,fun _ _ _ hb=>hb,fun _ _ _ hb=>.inl hb,fun x hx _=>.inl hx,fun x hx _ _=>.inl hx,fun x hx=>.inl hx,fun _ _ _ _ _=>.inl ⟨rfl,rfl⟩⟩;rcases (hn x).1 hx with hx | ⟨b,hb,hr,hx⟩
 ·cases hx
 ·obtain ⟨q1,q2,q3,q4⟩:=(h.mir hr).tick_net h2 h16 (by omega) hd hx
  refine ⟨b,q3.symm,by rw [hr1]; exact hr,fun y hy=>?_⟩;unfold Sw.e;rw [hm,jag ⟨hb,hr⟩,q2];exact leE.refl _
theorem qeN.di {n:Nat} {k K N:Int} {s s':Sw} (h:SI n k K N s) (h2:2 <= n) (h16:n <= 16) (hk:k <= 999999) (hk0:0 <= k) {d:Int} (hd:0 <= d) (hR:qeN d s s'):RDI n (qar d { s with net:=[] } n) s.net s' []:=by
 rw [qeN,h.ml] at hR;exact hR.ind (RDI.start h h2 h16 hk hk0 hd) fun s old i hi hP _=>hP.step h2 h16 hi
theorem qiV {n self:Int} (h2:2 <= n) (hs:0 <= self) (hs':self < n):∀ k:Nat,qac n self (k + 1 + (n.toNat - 1)) = qac n self (k + 1)
 | 0=>by
  have e1:=qfx h2 hs hs' 1 (by omega);have e2:=qfx h2 hs hs' (n.toNat - 1) (by omega);rw [show 0 + 1 + (n.toNat - 1) = (n.toNat - 1) + 1 by omega,show 0 + 1 = 1 from rfl,e1]
  show qaY n self (qac n self (n.toNat - 1)) = _
  rw [e2];have hc:((n.toNat - 1:Nat):Int) = n - 1:=by omega
  rw [hc];by_cases h0:self = 0
  ·subst h0
   have ht:Int.tmod (0 + (n - 1) + 1) n = 0:=by rw [show (0:Int) + (n - 1) + 1 = n by omega,jee]
   rw [jag (by omega),jag (by omega),qaY,jag ht,ht,jdb (by omega) (by omega)]; omega
  ·have ht:Int.tmod (self + (n - 1) - n + 1) n = self:=by rw [show self + (n - 1) - n + 1 = self by omega,jdb hs hs']
   rw [jaf (by omega),qaY,jag ht,ht];by_cases h1:self + 1 < n
   ·rw [jag (by omega),jdb (by omega) h1]; omega
   ·rw [jaf (by omega),show self + 1 = n by omega,jee]; omega
 | k + 1=>by
  have ih:=qiV h2 hs hs' k;rw [show k + 1 + 1 + (n.toNat - 1) = (k + 1 + (n.toNat - 1)) + 1 by omega]
  show qaY n self (qac n self (k + 1 + (n.toNat - 1))) = qaY n self (qac n self (k + 1))
  rw [ih]
theorem qkc {n p q:Nat} (h2:2 <= n) (hp:p < n) (hq:q < n) (hne:p ≠ q):∀ c:Nat,∃ j,1 <= j/\j <= n - 1/\qac n p (c + j) = q
 | 0=>by
  obtain ⟨s,s1,s2,s3⟩:=qmC (n:=n) (self:=p) (j:=q) (by omega) (by omega) (by omega) (by omega) (by omega) (by omega);exact ⟨s,s1,by omega,by rw [jbb]; exact s3⟩
 | c + 1=>by
  obtain ⟨j,j1,j2,j3⟩:=qkc h2 hp hq hne c;by_cases h:j = 1
  ·subst h
   refine ⟨n - 1,by omega,by omega,?_⟩;have:=qiV (n:=n) (self:=p) (by omega) (by omega) (by omega) c;rw [show ((n:Int).toNat - 1) = n - 1 by omega] at this;rw [this]; exact j3
  ·exact ⟨j - 1,by omega,by omega,by rw [show c + 1 + (j - 1) = c + j by omega]; exact j3⟩
structure Tr (n T:Nat) (st:Nat->Sw):Prop where
 h2:2 <= n
 h16:n <= 16
 si:∀ t,t <= T->∃ k K N:Int,0 <= k/\k <= 999999/\SI n k K N (st t)
 rd:∀ t,t < T->∃ d:Int,0 <= d/\qeN d (st t) (st (t + 1))
section
variable {n T:Nat} {st:Nat->Sw} (h:Tr n T st)
include h
theorem Tr.round {t:Nat} (ht:t < T):∃ (d k K:Int) (s1:Sw),0 <= k/\k <= 999999/\0 <= d/\(∀ p,(st t).r p = true->p < n/\MI n p k K ((st t).m p)/\s1.m p = qn ((st t).m p) d)/\(∀ x ∈ (st t).net,XI n K x)/\(∀ p,s1.r p = (st t).r p) /\
  (∀ x,x ∈ s1.net↔∃ p,(st t).r p = true/\x ∈ qb2 ((st t).m p).self (qn ((st t).m p) d).tab (qas ((st t).m p) d))/\RDI n s1 (st t).net (st (t + 1)) []/\RDI n s1 (st t).net s1 (st t).net/\Drain s1 (st t).net (st (t + 1)):=by
 obtain ⟨k,K,N,k0,k1,hs⟩:=h.si t (by omega);obtain ⟨d,hd,hR⟩:=h.rd t ht;have hl:(st t).run.length = (st t).ms.length:=by rw [hs.rl,hs.ml]
 have hm:=qcp d { (st t) with net:=[] } hl n;have hn:=qfi d { (st t) with net:=[] } hl n;obtain ⟨g1,_,_⟩:=qby d { (st t) with net:=[] } n;refine ⟨d,k,K,qar d { (st t) with net:=[] } n,k0,k1,hd,fun p hr=>⟨hs.lt hr,hs.mir hr,?_⟩,hs.xi,fun p=>by rw [Sw.r,g1]; rfl,fun x=>?_,hR.di hs h.h2 h.h16 k1 k0 hd,RDI.start hs h.h2 h.h16 k1 k0 hd,?_⟩
 ·rw [hm,jag ⟨hs.lt hr,hr⟩]; rfl
 ·rw [hn]
  constructor
  ·rintro (hx | ⟨b,hb,hr,hx⟩)
   ·cases hx
   ·exact ⟨b,hr,hx⟩
  ·rintro ⟨b,hr,hx⟩
   exact .inr ⟨b,hs.lt hr,hr,hx⟩
 ·rw [qeN,hs.ml] at hR; exact hR
theorem Tr.run:∀ t,t <= T->∀ p,(st t).r p = (st 0).r p
 | 0,_,_=>rfl
 | t + 1,ht,p=>by
  obtain ⟨d,k,K,s1,_,_,_,_,_,hr,_,hD,_⟩:=h.round (show t < T by omega);have:(st (t + 1)).r p = s1.r p:=by rw [Sw.r,hD.rn]; rfl
  rw [this,hr]; exact Tr.run t (by omega) p
theorem Tr.lt {p:Nat} (hr:(st 0).r p = true):p < n:=by
 obtain ⟨k,K,N,_,_,hs⟩:=h.si 0 (by omega);exact hs.lt hr
theorem Tr.mi {t p:Nat} (ht:t <= T) (hr:(st 0).r p = true):∃ k K:Int,0 <= k/\k <= 999999/\MI n p k K ((st t).m p):=by
 obtain ⟨k,K,N,k0,k1,hs⟩:=h.si t ht;exact ⟨k,K,k0,k1,hs.mir (by rw [h.run t ht]; exact hr)⟩
theorem qeT {a:Nat} {k K:Int} {m:Mach} (hm:MI n a k K m) (hk:k <= 999999) (d:Int) {y:Nat} (hy:y < n):leE (qd m.tab y) (qd (qn m d).tab y)/\(qd (qn m d).tab y).1 = (qd m.tab y).1:=by
 rcases hm.tick_ent (by omega) d hy with ⟨g,_⟩ | ⟨g0,g,_⟩ | ⟨g0,g,_⟩ <;> rw [g]
 ·exact ⟨leE.refl _,rfl⟩
 ·exact ⟨.inr ⟨rfl,by simp only; omega⟩,rfl⟩
 ·exact ⟨.inr ⟨rfl,by simp only; omega⟩,rfl⟩
theorem Tr.mono1 {t p y:Nat} (ht:t < T) (hr:(st 0).r p = true) (hy:y < n):leE ((st t).e p y) ((st (t + 1)).e p y):=by
 obtain ⟨d,k,K,s1,k0,k1,hd,hp,_,hr1,_,hD,_⟩:=h.round ht;have hrt:(st t).r p = true:=by rw [h.run t (by omega)]; exact hr
 obtain ⟨_,hm,he⟩:=hp p hrt;have h1:=hD.mono p y (by rw [hr1]; exact hrt) hy;have h0:=(qeT h hm k1 d hy).1;unfold Sw.e at h1 ⊢;rw [he] at h1;exact h0.trans h1
theorem Tr.mono {t p y:Nat} (hr:(st 0).r p = true) (hy:y < n):∀ j:Nat,t + j <= T->leE ((st t).e p y) ((st (t + j)).e p y)
 | 0,_=>leE.refl _
 | j + 1,hj=>(Tr.mono hr hy j (by omega)).trans (h.mono1 (t:=t + j) (by omega) hr hy)
theorem Tr.monoT {t t' p y:Nat} (hr:(st 0).r p = true) (hy:y < n) (h1:t <= t') (h2:t' <= T):leE ((st t).e p y) ((st t').e p y):=by
 have:=h.mono (t:=t) hr hy (t' - t) (by omega)
 rwa [show t + (t' - t) = t' by omega] at this
theorem Tr.clk1 {t p:Nat} (ht:t < T) (hr:(st 0).r p = true):((st (t + 1)).m p).clock = ((st t).m p).clock + 1:=by
 obtain ⟨d,k,K,s1,k0,k1,hd,hp,_,hr1,_,hD,_⟩:=h.round ht;have hrt:(st t).r p = true:=by rw [h.run t (by omega)]; exact hr
 obtain ⟨_,hm,he⟩:=hp p hrt;rw [hD.clk p (by rw [hr1]; exact hrt),he,(hm.tick_clk (by omega) d).1]
theorem Tr.clk {t p:Nat} (hr:(st 0).r p = true):∀ j:Nat,t + j <= T->((st (t + j)).m p).clock = ((st t).m p).clock + j
 | 0,_=>by simp
 | j + 1,hj=>by
  rw [show t + (j + 1) = t + j + 1 by omega,h.clk1 (t:=t + j) (by omega) hr,Tr.clk hr j (by omega)]; omega
theorem Tr.ping {t p:Nat} (ht:t < T) (hr:(st 0).r p = true):∃ x ∈ (st (t + 1)).net,x.m = ⟨1,p,qac n p (((st t).m p).clock + 1).toNat,((st t).m p).clock + 1,p,0⟩/\∀ y,y < n->leE ((st t).e p y) (qd x.t y):=by
 obtain ⟨d,k,K,s1,k0,k1,hd,hp,_,hr1,hn1,hD,_⟩:=h.round ht;have hrt:(st t).r p = true:=by rw [h.run t (by omega)]; exact hr
 obtain ⟨_,hm,he⟩:=hp p hrt;refine ⟨_,hD.pers _ ((hn1 _).2 ⟨p,hrt,hm.tick_ping h.h2 h.h16 (by omega)⟩),rfl,fun y hy=>(qeT h hm k1 d hy).1⟩
theorem Tr.deliv {t q:Nat} {x:NM} (ht:t < T) (hx:x ∈ (st t).net) (hq:(q:Int) = x.m.dst) (hr:(st 0).r q = true) {y:Nat} (hy:y < n):leE (qd x.t y) ((st (t + 1)).e q y):=by
 obtain ⟨d,k,K,s1,k0,k1,hd,hp,_,hr1,hn1,hD,_⟩:=h.round ht;have hrt:(st t).r q = true:=by rw [h.run t (by omega)]; exact hr
 rcases hD.deliv x hx with hh | hh
 ·cases hh
 ·exact hh q hq (by rw [hr1]; exact hrt) y hy
theorem Tr.dom {t:Nat} {x:NM} (ht:t < T) (hx:x ∈ (st (t + 1)).net):∃ p:Nat,(p:Int) = x.m.src/\(st 0).r p = true/\∀ y,y < n->leE (qd x.t y) ((st (t + 1)).e p y):=by
 obtain ⟨d,k,K,s1,k0,k1,hd,hp,_,hr1,hn1,hD,_⟩:=h.round ht;obtain ⟨p,q1,q2,q3⟩:=hD.dom x hx;exact ⟨p,q1,by rw [<- h.run t (by omega),<- hr1]; exact q2,q3⟩
theorem Tr.know {t p q y:Nat} (ht:t + n <= T) (hp:(st 0).r p = true) (hq:(st 0).r q = true) (hy:y < n):leE ((st t).e p y) ((st (t + n)).e q y):=by
 by_cases hne:p = q
 ·subst hne; exact h.monoT hp hy (by omega) ht
 have h2:=h.h2;obtain ⟨k,K,k0,k1,hm⟩:=h.mi (t:=t) (by omega) hp;obtain ⟨j,j1,j2,j3⟩:=qkc h2 (h.lt hp) (h.lt hq) hne ((st t).m p).clock.toNat;have hc:=h.clk (t:=t) hp (j - 1) (by omega);obtain ⟨x,hx,hxm,hxt⟩:=h.ping (t:=t + (j - 1)) (by omega) hp;have hdst:(q:Int) = x.m.dst:=by
  rw [hxm]; simp only;rw [hc,show (((st t).m p).clock + ((j - 1:Nat):Int) + 1).toNat = ((st t).m p).clock.toNat + j by have:=hm.c0; omega,j3]
 have hd:=h.deliv (t:=t + (j - 1) + 1) (by omega) hx hdst hq hy;exact ((h.monoT hp hy (by omega) (by omega)).trans (hxt y hy)).trans (hd.trans (h.monoT hq hy (by omega) (by omega)))
theorem qx8 {s1:Sw} {net0:List NM} {e:Sw} {p y:Nat} (hr:s1.r p = true) (hy:y < n) {now:Sw} {old:List NM} (hD:RDI n s1 net0 now old) (hd:Drain now old e):leE (now.e p y) (e.e p y):=by
 have key:∀ {now old},Drain now old e->∀ f:Ent,RDI n s1 net0 now old->leE f (now.e p y)->leE f (e.e p y):=by
  intro now old hd f h1 h3;have:=Drain.ind (P:=fun now old=>RDI n s1 net0 now old/\leE f (now.e p y)) hd ⟨h1,h3⟩ (fun s old i hi hP _=>by
   refine ⟨hP.1.step h.h2 h.h16 hi,hP.2.trans ?_⟩;obtain ⟨k,K,N,_,_,hs,hxs⟩:=id hP.1.cj;have hx:=hxs _ (jbu hi);unfold Sw.e;rw [hs.hear_m hx];split
   ·rename_i hc
    have hm:=hs.mir hc.2;by_cases hyp:y = p
    ·subst hyp
     rcases hm.hear_own h.h2 h.h16 hx hc.1.symm with ⟨_,g⟩ | ⟨g0,g⟩ <;> rw [g]
     ·exact leE.refl _
     ·have:=qcN.1 g0
      unfold leE; simp only; omega
    ·rw [hm.hear_ent h.h2 h.h16 hx hc.1.symm hy hyp]; exact (qi4 _ _).1
   ·exact leE.refl _)
  exact this.2
 exact key hd _ hD (leE.refl _)
def QA (y:Nat) (Q:Ent->Prop) (s1:Sw) (now:Sw) (old:List NM):Prop:=(∀ p,s1.r p = true->Q (now.e p y))/\(∀ x ∈ now.net,Q (qd x.t y))/\∀ x ∈ old,Q (qd x.t y)
theorem QA.step {y:Nat} (hy:y < n) {Q:Ent->Prop} {s1:Sw} {net0:List NM} {now:Sw} {old:List NM} (hD:RDI n s1 net0 now old) (hQ:QA y Q s1 now old) {i:Nat} (hi:i < old.length)
  (hO:s1.r y = true->(qa2 now old[i]).e y y ≠ now.e y y->Q ((qa2 now old[i]).e y y)):QA y Q s1 (qa2 now old[i]) (old.eraseIdx i):=by
 obtain ⟨k,K,N,_,_,hs,hxs⟩:=id hD.cj;have hx:=hxs _ (jbu hi);have hr1:∀ p,now.r p = s1.r p:=fun p=>by rw [Sw.r,hD.rn]; rfl
 have hQx:=hQ.2.2 _ (jbu hi);have d0:=hx.d0;have hE:∀ p,s1.r p = true->Q ((qa2 now old[i]).e p y):=fun p hr=>by
  by_cases hpd:(p:Int) = (old[i]).m.dst
  ·have hrn:now.r p = true:=by rw [hr1]; exact hr
   have hm:=hs.mir hrn;by_cases hyp:y = p
   ·subst hyp
    by_cases hc:(qa2 now old[i]).e y y = now.e y y
    ·rw [hc]; exact hQ.1 y hr
    ·exact hO hr hc
   ·unfold Sw.e
    rw [hs.hear_m hx,jag ⟨hpd,hrn⟩,hm.hear_ent h.h2 h.h16 hx hpd.symm hy hyp];rcases (qi4 (qd (now.m p).tab y) (qd (old[i]).t y)).2.2 with g | g <;> rw [g]
    ·exact hQ.1 p hr
    ·exact hQx
  ·unfold Sw.e
   rw [hs.hear_m hx,jaf (fun hh=>hpd hh.1)];exact hQ.1 p hr
 refine ⟨hE,fun z hz=>?_,fun z hz=>hQ.2.2 z (jbk hz)⟩;rcases (hs.hear_net hx).1 hz with hz | ⟨hr,hz⟩
 ·exact hQ.2.1 z hz
 ·have hm:=hs.mir hr
  have hdN:(((old[i]).m.dst.toNat:Nat):Int) = (old[i]).m.dst:=by omega
  have hr':s1.r (old[i]).m.dst.toNat = true:=by rw [<- hr1]; exact hr
  obtain ⟨_,_,q3,q4,_⟩:=hm.hear_net h.h2 h.h16 hx hdN.symm hz;by_cases hyp:y = (old[i]).m.dst.toNat
  ·have:=hQ.1 _ hr'
   rw [<- hyp] at this q4;rw [q4]; exact this
  ·rw [q3 y hy hyp]
   have:=hE _ hr';unfold Sw.e at this;rw [hs.hear_m hx,jag ⟨hdN,hr⟩] at this;exact this
theorem Tr.allQ {t y:Nat} (ht:t < T) (hy:y < n) {Q:Ent->Prop} (hT:∀ p,(st 0).r p = true->∀ d:Int,Q (qd (qn ((st t).m p) d).tab y)) (hN:∀ x ∈ (st t).net,Q (qd x.t y))
  (hO:(st 0).r y = true->∀ e:Ent,leE e ((st (t + 1)).e y y)->Q e):(∀ p,(st 0).r p = true->Q ((st (t + 1)).e p y))/\∀ x ∈ (st (t + 1)).net,Q (qd x.t y):=by
 obtain ⟨d,k,K,s1,k0,k1,hd,hp,_,hr1,hn1,hD,hD0,hDr⟩:=h.round ht;have hr0:∀ p,s1.r p = (st 0).r p:=fun p=>by rw [hr1,h.run t (by omega)]
 have h0:QA y Q s1 s1 (st t).net:=by
  refine ⟨fun p hr=>?_,fun x hx=>?_,hN⟩
  ·unfold Sw.e
   rw [(hp p (by rw [<- hr1]; exact hr)).2.2];exact hT p (by rw [<- hr0]; exact hr) d
  ·obtain ⟨p,hrp,hx⟩:=(hn1 x).1 hx
   have hm:=(hp p hrp).2.1;rw [(hm.tick_net h.h2 h.h16 (by omega) hd hx).2.1];exact hT p (by rw [<- hr0,hr1]; exact hrp) d
 have:=Drain.ind (P:=fun now old=>RDI n s1 (st t).net now old/\QA y Q s1 now old) hDr ⟨hD0,h0⟩ (fun s old i hi hP hd'=>by
  have hD':=hP.1.step h.h2 h.h16 hi;exact ⟨hD',QA.step h hy hP.1 hP.2 hi fun hr _=>hO (by rw [<- hr0]; exact hr) _ (qx8 h hr hy hD' hd')⟩)
 exact ⟨fun p hr=>this.2.1 p (by rw [hr0]; exact hr),this.2.2.1⟩
theorem Tr.allFix {t y:Nat} (ht:t < T) (hr:(st 0).r y = true) {o:Ent} (ho:(st t).e y y = o) (hT:∀ p,(st 0).r p = true->∀ d:Int,leE (qd (qn ((st t).m p) d).tab y) o) (hN:∀ x ∈ (st t).net,leE (qd x.t y) o) :
  (st (t + 1)).e y y = o/\(∀ p,(st 0).r p = true->leE ((st (t + 1)).e p y) o)/\∀ x ∈ (st (t + 1)).net,leE (qd x.t y) o:=by
 obtain ⟨d,k,K,s1,k0,k1,hd,hp,_,hr1,hn1,hD,hD0,hDr⟩:=h.round ht;have hy:=h.lt hr;have hr0:∀ p,s1.r p = (st 0).r p:=fun p=>by rw [hr1,h.run t (by omega)]
 have h0:QA y (fun e=>leE e o) s1 s1 (st t).net:=by
  refine ⟨fun p hr=>?_,fun x hx=>?_,hN⟩
  ·unfold Sw.e
   rw [(hp p (by rw [<- hr1]; exact hr)).2.2];exact hT p (by rw [<- hr0]; exact hr) d
  ·obtain ⟨p,hrp,hx⟩:=(hn1 x).1 hx
   have hm:=(hp p hrp).2.1;rw [(hm.tick_net h.h2 h.h16 (by omega) hd hx).2.1];exact hT p (by rw [<- hr0,hr1]; exact hrp) d
 have h1:s1.e y y = o:=by
  obtain ⟨_,hm,he⟩:=hp y (by rw [h.run t (by omega)]; exact hr);unfold Sw.e;rw [he,hm.tick_own h.h2 h.h16 (by omega) d]; exact ho
 have:=Drain.ind (P:=fun now old=>RDI n s1 (st t).net now old/\QA y (fun e=>leE e o) s1 now old/\now.e y y = o) hDr ⟨hD0,h0,h1⟩ (fun s old i hi hP hd'=>by
  have hD':=hP.1.step h.h2 h.h16 hi;have hsame:(qa2 s old[i]).e y y = s.e y y:=by
   obtain ⟨k,K,N,_,_,hs,hxs⟩:=id hP.1.cj;have hx:=hxs _ (jbu hi);unfold Sw.e;rw [hs.hear_m hx];split
   ·rename_i hc
    have hm:=hs.mir hc.2;rcases hm.hear_own h.h2 h.h16 hx hc.1.symm with ⟨_,g⟩ | ⟨g0,g⟩
    ·exact g
    ·exfalso
     have g1:=qcN.1 g0;have g2:leE (qd (old[i]).t y) o:=hP.2.1.2.2 _ (jbu hi);rw [<- hP.2.2] at g2;unfold leE Sw.e at g2; omega
   ·rfl
  exact ⟨hD',QA.step h hy hP.1 hP.2.1 hi (fun _ hne=>absurd hsame hne),hsame.trans hP.2.2⟩)
 exact ⟨this.2.2,fun p hr=>this.2.1.1 p (by rw [hr0]; exact hr),this.2.1.2.1⟩
end
section
variable {n T:Nat} {st:Nat->Sw} (h:Tr n T st)
include h
theorem Tr.probes:∀ t,t <= T->∀ p q:Nat,(st 0).r p = true->(st 0).r q = true->∀ b ∈ ((st t).m p).probes,b.target = q ->
  (t:Int) <= ((st t).m p).clock - b.seq∨(((st t).m p).clock = b.seq/\∃ x ∈ (st t).net,x.m.kind = 1/\x.m.dst = q/\x.m.src = p/\x.m.origin = p/\x.m.seq = b.seq) ∨
  (((st t).m p).clock = b.seq + 1/\∃ x ∈ (st t).net,x.m.kind = 2/\x.m.dst = p/\x.m.origin = p/\x.m.seq = b.seq)
 | 0,_,p,q,hp,hq,b,hb,_=>by
  obtain ⟨k,K,_,_,hm⟩:=h.mi (t:=0) (by omega) hp;obtain ⟨_,_,b1,_⟩:=hm.prb b hb;exact .inl (by omega)
 | t + 1,ht,p,q,hp,hq,b',hb',htg=>by
  have ih:=Tr.probes t (by omega) p q hp hq;have hc:=h.clk1 (t:=t) (by omega) hp;obtain ⟨d,k,K,s1,k0,k1,hd,hpm,_,hr1,hn1,hD,_⟩:=h.round (t:=t) (by omega);have hpt:(st t).r p = true:=by rw [h.run t (by omega)]; exact hp
  have hp1:s1.r p = true:=by rw [hr1]; exact hpt
  have hq1:s1.r q = true:=by rw [hr1,h.run t (by omega)]; exact hq
  obtain ⟨_,hm,he⟩:=hpm p hpt;have hb1:=hD.psub p hp1 b' hb';rw [he] at hb1;rcases hm.tick_prb (by omega) d hb1 with ⟨b,hb,e1,e2,_,_⟩ | ⟨e1,e2,_⟩
  ·rcases ih b hb (by rw [<- e2]; exact htg) with c | ⟨c1,x,hx,x1,x2,x3,x4,x5⟩ | ⟨c1,x,hx,x1,x2,x3,x4⟩
   ·exact .inl (by rw [hc,e1]; omega)
   ·rcases hD.ack x hx x1 with hh | hh
    ·cases hh
    ·obtain ⟨z,hz,z1,z2,z3,z4⟩:=hh q x2.symm hq1
     exact .inr (.inr ⟨by rw [hc,e1]; omega,z,hz,z1,by rw [z2,x3],by rw [z4,x4],by rw [z3,x5,e1]⟩)
   ·rcases hD.gone x hx x1 (by rw [x2,x3]) with hh | hh
    ·cases hh
    ·exact absurd (by rw [e1,x4]) (hh p x2.symm hp1 b' hb')
  ·refine .inr (.inl ⟨by rw [hc,e1],_,hD.pers _ ((hn1 _).2 ⟨p,hpt,hm.tick_ping h.h2 h.h16 (by omega)⟩),rfl,?_,rfl,rfl,e1.symm⟩)
   simp only;rw [<- htg,e2,hm.tick_png (by omega) d]
theorem Tr.quiet {t p q:Nat} (ht:t <= T) (ht0:10 <= t∨((st t).m p).clock <= t) (hp:(st 0).r p = true) (hq:(st 0).r q = true):¬ ∃ b ∈ ((st t).m p).probes,b.seq + 9 <= ((st t).m p).clock/\b.target.toNat = q:=by
 rintro ⟨b,hb,hs,htg⟩
 obtain ⟨k,K,_,k1,hm⟩:=h.mi (t:=t) ht hp;obtain ⟨_,b0,b1,b2,_⟩:=hm.prb b hb;have hr:=hm.prb_ne h.h2 h.h16 (by omega) hb;rcases h.probes t ht p q hp hq b hb (by omega) with c | ⟨c,_⟩ | ⟨c,_⟩ <;> omega
theorem Tr.dom1 {t:Nat} (ht:t <= T) (ht1:1 <= t) {x:NM} (hx:x ∈ (st t).net):∃ p:Nat,(st 0).r p = true/\∀ y,y < n->leE (qd x.t y) ((st t).e p y):=by
 obtain ⟨p,_,q2,q3⟩:=h.dom (t:=t - 1) (by omega) (x:=x) (by rw [show t - 1 + 1 = t by omega]; exact hx);exact ⟨p,q2,fun y hy=>by have:=q3 y hy; rwa [show t - 1 + 1 = t by omega] at this⟩
theorem Tr.tick_run {t p y:Nat} (ht:t <= T) (ht0:10 <= t∨((st t).m p).clock <= t) (hp:(st 0).r p = true) (hy:(st 0).r y = true) (d:Int):qd (qn ((st t).m p) d).tab y = (st t).e p y∨(((st t).e p y).2 = 2/\qd (qn ((st t).m p) d).tab y = (((st t).e p y).1,3)):=by
 obtain ⟨k,K,_,k1,hm⟩:=h.mi (t:=t) ht hp;rcases hm.tick_ent (by omega) d (h.lt hy) with ⟨g,_⟩ | ⟨_,_,_,g⟩ | ⟨g0,g,_⟩
 ·exact .inl g
 ·exact absurd g (h.quiet ht ht0 hp hy)
 ·exact .inr ⟨g0,g⟩
theorem qsL {e o:Ent} (ho:o.2 = 1) (he:e.2 = 2) (hl:leE e o):leE (e.1,3) o:=by
 unfold leE at *; simp only; omega
theorem Tr.own1 {t y:Nat} (ht:t <= T) (hy:(st 0).r y = true):((st t).e y y).2 = 1:=by
 obtain ⟨k,K,_,_,hm⟩:=h.mi (t:=t) ht hy;exact hm.own
theorem Tr.best {y:Nat} (hy:(st 0).r y = true) (hT:10 + n <= T):∀ j,10 + j <= T->(∀ p,(st 0).r p = true->leE ((st (10 + j)).e p y) ((st (10 + n)).e y y))/\(∀ x ∈ (st (10 + j)).net,leE (qd x.t y) ((st (10 + n)).e y y))/\(n <= j->(st (10 + j)).e y y = (st (10 + n)).e y y)
 | 0,_=>by
  have h2:=h.h2;have hk:∀ p,(st 0).r p = true->leE ((st 10).e p y) ((st (10 + n)).e y y):=fun p hp=>h.know hT hp hy (h.lt hy)
  refine ⟨hk,fun x hx=>?_,fun hn=>by omega⟩;obtain ⟨p,hp,hl⟩:=h.dom1 (t:=10) (by omega) (by omega) hx;exact (hl y (h.lt hy)).trans (hk p hp)
 | j + 1,hj=>by
  obtain ⟨i1,i2,i3⟩:=Tr.best hy hT j (by omega);have ho:=h.own1 (t:=10 + n) hT hy;have hT':∀ p,(st 0).r p = true->∀ d:Int,leE (qd (qn ((st (10 + j)).m p) d).tab y) ((st (10 + n)).e y y):=fun p hp d=>by
   rcases h.tick_run (t:=10 + j) (by omega) (.inl (by omega)) hp hy d with g | ⟨g0,g⟩ <;> rw [g]
   ·exact i1 p hp
   ·exact qsL h ho g0 (i1 p hp)
  by_cases hn:n <= j
  ·obtain ⟨g1,g2,g3⟩:=h.allFix (t:=10 + j) (by omega) hy (i3 hn) hT' i2
   exact ⟨g2,g3,fun _=>g1⟩
  ·obtain ⟨g1,g2⟩:=h.allQ (t:=10 + j) (by omega) (h.lt hy) (Q:=fun e=>leE e ((st (10 + n)).e y y)) hT' i2 (fun _ e he=>he.trans (h.monoT hy (h.lt hy) (by omega) hT))
   refine ⟨g1,g2,fun hn'=>?_⟩;rw [show 10 + (j + 1) = 10 + n by omega]
theorem Tr.live {y p:Nat} (hy:(st 0).r y = true) (hp:(st 0).r p = true) {t:Nat} (ht:10 + 2 * n <= t) (htT:t <= T):(st t).e p y = (st (10 + n)).e y y/\((st t).e p y).2 = 1:=by
 have h1:=(h.best hy (by omega) (t - 10) (by omega)).1 p hp;rw [show 10 + (t - 10) = t by omega] at h1;have h3:=h.know (t:=10 + n) (by omega) hy hp (h.lt hy);have h4:=h.monoT (t:=10 + n + n) (t':=t) hp (h.lt hy) (by omega) htT;have he:=h1.antisymm (h3.trans h4);exact ⟨he,by rw [he]; exact h.own1 (by omega) hy⟩
theorem Tr.inc_le {p0 y:Nat} (hp0:(st 0).r p0 = true) (hy:y < n) (hyr:(st 0).r y = false) (hT:1 + n <= T):∀ j,1 + j <= T->(∀ p,(st 0).r p = true->((st (1 + j)).e p y).1 <= ((st (1 + n)).e p0 y).1)/\∀ x ∈ (st (1 + j)).net,(qd x.t y).1 <= ((st (1 + n)).e p0 y).1
 | 0,_=>by
  have hk:∀ p,(st 0).r p = true->leE ((st 1).e p y) ((st (1 + n)).e p0 y):=fun p hp=>h.know hT hp hp0 hy
  have hi:∀ {e f:Ent},leE e f->e.1 <= f.1:=fun hl=>by unfold leE at hl; omega
  refine ⟨fun p hp=>hi (hk p hp),fun x hx=>?_⟩;obtain ⟨p,hp,hl⟩:=h.dom1 (t:=1) (by omega) (by omega) hx;exact hi ((hl y hy).trans (hk p hp))
 | j + 1,hj=>by
  obtain ⟨i1,i2⟩:=Tr.inc_le hp0 hy hyr hT j (by omega);refine h.allQ (t:=1 + j) (by omega) hy (Q:=fun e=>e.1 <= ((st (1 + n)).e p0 y).1) (fun p hp d=>?_) i2 (fun hh=>by rw [hyr] at hh; cases hh);obtain ⟨k,K,_,k1,hm⟩:=h.mi (t:=1 + j) (by omega) hp;rw [(qeT h hm k1 d hy).2];exact i1 p hp
theorem Tr.inc_lt {y:Nat} (hy:y < n) (hyr:(st 0).r y = false) {I:Int} (h1:∀ p,(st 0).r p = true->((st 1).e p y).1 < I):∀ j,1 + j <= T->(∀ p,(st 0).r p = true->((st (1 + j)).e p y).1 < I)/\∀ x ∈ (st (1 + j)).net,(qd x.t y).1 < I
 | 0,hj=>by
  refine ⟨h1,fun x hx=>?_⟩;obtain ⟨p,hp,hl⟩:=h.dom1 (t:=1) (by omega) (by omega) hx;have:=hl y hy;have:=h1 p hp;unfold leE at *; omega
 | j + 1,hj=>by
  obtain ⟨i1,i2⟩:=Tr.inc_lt hy hyr h1 j (by omega);refine h.allQ (t:=1 + j) (by omega) hy (Q:=fun e=>e.1 < I) (fun p hp d=>?_) i2 (fun hh=>by rw [hyr] at hh; cases hh);obtain ⟨k,K,_,k1,hm⟩:=h.mi (t:=1 + j) (by omega) hp;rw [(qeT h hm k1 d hy).2];exact i1 p hp
theorem Tr.inc {p0 p y:Nat} (hp0:(st 0).r p0 = true) (hp:(st 0).r p = true) (hy:y < n) (hyr:(st 0).r y = false) {t:Nat} (ht:1 + n <= t) (htT:t <= T):((st t).e p y).1 = ((st (1 + n)).e p0 y).1:=by
 have hle:=(h.inc_le hp0 hy hyr (by omega) (t - 1) (by omega)).1 p hp;rw [show 1 + (t - 1) = t by omega] at hle;have hi:∀ {e f:Ent},leE e f->e.1 <= f.1:=fun hl=>by unfold leE at hl; omega
 have hmono:=hi (h.monoT (t:=1 + n) (t':=t) hp hy ht htT);have hge:((st (1 + n)).e p0 y).1 <= ((st (1 + n)).e p y).1:=by
  apply Classical.byContradiction;intro hc;have hall:∀ q,(st 0).r q = true->((st 1).e q y).1 < ((st (1 + n)).e p0 y).1:=fun q hq=>by
   have:=hi (h.know (t:=1) (by omega) hq hp hy);omega
  have:=(h.inc_lt hy hyr hall n (by omega)).1 p0 hp0;omega
 omega
def qp7 (n:Nat) (s:Sw) (x:NM):Prop:=x.m.seq = 0∨s.r (qac n x.m.origin x.m.seq.toNat).toNat = true
theorem Tr.acks1 {t:Nat} (ht:t < T) {z:NM} (hz:z ∈ (st (t + 1)).net) (hk:z.m.kind = 2):qp7 n (st 0) z∨(z.m.origin = z.m.dst/\∃ x ∈ (st t).net,x.m.kind = 2/\x.m.origin ≠ x.m.dst/\x.m.seq = z.m.seq/\x.m.origin = z.m.origin):=by
 obtain ⟨d,k,K,s1,k0,k1,hd,hpm,hxi,hr1,hn1,hD,_⟩:=h.round ht;rcases hD.fresh z hz with hz1 | ⟨x,hx,q,hq,hrq,hzm,hno⟩
 ·obtain ⟨p,hp,hz2⟩:=(hn1 z).1 hz1
  exact absurd hk ((hpm p hp).2.1.tick_net h.h2 h.h16 (by omega) hd hz2).2.2.2
 ·have hrq0:(st 0).r q = true:=by rw [<- h.run t (by omega),<- hr1]; exact hrq
  rcases (hxi x hx).kd with ⟨e,c1,c2,c3,c4⟩ | ⟨e,c1,c2,c3⟩ | ⟨e,c1,c2,c3,c4⟩
  ·have hm:z.m.seq = x.m.seq/\z.m.origin = x.m.origin:=by rw [hzm]; simp [qam,e]
   refine .inl (.inr ?_);rw [hm.1,hm.2,<- c4,<- hq]; exact hrq0
  ·have hne:x.m.origin ≠ q:=fun hh=>hno ⟨e,hh⟩
   have hm:z.m.seq = x.m.seq/\z.m.origin = x.m.origin/\z.m.dst = x.m.origin:=by rw [hzm]; simp [qam,e]
   exact .inr ⟨by rw [hm.2.1,hm.2.2],x,hx,e,by rw [<- hq]; exact hne,hm.1.symm,hm.2.1.symm⟩
  ·by_cases ht:x.m.target = q
   ·have hm:z.m.seq = x.m.seq/\z.m.origin = x.m.src:=by rw [hzm]; simp [qam,e,ht]
    refine .inl (.inr ?_);rw [hm.1,hm.2,<- c4,ht]; exact hrq0
   ·have:z.m.kind = 1:=by rw [hzm]; simp [qam,e,ht]
    omega
theorem Tr.acks {t:Nat} (ht:t + 2 <= T):∀ z ∈ (st (t + 2)).net,z.m.kind = 2->qp7 n (st 0) z:=by
 have key:∀ t,t + 1 <= T->∀ z ∈ (st (t + 1)).net,z.m.kind = 2->qp7 n (st 0) z∨z.m.origin = z.m.dst:=fun t ht z hz hk=>by
  rcases h.acks1 (t:=t) (by omega) hz hk with g | ⟨g,_⟩
  ·exact .inl g
  ·exact .inr g
 intro z hz hk;rcases h.acks1 (t:=t + 1) (by omega) hz hk with g | ⟨_,x,hx,x1,x2,x3,x4⟩
 ·exact g
 ·rcases key t (by omega) x hx x1 with g | g
  ·unfold qp7 at g ⊢
   rw [<- x3,<- x4]; exact g
  ·exact absurd g x2
theorem Tr.stay {t p:Nat} (ht:t < T) (ht2:2 <= t) (hp:(st 0).r p = true) {s:Int} {y:Nat} (hyr:(st 0).r y = false) (hs:1 <= s) (hsy:qac n p s.toNat = y) (hb:(∃ b ∈ ((st t).m p).probes,b.seq = s)/\((st t).m p).clock < s + 9∨s = ((st t).m p).clock + 1) :
  ∃ b ∈ ((st (t + 1)).m p).probes,b.seq = s:=by
 obtain ⟨d,k,K,s1,k0,k1,hd,hpm,hxi,hr1,hn1,hD,_⟩:=h.round ht;have hpt:(st t).r p = true:=by rw [h.run t (by omega)]; exact hp
 have hp1:s1.r p = true:=by rw [hr1]; exact hpt
 obtain ⟨_,hm,he⟩:=hpm p hpt;have h1:∃ b ∈ (s1.m p).probes,b.seq = s:=by
  rw [he];rcases hb with ⟨⟨b,hb,e⟩,hc⟩ | e
  ·obtain ⟨b',hb',e1,_⟩:=hm.tick_keep (by omega) d hb (by omega)
   exact ⟨b',hb',by omega⟩
  ·obtain ⟨b',hb',e1,_⟩:=hm.tick_new (by omega) d
   exact ⟨b',hb',by omega⟩
 obtain ⟨b,hb,e⟩:=h1;rcases hD.keep p hp1 b hb with g | ⟨x,hx,x1,x2,x3,x4⟩
 ·exact ⟨b,g,e⟩
 ·have ha:=h.acks (t:=t - 2) (by omega) x (by rw [show t - 2 + 2 = t by omega]; exact hx) x2
  rcases ha with g | g
  ·omega
  ·rw [x3,<- x4,e,hsy,jbw,hyr] at g; cases g
theorem Tr.stayN {t p:Nat} (ht2:2 <= t) (hp:(st 0).r p = true) {s:Int} {y:Nat} (hyr:(st 0).r y = false) (hs:1 <= s) (hsy:qac n p s.toNat = y) (hc:s = ((st t).m p).clock + 1):∀ j,j <= 9->t + 1 + j <= T->∃ b ∈ ((st (t + 1 + j)).m p).probes,b.seq = s
 | 0,_,hT=>h.stay (by omega) ht2 hp hyr hs hsy (.inr hc)
 | j + 1,hj,hT=>by
  have ih:=Tr.stayN ht2 hp hyr hs hsy hc j (by omega) (by omega);have hcl:=h.clk (t:=t) (p:=p) hp (1 + j) (by omega);rw [<- jc9] at hcl;exact h.stay (t:=t + 1 + j) (by omega) (by omega) hp hyr hs hsy (.inl ⟨ih,by omega⟩)
theorem Tr.okE {t p y:Nat} (ht:t <= T) (hp:(st 0).r p = true) (hy:y < n):(((st t).e p y).1 = 0↔((st t).e p y).2 = 0)/\0 <= ((st t).e p y).2/\((st t).e p y).2 <= 4/\0 <= ((st t).e p y).1:=by
 obtain ⟨k,K,_,_,hm⟩:=h.mi (t:=t) ht hp;obtain ⟨o1,o2,o3,o4,o5⟩:=hm.oke hy;exact ⟨o5,o3,o4,o1⟩
theorem Tr.worse {p y t t':Nat} (hp:(st 0).r p = true) (hy:y < n) (hyr:(st 0).r y = false) (ht:1 + n <= t) (htt:t <= t') (htT:t' <= T):((st t').e p y).1 = ((st t).e p y).1/\((st t).e p y).2 <= ((st t').e p y).2:=by
 have e1:=h.inc hp hp hy hyr ht (by omega);have e2:=h.inc hp hp hy hyr (show 1 + n <= t' by omega) htT;have e3:=h.monoT hp hy htt htT;unfold leE at e3;omega
theorem Tr.gone1 {p y:Nat} (hp:(st 0).r p = true) (hy:y < n) (hyr:(st 0).r y = false) {t:Nat} (ht:10 + 2 * n <= t) (htT:t <= T):((st t).e p y).2 ≠ 1:=by
 have h2:=h.h2;have hne:p ≠ y:=fun e=>by rw [e,hyr] at hp; cases hp
 obtain ⟨k,K,k0,k1,hm⟩:=h.mi (t:=1 + n) (by omega) hp;obtain ⟨j,j1,j2,j3⟩:=qkc h2 (h.lt hp) hy hne ((st (1 + n)).m p).clock.toNat;have hc:=h.clk (t:=1 + n) hp (j - 1) (by omega);have hc0:=hm.c0
 -- round 1 + n + j sends the Ping, round 1 + n + j + 10 suspects
 have hst:=h.stayN (t:=1 + n + (j - 1)) (by omega) hp (s:=((st (1 + n)).m p).clock + j) hyr (by omega) (by rw [show (((st (1 + n)).m p).clock + j).toNat = ((st (1 + n)).m p).clock.toNat + j by omega]; exact j3) (by rw [hc]; omega) 9 (by omega) (by omega);have hc9:=h.clk (t:=1 + n + (j - 1)) hp (1 + 9) (by omega);rw [show 1 + n + (j - 1) + 1 + 9 = 10 + n + j by omega] at hst;rw [show 1 + n + (j - 1) + (1 + 9) = 10 + n + j by omega] at hc9;obtain ⟨b,hb,hbs⟩:=hst;obtain ⟨d,k',K',s1,k0',k1',hd,hpm,hxi,hr1,hn1,hD,_⟩:=h.round (t:=10 + n + j) (by omega);have hpt:(st (10 + n + j)).r p = true:=by rw [h.run _ (by omega)]; exact hp
 have hp1:s1.r p = true:=by rw [hr1]; exact hpt
 obtain ⟨_,hm',he⟩:=hpm p hpt;have hbt:b.target.toNat = y:=by
  obtain ⟨_,_,_,_,e⟩:=hm'.prb b hb;rw [e,hbs,show (((st (1 + n)).m p).clock + j).toNat = ((st (1 + n)).m p).clock.toNat + j by omega,j3]; simp
 have hE:(qd (qn ((st (10 + n + j)).m p) d).tab y).2 ≠ 1:=by
  rcases hm'.tick_ent (by omega) d hy with ⟨g,_,_,g3⟩ | ⟨_,g,_⟩ | ⟨_,g,_⟩ <;> rw [g]
  ·exact fun hh=>g3 ⟨hh,b,hb,by omega,hbt⟩
  ·simp
  ·simp
 have hl:=hD.mono p y hp1 hy;have hinc:=h.worse hp hy hyr (t:=10 + n + j) (t':=10 + n + j + 1) (by omega) (by omega) (by omega);have hti:=(qeT h hm' k1' d hy);have ho:=h.okE (t:=10 + n + j + 1) (by omega) hp hy;have ho':=(hm'.tick h.h2 h.h16 (by omega) d).oke hy;have hw:=h.worse hp hy hyr (t:=10 + n + j + 1) (t':=t) (by omega) (by omega) htT;have hot:=h.okE (t:=t) htT hp hy;have hs1:s1.e p y = qd (qn ((st (10 + n + j)).m p) d).tab y:=by unfold Sw.e; rw [he]
 rw [hs1] at hl;obtain ⟨o1,o2,o3,o4,o5⟩:=ho';have hq:((st (10 + n + j)).e p y) = qd ((st (10 + n + j)).m p).tab y:=rfl;rw [hq] at hinc;unfold leE at hl;omega
theorem Tr.susp {p y:Nat} (hp:(st 0).r p = true) (hy:y < n) (hyr:(st 0).r y = false):∀ j,10 + 2 * n + j <= T->((st (10 + 2 * n + j)).e p y).2 ≠ 2∨((st (10 + 2 * n + j)).m p).since.getD y 0 <= ((st (10 + 2 * n)).m p).clock
 | 0,hT=>by
  obtain ⟨k,K,k0,k1,hm⟩:=h.mi (t:=10 + 2 * n) (by omega) hp;exact .inr (hm.sncx hy).2
 | j + 1,hT=>by
  have ih:=Tr.susp hp hy hyr j (by omega);have hne:y ≠ p:=fun e=>by rw [<- e,hyr] at hp; cases hp
  obtain ⟨d,k',K',s1,k0',k1',hd,hpm,hxi,hr1,hn1,hD,_⟩:=h.round (t:=10 + 2 * n + j) (by omega);have hpt:(st (10 + 2 * n + j)).r p = true:=by rw [h.run _ (by omega)]; exact hp
  have hp1:s1.r p = true:=by rw [hr1]; exact hpt
  obtain ⟨_,hm',he⟩:=hpm p hpt;have hg:=h.gone1 hp hy hyr (t:=10 + 2 * n + j) (by omega) (by omega);have hl:=hD.mono p y hp1 hy;have hinc:=h.worse hp hy hyr (t:=10 + 2 * n + j) (t':=10 + 2 * n + j + 1) (by omega) (by omega) (by omega);have hti:=qeT h hm' k1' d hy;have hs1:s1.e p y = qd (qn ((st (10 + 2 * n + j)).m p) d).tab y:=by unfold Sw.e; rw [he]
  have hq:((st (10 + 2 * n + j)).e p y) = qd ((st (10 + 2 * n + j)).m p).tab y:=rfl;rw [show 10 + 2 * n + (j + 1) = 10 + 2 * n + j + 1 by omega];rw [hq] at hinc hg ih;rcases hD.snc p y hp1 hy hne with ⟨g1,g2⟩ | g1
  ·rw [g1,g2,hs1,he]
   rcases hm'.tick_ent (by omega) d hy with ⟨f,f2,_⟩ | ⟨f,_⟩ | ⟨_,f,_⟩
   ·rw [f,f2]; exact ih
   ·exact absurd f hg
   ·rw [f]; exact .inl (by simp)
  ·left
   intro h2;apply g1;rw [hs1] at hl ⊢;rcases hm'.tick_ent (by omega) d hy with ⟨f,f2,_⟩ | ⟨f,_⟩ | ⟨f0,f,_⟩
   ·rw [f] at hl ⊢
    obtain ⟨o1,o2,o3,o4,o5⟩:=hm'.oke hy;have ho:=h.okE (t:=10 + 2 * n + j + 1) (by omega) hp hy;unfold leE at hl;refine Prod.ext (by omega) (by omega)
   ·exact absurd f hg
   ·rw [f] at hl
    unfold leE at hl; simp only at hl; omega
theorem Tr.gone2 {p y:Nat} (hp:(st 0).r p = true) (hy:y < n) (hyr:(st 0).r y = false) {t:Nat} (ht:20 + 5 * n <= t) (htT:t <= T):((st t).e p y).2 ≠ 1/\((st t).e p y).2 ≠ 2:=by
 have h2:=h.h2;refine ⟨h.gone1 hp hy hyr (by omega) htT,?_⟩;have hne:y ≠ p:=fun e=>by rw [<- e,hyr] at hp; cases hp
 have hsp:=h.susp hp hy hyr (9 + 3 * n) (by omega);have hcl:=h.clk (t:=10 + 2 * n) hp (9 + 3 * n) (by omega);rw [show 10 + 2 * n + (9 + 3 * n) = 19 + 5 * n by omega] at hsp hcl;obtain ⟨d,k',K',s1,k0',k1',hd,hpm,hxi,hr1,hn1,hD,_⟩:=h.round (t:=19 + 5 * n) (by omega);have hpt:(st (19 + 5 * n)).r p = true:=by rw [h.run _ (by omega)]; exact hp
 have hp1:s1.r p = true:=by rw [hr1]; exact hpt
 obtain ⟨_,hm',he⟩:=hpm p hpt;have hg:=h.gone1 hp hy hyr (t:=19 + 5 * n) (by omega) (by omega);have hq:((st (19 + 5 * n)).e p y) = qd ((st (19 + 5 * n)).m p).tab y:=rfl;rw [hq] at hsp hg;have hE:(qd (qn ((st (19 + 5 * n)).m p) d).tab y).2 ≠ 2:=by
  rcases hm'.tick_ent (by omega) d hy with ⟨g,_,g3,_⟩ | ⟨g0,_⟩ | ⟨_,g,_⟩
  ·rw [g]
   intro hh;rcases hsp with c | c
   ·exact c hh
   ·exact g3 ⟨hh,hne,by omega,h.h16⟩
  ·exact absurd g0 hg
  ·rw [g]; simp
 have hl:=hD.mono p y hp1 hy;have hinc:=h.worse hp hy hyr (t:=19 + 5 * n) (t':=19 + 5 * n + 1) (by omega) (by omega) (by omega);have hw:=h.worse hp hy hyr (t:=19 + 5 * n + 1) (t':=t) (by omega) (by omega) htT;have hti:=qeT h hm' k1' d hy;have hs1:s1.e p y = qd (qn ((st (19 + 5 * n)).m p) d).tab y:=by unfold Sw.e; rw [he]
 rw [hs1] at hl;rw [hq] at hinc;have ho:=h.okE (t:=19 + 5 * n + 1) (by omega) hp hy;have hot:=h.okE (t:=t) htT hp hy;obtain ⟨o1,o2,o3,o4,o5⟩:=(hm'.tick h.h2 h.h16 (by omega) d).oke hy;have hti2:=hti.1;obtain ⟨r1,r2,r3,r4,r5⟩:=hm'.oke hy;unfold leE at hl hti2;omega
theorem Tr.deadQ {y:Nat} (hy:y < n) (hyr:(st 0).r y = false) {Q:Ent->Prop} (h1:∀ p,(st 0).r p = true->Q ((st (20 + 5 * n)).e p y)) (h3:∀ x ∈ (st (20 + 5 * n)).net,Q (qd x.t y)) :
  ∀ j,20 + 5 * n + j <= T->(∀ p,(st 0).r p = true->Q ((st (20 + 5 * n + j)).e p y))/\∀ x ∈ (st (20 + 5 * n + j)).net,Q (qd x.t y)
 | 0,_=>⟨h1,h3⟩
 | j + 1,hj=>by
  obtain ⟨i1,i2⟩:=Tr.deadQ hy hyr h1 h3 j (by omega);refine h.allQ (t:=20 + 5 * n + j) (by omega) hy (fun p hp d=>?_) i2 (fun hh=>by rw [hyr] at hh; cases hh);obtain ⟨k,K,_,k1,hm⟩:=h.mi (t:=20 + 5 * n + j) (by omega) hp;have hg:=h.gone2 hp hy hyr (t:=20 + 5 * n + j) (by omega) (by omega);rcases hm.tick_ent (by omega) d hy with ⟨f,_⟩ | ⟨f,_⟩ | ⟨f,_⟩
  ·rw [f]; exact i1 p hp
  ·exact absurd f hg.1
  ·exact absurd f hg.2
theorem Tr.dead {p0 p y:Nat} (hp0:(st 0).r p0 = true) (hp:(st 0).r p = true) (hy:y < n) (hyr:(st 0).r y = false) {t:Nat} (ht:20 + 6 * n <= t) (htT:t <= T):(st t).e p y = (st (20 + 6 * n)).e p0 y:=by
 have hk:∀ q,(st 0).r q = true->leE ((st (20 + 5 * n)).e q y) ((st (20 + 6 * n)).e p0 y):=fun q hq=>by
  have:=h.know (t:=20 + 5 * n) (by omega) hq hp0 hy
  rwa [show 20 + 5 * n + n = 20 + 6 * n by omega] at this
 have hle:=(h.deadQ hy hyr (Q:=fun e=>leE e ((st (20 + 6 * n)).e p0 y)) hk (fun x hx=>by
  obtain ⟨q,hq,hl⟩:=h.dom1 (t:=20 + 5 * n) (by omega) (by omega) hx;exact (hl y hy).trans (hk q hq)) (t - (20 + 5 * n)) (by omega)).1 p hp
 rw [show 20 + 5 * n + (t - (20 + 5 * n)) = t by omega] at hle;refine hle.antisymm (leE.trans ?_ (h.monoT (t:=20 + 6 * n) hp hy ht htT));apply Classical.byContradiction;intro hc;have hlt:∀ q,(st 0).r q = true->leE ((st (20 + 5 * n)).e q y) ((st (20 + 6 * n)).e p0 y)/\¬ leE ((st (20 + 6 * n)).e p0 y) ((st (20 + 5 * n)).e q y):=fun q hq=>by
  refine ⟨hk q hq,fun hh=>hc (hh.trans ?_)⟩;have:=h.know (t:=20 + 5 * n) (by omega) hq hp hy
  rwa [show 20 + 5 * n + n = 20 + 6 * n by omega] at this
 have:=((h.deadQ hy hyr (Q:=fun e=>¬ leE ((st (20 + 6 * n)).e p0 y) e) (fun q hq=>(hlt q hq).2) (fun x hx hh=>by
  obtain ⟨q,hq,hl⟩:=h.dom1 (t:=20 + 5 * n) (by omega) (by omega) hx;exact (hlt q hq).2 (hh.trans (hl y hy))) n (by omega)).1 p0 hp0)
 rw [show 20 + 5 * n + n = 20 + 6 * n by omega] at this;exact this (leE.refl _)
theorem Tr.right {p y:Nat} (hp:(st 0).r p = true) (hy:y < n) {t:Nat} (ht:30 + 6 * n <= t) (htT:t <= T):qcb ((st t).e p y).2 = (st 0).r y/\(st t).e p y = (st (30 + 6 * n)).e p y:=by
 by_cases hyr:(st 0).r y = true
 ·obtain ⟨a1,a2⟩:=h.live hyr hp (t:=t) (by omega) htT
  obtain ⟨b1,_⟩:=h.live hyr hp (t:=30 + 6 * n) (by omega) (by omega);exact ⟨by rw [a2,hyr]; rfl,by rw [a1,b1]⟩
 ·have hyr':(st 0).r y = false:=by simpa using hyr
  obtain ⟨g1,g2⟩:=h.gone2 hp hy hyr' (t:=t) (by omega) htT;refine ⟨?_,?_⟩
  ·rw [hyr']; simp [qcb,g1,g2]
  ·rw [h.dead hp hp hy hyr' (t:=t) (by omega) htT,h.dead hp hp hy hyr' (t:=30 + 6 * n) (by omega) (by omega)]
end
section
variable {n T:Nat} {st:Nat->Sw} (h:Tr n T st) (hall:∀ p,p < n->(st 0).r p = true) (h0:∀ p y,p < n->y < n->(st 0).e p y = if y = p then (1,1) else (0,0)) (hc:∀ p,p < n->((st 0).m p).clock = 0) (hnet:(st 0).net = [])
include h hall h0 hc hnet
theorem Tr.calm1 {y:Nat} (hy:y < n):∀ t,t <= T->(st t).e y y = (1,1)/\(∀ p,(st 0).r p = true->leE ((st t).e p y) (1,1))/\∀ x ∈ (st t).net,leE (qd x.t y) (1,1)
 | 0,_=>by
  refine ⟨by rw [h0 y y hy hy,jag rfl],fun p hp=>?_,fun x hx=>by rw [hnet] at hx; cases hx⟩;rw [h0 p y (h.lt hp) hy];split
  ·exact leE.refl _
  ·exact .inl (by decide)
 | t + 1,ht=>by
  obtain ⟨i1,i2,i3⟩:=Tr.calm1 hy t (by omega);refine h.allFix (t:=t) (by omega) (hall y hy) i1 (fun p hp d=>?_) i3;have hck:=h.clk (t:=0) hp t (by omega);rw [jbb,hc p (h.lt hp)] at hck;rcases h.tick_run (t:=t) (by omega) (.inr (by omega)) hp (hall y hy) d with g | ⟨g0,g⟩ <;> rw [g]
  ·exact i2 p hp
  ·exact qsL h rfl g0 (i2 p hp)
theorem Tr.calm {p y t:Nat} (hp:p < n) (hy:y < n) (ht:t <= T):((st t).e p y).1 <= 1/\((st t).e p y).2 <= 1/\(n <= t->qcb ((st t).e p y).2 = true):=by
 have h1:=(h.calm1 hall h0 hc hnet hy t ht).2.1 p (hall p hp);obtain ⟨o1,o2,o3⟩:=h.okE ht (hall p hp) hy;unfold leE at h1; simp only at h1;refine ⟨by omega,by omega,fun hn=>?_⟩;have h3:=h.know (t:=t - n) (by omega) (hall y hy) (hall p hp) hy;rw [(h.calm1 hall h0 hc hnet hy (t - n) (by omega)).1,show t - n + n = t by omega] at h3;have:((st t).e p y).2 = 1:=by unfold leE at h3; simp only at h3; omega
 rw [this]; rfl
end
end Go.Proofs
namespace Go.Eng
open Go Go.Proofs
def qiC (Y:Env):Prop:=(Y 3).i = (Y 5).d.length/\(Y 3).i = (Y 8).d.length/\0 <= (Y 13).i/\(Y 13).i <= (Y 15).d.length
def qdK (Y:Env) (b:Nat):Prop:=(Y 0).r = some ⟨b,0,none⟩∨(Y 2).r = some ⟨b,0,none⟩∨(Y 6).r = some ⟨b,0,none⟩∨(Y 12).r = some ⟨b,0,none⟩
def MX (h:Hp) (v:Value) (m:Mach):Prop:=∃ Y:Env,Y.good/\qiC Y/\m = m0 Y/\v = .pointer (Y 0).r/\qD Y qbI h/\∀ b,h b ≠ none->qdK Y b
def isM (H:Hp) (v:Value) (m:Mach):Prop:=∃ h0,Hp.le h0 H/\MX h0 v m
def SwH (H:Hp) (d:List (List Value)) (r:Nat->Bool) (ms:Nat->Mach):Prop:=∃ hs:Nat->Hp,(∀ a b,a ≠ b->Hp.disj (hs a) (hs b))/\(∀ a,Hp.le (hs a) H)/\∀ a,r a = true->MX (hs a) (qU d a 0) (ms a)
def qhu (ms:Nat->Mach) (a:Nat) (m:Mach):Nat->Mach:=fun b=>if b = a then m else ms b
def qck (H H':Hp) (v:Value) (m':Mach):Prop:=∀ (d:List (List Value)) (r:Nat->Bool) (ms:Nat->Mach) (a:Nat),SwH H d r ms->r a = true->v = qU d a 0->SwH H' d r (qhu ms a m')
def callable (m:Mach):Prop:=qdX m/\m.left = false/\m.probes.length <= 1000000
def qiv:Ctr:={ fn:=29,nv:=3,args:=[.one (.var 0),iv .u64 (.var 1)],heap:=[.abs 2 5],ro:=[],pre:=fun Z=>(∃ m,isM (Z 2).h (Z 0).v m/\callable m)/\0 <= (Z 1).i/\(Z 1).i < 18446744073709551616,alts:=[{ k:=6,ret:=.one (.vslice 3 (.lit 0) (.var 4) (.var 5) 116),heap:=[.arr 3 43 qaQ (.var 6) (.var 5),.abs 7 2,.abs 8 5],post:=fun Z=>∀ m,isM (Z 2).h (Z 0).v m->qck (Z 2).h (Z 8).h (Z 0).v (qn m (Z 1).i)/\(Z 4).i = (Z 6).d.length/\qa6 (Z 7).h (qas m (Z 1).i) m.self (qn m (Z 1).i).tab (qas m (Z 1).i).length (Z 6).d }] }
def qpB:Ctr:={ fn:=58,nv:=122,args:=[.one (.var 0),.agg (qbT 1 (.vslice 7 (.lit 0) (.var 8) (.var 9) 2) 12)],heap:=[.abs 121 5],ro:=[.arr 7 25 qan (.var 10) (.var 11)],pre:=fun Z=>(∃ m,isM (Z 121).h (Z 0).v m/\callable m)/\(Z 8).i = (Z 10).d.length/\(Z 8).i <= big,alts:=[{ k:=7,ret:=.tup [(false,[.vslice 122 (.lit 0) (.var 123) (.var 124) 116]),(false,[.vint .i64 (.var 126)])],heap:=[.arr 122 43 qaQ (.var 125) (.var 124),.abs 127 2,.abs 128 5],post:=fun Z=>∀ m,isM (Z 121).h (Z 0).v m->(Z 126).i = qc7 m (qa1 Z 1) (qb (Z 10).d)/\qck (Z 121).h (Z 128).h (Z 0).v (qB m (qa1 Z 1) (qb (Z 10).d))/\(Z 123).i = (Z 125).d.length/\qa6 (Z 127).h (qa5 m (qa1 Z 1) (qb (Z 10).d)) m.self (qB m (qa1 Z 1) (qb (Z 10).d)).tab (qa5 m (qa1 Z 1) (qb (Z 10).d)).length (Z 125).d }] }
def qm1:Ctr:={ fn:=43,nv:=3,args:=[.one (.var 0),iv .u64 (.var 1)],heap:=[.abs 2 5],ro:=[],pre:=fun Z=>∃ m,isM (Z 2).h (Z 0).v m/\callable m,alts:=[{ k:=2,ret:=iv .i64 (.var 3),heap:=[.abs 4 5],post:=fun Z=>∀ m,isM (Z 2).h (Z 0).v m->(Z 3).i = qdQ m (Z 1).i/\qck (Z 2).h (Z 4).h (Z 0).v (qch m (Z 1).i) }] }
def qmz:Ctr:={ fn:=44,nv:=2,args:=[.one (.var 0)],heap:=[.abs 1 5],ro:=[],pre:=fun Z=>∃ m,isM (Z 1).h (Z 0).v m/\callable m/\(qaO m.tab m.self).2 ≠ 0,alts:=[{ k:=6,ret:=.one (.vslice 2 (.lit 0) (.var 3) (.var 4) 116),heap:=[.arr 2 43 qaQ (.var 5) (.var 4),.abs 6 2,.abs 7 5],post:=fun Z=>∀ m,isM (Z 1).h (Z 0).v m->qck (Z 1).h (Z 7).h (Z 0).v (qdR m)/\(Z 3).i = (Z 5).d.length/\qa6 (Z 6).h (qbv (qL m.tab m.self)) m.self (qL m.tab m.self) (qbv (qL m.tab m.self)).length (Z 5).d }] }
def qd5:Ctr:={ fn:=28,nv:=2,args:=[.one (.var 0)],heap:=[],ro:=[.abs 1 5],pre:=fun Z=>∃ m,isM (Z 1).h (Z 0).v m/\qdX m,alts:=[{ k:=4,ret:=.one (.vslice 2 (.lit 0) (.var 3) (.var 4) 2),heap:=[.arr 2 25 qan (.var 5) (.var 4)],post:=fun Z=>∀ m,isM (Z 1).h (Z 0).v m->(Z 3).i = (Z 5).d.length/\qb (Z 5).d = m.tab }] }
def qgh:Ctr:={ fn:=30,nv:=2,args:=[.one (.var 0)],heap:=[],ro:=[.abs 1 5],pre:=fun Z=>∃ m,isM (Z 1).h (Z 0).v m/\qdX m,alts:=[{ k:=4,ret:=.one (.vslice 2 (.lit 0) (.var 3) (.var 4) 1),heap:=[.arr 2 3 [.int .i64] (.var 5) (.var 4)],post:=fun Z=>∀ m,isM (Z 1).h (Z 0).v m->(Z 3).i = (Z 5).d.length/\qf (Z 5).d = qbC m.tab/\(Z 3).i <= 16 }] }
def qkx:Ctr:={ fn:=50,nv:=2,args:=[.one (.var 0)],heap:=[],ro:=[.abs 1 5],pre:=fun Z=>∃ m,isM (Z 1).h (Z 0).v m,alts:=[{ k:=1,ret:=iv .u64 (.var 2),heap:=[],post:=fun Z=>∀ m,isM (Z 1).h (Z 0).v m->(Z 2).i = m.chal }] }
def qxx:Ctr:={ fn:=22,nv:=3,args:=[iv .i64 (.var 0),iv .i64 (.var 1),iv .u64 (.var 2)],heap:=[],ro:=[],pre:=fun Z=>qeD (Z 0).i (Z 1).i (Z 2).i = false,alts:=[{ k:=2,ret:=.tup [(false,[.var 3]),(false,[.vint .i64 (.lit 0)])],heap:=[.abs 4 5],post:=fun Z=>isM (Z 4).h (Z 3).v (qcy (Z 0).i (Z 1).i (Z 2).i) }] }
def nMs (r l c:Nat):SV:=.one (.vslice r (.lit 0) (.var l) (.var c) 116)
def nHp (r d c:Nat):SH:=.arr r 43 qaQ (.var d) (.var c)
def qhD:Ctr:={ fn:=23,nv:=119,ow:=[1003],ip:=[(1001,9)],args:=[.one (.var 0),.agg (qbT 1 (.var 7) 8)],heap:=[.abs 117 5],ro:=[.abs 118 2],pre:=fun Z=>(∃ m,isM (Z 117).h (Z 0).v m/\callable m)/\∃ t,RdT (Z 118).h (Z 7).v t/\t.length <= 16,alts:=[{ k:=7,ret:=.tup [(false,[.vslice 119 (.lit 0) (.var 120) (.var 121) 116]),(false,[.vint .i64 (.var 123)])],heap:=[.arr 119 43 qaQ (.var 122) (.var 121),.abs 124 2,.abs 125 5],post:=fun Z=>∀ m t,isM (Z 117).h (Z 0).v m->RdT (Z 118).h (Z 7).v t->(Z 123).i = qc7 m (qa1 Z 1) t/\qck (Z 117).h (Z 125).h (Z 0).v (qB m (qa1 Z 1) t)/\(Z 120).i = (Z 122).d.length/\qa6 (Z 124).h (qa5 m (qa1 Z 1) t) m.self (qB m (qa1 Z 1) t).tab (qa5 m (qa1 Z 1) t).length (Z 122).d }] }
def qqJ:Inv:={ key:=4,nv:=13,env:=[(3,.one (.vptr 1011 (.lit 0) 0 0)),(6,nMs 1000 1001 1002),(7,iv .i64 (.var 1004)),(8,iv .i64 (.var 1008))],heap:=[.cells 1011 43 (qbT 1 (.vslice 1005 (.lit 0) (.var 1012) (.var 1006) 2) 8),.arr 1005 25 qan (.var 1007) (.var 1006),nHp 1000 1003 1002,.abs 1009 2,.abs 1010 5],inv:=(fun Z=>0 <= (Z 1008).i/\(Z 1012).i = (Z 1007).d.length/\(Z 1012).i <= 16/\∀ m t,isM (Z 117).h (Z 0).v m->RdT (Z 118).h (Z 7).v t->(Z 1004).i = qc7 m (qa1 Z 1) t/\qck (Z 117).h (Z 1010).h (Z 0).v (qB m (qa1 Z 1) t)/\(Z 1001).i = (Z 1003).d.length/\qa6 (Z 1009).h (qa5 m (qa1 Z 1) t) m.self (qB m (qa1 Z 1) t).tab (qa5 m (qa1 Z 1) t).length (Z 1003).d),mu:=(fun Z=>((Z 1012).i - (Z 1008).i).toNat) }
def qej:Ctr:={ fn:=73,nv:=2,args:=[iv .i64 (.var 0),iv .i64 (.var 1)],heap:=[],ro:=[],pre:=fun Z=>0 < (Z 1).i/\(Z 1).i <= 1000000000,alts:=[{ k:=1,ret:=iv .i64 (.var 2),heap:=[],post:=fun Z=>0 <= (Z 2).i/\(Z 2).i < (Z 1).i }] }
def qzl:List CK:=[.any]
def qfP (b net nl nc:Nat):SH:=.cells b 82 [.vslice (b + 1) (.lit 0) (.var (b + 2)) (.var (b + 3)) 1,.vslice (b + 5) (.lit 0) (.var (b + 2)) (.var (b + 6)) 1,.vslice (b + 8) (.lit 0) (.var (b + 2)) (.var (b + 9)) 1,.vslice net (.lit 0) (.var nl) (.var nc) 116]
def qit (b d:Nat):SH:=.arr (b + 1) 46 qzl (.var d) (.var (b + 3))
def qiQ (b d:Nat):SH:=.arr (b + 5) 4 [.bool] (.var d) (.var (b + 6))
def qjA (b d:Nat):SH:=.arr (b + 8) 22 [.int .u64] (.var d) (.var (b + 9))
def qpV (b:Nat):List SH:=[qfP b (b + 11) (b + 12) (b + 13),qit b (b + 4),qiQ b (b + 7),qjA b (b + 10),nHp (b + 11) (b + 14) (b + 13),.abs (b + 15) 5,.abs (b + 16) 2]
def qdF (d:List (List Value)):List Bool:=d.map fun r=>qq9 r 0
def qc4 (G:Hp) (d:List (List Value)) (net:List NM):Prop:=d.length = net.length/\∀ (i:Nat) (x:NM),net[i]? = some x->∃ v,d[i]? = some (qg7 x.m v)/\RdT G v x.t
def swP (n nl:Int) (dM dR dL dN:List (List Value)) (H G:Hp) (s:Sw):Prop:=n = s.ms.length/\n = dM.length/\n = dR.length/\n = dL.length/\nl = dN.length/\qdF dR = s.run/\qf dL = s.last/\qc4 G dN s.net/\SwH H dM s.r s.m
def qb8 (Z:Env) (b:Nat) (s:Sw):Prop:=swP (Z (b + 2)).i (Z (b + 12)).i (Z (b + 4)).d (Z (b + 7)).d (Z (b + 10)).d (Z (b + 14)).d (Z (b + 15)).h (Z (b + 16)).h s
def qdg (s:Sw):Prop:=∃ (n:Nat) (k K N:Int),2 <= n/\n <= 16/\0 <= k/\k <= 900000/\K <= 4000000000000000000/\N <= 100000000/\SI n k K N s
def qdN (s:Sw) (x:NM):Prop:=∃ (n:Nat) (k K N:Int),2 <= n/\n <= 16/\0 <= k/\k <= 1000000/\K <= 5000000000000000000/\N <= 300000000/\SI n k K N s/\XI n K x
def qn8:SV:=.one (.vbool (.bl true))
def qeJ:SV:=ptr 0
def qbY (s:Sw) (a:Nat) (inc:Int):Sw:=⟨s.ms.set a (qcy a s.ms.length inc),s.run.set a true,s.last.set a inc,s.net⟩
def qeh:Ctr:={ fn:=40,nv:=19,ip:=[(1001,9)],args:=[qeJ,iv .i64 (.var 17),iv .u64 (.var 18)],heap:=qpV 0,ro:=[],pre:=fun Z=>(∃ s,qb8 Z 0 s)/\2 <= (Z 2).i/\(Z 2).i <= 16/\0 <= (Z 17).i/\(Z 17).i < (Z 2).i/\1 <= (Z 18).i,alts:=[{ k:=4,ret:=qn8,heap:=[qfP 0 11 12 13,qit 0 19,qiQ 0 20,qjA 0 21,nHp 11 14 13,.abs 22 5,.abs 16 2],post:=fun Z=>∀ s,qb8 Z 0 s->swP (Z 2).i (Z 12).i (Z 19).d (Z 20).d (Z 21).d (Z 14).d (Z 22).h (Z 16).h (qbY s (Z 17).i.toNat (Z 18).i) }] }
def qeV:Ctr:={ fn:=74,nv:=133,ow:=[1003],ip:=[(1001,9)],args:=[qeJ,.agg (qbT 17 (.var 23) 24)],heap:=qpV 0,ro:=[],pre:=fun Z=>∃ s t,qb8 Z 0 s/\RdT (Z 16).h (Z 23).v t/\qdN s ⟨qa1 Z 17,t⟩,alts:=[{ k:=7,ret:=qn8,heap:=[qfP 0 133 134 135,qit 0 4,qiQ 0 7,qjA 0 137,nHp 133 136 135,.abs 138 5,.abs 139 2],post:=fun Z=>Hp.le (Z 16).h (Z 139).h/\∀ s t,qb8 Z 0 s->RdT (Z 16).h (Z 23).v t->qdN s ⟨qa1 Z 17,t⟩->swP (Z 2).i (Z 134).i (Z 4).d (Z 7).d (Z 137).d (Z 136).d (Z 138).h (Z 139).h (qa2 s ⟨qa1 Z 17,t⟩) }] }
def qhn (s s':Sw):Prop:=∀ (n:Nat) (k K N:Int),2 <= n->n <= 16->0 <= k->k <= 900000->K <= 4000000000000000000->N <= 100000000->SI n k K N s->SI n (k + 1) (K + 1) (N + 2 * k + 20) s'
def qes:Ctr:={ fn:=46,nv:=21,ow:=[1003],ip:=[(1001,9),(55,2),(63,2)],args:=[qeJ,.agg [.vint .i64 (.var 17),.vint .i64 (.var 18),.vint .i64 (.var 19),.vint .u64 (.var 20)]],heap:=qpV 0,ro:=[],pre:=fun Z=>(∃ s,qb8 Z 0 s/\qdg s)/\0 <= (Z 20).i/\(Z 20).i < 18446744073709551616,alts:=[{ k:=9,ret:=qn8,heap:=[qfP 0 21 22 23,qit 0 25,qiQ 0 26,qjA 0 27,nHp 21 24 23,.abs 28 5,.abs 29 2],post:=fun Z=>∀ s,qb8 Z 0 s->qdg s->∃ s',qhn s s'/\swP (Z 2).i (Z 22).i (Z 25).d (Z 26).d (Z 27).d (Z 24).d (Z 28).h (Z 29).h s' }] }
def qcQ:Ctr:={ fn:=41,nv:=24,ow:=[1003],ip:=[(1001,9),(81,2),(86,2)],args:=[qeJ,iv .u64 (.var 17),qjl 18 19 20,iv .i64 (.var 23)],heap:=qpV 0,ro:=[iRo 18 21 22],pre:=fun Z=>(∃ s,qb8 Z 0 s/\qdg s)/\0 <= (Z 17).i/\(Z 17).i < 18446744073709551616/\(Z 19).i = (Z 21).d.length/\(Z 19).i <= 100/\0 <= (Z 23).i/\(Z 23).i <= 1000,alts:=[{ k:=7,ret:=qn8,heap:=[qfP 0 24 25 26,qit 0 4,qiQ 0 7,qjA 0 28,nHp 24 27 26,.abs 29 5,.abs 30 2],post:=fun Z=>∀ s,qb8 Z 0 s->qdg s->∃ s',qeN (Z 17).i s s'/\swP (Z 2).i (Z 25).i (Z 4).d (Z 7).d (Z 28).d (Z 27).d (Z 29).h (Z 30).h s' }] }
def qru:Inv:={ key:=4,nv:=7,env:=[(0,qeJ),(1,iv .u64 (.var 17)),(2,qjl 18 19 20),(3,iv .i64 (.var 23)),(9,nMs 11 12 13),(10,iv .i64 (.var 1006))],heap:=[qfP 0 1000 1001 1002,qit 0 4,qiQ 0 7,qjA 0 10,nHp 11 14 13,nHp 1000 1003 1002,.abs 1004 5,.abs 1005 2],inv:=(fun Z=>0 <= (Z 1006).i/\(Z 1006).i <= (Z 2).i/\∀ s,qb8 Z 0 s->qdg s->swP (Z 2).i (Z 1001).i (Z 4).d (Z 7).d (Z 10).d (Z 1003).d (Z 1004).h (Z 1005).h (qar (Z 17).i { s with net:=[] } (Z 1006).i.toNat)/\qc4 (Z 1005).h (Z 14).d s.net),mu:=(fun Z=>((Z 2).i - (Z 1006).i).toNat) }
def qhO (d:Int) (s now:Sw) (old:List NM):Prop:=(∀ e,Drain now old e->qeN d s e)/\∃ (n:Nat) (k K N:Int),2 <= n/\n <= 16/\0 <= k/\k <= 1000000/\K + old.length <= 5000000000000000000/\N + old.length <= 300000000/\SI n k K N now/\∀ x ∈ old,XI n K x
def qrl:Inv:={ key:=9,nv:=13,env:=[(0,qeJ),(2,qjl 18 19 20),(3,iv .i64 (.var 23)),(9,nMs 1007 1008 1009),(11,iv .i64 (.var 1011))],heap:=[qfP 0 1000 1001 1002,qit 0 4,qiQ 0 7,qjA 0 1012,nHp 1007 1010 1009,nHp 1000 1003 1002,.abs 1004 5,.abs 1005 2],inv:=(fun Z=>0 <= (Z 1011).i/\(Z 1011).i <= 100000000/\(Z 1011).i = (Z 1008).i/\(Z 1008).i = (Z 1010).d.length/\∀ s,qb8 Z 0 s->qdg s->∃ now old,qhO (Z 17).i s now old/\swP (Z 2).i (Z 1001).i (Z 4).d (Z 7).d (Z 1012).d (Z 1003).d (Z 1004).h (Z 1005).h now/\qc4 (Z 1005).h (Z 1010).d old),mu:=(fun Z=>(Z 1011).i.toNat) }
def qyU (b:Nat):List SH:=[qfP b (b + 11) (b + 12) (b + 13),qit b (b + 4),qiQ b (b + 7),.abs (b + 15) 5]
def qmr (s:Sw):Prop:=∀ p y,s.r p = true->y < s.ms.length->qcb (s.e p y).2 = s.r y
def wfW (s:Sw):Prop:=s.ms.length <= 16/\∀ p,s.r p = true->qdX (s.m p)/\(s.m p).tab.length = s.ms.length
def swRP (n:Int) (dM dR:List (List Value)) (H:Hp) (s:Sw):Prop:=n = s.ms.length/\n = dM.length/\n = dR.length/\qdF dR = s.run/\SwH H dM s.r s.m
def swR (Z:Env) (b:Nat) (s:Sw):Prop:=swRP (Z (b + 2)).i (Z (b + 4)).d (Z (b + 7)).d (Z (b + 15)).h s
def qem:Ctr:={ fn:=47,nv:=16,ip:=[(1001,9)],args:=[qeJ],heap:=[],ro:=qyU 0,pre:=fun Z=>∃ s,swR Z 0 s/\wfW s/\qmr s,alts:=[{ k:=0,ret:=qn8,heap:=[],post:=fun _=>True }] }
def qrz:Inv:={ key:=2,nv:=1,env:=[(0,qeJ),(3,iv .i64 (.var 1000))],heap:=[],inv:=(fun Z=>0 <= (Z 1000).i/\(Z 1000).i <= (Z 2).i),mu:=(fun Z=>((Z 2).i - (Z 1000).i).toNat) }
def qr1:Inv:={ key:=8,nv:=7,env:=[(0,qeJ),(3,iv .i64 (.var 1000)),(4,qjl 1001 1002 1003),(5,iv .i64 (.var 1005)),(6,iv .i64 (.var 1006))],heap:=[iRo 1001 1004 1003],inv:=(fun Z=>(Z 1000).i = (Z 16).i/\0 <= (Z 1006).i/\(Z 1006).i <= (Z 2).i/\(Z 1002).i = (Z 1004).d.length/\∀ s,swR Z 0 s->wfW s->qmr s->qf (Z 1004).d = qbC (s.m (Z 1000).i.toNat).tab/\(Z 1005).i = (qbj (s.m (Z 1000).i.toNat).tab (Z 1006).i.toNat).length),mu:=(fun Z=>((Z 2).i - (Z 1006).i).toNat) }
def qdo (h:Hp) (d:List (List Value)) (l:List (List Ent)):Prop:=d.length = l.length/\∀ (i:Nat) (t:List Ent),l[i]? = some t->∃ v e,d[i]? = some [v]/\Rd h qan v e/\qb e = t
def qdn (s:Sw) (n:Nat):List (List Ent):=((List.range n).filter s.r).map fun a=>(s.m a).tab
def tSl (r l c:Nat):SV:=.one (.vslice r (.lit 0) (.var l) (.var c) 1)
def tHp (r d c:Nat):SH:=.arr r 31 qzl (.var d) (.var c)
def qfD:Ctr:={ fn:=48,nv:=16,ip:=[(1001,9)],args:=[qeJ],heap:=[],ro:=qyU 0,pre:=fun Z=>∃ s,swR Z 0 s/\wfW s,alts:=[{ k:=5,ret:=tSl 16 17 18,heap:=[tHp 16 19 18,.abs 20 6],post:=fun Z=>(Z 17).i = (Z 19).d.length/\∀ s,swR Z 0 s->wfW s->qdo (Z 20).h (Z 19).d (qdn s s.ms.length) }] }
def qon:Inv:={ key:=3,nv:=6,env:=[(0,qeJ),(3,tSl 1000 1001 1002),(4,iv .i64 (.var 1004))],heap:=[tHp 1000 1003 1002,.abs 1005 6],inv:=(fun Z=>0 <= (Z 1004).i/\(Z 1004).i <= (Z 2).i/\(Z 1001).i = (Z 1003).d.length/\(Z 1001).i <= (Z 1004).i/\∀ s,swR Z 0 s->wfW s->qdo (Z 1005).h (Z 1003).d (qdn s (Z 1004).i.toNat)),mu:=(fun Z=>((Z 2).i - (Z 1004).i).toNat) }
def qgL:Ctr:={ fn:=49,nv:=12,ow:=[1003],ip:=[(1001,9)],args:=[tSl 0 1 2,tSl 5 6 7],heap:=[],ro:=[tHp 0 3 4,tHp 5 8 9,.abs 10 507,.abs 11 6],pre:=fun Z=>(Z 1).i = (Z 3).d.length/\(Z 6).i = (Z 8).d.length/\(Z 1).i <= 16/\∃ l,qdo (Z 10).h (Z 3).d l/\qdo (Z 11).h (Z 8).d l/\∀ t ∈ l,t.length <= 16,alts:=[{ k:=0,ret:=qn8,heap:=[],post:=fun _=>True }] }
def qqf:Inv:={ key:=4,nv:=1,env:=[(0,tSl 0 1 2),(1,tSl 5 6 7),(5,iv .i64 (.var 1000))],heap:=[],inv:=(fun Z=>0 <= (Z 1000).i/\(Z 1000).i <= (Z 1).i),mu:=(fun Z=>((Z 1).i - (Z 1000).i).toNat) }
def qry:Inv:={ key:=9,nv:=2,env:=[(0,tSl 0 1 2),(1,tSl 5 6 7),(5,iv .i64 (.var 1000)),(6,iv .i64 (.var 1001))],heap:=[],inv:=(fun Z=>(Z 1000).i = (Z 12).i/\0 <= (Z 1001).i/\(Z 1001).i <= 16),mu:=(fun Z=>(17 - (Z 1001).i).toNat) }
def kEv:List CK:=[.int .i64,.int .i64,.int .i64,.int .u64]
def qjo:List T:=[.vint .i64 (.var 0),.vslice 1 (.lit 0) (.var 2) (.var 3) 4,.vslice 6 (.lit 0) (.var 7) (.var 8) 1,.vint .u64 (.var 11)]
def qhM:List SH:=[.arr 1 95 kEv (.var 4) (.var 5),iRo 6 9 10]
def qnn (p e o:Int):Bool:=decide (p < 2) || decide (p > 6) || decide (e > 200) || decide (o > 100)
def qcJ:Ctr:={ fn:=39,nv:=12,ip:=[(1001,9)],args:=[.agg qjo],heap:=[],ro:=[],pre:=fun Z=>0 <= (Z 2).i/\0 <= (Z 7).i,alts:=[
 { k:=0,ret:=.tup [(false,[.vnilp]),(false,[.vbool (.bl false)])],heap:=[],post:=fun Z=>qnn (Z 0).i (Z 2).i (Z 7).i = true },
 { k:=15,ret:=.tup [(false,[.vptr 12 (.lit 0) 0 0]),(false,[.vbool (.bl true)])],heap:=[qfP 12 23 24 25,qit 12 16,qiQ 12 19,qjA 12 22,nHp 23 26 25],post:=fun Z=>qnn (Z 0).i (Z 2).i (Z 7).i = false/\(Z 14).i = (Z 0).i/\(Z 24).i = 0/\(Z 26).d = []/\(Z 16).d.length = (Z 0).i.toNat/\(Z 19).d = List.replicate (Z 0).i.toNat [.bool false]/\(Z 22).d = List.replicate (Z 0).i.toNat [.int .u64 0] }] }
def inP (Z:Env):Prop:=(Z 2).i = (Z 4).d.length/\(Z 2).i <= big/\(Z 7).i = (Z 9).d.length/\(Z 7).i <= 17592186043904/\0 <= (Z 11).i/\(Z 11).i < 18446744073709551616/\∀ row ∈ (Z 4).d,0 <= qbO row 3/\qbO row 3 < 18446744073709551616
def qhi (p e o:Int):Prop:=2 <= p/\p <= 6/\e <= 200/\o <= 100
def qyn (r:Nat):SH:=.cells r 72 qjo
def pIn (r:Nat):SV:=.one (.vptr r (.lit 0) 0 0)
def qlC:List SH:=qpV 1000 ++ [qyn 1018]
def evS (p i:Int) (s:Sw):Prop:=∃ n:Nat,(n:Int) = p/\SI n i (i + 1) (420 * i) s
def trS (p t:Int) (st:Nat->Sw):Prop:=∃ n:Nat,(n:Int) = p/\0 <= t/\Tr n t.toNat st/\SI n (200 + t) (1000 + 10000000 * t) (100000 + 10000 * t) (st t.toNat)
def qen:Ctr:={ fn:=13,nv:=12,ip:=[(1001,9)],args:=[.agg qjo],heap:=[],ro:=qhM,pre:=inP,alts:=qcq.alts }
def qio:Inv:={ key:=5,nv:=19,env:=[(1,pIn 1018),(3,ptr 1000),(5,iv .i64 (.var 1017))],heap:=qlC,inv:=(fun Z=>qhi (Z 0).i (Z 2).i (Z 7).i/\0 <= (Z 1017).i/\(Z 1017).i <= (Z 2).i/\∃ s,qb8 Z 1000 s/\evS (Z 0).i (Z 1017).i s),mu:=(fun Z=>((Z 2).i - (Z 1017).i).toNat) }
def qiL:Inv:={ key:=10,nv:=19,env:=[(1,pIn 1018),(3,ptr 1000),(6,iv .i64 (.var 1017))],heap:=qlC,inv:=(fun Z=>qhi (Z 0).i (Z 2).i (Z 7).i/\0 <= (Z 1017).i/\(Z 1017).i <= 30 + 6 * (Z 0).i/\∃ st:Nat->Sw,trS (Z 0).i (Z 1017).i st/\qb8 Z 1000 (st (Z 1017).i.toNat)),mu:=(fun Z=>(100 - (Z 1017).i).toNat) }
def qd0:Ctr:={ fn:=14,nv:=12,ip:=[(1001,9)],args:=[.agg qjo],heap:=[],ro:=qhM,pre:=inP,alts:=qcq.alts }
def qoM:Inv:=qio
def qoi:Inv:=qiL
def qoP:Inv:={ key:=16,nv:=24,env:=[(1,pIn 1018),(3,ptr 1000),(7,tSl 1019 1020 1021),(8,iv .i64 (.var 1017))],heap:=qlC ++ [tHp 1019 1022 1021,.abs 1023 507],inv:=(fun Z=>qhi (Z 0).i (Z 2).i (Z 7).i/\0 <= (Z 1017).i/\(Z 1017).i <= 30/\(Z 1020).i = (Z 1022).d.length/\∃ st:Nat->Sw,trS (Z 0).i (30 + 6 * (Z 0).i + (Z 1017).i) st/\qb8 Z 1000 (st (30 + 6 * (Z 0).i + (Z 1017).i).toNat)/\qdo (Z 1023).h (Z 1022).d (qdn (st (30 + 6 * (Z 0).i).toNat) (Z 0).i.toNat)),mu:=(fun Z=>(30 - (Z 1017).i).toNat) }
def qiw (p a:Int) (s:Sw):Prop:=∃ n:Nat,(n:Int) = p/\s.ms.length = n/\s.run.length = n/\s.last.length = n/\s.net = []/\(∀ v ∈ s.last,0 <= v/\v <= 1)/\∀ b:Nat,b < n->s.r b = decide ((b:Int) < a)/\((b:Int) < a->s.m b = qcy b n 1)
def qgc (p t:Int) (st:Nat->Sw):Prop:=trS p t st/\qiw p p (st 0)
def qeg:Ctr:={ fn:=10,nv:=13,ip:=[(1001,9)],args:=[.agg qjo,iv .u8 (.var 12)],heap:=[],ro:=qhM,pre:=fun Z=>inP Z/\0 <= (Z 12).i/\(Z 12).i <= 255,alts:=qcq.alts }
def qkw:List (Nat × SV):=[(1,iv .u8 (.var 12)),(2,pIn 1018),(5,ptr 1000)]
def qpM:Inv:={ key:=5,nv:=19,env:=qkw ++ [(7,iv .i64 (.var 1017))],heap:=qlC,inv:=(fun Z=>qhi (Z 0).i (Z 2).i (Z 7).i/\0 <= (Z 1017).i/\(Z 1017).i <= (Z 0).i/\∃ s,qb8 Z 1000 s/\qiw (Z 0).i (Z 1017).i s),mu:=(fun Z=>((Z 0).i - (Z 1017).i).toNat) }
def qrn:Inv:={ key:=10,nv:=19,env:=qkw ++ [(8,iv .i64 (.var 1017))],heap:=qlC,inv:=(fun Z=>qhi (Z 0).i (Z 2).i (Z 7).i/\0 <= (Z 1017).i/\(Z 1017).i <= (Z 12).i/\∃ st:Nat->Sw,qgc (Z 0).i (Z 1017).i st/\qb8 Z 1000 (st (Z 1017).i.toNat)),mu:=(fun Z=>((Z 12).i - (Z 1017).i).toNat) }
def qqq (Z:Env):Prop:=qhi (Z 0).i (Z 2).i (Z 7).i/\0 <= (Z 1017).i/\(Z 1017).i < (Z 12).i/\0 <= (Z 1023).i/\(Z 1023).i <= (Z 0).i/\∃ st:Nat->Sw,qgc (Z 0).i ((Z 1017).i + 1) st/\qb8 Z 1000 (st ((Z 1017).i + 1).toNat)
def qr2:Inv:={ key:=15,nv:=24,env:=qkw ++ [(8,iv .i64 (.var 1017)),(9,iv .i64 (.var 1023))],heap:=qlC,inv:=(fun Z=>qqq Z/\(Z 1017).i = (Z 67).i),mu:=(fun Z=>((Z 0).i - (Z 1023).i).toNat) }
def qrc:Inv:={ key:=19,nv:=25,env:=qkw ++ [(8,iv .i64 (.var 1017)),(9,iv .i64 (.var 1023)),(10,.one (.vslice 1019 (.lit 0) (.var 1020) (.var 1021) 2)),(11,iv .i64 (.var 1024))],heap:=qlC ++ [.arr 1019 25 qan (.var 1022) (.var 1021)],inv:=(fun Z=>qqq Z/\(Z 1017).i = (Z 67).i/\(Z 1023).i = (Z 99).i/\(Z 1023).i < (Z 0).i/\0 <= (Z 1024).i/\(Z 1024).i <= 1000/\(Z 1020).i = (Z 1022).d.length/\((Z 1022).d.length:Int) = (Z 0).i/\∀ y:Nat,y < (Z 1022).d.length->(qd (qb (Z 1022).d) y).1 <= 1/\(qd (qb (Z 1022).d) y).2 <= 1),mu:=(fun Z=>(1001 - (Z 1024).i).toNat) }
end Go.Eng
namespace Go.Proofs.Ytlmkkphojjodhaa
open Go Go.Eng Go.Proofs Go.ChangeShapes Go.WideShapes Go.ChangeAt Go.RowKit
noncomputable def qqZ:Array Field:=match Try.prog.underlying 72 with | some (.struct fs)=>fs | _=>#[]
theorem qhU:Try.prog.underlying 72 = some (.struct qqZ):=by kernel_rfl
theorem qzk:(qqZ[0]?).map (fun f=>(f.type,f.offset)) = some (3,0):=by kernel_rfl
theorem qzr:(qqZ[1]?).map (fun f=>(f.type,f.offset)) = some (70,1):=by kernel_rfl
theorem qyW:(qqZ[2]?).map (fun f=>(f.type,f.offset)) = some (57,2):=by kernel_rfl
theorem qyF:(qqZ[3]?).map (fun f=>(f.type,f.offset)) = some (22,3):=by kernel_rfl
noncomputable def qzs:Array Field:=match Try.prog.underlying 95 with | some (.struct fs)=>fs | _=>#[]
theorem qyj:Try.prog.underlying 95 = some (.struct qzs):=by kernel_rfl
theorem qzg:(qzs[3]?).map (fun f=>(f.type,f.offset)) = some (22,3):=by kernel_rfl
theorem qy3:Try.prog.underlying 70 = some (.slice 95):=by kernel_rfl
theorem qyk:Try.prog.underlying 57 = some (.slice 3):=by kernel_rfl
theorem qxO:qhy Try.prog 7 95 = some kEv:=by kernel_rfl
theorem qyr:Try.prog.cellsOf 95 = kEv.length:=by kernel_rfl
theorem qye:Try.prog.bytesOf 95 = 32:=by kernel_rfl
theorem qzM:qhy Try.prog 7 3 = some [.int .i64]:=by kernel_rfl
theorem qyi:Try.prog.cellsOf 3 = ([.int .i64]:List CK).length:=by kernel_rfl
theorem qxY:Try.prog.bytesOf 3 = 8:=by kernel_rfl
theorem qya:Try.prog.cellsOf 72 = 4:=by kernel_rfl
theorem qy6:Try.prog.cellsOf 3 = 1:=by kernel_rfl
theorem qyD:Try.prog.cellsOf 70 = 1:=by kernel_rfl
theorem qy0:Try.prog.cellsOf 57 = 1:=by kernel_rfl
theorem qrx:Try.prog.readableRec 72 = true/\72 < Try.prog.types.size:=⟨by kernel_rfl,jba (by kernel_rfl)⟩
def qmU (W:World) (pat:List CK) (r:Option Addr) (rows:List (List Value)):Prop:=rows = []∨∃ b o c ty fr,r = some ⟨b,o,none⟩/\W.heap[b]? = some (.cells c ty fr)/\qaA c o pat rows
theorem qda {W:World} {pat:List CK} {r:Option Addr} {rows:List (List Value)} (h:qmU W pat r rows):({ d:=rows }:U).good:=by
 refine ⟨rfl,?_⟩;rcases h with h | ⟨_,_,_,_,_,_,_,h⟩
 ·simp only; rw [h]; simp
 ·exact qhr h
section
variable {H:Type} {enc:TypeId × Value->H} {W:World} {base b:Nat} {sp:Nat->Bool}
theorem qqG {t e:TypeId} {pat:List CK} {v:Value} {x:DataW H × List MemPlace} {n fuel w:Nat} (hsp:∀ b,sp b = true) (ht:Try.prog.underlying t = some (.slice e)) (hpat:qhy Try.prog n e = some pat) (hce:Try.prog.cellsOf e = pat.length) (hpos:0 < pat.length) (hw:Try.prog.bytesOf e = w)
  (h:DataW.trod enc Try.prog W base sp true fuel t [v] = some x) (hsz:∀ n ∈ x.1.weights Try.prog t,n <= reachBytes) :
  ∃ (r:Option Addr) (rows:List (List Value)) (cap:Nat),v = .slice (qj r 0) rows.length cap/\rows.length * w <= reachBytes/\qmU W pat r rows/\∀ row ∈ rows,∃ fuel x,DataW.trod enc Try.prog W base sp true fuel e row = some x:=by
 obtain ⟨rows,hr,hrow,hd⟩:=qwq (ps:=x.2) (d:=x.1) ht hpat hce hpos hsp h;have hb:rows.length * w <= reachBytes:=by
  rcases hd with ⟨_,h0⟩ | ⟨elems,sp',h3,h4,_⟩
  ·rw [h0]; simp
  ·have:=hsz ((elems.length + sp'.length) * Try.prog.bytesOf e) (by rw [h3]; simp only [DataW.weights,ht]; exact jac ..)
   rw [hw] at this;exact jdm (Nat.mul_le_mul (by omega) (jbj _)) this
 rcases hr with ⟨r,e1,e2⟩ | ⟨b,o,cap,c,ty,fr,e1,_,e3,e4⟩
 ·exact ⟨r,rows,0,by rw [e1,e2,qbm]; rfl,hb,.inl e2,hrow⟩
 ·exact ⟨some ⟨b,o,none⟩,rows,cap,by rw [e1]; rfl,hb,.inr ⟨b,o,c,ty,fr,rfl,e3,e4⟩,hrow⟩
theorem qrg {z:Int} (h:(Lit.int .u64 z).wf = true):0 <= z/\z < 18446744073709551616:=by
 have u1:IntKind.u64.min = 0:=rfl;have u2:IntKind.u64.max = 18446744073709551615:=rfl;simp [Lit.wf,IntKind.wrap,IntKind.bits,IntKind.signed] at h;omega
set_option maxRecDepth 100000 in
theorem qiA {v:Value} {d:DataW H} {p:List MemPlace} {ts:List TypeId} {ds:List (DataW H)} {j:Nat} (hsp:∀ b,sp b = true)
  (hv:Value.okWide Try.prog W .any b 72 v) (h:DataW.Trod enc Try.prog W base sp true 72 v d p) (hsz:(DataW.weightsEach Try.prog ts ds).all (· <= reachBytes) = true) (hts:ts[j]? = some 72) (hds:ds[j]? = some d) :
  ∃ (k0:Int) (r1:Option Addr) (d1:List (List Value)) (c1:Nat) (r2:Option Addr) (d2:List (List Value)) (c2:Nat) (k3:Int),v = .agg (([.int .i64 k0,.slice (qj r1 0) d1.length c1,.slice (qj r2 0) d2.length c2,.int .u64 k3]:List Value)).toArray/\qmU W kEv r1 d1/\(d1.length:Int) <= big/\qmU W [.int .i64] r2 d2/\(d2.length:Int) <= 17592186043904/\0 <= k3/\k3 < 18446744073709551616/\∀ row ∈ d1,0 <= qbO row 3/\qbO row 3 < 18446744073709551616:=by
 simp only [Value.okWide,qhU] at hv;obtain ⟨cs,rfl,hsize,_⟩:=hv;rw [qya] at hsize;obtain ⟨fuel,hf⟩:=h;simp only [Value.cells] at hf;have hrb:reachBytes = 140737488351232:=by decide
 have hw:∀ n ∈ d.weights Try.prog 72,n <= reachBytes:=fun n hn=>by
  rw [jao] at hsz;exact jba (hsz n (DataW.weights_mem_each hts hds n hn))
 have hl:cs.toList.length = 4:=by simpa using hsize
 generalize hcl:cs.toList = l at hf hl;obtain rfl:cs = l.toArray:=by rw [<- hcl]
 obtain ⟨m0,y0,h0,hw0⟩:=qe5 qhU hf qzk;obtain ⟨m1,y1,h1,hw1⟩:=qe5 qhU hf qzr;obtain ⟨m2,y2,h2,hw2⟩:=qe5 qhU hf qyW;obtain ⟨m3,y3,h3,hw3⟩:=qe5 qhU hf qyF
 match l,hl with
 | [x0,x1,x2,x3],_ =>
  rw [qy6] at h0;rw [qyD] at h1;rw [qy0] at h2;rw [qsW] at h3;obtain ⟨z0,e0,_,w0⟩:=DataW.trod_int Try.underlying3 h0;obtain ⟨r1,d1,q1,e1,t1,g1,o1⟩:=qqG hsp qy3 qxO qyr (by decide) qye (v:=x1) h1 fun n hn=>hw n (hw1 n hn)
  obtain ⟨r2,d2,q2,e2,t2,g2,o2⟩:=qqG hsp qyk qzM qyi (by decide) qxY (v:=x2) h2 fun n hn=>hw n (hw2 n hn)
  obtain ⟨z3,e3,_,w3⟩:=DataW.trod_int Try.underlying22 h3;rw [hrb] at t1 t2;simp at e0 e3;subst e0 e3 e1 e2;refine ⟨z0,r1,d1,q1,r2,d2,q2,z3,rfl,g1,by unfold big; omega,g2,by omega,(qrg w3).1,(qrg w3).2,fun row hr=>?_⟩;obtain ⟨f,x,hx⟩:=o1 row hr;obtain ⟨m4,y4,g4,_⟩:=qe5 qyj hx qzg;have hl4:row.length = 4:=by
   have:=(qhd 7 qxO row ⟨f,x,hx⟩).1;rw [this]; rfl
  match row,hl4 with
  | [a0,a1,a2,a3],_ =>
   rw [qsW] at g4;obtain ⟨z4,e4,_,w4⟩:=DataW.trod_int Try.underlying22 g4;simp at e4;subst e4;exact qrg w4
end
end Go.Proofs.Ytlmkkphojjodhaa
namespace Go.Eng
open Go
theorem SH.roden_mono {Z:Env} {x:SH} {h h':Hp} (hl:Hp.le h h') (hx:x.roden Z h):x.roden Z h':=by
 cases x with
 | cells r ty cs=>obtain ⟨b,o,c,t,fr,h1,h2,h3⟩:=hx; exact ⟨b,o,c,t,fr,h1,hl _ _ h2,h3⟩
 | arr r ty pat d cap =>
  rcases hx with hx | ⟨b,o,c,t,fr,h1,h2,h3⟩
  ·exact .inl hx
  ·exact .inr ⟨b,o,c,t,fr,h1,hl _ _ h2,h3⟩
 | abs n t=>exact Hp.le_trans hx hl
def qzd (d i:T):CK->Nat->T
 | .int k,c=>.vint k (.icell d i c)
 | .bool,c=>.vbool (.bcell d i c)
 | _,c=>.vcell d i c
def qk2 (d i:T) (a b:Nat):List T:=(List.range (b - a)).map fun k=>qzd d i (qaQ.getD (a + k) .any) (a + k)
end Go.Eng
set_option maxRecDepth 100000
namespace Go.Proofs
open Go Go.Eng
set_option pp.deepTerms true
set_option pp.maxSteps 1000000
set_option maxRecDepth 20000
theorem qsB {h:Hp} {pat:List CK} {v:Value} {d d':List (List Value)} (h1:Rd h pat v d) (h2:Rd h pat v d'):d = d':=by
 rcases h1 with ⟨a,e1,rfl⟩ | ⟨b,o,cap,c,ty,fr,e1,l1,hb1,r1⟩ <;> rcases h2 with ⟨a',e2,rfl⟩ | ⟨b',o',cap',c',ty',fr',e2,l2,hb2,r2⟩
 ·rfl
 ·rw [e1] at e2
  simp only [Value.slice.injEq] at e2;exact (jc2.1 e2.2.1.symm).symm
 ·rw [e1] at e2
  simp only [Value.slice.injEq] at e2;exact jc2.1 e2.2.1
 ·rw [e1] at e2
  simp only [Value.slice.injEq,jaa,Addr.mk.injEq] at e2;obtain ⟨⟨rfl,rfl,_⟩,hl,rfl⟩:=e2;rw [hb1] at hb2;simp only [jaa,Obj.cells.injEq] at hb2;obtain ⟨rfl,rfl,rfl⟩:=hb2;apply List.ext_getElem hl;intro i i1 i2;obtain ⟨f1,g1⟩:=r1 i _ (jae i1);obtain ⟨f2,g2⟩:=r2 i _ (jae i2);apply List.ext_getElem (by rw [f1.1,f2.1]);intro k k1 k2;have a1:=g1 k _ (jae k1);have a2:=g2 k _ (jae k2);rw [a1] at a2;exact jat a2
section
variable {h h':Hp} {vT vS vP:Value} {t t':List Ent} {s s':List Int} {p p':List Prb}
end
theorem qaH {Z:Env} {l:List SH} {H:Hp} (n t:Nat) (hs:qD Z l H) (hm:SH.abs n t ∈ l):Hp.le (Z n).h H:=by
 obtain ⟨hb,lb,db⟩:=qjH hs hm;exact Hp.le_trans db lb
theorem qw1 {Z:Env} {l:List SH} {H:Hp} {r:Nat} {ty:TypeId} {pat:List CK} {d cap:T} {n k:Nat} (hs:qD Z l H) (hm:SH.arr r ty pat d cap ∈ l) (hn:n = (d.den Z).d.length) (hc:k = (cap.den Z).i.toNat):Rd H pat (.slice (qj (Z r).r 0) n k) (d.den Z).d:=by
 obtain ⟨hx,hl,hd⟩:=qel hs hm;exact qvC hd hl hn hc
theorem set_same {t:List Ent} {i:Int} {x:Ent} (h:t[i.toNat]? = some x):qcl t i x = t:=by
 unfold qcl;apply jbo;intro j;rw [ja4];by_cases hj:i.toNat = j
 ·subst hj
  have:=(jal.1 h).1;rw [jag rfl,jag this,h]
 ·rw [jaf hj]
set_option maxRecDepth 100000
theorem qyO {k:IntKind} {z:Int} {l:List Value} {r:qbp}:qc ((.int k z :: l) :: r) 0 0 = z:=rfl
theorem qez {d:qbp} {i:Int} {row:List Value} {c:Nat} (h:d[i.toNat]? = some row):qU d i c = row[c]?.getD .nilFunc:=by
 simp [qU,jai,h]
theorem qfz {d:qbp} {j:Int} (h0:0 <= j) (h1:j < d.length):(qb d)[j.toNat]? = some (qc d j 0,qc d j 1):=qbH h0 (by omega)
theorem qjQ.round {me n k i0 i j:Int} {m:Mach} {dT dS dP:qbp} {np:Int} {dB box dN:qbp} (h:qjQ me n k i0 i j m dT dS dP np dB box dN) (hm:m.tab = qb dT) :
  (j < n->0 <= j/\j < dB.length/\j < dN.length/\(qc dB j 0 <= qc dN j 0/\(qc dB j 0 = qc dN j 0->qc dB j 1 <= qc dN j 1)) /\
   (qc dB j 0 <= qc dN j 0->(qc dB j 0 = qc dN j 0->qc dB j 1 <= qc dN j 1) ->
    (j = me->0 < box.length/\(qc box 0 0 <= 2->(qc dN j 0 = qc dB j 0/\qc dN j 1 = qc dB j 1) /\
     (qc dN j 0 = qc dB j 0->qc dN j 1 = qc dB j 1->qjQ me n k i0 i (IntKind.i64.wrap (j + 1)) m dT dS dP np dB box dN/\max (n - IntKind.i64.wrap (j + 1)) 0 < n - j)) /\
     (2 < qc box 0 0->qjQ me n k i0 i (IntKind.i64.wrap (j + 1)) m dT dS dP np dB box dN/\max (n - IntKind.i64.wrap (j + 1)) 0 < n - j)) /\
    (¬ j = me->qjQ me n k i0 i (IntKind.i64.wrap (j + 1)) m dT dS dP np dB box dN/\max (n - IntKind.i64.wrap (j + 1)) 0 < n - j))) /\
  (n <= j->qyT n k (IntKind.i64.wrap (i + 1)) m dT dS dP np dN/\max (k - IntKind.i64.wrap (i + 1)) 0 < k - i0):=by
 obtain ⟨a1,a2,a3,a4,a5,a6,a7,a8,a9,a10,a11,a12⟩:=h;have hn:=a4.2.1.2.1;have hn':=a4.1.1;rw [hm,qad] at hn;refine ⟨fun hj=>?_,fun hj=>?_⟩
 ·have hw:IntKind.i64.wrap (j + 1) = j + 1:=qri (by omega) (by omega)
  rw [hw];have hnext:qjQ me n k i0 i (j + 1) m dT dS dP np dB box dN/\max (n - (j + 1)) 0 < n - j:=⟨⟨a1,a2,a3,a4,a5,a6,a7,a8,a9,by omega,by omega,a12⟩,by omega⟩;have hB:=qfz (d:=dB) a10 (by omega);have hN:=qfz (d:=dN) a10 (by omega);obtain ⟨s1,s2⟩:=a8 _ _ _ hB hN;rw [qga] at s1;refine ⟨a10,by omega,by omega,⟨by simp only at s1; omega,fun _=>by simp only at s1; omega⟩,fun _ _=>⟨fun hme=>⟨by omega,fun hk=>⟨?_,fun _ _=>hnext⟩,fun _=>hnext⟩,fun _=>hnext⟩⟩;have:=s2 (by omega) hk;simpa using this
 ·have hw:IntKind.i64.wrap (i + 1) = i + 1:=qri (by omega) (by omega)
  rw [hw];exact ⟨⟨by omega,by omega,a3,a4,a6,a7⟩,by omega⟩
theorem qjQ.start {me n k i z:Int} {m m':Mach} {dT dS dP dT' dS' dP' dB dN:qbp} {np np':Int} {l:List Value} (h:qyT n k i m dT dS dP np dB) (hi:i < k) (hG:GM n (i + 1) m' dT' dS' dP' np') (hs:qki me z m.tab m'.tab)
  (hm:m.tab = qb dT) (hm':m'.tab = qb dT') (hN:dN = dT') (hn:0 <= n):qjQ me n k i i 0 m' dT' dS' dP' np' dB [.int .i64 z :: l] dN:=by
 obtain ⟨a1,a2,a3,a4,a5,a6⟩:=h;subst hN;refine ⟨a1,hi,a3,hG,a5,hG.1.1,rfl,?_,rfl,by omega,hn,rfl⟩;rw [qyO,a6,<- hm,<- hm'];exact hs
theorem GM.make {n i:Int} {m:Mach} {dT dS dP:qbp} {np:Int} (hT:(dT.length:Int) = n) (hm:m.tab = qb dT) (hs:m.since = qf dS) (h0:0 <= np) (h1:np <= dP.length) (h2:np <= i) (hW:GW m):GM n i m dT dS dP np:=by
 have hl:=hW.1.2.2.1;rw [hm,hs,qV,qad] at hl;exact ⟨⟨hT,by omega,h0,h1,h2⟩,hW⟩
theorem quZ {m:Mach} {g:Msg} {t:List Ent}:(qB m g t).tab.length = m.tab.length:=by
 rcases qh0 m g t with e | e <;> rw [e]
 exact qct
theorem qt2 {me:Int} {dT dS dT' dP:qbp} {c q p np ch ch' v:Int} {lf:Bool} (h1:qb dT' = (qch (qaE me dT [] c q p 0 [] ch lf) v).tab) (h2:ch' = (qch (qaE me dT [] c q p 0 [] ch lf) v).chal) :
  qaE me dT' dS c q p np dP ch' lf = qch (qaE me dT dS c q p np dP ch lf) v:=by
 have he:qdQ (qaE me dT [] c q p 0 [] ch lf) v = qdQ (qaE me dT dS c q p np dP ch lf) v:=rfl;unfold qch at h1 h2 ⊢;rw [he] at h1 h2;by_cases h0:qdQ (qaE me dT dS c q p np dP ch lf) v = 0
 ·rw [jag h0] at h1 h2 ⊢
  simp only [qaE] at h1 h2 ⊢;rw [h1,h2]
 ·rw [jaf h0] at h1 h2 ⊢
  simp only [qaE] at h1 h2 ⊢;rw [h1,h2]
set_option maxRecDepth 20000
noncomputable def qbi (p:Nat->Prop) (h:Hp):Hp:=fun b=>by classical exact if p b then h b else none
theorem qb0 {p:Nat->Prop} {h:Hp} {b:Nat} {o:Obj}:qbi p h b = some o↔p b/\h b = some o:=by
 unfold qbi; by_cases hp:p b <;> simp [hp]
theorem qlQ {p:Nat->Prop} {h:Hp} {b:Nat} (hn:h b = none):qbi p h b = none:=by unfold qbi; simp [hn]
theorem qg3 (p:Nat->Prop) (h:Hp):Hp.le (qbi p h) h:=fun b o ho=>(qb0.1 ho).2
theorem qsm (p:Nat->Prop) (a b:Hp):qbi p (Hp.union a b) = Hp.union (qbi p a) (qbi p b):=by
 funext x; unfold qbi Hp.union; by_cases hp:p x <;> simp [hp]
noncomputable def qaG (H h:Hp):Hp:=qbi (fun b=>h b = none) H
theorem qt7 (H h:Hp):Hp.disj (qaG H h) h:=fun b=>by
 cases hb:h b with
 | none=>exact .inr rfl
 | some o =>
  left;cases hl:qaG H h b with
  | none=>rfl
  | some o'=>have:=(qb0.1 hl).1; rw [hb] at this; cases this
theorem qrL {H h:Hp} (hl:Hp.le h H):Hp.union (qaG H h) h = H:=by
 funext b
 cases hb:h b with
 | none =>
  have e:qaG H h b = H b:=by unfold qaG qbi; rw [jag hb]
  simp only [Hp.union,e,hb,jev]
 | some o =>
  have e:qaG H h b = none:=by
   unfold qaG qbi;rw [jaf (show ¬ (h b = none) by rw [hb]; simp)]
  simp only [Hp.union,e,hb,jbg,hl b o hb]
theorem qwx {H h x:Hp} (hl:Hp.le x H) (hd:Hp.disj x h):Hp.le x (qaG H h):=fun b o ho=>by
 refine qb0.2 ⟨?_,hl b o ho⟩;rcases hd b with hh | hh
 ·rw [hh] at ho; cases ho
 ·exact hh
theorem qd8 {a b a':Hp} (hd:Hp.disj a b) (hl:Hp.le a' a):Hp.disj a' b:=fun x=>by
 rcases hd x with hh | hh
 ·left
  cases ha:a' x with
  | none=>rfl
  | some o=>rw [hl x o ha] at hh; cases hh
 ·exact .inr hh
theorem qik {Z:Env} {x:SH} {h h':Hp} (hx:x.isAbs = none) (hl:Hp.le h h') (hd:x.den Z h):x.den Z h':=by
 cases x with
 | cells r ty cs=>obtain ⟨b,h1,h2⟩:=hd; exact ⟨b,h1,hl _ _ h2⟩
 | arr r ty pat d cap =>
  rcases hd with h0 | ⟨b,c,h1,h2,h3⟩
  ·exact .inl h0
  ·exact .inr ⟨b,c,h1,hl _ _ h2,h3⟩
 | abs n t=>cases hx
theorem qoW {Z:Env} {x:SH} {h:Hp} (hd:x.den Z h):x.roden Z h:=by
 cases x with
 | cells r ty cs=>obtain ⟨b,h1,h2⟩:=hd; exact ⟨b,0,_,ty,_,h1,h2,fun k v hv=>by simpa using hv⟩
 | arr r ty pat d cap =>
  rcases hd with h0 | ⟨b,c,h1,h2,_,_,h5⟩
  ·exact .inl h0.2.1
  ·exact .inr ⟨b,0,c,ty,_,h1,h2,h5⟩
 | abs n t=>exact hd.1
theorem qge {Z:Env}:∀ {l l':List SH} {h:Hp},qD Z (l ++ l') h->∃ a b,Hp.disj a b/\h = Hp.union a b/\qD Z l a/\qD Z l' b
 | [],l',h,hs=>⟨Hp.emp,h,Hp.emp_disj _,(Hp.emp_union _).symm,trivial,hs⟩
 | x :: l,l',h,⟨h1,h2,hd,hu,hx,hs⟩=>by
  obtain ⟨a,b,hd',rfl,h3,h4⟩:=qge hs;subst hu;obtain ⟨d1,d2⟩:=Hp.disj_union.1 hd;exact ⟨Hp.union h1 a,b,Hp.disj_union'.2 ⟨d2,hd'⟩,(Hp.union_assoc _ _ _).symm,⟨h1,a,d1,rfl,hx,h3⟩,h4⟩
def SH.rg:SH->Nat
 | .cells r _ _=>r
 | .arr r _ _ _ _=>r
 | .abs n _=>n
theorem qm7 {Z:Env} {p:Nat->Prop}:∀ {l:List SH} {h:Hp},(∀ x ∈ l,x.isAbs = none)->(∀ x ∈ l,∀ b,(Z (SH.rg x)).r = some ⟨b,0,none⟩->p b)->qD Z l h->qD Z l (qbi p h)
 | [],_,_,_,_=>trivial
 | x :: l,h,hn,hp,⟨h1,h2,hd,hu,hx,hs⟩=>by
  subst hu;refine ⟨qbi p h1,qbi p h2,fun b=>?_,qsm p h1 h2,?_,qm7 (fun y hy=>hn y (jab _ hy)) (fun y hy=>hp y (jab _ hy)) hs⟩
  ·rcases hd b with hh | hh
   ·exact .inl (qlQ hh)
   ·exact .inr (qlQ hh)
  ·have hpx:=hp x (jac ..)
   have hnx:=hn x (jac ..);cases x with
   | cells r ty cs=>obtain ⟨b,h1,h2⟩:=hx; exact ⟨b,h1,qb0.2 ⟨hpx b h1,h2⟩⟩
   | arr r ty pat d cap =>
    rcases hx with h0 | ⟨b,c,h1,h2,h3⟩
    ·exact .inl h0
    ·exact .inr ⟨b,c,h1,qb0.2 ⟨hpx b h1,h2⟩,h3⟩
   | abs n t=>cases hnx
def mcs:List T:=[.vint .i64 (.var 1),.vslice 2 (.lit 0) (.var 3) (.var 4) 2,.vslice 6 (.lit 0) (.var 3) (.var 7) 1,.vint .u64 (.var 9),.vint .u64 (.var 10),.vint .i64 (.var 11),qfT,.vint .u64 (.var 16),.vbool (.var 17)]
theorem qku {Y:Env} {h:Hp} (hs:qD Y qbI h):(∃ b,(Y 0).r = some ⟨b,0,none⟩/\h b = some (.cells (qa Y mcs).toArray 117 (0,0)))/\SH.den Y qfJ h/\SH.den Y qlY h/\SH.den Y qgf h:=by
 obtain ⟨h1,r1,d1,rfl,x1,h2,r2,d2,rfl,x2,h3,r3,d3,rfl,x3,h4,r4,d4,rfl,x4,_⟩:=hs;have l1:=Hp.le_left h1 (Hp.union h2 (Hp.union h3 (Hp.union h4 r4)));have q1:=Hp.le_right d1;have q2:=Hp.le_trans (Hp.le_right d2) q1;have q3:=Hp.le_trans (Hp.le_right d3) q2;exact ⟨qik rfl l1 x1,qik rfl (Hp.le_trans (Hp.le_left _ _) q1) x2,qik rfl (Hp.le_trans (Hp.le_left _ _) q2) x3,qik rfl (Hp.le_trans (Hp.le_left _ _) q3) x4⟩
theorem qnD {Y:Env} {r:Nat} {ty:TypeId} {pat:List CK} {d cap:T} {h:Hp} (hx:SH.den Y (.arr r ty pat d cap) h) {b:Nat} (hb:(Y r).r = some ⟨b,0,none⟩):∃ c,h b = some (.cells c ty (0,0)):=by
 rcases hx with ⟨e,_⟩ | ⟨b',c,e,hc,_⟩
 ·rw [e] at hb; cases hb
 ·rw [e] at hb
  obtain rfl:b' = b:=by simpa using hb
  exact ⟨c,hc⟩
theorem qhY {Y:Env} {h:Hp} (hs:qD Y qbI h) {b:Nat} (hf:qdK Y b):∃ c ty,h b = some (.cells c ty (0,0)):=by
 obtain ⟨⟨b0,e0,hb0⟩,xT,xS,xP⟩:=qku hs;rcases hf with hf | hf | hf | hf
 ·rw [e0] at hf
  obtain rfl:b0 = b:=by simpa using hf
  exact ⟨_,_,hb0⟩
 ·obtain ⟨c,hc⟩:=qnD xT hf; exact ⟨c,_,hc⟩
 ·obtain ⟨c,hc⟩:=qnD xS hf; exact ⟨c,_,hc⟩
 ·obtain ⟨c,hc⟩:=qnD xP hf; exact ⟨c,_,hc⟩
theorem MX.free {h:Hp} {v:Value} {m:Mach} (hX:MX h v m):h.free:=fun b o ho=>by
 obtain ⟨Y,_,_,_,_,hs,hf⟩:=hX;obtain ⟨c,ty,hc⟩:=qhY hs (hf b (by rw [ho]; simp));rw [hc] at ho;exact ⟨c,ty,(jat ho).symm⟩
theorem MX.make {Y:Env} {h:Hp} (hg:Y.good) (ho:qiC Y) (hs:qD Y qbI h):MX (qbi (qdK Y) h) (.pointer (Y 0).r) (m0 Y):=by
 refine ⟨Y,hg,ho,rfl,rfl,qm7 (fun x hx=>?_) (fun x hx b hb=>?_) hs,fun b hb=>?_⟩
 ·simp only [qbI,jar,ja2,or_false] at hx
  rcases hx with rfl | rfl | rfl | rfl <;> rfl
 ·simp only [qbI,jar,ja2,or_false] at hx
  rcases hx with rfl | rfl | rfl | rfl
  ·exact .inl hb
  ·exact .inr (.inl hb)
  ·exact .inr (.inr (.inl hb))
  ·exact .inr (.inr (.inr hb))
 ·cases ho:qbi (qdK Y) h b with
  | none=>exact absurd ho hb
  | some o=>exact (qb0.1 ho).1
theorem qvA {c:Array Value} {pat:List CK} {d d':List (List Value)} (h1:qaA c 0 pat d) (h2:qaA c 0 pat d') (hl:d.length = d'.length):d = d':=by
 apply jbo;intro i;by_cases hi:i < d.length
 ·have g1:=jae hi
  have g2:=jae (show i < d'.length by omega);rw [g1,g2];obtain ⟨f1,c1⟩:=h1 i _ g1;obtain ⟨f2,c2⟩:=h2 i _ g2
  congr 1
  apply jbo;intro k;by_cases hk:k < d[i].length
  ·have k1:=jae hk
   have k2:=jae (show k < (d'[i]'(by omega)).length by rw [f2.1,<- f1.1]; exact hk);have e1:=c1 k _ k1;have e2:=c2 k _ k2;rw [e1] at e2;rw [k1,k2,jat e2]
  ·rw [jap (by omega),jap (by rw [f2.1,<- f1.1]; omega)]
 ·rw [jap (by omega),jap (by omega)]
theorem qog {c:Array Value} {pat:List CK} {d:List (List Value)} (h:qaA c 0 pat d) (n:Nat):qaA c 0 pat (d.take n):=fun i row hi=>by
 rw [jbe] at hi;split at hi
 ·exact h i row hi
 ·cases hi
theorem qlL {Y τ:Env} {r:Nat} {ty:TypeId} {pat:List CK} {n k:Nat} {cap cap':T} {h1 h2 H:Hp} (x1:SH.den Y (.arr r ty pat (.var n) cap) h1) (x2:SH.den τ (.arr r ty pat (.var n) cap') h2) (l1:Hp.le h1 H) (l2:Hp.le h2 H) (hr:(Y r).r = (τ r).r)
  (e1:k <= (Y n).d.length) (e2:k <= (τ n).d.length):(Y n).d.take k = (τ n).d.take k:=by
 rcases x1 with ⟨a1,a2,_⟩ | ⟨b,c,a1,a2,_,_,a5⟩ <;> rcases x2 with ⟨b1,b2,_⟩ | ⟨b',c',b1,b2,_,_,b5⟩
 ·have a2':(Y n).d = []:=a2
  have b2':(τ n).d = []:=b2;rw [a2',b2']
 ·rw [hr,b1] at a1; cases a1
 ·rw [hr,b1] at a1; cases a1
 ·rw [hr,b1] at a1
  obtain rfl:b' = b:=by simpa using a1
  have h3:=l1 _ _ a2;rw [l2 _ _ b2] at h3;obtain ⟨rfl,_⟩:c' = c/\True:=by simpa using h3
  exact qvA (qog a5 k) (qog b5 k) (by simp only [jbc]; show min k (Y n).d.length = min k (τ n).d.length; omega)
theorem qs3 {h1 h2 H:Hp} {v:Value} {m1 m2:Mach} (X1:MX h1 v m1) (X2:MX h2 v m2) (l1:Hp.le h1 H) (l2:Hp.le h2 H):h1 = h2/\m1 = m2:=by
 obtain ⟨Y,gY,⟨o1,o2,o3,o4⟩,rfl,rfl,s1,f1⟩:=X1;obtain ⟨τ,gτ,⟨p1,p2,p3,p4⟩,rfl,hv,s2,f2⟩:=X2;have hr0:(Y 0).r = (τ 0).r:=by simpa using hv
 obtain ⟨⟨b0,e0,hb0⟩,xT,xS,xP⟩:=qku s1;obtain ⟨⟨b0',e0',hb0'⟩,yT,yS,yP⟩:=qku s2;rw [hr0,e0'] at e0;obtain rfl:b0' = b0:=by simpa using e0
 have hcells:=l1 _ _ hb0;rw [l2 _ _ hb0'] at hcells;simp only [jaa,Obj.cells.injEq,and_true] at hcells;have hcl:=congrArg Array.toList hcells;simp [qa,mcs,qfT,T.den,O1.den,O3.den,O0.den,qbm] at hcl;obtain ⟨c1,⟨c2,c3,c4⟩,⟨c5,c6,c7⟩,c9,c10,c11,⟨c12,c13,c14⟩,c16,c17⟩:=hcl;have n3:(Y 3).i = (τ 3).i:=by omega
 have n13:(Y 13).i = (τ 13).i:=by omega
 have dT:=qlL (k:=(Y 3).i.toNat) xT yT l1 l2 c2.symm (by omega) (by omega);rw [ja0 (by omega),ja0 (by omega)] at dT;have dS:=qlL (k:=(Y 3).i.toNat) xS yS l1 l2 c5.symm (by omega) (by omega);rw [ja0 (by omega),ja0 (by omega)] at dS;have dP:=qlL (k:=(Y 13).i.toNat) xP yP l1 l2 c12.symm (by omega) (by omega);have hfoot:∀ b,qdK Y b↔qdK τ b:=fun b=>by simp only [qdK,hr0,c2,c5,c12]
 constructor
 ·funext b
  cases hb:h1 b with
  | some o =>
   obtain ⟨c,ty,hc⟩:=qhY s2 ((hfoot b).1 (f1 b (by rw [hb]; simp)));have g1:=l1 _ _ hb;rw [l2 _ _ hc] at g1;rw [hc,g1]
  | none =>
   cases hb2:h2 b with
   | none=>rfl
   | some o =>
    obtain ⟨c,ty,hc⟩:=qhY s1 ((hfoot b).2 (f2 b (by rw [hb2]; simp)));rw [hb] at hc; cases hc
 ·have hprb:(qM (Y 15).d).take (Y 13).i.toNat = (qM (τ 15).d).take (τ 13).i.toNat:=by
   simp only [qM,<- jcz];rw [dP,n13]
  simp only [m0,qaE,dT,dS,hprb,c1,c9,c10,c11,c16,c17]
theorem qcG {H:Hp} {v:Value} {m1 m2:Mach} (h1:isM H v m1) (h2:isM H v m2):m1 = m2:=by
 obtain ⟨a,la,xa⟩:=h1;obtain ⟨b,lb,xb⟩:=h2;exact (qs3 xa xb la lb).2
theorem SwH.isM {H:Hp} {d:List (List Value)} {r:Nat->Bool} {ms:Nat->Mach} (h:SwH H d r ms) {a:Nat} (hr:r a = true):Go.Eng.isM H (qU d a 0) (ms a):=by
 obtain ⟨hs,_,hl,hX⟩:=h;exact ⟨hs a,hl a,hX a hr⟩
theorem qyR {H h0 hM:Hp} {v:Value} {m m':Mach} (hX:MX h0 v m) (hl:Hp.le h0 H) (hX':MX hM v m') (hd:Hp.disj (qaG H h0) hM):qck H (Hp.union (qaG H h0) hM) v m':=by
 intro d r ms a ⟨hs,hdj,hle,hm⟩ hr hv;have e:hs a = h0:=(qs3 (hm a hr) (by rw [<- hv]; exact hX) (hle a) hl).1;have hoth:∀ b,b ≠ a->Hp.le (hs b) (qaG H h0):=fun b hb=>qwx (hle b) (by rw [<- e]; exact hdj b a hb)
 refine ⟨fun b=>if b = a then hM else hs b,fun b c hbc=>?_,fun b=>?_,fun b hb=>?_⟩
 ·by_cases h1:b = a
  ·subst h1
   simp only [ja5,jaf (Ne.symm hbc)];exact (qd8 hd (hoth c (Ne.symm hbc))).symm
  ·by_cases h2:c = a
   ·subst h2
    simp only [ja5,jaf hbc];exact qd8 hd (hoth b h1)
   ·simp only [jaf h1,jaf h2]; exact hdj b c hbc
 ·by_cases h1:b = a
  ·simp only [jag h1]; exact Hp.le_right hd
  ·simp only [jaf h1]; exact Hp.le_trans (hoth b h1) (Hp.le_left _ _)
 ·by_cases h1:b = a
  ·subst h1
   simp only [ja5,qhu];rw [<- hv]; exact hX'
  ·simp only [jaf h1,qhu]; exact hm b hb
theorem qhh {P:Program} {c:Ctr} (hok:c.ok P) {env:Env} {w:World} {hF:Fr} {hO h0:Hp} (hg:env.good) (hd:Hp.disj hF hO) (hw:(Hp.union hF hO).sub w/\hF.wi w) (hl:Hp.le h0 hO) (hs:qD env c.heap h0) (hro:∀ x ∈ c.ro,x.roden env hF) (hp:c.pre env) :
  Calls P c.fn (c.args.map (SV.den env)).toArray w fun e w'=>∃ (ai:Nat) (al:Alt) (Z1:Env),c.alts[ai]? = some al/\Z1.good/\(∀ n,n < c.nv->Z1 n = env n)/\e = .returned (al.ret.den Z1)/\al.post (Z1.upto (c.nv + al.k)) /\
   ∃ hN:Hp,Hp.disj hF hN/\Hp.disj (qaG hO h0) hN/\qD Z1 al.heap hN/\(Hp.union hF (Hp.union (qaG hO h0) hN)).sub w'/\hF.wi w':=by
 let hF':Fr:=⟨Hp.union hF (qaG hO h0),hF.os,hF.out⟩
 have dL:Hp.disj hF (qaG hO h0):=(qd8 hd.symm (qg3 _ _)).symm;have d0:Hp.disj hF h0:=(qd8 hd.symm hl).symm;have hd':Hp.disj hF' h0:=Hp.disj_union'.2 ⟨d0,qt7 hO h0⟩;have hsub:(Hp.union hF' h0).sub w:=by
  have:Hp.union hF' h0 = Hp.union hF (Hp.union (qaG hO h0) h0):=Hp.union_assoc _ _ _;rw [this,qrL hl]; exact hw.1
 refine (hok.2 env w hF' h0 hg hd' ⟨hsub,hw.2⟩ hs (fun x hx=>SH.roden_mono (Hp.le_left _ _) (hro x hx)) hp).mono fun e w' hq=>?_
 obtain ⟨ai,al,Z1,q1,q2,q3,q4,q5,hN,e1,e2,e3,e4⟩:=hq;obtain ⟨f1,f2⟩:=Hp.disj_union'.1 e1;exact ⟨ai,al,Z1,q1,q2,q3,q4,q5,hN,f1,f2,e2,by rw [<- Hp.union_assoc]; exact e3,e4⟩
theorem qiF {a b c:Hp} (h1:Hp.le a c) (h2:Hp.le b c):Hp.le (Hp.union a b) c:=fun x o ho=>by
 unfold Hp.union at ho;cases ha:a x with
 | some o'=>rw [ha] at ho; exact h1 x o (by rw [ha]; exact ho)
 | none=>rw [ha,jbg] at ho; exact h2 x o ho
theorem qmb {A B h:Hp} (hl:Hp.le A B):Hp.le (qaG A h) (qaG B h):=fun b o ho=>qb0.2 ⟨(qb0.1 ho).1,hl b o (qb0.1 ho).2⟩
theorem qhP {Y:Env} {a:Hp} (hs:qD Y qbI a):(qbi (qdK Y) a).free:=fun b o ho=>by
 obtain ⟨h1,h2⟩:=qb0.1 ho;obtain ⟨c,ty,hc⟩:=qhY hs h1;rw [hc] at h2;exact ⟨c,ty,(jat h2).symm⟩
theorem qg8 {Z2:Env} {hF:Fr} {w':World} {hO h0 HA hN a b:Hp} {Y:Env} {l:List SH} {k:Nat} (hd:Hp.disj hF hO) (hA:Hp.le HA hO) (hAf:HA.free) (d1:Hp.disj hF hN) (d2:Hp.disj (qaG hO h0) hN) (hu:hN = Hp.union a b) (hab:Hp.disj a b)
  (ha:qD Y qbI a) (hb:qD Z2 l b) (hk:(Z2 k).h = Hp.union (qaG HA h0) (qbi (qdK Y) a)) (hsub:(Hp.union hF (Hp.union (qaG hO h0) hN)).sub w') (hwi:hF.wi w'):qt Z2 hF (l ++ [.abs k 5]) w':=by
 subst hu;obtain ⟨d3,d4⟩:=Hp.disj_union.1 d2;obtain ⟨d5,d6⟩:=Hp.disj_union.1 d1;have dL:Hp.disj hF (qaG hO h0):=(qd8 hd.symm (qg3 _ _)).symm;have dbL:Hp.disj b (Hp.union (qaG hO h0) a):=Hp.disj_union.2 ⟨d4.symm,hab.symm⟩;have hle:Hp.le (Z2 k).h (Hp.union (qaG hO h0) a):=by
  rw [hk];exact qiF (Hp.le_trans (qmb hA) (Hp.le_left _ _)) (Hp.le_trans (qg3 _ _) (Hp.le_right d3))
 have hfree:(Z2 k).h.free:=by
  rw [hk];intro x o ho;unfold Hp.union at ho;cases hx:qaG HA h0 x with
  | some o' =>
   rw [hx] at ho;exact hAf x o (by rw [(qb0.1 hx).2]; exact ho)
  | none=>rw [hx,jbg] at ho; exact qhP ha x o ho
 refine ⟨Hp.union b (Hp.union (qaG hO h0) a),Hp.disj_union.2 ⟨d6,Hp.disj_union.2 ⟨dL,d5⟩⟩,qdT hb ⟨_,Hp.emp,Hp.disj_emp _,(Hp.union_emp _).symm,⟨hle,fun _=>hfree⟩,trivial⟩ dbL,Hp.sub_le hsub ?_,hwi⟩;have dA:Hp.disj hF (Hp.union (qaG hO h0) (Hp.union a b)):=Hp.disj_union.2 ⟨dL,d1⟩;have r0:=Hp.le_right dA;have rL:Hp.le (qaG hO h0) (Hp.union hF (Hp.union (qaG hO h0) (Hp.union a b))):=Hp.le_trans (Hp.le_left _ _) r0;have rN:=Hp.le_trans (Hp.le_right d2) r0;exact qiF (Hp.le_left _ _) (qiF (Hp.le_trans (Hp.le_right hab) rN) (qiF rL (Hp.le_trans (Hp.le_left _ _) rN)))
theorem qf3 {hO h0 HA hN a b:Hp} {Y:Env} {v:Value} {m:Mach} (hA:Hp.le HA hO) (h0A:Hp.le h0 HA) (hX:MX h0 v m) (d2:Hp.disj (qaG hO h0) hN) (hu:hN = Hp.union a b) (hg:Y.good) (ho:qiC Y) (ha:qD Y qbI a) (hv:v = .pointer (Y 0).r) :
  qck HA (Hp.union (qaG HA h0) (qbi (qdK Y) a)) v (m0 Y):=by
 subst hu;have hX':=MX.make hg ho ha;rw [<- hv] at hX';exact qyR hX h0A hX' (qd8 (qd8 (Hp.disj_union.1 d2).1 (qmb hA)).symm (qg3 _ _)).symm
theorem qpJ {P:Program} {c c':Ctr} (h:c.ok P) (X:List SH) (hX:X.all (SH.inS fun n=>Nat.blt n c.nv) = true) (hfn:c'.fn = c.fn) (hnv:c'.nv = c.nv) (ha:c'.args = c.args) (hh:c'.heap = c.heap ++ X) (hr:c'.ro = c.ro) (hpre:∀ Z,c'.pre Z->c.pre Z) (halt:c'.alts = c.alts.map fun al=>{ al with heap:=al.heap ++ X }):c'.ok P:=by
 refine ⟨fun args w=>by rw [hfn]; exact h.1 args w,fun Z w hF hO hg hd hw hs hro hp=>?_⟩;rw [hh] at hs;obtain ⟨h1,h2,hd12,rfl,hs1,hs2⟩:=qge hs;obtain ⟨dF1,dF2⟩:=Hp.disj_union.1 hd
 let hF':Fr:=⟨Hp.union hF h2,hF.os,hF.out⟩
 have hd':Hp.disj hF' h1:=Hp.disj_union'.2 ⟨dF1,hd12.symm⟩;have hsub:(Hp.union hF' h1).sub w:=by
  have:Hp.union hF' h1 = Hp.union hF (Hp.union h2 h1):=Hp.union_assoc _ _ _;rw [this,Hp.union_comm hd12.symm]; exact hw.1
 rw [hfn,ha];refine (h.2 Z w hF' h1 hg hd' ⟨hsub,hw.2⟩ hs1 (fun x hxr=>SH.roden_mono (Hp.le_left _ _) (hro x (hr ▸ hxr))) (hpre Z hp)).mono fun e w' hq=>?_
 obtain ⟨ai,al,Z',q1,q2,q3,q4,q5,hO',e1,e2,e3,e4⟩:=hq;obtain ⟨f1,f2⟩:=Hp.disj_union'.1 e1;have hs2':qD Z' X h2:=qcW (p:=fun n=>Nat.blt n c.nv) (fun m hm=>(q3 m (by simpa using hm)).symm) X hX h2 hs2;refine ⟨ai,{ al with heap:=al.heap ++ X },Z',by rw [halt,jau,q1]; rfl,q2,fun m hm=>q3 m (by rw [<- hnv]; exact hm),q4,by rw [hnv]; exact q5,Hp.union hO' h2,?_,qdT e2 hs2' f2.symm,?_,e4⟩
 ·exact Hp.disj_union.2 ⟨f1,dF2⟩
 ·have:Hp.union hF (Hp.union hO' h2) = Hp.union (Hp.union hF h2) hO':=by rw [Hp.union_comm f2.symm,<- Hp.union_assoc]
  rw [this]; exact e3
def qhk (us:List U):Env:=fun n=>us.getD n {}
theorem qaR {us:List U} (h:∀ u ∈ us,u.good):(qhk us).good:=fun n=>by
 unfold qhk;rw [jai];cases hn:us[n]? with
 | none=>exact ⟨rfl,by simp [Option.getD]⟩
 | some u=>exact h u (jas hn)
end Go.Proofs
