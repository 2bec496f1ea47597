/- Texts E8b, E8c, E8d, E8e, E8f. -/
import Derived.Test.YtelcnkclppkicaaGreatDoorG2
import Derived.Laws.BytesArg
import Derived.Laws.CopyRow
import Derived.Laws.IdiomCopy
set_option linter.unusedSimpArgs false
set_option linter.unusedVariables false
namespace Go.Eng
open Go
variable {P:Program} {ρ:Env} {hF:Fr} {s:S} {a:Act} {w:World} {o:Oper} {r:R1}

theorem qxT {t:TypeId} {n:Nat} (h:qes P t = some n):∃ i,P.info? t = some i/\i.bytes = n:=by
 unfold qes at h; simpa [Option.map_eq_some_iff] using h
theorem qkz {t:TypeId} {n:Nat} (h:qN P t = some n):∃ i,P.info? t = some i/\i.size = n:=by
 unfold qN at h; simpa [Option.map_eq_some_iff] using h

theorem qaI {x y:T} (h:((qr .leq x y).den ρ).b = true):(x.den ρ).i <= (y.den ρ).i:=by
 rw [qE _ _ _ (by simp)] at h; exact of_decide_eq_true h
theorem qfB {x y:T} (h:((qr .eql x y).den ρ).b = true):(x.den ρ).i = (y.den ρ).i:=by
 rw [qE _ _ _ (by simp)] at h; simpa [qH] using h

theorem qs.new {heap:List SH} {w:World} {n:Nat} {ρ':Env} {x:SH} {ob:Obj} {d:Nat} (h:qs ρ hF heap w) (hsc:heap.all (SH.inB n) = true) (hag:∀ m,m < n->ρ m = ρ' m)
  (hx:x.den ρ' (Hp.one w.heap.size ob)):qs ρ' hF (x :: heap) { w with heap:=w.heap.push ob,drawn:=d }:=by
 obtain ⟨hO,hd,hst,hsub,hwi⟩:=h
 have hlt:∀ y o,Hp.union hF hO y = some o->y < w.heap.size:=fun y o hy=>by
  have:=hsub y o hy
  rcases Nat.lt_or_ge y w.heap.size with h | h
  ·exact h
  ·rw [Array.getElem?_eq_none h] at this; cases this
 have hno:∀ h',Hp.le h' (Hp.union hF hO)->Hp.disj h' (Hp.one w.heap.size ob):=fun h' hl y=>by
  by_cases hy:y = w.heap.size
  ·left
   cases hx:h' y with
   | none=>rfl
   | some o=>have:=hlt y o (hl y o hx); omega
  ·right; simp [Hp.one,hy]
 refine ⟨Hp.union (Hp.one w.heap.size ob) hO,?_,⟨_,hO,(hno hO (Hp.le_right hd)).symm,rfl,hx,?_⟩,?_⟩
 ·exact Hp.disj_union.2 ⟨hno hF (Hp.le_left _ _),hd⟩
 ·exact qa1 (n:=n) hag _ hsc _ hst
 ·refine ⟨fun y o hy=>?_,hwi⟩
  by_cases hyb:y = w.heap.size
  ·subst hyb
   have:hF w.heap.size = none:=by
    cases hx:hF w.heap.size with
    | none=>rfl
    | some o'=>have:=hlt w.heap.size o' (Hp.le_left _ _ _ _ hx); omega
   simp only [Hp.union,this,Hp.one,if_true,Option.none_or,Option.some_or,Option.some.injEq] at hy
   subst hy
   simp
  ·have hy':Hp.union hF hO y = some o:=by
    simp only [Hp.union,Hp.one,hyb,if_false,Option.none_or] at hy ⊢
    exact hy
   have h1:=hsub y o hy'
   have h2:=hlt y o hy'
   simp only
   rw [Array.getElem?_push_lt h2]
   rwa [Array.getElem?_eq_getElem h2] at h1

theorem qxG (hg:ρ.good) (t:T):CK.fits (qaw t) (t.den ρ).v = true:=by
 have:=(T.den_good hg t).1
 unfold qaw
 split
 ·simp [T.den,O1.den,CK.fits]
 ·simp [T.den,O1.den,CK.fits]
 ·exact this

theorem qmx (hg:ρ.good) (z:List T):qu (z.map qaw) (qc ρ z):=by
 refine ⟨by simp [qc],fun c k v hk hv=>?_⟩
 simp only [List.getElem?_map,Option.map_eq_some_iff] at hk
 obtain ⟨t,ht,rfl⟩:=hk
 simp only [qc,List.getElem?_map,ht,Option.map_some,Option.some.injEq] at hv
 subst hv
 exact qxG hg t

theorem qkU {t:TypeId} {z:List T} (h:qbM P t = some z) (ρ:Env):qu (z.map qaw) (qc ρ z):=by
 have h1:=qli (n:=0) h
 have:qc ρ z = qc (fun _=>{}) z:=qbh (n:=0) (fun m hm=>by omega) z h1
 rw [this]
 exact qmx (fun n=>by simp [U.good,Value.oneCell']) z

theorem qtE (z:List Value) (hz:0 < z.length) (n j:Nat) (hj:j < n):(madeCells z.toArray n)[j]? = z[j % z.length]?:=by
 have hm:j % z.length < z.length:=Nat.mod_lt _ hz
 simp [madeCells,hj,List.getElem?_eq_getElem hm]

theorem q3P {t:TypeId} {l c:Operand} (hs:Holds ρ hF s a w) (hop:o.op = .makeSlice t l c) (hsc:s.scopedEH = true) (h:qp P s o = some r) (hn:∀ c ∈ r.needs,(c.den ρ).b = true):qi P ρ hF s a w o r:=by
 simp only [qp,hop] at h
 split at h
 ·rename_i va vb hl hc
  have hel:=hs.opd hl
  have hec:=hs.opd hc
  have hil:=qmI hsc hl
  have hic:=qmI hsc hc
  unfold qoo at h
  split at h
  ·rename_i el kl lt kc ct hu
   simp only [SV.den,T.den,O1.den] at hel hec
   split at h
   ·rename_i z n bz hz hsz hbz
    split at h
    ·rename_i hchk
     simp only [Bool.and_eq_true,Nat.blt_eq] at hchk
     have hzl:=Nat.eq_of_beq_eq_true hchk.1.1
     simp only [Option.some.injEq] at h; subst h
     have h0:=qv (hn _ (List.mem_cons_self ..))
     have h1:=qaI (hn _ (List.mem_cons_of_mem _ (List.mem_cons_self ..)))
     have h2:=qaI (hn _ (List.mem_cons_of_mem _ (List.mem_cons_of_mem _ (List.mem_cons_self ..))))
     simp only [T.den,O0.den,O2.den] at h2
     obtain ⟨i,v,hi,hiz,hzc⟩:=qdu (ρ:=ρ) hz
     have his:i.size = n:=by simpa [qN,hi] using hsz
     have hib:i.bytes = bz:=by simpa [qes,hi] using hbz
     have hc63:(ct.den ρ).i <= 9223372036854775807:=by
      have:(ct.den ρ).i <= (bz:Int) * (ct.den ρ).i:=by
       have hb1:(1:Int) <= bz:=by omega
       have:=Int.mul_le_mul_of_nonneg_right hb1 (show 0 <= (ct.den ρ).i by omega)
       omega
      omega
     have hrun:=run_make (P:=P) w t el i v hu hi hiz kl kc (lt.den ρ).i (ct.den ρ).i h0 h1 (by rw [hib]; exact h2) hc63
     rw [hzc,his] at hrun
     have hdl:(qc ρ z).length = n:=by simp [qc,hzl]
     let u:U:={ r:=some ⟨w.heap.size,0,none⟩ }
     have hag:∀ m,m < s.nx->ρ m = (ρ.set s.nx u) m:=fun m hm=>(Env.set_ne ρ u (by omega)).symm
     have hsh:s.heap.all (SH.inB s.nx) = true:=by simp only [S.scopedEH,Bool.and_eq_true] at hsc; exact hsc.2
     have hlt:lt.den (ρ.set s.nx u) = lt.den ρ:=(T.den_congr hag lt hil).symm
     have hct:ct.den (ρ.set s.nx u) = ct.den ρ:=(T.den_congr hag ct hic).symm
     have hzd:qc (ρ.set s.nx u) z = qc ρ z:=(qbh hag z (qli hz)).symm
     refine ⟨[u],_,rfl,by simp [U.good,u,Value.oneCell'],qs.new (ρ':=ρ.set s.nx u) (d:=w.drawn) hs.hp hsh hag (ob:=.cells (madeCells (qc ρ z).toArray ((ct.den ρ).i.toNat * n)) el) ?_,?_,fun h=>by cases h⟩
     ·refine .inr ⟨w.heap.size,madeCells (qc ρ z).toArray ((ct.den ρ).i.toNat * n),by simp [u],by simp [Hp.one],?_,?_,?_⟩
      ·rw [size_madeCells,hct]; simp [hzl]
      ·simp only [T.den,O2.den,List.length_replicate,hlt,hct]; omega
      ·intro i row hrow
       simp only [T.den,O2.den,hlt] at hrow
       rw [List.getElem?_replicate] at hrow
       split at hrow
       ·rename_i hil2
        simp only [Option.some.injEq,qhL,hzd] at hrow
        subst hrow
        refine ⟨qkU hz ρ,fun k v hv=>?_⟩
        have hk:k < n:=by
         rw [<- hdl]
         rcases Nat.lt_or_ge k (qc ρ z).length with h | h
         ·exact h
         ·rw [List.getElem?_eq_none h] at hv; cases hv
        have hmul:(i + 1) * n <= (ct.den ρ).i.toNat * n:=Nat.mul_le_mul_right _ (by omega)
        rw [Nat.add_mul,Nat.one_mul] at hmul
        rw [List.length_map,hzl]
        rw [qtE _ (by omega) _ _ (by omega),hdl]
        rw [show (0 + i * n + k) % n = k from by rw [Nat.zero_add,Nat.mul_comm,Nat.mul_add_mod,Nat.mod_eq_of_lt hk]]
        exact hv
       ·cases hrow
     ·have hv:SV.den (ρ.set s.nx u) (.one (.vslice s.nx (.lit 0) lt ct n)) = .slice (some ⟨w.heap.size,0,none⟩) (lt.den ρ).i.toNat (ct.den ρ).i.toNat:=by
       simp [SV.den,T.den,O0.den,O3.den,qm,hlt,hct,u]
      simp only [Ran,qq,hv]
      simp only [execOp,hop,hel,hec,Sem.run_bind,hrun,Result.andThen_ok,Sem.run_pure]
      rfl
    ·simp at h
   ·simp at h
  ·simp at h
 ·simp at h

theorem qbd (hs:Holds ρ hF s a w) {dflt t:T} {x:Option Operand} (h:qbW s dflt x = some t) :
  match x with
  | none=>t = dflt
  | some y=>∃ k,a.eval y = .int k (t.den ρ).i:=by
 cases x with
 | none=>simp only [qbW,Option.some.injEq] at h; exact h.symm
 | some y =>
  simp only [qbW] at h
  split at h
  ·rename_i k t' hx
   simp only [Option.some.injEq] at h; subst h
   exact ⟨k,by have:=hs.opd hx; simpa [SV.den,T.den,O1.den] using this⟩
  ·simp at h

theorem qnS (x y:T):((qhK x y).den ρ).i = (x.den ρ).i - (y.den ρ).i:=by
 unfold qhK
 split
 ·rename_i u v hu hv; rw [qQ hu,qQ hv]; simp [T.den,O0.den]
 ·rename_i v hu hv
  split
  ·rename_i h0; rw [qQ hv,h0]; simp [T.den,O0.den]
  ·rfl
 ·split
  ·rename_i h; rw [T.same_eq h]; simp [T.den,O0.den]
  ·rfl
theorem qnm (x y u v:T):((qe7 x y u v).den ρ).i = if (x.den ρ).i = (y.den ρ).i then (u.den ρ).i else (v.den ρ).i:=by
 unfold qe7
 split
 ·rename_i p q hp hq
  rw [qQ hp,qQ hq]
  simp only [T.den,O0.den]
  by_cases h:p = q <;> simp [h]
 ·split
  ·rename_i h; rw [T.same_eq h]; simp
  ·rfl

theorem qdZ (w:World) {isS:Bool} {len cap:Nat} {L H M:Option Value} {l h m:Int} (hL:match L with | none=>l = 0 | some v=>∃ k,v = .int k l) (hH:match H with | none=>h = len | some v=>∃ k,v = .int k h)
  (hM:match M with | none=>m = cap | some v=>∃ k,v = .int k m) (hHM:M = none∨H.isSome = true) (h0:0 <= l) (h1:l <= h) (h2:h <= m) (h3:m <= cap) :
  (Instr.sliceBounds isS len cap L H M).run P w = .ok (l.toNat,h.toNat,m.toNat) w:=by
 have e1:(h.toNat:Int) = h:=by omega
 have e2:(m.toNat:Int) = m:=by omega
 cases M with
 | none =>
  have hM:m = cap:=hM
  subst hM
  cases H with
  | none =>
   have hH:h = len:=hH
   subst hH
   cases L with
   | none=>have hL:l = 0:=hL; subst hL; simp [Instr.sliceBounds]
   | some v=>obtain ⟨k,rfl⟩:=hL; simp [Instr.sliceBounds,Instr.sliceBound,asIntOf,h0,h1]
  | some vh =>
   obtain ⟨kh,rfl⟩:=hH
   have hh0:0 <= h:=by omega
   cases L with
   | none=>have hL:l = 0:=hL; subst hL; simp [Instr.sliceBounds,Instr.sliceBound,asIntOf,hh0,h2]
   | some v =>
    obtain ⟨k,rfl⟩:=hL
    have:l <= max h 0:=by omega
    simp [Instr.sliceBounds,Instr.sliceBound,asIntOf,h0,hh0,h2,this]
 | some vm =>
  obtain ⟨km,rfl⟩:=hM
  have hm0:0 <= m:=by omega
  cases H with
  | none=>simp at hHM
  | some vh =>
   obtain ⟨kh,rfl⟩:=hH
   have hh0:0 <= h:=by omega
   have hmx:h <= max m 0:=by omega
   cases L with
   | none=>have hL:l = 0:=hL; subst hL; simp [Instr.sliceBounds,Instr.sliceBound,asIntOf,hm0,h3,hh0,hmx]
   | some v =>
    obtain ⟨k,rfl⟩:=hL
    have:l <= max h 0:=by omega
    simp [Instr.sliceBounds,Instr.sliceBound,asIntOf,h0,hm0,h3,hh0,hmx,this]

theorem q0n {t:TypeId} {x:Operand} {lo hi mx:Option Operand} (hs:Holds ρ hF s a w) (hop:o.op = .slice t x lo hi mx) (h:qp P s o = some r) (hn:∀ c ∈ r.needs,(c.den ρ).b = true):qi P ρ hF s a w o r:=by
 simp only [qp,hop] at h
 split at h
 ·rename_i va hx
  have hev:=hs.opd hx
  unfold qtb at h
  split at h
  ·rename_i el hu
   simp only [SV.den,T.den,O0.den] at hev
   split at h
   ·rename_i n hsz hl hh' hm
    split at h
    ·rename_i hchk
     simp only [Option.some.injEq] at h; subst h
     refine qi.quiet hs ?_
     have bl:=qbd hs hl
     have bh:=qbd hs hh'
     have bm:=qbd hs hm
     have hbounds:(Instr.sliceBounds true 0 0 (lo.map a.eval) (hi.map a.eval) (mx.map a.eval)).run P w = .ok ((0:Int).toNat,(0:Int).toNat,(0:Int).toNat) w:=by
      refine qdZ w (l:=0) (h:=0) (m:=0) ?_ ?_ ?_ ?_ (by omega) (by omega) (by omega) (by omega)
      ·cases lo with
       | none=>simp only [Option.map_none]
       | some v=>exact bl
      ·cases hi with
       | none=>simp only [Option.map_none]; rfl
       | some v=>exact bh
      ·cases mx with
       | none=>simp only [Option.map_none]; rfl
       | some v=>exact bm
      ·cases hi <;> cases mx <;> simp_all
     simp only [SV.den,T.den,O0.den]
     simp only [execOp,hop,Instr.sliceAt,Sem.run_bind,qt hu,Result.andThen_ok,hev,Instr.slice,hbounds,qa8 hsz,Sem.run_pure]
     simp
    ·simp at h
   ·simp at h
  ·rename_i el rg p off len cap hu
   simp only [SV.den,T.den,O3.den] at hev
   split at h
   ·rename_i n l hh m hsz hl hh' hm
    split at h
    ·rename_i hchk
     simp only [Bool.and_eq_true] at hchk
     have hnp:=Nat.eq_of_beq_eq_true hchk.1
     subst hnp
     simp only [Option.some.injEq] at h; subst h
     have n1:=qv (hn _ (List.mem_cons_self ..))
     have n2:=qv (hn _ (List.mem_cons_of_mem _ (List.mem_cons_self ..)))
     have n3:=qv (hn _ (List.mem_cons_of_mem _ (List.mem_cons_of_mem _ (List.mem_cons_self ..))))
     have n4:=qv (hn _ (List.mem_cons_of_mem _ (List.mem_cons_of_mem _ (List.mem_cons_of_mem _ (List.mem_cons_self ..)))))
     have n5:=qaI (hn _ (List.mem_cons_of_mem _ (List.mem_cons_of_mem _ (List.mem_cons_of_mem _ (List.mem_cons_of_mem _ (List.mem_cons_self ..))))))
     have n6:=qaI (hn _ (List.mem_cons_of_mem _ (List.mem_cons_of_mem _ (List.mem_cons_of_mem _ (List.mem_cons_of_mem _ (List.mem_cons_of_mem _ (List.mem_cons_self ..)))))))
     have n7:=qaI (hn _ (List.mem_cons_of_mem _ (List.mem_cons_of_mem _ (List.mem_cons_of_mem _ (List.mem_cons_of_mem _ (List.mem_cons_of_mem _ (List.mem_cons_of_mem _ (List.mem_cons_self ..))))))))
     refine qi.quiet hs ?_
     have bl:=qbd hs hl
     have bh:=qbd hs hh'
     have bm:=qbd hs hm
     -- the three bounds
     have hbounds:(Instr.sliceBounds true (len.den ρ).i.toNat (cap.den ρ).i.toNat (lo.map a.eval) (hi.map a.eval) (mx.map a.eval)).run P w = .ok ((l.den ρ).i.toNat,(hh.den ρ).i.toNat,(m.den ρ).i.toNat) w:=by
      refine qdZ w ?_ ?_ ?_ ?_ n4 n5 n6 (by omega)
      ·cases lo with
       | none=>simp only [Option.map_none]; rw [bl]; simp [T.den,O0.den]
       | some v=>exact bl
      ·cases hi with
       | none=>simp only [Option.map_none]; rw [bh]; omega
       | some v=>exact bh
      ·cases mx with
       | none=>simp only [Option.map_none]; rw [bm]; omega
       | some v=>exact bm
      ·have:=hchk.2
       cases hi <;> cases mx <;> simp_all
     have hoff:((quB l m off).den ρ).i = if (m.den ρ).i = (l.den ρ).i then (off.den ρ).i else (off.den ρ).i + (l.den ρ).i:=by
      unfold quB
      split
      ·rename_i hz
       have:(l.den ρ).i = 0:=by rw [qQ hz]; simp [T.den,O0.den]
       rw [this]; simp
      ·rw [qnm,qaF]
     simp only [SV.den,T.den,O3.den,hoff,qnS]
     simp only [execOp,hop,Instr.sliceAt,Sem.run_bind,qt hu,Result.andThen_ok,hev,Instr.slice,hbounds,qa8 hsz,Sem.run_pure]
     have e1:(hh.den ρ).i.toNat - (l.den ρ).i.toNat = ((hh.den ρ).i - (l.den ρ).i).toNat:=by omega
     have e2:(m.den ρ).i.toNat - (l.den ρ).i.toNat = ((m.den ρ).i - (l.den ρ).i).toNat:=by omega
     rw [e1,e2]
     congr 3
     by_cases hml:(m.den ρ).i = (l.den ρ).i
     ·rw [if_pos (by rw [hml]),if_pos hml]
     ·rw [if_neg (by omega),if_neg hml]
      cases hr:(ρ rg).r with
      | none=>rfl
      | some bo =>
       have:((off.den ρ).i + (l.den ρ).i).toNat * n = (off.den ρ).i.toNat * n + (l.den ρ).i.toNat * n:=by
        rw [<- Nat.add_mul]; congr 1; omega
       obtain ⟨a',ha'⟩:=qcZ (r:=some bo) rfl ((off.den ρ).i.toNat * n)
       rw [this,qeL _ ha',ha',Option.map_some]
    ·simp at h
   ·simp at h
  ·rename_i n el rg p c e hu
   split at h
   ·rename_i l hh m hsz he hl hh' hm
    split at h
    ·rename_i hchk
     simp only [Option.some.injEq] at h; subst h
     have n1:=qv (hn _ (List.mem_cons_self ..))
     have n2:=qaI (hn _ (List.mem_cons_of_mem _ (List.mem_cons_self ..)))
     have n3:=qaI (hn _ (List.mem_cons_of_mem _ (List.mem_cons_of_mem _ (List.mem_cons_self ..))))
     have n4:=qaI (hn _ (List.mem_cons_of_mem _ (List.mem_cons_of_mem _ (List.mem_cons_of_mem _ (List.mem_cons_self ..)))))
     have ht:=qdN hs (fun c' hc'=>hn c' (List.mem_append_right _ hc'))
     have n4:(m.den ρ).i <= (n:Int):=n4
     have bl:=qbd hs hl
     have bh:=qbd hs hh'
     have bm:=qbd hs hm
     have hbounds:(Instr.sliceBounds false n n (lo.map a.eval) (hi.map a.eval) (mx.map a.eval)).run P w = .ok ((l.den ρ).i.toNat,(hh.den ρ).i.toNat,(m.den ρ).i.toNat) w:=by
      refine qdZ w ?_ ?_ ?_ ?_ n1 n2 n3 n4
      ·cases lo with
       | none=>simp only [Option.map_none]; rw [bl]; simp [T.den,O0.den]
       | some v=>exact bl
      ·cases hi with
       | none=>simp only [Option.map_none]; rw [bh]; simp [T.den,O0.den]
       | some v=>exact bh
      ·cases mx with
       | none=>simp only [Option.map_none]; rw [bm]; simp [T.den,O0.den]
       | some v=>exact bm
      ·cases hi <;> cases mx <;> simp_all
     refine qi.quiet hs ?_
     have he0:(e.den ρ).i = 0:=qcN he
     simp only [SV.den,T.den,O1.den,he0] at hev
     obtain ⟨ad,hb⟩:=qcZ ht ((0:Int).toNat * p + c)
     rw [hb] at hev
     have hb':qm (ρ rg).r c = some ad:=by simpa using hb
     have hoff:((qrx l m c).den ρ).i = if (m.den ρ).i = (l.den ρ).i then (c:Int) else (c:Int) + (l.den ρ).i:=by
      unfold qrx
      split
      ·rename_i hz
       have:(l.den ρ).i = 0:=qcN hz
       rw [this]; simp [T.den,O0.den]
      ·rw [qnm]; simp [T.den,O0.den,O2.den]
     simp only [SV.den,T.den,O3.den,hoff,qnS]
     simp only [execOp,hop,Instr.sliceAt,Sem.run_bind,qt hu,Result.andThen_ok,hev,Instr.sureAddr,Sem.run_pure]
     rw [hbounds]
     simp only [Result.andThen_ok,qa8 hsz,Sem.run_pure]
     have e1:(hh.den ρ).i.toNat - (l.den ρ).i.toNat = ((hh.den ρ).i - (l.den ρ).i).toNat:=by omega
     have e2:(m.den ρ).i.toNat - (l.den ρ).i.toNat = ((m.den ρ).i - (l.den ρ).i).toNat:=by omega
     rw [e1,e2]
     congr 3
     by_cases hml:(m.den ρ).i = (l.den ρ).i
     ·rw [if_pos (by rw [hml]),if_pos hml]
      simp [hb']
     ·rw [if_neg (by omega),if_neg hml]
      rw [show ((c:Int) + (l.den ρ).i).toNat * 1 = c + (l.den ρ).i.toNat * 1 by omega,qeL _ hb']
    ·simp at h
   ·simp at h
  ·rename_i u hu
   split at h
   ·rename_i hchk
    simp only [Bool.and_eq_true] at hchk
    obtain ⟨su,hsu⟩:=qcM (ρ:=ρ) hchk.1
    have hmx:mx = none:=by simpa using hchk.2
    subst hmx
    split at h
    ·rename_i l hh hl hh'
     simp only [Option.some.injEq] at h; subst h
     have n1:=qv (hn _ (List.mem_cons_self ..))
     have n2:=qaI (hn _ (List.mem_cons_of_mem _ (List.mem_cons_self ..)))
     have n3:=qaI (hn _ (List.mem_cons_of_mem _ (List.mem_cons_of_mem _ (List.mem_cons_self ..))))
     simp only [SV.den,hsu] at hev
     have bl:=qbd hs hl
     have bh:=qbd hs hh'
     have hsz:((qbR u).den ρ).i = (su.size:Int):=by
      rw [qeA,hsu]; simp [qaK,qf8]
     rw [hsz] at n3
     have hbounds:(Instr.sliceBounds false su.size su.size (lo.map a.eval) (hi.map a.eval) none).run P w = .ok ((l.den ρ).i.toNat,(hh.den ρ).i.toNat,(su.size:Int).toNat) w:=by
      refine qdZ w ?_ ?_ ?_ (.inl rfl) n1 n2 n3 (by omega)
      ·cases lo with
       | none=>simp only [Option.map_none]; rw [bl]; simp [T.den,O0.den]
       | some v=>exact bl
      ·cases hi with
       | none=>simp only [Option.map_none]; rw [bh,hsz]
       | some v=>exact bh
      ·rfl
     refine qi.quiet hs ?_
     simp only [SV.den,T.den,O3.den,hsu]
     have he:su.extract (l.den ρ).i.toNat (hh.den ρ).i.toNat = ⟨(((qaK (.string su)).drop (l.den ρ).i.toNat).take ((hh.den ρ).i.toNat - (l.den ρ).i.toNat)).toArray⟩:=by
      apply ByteArray.ext
      apply Array.ext'
      simp [qaK,qf8,ByteArray.data_extract,List.extract_eq_take_drop]
     simp only [execOp,hop,Instr.sliceAt,Sem.run_bind,qt hu,Result.andThen_ok,hev,Instr.slice,Option.map_none,Option.isSome_none,Bool.false_eq_true,if_false,Sem.run_pure]
     rw [hbounds]
     simp only [Result.andThen_ok,he]
    ·simp at h
   ·simp at h
  ·simp at h
 ·simp at h

end Go.Eng

set_option linter.unusedSimpArgs false
set_option linter.unusedVariables false
namespace Go.Eng
open Go
variable {P:Program} {ρ:Env} {hF:Fr} {s:S} {a:Act} {w:World} {o:Oper} {r:R1}


structure SrcOk (w:World) (pat:List CK) (v:Value) (d:List (List Value)) (m:Nat):Prop where
 fits:∀ row ∈ d,qu pat row
 len:d.length = m
 shape:∃ b c,v = .slice b m c
 read:∀ (a:Addr) (c:Nat),v = .slice (some a) m c->∀ (j:Nat) (x:Value),(qo d)[j]? = some x->w.cell? (a.add j) = some x
 cells:∀ (h':Array Obj) (dr:Nat),h' = w.heap->(Builtin.firstCells pat.length m v).run P { w with heap:=h',drawn:=dr } = .ok (qo d).toArray { w with heap:=h',drawn:=dr }

theorem qg6 {w:World} {b o:Nat} {c:Array Value} {ty:TypeId} {fr:Nat × Nat} {pat:List CK} {d:List (List Value)} {m cap:Nat} (hp:0 < pat.length) (hb:w.heap[b]? = some (.cells c ty fr)) (h:qU c o pat d) (hl:d.length = m) :
  (Builtin.firstCells pat.length m (.slice (some ⟨b,o,none⟩) m cap)).run P w = .ok (qo d).toArray w:=by
 have hfl:(qo d).length = m * pat.length:=by
  rw [<- hl]
  exact qcV (fun row hr=>by
   obtain ⟨i,hi⟩:=List.getElem?_of_mem hr
   exact (h i row hi).1.1)
 exact run_firstCells_some w pat.length m ⟨b,o,none⟩ m cap (qo d) hfl (fun j v hv=>by rw [addr_add,qbg hb]; exact qgD hp h j v hv)

theorem qAe {pat:List CK} {dd:List (List Value)} {b o0:Nat} {c':Array Value} {ty:TypeId} {fr:Nat × Nat} {m cap:Nat} (hp:0 < pat.length) (hb:w.heap[b]? = some (.cells c' ty fr)) (hr:qU c' o0 pat dd) (hl:dd.length = m):SrcOk (P:=P) w pat (.slice (some ⟨b,o0,none⟩) m cap) dd m:=by
 refine ⟨fun row hm=>?_,hl,⟨_,_,rfl⟩,fun a' c'' ha' j v hv=>?_,fun h' dr hh'=>?_⟩
 ·obtain ⟨i,hi⟩:=List.getElem?_of_mem hm
  exact (hr i row hi).1
 ·simp only [Value.slice.injEq,Option.some.injEq] at ha'
  rw [<- ha'.1,addr_add,qbg hb]
  exact qgD hp hr j v hv
 ·subst hh'
  exact qg6 (w:={ w with heap:=w.heap,drawn:=dr }) hp hb hr hl
theorem q7S {x y:T} (h:((qr .neq x y).den ρ).b = true):(x.den ρ).i ≠ (y.den ρ).i:=by
 rw [qE _ _ _ (by simp)] at h
 simpa [qH] using h
theorem q0Z {off l:T} {z:Nat} {ns:List T} (h:qjV off = some (z,l,ns)) (hn:∀ c ∈ ns,(c.den ρ).b = true):(off.den ρ).i = (z:Int) + (l.den ρ).i:=by
 unfold qjV at h
 split at h
 ·split at h
  ·rename_i z0 hz
   simp only [Option.some.injEq,Prod.mk.injEq] at h
   obtain ⟨rfl,rfl,rfl⟩:=h
   simp [T.den,O0.den]; omega
  ·cases h
 ·split at h
  ·rename_i z0 l0 hz
   simp only [Option.some.injEq,Prod.mk.injEq] at h
   obtain ⟨rfl,rfl,rfl⟩:=h
   simp [T.den,O0.den,O2.den]; omega
  ·cases h
 ·split at h
  ·rename_i x y _ z0 l0 hz
   simp only [Option.some.injEq,Prod.mk.injEq] at h
   obtain ⟨rfl,rfl,rfl⟩:=h
   have:=q7S (hn _ (List.mem_singleton.2 rfl))
   simp only [T.den,O0.den,O2.den]
   rw [if_neg this]; omega
  ·cases h
 ·simp only [Option.some.injEq,Prod.mk.injEq] at h
  obtain ⟨rfl,rfl,rfl⟩:=h
  simp
 ·cases h
theorem qlb:∀ (ts:List T),((T.row ts).den ρ).d = [qc ρ ts]
 | []=>rfl
 | t :: ts=>by
  show [(t.den ρ).v :: ((T.row ts).den ρ).d.headD []] = _
  rw [qlb ts]; rfl
theorem q6i (hg:ρ.good) {y:SH} {pat:List CK} {d:T} {r:Nat} {H:Hp} (h:qg8 y = some (pat,d)) (hr:y.reg = some r) (hro:y.roden ρ H) :
  (d.den ρ).d = []∨∃ b o c ty fr,(ρ r).r = some ⟨b,o,none⟩/\H b = some (.cells c ty fr)/\qU c o pat (d.den ρ).d:=by
 cases y with
 | cells r' ty cs =>
  simp only [SH.reg,Option.some.injEq] at hr; subst hr
  simp only [qg8,Option.some.injEq,Prod.mk.injEq] at h
  obtain ⟨rfl,rfl⟩:=h
  obtain ⟨b,o,c,ty',fr,h1,h2,h3⟩:=hro
  refine .inr ⟨b,o,c,ty',fr,h1,h2,fun i row hi=>?_⟩
  rw [qlb] at hi
  match i,hi with
  | 0,hi =>
   simp only [List.getElem?_cons_zero,Option.some.injEq] at hi
   subst hi
   exact ⟨qmx hg cs,fun k v hv=>by rw [Nat.zero_mul,Nat.add_zero]; exact h3 k v hv⟩
  | i + 1,hi=>simp at hi
 | arr r' ty pat' d' cap =>
  simp only [SH.reg,Option.some.injEq] at hr; subst hr
  simp only [qg8,Option.some.injEq,Prod.mk.injEq] at h
  obtain ⟨rfl,rfl⟩:=h
  exact hro
 | abs n t=>simp [qg8] at h
theorem qy2 {c:Array Value} {o z n:Nat} {pat:List CK} {d:List (List Value)} {k:CK} (hr:qU c o pat d) (hd:0 < d.length) (hz:z + n <= pat.length) (hk:∀ i,i < n->pat[z + i]? = some k):qU c (o + z) [k] (qbp d z n)/\(qbp d z n).length = n:=by
 match d,hd with
 | row :: rest,_ =>
  obtain ⟨⟨hl,hf⟩,hc⟩:=hr 0 row rfl
  refine ⟨fun i r hi=>?_,?_⟩
  ·simp only [qbp,List.headD_cons,List.getElem?_map,Option.map_eq_some_iff] at hi
   obtain ⟨v,hv,rfl⟩:=hi
   rw [List.getElem?_take] at hv
   split at hv
   ·rename_i hin
    rw [List.getElem?_drop] at hv
    refine ⟨⟨rfl,fun q k' v' h1 h2=>?_⟩,fun q v' h1=>?_⟩
    ·match q,h1,h2 with
     | 0,h1,h2 =>
      simp only [List.getElem?_cons_zero,Option.some.injEq] at h1 h2
      subst h1; subst h2
      exact hf _ _ _ (hk i hin) hv
     | q + 1,h1,h2=>simp at h1
    ·match q,h1 with
     | 0,h1 =>
      simp only [List.getElem?_cons_zero,Option.some.injEq] at h1
      subst h1
      have:=hc (z + i) _ hv
      rw [show o + z + i * [k].length + 0 = o + 0 * pat.length + (z + i) by simp; omega]
      exact this
     | q + 1,h1=>simp at h1
   ·cases hv
  ·simp only [qbp,List.headD_cons,List.length_map,List.length_take,List.length_drop,hl]
   omega
theorem qtm {k:CK}:∀ {l:List CK},qbS k l <= l.length
 | []=>Nat.le_refl _
 | x :: l=>by
  have:=qtm (k:=k) (l:=l)
  simp only [qbS]; split <;> simp <;> omega
theorem qlW {k:CK} {pat:List CK} {z:Nat} {l len d off:T} {ns:List T} (hzp:z <= pat.length) (ho:qjV off = some (z,l,ns)) (hn:∀ c ∈ qgv k pat z l len d ns,(c.den ρ).b = true) :
  0 <= (off.den ρ).i/\0 <= (len.den ρ).i/\0 < (d.den ρ).d.length/\(off.den ρ).i.toNat + (len.den ρ).i.toNat <= pat.length/\∀ i,i < (len.den ρ).i.toNat->pat[(off.den ρ).i.toNat + i]? = some k:=by
 have hns:∀ c ∈ ns,(c.den ρ).b = true:=fun c hc=>hn c (List.mem_append_left _ hc)
 have hrest:∀ c ∈ [qZ l,qZ len,qr .leq (qan l len) (.lit (qbS k (pat.drop z):Nat)),qr .lss (.lit 0) (qR d)],(c.den ρ).b = true:=fun c hc=>hn c (List.mem_append_right _ hc)
 have h1:=qv (hrest _ (List.mem_cons_self ..))
 have h2:=qv (hrest _ (List.mem_cons_of_mem _ (List.mem_cons_self ..)))
 have h3:=qaI (hrest _ (List.mem_cons_of_mem _ (List.mem_cons_of_mem _ (List.mem_cons_self ..))))
 have h4:=qdw (hrest _ (List.mem_cons_of_mem _ (List.mem_cons_of_mem _ (List.mem_cons_of_mem _ (List.mem_cons_self ..)))))
 rw [qaF] at h3
 have h3:(l.den ρ).i + (len.den ρ).i <= (qbS k (pat.drop z):Nat):=h3
 have h4:0 < ((d.den ρ).d.length:Int):=h4
 have hoff:=q0Z ho hns
 have hle:=qtm (k:=k) (l:=pat.drop z)
 rw [List.length_drop] at hle
 have hgt:∀ i,i < (len.den ρ).i.toNat->pat[(off.den ρ).i.toNat + i]? = some k:=fun i hi=>by
  have:=qe8 (k:=k) (l:=pat.drop z) (i:=(l.den ρ).i.toNat + i) (by omega)
  rw [List.getElem?_drop] at this
  rw [<- this]; congr 1; omega
 refine ⟨by omega,h2,by omega,?_,hgt⟩
 omega
theorem qmA {pat:List CK} {y:SH} {off len cap:T} {src:Src} {rr p:Nat} {H:Hp} (hs:Holds ρ hF s a w) (h:qpF pat y off len = some src) (hp:p = pat.length) (hreg:y.reg = some rr) (hro:y.roden ρ H) (hsub:Hp.sub H w)
  (hn:∀ c ∈ src.needs,(c.den ρ).b = true):0 <= (src.len.den ρ).i/\SrcOk (P:=P) w pat (SV.den ρ (.one (.c3 (.vslice rr p) off len cap))) (src.d.den ρ).d (src.len.den ρ).i.toNat:=by
 unfold qpF at h
 split at h
 ·rename_i pat' d z l ns k hrow hoff
  split at h
  rotate_left
  ·cases h
  rename_i hzp
  simp only [Option.some.injEq] at h; subst h
  obtain ⟨n1,n2,n3,n4,n5⟩:=qlW (Nat.le_of_ble_eq_true hzp) hoff hn
  refine ⟨n2,?_⟩
  rcases q6i hs.gd hrow hreg hro with hd | ⟨b,o,c,ty,fr,h1,h2,h3⟩
  ·rw [hd] at n3; simp at n3
  ·obtain ⟨r1,r2⟩:=qy2 h3 n3 n4 n5
   have hval:SV.den ρ (.one (.c3 (.vslice rr p) off len cap)) = .slice (some ⟨b,o + (off.den ρ).i.toNat,none⟩) (len.den ρ).i.toNat (cap.den ρ).i.toNat:=by
    subst hp
    simp [SV.den,T.den,O3.den,h1,qm]
   rw [hval]
   exact qAe (by simp) (hsub _ _ h2) r1 r2
 ·cases h
theorem qcY {pat:List CK} {x:SV} {src:Src} (hp:0 < pat.length) (hs:Holds ρ hF s a w) (h:qg9 s pat x = some src) (hn:∀ c ∈ src.needs,(c.den ρ).b = true) :
  0 <= (src.len.den ρ).i/\SrcOk (P:=P) w pat (x.den ρ) (src.d.den ρ).d (src.len.den ρ).i.toNat:=by
 unfold qg9 at h
 split at h
 ·simp only [Option.some.injEq] at h; subst h
  refine ⟨by simp [T.den,O0.den],⟨by simp [T.den,O0.den],by simp [T.den,O0.den],⟨none,0,by simp [SV.den,T.den,O0.den]⟩,fun a c ha=>by simp [SV.den,T.den,O0.den] at ha,fun h' dr _=>?_⟩⟩
  simp [SV.den,T.den,O0.den,run_firstCells_none,qo]
 ·rename_i rg p off len cap
  split at h
  ·simp at h
  ·rename_i hpp
   simp only [Bool.not_eq_true',Bool.not_eq_false] at hpp
   have hpp:=Nat.eq_of_beq_eq_true hpp
   split at h
   ·rename_i k rr ty cs hf
    obtain ⟨H,hsub,hro,hreg⟩:=hs.found hf
    simp only [SH.reg,Option.some.injEq] at hreg; subst hreg
    split at h
    ·rename_i n hoff hlen
     split at h
     ·rename_i hc
      simp only [Option.map_eq_some_iff] at h
      obtain ⟨d,hd,rfl⟩:=h
      obtain ⟨b,o0,c',ty',fr,g1,g2,g3⟩:=hro
      obtain ⟨e1,e2,e3⟩:=qgC hs.gd hpp hd
      have hl:(len.den ρ).i = n:=by rw [qQ hlen]; simp [T.den,O0.den]
      have ho:(off.den ρ).i = 0:=by rw [qQ hoff]; simp [T.den,O0.den]
      simp only
      rw [hl]
      have hval:SV.den ρ (.one (.c3 (.vslice rr p) off len cap)) = .slice (some ⟨b,o0,none⟩) n.toNat (cap.den ρ).i.toNat:=by
       simp [SV.den,T.den,O3.den,g1,qm,hl,ho]
      rw [hval]
      refine ⟨hc.1,⟨e3,e1,⟨_,_,rfl⟩,fun a' c'' ha' j v hv=>?_,fun h' dr hh'=>?_⟩⟩
      ·simp only [Value.slice.injEq,Option.some.injEq] at ha'
       rw [<- ha'.1,addr_add,qbg (hsub _ _ g2)]
       rw [e2] at hv
       refine g3 j v ?_
       simp only [qc,List.map_take] at hv ⊢
       rw [List.getElem?_take] at hv
       split at hv
       ·exact hv
       ·cases hv
      subst hh'
      refine run_firstCells_some (P:=P) _ pat.length n.toNat ⟨b,o0,none⟩ _ _ (qo (d.den ρ).d) ?_ (fun j v hv=>?_)
      ·rw [e2,<- hpp]; simp [qc]; omega
      ·rw [addr_add,qbg (w:={ w with heap:=w.heap,drawn:=dr }) (hsub _ _ g2)]
       rw [e2] at hv
       refine g3 j v ?_
       simp only [qc,List.map_take] at hv ⊢
       rw [List.getElem?_take] at hv
       split at hv
       ·exact hv
       ·cases hv
     ·simp at h
    ·exact qmA hs h hpp rfl hro hsub hn
   ·rename_i k rr ty pat' d cap' hf
    obtain ⟨H,hsub,hro,hreg⟩:=hs.found hf
    simp only [SH.reg,Option.some.injEq] at hreg; subst hreg
    split at h
    ·exact qmA hs h hpp rfl hro hsub hn
    ·rename_i hpat
     simp only [Bool.not_eq_true',Bool.not_eq_false,decide_eq_true_eq] at hpat
     subst hpat
     -- the general case: rows n to n + m
     have key:∀ (n m:Nat) (dd:List (List Value)),dd = ((d.den ρ).d.drop n).take m->n + m <= (d.den ρ).d.length->(off.den ρ).i.toNat = n->(len.den ρ).i.toNat = m ->
       SrcOk (P:=P) w pat' (SV.den ρ (.one (.c3 (.vslice rr p) off len cap))) dd m:=by
      intro n m dd hdd hle hoff hlen
      subst hdd
      rcases hro with g2 | ⟨b,o0,c',ty',fr,g1,g2,g3⟩
      ·rw [g2] at hle
       have hm0:m = 0:=by simp at hle; omega
       subst hm0
       refine ⟨by simp [g2],by simp,⟨qm (ρ rr).r ((off.den ρ).i.toNat * p),_,by simp [SV.den,T.den,O3.den,hlen]; rfl⟩,fun a' c'' _ j v hv=>by simp [qo] at hv,fun h' dr _=>?_⟩
       simp only [SV.den,T.den,O3.den,hlen,List.take_zero,qo]
       cases hadr:qm (ρ rr).r ((off.den ρ).i.toNat * p) with
       | none=>simp [run_firstCells_none,qo]
       | some a=>exact run_firstCells_some _ pat'.length 0 a _ _ _ (by simp) (by simp)
      ·have hr:=qzT g3 n m
       have hval:SV.den ρ (.one (.c3 (.vslice rr p) off len cap)) = .slice (some ⟨b,o0 + n * pat'.length,none⟩) m (cap.den ρ).i.toNat:=by
        simp [SV.den,T.den,O3.den,g1,qm,hoff,hlen,hpp]
       rw [hval]
       refine ⟨fun row hm=>?_,by simp; omega,⟨_,_,rfl⟩,fun a' c'' ha' j v hv=>?_,fun h' dr hh'=>?_⟩
       ·obtain ⟨i,hi⟩:=List.getElem?_of_mem hm
        exact (hr i row hi).1
       ·simp only [Value.slice.injEq,Option.some.injEq] at ha'
        rw [<- ha'.1,addr_add,qbg (hsub _ _ g2)]
        exact qgD hp hr j v hv
       ·subst hh'
        exact qg6 (w:={ w with heap:=w.heap,drawn:=dr }) hp (hsub _ _ g2) hr (by simp; omega)
     split at h
     ·rename_i hoff
      have ho:(off.den ρ).i.toNat = 0:=by rw [qQ hoff]; simp [T.den,O0.den]
      split at h
      ·rename_i hsame
       simp only [Option.some.injEq] at h; subst h
       have hl:(len.den ρ).i = ((d.den ρ).d.length:Int):=by rw [T.same_eq hsame,qaQ]
       refine ⟨by simp only; omega,?_⟩
       refine key 0 _ _ ?_ ?_ ho rfl
       ·simp only [List.drop_zero]; rw [List.take_of_length_le (by omega)]
       ·simp only; omega
      ·simp only [Option.some.injEq] at h; subst h
       simp only at hn
       have n1:=qv (hn _ (List.mem_cons_self ..))
       have n2:=qaI (hn _ (List.mem_cons_of_mem _ (List.mem_cons_self ..)))
       rw [qaQ] at n2
       refine ⟨n1,key 0 _ _ ?_ (by simp only; omega) ho rfl⟩
       simp [T.den,O2.den]
     ·simp only [Option.some.injEq] at h; subst h
      simp only at hn
      have n1:=qv (hn _ (List.mem_cons_self ..))
      have n2:=qv (hn _ (List.mem_cons_of_mem _ (List.mem_cons_self ..)))
      have n3:=qaI (hn _ (List.mem_cons_of_mem _ (List.mem_cons_of_mem _ (List.mem_cons_self ..))))
      rw [qaF,qaQ] at n3
      refine ⟨n2,key _ _ _ ?_ (by simp only; omega) rfl rfl⟩
      simp [T.den,O2.den]
   ·simp at h
 ·simp at h


theorem qt1 (x y:T):((qiC x y).den ρ).d = (x.den ρ).d ++ (y.den ρ).d:=by
 unfold qiC; split <;> simp [T.den,O0.den,O2.den]

structure DstOk (ρ:Env) (hF:Fr) (heap:List SH) (w:World) (el:TypeId) (pat:List CK) (base:Option Addr) (cap:Nat) (d:List (List Value)) (hT hR:Hp):Prop where
 d1:Hp.disj hF hT
 d2:Hp.disj hF hR
 d3:Hp.disj hT hR
 st:qW ρ heap hR
 sub:(Hp.union hF (Hp.union hT hR)).sub w
 wi:hF.wi w
 how:(base = none/\cap = 0/\d = [])∨∃ b c,base = some ⟨b,0,none⟩/\hT b = some (.cells c el (0,0))/\c.size = cap * pat.length/\d.length <= cap/\qU c 0 pat d

theorem qxS {el:TypeId} {pat:List CK} {x:SV} {d len:T} {k:Option Nat} {n1:List T} (hs:Holds ρ hF s a w) (h:qzX s el pat x = some (d,len,k,n1)) (hn:∀ c ∈ n1,(c.den ρ).b = true) :
  ∃ base cap hT hR,DstOk ρ hF (qwY s.heap k) w el pat base cap (d.den ρ).d hT hR/\x.den ρ = .slice base (d.den ρ).d.length cap/\(len.den ρ).i = ((d.den ρ).d.length:Int):=by
 obtain ⟨hO,hd,hst,hsub,hwi⟩:=hs.hp
 unfold qzX at h
 split at h
 ·simp only [Option.some.injEq,Prod.mk.injEq] at h
  obtain ⟨rfl,rfl,rfl,rfl⟩:=h
  refine ⟨none,0,Hp.emp,hO,⟨fun _=>.inr rfl,hd,fun _=>.inl rfl,hst,?_,hwi,.inl ⟨rfl,rfl,by simp [T.den,O0.den]⟩⟩,by simp [SV.den,T.den,O0.den],by simp [T.den,O0.den]⟩
  have:Hp.union hF (Hp.union Hp.emp hO) = Hp.union hF hO:=by funext y; simp [Hp.union,Hp.emp]
  rw [this]; exact hsub
 ·rename_i rg p off len' cap
  split at h
  ·simp at h
  ·rename_i hpp
   simp only [Bool.not_eq_true',Bool.not_eq_false] at hpp
   have hpp:=Nat.eq_of_beq_eq_true hpp
   split at h
   ·rename_i k' rr ty' pat' d' cap' hoff hat
    split at h
    ·rename_i hc
     simp only [Bool.and_eq_true,decide_eq_true_eq] at hc
     have hty:=Nat.eq_of_beq_eq_true hc.1
     have hpat:=hc.2
     simp only [Option.some.injEq,Prod.mk.injEq] at h
     obtain ⟨rfl,rfl,rfl,rfl⟩:=h
     have e1:=qfB (hn _ (List.mem_cons_self ..))
     have e2:=qfB (hn _ (List.mem_cons_of_mem _ (List.mem_cons_self ..)))
     rw [qaQ] at e1
     obtain ⟨hk,hreg⟩:=qG hat
     simp only [SH.reg,Option.some.injEq] at hreg; subst hreg
     obtain ⟨t1,t2,td,tu,tx,ts⟩:=qY hst hk
     have ho:(off.den ρ).i = 0:=by rw [qQ hoff]; simp [T.den,O0.den]
     have hl:(len'.den ρ).i.toNat = (d'.den ρ).d.length:=by omega
     have dj:Hp.disj hF t1/\Hp.disj hF t2:=Hp.disj_union.1 (tu ▸ hd)
     subst hty hpat
     rcases tx with ⟨g1,g2,g3⟩ | ⟨b,c,g1,g2,g3,g4,g5⟩
     ·refine ⟨none,0,t1,t2,⟨dj.1,dj.2,td,ts,tu ▸ hsub,hwi,.inl ⟨rfl,rfl,g2⟩⟩,?_,e1⟩
      simp [SV.den,T.den,O3.den,g1,qm,hl,e2,g3]
     ·refine ⟨some ⟨b,0,none⟩,(cap'.den ρ).i.toNat,t1,t2,⟨dj.1,dj.2,td,ts,tu ▸ hsub,hwi,.inr ⟨b,c,rfl,g2,g3,by omega,g5⟩⟩,?_,e1⟩
      simp [SV.den,T.den,O3.den,g1,qm,hl,e2,ho]
    ·simp at h
   ·rename_i k' rr ty' hoff hat
    split at h
    ·rename_i hc
     have hty:=Nat.eq_of_beq_eq_true hc
     simp only [Option.some.injEq,Prod.mk.injEq] at h
     obtain ⟨rfl,rfl,rfl,rfl⟩:=h
     have e1:=qfB (hn _ (List.mem_cons_self ..))
     have e2:=qfB (hn _ (List.mem_cons_of_mem _ (List.mem_cons_self ..)))
     obtain ⟨hk,hreg⟩:=qG hat
     simp only [SH.reg,Option.some.injEq] at hreg; subst hreg
     obtain ⟨t1,t2,td,tu,tx,ts⟩:=qY hst hk
     have ho:(off.den ρ).i = 0:=by rw [qQ hoff]; simp [T.den,O0.den]
     have dj:Hp.disj hF t1/\Hp.disj hF t2:=Hp.disj_union.1 (tu ▸ hd)
     subst hty
     simp only [T.den,O0.den] at e1 e2
     obtain ⟨b,g1,g2⟩:=tx
     refine ⟨some ⟨b,0,none⟩,0,t1,t2,⟨dj.1,dj.2,td,ts,tu ▸ hsub,hwi,.inr ⟨b,_,rfl,g2,by simp [qc],by simp [T.den,O0.den],by simp [T.den,O0.den,qU]⟩⟩,?_,by simp [T.den,O0.den]⟩
     simp [SV.den,T.den,O0.den,O3.den,g1,qm,e1,e2,ho]
    ·simp at h
   ·rename_i k' rr ty' tc tcs hoff hat
    split at h
    ·rename_i n hlen
     split at h
     ·rename_i d0 hd0
      split at h
      ·rename_i hc
       simp only [Bool.and_eq_true,decide_eq_true_eq] at hc
       have hty:=Nat.eq_of_beq_eq_true hc.1.1
       have hn0:=hc.1.2
       have hsz:=Nat.eq_of_beq_eq_true hc.2
       simp only [Option.some.injEq,Prod.mk.injEq] at h
       obtain ⟨rfl,rfl,rfl,rfl⟩:=h
       have e2:=qfB (hn _ (List.mem_cons_self ..))
       obtain ⟨hk,hreg⟩:=qG hat
       simp only [SH.reg,Option.some.injEq] at hreg; subst hreg
       obtain ⟨t1,t2,td,tu,tx,ts⟩:=qY hst hk
       have ho:(off.den ρ).i = 0:=by rw [qQ hoff]; simp [T.den,O0.den]
       have hl:(len'.den ρ).i = n:=by rw [qQ hlen]; simp [T.den,O0.den]
       have dj:Hp.disj hF t1/\Hp.disj hF t2:=Hp.disj_union.1 (tu ▸ hd)
       subst hty
       obtain ⟨b,g1,g2⟩:=tx
       obtain ⟨l1,l2,l3⟩:=qgC hs.gd hpp hd0
       refine ⟨some ⟨b,0,none⟩,n.toNat,t1,t2,⟨dj.1,dj.2,td,ts,tu ▸ hsub,hwi,.inr ⟨b,_,rfl,g2,?_,by rw [l1]; exact Nat.le_refl _,qct l3 (fun j v hv=>by rw [l2] at hv; simpa using hv)⟩⟩,?_,by rw [hl,l1]; omega⟩
       ·rw [<- hpp,<- hsz]; simp [qc]
       ·rw [l1]; simp [SV.den,T.den,O3.den,g1,qm,e2,ho,hl]
      ·simp at h
     ·simp at h
    ·simp at h
   ·simp at h
 ·simp at h

theorem q2r {heap:List SH} {t ty el:TypeId} {i:TypeInfo} {z:Value} {pat:List CK} {base:Option Addr} {cap m:Nat} {d dd:List (List Value)} {hT hR:Hp} {y:Value}
  (hD:DstOk ρ hF heap w el pat base cap d hT hR) (hS:SrcOk (P:=P) w pat y dd m) (ht:P.underlying t = some (.slice el)) (hi:P.info? el = some i) (hz:i.zero = some z) (hzs:z.cells.size = i.size) (hp:pat.length = i.size) (hp0:0 < i.size) (hb0:0 < i.bytes)
  (hb:(d.length + m) * i.bytes <= 140737488355328) :
  ∃ w' u cap' hN,(Builtin.append_ #[t,t] ty #[.slice base d.length cap,y]).run P w = .ok (.slice (qm u 0) (d.length + m) cap') w'/\Hp.disj hF hN/\Hp.disj hN hR/\(Hp.union hF (Hp.union hN hR)).sub w'/\hF.wi w' /\
   ((u = none/\d ++ dd = []/\cap' = 0)∨∃ b c,u = some ⟨b,0,none⟩/\hN b = some (.cells c el (0,0))/\c.size = cap' * pat.length/\d.length + m <= cap'/\qU c 0 pat (d ++ dd)):=by
 obtain ⟨yb,yc,rfl⟩:=hS.shape
 have hlen:∀ w':World,(Builtin.lenOf (.slice yb m yc)).run P w' = .ok m w':=fun _=>rfl
 have hc0:(Builtin.firstCells i.size m (.slice yb m yc)).run P w = .ok (qo dd).toArray w:=by
  have:=hS.cells w.heap w.drawn rfl
  rwa [hp] at this
 have hcD:(Builtin.firstCells i.size m (.slice yb m yc)).run P w.drew = .ok (qo dd).toArray w.drew:=by
  have:=hS.cells w.heap (w.drawn + 1) rfl
  rwa [hp] at this
 have hdl:=hS.len
 have hfl:(qo dd).length = m * i.size:=by rw [<- hdl]; exact qcV (fun row hr=>by rw [(hS.fits row hr).1,hp])
 have hgd:=qtu hS.fits
 by_cases hroom:d.length + m <= cap
 ·rcases hD.how with ⟨rfl,rfl,rfl⟩ | ⟨b,c,rfl,g2,g3,g4,g5⟩
  ·have hm:m = 0:=by simp at hroom; exact hroom
   have hdd:dd = []:=List.length_eq_zero_iff.1 (by omega)
   subst hdd
   subst hm
   refine ⟨w,none,0,hT,?_,hD.d1,hD.d3,hD.sub,hD.wi,.inl ⟨rfl,by simp,rfl⟩⟩
   simp [Builtin.append_,run_underlying ht,sizeOf,typeInfo,hi,hlen,hc0,qm]
  ·have hlt:∀ b o,Hp.union hF (Hp.union hT hR) b = some o->w.heap[b]? = some o:=hD.sub
   have hFb:hF b = none:=(hD.d1 b).resolve_right (by rw [g2]; simp)
   have hRb:hR b = none:=(hD.d3 b).resolve_left (by rw [g2]; simp)
   have hwb:w.heap[b]? = some (.cells c el (0,0)):=hlt b _ (by simp [Hp.union,hFb,g2])
   have hfit0:=qj4 g5
   have hfd:(qo d).length = d.length * i.size:=qcV (fun row hr=>by rw [(hfit0 row hr).1,hp])
   have hsz:d.length * i.size + (qo dd).length <= c.size:=by
    rw [g3,hfl,hp,<- Nat.add_mul]; exact Nat.mul_le_mul_right _ hroom
   obtain ⟨w',c1,hrun,hw1,hw2,⟨hsz1,hget⟩,hos⟩:=qdk (P:=P) (off:=d.length * i.size) (qo dd) 0 c w hwb hgd (by simpa using hsz)
   refine ⟨w',some ⟨b,0,none⟩,cap,Hp.upd hT b (.cells c1 el (0,0)),?_,?_,?_,?_,⟨hos.1.trans hD.wi.1,hos.2.trans hD.wi.2⟩,.inr ⟨b,c1,rfl,by simp [Hp.upd],by rw [hsz1,g3],hroom,?_⟩⟩
   ·simp [Builtin.append_,run_underlying ht,sizeOf,typeInfo,hi,hlen,hroom,hc0,Addr.add_lit,hrun,qm]
   ·intro q
    rcases hD.d1 q with h | h
    ·exact .inl h
    ·right; unfold Hp.upd; split
     ·rename_i he; subst he; rw [g2] at h; cases h
     ·exact h
   ·intro q
    rcases hD.d3 q with h | h
    ·left; unfold Hp.upd; split
     ·rename_i he; subst he; rw [g2] at h; cases h
     ·exact h
    ·exact .inr h
   ·intro q ob hq
    by_cases hqb:q = b
    ·subst hqb
     simp only [Hp.union,hFb,Hp.upd,if_true,Option.none_or,Option.some_or,Option.some.injEq] at hq
     rw [hw1,hq]
    ·rw [hw2 q hqb]
     refine hlt q ob ?_
     simp only [Hp.union,Hp.upd,hqb,if_false] at hq ⊢
     exact hq
   ·refine qct (fun row hr=>?_) (fun j v hv=>?_)
    ·rcases List.mem_append.1 hr with h | h
     ·exact hfit0 row h
     ·exact hS.fits row h
    ·rw [qjj] at hv
     rw [hget]
     by_cases hj:j < (qo d).length
     ·rw [if_neg (by omega)]
      rw [List.getElem?_append_left hj] at hv
      exact qgD (by omega) g5 j v hv
     ·rw [List.getElem?_append_right (by omega)] at hv
      have hj2:j - (qo d).length < (qo dd).length:=by
       rcases Nat.lt_or_ge (j - (qo d).length) (qo dd).length with h' | h'
       ·exact h'
       ·rw [List.getElem?_eq_none h'] at hv; cases hv
      rw [if_pos (by omega)]
      rw [hfd] at hv
      rw [show 0 + j - (d.length * i.size + 0) = j - d.length * i.size from by omega]
      exact hv
 ·have hg:cap < d.length + m:=by omega
  have hfit:=growslice_fits hg hb
  have hge:=grownCap_ge w (d.length + m) cap el
  have hn:¬ (d.length + m <= cap):=hroom
  have h63:d.length + m <= 140737488355328:=Nat.le_trans (by have:=Nat.mul_le_mul_left (d.length + m) hb0; omega) hb
  have h63':¬ (9223372036854775807 < ((d.length:Int) + (m:Int))):=by omega
  have h48':¬ (281474976710656 < Builtin.nextslicecap (d.length + m) cap * i.bytes):=by omega
  have hfits:∀ row ∈ d,qu pat row:=by
   rcases hD.how with ⟨rfl,rfl,rfl⟩ | ⟨b,c,rfl,g2,g3,g4,g5⟩
   ·simp
   ·exact qj4 g5
  have hold:(Builtin.firstCells i.size d.length (.slice base d.length cap)).run P w.drew = .ok (qo d).toArray w.drew:=by
   rcases hD.how with ⟨rfl,rfl,rfl⟩ | ⟨b,c,rfl,g2,g3,g4,g5⟩
   ·simp [run_firstCells_none,qo]
   ·have hFb:hF b = none:=(hD.d1 b).resolve_right (by rw [g2]; simp)
    have hwb:w.drew.heap[b]? = some (.cells c el (0,0)):=hD.sub b _ (by simp [Hp.union,hFb,g2])
    have:=qg6 (P:=P) (w:=w.drew) (cap:=cap) (by omega) hwb g5 rfl
    rwa [hp] at this
  have hfd:(qo d).length = d.length * i.size:=qcV (fun row hr=>by rw [(hfits row hr).1,hp])
  let G:=grownCap w (d.length + m) cap el
  let ob:Array Value:=((qo d ++ qo dd).toArray ++ Builtin.zeroCells z.cells (G - (d.length + m)))
  have hlt:∀ y o,Hp.union hF (Hp.union hT hR) y = some o->y < w.heap.size:=fun y o hy=>by
   have:=hD.sub y o hy
   rcases Nat.lt_or_ge y w.heap.size with h | h
   ·exact h
   ·rw [Array.getElem?_eq_none h] at this; cases this
  have hR0:∀ q,q = w.heap.size->hF q = none/\hR q = none:=fun q hq=>by
   have:Hp.union hF (Hp.union hT hR) q = none:=by
    cases hx:Hp.union hF (Hp.union hT hR) q with
    | none=>rfl
    | some o=>have:=hlt q o hx; omega
   simp only [Hp.union,Option.or_eq_none_iff] at this
   exact ⟨this.1,this.2.2⟩
  refine ⟨w.drew.alloc (.cells ob el),some ⟨w.heap.size,0,none⟩,G,Hp.one w.heap.size (.cells ob el (0,0)),?_,?_,?_,?_,hD.wi,.inr ⟨w.heap.size,ob,rfl,by simp [Hp.one],?_,hge,?_⟩⟩
  ·simp [Builtin.append_,run_underlying ht,sizeOf,typeInfo,zeroValue,hi,hz,hlen,hn,h63',h48',Question.forced,hcD,hold,newRow,grownCap,ob,G,qm]
   congr 2
   apply Array.ext'
   simp [List.append_assoc]
  ·intro q
   by_cases hq:q = w.heap.size
   ·exact .inl (hR0 q hq).1
   ·right; simp [Hp.one,hq]
  ·intro q
   by_cases hq:q = w.heap.size
   ·exact .inr (hR0 q hq).2
   ·left; simp [Hp.one,hq]
  ·intro q o hq
   show (w.heap.push _)[q]? = some o
   by_cases hqb:q = w.heap.size
   ·subst hqb
    simp only [Hp.union,(hR0 _ rfl).1,Hp.one,if_true,Option.none_or,Option.some_or,Option.some.injEq] at hq
    simp [hq]
   ·have hq':Hp.union hF (Hp.union hT hR) q = some o:=by
     simp only [Hp.union,Hp.one,hqb,if_false,Option.none_or] at hq ⊢
     rcases hx:hF q with _ | o1
     ·rw [hx] at hq
      simp only [Option.none_or] at hq ⊢
      have:=(hD.d3 q).resolve_right (by rw [hq]; simp)
      rw [this,hq]; rfl
     ·rw [hx] at hq; simpa using hq
    have h2:=hlt q o hq'
    have h1:=hD.sub q o hq'
    rw [Array.getElem?_push_lt h2]
    rwa [Array.getElem?_eq_getElem h2] at h1
  ·simp only [ob,Array.size_append,List.size_toArray,List.length_append,hfd,hfl,size_zeroCells,hzs,hp,<- Nat.add_mul]
   congr 1
   simp only [G]; omega
  ·refine qct (fun row hr=>?_) (fun j v hv=>?_)
   ·rcases List.mem_append.1 hr with h | h
    ·exact hfits row h
    ·exact hS.fits row h
   ·rw [qjj] at hv
    have hj:j < (qo d ++ qo dd).length:=by
     rcases Nat.lt_or_ge j (qo d ++ qo dd).length with h' | h'
     ·exact h'
     ·rw [List.getElem?_eq_none h'] at hv; cases hv
    simp only [ob,Nat.zero_add]
    rw [Array.getElem?_append_left (by simpa using hj)]
    simpa using hv

theorem qtW (z:Array Value) (hz:0 < z.size) (n j:Nat) (hj:j < n * z.size):(Builtin.zeroCells z n)[j]? = z[j % z.size]?:=by
 have hm:j % z.size < z.size:=Nat.mod_lt _ hz
 unfold Builtin.zeroCells
 rw [Array.getElem?_map,Array.getElem?_range,if_pos hj,Option.map_some,getElem!_pos z _ hm,getElem?_pos z _ hm]

theorem q31 {t t2 ty el:TypeId} {i:TypeInfo} {z:Value} {k kk:IntKind} {m:Int} (w:World) (ht:P.underlying t = some (.slice el)) (h2:P.underlying t2 = some (.int k)) (hi:P.info? el = some i) (hz:i.zero = some z) (hzs:z.cells.size = i.size) (hp0:0 < i.size) (hb0:0 < i.bytes) (hm:0 <= m) (hb:(i.bytes:Int) * m <= 140737488355328) :
  ∃ w' u cap',(Builtin.append_ #[t,t2] ty #[.slice none 0 0,.int kk m]).run P w = .ok (.slice (qm u 0) m.toNat cap') w' /\
   ((m = 0/\u = none/\cap' = 0/\w' = w)∨∃ ob,u = some ⟨w.heap.size,0,none⟩/\w' = w.drew.alloc (.cells ob el)/\ob.size = cap' * i.size/\m.toNat <= cap'/\∀ j,j < m.toNat * i.size->ob[j]? = z.cells[j % i.size]?):=by
 have h63:m <= 140737488355328:=by
  have hb1:(1:Int) <= i.bytes:=by omega
  have:=Int.mul_le_mul_of_nonneg_right hb1 hm
  omega
 have hwr:IntKind.i64.wrap m = m:=by
  simp [IntKind.wrap,IntKind.bits,IntKind.signed]; omega
 have hnl:¬ (m < 0):=by omega
 have hnb:¬ (281474976710656 < m * (i.bytes:Int)):=by rw [Int.mul_comm]; omega
 by_cases h0:m = 0
 ·subst h0
  refine ⟨w,none,0,?_,.inl ⟨rfl,rfl,rfl,rfl⟩⟩
  simp [Builtin.append_,run_underlying ht,run_underlying h2,sizeOf,typeInfo,hi,asInt,asIntOf,hwr,qm]
 ·have hg:0 < m.toNat:=by omega
  have hbn:(0 + m.toNat) * i.bytes <= 140737488355328:=by
   have e:(((0 + m.toNat) * i.bytes:Nat):Int) = (i.bytes:Int) * m:=by
    rw [Int.natCast_mul,Nat.zero_add,Int.toNat_of_nonneg hm,Int.mul_comm]
   omega
  have hfit:=growslice_fits (need:=0 + m.toNat) (old:=0) (by omega) hbn
  have hge:=grownCap_ge w (0 + m.toNat) 0 el
  have hn:¬ (0 + m.toNat <= 0):=by omega
  have h63':¬ (9223372036854775807 < ((m.toNat:Nat):Int)):=by omega
  have h48':¬ (281474976710656 < Builtin.nextslicecap (0 + m.toNat) 0 * i.bytes):=by omega
  have hms:¬ (m.toNat * i.size = 0):=by
   have:=Nat.mul_pos hg hp0
   omega
  have hm1:¬ (m <= 0):=by omega
  have hm2:¬ (9223372036854775807 < max m 0):=by omega
  let G:=grownCap w (0 + m.toNat) 0 el
  let ob:Array Value:=Builtin.zeroCells z.cells m.toNat ++ Builtin.zeroCells z.cells (G - (0 + m.toNat))
  refine ⟨w.drew.alloc (.cells ob el),some ⟨w.heap.size,0,none⟩,G,?_,.inr ⟨ob,rfl,rfl,?_,by simp only [G]; omega,fun j hj=>?_⟩⟩
  ·simp only [Nat.zero_add] at *
   simp [Builtin.append_,run_underlying ht,run_underlying h2,sizeOf,typeInfo,zeroValue,hi,hz,asInt,asIntOf,hwr,hnl,hnb,hn,h63',h48',hms,hg,h0,hm1,hm2,Question.forced,newRow,grownCap,ob,G,qm,run_firstCells_none]
  ·simp only [ob,Array.size_append,size_zeroCells,hzs,<- Nat.add_mul]
   congr 1
   simp only [G]; omega
  ·simp only [ob]
   rw [Array.getElem?_append_left (by rw [size_zeroCells,hzs]; exact hj),qtW _ (by omega) _ _ (by rw [hzs]; exact hj),hzs]

theorem q1f {t t2:TypeId} {k kk:IntKind} {l:T} {x y:Operand} (hs:Holds ρ hF s a w) (hop:o.op = .call { callee:=.builtin .append,args:=#[x,y],argTypes:=#[t,t2] }) (hsc:s.scopedEH = true) (hx:opd s x = some (.one (.c0 .vnils))) (hy:opd s y = some (.one (.c1 (.vint kk) l)))
  (h2:P.underlying t2 = some (.int k)) (h:qiB P s t l = some r) (hn:∀ c ∈ r.needs,(c.den ρ).b = true):qi P ρ hF s a w o r:=by
 have hex:=hs.opd hx
 have hey:=hs.opd hy
 simp only [SV.den,T.den,O0.den,O1.den] at hex hey
 unfold qiB at h
 split at h
 ·rename_i el hu
  split at h
  ·rename_i z n bz hz hsz hbz
   split at h
   ·rename_i hchk
    simp only [Bool.and_eq_true,Nat.blt_eq] at hchk
    have hzl:=Nat.eq_of_beq_eq_true hchk.1.1.1
    simp only [Option.some.injEq] at h; subst h
    have h0:=qv (hn _ (List.mem_cons_self ..))
    have h1:=qaI (hn _ (List.mem_cons_of_mem _ (List.mem_cons_self ..)))
    simp only [T.den,O0.den,O2.den] at h1
    obtain ⟨i,v,hi,hiz,hzc⟩:=qdu (ρ:=ρ) hz
    have his:i.size = n:=by simpa [qN,hi] using hsz
    have hib:i.bytes = bz:=by simpa [qes,hi] using hbz
    have hdl:(qc ρ z).length = n:=by simp [qc,hzl]
    obtain ⟨w',u,cap',hrun,hcase⟩:=q31 (P:=P) (ty:=o.type) (kk:=kk) w hu h2 hi hiz (by rw [hzc,his]; simp [hdl]) (by omega) (by omega) h0 (by rw [hib]; exact h1)
    let u1:U:={ r:=u }
    let u2:U:={ i:=(cap':Int) }
    have hag:∀ m,m < s.nx->ρ m = ((ρ.set s.nx u1).set (s.nx + 1) u2) m:=fun m hm=>by
     rw [Env.set_ne _ _ (by omega),Env.set_ne _ _ (by omega)]
    have hsh:s.heap.all (SH.inB s.nx) = true:=by simp only [S.scopedEH,Bool.and_eq_true] at hsc; exact hsc.2
    have hl:l.den ((ρ.set s.nx u1).set (s.nx + 1) u2) = l.den ρ:=(T.den_congr hag l hchk.2).symm
    have hzd:qc ((ρ.set s.nx u1).set (s.nx + 1) u2) z = qc ρ z:=(qbh hag z (qli hz)).symm
    have e1:((ρ.set s.nx u1).set (s.nx + 1) u2) s.nx = u1:=by rw [Env.set_ne _ _ (by omega),Env.set_same]
    have e2:((ρ.set s.nx u1).set (s.nx + 1) u2) (s.nx + 1) = u2:=Env.set_same ..
    have hran:Ran P a o ((ρ.set s.nx u1).set (s.nx + 1) u2) (some (.one (.vslice s.nx (.lit 0) l (.var (s.nx + 1)) n))) w w':=by
     have hv:SV.den ((ρ.set s.nx u1).set (s.nx + 1) u2) (.one (.vslice s.nx (.lit 0) l (.var (s.nx + 1)) n)) = .slice (qm u 0) (l.den ρ).i.toNat cap':=by
      simp only [SV.den,T.den,O0.den,O3.den,hl,e1,e2,u1,u2]
      simp
     simp only [Ran,hv]
     simp [execOp,hop,resolve,invoke,builtin,hex,hey,hrun]
    rcases hcase with ⟨g0,rfl,rfl,rfl⟩ | ⟨ob,rfl,rfl,g3,g4,g5⟩
    ·obtain ⟨hO,a1,a2,a3,a4⟩:=hs.hp
     refine ⟨[u1,u2],_,rfl,by simp [U.good,u1,u2,Value.oneCell'],⟨hO,a1,⟨Hp.emp,hO,fun _=>.inl rfl,by funext b; simp [Hp.union,Hp.emp],?_,qa1 hag _ hsh _ a2⟩,a3,a4⟩,hran,fun h=>by cases h⟩
     refine .inl ⟨by simp only [qq]; rw [e1],?_,by simp only [qq,T.den]; rw [e2]; rfl⟩
     simp only [qq,T.den,O2.den,hl]
     rw [g0]; rfl
    ·refine ⟨[u1,u2],_,rfl,by simp [U.good,u1,u2,Value.oneCell'],qs.new (ρ':=(ρ.set s.nx u1).set (s.nx + 1) u2) (d:=w.drew.drawn) (w:=w) hs.hp hsh hag (ob:=.cells ob el) ?_,hran,fun h=>by cases h⟩
     refine .inr ⟨w.heap.size,ob,by rw [e1],by simp [Hp.one],?_,?_,?_⟩
     ·simp only [T.den,e2,u2]
      rw [g3]; simp [hzl,his]
     ·simp only [T.den,O2.den,List.length_replicate,hl,e2,u2]; omega
     ·intro j row hrow
      simp only [T.den,O2.den,hl] at hrow
      rw [List.getElem?_replicate] at hrow
      split at hrow
      ·rename_i hil2
       simp only [Option.some.injEq,qhL,hzd] at hrow
       subst hrow
       refine ⟨qkU hz ρ,fun q v' hv=>?_⟩
       have hk:q < n:=by
        rw [<- hdl]
        rcases Nat.lt_or_ge q (qc ρ z).length with h | h
        ·exact h
        ·rw [List.getElem?_eq_none h] at hv; cases hv
       have hmul:(j + 1) * n <= (l.den ρ).i.toNat * n:=Nat.mul_le_mul_right _ (by omega)
       rw [Nat.add_mul,Nat.one_mul] at hmul
       rw [List.length_map,hzl,Nat.zero_add,g5 _ (by rw [his]; omega),his]
       rw [show (j * n + q) % n = q from by rw [Nat.mul_comm,Nat.mul_add_mod,Nat.mod_eq_of_lt hk],hzc]
       simpa using hv
      ·cases hrow
   ·simp at h
  ·simp at h
 ·simp at h

theorem qxI {args:Array Operand} {tys:Array TypeId} (hs:Holds ρ hF s a w) (hop:o.op = .call { callee:=.builtin .append,args,argTypes:=tys }) (hsc:s.scopedEH = true) (h:qp P s o = some r) (hn:∀ c ∈ r.needs,(c.den ρ).b = true):qi P ρ hF s a w o r:=by
 simp only [qp,hop] at h
 split at h
 ·rename_i x y t t2 ha ht
  have hargs:args = #[x,y]:=by apply Array.ext'; simpa using ha
  have htys:tys = #[t,t2]:=by apply Array.ext'; simpa using ht
  split at h
  ·rename_i htt
   have htt:=Nat.eq_of_beq_eq_true htt
   subst htt
   split at h
   ·rename_i va vb hx hy
    have hex:=hs.opd hx
    have hey:=hs.opd hy
    unfold qkK at h
    split at h
    ·rename_i el hu
     split at h
     ·rename_i z n bz hz hsz hbz
      split at h
      ·rename_i hchk
       simp only [Bool.and_eq_true,Nat.blt_eq] at hchk
       have hzl:=Nat.eq_of_beq_eq_true hchk.1.1
       split at h
       ·rename_i d len k n1 src hdst hsrc
        split at h
        ·simp at h
        ·rename_i hin
         simp only [Bool.not_eq_true',Bool.not_eq_false,Bool.and_eq_true] at hin
         simp only [Option.some.injEq] at h; subst h
         obtain ⟨i,v,hi,hiz,hzc⟩:=qdu (ρ:=ρ) hz
         have his:i.size = n:=by simpa [qN,hi] using hsz
         have hib:i.bytes = bz:=by simpa [qes,hi] using hbz
         obtain ⟨base,cap,hT,hR,hD,hxv,hlen⟩:=qxS hs hdst (fun c hc=>hn c (by simp [hc]))
         obtain ⟨hm0,hS⟩:=qcY (P:=P) (by simp [hzl]; omega) hs hsrc (fun c hc=>hn c (by simp [hc]))
         have hnb:=qaI (hn _ (List.mem_append_right _ (List.mem_singleton.2 rfl)))
         simp only [T.den,O0.den,O2.den,qaF,hlen] at hnb
         have hbb:((d.den ρ).d.length + (src.len.den ρ).i.toNat) * i.bytes <= 140737488355328:=by
          rw [hib]
          have e:(((((d.den ρ).d.length + (src.len.den ρ).i.toNat) * bz:Nat)):Int) = (bz:Int) * (((d.den ρ).d.length:Int) + (src.len.den ρ).i):=by
           rw [Int.natCast_mul,Int.natCast_add,Int.toNat_of_nonneg hm0,Int.mul_comm]
          omega
         obtain ⟨w',u,cap',hN,hrun,j1,j2,j3,jw,j4⟩:=q2r (P:=P) (ty:=o.type) hD hS hu hi hiz (by rw [hzc,his]; simp [qc,hzl]) (by simp [hzl,his]) (by omega) (by omega) hbb
         let u1:U:={ r:=u }
         let u2:U:={ i:=(cap':Int) }
         have hag:∀ m,m < s.nx->ρ m = ((ρ.set s.nx u1).set (s.nx + 1) u2) m:=fun m hm=>by
          rw [Env.set_ne _ _ (by omega),Env.set_ne _ _ (by omega)]
         have hsh:(qwY s.heap k).all (SH.inB s.nx) = true:=by
          simp only [S.scopedEH,Bool.and_eq_true] at hsc
          have h0:=List.all_eq_true.1 hsc.2
          cases k with
          | none=>exact hsc.2
          | some k=>exact List.all_eq_true.2 fun x hx=>h0 x (List.mem_of_mem_eraseIdx hx)
         have hd':((qiC d src.d).den ((ρ.set s.nx u1).set (s.nx + 1) u2)).d = (d.den ρ).d ++ (src.d.den ρ).d:=by
          rw [<- T.den_congr hag _ hin.1,qt1]
         have hl':((qan len src.len).den ((ρ.set s.nx u1).set (s.nx + 1) u2)).i.toNat = (d.den ρ).d.length + (src.len.den ρ).i.toNat:=by
          rw [<- T.den_congr hag _ hin.2,qaF,hlen]; omega
         have e1:((ρ.set s.nx u1).set (s.nx + 1) u2) s.nx = u1:=by rw [Env.set_ne _ _ (by omega),Env.set_same]
         have e2:((ρ.set s.nx u1).set (s.nx + 1) u2) (s.nx + 1) = u2:=Env.set_same ..
         have hsl:=hS.len
         refine ⟨[u1,u2],w',rfl,by simp [U.good,u1,u2,Value.oneCell'],⟨Hp.union hN hR,Hp.disj_union.2 ⟨j1,hD.d2⟩,⟨hN,hR,j2,rfl,?_,qa1 hag _ hsh _ hD.st⟩,j3,jw⟩,?_,fun h=>by cases h⟩
         ·rcases j4 with ⟨g1,g2,g3⟩ | ⟨b,c,g1,g2,g3,g4,g5⟩
          ·refine .inl ⟨by simp only [qq]; rw [e1]; exact g1,by simp only [qq]; rw [hd',g2],by simp only [qq,T.den]; rw [e2]; simp [u2,g3]⟩
          ·refine .inr ⟨b,c,by simp only [qq]; rw [e1]; exact g1,g2,by simp only [qq,T.den]; rw [e2]; simp [u2,g3],?_,by simp only [qq]; rw [hd']; exact g5⟩
           simp only [qq,T.den]; rw [e2,hd']; simp only [u2,List.length_append,hsl]; omega
         ·have hv:SV.den ((ρ.set s.nx u1).set (s.nx + 1) u2) (.one (.vslice s.nx (.lit 0) (qan len src.len) (.var (s.nx + 1)) n)) = .slice (qm u 0) ((d.den ρ).d.length + (src.len.den ρ).i.toNat) cap':=by
           simp only [SV.den,T.den,O0.den,O3.den,hl',e1,e2,u1,u2]
           simp
          simp only [Ran,qq,hv]
          simp [execOp,hop,resolve,invoke,builtin,hargs,htys,hex,hey,hxv,hrun]
       ·simp at h
      ·simp at h
     ·simp at h
    ·simp at h
   ·simp at h
  ·split at h
   ·rename_i k kk l h2 hx hy
    subst hargs
    subst htys
    exact q1f hs hop hsc hx hy h2 h hn
   ·simp at h
 ·simp at h

theorem q1S {d:List (List Value)} (h:∀ row ∈ d,qu [.int .u8] row):qo d = (d.map fun r=>qag (r[0]?.getD .nilFunc)).map (Value.int .u8):=by
 induction d with
 | nil=>rfl
 | cons row d ih =>
  have hr:=h row (List.mem_cons_self ..)
  obtain ⟨v,rfl⟩:∃ v,row = [v]:=List.length_eq_one_iff.1 hr.1
  have hf:=hr.2 0 (.int .u8) v rfl rfl
  obtain ⟨z,rfl⟩:∃ z,v = .int .u8 z:=by
   cases v <;> simp [CK.fits] at hf
   subst hf; exact ⟨_,rfl⟩
  have ih:=ih fun r hr=>h r (List.mem_cons_of_mem _ hr)
  simp only [qo,List.flatten_cons,List.map_cons] at ih ⊢
  rw [ih]; rfl
theorem qvW {src dst:TypeId} {x:Operand} (hs:Holds ρ hF s a w) (hop:o.op = .convert src dst x) (h:qp P s o = some r) (hn:∀ c ∈ r.needs,(c.den ρ).b = true):qi P ρ hF s a w o r:=by
 simp only [qp,hop] at h
 split at h
 ·rename_i d k k' t' hsrc hdst hx
  have hev:=hs.opd hx
  simp only [Option.some.injEq] at h; subst h
  refine qi.quiet hs ?_
  simp only [SV.den,T.den,O1.den] at hev ⊢
  simp [execOp,hop,hev,convert,qt hsrc,qt hdst,Conv.intToInt,q2p]
 ·rename_i e v hsrc hdst hx
  split at h
  ·rename_i sr he hsr
   have hev:=hs.opd hx
   simp only [Option.some.injEq] at h; subst h
   refine qi.quiet hs ?_
   obtain ⟨_,hS⟩:=qcY (P:=P) (by decide) hs hsr hn
   obtain ⟨b,c,hv⟩:=hS.shape
   have hcells:=hS.cells w.heap w.drawn rfl
   rw [hv] at hev hcells
   have hfl:=q1S hS.fits
   have hgoal:(convert src dst (a.eval x)).run P w = .ok (.string ⟨(bytesOf (sr.d.den ρ).d).toArray⟩) w:=by
    rw [hev,run_convert_bytes_string w src dst e _ _ _ hsrc he hdst]
    cases b with
    | none =>
     simp [Builtin.firstCells] at hcells
     have h0:(sr.d.den ρ).d = []:=by
      rw [hfl] at hcells
      simpa using hcells
     rw [h0]
     simp [Conv.bytesToString,bytesOf]
     rfl
    | some ad =>
     rw [run_bytesToString w ad _ c ((sr.d.den ρ).d.map fun r=>qag (r[0]?.getD .nilFunc)) ?_,foldl_push_bytes]
     ·simp [bytesOf,ByteArray.empty,ByteArray.emptyWithCapacity,Function.comp_def]
      rfl
     ·have:(loadCells ad (sr.len.den ρ).i.toNat).run P w = .ok (qo (sr.d.den ρ).d).toArray w:=by
       simpa [Builtin.firstCells] using hcells
      rw [this,hfl]
   simp only [SV.den,T.den,O1.den]
   simp only [execOp,hop]
   simp [hgoal]
  ·simp at h
 ·simp at h

theorem qvI (hs:Holds ρ hF s a w) (h:qp P s o = some r) (hn:∀ c ∈ r.needs,(c.den ρ).b = true) (hsc:r.fresh = 0∨s.scopedEH = true):qi P ρ hF s a w o r:=by
 have h0:=h
 cases hop:o.op with
 | move x=>exact qsX hs (.inl hop) (by simpa [qp,hop] using h)
 | assign x=>exact qsX hs (.inr hop) (by simpa [qp,hop] using h)
 | pick c x y=>exact q2S hs hop h
 | box t x =>
  refine q5O hs hop (hsc.resolve_left fun hf=>?_) h
  simp only [qp,hop] at h
  split at h
  ·simp only [Option.some.injEq] at h; subst h; cases hf
  ·simp at h
 | alloc t =>
  refine q15 hs hop (hsc.resolve_left fun hf=>?_) h
  simp only [qp,hop] at h
  split at h
  ·simp only [Option.some.injEq] at h; subst h; cases hf
  ·simp at h
 | build t ps=>exact qzK hs hop h
 | buildSlice t n ps =>
  refine qqW hs hop (hsc.resolve_left fun hf=>?_) h
  simp only [qp,hop] at h
  repeat' (split at h)
  all_goals first | (simp at h; done) | (simp only [Option.some.injEq] at h; subst h; cases hf)
 | load t x=>exact q4u hs hop h hn
 | store t x y=>exact q0I hs hop h hn
 | nilCheck x=>exact qtP hs hop h hn
 | binOp op t x y u=>exact q6D hs hop h hn
 | unOp op t x=>exact q48 hs hop h
 | convert src dst x=>exact qvW hs hop h hn
 | fieldAddr t x f=>exact qsm hs hop h hn
 | field t x f=>exact q1T hs hop h
 | indexAddr t x i=>exact qr5 hs hop h hn
 | makeSlice t l c =>
  refine q3P hs hop (hsc.resolve_left fun hf=>?_) h hn
  simp only [qp,hop] at h
  split at h
  ·unfold qoo at h
   repeat' (split at h)
   all_goals first | (simp at h; done) | (simp only [Option.some.injEq] at h; subst h; cases hf)
  ·simp at h
 | slice t x lo hi mx=>exact q0n hs hop h hn
 | extract x i=>exact qvG hs hop h
 | makeFunc fn f c=>exact qtT hs hop h
 | index t x i=>exact q1N hs hop h hn
 | call c =>
  obtain ⟨callee,args,tys⟩:=c
  cases callee with
  | builtin b =>
   cases b
   case len=>exact q72 hs hop h hn
   case cap=>exact q5w hs hop h hn
   case min=>exact q53 hs hop h
   case max=>exact q55 hs hop h
   case append =>
    refine qxI hs hop (hsc.resolve_left fun hf=>?_) h hn
    simp only [qp,hop] at h
    repeat' (split at h)
    all_goals first | (simp at h; done) | skip
    all_goals first | unfold qkK at h | unfold qiB at h
    all_goals repeat' (split at h)
    all_goals first | (simp at h; done) | (simp only [Option.some.injEq] at h; subst h; cases hf)
   all_goals simp [qp,hop] at h
  | value f=>simp [qp,hop] at h
  | invoke f m=>simp [qp,hop] at h
 | _=>simp [qp,hop] at h

end Go.Eng

set_option linter.unusedSimpArgs false
set_option linter.unusedVariables false
namespace Go.Eng
open Go
variable {P:Program} {ρ:Env} {hF:Fr} {s:S} {a:Act} {w:World} {o:Oper} {r:R1}

theorem q6R (n:Nat) (x:SH):SH.inNx0 n x = SH.inB n x:=by cases x <;> rfl
theorem qei {n:Nat} {l:List SH} (h:l.all (SH.inNx0 n) = true):l.all (SH.inB n) = true:=by
 rw [List.all_eq_true] at *
 intro x hx; rw [<- q6R]; exact h x hx

theorem qs.wrote {heap:List SH} {k:Nat} {x x':SH} {b:Nat} {c0 c1:Array Value} {ty:TypeId} {w w':World} {hO t1 t2:Hp} (hd:Hp.disj hF hO) (hsub:(Hp.union hF hO).sub w) (hwi:hF.wi w)
  (hk:heap[k]? = some x) (td:Hp.disj t1 t2) (tu:hO = Hp.union t1 t2) (ts:qW ρ (heap.eraseIdx k) t2) (g2:t1 b = some (.cells c0 ty (0,0))) (g4:x'.den ρ (Hp.upd t1 b (.cells c1 ty (0,0))))
  (hw1:w'.heap[b]? = some (.cells c1 ty (0,0))) (hw2:∀ b',b' ≠ b->w'.heap[b']? = w.heap[b']?) (hos:w'.os = w.os/\w'.output = w.output):qs ρ hF (heap.set k x') w':=by
 have hdisj:Hp.disj (Hp.upd t1 b (.cells c1 ty (0,0))) t2:=fun y=>by
  rcases td y with h | h
  ·unfold Hp.upd
   split
   ·rename_i he; subst he; rw [g2] at h; cases h
   ·exact .inl h
  ·exact .inr h
 refine ⟨Hp.union (Hp.upd t1 b (.cells c1 ty (0,0))) t2,?_,qd5 hk ts hdisj g4,?_,⟨hos.1.trans hwi.1,hos.2.trans hwi.2⟩⟩
 ·intro y
  rcases hd y with h | h
  ·exact .inl h
  ·right
   rw [tu] at h
   simp only [Hp.union,Option.or_eq_none_iff] at h ⊢
   refine ⟨?_,h.2⟩
   unfold Hp.upd
   split
   ·rename_i he; subst he; rw [g2] at h; cases h.1
   ·exact h.1
 ·intro y ob hy
  by_cases hyb:y = b
  ·subst hyb
   have hFn:hF y = none:=(hd y).resolve_right (by rw [tu]; simp [Hp.union,g2])
   simp only [Hp.union,hFn,Hp.upd,if_true,Option.none_or,Option.some_or,Option.some.injEq] at hy
   rw [hw1,hy]
  ·rw [hw2 y hyb]
   refine hsub y ob ?_
   rw [tu]
   simp only [Hp.union,Hp.upd,hyb,if_false] at hy ⊢
   exact hy

theorem qs.congr {ρ':Env} {heap:List SH} {n:Nat} (h:qs ρ hF heap w) (hsc:heap.all (SH.inB n) = true) (hag:∀ m,m < n->ρ m = ρ' m):qs ρ' hF heap w:=by
 obtain ⟨hO,hd,hst,hsub,hwi⟩:=h
 exact ⟨hO,hd,qa1 hag _ hsc _ hst,hsub,hwi⟩

theorem q2O {args:Array Operand} {tys:Array TypeId} {x y:Operand} {t:TypeId} {xa ya:SV} (hs:Holds ρ hF s a w) (hop:o.op = .call { callee:=.builtin .append,args,argTypes:=tys }) (hargs:args = #[x,y]) (htys:tys = #[t,t])
  (hx:opd s x = some xa) (hy:opd s y = some ya) (h:qoT P s t xa ya = some r) (hn:∀ c ∈ r.needs,(c.den ρ).b = true):qi P ρ hF s a w o r:=by
 unfold qoT at h
 split at h
 ·rename_i el rg p off len cap hu
  split at h
  ·rename_i z n bz hz hsz hbz
   split at h
   ·rename_i hc
    simp only [Bool.and_eq_true,Nat.blt_eq] at hc
    obtain ⟨⟨hzl,hpos⟩,hnp⟩:=hc
    have hzl:=Nat.eq_of_beq_eq_true hzl
    have hnp:=Nat.eq_of_beq_eq_true hnp
    subst hnp
    split at h
    ·rename_i k rr ty pat d capA src hoff hat hsrc
     split at h
     ·rename_i ts hsl hrow
      split at h
      ·rename_i hc2
       simp only [Bool.and_eq_true,decide_eq_true_eq] at hc2
       obtain ⟨htsl,hpat⟩:=hc2
       have htsl:=Nat.eq_of_beq_eq_true htsl
       split at h
       ·rename_i x' ns hwr
        split at h
        ·rename_i hin
         simp only [Bool.and_eq_true,Nat.blt_eq] at hin
         obtain ⟨⟨⟨hin1,hin2⟩,hin3⟩,hin4⟩:=hin
         simp only [Option.some.injEq] at h; subst h
         have hev:=hs.opd hx
         have hey:=hs.opd hy
         simp only [List.cons_append,List.mem_cons,List.mem_append,forall_eq_or_imp] at hn
         obtain ⟨hn1,hn2,hn3⟩:=hn
         have hroom:=qaI hn1
         have hone:=qfB hn2
         rw [qaF] at hroom
         simp only [T.den,O0.den] at hroom hone
         have hplen:0 < (z.map qaw).length:=by simp [hzl,hpos]
         obtain ⟨_,hS⟩:=qcY (P:=P) hplen hs hsrc (fun c hc=>hn3 c (.inr hc))
         obtain ⟨hk,hreg⟩:=qG hat
         obtain ⟨hO,hd,hst,hsub,hwi⟩:=hs.hp
         obtain ⟨t1,t2,td,tu,tx,tss⟩:=qY hst hk
         obtain ⟨b,c0,ty0,g1,g2,g3,g4⟩:=qm0 hs.gd hwr tx hreg (fun c hc=>hn3 c (.inl hc))
         have hle:Hp.le t1 (Hp.union hF hO):=Hp.le_trans (tu ▸ Hp.le_left t1 t2) (Hp.le_right hd)
         have hlen0:0 <= (len.den ρ).i:=by
          simp only [qjZ] at hwr
          split at hwr
          ·simp only [Option.some.injEq,Prod.mk.injEq] at hwr
           obtain ⟨_,rfl⟩:=hwr
           exact qv (hn3 _ (.inl (by simp)))
          ·split at hwr
           ·split at hwr
            ·split at hwr
             ·simp only [Option.some.injEq,Prod.mk.injEq] at hwr
              obtain ⟨_,rfl⟩:=hwr
              exact qv (hn3 _ (.inl (by simp)))
             ·simp at hwr
            ·split at hwr
             ·simp only [Option.some.injEq,Prod.mk.injEq] at hwr
              obtain ⟨_,rfl⟩:=hwr
              exact qv (hn3 _ (.inl (by simp)))
             ·simp at hwr
            ·simp at hwr
           ·simp at hwr
         have hrows:(src.d.den ρ).d = [qc ρ ts]:=by
          have l1:=qen (ρ:=ρ) hsl
          have l2:=qhh (ρ:=ρ) hrow
          match hx:(src.d.den ρ).d,l1 with
          | [q],_=>rw [hx] at l2; simpa using l2
         have hm:(src.len.den ρ).i.toNat = 1:=by omega
         obtain ⟨yb,yc,hyv⟩:=hS.shape
         have hcells:=hS.cells w.heap w.drawn rfl
         rw [hm] at hcells hyv
         have hfl:qo (src.d.den ρ).d = qc ρ ts:=by rw [hrows]; simp [qo]
         rw [hfl] at hcells
         have hpn:(z.map qaw).length = n:=by simp [hzl]
         rw [hpn] at hcells
         obtain ⟨i,hi,hib⟩:=qxT hbz
         obtain ⟨i',hi',his⟩:=qkz hsz
         have:i' = i:=Option.some.inj (hi'.symm.trans hi)
         subst this
         obtain ⟨w',c1,hrun,hw1,hw2,hwrote,hos⟩:=qdk (P:=P) (b:=b) (off:=(len.den ρ).i.toNat * n) (qc ρ ts) 0 c0 w (hsub _ _ (hle _ _ g2)) (qh6 hs.gd ts) (by simpa [qc] using g3)
         have hbase:=qs.wrote hd hsub hwi hk td tu tss g2 (g4 c1 (by simpa using hwrote)) hw1 hw2 hos
         have hag:∀ m,m < s.nx->ρ m = (ρ.set s.nx {}) m:=fun m hm=>(Env.set_ne ρ _ (by omega)).symm
         refine ⟨[{}],w',rfl,by simp [U.good,Value.oneCell'],qs.congr hbase (qei hin1) hag,?_,fun h=>by cases h⟩
         have hoff0:=qcN (ρ:=ρ) hoff
         have hv:SV.den (ρ.set s.nx {}) (.one (.vslice rg (.lit 0) (qan len (.lit 1)) cap n)) = .slice (some ⟨b,0,none⟩) ((len.den ρ).i.toNat + 1) (cap.den ρ).i.toNat:=by
          simp only [SV.den,T.den,O0.den,O3.den,qm]
          rw [<- hag rg hin4,g1,<- T.den_congr hag _ hin2,<- T.den_congr hag _ hin3,qaF]
          simp [T.den,O0.den]; omega
         have hev':a.eval x = .slice (some ⟨b,0,none⟩) (len.den ρ).i.toNat (cap.den ρ).i.toNat:=by
          rw [hev]; simp [SV.den,T.den,O3.den,qm,g1,hoff0]
         have hroom':(len.den ρ).i.toNat + 1 <= (cap.den ρ).i.toNat:=by omega
         simp only [Ran,qq,hv]
         rw [hyv] at hey hcells
         have hlenOf:∀ w':World,(Builtin.lenOf (.slice yb 1 yc)).run P w' = .ok ((1:Nat):Int).toNat w':=fun _=>rfl
         simp [execOp,hop,resolve,invoke,builtin,hargs,htys,hev',hey,Builtin.append_,run_underlying hu,sizeOf,typeInfo,hi,his,Builtin.lenOf,hroom',hcells,Addr.add_lit,hrun]
        ·simp at h
       ·simp at h
      ·simp at h
     ·simp at h
    ·simp at h
   ·simp at h
  ·simp at h
 ·simp at h
theorem q1e {t:TypeId} {cs:List T} (h:qbM P t = some cs) (w:World):∃ v,(zeroValue t).run P w = .ok v w/\v.cells.size = cs.length/\∀ x ∈ v.cells.toList,x.oneCell' = true:=by
 obtain ⟨v,h1,h2⟩:=qmc (ρ:=fun _=>{}) h w
 refine ⟨v,h1,by rw [h2]; simp [qc],fun x hx=>?_⟩
 rw [h2] at hx
 exact qh6 (ρ:=fun _=>{}) (fun n=>by simp [U.good,Value.oneCell']) cs x (by simpa using hx)

theorem qrq {z:Array Value} (hz:∀ x ∈ z.toList,x.oneCell' = true) (n:Nat):∀ x ∈ (Builtin.zeroCells z n).toList,x.oneCell' = true:=by
 intro x hx
 simp only [Builtin.zeroCells,Array.toList_map,List.mem_map] at hx
 obtain ⟨i,hi,rfl⟩:=hx
 by_cases hlt:i % z.size < z.size
 ·rw [getElem!_pos z _ hlt]; exact hz _ (by simp)
 ·rw [getElem!_neg z _ hlt]; rfl

theorem q1i {args:Array Operand} {tys:Array TypeId} {x:Operand} {t:TypeId} {xa:SV} (hs:Holds ρ hF s a w) (hop:o.op = .call { callee:=.builtin .clear,args,argTypes:=tys }) (hargs:args = #[x]) (htys:tys = #[t])
  (hx:opd s x = some xa) (h:qlE P s t xa = some r) (hn:∀ c ∈ r.needs,(c.den ρ).b = true):qi P ρ hF s a w o r:=by
 unfold qlE at h
 split at h
 ·rename_i el rg p off len cap hu
  split at h
  ·rename_i z n hz hsz
   split at h
   ·rename_i hc
    simp only [Bool.and_eq_true,Nat.blt_eq] at hc
    obtain ⟨⟨hzl,hpos⟩,hnp⟩:=hc
    have hzl:=Nat.eq_of_beq_eq_true hzl
    have hnp:=Nat.eq_of_beq_eq_true hnp
    subst hnp
    split at h
    ·rename_i k rr ty pat d capA hat
     split at h
     ·rename_i hc2
      simp only [Bool.and_eq_true] at hc2
      obtain ⟨hpl,hin⟩:=hc2
      have hpl:=Nat.eq_of_beq_eq_true hpl
      simp only [Option.some.injEq] at h; subst h
      have hev:=hs.opd hx
      have hoff:=qv (hn _ (by simp):((qZ off).den ρ).b = true)
      have hlen:=qv (hn _ (by simp):((qZ len).den ρ).b = true)
      have hle:=qaI (hn _ (by simp):((qr .leq (qan off len) (qR d)).den ρ).b = true)
      rw [qaF,qaQ] at hle
      obtain ⟨hk,hreg⟩:=qG hat
      simp only [SH.reg,Option.some.injEq] at hreg; subst hreg
      obtain ⟨hO,hd,hst,hsub,hwi⟩:=hs.hp
      obtain ⟨t1,t2,td,tu,tx,tss⟩:=qY hst hk
      have hag:∀ m,m < s.nx->ρ m = (ρ.set s.nx {}) m:=fun m hm=>(Env.set_ne ρ _ (by omega)).symm
      obtain ⟨zv,hz1,hz2,hz3⟩:=q1e hz w
      have htake0:((T.dtake d (qe7 len (.lit 0) (qR d) off)).den ρ).d = (d.den ρ).d.take ((qe7 len (.lit 0) (qR d) off).den ρ).i.toNat:=rfl
      have hife:((qe7 len (.lit 0) (qR d) off).den ρ).i = if (len.den ρ).i = 0 then ((d.den ρ).d.length:Int) else (off.den ρ).i:=by rw [qnm,qaQ]; rfl
      by_cases hempty:(len.den ρ).i.toNat = 0
      ·-- nothing is written
       have htake:((T.dtake d (qe7 len (.lit 0) (qR d) off)).den ρ).d = (d.den ρ).d:=by
        rw [htake0,hife,if_pos (by omega)]; simp
       have hx':SH.den ρ (.arr rr ty pat (.dtake d (qe7 len (.lit 0) (qR d) off)) capA) t1:=by
        rcases tx with ⟨h1,h2,h3⟩ | ⟨b,c,h1,h2,h3,h4,h5⟩
        ·exact .inl ⟨h1,by rw [htake,h2],h3⟩
        ·exact .inr ⟨b,c,h1,h2,h3,by rw [htake]; exact h4,by rw [htake]; exact h5⟩
       refine ⟨[{}],w,rfl,by simp [U.good,Value.oneCell'],qs.congr ⟨hO,hd,by rw [tu]; exact qd5 hk tss td hx',hsub,hwi⟩ (qei hin) hag,?_,fun h=>by cases h⟩
       have hev':a.eval x = .slice (qm (ρ rr).r ((off.den ρ).i.toNat * n)) 0 (cap.den ρ).i.toNat:=by
        rw [hev]; simp [SV.den,T.den,O3.den,hempty]
       simp only [Ran,qq,SV.den,List.map_nil]
       cases hadr:qm (ρ rr).r ((off.den ρ).i.toNat * n) <;> simp [execOp,hop,resolve,invoke,builtin,hargs,htys,hev',hadr,Builtin.clear_,run_underlying hu]
      ·have htake:((T.dtake d (qe7 len (.lit 0) (qR d) off)).den ρ).d = (d.den ρ).d.take (off.den ρ).i.toNat:=by
        rw [htake0,hife,if_neg (by omega)]
       rcases tx with ⟨h1,h2,h3⟩ | ⟨b,c,h1,h2,h3,h4,h5⟩
       ·rw [h2] at hle; simp at hle; omega
       ·have hw:w.heap[b]? = some (.cells c ty (0,0)):=hsub b _ (Hp.le_right hd _ _ (tu ▸ Hp.le_left t1 t2 _ _ h2))
        have hzc:(Builtin.zeroCells zv.cells (len.den ρ).i.toNat).toList.length = (len.den ρ).i.toNat * n:=by
         rw [Array.length_toList,size_zeroCells,hz2,hzl]
        have hsz2:(off.den ρ).i.toNat * n + (len.den ρ).i.toNat * n <= c.size:=by
         rw [h3,hpl,<- Nat.add_mul]
         exact Nat.mul_le_mul_right _ (by omega)
        obtain ⟨w',c1,hrun,hw1,hw2,⟨hws,hwg⟩,hos⟩:=qdk (P:=P) (b:=b) (off:=(off.den ρ).i.toNat * n) (Builtin.zeroCells zv.cells (len.den ρ).i.toNat).toList 0 c w hw (qrq hz3 _) (by rw [hzc]; simpa using hsz2)
        have hx':SH.den ρ (.arr rr ty pat (.dtake d (qe7 len (.lit 0) (qR d) off)) capA) (Hp.upd t1 b (.cells c1 ty (0,0))):=by
         refine .inr ⟨b,c1,h1,by simp [Hp.upd],by rw [hws]; exact h3,?_,fun i row hi=>?_⟩
         ·rw [htake,List.length_take]; omega
         ·rw [htake,List.getElem?_take] at hi
          split at hi
          ·rename_i hlt
           obtain ⟨g1,g2⟩:=h5 i row hi
           refine ⟨g1,fun kk v hv=>?_⟩
           rw [hwg,if_neg]
           ·exact g2 kk v hv
           ·have hkl:kk < pat.length:=by
             rw [<- g1.1]; exact (List.getElem?_eq_some_iff.1 hv).1
            have:(i + 1) * pat.length <= (off.den ρ).i.toNat * pat.length:=Nat.mul_le_mul_right _ hlt
            rw [Nat.add_mul] at this
            rw [hpl] at this hkl ⊢
            omega
          ·cases hi
        refine ⟨[{}],w',rfl,by simp [U.good,Value.oneCell'],qs.congr (qs.wrote hd hsub hwi hk td tu tss h2 hx' hw1 hw2 hos) (qei hin) hag,?_,fun h=>by cases h⟩
        obtain ⟨m,hm⟩:∃ m,(len.den ρ).i.toNat = m + 1:=⟨(len.den ρ).i.toNat - 1,by omega⟩
        have hev':a.eval x = .slice (some ⟨b,(off.den ρ).i.toNat * n,none⟩) (m + 1) (cap.den ρ).i.toNat:=by
         rw [hev]; simp [SV.den,T.den,O3.den,hm,h1,qm]
        rw [hm] at hrun
        simp only [Ran,qq,SV.den,List.map_nil]
        simp [execOp,hop,resolve,invoke,builtin,hargs,htys,hev',Builtin.clear_,run_underlying hu,hz1,hrun]
     ·simp at h
    ·simp at h
   ·simp at h
  ·simp at h
 ·simp at h

theorem qgu {d:List (List Value)} {pat:List CK} (hp:pat.length = 1) (h:∀ row ∈ d,qu pat row):(qo d).length = d.length/\∀ i:Nat,(qo d)[i]? = (d[i]?).bind (·[0]?):=by
 induction d with
 | nil=>exact ⟨rfl,fun i=>by simp [qo]⟩
 | cons row d ih =>
  have hr:=(h row (List.mem_cons_self ..)).1
  rw [hp] at hr
  obtain ⟨v,rfl⟩:∃ v,row = [v]:=List.length_eq_one_iff.1 hr
  obtain ⟨i1,i2⟩:=ih fun r hr=>h r (List.mem_cons_of_mem _ hr)
  simp only [qo,List.flatten_cons] at i1 i2 ⊢
  refine ⟨by simp [i1],fun i=>?_⟩
  cases i with
  | zero=>rfl
  | succ i=>simpa using i2 i
theorem qgM {d x:List (List Value)} {k:Nat} (h:k + x.length <= d.length):(qaM d k x).length = d.length:=by
 simp [qaM]; omega
theorem qyA {d x:List (List Value)} {k:Nat} (h:k + x.length <= d.length) (i:Nat):(qaM d k x)[i]? = if i < k then d[i]? else if i < k + x.length then x[i - k]? else d[i]?:=by
 unfold qaM
 by_cases h1:i < k
 ·rw [if_pos h1,List.append_assoc,List.getElem?_append_left (by simp; omega),List.getElem?_take_of_lt h1]
 ·rw [if_neg h1]
  by_cases h2:i < k + x.length
  ·rw [if_pos h2,List.append_assoc,List.getElem?_append_right (by simp; omega)]
   simp only [List.length_take]
   rw [Nat.min_eq_left (by omega),List.getElem?_append_left (by omega)]
  ·rw [if_neg h2,List.append_assoc,List.getElem?_append_right (by simp; omega)]
   simp only [List.length_take]
   rw [Nat.min_eq_left (by omega),List.getElem?_append_right (by omega),List.getElem?_drop]
   congr 1; omega
theorem qub {c0 c1:Array Value} {pat:List CK} {d x:List (List Value)} {k:Nat} (hp:pat.length = 1) (h:qU c0 0 pat d) (hx:∀ row ∈ x,qu pat row) (hk:k + x.length <= d.length)
  (hw:qhv c0 c1 k (qo x)):qU c1 0 pat (qaM d k x):=by
 obtain ⟨f1,f2⟩:=qgu hp hx
 intro i row hi
 rw [qyA hk] at hi
 have hw2:=hw.2
 have old:d[i]? = some row->¬ (k <= i/\i < k + x.length)->qu pat row/\∀ (j:Nat) (v:Value),row[j]? = some v->c1[0 + i * pat.length + j]? = some v:=fun hi hne=>by
  obtain ⟨g1,g2⟩:=h i row hi
  refine ⟨g1,fun j v hv=>?_⟩
  have hj:j < 1:=by rw [<- hp,<- g1.1]; exact (List.getElem?_eq_some_iff.1 hv).1
  rw [hw2,f1,if_neg (by rw [hp]; omega)]
  exact g2 j v hv
 split at hi
 ·exact old hi (by omega)
 ·split at hi
  ·have hfit:=hx row (List.mem_of_getElem? hi)
   refine ⟨hfit,fun j v hv=>?_⟩
   have hj:j < 1:=by rw [<- hp,<- hfit.1]; exact (List.getElem?_eq_some_iff.1 hv).1
   have hj0:j = 0:=by omega
   subst hj0
   rw [hw2,f1,hp,if_pos (by omega),show 0 + i * 1 + 0 - k = i - k by omega,f2,hi]
   exact hv
  ·exact old hi (by omega)
theorem q3l {t t2:TypeId} {xa ya:SV} {args:Array Operand} {tys:Array TypeId} {x y:Operand} (hs:Holds ρ hF s a w) (hop:o.op = .call { callee:=.builtin .copy,args:=args,argTypes:=tys }) (hargs:args = #[x,y]) (htys:tys = #[t,t2])
  (hx:opd s x = some xa) (hy:opd s y = some ya) (h:qpc P s t xa ya = some r) (hn:∀ c ∈ r.needs,(c.den ρ).b = true):qi P ρ hF s a w o r:=by
 unfold qpc at h
 split at h
 ·rename_i el rg p off len cap hu
  split at h
  ·rename_i z n hz hsz
   split at h
   ·rename_i hc
    simp only [Bool.and_eq_true] at hc
    have c1:=Nat.eq_of_beq_eq_true hc.1.1
    have c2:=Nat.eq_of_beq_eq_true hc.1.2
    have c3:=Nat.eq_of_beq_eq_true hc.2
    subst c3; subst c2
    split at h
    ·rename_i k rr ty pat d capA src hat hsrc
     split at h
     ·rename_i hin
      simp only [Bool.and_eq_true,decide_eq_true_eq] at hin
      obtain ⟨⟨hpat,hin1⟩,hin2⟩:=hin
      simp only [Option.some.injEq] at h; subst h
      subst hpat
      have hpl:(z.map qaw).length = 1:=by simp [c1]
      have hev:=hs.opd hx
      have hey:=hs.opd hy
      simp only [List.cons_append,List.nil_append,List.mem_cons,forall_eq_or_imp] at hn
      obtain ⟨n1,n2,n3,n4⟩:=hn
      have o0:=qv n1
      have l0:=qv n2
      have hfit:=qaI n3
      rw [qaF,qaQ] at hfit
      obtain ⟨hs0,hS⟩:=qcY (P:=P) (by omega) hs hsrc n4
      obtain ⟨yb,yc,hyv⟩:=hS.shape
      have hcells:=hS.cells w.heap w.drawn rfl
      rw [hyv] at hey hcells
      have hag:∀ m,m < s.nx->ρ m = (ρ.set s.nx {}) m:=fun m hm=>(Env.set_ne ρ _ (by omega)).symm
      -- how many go over, and which
      obtain ⟨X,hX,hXl,hXt,hm⟩:∃ X,((qb7 len src).den ρ).d = X/\X.length = Nat.min (src.len.den ρ).i.toNat (len.den ρ).i.toNat /\
        X = (src.d.den ρ).d.take X.length/\((qdh len src).den ρ).i = (X.length:Int):=by
       have hmx:∀ a b:Nat,Nat.min a b = min a b:=fun _ _=>rfl
       by_cases hsame:len.same src.len = true
       ·have he:=T.same_eq hsame
        refine ⟨(src.d.den ρ).d,by simp only [qb7,hsame,if_true],by rw [hS.len,he]; exact (Nat.min_self _).symm,by rw [List.take_length],?_⟩
        simp only [qdh,hsame,if_true]; rw [hS.len,he]; omega
       ·have hmin:(T.den ρ (.imin len src.len)).i.toNat = Nat.min (src.len.den ρ).i.toNat (len.den ρ).i.toNat:=by
         simp only [T.den,O2.den]
         rw [hmx]; split <;> omega
        have hl:((src.d.den ρ).d.take (T.den ρ (.imin len src.len)).i.toNat).length = Nat.min (src.len.den ρ).i.toNat (len.den ρ).i.toNat:=by
         rw [List.length_take,hmin,hS.len,hmx]; omega
        have hns:len.same src.len = false:=by simpa using hsame
        refine ⟨(src.d.den ρ).d.take (T.den ρ (.imin len src.len)).i.toNat,by simp only [qb7,hns,Bool.false_eq_true,if_false]; rfl,hl,by rw [hl,hmin],?_⟩
        simp only [qdh,hns,Bool.false_eq_true,if_false]
        rw [hl,<- hmin]
        have:0 <= (T.den ρ (.imin len src.len)).i:=by simp only [T.den,O2.den]; split <;> omega
        omega
      have hXfit:∀ row ∈ X,qu (z.map qaw) row:=fun row hr=>hS.fits row (by rw [hXt] at hr; exact List.mem_of_mem_take hr)
      obtain ⟨hk,hreg⟩:=qG hat
      simp only [SH.reg,Option.some.injEq] at hreg; subst hreg
      obtain ⟨hO,hd,hst,hsub,hwi⟩:=hs.hp
      obtain ⟨t1,t2',td,tu,tx,tss⟩:=qY hst hk
      have hXle:(off.den ρ).i.toNat + X.length <= (d.den ρ).d.length:=by
       have:X.length <= (len.den ρ).i.toNat:=by rw [hXl]; exact Nat.min_le_right _ _
       omega
      have hdn:(T.den ρ (.c3 .dsplice d off (qb7 len src))).d = qaM (d.den ρ).d (off.den ρ).i.toNat X:=by
       rw [<- hX]; rfl
      have hsz1:(P.info? el).map (·.size) = some 1:=by
       obtain ⟨i,hi,his⟩:=qkz hsz
       rw [hi]; simp [his]
      have hret:SV.den (ρ.set s.nx {}) (.one (.vint .i64 (qdh len src))) = .int .i64 (X.length:Int):=by
       simp only [SV.den,T.den,O1.den]
       rw [<- T.den_congr hag _ hin2,hm]
      by_cases h0:X.length = 0
      ·have hXn:X = []:=List.eq_nil_of_length_eq_zero h0
       have hdd:qaM (d.den ρ).d (off.den ρ).i.toNat X = (d.den ρ).d:=by rw [hXn]; simp [qaM]
       have hx':SH.den ρ (.arr rr ty (z.map qaw) (.c3 .dsplice d off (qb7 len src)) capA) t1:=by
        simp only [SH.den,hdn,hdd] at tx ⊢
        exact tx
       refine ⟨[{}],w,rfl,by simp [U.good,Value.oneCell'],qs.congr ⟨hO,hd,by rw [tu]; exact qd5 hk tss td hx',hsub,hwi⟩ (qei hin1) hag,?_,fun h=>by cases h⟩
       simp only [Ran,qq,hret,h0]
       have hrun:=run_copy_none (P:=P) w t t2 o.type el (qm (ρ rr).r (off.den ρ).i.toNat) yb (len.den ρ).i.toNat (cap.den ρ).i.toNat (src.len.den ρ).i.toNat yc hu hsz1 (by rw [<- hXl,h0])
       have hev':a.eval x = .slice (qm (ρ rr).r (off.den ρ).i.toNat) (len.den ρ).i.toNat (cap.den ρ).i.toNat:=by rw [hev]; simp [SV.den,T.den,O3.den]
       simp [execOp,hop,resolve,invoke,builtin,hargs,htys,hev',hey,hrun,goInt]
      ·-- both are qhE
       rcases tx with ⟨_,hd0,_⟩ | ⟨b,c0,g1,g2,g3,g4,g5⟩
       ·rw [hd0,List.length_nil] at hXle; omega
       have hM:X.length <= (src.len.den ρ).i.toNat:=by rw [hXl]; exact Nat.min_le_left _ _
       have hsl:=qgu hpl hS.fits
       cases yb with
       | none =>
        exfalso
        have hfl0:qo (src.d.den ρ).d = []:=by
         simp [Builtin.firstCells] at hcells
         first | exact hcells | exact hcells.symm
        have:=hsl.1
        rw [hfl0,hS.len,List.length_nil] at this
        omega
       | some ad =>
        have hfX:=qgu hpl hXfit
        have hsrcc:∀ j v,(qo X)[j]? = some v->w.cell? (ad.add j) = some v:=fun j v hv=>by
         refine hS.read ad yc hyv j v ?_
         rw [<- hv,hsl.2,hfX.2,hXt,List.getElem?_take]
         have:j < X.length:=by rw [<- hfX.1]; exact (List.getElem?_eq_some_iff.1 hv).1
         simp [this]
        have hle:Hp.le t1 (Hp.union hF hO):=Hp.le_trans (tu ▸ Hp.le_left t1 t2') (Hp.le_right hd)
        have hwb:=hsub _ _ (hle _ _ g2)
        have hc0:(d.den ρ).d.length <= c0.size:=by rw [g3,hpl]; omega
        have hgoodX:∀ v ∈ qo X,v.oneCell' = true:=fun v hv=>by
         have hg:=T.den_good hs.gd (qb7 len src)
         rw [U.good,hX] at hg
         obtain ⟨row,hr,hv⟩:=List.mem_flatten.1 hv
         exact hg.2 row hr v hv
        have hrun:=run_copy_row (P:=P) w t t2 o.type el b (off.den ρ).i.toNat (len.den ρ).i.toNat (cap.den ρ).i.toNat ad (src.len.den ρ).i.toNat yc c0 ty (qo X) hu hsz1 hwb (by rw [hfX.1,hXl]) hsrcc (by rw [hfX.1]; omega) hgoodX
        have hwr:qhv c0 (c0.toList.take (off.den ρ).i.toNat ++ qo X ++ c0.toList.drop ((off.den ρ).i.toNat + (qo X).length)).toArray (off.den ρ).i.toNat (qo X):=by
         have hb:(off.den ρ).i.toNat + (qo X).length <= c0.size:=by rw [hfX.1]; omega
         refine ⟨by simp; omega,fun j=>?_⟩
         have:=qd4 (row:=c0.toList) (c:=(off.den ρ).i.toNat) (vs:=qo X) (by simpa using hb) j
         simp only [qaq] at this
         rw [List.getElem?_toArray,this]
         simp
        generalize hc1:(c0.toList.take (off.den ρ).i.toNat ++ qo X ++ c0.toList.drop ((off.den ρ).i.toNat + (qo X).length)).toArray = c1 at hrun hwr
        have hset:(w.setRow b c1).heap[b]? = some (.cells c1 ty (0,0)):=setRow_heap w b c0 _ ty (0,0) hwb
        have hoth:∀ b',b' ≠ b->(w.setRow b c1).heap[b']? = w.heap[b']?:=fun b' hne=>by
         simp only [World.setRow,Array.getElem?_modify]
         rw [if_neg (fun h=>hne h.symm)]
        have hx':SH.den ρ (.arr rr ty (z.map qaw) (.c3 .dsplice d off (qb7 len src)) capA) (Hp.upd t1 b (.cells c1 ty (0,0))):=by
         refine .inr ⟨b,c1,g1,by simp [Hp.upd],by rw [hwr.1,g3],?_,?_⟩
         ·rw [hdn,qgM hXle]; exact g4
         ·rw [hdn]; exact qub hpl g5 hXfit hXle hwr
        have hbase:=qs.wrote hd hsub hwi hk td tu tss g2 hx' hset hoth ⟨rfl,rfl⟩
        refine ⟨[{}],_,rfl,by simp [U.good,Value.oneCell'],qs.congr hbase (qei hin1) hag,?_,fun h=>by cases h⟩
        simp only [Ran,qq,hret]
        have hev':a.eval x = .slice (some ⟨b,(off.den ρ).i.toNat,none⟩) (len.den ρ).i.toNat (cap.den ρ).i.toNat:=by rw [hev]; simp [SV.den,T.den,O3.den,g1,qm]
        rw [hfX.1] at hrun
        simp [execOp,hop,resolve,invoke,builtin,hargs,htys,hev',hey,hrun,goInt,hfX.1]
     ·simp at h
    ·simp at h
   ·simp at h
  ·simp at h
 ·simp at h

theorem q9A {hs:Holds ρ hF s a w} {len:T} {src:Src} {pat:List CK} {v:Value} (l0:0 <= (len.den ρ).i) (hs0:0 <= (src.len.den ρ).i) (hS:SrcOk (P:=P) w pat v (src.d.den ρ).d (src.len.den ρ).i.toNat) :
  ∃ X,((qb7 len src).den ρ).d = X/\X.length = Nat.min (src.len.den ρ).i.toNat (len.den ρ).i.toNat/\X = (src.d.den ρ).d.take X.length/\((qdh len src).den ρ).i = (X.length:Int):=by
 have hmx:∀ a b:Nat,Nat.min a b = min a b:=fun _ _=>rfl
 by_cases hsame:len.same src.len = true
 ·have he:=T.same_eq hsame
  refine ⟨(src.d.den ρ).d,by simp only [qb7,hsame,if_true],by rw [hS.len,he]; exact (Nat.min_self _).symm,by rw [List.take_length],?_⟩
  simp only [qdh,hsame,if_true]; rw [hS.len,he]; omega
 ·have hmin:(T.den ρ (.imin len src.len)).i.toNat = Nat.min (src.len.den ρ).i.toNat (len.den ρ).i.toNat:=by
   simp only [T.den,O2.den]
   rw [hmx]; split <;> omega
  have hl:((src.d.den ρ).d.take (T.den ρ (.imin len src.len)).i.toNat).length = Nat.min (src.len.den ρ).i.toNat (len.den ρ).i.toNat:=by
   rw [List.length_take,hmin,hS.len,hmx]; omega
  have hns:len.same src.len = false:=by simpa using hsame
  refine ⟨(src.d.den ρ).d.take (T.den ρ (.imin len src.len)).i.toNat,by simp only [qb7,hns,Bool.false_eq_true,if_false]; rfl,hl,by rw [hl,hmin],?_⟩
  simp only [qdh,hns,Bool.false_eq_true,if_false]
  rw [hl,<- hmin]
  have:0 <= (T.den ρ (.imin len src.len)).i:=by simp only [T.den,O2.den]; split <;> omega
  omega
theorem quI {c0 c1:Array Value} {pat:List CK} {d x:List (List Value)} {k:Nat} {ck:CK} (h:qU c0 0 pat d) (hx:∀ row ∈ x,qu [ck] row) (hk:k + x.length <= pat.length) (hp:∀ i,i < x.length->pat[k + i]? = some ck)
  (hw:qhv c0 c1 k (qo x)):qU c1 0 pat (qax d k x):=by
 obtain ⟨f1,f2⟩:=qgu (pat:=[ck]) rfl hx
 have hw2:=hw.2
 cases d with
 | nil=>intro i row hi; simp [qax] at hi
 | cons row0 rest =>
  obtain ⟨⟨hl0,hf0⟩,hc0⟩:=h 0 row0 rfl
  have hml:(x.map fun r=>r.headD .nilFunc).length = x.length:=List.length_map ..
  have hmg:∀ i,i < x.length->(x.map fun r=>r.headD .nilFunc)[i]? = (qo x)[i]?:=fun i hi=>by
   rw [f2,List.getElem?_map,List.getElem?_eq_getElem hi]
   have hr:=(hx _ (List.getElem_mem hi)).1
   match hx1:x[i],hr with
   | [v],_=>simp
  intro i row hi
  match i,hi with
  | 0,hi =>
   simp only [qax,List.getElem?_cons_zero,Option.some.injEq] at hi
   subst hi
   have hsl:(qaq row0 k (x.map fun r=>r.headD .nilFunc)).length = row0.length:=by simp [qaq]; omega
   have hget:=qd4 (row:=row0) (c:=k) (vs:=x.map fun r=>r.headD .nilFunc) (by rw [hml]; omega)
   refine ⟨⟨by rw [hsl,hl0],fun q kq v h1 h2=>?_⟩,fun q v hv=>?_⟩
   ·rw [hget q] at h2
    split at h2
    ·rename_i hin
     rw [hml] at hin
     rw [hmg _ (by omega),f2] at h2
     have hpq:=hp (q - k) (by omega)
     rw [show k + (q - k) = q by omega,h1] at hpq
     simp only [Option.some.injEq] at hpq
     subst hpq
     simp only [Option.bind_eq_some_iff] at h2
     obtain ⟨r,hr,hv⟩:=h2
     exact (hx r (List.mem_of_getElem? hr)).2 0 kq v rfl hv
    ·exact hf0 q kq v h1 h2
   ·rw [hget q] at hv
    rw [show 0 + 0 * pat.length + q = q by omega,hw2]
    split at hv
    ·rename_i hin
     rw [hml] at hin
     rw [if_pos (by rw [f1]; omega),<- hmg _ (by omega)]
     exact hv
    ·rename_i hin
     rw [hml] at hin
     rw [if_neg (by rw [f1]; omega)]
     have:=hc0 q v hv
     rwa [show 0 + 0 * pat.length + q = q by omega] at this
  | i + 1,hi =>
   have hi':(row0 :: rest)[i + 1]? = some row:=hi
   obtain ⟨g1,g2⟩:=h (i + 1) row hi'
   refine ⟨g1,fun q v hv=>?_⟩
   have hge:pat.length <= (i + 1) * pat.length:=by
    have:=Nat.mul_le_mul_right pat.length (show 1 <= i + 1 by omega)
    omega
   rw [hw2,if_neg (by rw [f1]; omega)]
   exact g2 q v hv
theorem q0b {d x:List (List Value)} {k:Nat}:(qax d k x).length = d.length:=by cases d <;> rfl
theorem q4B (hg:ρ.good) {y:SH} {pat:List CK} {d:T} {r:Nat} {ty:TypeId} {cap:T} {H:Hp} (h:qg8 y = some (pat,d)) (hr:y.reg = some r) (hy:(∃ cs,y = .cells r ty cs/\cap = .lit 1)∨y = .arr r ty pat d cap) (hro:y.den ρ H) (hd:0 < (d.den ρ).d.length) :
  ∃ b c,(ρ r).r = some ⟨b,0,none⟩/\H b = some (.cells c ty (0,0))/\c.size = (cap.den ρ).i.toNat * pat.length/\((d.den ρ).d.length:Int) <= (cap.den ρ).i/\qU c 0 pat (d.den ρ).d:=by
 rcases hy with ⟨cs,rfl,rfl⟩ | rfl
 ·simp only [qg8,Option.some.injEq,Prod.mk.injEq] at h
  obtain ⟨rfl,rfl⟩:=h
  obtain ⟨b,h1,h2⟩:=hro
  refine ⟨b,_,h1,h2,by simp [T.den,O0.den,qc],by rw [qlb]; simp [T.den,O0.den],fun i row hi=>?_⟩
  rw [qlb] at hi
  match i,hi with
  | 0,hi =>
   simp only [List.getElem?_cons_zero,Option.some.injEq] at hi
   subst hi
   exact ⟨qmx hg cs,fun k v hv=>by simpa using hv⟩
  | i + 1,hi=>simp at hi
 ·rcases hro with ⟨_,h2,_⟩ | hro
  ·rw [h2] at hd; simp at hd
  ·exact hro
theorem qm5 {t t2:TypeId} {args:Array Operand} {tys:Array TypeId} {x y:Operand} {el ty:TypeId} {rr:Nat} {off len cap capA d l:T} {kk:IntKind} {k zz:Nat} {pat:List CK} {src:Src} {ns:List T} {ya:SV} {xh:SH} (hs:Holds ρ hF s a w) (hop:o.op = .call { callee:=.builtin .copy,args:=args,argTypes:=tys }) (hargs:args = #[x,y]) (htys:tys = #[t,t2])
  (hx:opd s x = some (.one (.c3 (.vslice rr 1) off len cap))) (hy:opd s y = some ya) (hu:P.underlying t = some (.slice el)) (hsz:qN P el = some 1) (hat:qaf rr s.heap = some (k,xh)) (hsrc:qg9 s [.int kk] ya = some src) (hoff:qjV off = some (zz,l,ns))
  (hrow:qg8 xh = some (pat,d)) (hxh:(∃ cs,xh = .cells rr ty cs/\capA = .lit 1)∨xh = .arr rr ty pat d capA) (hzp:zz <= pat.length)
  (hin1:(s.heap.set k (.arr rr ty pat (.c3 .xcopy d off (qb7 len src)) capA)).all (SH.inNx0 s.nx) = true) (hin2:(qdh len src).inB s.nx = true)
  (hr:r = { needs:=qgv (.int kk) pat zz l len d ns ++ src.needs,fresh:=1,heap:=s.heap.set k (.arr rr ty pat (.c3 .xcopy d off (qb7 len src)) capA),val:=some (.one (.vint .i64 (qdh len src))) })
  (hn:∀ c ∈ r.needs,(c.den ρ).b = true):qi P ρ hF s a w o r:=by
 subst hr
 have hev:=hs.opd hx
 have hey:=hs.opd hy
 have hnA:∀ c ∈ qgv (.int kk) pat zz l len d ns,(c.den ρ).b = true:=fun c hc=>hn c (List.mem_append_left _ hc)
 have n4:∀ c ∈ src.needs,(c.den ρ).b = true:=fun c hc=>hn c (List.mem_append_right _ hc)
 obtain ⟨o0,l0,hdl,hfit,hpk⟩:=qlW hzp hoff hnA
 obtain ⟨hs0,hS⟩:=qcY (P:=P) (pat:=[.int kk]) (by simp) hs hsrc n4
 obtain ⟨yb,yc,hyv⟩:=hS.shape
 have hcells:=hS.cells w.heap w.drawn rfl
 rw [hyv] at hey hcells
 have hag:∀ m,m < s.nx->ρ m = (ρ.set s.nx {}) m:=fun m hm=>(Env.set_ne ρ _ (by omega)).symm
 obtain ⟨X,hX,hXl,hXt,hm⟩:=q9A (hs:=hs) l0 hs0 hS
 have hXfit:∀ row ∈ X,qu [.int kk] row:=fun row hr=>hS.fits row (by rw [hXt] at hr; exact List.mem_of_mem_take hr)
 obtain ⟨hk,hreg⟩:=qG hat
 obtain ⟨hO,hd,hst,hsub,hwi⟩:=hs.hp
 obtain ⟨t1,t2',td,tu,tx,tss⟩:=qY hst hk
 obtain ⟨b,c0,g1,g2,g3,g4,g5⟩:=q4B hs.gd hrow hreg hxh tx hdl
 have hXL:X.length <= (len.den ρ).i.toNat:=by rw [hXl]; exact Nat.min_le_right _ _
 have hdn:(T.den ρ (.c3 .xcopy d off (qb7 len src))).d = qax (d.den ρ).d (off.den ρ).i.toNat X:=by
  rw [<- hX]; rfl
 have hsz1:(P.info? el).map (·.size) = some 1:=by
  obtain ⟨i,hi,his⟩:=qkz hsz
  rw [hi]; simp [his]
 have hret:SV.den (ρ.set s.nx {}) (.one (.vint .i64 (qdh len src))) = .int .i64 (X.length:Int):=by
  simp only [SV.den,T.den,O1.den]
  rw [<- T.den_congr hag _ hin2,hm]
 have hle:Hp.le t1 (Hp.union hF hO):=Hp.le_trans (tu ▸ Hp.le_left t1 t2') (Hp.le_right hd)
 have hwb:=hsub _ _ (hle _ _ g2)
 by_cases h0:X.length = 0
 ·have hXn:X = []:=List.eq_nil_of_length_eq_zero h0
  have hdd:qax (d.den ρ).d (off.den ρ).i.toNat X = (d.den ρ).d:=by
   rw [hXn]
   cases (d.den ρ).d with
   | nil=>rfl
   | cons r0 rest=>simp [qax,qaq]
  have hx':SH.den ρ (.arr rr ty pat (.c3 .xcopy d off (qb7 len src)) capA) t1:=by
   refine .inr ⟨b,c0,g1,g2,g3,?_,?_⟩
   ·rw [hdn,hdd]; exact g4
   ·rw [hdn,hdd]; exact g5
  refine ⟨[{}],w,rfl,by simp [U.good,Value.oneCell'],qs.congr ⟨hO,hd,by rw [tu]; exact qd5 hk tss td hx',hsub,hwi⟩ (qei hin1) hag,?_,fun h=>by cases h⟩
  simp only [Ran,qq,hret,h0]
  have hrun:=run_copy_none (P:=P) w t t2 o.type el (qm (ρ rr).r (off.den ρ).i.toNat) yb (len.den ρ).i.toNat (cap.den ρ).i.toNat (src.len.den ρ).i.toNat yc hu hsz1 (by rw [<- hXl,h0])
  have hev':a.eval x = .slice (qm (ρ rr).r (off.den ρ).i.toNat) (len.den ρ).i.toNat (cap.den ρ).i.toNat:=by rw [hev]; simp [SV.den,T.den,O3.den]
  simp [execOp,hop,resolve,invoke,builtin,hargs,htys,hev',hey,hrun,goInt]
 ·have hM:X.length <= (src.len.den ρ).i.toNat:=by rw [hXl]; exact Nat.min_le_left _ _
  have hsl:=qgu (pat:=[CK.int kk]) rfl hS.fits
  cases yb with
  | none =>
   exfalso
   have hfl0:qo (src.d.den ρ).d = []:=by
    simp [Builtin.firstCells] at hcells
    first | exact hcells | exact hcells.symm
   have:=hsl.1
   rw [hfl0,hS.len,List.length_nil] at this
   omega
  | some ad =>
   have hfX:=qgu (pat:=[CK.int kk]) rfl hXfit
   have hsrcc:∀ j v,(qo X)[j]? = some v->w.cell? (ad.add j) = some v:=fun j v hv=>by
    refine hS.read ad yc hyv j v ?_
    rw [<- hv,hsl.2,hfX.2,hXt,List.getElem?_take]
    have:j < X.length:=by rw [<- hfX.1]; exact (List.getElem?_eq_some_iff.1 hv).1
    simp [this]
   have hc0:pat.length <= c0.size:=by
    rw [g3]
    have h1:1 <= (capA.den ρ).i.toNat:=by omega
    have:=Nat.mul_le_mul_right pat.length h1
    omega
   have hgoodX:∀ v ∈ qo X,v.oneCell' = true:=fun v hv=>by
    have hg:=T.den_good hs.gd (qb7 len src)
    rw [U.good,hX] at hg
    obtain ⟨row,hr,hv⟩:=List.mem_flatten.1 hv
    exact hg.2 row hr v hv
   have hrun:=run_copy_row (P:=P) w t t2 o.type el b (off.den ρ).i.toNat (len.den ρ).i.toNat (cap.den ρ).i.toNat ad (src.len.den ρ).i.toNat yc c0 ty (qo X) hu hsz1 hwb (by rw [hfX.1,hXl]) hsrcc (by rw [hfX.1]; omega) hgoodX
   have hwr:qhv c0 (c0.toList.take (off.den ρ).i.toNat ++ qo X ++ c0.toList.drop ((off.den ρ).i.toNat + (qo X).length)).toArray (off.den ρ).i.toNat (qo X):=by
    have hb:(off.den ρ).i.toNat + (qo X).length <= c0.size:=by rw [hfX.1]; omega
    refine ⟨by simp; omega,fun j=>?_⟩
    have:=qd4 (row:=c0.toList) (c:=(off.den ρ).i.toNat) (vs:=qo X) (by simpa using hb) j
    simp only [qaq] at this
    rw [List.getElem?_toArray,this]
    simp
   generalize hc1:(c0.toList.take (off.den ρ).i.toNat ++ qo X ++ c0.toList.drop ((off.den ρ).i.toNat + (qo X).length)).toArray = c1 at hrun hwr
   have hset:(w.setRow b c1).heap[b]? = some (.cells c1 ty (0,0)):=setRow_heap w b c0 _ ty (0,0) hwb
   have hoth:∀ b',b' ≠ b->(w.setRow b c1).heap[b']? = w.heap[b']?:=fun b' hne=>by
    simp only [World.setRow,Array.getElem?_modify]
    rw [if_neg (fun h=>hne h.symm)]
   have hx':SH.den ρ (.arr rr ty pat (.c3 .xcopy d off (qb7 len src)) capA) (Hp.upd t1 b (.cells c1 ty (0,0))):=by
    refine .inr ⟨b,c1,g1,by simp [Hp.upd],by rw [hwr.1,g3],?_,?_⟩
    ·rw [hdn,q0b]; exact g4
    ·rw [hdn]; exact quI g5 hXfit (by omega) (fun i hi=>hpk i (by omega)) hwr
   have hbase:=qs.wrote hd hsub hwi hk td tu tss g2 hx' hset hoth ⟨rfl,rfl⟩
   refine ⟨[{}],_,rfl,by simp [U.good,Value.oneCell'],qs.congr hbase (qei hin1) hag,?_,fun h=>by cases h⟩
   simp only [Ran,qq,hret]
   have hev':a.eval x = .slice (some ⟨b,(off.den ρ).i.toNat,none⟩) (len.den ρ).i.toNat (cap.den ρ).i.toNat:=by rw [hev]; simp [SV.den,T.den,O3.den,g1,qm]
   rw [hfX.1] at hrun
   simp [execOp,hop,resolve,invoke,builtin,hargs,htys,hev',hey,hrun,goInt,hfX.1]
theorem q0y {t t2:TypeId} {xa ya:SV} {args:Array Operand} {tys:Array TypeId} {x y:Operand} (hs:Holds ρ hF s a w) (hop:o.op = .call { callee:=.builtin .copy,args:=args,argTypes:=tys }) (hargs:args = #[x,y]) (htys:tys = #[t,t2])
  (hx:opd s x = some xa) (hy:opd s y = some ya) (h:qmO P s t xa ya = some r) (hn:∀ c ∈ r.needs,(c.den ρ).b = true):qi P ρ hF s a w o r:=by
 unfold qmO at h
 split at h
 ·rename_i el rg p off len cap hu
  split at h
  ·rename_i z hz hsz
   split at h
   ·rename_i kk k xh src zz l ns hkz hat hsrc hoff
    rw [hkz] at hsrc
    obtain ⟨_,hreg⟩:=qG hat
    split at h
    ·rename_i pat d rr ty cs _ hrow
     split at h
     ·rename_i hc
      simp only [Bool.and_eq_true] at hc
      obtain ⟨⟨⟨⟨hp1,hzp⟩,_⟩,hin1⟩,hin2⟩:=hc
      have hp1:=Nat.eq_of_beq_eq_true hp1
      subst hp1
      simp only [SH.reg,Option.some.injEq] at hreg; subst hreg
      simp only [Option.some.injEq] at h
      exact qm5 hs hop hargs htys hx hy hu hsz hat hsrc hoff hrow (.inl ⟨cs,rfl,rfl⟩) (Nat.le_of_ble_eq_true hzp) hin1 hin2 h.symm hn
     ·cases h
    ·rename_i pat d rr ty pat' d' cap' _ hrow
     split at h
     ·rename_i hc
      simp only [Bool.and_eq_true] at hc
      obtain ⟨⟨⟨⟨hp1,hzp⟩,_⟩,hin1⟩,hin2⟩:=hc
      have hp1:=Nat.eq_of_beq_eq_true hp1
      subst hp1
      simp only [SH.reg,Option.some.injEq] at hreg; subst hreg
      have hrow':=hrow
      simp only [qg8,Option.some.injEq,Prod.mk.injEq] at hrow'
      obtain ⟨rfl,rfl⟩:=hrow'
      simp only [Option.some.injEq] at h
      exact qm5 hs hop hargs htys hx hy hu hsz hat hsrc hoff hrow (.inr rfl) (Nat.le_of_ble_eq_true hzp) hin1 hin2 h.symm hn
     ·cases h
    ·cases h
   ·cases h
  ·cases h
 ·cases h

theorem qbI {α:Type} {l:Array α} {x y:α} (h:l.toList = [x,y]):l = #[x,y]:=by cases l; simp_all
theorem qhF {α:Type} {l:Array α} {x:α} (h:l.toList = [x]):l = #[x]:=by cases l; simp_all

theorem qr0 {g R:Nat} (h:((T.c1 (.isg g) (.var R)).den ρ).b = true):(ρ R).r = some ⟨g,0,none⟩:=of_decide_eq_true h
theorem qj2 {ip:List (Nat × Nat)} (hs:Holds ρ hF s a w) (h:qqO P ip s o = some r) (hn:∀ c ∈ r.needs,(c.den ρ).b = true) (hsc:r.fresh = 0∨s.scopedEH = true):qi P ρ hF s a w o r:=by
 unfold qqO at h
 split at h
 ·rename_i t g hop
  have hev:a.eval (.global g) = .pointer (some ⟨g,0,none⟩):=rfl
  split at h
  ·rename_i R ag n hR hag hsz
   split at h
   ·rename_i k y hf
    obtain ⟨H,hsub,hro,hreg⟩:=hs.found hf
    split at h
    ·rename_i cs needs hrd
     split at h
     ·rename_i hagt
      simp only [Option.some.injEq] at h; subst h; subst hagt
      have hg:=qr0 (hn _ (List.mem_cons_self ..))
      obtain ⟨hl,b,off,c',ty,fr,h1,h2,h3⟩:=qfm hrd hro hreg fun c hc=>hn c (List.mem_cons_of_mem _ hc)
      rw [hg] at h1
      simp only [Option.some.injEq,Addr.mk.injEq] at h1
      obtain ⟨rfl,rfl,_⟩:=h1
      refine qi.quiet hs ?_
      have hrun:=qdK (P:=P) (w:=w) hag hsz (hsub _ _ h2) (by simp [qc,hl]) h3 (by simp)
      simp [T.den,O0.den] at hrun
      simp [execOp,hop,hev,Instr.loadAt,Instr.sureAddr,hrun,SV.den]
     ·rename_i hagf
      split at h
      ·rename_i t' _
       simp only [Option.some.injEq] at h; subst h
       have hg:=qr0 (hn _ (List.mem_cons_self ..))
       obtain ⟨hl,b,off,c',ty,fr,h1,h2,h3⟩:=qfm hrd hro hreg fun c hc=>hn c (List.mem_cons_of_mem _ hc)
       rw [hg] at h1
       simp only [Option.some.injEq,Addr.mk.injEq] at h1
       obtain ⟨rfl,rfl,_⟩:=h1
       refine qi.quiet hs ?_
       have hagf':ag = false:=by simpa using hagf
       have hrun:=qdK (P:=P) (w:=w) hag hsz (hsub _ _ h2) (by rw [<- hl]; simp [qc]) h3 (fun _=>by rw [<- hl]; rfl)
       subst hagf'
       simp [T.den,O0.den] at hrun
       simp [execOp,hop,hev,Instr.loadAt,Instr.sureAddr,hrun,qc,SV.den]
      ·simp at h
    ·simp at h
   ·simp at h
  ·simp at h
 ·rename_i t g i hop
  have hev:a.eval (.global g) = .pointer (some ⟨g,0,none⟩):=rfl
  split at h
  ·rename_i R m el k j hR hu hi
   have hei:=hs.opd hi
   split at h
   ·rename_i n hsz
    simp only [Option.some.injEq] at h; subst h
    have hg:=qr0 (hn _ (List.mem_cons_self ..))
    have h0:=qv (hn _ (List.mem_cons_of_mem _ (List.mem_cons_self ..)))
    have h1:=hn _ (List.mem_cons_of_mem _ (List.mem_cons_of_mem _ (List.mem_cons_self ..)))
    rw [qE _ _ _ (by simp)] at h1
    have h1:(j.den ρ).i < (m:Int):=of_decide_eq_true h1
    refine qi.quiet hs ?_
    simp only [SV.den,T.den,O1.den] at hei ⊢
    have hcond:0 <= (j.den ρ).i/\(j.den ρ).i < (m:Int):=⟨h0,h1⟩
    simp [execOp,hop,hev,hei,Instr.indexAt,Instr.sureAddr,asIntOf,qt hu,qa8 hsz,hcond,hg,qm,Addr.add]
    exact fun h=>h.symm
   ·simp at h
  ·simp at h
 ·exact qvI hs h hn hsc

theorem qyD {t ty el:TypeId} {i:TypeInfo} {z:Value} {pat:List CK} {base:Option Addr} {cap n m:Nat} {d dd:List (List Value)} {y:Value}
  (hX:SrcOk (P:=P) w pat (.slice base n cap) d n) (hS:SrcOk (P:=P) w pat y dd m) (hg:cap < n + m) (ht:P.underlying t = some (.slice el)) (hi:P.info? el = some i) (hz:i.zero = some z) (hzs:z.cells.size = i.size) (hp:pat.length = i.size) (hp0:0 < i.size) (hb0:0 < i.bytes)
  (hb:(n + m) * i.bytes <= 140737488355328) :
  ∃ G ob,(Builtin.append_ #[t,t] ty #[.slice base n cap,y]).run P w = .ok (.slice (some ⟨w.heap.size,0,none⟩) (n + m) G) (w.drew.alloc (.cells ob el))/\ob.size = G * pat.length/\n + m <= G/\qU ob 0 pat (d ++ dd):=by
 obtain ⟨yb,yc,rfl⟩:=hS.shape
 have hlen:∀ w':World,(Builtin.lenOf (.slice yb m yc)).run P w' = .ok m w':=fun _=>rfl
 have hcD:(Builtin.firstCells i.size m (.slice yb m yc)).run P w.drew = .ok (qo dd).toArray w.drew:=by
  have:=hS.cells w.heap (w.drawn + 1) rfl
  rwa [hp] at this
 have hold:(Builtin.firstCells i.size n (.slice base n cap)).run P w.drew = .ok (qo d).toArray w.drew:=by
  have:=hX.cells w.heap (w.drawn + 1) rfl
  rwa [hp] at this
 have hdl:=hS.len
 have hdn:=hX.len
 have hfl:(qo dd).length = m * i.size:=by rw [<- hdl]; exact qcV (fun row hr=>by rw [(hS.fits row hr).1,hp])
 have hfd:(qo d).length = n * i.size:=by rw [<- hdn]; exact qcV (fun row hr=>by rw [(hX.fits row hr).1,hp])
 have hfit:=growslice_fits hg hb
 have hge:=grownCap_ge w (n + m) cap el
 have hn:¬ (n + m <= cap):=by omega
 have h63:n + m <= 140737488355328:=Nat.le_trans (by have:=Nat.mul_le_mul_left (n + m) hb0; omega) hb
 have h63':¬ (9223372036854775807 < ((n:Int) + (m:Int))):=by omega
 have h48':¬ (281474976710656 < Builtin.nextslicecap (n + m) cap * i.bytes):=by omega
 let G:=grownCap w (n + m) cap el
 let ob:Array Value:=((qo d ++ qo dd).toArray ++ Builtin.zeroCells z.cells (G - (n + m)))
 refine ⟨G,ob,?_,?_,hge,?_⟩
 ·simp [Builtin.append_,run_underlying ht,sizeOf,typeInfo,zeroValue,hi,hz,hlen,hn,h63',h48',Question.forced,hcD,hold,newRow,grownCap,ob,G,qm]
  congr 2
  apply Array.ext'
  simp [List.append_assoc]
 ·simp only [ob,Array.size_append,List.size_toArray,List.length_append,hfd,hfl,size_zeroCells,hzs,hp,<- Nat.add_mul]
  congr 1
  simp only [G]; omega
 ·refine qct (fun row hr=>?_) (fun j v hv=>?_)
  ·rcases List.mem_append.1 hr with h | h
   ·exact hX.fits row h
   ·exact hS.fits row h
  ·rw [qjj] at hv
   have hj:j < (qo d ++ qo dd).length:=by
    rcases Nat.lt_or_ge j (qo d ++ qo dd).length with h' | h'
    ·exact h'
    ·rw [List.getElem?_eq_none h'] at hv; cases hv
   simp only [ob,Nat.zero_add]
   rw [Array.getElem?_append_left (by simpa using hj)]
   simpa using hv
theorem q2U {args:Array Operand} {tys:Array TypeId} {x y:Operand} {t:TypeId} {xa ya:SV} (hs:Holds ρ hF s a w) (hop:o.op = .call { callee:=.builtin .append,args,argTypes:=tys }) (hargs:args = #[x,y]) (htys:tys = #[t,t]) (hx:opd s x = some xa) (hy:opd s y = some ya) (hsc:s.scopedEH = true)
  (h:qkr P s t xa ya = some r) (hn:∀ c ∈ r.needs,(c.den ρ).b = true):qi P ρ hF s a w o r:=by
 have hex:=hs.opd hx
 have hey:=hs.opd hy
 unfold qkr at h
 split at h
 ·rename_i el rr p off len cap hu
  split at h
  ·rename_i z n bz hz hsz hbz
   split at h
   ·rename_i hchk
    simp only [Bool.and_eq_true,Nat.blt_eq] at hchk
    have hzl:=Nat.eq_of_beq_eq_true hchk.1.1
    split at h
    ·rename_i sx sy hsx hsy
     split at h
     ·simp at h
     ·rename_i hin
      simp only [Bool.not_eq_true',Bool.not_eq_false,Bool.and_eq_true] at hin
      simp only [Option.some.injEq] at h; subst h
      obtain ⟨i,v,hi,hiz,hzc⟩:=qdu (ρ:=ρ) hz
      have his:i.size = n:=by simpa [qN,hi] using hsz
      have hib:i.bytes = bz:=by simpa [qes,hi] using hbz
      obtain ⟨hx0,hX⟩:=qcY (P:=P) (by simp [hzl]; omega) hs hsx (fun c hc=>hn c (by simp [hc]))
      obtain ⟨hy0,hY⟩:=qcY (P:=P) (by simp [hzl]; omega) hs hsy (fun c hc=>hn c (by simp [hc]))
      have n1:=qfB (hn (qr .eql len sx.len) (by simp))
      have n2:=qfB (hn (qr .eql cap len) (by simp))
      have n3:=qaI (hn (qr .leq (.lit 1) sy.len) (by simp))
      have n4:=qaI (hn (qr .leq (.tims (.lit bz) (qan len sy.len)) (.lit 140737488355328)) (by simp))
      simp only [T.den,O0.den,O2.den,qaF] at n3 n4
      have hval:SV.den ρ (.one (.c3 (.vslice rr p) off len cap)) = .slice (qm (ρ rr).r ((off.den ρ).i.toNat * p)) (sx.len.den ρ).i.toNat (cap.den ρ).i.toNat:=by
       simp only [SV.den,T.den,O3.den,n1]
      rw [hval] at hX hex
      have hbb:((sx.len.den ρ).i.toNat + (sy.len.den ρ).i.toNat) * i.bytes <= 140737488355328:=by
       rw [hib]
       have e:(((((sx.len.den ρ).i.toNat + (sy.len.den ρ).i.toNat) * bz:Nat)):Int) = (bz:Int) * ((sx.len.den ρ).i + (sy.len.den ρ).i):=by
        rw [Int.natCast_mul,Int.natCast_add,Int.toNat_of_nonneg hx0,Int.toNat_of_nonneg hy0,Int.mul_comm]
       rw [n1] at n4
       omega
      obtain ⟨G,ob,hrun,g1,g2,g3⟩:=qyD (P:=P) (ty:=o.type) hX hY (by omega) hu hi hiz (by rw [hzc,his]; simp [qc,hzl]) (by simp [hzl,his]) (by omega) (by omega) hbb
      let u1:U:={ r:=some ⟨w.heap.size,0,none⟩ }
      let u2:U:={ i:=(G:Int) }
      have hag:∀ m,m < s.nx->ρ m = ((ρ.set s.nx u1).set (s.nx + 1) u2) m:=fun m hm=>by
       rw [Env.set_ne _ _ (by omega),Env.set_ne _ _ (by omega)]
      have hsh:s.heap.all (SH.inB s.nx) = true:=by
       simp only [S.scopedEH,Bool.and_eq_true] at hsc; exact hsc.2
      have e1:((ρ.set s.nx u1).set (s.nx + 1) u2) s.nx = u1:=by rw [Env.set_ne _ _ (by omega),Env.set_same]
      have e2:((ρ.set s.nx u1).set (s.nx + 1) u2) (s.nx + 1) = u2:=Env.set_same ..
      have hd':((qiC sx.d sy.d).den ((ρ.set s.nx u1).set (s.nx + 1) u2)).d = (sx.d.den ρ).d ++ (sy.d.den ρ).d:=by
       rw [<- T.den_congr hag _ hin.1,qt1]
      have hl':((qan len sy.len).den ((ρ.set s.nx u1).set (s.nx + 1) u2)).i.toNat = (sx.len.den ρ).i.toNat + (sy.len.den ρ).i.toNat:=by
       rw [<- T.den_congr hag _ hin.2,qaF,n1]; omega
      have lx:=hX.len
      have ly:=hY.len
      refine ⟨[u1,u2],w.drew.alloc (.cells ob el),rfl,by simp [U.good,u1,u2,Value.oneCell'],?_,?_,fun h=>by cases h⟩
      ·refine qs.new (n:=s.nx) (d:=w.drawn + 1) hs.hp hsh hag (.inr ⟨w.heap.size,ob,?_,by simp [Hp.one],?_,?_,?_⟩)
       ·simp only [qq]; rw [e1]
       ·simp only [qq,T.den]; rw [e2]; simp [u2,g1]
       ·simp only [qq,T.den]; rw [e2,hd']; simp only [u2,List.length_append,lx,ly]; omega
       ·simp only [qq]; rw [hd']; exact g3
      ·have hv:SV.den ((ρ.set s.nx u1).set (s.nx + 1) u2) (.one (.vslice s.nx (.lit 0) (qan len sy.len) (.var (s.nx + 1)) n)) = .slice (some ⟨w.heap.size,0,none⟩) ((sx.len.den ρ).i.toNat + (sy.len.den ρ).i.toNat) G:=by
        simp only [SV.den,T.den,O0.den,O3.den,hl',e1,e2,u1,u2]
        simp [qm]
       simp only [Ran,qq,hv]
       simp [execOp,hop,resolve,invoke,builtin,hargs,htys,hex,hey,hrun]
    ·simp at h
   ·simp at h
  ·simp at h
 ·simp at h
theorem qxV {ip:List (Nat × Nat)} (hs:Holds ρ hF s a w) (h:q0W P ip s o = some r) (hn:∀ c ∈ r.needs,(c.den ρ).b = true) (hsc:r.fresh = 0∨s.scopedEH = true):qi P ρ hF s a w o r:=by
 unfold q0W at h
 split at h
 ·rename_i args tys hop
  split at h
  ·split at h
   ·rename_i x y t t2 hargs htys
    split at h
    ·rename_i ht
     have ht:=Nat.eq_of_beq_eq_true ht
     subst ht
     split at h
     ·rename_i xa ya hx hy
      exact q2O hs hop (qbI hargs) (qbI htys) hx hy h hn
     ·simp at h
    ·simp at h
   ·simp at h
  ·split at h
   ·rename_i r' hr'
    simp only [Option.some.injEq] at h; subst h
    exact qj2 hs hr' hn hsc
   ·split at h
    ·rename_i x y t t2 hargs htys
     split at h
     ·rename_i ht
      have ht:=Nat.eq_of_beq_eq_true ht
      subst ht
      split at h
      ·rename_i xa ya hx hy
       have h2:r.fresh = 2:=by
        unfold qkr at h
        split at h
        ·split at h
         ·split at h
          ·split at h
           ·split at h
            ·simp at h
            ·simp only [Option.some.injEq] at h; subst h; rfl
           ·simp at h
          ·simp at h
         ·simp at h
        ·simp at h
       exact q2U hs hop (qbI hargs) (qbI htys) hx hy (hsc.resolve_left (by omega)) h hn
      ·simp at h
     ·simp at h
    ·simp at h
 ·rename_i args tys hop
  split at h
  ·rename_i x t hargs htys
   split at h
   ·rename_i xa hx
    exact q1i hs hop (qhF hargs) (qhF htys) hx h hn
   ·simp at h
  ·simp at h
 ·rename_i args tys hop
  split at h
  ·rename_i x y t t2 hargs htys
   split at h
   ·rename_i xa ya hx hy
    split at h
    ·rename_i r' hr'
     simp only [Option.some.injEq] at h; subst h
     exact q3l hs hop (qbI hargs) (qbI htys) hx hy hr' hn
    ·exact q0y hs hop (qbI hargs) (qbI htys) hx hy h hn
   ·simp at h
  ·simp at h
 ·exact qj2 hs h hn hsc

theorem qtR (ip:List (Nat × Nat)) (o:Oper) (hs:Holds ρ hF s a w):Holds ρ hF (qg4 ip s o) a w/\(qg4 ip s o).nx = s.nx/\(qg4 ip s o).ro = s.ro/\(qg4 ip s o).nt = s.nt:=by
 unfold qg4
 repeat' split
 all_goals first | exact ⟨hs,rfl,rfl,rfl⟩ | skip
 rename_i rg p off len cap hx _ k rr ty pat d cap' hat
 obtain ⟨hk,hreg⟩:=qG hat
 obtain ⟨hO,hd,hst,hsub,hwi⟩:=hs.hp
 obtain ⟨t1,t2,td,tu,tx,tss⟩:=qY hst hk
 refine ⟨⟨hs.gd,hs.nt,hs.df,hs.env,hs.ro,⟨hO,hd,?_,hsub,hwi⟩,hs.pc,hs.vw⟩,rfl,rfl,rfl⟩
 rw [tu]
 refine qd5 hk tss td ?_
 have htake:((T.dtake d len).den ρ).d = (d.den ρ).d.take (len.den ρ).i.toNat:=rfl
 rcases tx with ⟨h1,h2,h3⟩ | ⟨b,c,h1,h2,h3,h4,h5⟩
 ·exact .inl ⟨h1,by rw [htake,h2]; simp,h3⟩
 ·refine .inr ⟨b,c,h1,h2,h3,?_,fun i row hi=>h5 i row ?_⟩
  ·rw [htake,List.length_take]; omega
  ·rw [htake,List.getElem?_take] at hi; split at hi
   ·exact hi
   ·cases hi
end Go.Eng

set_option linter.unusedSimpArgs false
set_option linter.unusedVariables false
namespace Go.Eng
open Go
variable {P:Program} {ρ:Env} {hF:Fr} {s:S} {a:Act} {w:World} {o:Oper}


def qe5 (mt:MT):List ME->List Int->Nat->Option (Nat × Value)
 | [],_,_=>none
 | x :: l,k,i=>if x.k == k then some (i,mkV mt.vagg x.v) else qe5 mt l k (i + 1)
theorem qh1 {mt:MT}:∀ {l:List ME} {k:List Int} {i:Nat},qaE l k = false->qe5 mt l k i = none
 | [],_,_,_=>rfl
 | x :: l,k,i,h=>by
  simp only [qaE,List.any_cons,Bool.or_eq_false_iff] at h
  simp only [qe5,h.1,Bool.false_eq_true,if_false]
  exact qh1 h.2
theorem qiV {l:List ME} {k:List Int} {z:List Value} (h:qaE l k = false):qcU l k z = z:=by
 unfold qcU
 rw [List.find?_eq_none.2]
 intro x hx
 have:=List.any_eq_false.1 h x hx
 simpa using this
theorem qeI {mt:MT}:∀ {l:List ME} {k:List Int} {i:Nat},qaE l k = true->∃ j x,l[j]? = some x/\x.k = k/\qe5 mt l k i = some (i + j,mkV mt.vagg x.v)/\∀ z,qcU l k z = x.v
 | [],_,_,h=>by simp [qaE] at h
 | x :: l,k,i,h=>by
  cases hx:(x.k == k) with
  | true=>exact ⟨0,x,rfl,by simpa using hx,by simp only [qe5,hx,if_true,Nat.add_zero],fun z=>by simp [qcU,hx]⟩
  | false =>
   have h':qaE l k = true:=by simpa [qaE,hx] using h
   obtain ⟨j,y,h1,h2,h3,h4⟩:=qeI (mt:=mt) (i:=i + 1) h'
   refine ⟨j + 1,y,by simpa using h1,h2,?_,fun z=>?_⟩
   ·simp only [qe5,hx,Bool.false_eq_true,if_false,h3,Option.some.injEq,Prod.mk.injEq,and_true]; omega
   ·rw [<- h4 z]; simp [qcU,hx]
theorem qij {l:List ME} {c:Nat} {mt:MT} (h:MWf mt l c) {i j:Nat} {x y:ME} (hi:l[i]? = some x) (hj:l[j]? = some y) (hk:x.k = y.k):i = j:=by
 rcases Nat.lt_trichotomy i j with hlt | he | hlt
 ·exact absurd hk ((List.pairwise_iff_getElem.1 h.2) i j (List.getElem?_eq_some_iff.1 hi).1 (List.getElem?_eq_some_iff.1 hj).1 hlt |>.2 |> fun g=>by
   rw [(List.getElem?_eq_some_iff.1 hi).2,(List.getElem?_eq_some_iff.1 hj).2] at g; exact g)
 ·exact he
 ·exact absurd hk.symm ((List.pairwise_iff_getElem.1 h.2) j i (List.getElem?_eq_some_iff.1 hj).1 (List.getElem?_eq_some_iff.1 hi).1 hlt |>.2 |> fun g=>by
   rw [(List.getElem?_eq_some_iff.1 hi).2,(List.getElem?_eq_some_iff.1 hj).2] at g; exact g)
theorem qzM {mt:MT} {l:List ME} {c j:Nat} {x:ME} {k:List Int} {v:List Value} (h:MWf mt l c) (hj:l[j]? = some x) (hk:x.k = k) :
  (l.map mt.ent).toArray.modify j (fun e=>{ e with key:=mkV mt.kagg (qV mt.kks k),val:=mkV mt.vagg v }) = ((l.map fun x=>if x.k = k then { x with v:=v } else x).map mt.ent).toArray:=by
 apply Array.ext'
 rw [Array.toList_modify]
 refine List.ext_getElem? fun i=>?_
 simp only [List.getElem?_modify,List.getElem?_map]
 cases hi:l[i]? with
 | none=>simp
 | some y =>
  simp only [Option.map_some,Option.map_eq_map,Option.some.injEq]
  by_cases hij:j = i
  ·subst hij
   rw [hj] at hi; cases hi
   simp [hk,MT.ent]
  ·rw [if_neg hij]
   have:¬ y.k = k:=fun hyk=>hij (qij h hj hi (hk.trans hyk.symm))
   simp [this]
theorem q3m {mt:MT} {l:List ME} {c j:Nat} {x:ME} {k:List Int} (h:MWf mt l c) (hj:l[j]? = some x) (hk:x.k = k) :
  (l.map mt.ent).toArray.eraseIdxIfInBounds j = ((qmv l k).map mt.ent).toArray:=by
 have hlt:=(List.getElem?_eq_some_iff.1 hj).1
 have hx:=(List.getElem?_eq_some_iff.1 hj).2
 have hs:j < (l.map mt.ent).toArray.size:=by simpa using hlt
 rw [Array.eraseIdxIfInBounds,dif_pos hs]
 apply Array.ext'
 rw [Array.toList_eraseIdx]
 simp only [List.toList_toArray]
 rw [List.eraseIdx_eq_take_drop_succ,<- List.map_take,<- List.map_drop,<- List.map_append]
 congr 1
 have hd:∀ y ∈ l.take j,y.k ≠ k:=fun y hy hyk=>by
  obtain ⟨i,hi,rfl⟩:=List.getElem_of_mem hy
  rw [List.length_take] at hi
  rw [List.getElem_take] at hyk
  have:=qij h (List.getElem?_eq_getElem (show i < l.length by omega)) hj (hyk.trans hk.symm)
  omega
 have hd2:∀ y ∈ l.drop (j + 1),y.k ≠ k:=fun y hy hyk=>by
  obtain ⟨i,hi,rfl⟩:=List.getElem_of_mem hy
  rw [List.length_drop] at hi
  rw [List.getElem_drop] at hyk
  have:=qij h (List.getElem?_eq_getElem (show j + 1 + i < l.length by omega)) hj (hyk.trans hk.symm)
  omega
 conv=>rhs; rw [<- List.take_append_drop j l,List.drop_eq_getElem_cons hlt]
 unfold qmv
 rw [List.filter_append,List.filter_cons,hx]
 simp only [hk,ne_eq,not_true_eq_false,decide_false,Bool.false_eq_true,if_false]
 rw [List.filter_eq_self.2 (fun y hy=>by simpa using hd y hy),List.filter_eq_self.2 (fun y hy=>by simpa using hd2 y hy)]
theorem q59 {l:List ME} {k:List Int} (h:qaE l k = false):qmv l k = l:=by
 unfold qmv
 rw [List.filter_eq_self]
 intro x hx
 have:=List.any_eq_false.1 h x hx
 simpa using this
theorem qjM {mt:MT} {l:List ME} {c:Nat} {k:List Int} {v:List Value} (h:MWf mt l c) (hk:k.length = mt.kks.length) (hv:qu mt.vpat v):MWf mt (qaY l k v c).1 (qaY l k v c).2:=by
 unfold qaY
 by_cases hh:qaE l k = true
 ·rw [if_pos hh]
  refine ⟨fun x hx=>?_,?_⟩
  ·obtain ⟨y,hy,rfl⟩:=List.mem_map.1 hx
   have:=h.1 y hy
   split
   ·exact ⟨this.1,hv,this.2.2⟩
   ·exact this
  ·rw [List.pairwise_map]
   refine h.2.imp fun {x y} hxy=>?_
   have e1:(if x.k = k then { x with v:=v } else x).k = x.k:=by split <;> rfl
   have e2:(if y.k = k then { y with v:=v } else y).k = y.k:=by split <;> rfl
   have e3:(if x.k = k then { x with v:=v } else x).born = x.born:=by split <;> rfl
   have e4:(if y.k = k then { y with v:=v } else y).born = y.born:=by split <;> rfl
   rw [e1,e2,e3,e4]; exact hxy
 ·rw [if_neg hh]
  have hh:qaE l k = false:=by simpa using hh
  refine ⟨fun x hx=>?_,?_⟩
  ·rcases List.mem_append.1 hx with hx | hx
   ·have:=h.1 x hx; exact ⟨this.1,this.2.1,Nat.lt_succ_of_lt this.2.2⟩
   ·rw [List.mem_singleton] at hx; subst hx; exact ⟨hk,hv,Nat.lt_succ_self c⟩
  ·refine List.pairwise_append.2 ⟨h.2,List.pairwise_singleton _ _,fun x hx y hy=>?_⟩
   rw [List.mem_singleton] at hy; subst hy
   have:=List.any_eq_false.1 hh x hx
   exact ⟨(h.1 x hx).2.2,by simpa using this⟩

structure KeyOk (P:Program) (kt:TypeId) (ka:Bool) (ks:List IntKind):Prop where
 check:∀ (em:Bool) (k:List Int) (w:World),k.length = ks.length->(Instr.checkKey em 10000 kt (mkV ka (qV ks k))).run P w = .ok () w
 find:∀ (mt:MT) (k:List Int) (l:List ME) (w:World),mt.kagg = ka->mt.kks = ks->k.length = ks.length->(∀ x ∈ l,x.k.length = ks.length)->(Instr.findKey kt (mkV ka (qV ks k)) (l.map mt.ent)).run P w = .ok (qe5 mt l k 0) w
 stays:∀ (k:List Int) (w:World),k.length = ks.length->(Instr.keyThatStays (mkV ka (qV ks k)) (mkV ka (qV ks k))).run P w = .ok (mkV ka (qV ks k)) w

theorem qjP {k:List Int} (h:k.length = 1):∃ z,k = [z]:=by
 match k,h with
 | [z],_=>exact ⟨z,rfl⟩
theorem qiP {n:Nat} {k:IntKind} {l:List Int} (h:l.length = n):qV (List.replicate n k) l = l.map (Value.int k):=by
 subst h
 induction l with
 | nil=>rfl
 | cons x l ih=>simp only [qV] at ih ⊢; simp [List.replicate_succ,ih]
theorem qmo {d:Nat} {k:IntKind} {z:Int}:Instr.sameBits d (.int k z) (.int k z) = true:=by
 cases d <;> simp [Instr.sameBits]
theorem qtC {d:Nat} {k:IntKind} {l:List Int}:Instr.sameBits (d + 1) (.agg (l.map (Value.int k)).toArray) (.agg (l.map (Value.int k)).toArray) = true:=by
 simp only [Instr.sameBits,beq_self_eq_true,Bool.true_and,List.toList_toArray]
 rw [List.all_eq_true]
 intro x hx
 obtain ⟨i,hi,rfl⟩:=List.getElem_of_mem hx
 simp [qmo]
theorem q2M {kt:TypeId} {k:IntKind} (hu:P.underlying kt = some (.int k)):KeyOk P kt false [k]:=by
 refine ⟨fun em z w hz=>?_,fun mt z l w hk1 hk2 hz hl=>?_,fun z w hz=>?_⟩
 ·obtain ⟨z,rfl⟩:=qjP hz
  rw [show (10000:Nat) = 9999 + 1 from rfl,Instr.checkKey]
  simp [run_underlying hu,mkV,qV]
 ·obtain ⟨z,rfl⟩:=qjP hz
  unfold Instr.findKey
  have:∀ (l:List ME) (i:Nat),(∀ x ∈ l,x.k.length = 1)->Instr.findNow (.int k) (mkV false (qV [k] [z])) (l.map mt.ent) i = some (qe5 mt l [z] i):=by
   intro l
   induction l with
   | nil=>intro i _; rfl
   | cons x l ih =>
    intro i hl
    obtain ⟨y,hy⟩:=qjP (hl x (List.mem_cons_self ..))
    have hk:(mt.ent x).key = .int k y:=by simp [MT.ent,hk1,hk2,hy,mkV,qV]
    have hv:(mt.ent x).val = mkV mt.vagg x.v:=rfl
    simp only [List.map_cons,Instr.findNow,hk,hv]
    show (match (if k = k then some (z == y) else none) with | some true=>_ | some false=>_ | none=>_) = _
    rw [if_pos rfl]
    simp only [qe5,hy]
    by_cases h:z = y
    ·subst h; simp
    ·have h1:(z == y) = false:=by simpa using h
     have h2:(([y]:List Int) == [z]) = false:=by simpa using fun e=>h e.symm
     rw [h1,h2]
     simp only [Bool.false_eq_true,if_false]
     exact ih (i + 1) fun x hx=>hl x (List.mem_cons_of_mem _ hx)
  simp only [Sem.run_bind,run_underlying hu,Result.andThen_ok,this l 0 hl,Sem.run_pure]
 ·obtain ⟨z,rfl⟩:=qjP hz
  simp [Instr.keyThatStays,mkV,qV,qmo]
theorem q38 {kt el:TypeId} {k:IntKind} {n:Nat} (hu:P.underlying kt = some (.array n el)) (he:P.underlying el = some (.int k)) (hsz:qN P el = some 1) (hag:qdm P el = some false):KeyOk P kt true (List.replicate n k):=by
 refine ⟨fun em z w hz=>?_,fun mt z l w hk1 hk2 hz hl=>?_,fun z w hz=>?_⟩
 ·rw [List.length_replicate] at hz
  rw [qiP hz,show (10000:Nat) = 9999 + 1 from rfl,Instr.checkKey]
  simp only [mkV,Sem.run_bind,run_underlying hu,Result.andThen_ok,qa8 hsz,Std.Legacy.Range.forIn_eq_forIn_range',Std.Legacy.Range.size,Nat.sub_zero,Nat.add_sub_cancel,Nat.div_one]
  have hl:∀ i ∈ List.range' 0 n 1,i < n:=fun i hi=>by simpa using (List.mem_range'_1.1 hi).2
  generalize List.range' 0 n 1 = l at hl ⊢
  induction l with
  | nil=>simp
  | cons i l ih =>
   have px:=qhR (P:=P) (k:=k) (zs:=z) hag (i:=i) (by have:=hl i (by simp); omega) w
   have pe:(Instr.checkKey em 9999 el (.int k (z.getD i 0))).run P w = .ok () w:=by
    rw [show (9999:Nat) = 9998 + 1 from rfl,Instr.checkKey]
    simp [run_underlying he]
   have ih:=ih fun j hj=>hl j (by simp [hj])
   simp only [List.forIn_cons,Sem.run_bind,qa8 hsz,px,pe,Result.andThen_ok,Sem.run_pure] at ih ⊢
   exact ih
 ·rw [List.length_replicate] at hz
  have hl:∀ x ∈ l,x.k.length = n:=fun x hx=>by have:=hl x hx; rwa [List.length_replicate] at this
  have hkey:∀ x ∈ l,(mt.ent x).key = .agg (x.k.map (Value.int k)).toArray:=fun x hx=>by simp [MT.ent,hk1,hk2,mkV,qiP (hl x hx)]
  rw [qiP hz]
  unfold Instr.findKey
  have hask:∀ (l:List ME) (i:Nat),(∀ x ∈ l,x.k.length = n)->(∀ x ∈ l,(mt.ent x).key = .agg (x.k.map (Value.int k)).toArray)->(Instr.findAsking kt (mkV true (z.map (Value.int k))) (l.map mt.ent) i).run P w = .ok (qe5 mt l z i) w:=by
   intro l
   induction l with
   | nil=>intro i _ _; simp [Instr.findAsking,qe5]
   | cons x l ih =>
    intro i hl hkey
    have hk:=hkey x (List.mem_cons_self ..)
    have hv:(mt.ent x).val = mkV mt.vagg x.v:=rfl
    have hr:=qiz (P:=P) 9998 kt el n k hu he hag hsz z x.k hz (hl x (List.mem_cons_self ..)) w
    have hkv:mkV true (z.map (Value.int k)) = .agg (z.map (Value.int k)).toArray:=rfl
    simp only [List.map_cons,Instr.findAsking,hk,hv,hkv,Op.equal,Op.maxDepth,Sem.run_bind,hr,Result.andThen_ok]
    simp only [qe5]
    rw [hkv] at ih
    by_cases h:z = x.k
    ·subst h; simp
    ·have h1:(z == x.k) = false:=by simpa using h
     have h2:(x.k == z) = false:=by simpa using fun e=>h e.symm
     rw [h1,h2]
     simp only [Bool.false_eq_true,if_false]
     exact ih (i + 1) (fun x hx=>hl x (List.mem_cons_of_mem _ hx)) (fun x hx=>hkey x (List.mem_cons_of_mem _ hx))
  simp only [Sem.run_bind,run_underlying hu,Result.andThen_ok]
  cases l with
  | nil=>simp [Instr.findNow,qe5]
  | cons x l =>
   have:Instr.findNow (.array n el) (mkV true (z.map (Value.int k))) ((x :: l).map mt.ent) 0 = none:=by
    simp [Instr.findNow,Instr.sameNow]
   rw [this]
   exact hask (x :: l) 0 hl hkey
 ·rw [List.length_replicate] at hz
  rw [qiP hz]
  simp [Instr.keyThatStays,mkV,qtC]
theorem q8B {kt:TypeId} {ka:Bool} {ks:List IntKind} (h:q66 P kt = some (ka,ks)):KeyOk P kt ka ks:=by
 unfold q66 at h
 split at h
 ·rename_i k hu
  simp only [Option.some.injEq,Prod.mk.injEq] at h
  obtain ⟨rfl,rfl⟩:=h
  exact q2M hu
 ·rename_i n el hu
  split at h
  ·rename_i k he hsz hag
   simp only [Option.some.injEq,Prod.mk.injEq] at h
   obtain ⟨rfl,rfl⟩:=h
   exact q38 hu he hsz hag
  ·cases h
 ·cases h
structure MapOk (P:Program) (t:TypeId) (mt:MT):Prop where
 ex:∃ k e,P.underlying t = some (.map k e)/\KeyOk P k mt.kagg mt.kks/\∀ (ρ:Env) (w:World),(zeroValue e).run P w = .ok (mkV mt.vagg (qc ρ mt.zero)) w
 one:mt.vagg = false->mt.vpat.length = 1
 fits:∀ ρ:Env,qu mt.vpat (qc ρ mt.zero)
theorem q3Y {v:Value} (h:∀ cs,v ≠ .agg cs):v.cells = #[v]:=by
 cases v <;> first | rfl | exact absurd rfl (h _)
theorem qni {t:TypeId} {mt:MT} (h:mtP P t = some mt):MapOk P t mt:=by
 unfold mtP at h
 split at h
 ·rename_i k e hu
  split at h
  ·rename_i ka ks va z hk hz hz2
   split at h
   ·rename_i hc
    simp only [Option.some.injEq] at h; subst h
    refine ⟨⟨k,e,hu,q8B hk,fun ρ w=>?_⟩,fun hv=>?_,fun ρ=>qkU hz2 ρ⟩
    ·obtain ⟨i,v,hi,hv,hvc⟩:=qdu (ρ:=ρ) hz2
     obtain ⟨v',hr,hvc'⟩:=qmc (ρ:=ρ) hz2 w
     have hvv:v' = v:=by
      unfold zeroValue at hr
      simp [typeInfo,hi,hv] at hr
      exact hr.symm
     subst hvv
     rw [hr]
     unfold q9N at hz
     simp only [hi,Option.bind_some,hv] at hz
     congr 1
     by_cases hag:∃ cs,v' = .agg cs
     ·obtain ⟨cs,rfl⟩:=hag
      simp only [Option.some.injEq] at hz; subst hz
      simp only [Value.cells] at hvc
      simp [mkV,hvc]
     ·have hag:∀ cs,v' ≠ .agg cs:=fun cs h=>hag ⟨cs,h⟩
      have hvf:va = false:=by
       revert hz
       cases v' <;> simp_all
      subst hvf
      rw [q3Y hag] at hvc
      have:=congrArg Array.toList hvc
      simp only [List.toList_toArray] at this
      simp [mkV,<- this]
    ·simp only at hv; subst hv
     simpa using Nat.eq_of_beq_eq_true (by simpa using hc)
   ·cases h
  ·cases h
 ·cases h


theorem qcT:∀ {l:List SH} {k m:Nat},qd9 l = some (k,m)->l[k]? = some (.abs m 1003)
 | .abs n t :: l,k,m,h=>by
  simp only [qd9] at h
  split at h
  ·rename_i ht
   have ht:=Nat.eq_of_beq_eq_true ht
   simp only [Option.some.injEq,Prod.mk.injEq] at h
   obtain ⟨rfl,rfl⟩:=h
   subst ht; rfl
  ·simp only [Option.map_eq_some_iff,Prod.mk.injEq,Prod.exists] at h
   obtain ⟨k',m',h1,rfl,rfl⟩:=h
   exact qcT (l:=l) h1
 | .cells .. :: l,k,m,h=>by
  simp only [qd9,Option.map_eq_some_iff,Prod.mk.injEq,Prod.exists] at h
  obtain ⟨k',m',h1,rfl,rfl⟩:=h
  exact qcT (l:=l) h1
 | .arr .. :: l,k,m,h=>by
  simp only [qd9,Option.map_eq_some_iff,Prod.mk.injEq,Prod.exists] at h
  obtain ⟨k',m',h1,rfl,rfl⟩:=h
  exact qcT (l:=l) h1
 | [],k,m,h=>by simp [qd9] at h
theorem qfH:∀ {l:List SH} {m:Nat},m ∈ qal l->qcI m l = true
 | .abs n t :: l,m,h=>by
  simp only [qal] at h
  simp only [qcI,Bool.or_eq_true]
  split at h
  ·rcases List.mem_cons.1 h with rfl | h
   ·exact .inl (Nat.beq_refl _)
   ·exact .inr (qfH h)
  ·exact .inr (qfH h)
 | .cells .. :: l,m,h=>by simp only [qal] at h; simpa [qcI] using qfH h
 | .arr .. :: l,m,h=>by simp only [qal] at h; simpa [qcI] using qfH h
 | [],m,h=>by simp [qal] at h
theorem qel (hs:Holds ρ hF s a w) {m:Nat} (h:m ∈ qal s.heap ++ qal s.ro) {b:Nat} {ob:Obj} (hb:(ρ m).h b = some ob):w.heap[b]? = some ob:=by
 obtain ⟨hO,hd,hst,hsub,_⟩:=hs.hp
 have:(qcI m s.heap || qcI m s.ro) = true:=by
  rcases List.mem_append.1 h with h | h
  ·rw [qfH h,Bool.true_or]
  ·rw [qfH h,Bool.or_true]
 rcases qpk hst hs.ro this with h | h
 ·exact hsub _ _ (Hp.le_right hd _ _ (h _ _ hb))
 ·exact hsub _ _ (Hp.le_left _ _ _ _ (h _ _ hb))
theorem qpJ {l:List SH} {k m:Nat} (h:qd9 l = some (k,m)):m ∈ qal l:=by
 have:∀ {l:List SH} {k m:Nat},l[k]? = some (.abs m 1003)->m ∈ qal l:=by
  intro l
  induction l with
  | nil=>intro k m h; simp at h
  | cons x l ih =>
   intro k m h
   cases k with
   | zero =>
    simp only [List.getElem?_cons_zero,Option.some.injEq] at h
    subst h
    simp [qal]
   | succ k =>
    simp only [List.getElem?_cons_succ] at h
    have:=ih h
    cases x with
    | abs n t =>
     simp only [qal]
     split
     ·exact List.mem_cons_of_mem _ this
     ·exact this
    | cells=>simpa [qal] using this
    | arr=>simpa [qal] using this
 exact this (qcT h)
theorem qs.repiece {heap:List SH} {n k m b:Nat} {ob ob':Obj} {w':World} {u:U} (h:qs ρ hF heap w) (hsc:heap.all (SH.inB n) = true) (hk:heap[k]? = some (.abs m 1003)) (hb:(ρ m).h b = some ob)
  (h1:w'.heap[b]? = some ob') (h2:∀ y,y ≠ b->w'.heap[y]? = w.heap[y]?) (hos:w'.os = w.os/\w'.output = w.output) (hu:u.h = Hp.upd (ρ m).h b ob') :
  qs (ρ.set n u) hF (heap.set k (.abs n 1003)) w':=by
 obtain ⟨hO,hdj,hst,hsub,hwi⟩:=h
 obtain ⟨t1,t2,td,tu,tx,ts⟩:=qY hst hk
 have hle:Hp.le t1 (Hp.union hF hO):=Hp.le_trans (tu ▸ Hp.le_left t1 t2) (Hp.le_right hdj)
 have g2':=tx.1 _ _ hb
 have hdisj:Hp.disj (Hp.upd t1 b ob') t2:=fun y=>by
  rcases td y with h | h
  ·unfold Hp.upd
   split
   ·rename_i he; subst he; rw [g2'] at h; cases h
   ·exact .inl h
  ·exact .inr h
 have hag:∀ q,q < n->ρ q = (ρ.set n u) q:=fun q hq=>(Env.set_ne ρ _ (by omega)).symm
 refine ⟨Hp.union (Hp.upd t1 b ob') t2,?_,qd5 hk (qa1 hag _ ?_ _ ts) hdisj ?_,?_,⟨hos.1.trans hwi.1,hos.2.trans hwi.2⟩⟩
 ·intro y
  rcases hdj y with h | h
  ·exact .inl h
  ·right
   rw [tu] at h
   simp only [Hp.union,Option.or_eq_none_iff] at h ⊢
   refine ⟨?_,h.2⟩
   unfold Hp.upd
   split
   ·rename_i he; subst he; rw [g2'] at h; cases h.1
   ·exact h.1
 ·exact List.all_eq_true.2 fun x hx=>List.all_eq_true.1 hsc x (List.mem_of_mem_eraseIdx hx)
 ·simp only [SH.den,Env.set_same,hu]
  refine ⟨fun y ob hy=>?_,fun ht=>by cases ht⟩
  unfold Hp.upd at hy ⊢
  split at hy
  ·rename_i he; rw [if_pos he]; exact hy
  ·rename_i he; rw [if_neg he]; exact tx.1 _ _ hy
 ·intro y ob hy
  by_cases hyb:y = b
  ·subst hyb
   have hFn:hF y = none:=(hdj y).resolve_right (by rw [tu]; simp [Hp.union,g2'])
   simp only [Hp.union,hFn,Hp.upd,if_true,Option.none_or,Option.some_or,Option.some.injEq] at hy
   rw [h1,hy]
  ·rw [h2 y hyb]
   refine hsub y ob ?_
   rw [tu]
   simp only [Hp.union,Hp.upd,hyb,if_false] at hy ⊢
   exact hy


theorem qpM {n:Nat} {row:List Value} (hd:(ρ n).d = [row]):∀ (pat:List CK) (c:Nat),(∀ i k v,pat[i]? = some k->row[c + i]? = some v->CK.fits k v = true)->row.length = c + pat.length->qc ρ (qbv n pat c) = row.drop c
 | [],c,_,hl=>by rw [List.drop_eq_nil_of_le (by simp at hl; omega)]; rfl
 | k :: pat,c,hf,hl=>by
  simp only [List.length_cons] at hl
  have hc:c < row.length:=by omega
  have h0:=hf 0 k row[c] rfl (by rw [Nat.add_zero]; exact List.getElem?_eq_getElem hc)
  have ih:=qpM hd pat (c + 1) (fun i k v hi hv=>hf (i + 1) k v (by simpa using hi) (by rw [show c + (i + 1) = c + 1 + i by omega]; exact hv)) (by omega)
  rw [List.drop_eq_getElem_cons hc,<- ih]
  have hg:row[c]? = some row[c]:=List.getElem?_eq_getElem hc
  cases k with
  | int k =>
   simp only [qbv,qc,List.map_cons,T.den,O1.den,O2.den,O0.den,hd,qa,List.headD_cons,Int.toNat_zero,Nat.zero_add,hg,Option.getD_some,List.cons.injEq,and_true]
   revert h0
   generalize row[c] = v
   intro h0
   cases v <;> simp_all [CK.fits,qag]
  | bool =>
   simp only [qbv,qc,List.map_cons,T.den,O1.den,O2.den,O0.den,hd,qap,List.headD_cons,Int.toNat_zero,Nat.zero_add,hg,Option.getD_some,List.cons.injEq,and_true]
   revert h0
   generalize row[c] = v
   intro h0
   cases v <;> simp_all [CK.fits,qun]
  | any =>
   simp [qbv,qc,T.den,O2.den,O0.den,hd,qF,hg]
theorem qfN {n:Nat} {row:List Value} {pat:List CK} (hd:(ρ n).d = [row]) (h:qu pat row):qc ρ (qbv n pat 0) = row:=by
 have:=qpM hd pat 0 (fun i k v hi hv=>h.2 i k v hi (by rwa [Nat.zero_add] at hv)) (by rw [Nat.zero_add]; exact h.1)
 rwa [List.drop_zero] at this
theorem qoK (b:Bool) (ts:List T):qeQ ρ (b,ts) = mkV b (qc ρ ts):=by cases b <;> rfl
theorem q6a {b:Bool} {ts:List T} {v:SV} (h:q67 b ts = some v):v.den ρ = mkV b (qc ρ ts):=by
 unfold q67 at h
 split at h
 ·simp only [Option.some.injEq] at h; subst h; rfl
 ·simp only [Option.some.injEq] at h; subst h; rfl
 ·cases h
theorem qhx {ks:List IntKind} {k:List Int} (h:k.length = ks.length):qu (ks.map CK.int) (qV ks k):=by
 refine ⟨by simp [qV,h],fun c ck v hc hv=>?_⟩
 simp only [List.getElem?_map,Option.map_eq_some_iff] at hc
 obtain ⟨kk,hk,rfl⟩:=hc
 simp only [qV,List.getElem?_zipWith] at hv
 rw [hk] at hv
 cases hz:k[c]? with
 | none=>rw [hz] at hv; simp at hv
 | some z=>rw [hz] at hv; simp at hv; subst hv; simp [CK.fits]
theorem qth:∀ {ks:List IntKind} {ts is:List T},qgU ks ts = some is->qc ρ ts = qV ks (qbU ρ is)/\(qbU ρ is).length = ks.length
 | [],[],is,h=>by simp only [qgU,Option.some.injEq] at h; subst h; exact ⟨rfl,rfl⟩
 | k :: ks,t :: ts,is,h=>by
  unfold qgU at h
  split at h
  ·rename_i h1 h2; cases h1
  ·rename_i k1 ks1 k' t' ts1 h1 h2
   simp only [List.cons.injEq] at h1 h2
   obtain ⟨rfl,rfl⟩:=h1
   obtain ⟨rfl,rfl⟩:=h2
   split at h
   ·rename_i hk; subst hk
    simp only [Option.map_eq_some_iff] at h
    obtain ⟨js,hj,rfl⟩:=h
    obtain ⟨e1,e2⟩:=qth hj
    refine ⟨?_,by simpa [qbU] using e2⟩
    simp only [qc,List.map_cons,T.den,O1.den,qbU,qV,List.zipWith_cons_cons,List.cons.injEq,true_and] at e1 ⊢
    exact e1
   ·cases h
  ·cases h
 | [],_ :: _,is,h=>by simp [qgU] at h
 | _ :: _,[],is,h=>by simp [qgU] at h
theorem qmf (hs:Holds ρ hF s a w) {b:Bool} {x:Operand} {ts:List T} (h:qf2 s b x = some ts):a.eval x = mkV b (qc ρ ts):=by
 unfold qf2 at h
 split at h
 ·rename_i ts' he
  simp only [Option.some.injEq] at h; subst h
  rw [hs.opd he]; rfl
 ·rename_i t he
  simp only [Option.some.injEq] at h; subst h
  rw [hs.opd he]; rfl
 ·cases h
theorem qrB (hs:Holds ρ hF s a w) {b:Bool} {ks:List IntKind} {x:Operand} {is:List T} (h:(qf2 s b x).bind (qgU ks) = some is):a.eval x = mkV b (qV ks (qbU ρ is))/\(qbU ρ is).length = ks.length:=by
 rw [Option.bind_eq_some_iff] at h
 obtain ⟨ts,h1,h2⟩:=h
 obtain ⟨e1,e2⟩:=qth (ρ:=ρ) h2
 exact ⟨by rw [qmf hs h1,e1],e2⟩
theorem qhU {pat:List CK} {row:List Value} (h:qu pat row):∀ v ∈ row,v.oneCell' = true:=fun v hv=>by
 obtain ⟨i,hi,rfl⟩:=List.getElem_of_mem hv
 have hp:i < pat.length:=by rw [<- h.1]; exact hi
 have:=h.2 i pat[i] row[i] (List.getElem?_eq_getElem hp) (List.getElem?_eq_getElem hi)
 cases hk:pat[i] with
 | any=>rw [hk] at this; exact this
 | int k =>
  rw [hk] at this
  revert this; generalize row[i] = v; intro this
  cases v <;> simp_all [CK.fits,Value.oneCell']
 | bool =>
  rw [hk] at this
  revert this; generalize row[i] = v; intro this
  cases v <;> simp_all [CK.fits,Value.oneCell']
theorem q4H {mt:MT} {l:List ME} {c:Nat} {k:List Int} {z:List Value} (h:MWf mt l c) (hz:qu mt.vpat z):qu mt.vpat (qcU l k z):=by
 unfold qcU
 split
 ·rename_i x hx; exact (h.1 x (List.mem_of_find?_eq_some hx)).2.1
 ·exact hz
end Go.Eng

set_option linter.unusedSimpArgs false
set_option linter.unusedVariables false
namespace Go.Eng
open Go
variable {P:Program} {ρ:Env} {hF:Fr} {s:S} {a:Act} {w:World} {o:Oper}

theorem qck {b c:Nat} {es:Array MapEntry} (h:w.heap[b]? = some (.map es c)):(getObj b).run P w = .ok (.map es c) w:=by simp [getObj,Sem.run,h]
theorem qnn {b since stepped:Nat} {mo:Option Nat} {seen:Array Nat} (h:w.heap[b]? = some (.mapIter mo since seen stepped)):(getObj b).run P w = .ok (.mapIter mo since seen stepped) w:=by simp [getObj,Sem.run,h]
theorem qh4 {b c:Nat} {es:Array MapEntry} {ob:Obj} (h:w.heap[b]? = some (.map es c)):(setObj b ob).run P w = .ok () { w with heap:=w.heap.setIfInBounds b ob }:=by simp [setObj,Sem.run,h]
theorem q2J {b since stepped:Nat} {mo:Option Nat} {seen:Array Nat} {ob:Obj} (h:w.heap[b]? = some (.mapIter mo since seen stepped)):(setObj b ob).run P w = .ok () { w with heap:=w.heap.setIfInBounds b ob }:=by simp [setObj,Sem.run,h]
theorem qvt {b:Nat} {ob ob':Obj} (h:w.heap[b]? = some ob):(w.heap.setIfInBounds b ob')[b]? = some ob':=by
 have:=(Array.getElem?_eq_some_iff.1 h).1
 simp [Array.getElem?_setIfInBounds,this]
theorem set_ne {b y:Nat} {ob':Obj} (h:y ≠ b):(w.heap.setIfInBounds b ob')[y]? = w.heap[y]?:=by
 rw [Array.getElem?_setIfInBounds]
 simp [Ne.symm h]

def qoD (w:World) (mt:MT) (v:Value) (l:List ME):Prop:=(v = .map none/\l = [])∨∃ b clock,v = .map (some b)/\w.heap[b]? = some (mt.obj (l,clock))/\MWf mt l clock
theorem qoD.lens {mt:MT} {v:Value} {l:List ME} (h:qoD w mt v l):∀ x ∈ l,x.k.length = mt.kks.length:=by
 rcases h with ⟨_,rfl⟩ | ⟨_,_,_,_,h⟩
 ·intro x hx; cases hx
 ·exact fun x hx=>(h.1 x hx).1

theorem qzH {t:TypeId} {mt:MT} (hm:MapOk P t mt) {v:Value} {l:List ME} (hv:qoD w mt v l) {k:List Int} (hk:k.length = mt.kks.length) (ck:Bool) (ρ:Env) :
  (Instr.lookup t v (mkV mt.kagg (qV mt.kks k)) ck).run P w = .ok (if ck then .tuple #[mkV mt.vagg (qcU l k (qc ρ mt.zero)),.bool (qaE l k)] else mkV mt.vagg (qcU l k (qc ρ mt.zero))) w:=by
 obtain ⟨kt,e,hu,ko,hz⟩:=hm.ex
 have hf:∀ em,(Instr.checkKey em 10000 kt (mkV mt.kagg (qV mt.kks k))).run P w = .ok () w:=fun em=>ko.check em k w hk
 have hfind:=ko.find mt k l w rfl rfl hk hv.lens
 have hz:=hz ρ w
 have main:((do
   Instr.checkKey (l.map mt.ent).toArray.isEmpty 10000 kt (mkV mt.kagg (qV mt.kks k))
   let (v,ok) <- match <- Instr.findKey kt (mkV mt.kagg (qV mt.kks k)) (l.map mt.ent).toArray.toList with
    | some (_,v)=>pure (v,true)
    | none=>pure (<- zeroValue e,false)
   pure (if ck then .tuple #[v,.bool ok] else v)):Sem Value).run P w = .ok (if ck then .tuple #[mkV mt.vagg (qcU l k (qc ρ mt.zero)),.bool (qaE l k)] else mkV mt.vagg (qcU l k (qc ρ mt.zero))) w:=by
  simp only [Sem.run_bind,hf,Result.andThen_ok,List.toList_toArray,hfind]
  cases hh:qaE l k with
  | false =>
   rw [qh1 hh,qiV hh]
   simp only [Sem.run_bind,hz,Result.andThen_ok,Sem.run_pure]
  | true =>
   obtain ⟨j,x,h1,h2,h3,h4⟩:=qeI (mt:=mt) (i:=0) hh
   rw [h3,h4]
   simp only [Sem.run_bind,Sem.run_pure,Result.andThen_ok]
 rcases hv with ⟨rfl,rfl⟩ | ⟨b,clock,rfl,hb,hwf⟩
 ·rw [<- main]
  simp only [Instr.lookup,Sem.run_bind,run_underlying hu,Result.andThen_ok,Sem.run_pure]
  rfl
 ·have hb':w.heap[b]? = some (.map (l.map mt.ent).toArray clock):=hb
  rw [<- main]
  simp only [Instr.lookup,Sem.run_bind,run_underlying hu,Result.andThen_ok,Sem.run_pure,qck hb']
  rfl

theorem q0V {t ty:TypeId} {mt:MT} (hm:MapOk P t mt) {v:Value} {l:List ME} (hv:qoD w mt v l):(Builtin.len_ #[t] ty #[v]).run P w = .ok (.int .i64 (l.length:Int)) w:=by
 obtain ⟨kt,e,hu,ko,hz⟩:=hm.ex
 rcases hv with ⟨rfl,rfl⟩ | ⟨b,clock,rfl,hb,hwf⟩
 ·simp [Builtin.len_,run_underlying hu,goInt]
 ·have hb':w.heap[b]? = some (.map (l.map mt.ent).toArray clock):=hb
  simp [Builtin.len_,run_underlying hu,qck hb',goInt]

theorem qtN {t:TypeId} {mt:MT} (hm:MapOk P t mt) {b clock:Nat} {l:List ME} (hb:w.heap[b]? = some (mt.obj (l,clock))) (hwf:MWf mt l clock) {k:List Int} (hk:k.length = mt.kks.length) {v:List Value} :
  (Instr.mapUpdate t (.map (some b)) (mkV mt.kagg (qV mt.kks k)) (mkV mt.vagg v)).run P w = .ok () { w with heap:=w.heap.setIfInBounds b (mt.obj (qaY l k v clock)) }:=by
 obtain ⟨kt,e,hu,ko,hz⟩:=hm.ex
 have hb':w.heap[b]? = some (.map (l.map mt.ent).toArray clock):=hb
 have hfind:=ko.find mt k l w rfl rfl hk (fun x hx=>(hwf.1 x hx).1)
 have hcheck:=ko.check false k w hk
 cases hh:qaE l k with
 | false =>
  have hp:qaY l k v clock = (l ++ [⟨k,v,clock⟩],clock + 1):=by simp [qaY,hh]
  rw [qh1 hh] at hfind
  simp only [Instr.mapUpdate,Sem.run_bind,run_underlying hu,Result.andThen_ok,qck hb',hcheck,List.toList_toArray,hfind,qh4 hb',hp]
  simp [MT.obj,MT.ent]
 | true =>
  obtain ⟨j,x,h1,h2,h3,h4⟩:=qeI (mt:=mt) (i:=0) hh
  have hp:qaY l k v clock = (l.map fun x=>if x.k = k then { x with v:=v } else x,clock):=by simp [qaY,hh]
  rw [h3,Nat.zero_add] at hfind
  have hkey:((((l.map mt.ent).toArray[j]?).map (·.key)).getD (mkV mt.kagg (qV mt.kks k))) = mkV mt.kagg (qV mt.kks k):=by
   simp [h1,MT.ent,h2]
  simp only [Instr.mapUpdate,Sem.run_bind,run_underlying hu,Result.andThen_ok,qck hb',hcheck,List.toList_toArray,hfind,hkey,ko.stays k w hk,qh4 hb',hp]
  rw [qzM hwf h1 h2]
  rfl

theorem qtY {t t2 ty:TypeId} {mt:MT} (hm:MapOk P t mt) {b clock:Nat} {l:List ME} (hb:w.heap[b]? = some (mt.obj (l,clock))) (hwf:MWf mt l clock) {k:List Int} (hk:k.length = mt.kks.length) :
  (Builtin.delete_ #[t,t2] ty #[.map (some b),mkV mt.kagg (qV mt.kks k)]).run P w = .ok (.tuple #[]) { w with heap:=w.heap.setIfInBounds b (mt.obj (qmv l k,clock)) }:=by
 obtain ⟨kt,e,hu,ko,hz⟩:=hm.ex
 have hb':w.heap[b]? = some (.map (l.map mt.ent).toArray clock):=hb
 have hfind:=ko.find mt k l w rfl rfl hk (fun x hx=>(hwf.1 x hx).1)
 have hcheck:=fun em=>ko.check em k w hk
 cases hh:qaE l k with
 | false =>
  rw [qh1 hh] at hfind
  simp [Builtin.delete_,run_underlying hu,qck hb',hcheck,hfind,qh4 hb',q59 hh,MT.obj]
 | true =>
  obtain ⟨j,x,h1,h2,h3,h4⟩:=qeI (mt:=mt) (i:=0) hh
  rw [h3,Nat.zero_add] at hfind
  have he:((l.map mt.ent).eraseIdx j).toArray = ((qmv l k).map mt.ent).toArray:=by simpa using q3m hwf h1 h2
  simp [Builtin.delete_,run_underlying hu,qck hb',hcheck,hfind,qh4 hb',he,MT.obj]

theorem qiD {op:BinOp} {t:TypeId} {x y:Operand} {m n:Option Nat}:(eqGuard op t x y (.map m) (.map n)).run P w = .ok () w:=by
 unfold eqGuard; split <;> simp
theorem qhl (d:Nat) {ty k e:TypeId} (hu:P.underlying ty = some (.map k e)) (m:Option Nat):(Op.equalIn (d + 1) ty (.map m) (.map none)).run P w = .ok m.isNone w:=by
 unfold Op.equalIn
 simp only [Sem.run_bind,qt hu,Result.andThen_ok]
 cases m <;> simp
theorem qrT {ty k e:TypeId} (hu:P.underlying ty = some (.map k e)) (m:Option Nat):(binOp .eql ty (.map m) (.map none)).run P w = .ok (.bool m.isNone) w:=by
 have h:binOp .eql ty (.map m) (.map none) = (do pure (.bool (<- Op.equal ty (.map m) (.map none)))):=by cases m <;> rfl
 rw [h]
 simp only [Op.equal]
 rw [show Op.maxDepth = 9999 + 1 from rfl]
 simp only [Sem.run_bind,qhl 9999 hu,Result.andThen_ok,Sem.run_pure]
theorem qsv {ty k e:TypeId} (hu:P.underlying ty = some (.map k e)) (m:Option Nat):(binOp .neq ty (.map m) (.map none)).run P w = .ok (.bool (!m.isNone)) w:=by
 have h:binOp .neq ty (.map m) (.map none) = (do pure (.bool (!(<- Op.equal ty (.map m) (.map none))))):=by cases m <;> rfl
 rw [h]
 simp only [Op.equal]
 rw [show Op.maxDepth = 9999 + 1 from rfl]
 simp only [Sem.run_bind,qhl 9999 hu,Result.andThen_ok,Sem.run_pure]


theorem q3M {t:TypeId} {mt:MT} (hm:MapOk P t mt) {v:Value} {mo:Option Nat} {clock:Nat} (hv:(v = .map none/\mo = none/\clock = 0)∨∃ b l,v = .map (some b)/\mo = some b/\w.heap[b]? = some (mt.obj (l,clock))) :
  (Instr.range t v).run P w = .ok (.pointer (some ⟨w.heap.size,0,none⟩)) { w with heap:=w.heap.push (.mapIter mo clock #[] clock) }:=by
 obtain ⟨kt,e,hu,ko,hz⟩:=hm.ex
 rcases hv with ⟨rfl,rfl,rfl⟩ | ⟨b,l,rfl,rfl,hb⟩
 ·simp [Instr.range,run_underlying hu,newObj,Sem.run]
 ·have hb':w.heap[b]? = some (.map (l.map mt.ent).toArray clock):=hb
  simp [Instr.range,run_underlying hu,qck hb',newObj,Sem.run]

theorem qxl {ty:TypeId} {r since stepped:Nat} {seen:Array Nat} (hr:w.heap[r]? = some (.mapIter none since seen stepped)) :
  (Instr.next (.pointer (some ⟨r,0,none⟩)) false ty).run P w = .ok (.tuple #[.bool false]) w:=by
 simp [Instr.next,qnn hr]

theorem q1g (q:Question) (n:Nat) (hq:q = .mapNext n) (hn:0 < n):∃ j w1,j < n/\(w1 = w∨w1 = { w with drawn:=w.drawn + 1 })/\(choose q).run P w = .ok j w1:=by
 subst hq
 by_cases hf:n <= 1
 ·exact ⟨0,w,by omega,.inl rfl,by simp [choose,Sem.run,Question.forced,hf]⟩
 ·exact ⟨_,_,Nat.mod_lt _ hn,.inr rfl,by
   simp only [choose,Sem.run,Question.forced,decide_eq_true_eq,hf,if_false,Question.cut]
   rfl⟩

theorem q4T {ty:TypeId} {mt:MT} {r b since stepped clock:Nat} {seen:List Nat} {l:List ME} (hr:w.heap[r]? = some (.mapIter (some b) since seen.toArray stepped)) (hb:w.heap[b]? = some (mt.obj (l,clock)))
  (hgone:seen = []∨l = []∨∃ e ∈ l,e.born < stepped) :
  ∃ w1,(w1 = w∨w1 = { w with drawn:=w.drawn + 1 }) /\
   (((∀ e ∈ l,e.born < since->e.born ∈ seen)/\(Instr.next (.pointer (some ⟨r,0,none⟩)) false ty).run P w = .ok (.tuple #[.bool false]) w1) ∨
    ∃ e ∈ l,e.born ∉ seen/\(Instr.next (.pointer (some ⟨r,0,none⟩)) false ty).run P w = .ok (.tuple #[.bool true,(mt.ent e).key,(mt.ent e).val]) { w1 with heap:=w1.heap.setIfInBounds r (.mapIter (some b) since (seen ++ [e.born]).toArray clock) }):=by
 have hb':w.heap[b]? = some (.map (l.map mt.ent).toArray clock):=hb
 have hg:(!seen.toArray.isEmpty && !(l.map mt.ent).toArray.isEmpty && (l.map mt.ent).toArray.all (fun e=>decide (e.born ≥ stepped))) = false:=by
  rcases hgone with rfl | rfl | ⟨e,he,hlt⟩
  ·simp
  ·simp
  ·have:(l.map mt.ent).toArray.all (fun e=>decide (e.born ≥ stepped)) = false:=by
    rw [Array.all_eq_false']
    exact ⟨mt.ent e,by simp; exact ⟨e,he,rfl⟩,by simpa [MT.ent] using hlt⟩
   rw [this,Bool.and_false]
 let left:=(l.map mt.ent).toArray.filter fun e=>!seen.toArray.contains e.born
 let old:=left.filter fun e=>decide (e.born < since)
 let new:=left.filter fun e=>decide (e.born ≥ since)
 let cand:Array (Option MapEntry):=(if old.isEmpty then #[none] else #[]) ++ (old ++ new).map some
 have hpos:0 < cand.size:=by
  show 0 < ((if old.isEmpty then #[none] else #[]) ++ (old ++ new).map some).size
  by_cases ho:old.isEmpty
  ·rw [if_pos ho]; simp; omega
  ·rw [if_neg ho]
   have:0 < old.size:=by
    rcases Nat.eq_zero_or_pos old.size with h | h
    ·exact absurd (by simpa [Array.isEmpty] using h) ho
    ·exact h
   simp; omega
 obtain ⟨j,w1,hj,hw1,hrun⟩:=q1g (P:=P) (w:=w) (.mapNext cand.size) cand.size rfl hpos
 refine ⟨w1,hw1,?_⟩
 have hstep:∀ (Q:Sem Value),True:=fun _=>trivial
 have hr1:w1.heap[r]? = some (.mapIter (some b) since seen.toArray stepped):=by rcases hw1 with rfl | rfl <;> exact hr
 have hmem:∀ x,cand[j]? = some (some x)->∃ e ∈ l,e.born ∉ seen/\x = mt.ent e:=by
  intro x hx
  have hx:=Array.mem_of_getElem? hx
  have:some x ∈ (if old.isEmpty then #[none] else #[]) ++ (old ++ new).map some:=hx
  rw [Array.mem_append] at this
  rcases this with h | h
  ·split at h <;> simp at h
  ·rw [Array.mem_map] at h
   obtain ⟨y,hy,hxy⟩:=h
   cases hxy
   have hl:x ∈ left:=by
    rcases Array.mem_append.1 hy with h | h
    ·exact (Array.mem_filter.1 h).1
    ·exact (Array.mem_filter.1 h).1
   obtain ⟨h1,h2⟩:=Array.mem_filter.1 hl
   simp only [List.mem_toArray,List.mem_map] at h1
   obtain ⟨e,he,rfl⟩:=h1
   exact ⟨e,he,by simpa [MT.ent] using h2,rfl⟩
 have hnone:cand[j]? = some none->∀ e ∈ l,e.born < since->e.born ∈ seen:=by
  intro hx e he hlt
  have hx:=Array.mem_of_getElem? hx
  have:(none:Option MapEntry) ∈ (if old.isEmpty then #[none] else #[]) ++ (old ++ new).map some:=hx
  rw [Array.mem_append] at this
  rcases this with h | h
  ·by_cases ho:old.isEmpty
   ·have ho':old = #[]:=by simpa [Array.isEmpty] using ho
    rcases Classical.em (e.born ∈ seen) with h | h
    ·exact h
    ·exfalso
     have:mt.ent e ∈ old:=by
      refine Array.mem_filter.2 ⟨Array.mem_filter.2 ⟨by simp; exact ⟨e,he,rfl⟩,by simpa [MT.ent] using h⟩,decide_eq_true hlt⟩
     rw [ho'] at this; simp at this
   ·rw [if_neg ho] at h; simp at h
  ·rw [Array.mem_map] at h
   obtain ⟨y,_,hy⟩:=h
   cases hy
 have hun:(Instr.next (.pointer (some ⟨r,0,none⟩)) false ty).run P w = (match cand[j]? with
   | some (some e)=>(do
     setObj r (.mapIter (some b) since (seen.toArray.push e.born) clock)
     pure (.tuple #[.bool true,e.key,e.val]):Sem Value)
   | some none=>pure (.tuple #[.bool false])
   | none=>stuck "Next: no such candidate").run P w1:=by
  simp only [Instr.next,Sem.run_bind,qnn hr,Result.andThen_ok,qck hb']
  rw [hg]
  simp only [Bool.false_eq_true,if_false,Sem.run_bind,Result.andThen_ok]
  exact congrArg (fun z=>Result.andThen z fun a w'=>Sem.run P (match cand[a]? with
   | some (some e)=>(do
     setObj r (.mapIter (some b) since (seen.toArray.push e.born) clock)
     pure (.tuple #[.bool true,e.key,e.val]):Sem Value)
   | some none=>pure (.tuple #[.bool false])
   | none=>stuck "Next: no such candidate") w') hrun
 rw [hun]
 cases hc:cand[j]? with
 | none=>exact absurd hc (by simp [hj])
 | some c =>
  cases c with
  | none=>exact .inl ⟨hnone hc,by simp⟩
  | some x =>
   obtain ⟨e,he,hns,rfl⟩:=hmem x hc
   refine .inr ⟨e,he,hns,?_⟩
   simp only [Sem.run_bind,q2J hr1,Result.andThen_ok,Sem.run_pure]
   simp [MT.ent]

theorem q4i {mt:MT} {r b since clock:Nat} {seen:List Nat} {l:List ME} {e:ME} (hr:w.heap[r]? = some (.mapIter (some b) since (seen ++ [e.born]).toArray clock)) (hb:w.heap[b]? = some (mt.obj (l,clock))) (hwf:MWf mt l clock) (he:e ∈ l) :
  (Instr.entry (.pointer (some ⟨r,0,none⟩))).run P w = .ok (.tuple #[(mt.ent e).key,(mt.ent e).val]) w:=by
 have hb':w.heap[b]? = some (.map (l.map mt.ent).toArray clock):=hb
 have hfind:(l.map mt.ent).toArray.find? (fun x=>x.born == e.born) = some (mt.ent e):=by
  rw [<- Array.find?_toList,List.toList_toArray]
  have:∀ {l:List ME},(l.Pairwise fun x y=>x.born < y.born/\x.k ≠ y.k)->e ∈ l->(l.map mt.ent).find? (fun x=>x.born == e.born) = some (mt.ent e):=by
   intro l
   induction l with
   | nil=>intro _ h; cases h
   | cons x l ih =>
    intro hp he
    rw [List.pairwise_cons] at hp
    rcases List.mem_cons.1 he with rfl | he
    ·simp [MT.ent]
    ·have:=hp.1 e he
     have hne:(x.born == e.born) = false:=by simpa using Nat.ne_of_lt this.1
     simp only [List.map_cons,List.find?_cons]
     rw [show (mt.ent x).born = x.born from rfl,hne]
     exact ih hp.2 he
  exact this hwf.2 he
 simp [Instr.entry,qnn hr,qck hb',hfind]
end Go.Eng
