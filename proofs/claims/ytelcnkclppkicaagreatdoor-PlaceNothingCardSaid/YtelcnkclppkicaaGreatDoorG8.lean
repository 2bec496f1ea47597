/- Texts PH, PI, PJ, PK, PL, PM, PN, PO, PP, PQ, PR, P0, PS, PT, PU, PV, P1, PX, PW, QA, QB, QC, QE, QD, QF, QG, QH. -/
import Derived.Test.YtelcnkclppkicaaGreatDoorG7
import Derived.Test.YtelcnkclppkicaaGreatDoorG4
import Derived.Test.YtelcnkclppkicaaGreatDoorProg
import Derived.Shelf.SlSortCmp.NoneTotal
import Derived.Deep.QuietTactic
import Derived.BigQuiet
import Derived.Ground.SlsfProg
import Derived.Test.YtelcnkclppkicaaGreatDoorG3
import Derived.Test.YtelcnkclppkicaaGreatDoorG5
set_option linter.unusedSimpArgs false
set_option linter.unusedVariables false
namespace Go.Eng
open Go Go.Proofs
def qcT (o:List Int) (a b:Int):Int:=if qJ o a = qJ o b then a - b else qbz (qJ o a) (qJ o b)
def qmm (o:List Int) (s out:List Int):Prop:=out.Perm s/\out.Pairwise fun a b=>qO o a b = true
def qc4 (l:List Int):List Int:=((List.range 16).map fun (i:Nat)=>(i:Int)).filter fun x=>decide (x ∈ l)
end Go.Eng
namespace Go.Proofs
open Go Go.Eng
theorem qfj:∀ {a b:List Int},qbz a b = 0↔a = b
 | [],[]=>by simp [qbz]
 | [],_ :: _=>by simp [qbz]
 | _ :: _,[]=>by simp [qbz]
 | x :: a,y :: b=>by
  unfold qbz
  by_cases h1:x < y
  ·rw [if_pos h1]
   constructor
   ·intro h; omega
   ·intro h; injection h; omega
  ·rw [if_neg h1]
   by_cases h2:y < x
   ·rw [if_pos h2]
    constructor
    ·intro h; omega
    ·intro h; injection h; omega
   ·rw [if_neg h2,qfj]
    have:x = y:=by omega
    subst this
    simp
theorem qto:∀ {a b:List Int},qbz b a = - qbz a b
 | [],[]=>rfl
 | [],_ :: _=>rfl
 | _ :: _,[]=>rfl
 | x :: a,y :: b=>by
  unfold qbz
  by_cases h1:x < y
  ·rw [if_pos h1,if_neg (by omega),if_pos h1]; rfl
  ·by_cases h2:y < x
   ·rw [if_pos h2,if_neg h1,if_pos h2]
   ·rw [if_neg h2,if_neg h1,if_neg h1,if_neg h2]; exact qto
theorem qoR:∀ {a b c:List Int},qbz a b < 0->qbz b c < 0->qbz a c < 0
 | [],[],_,h,_=>by simp [qbz] at h
 | [],_ :: _,[],_,h=>by simp [qbz] at h
 | [],_ :: _,_ :: _,_,_=>by simp [qbz]
 | _ :: _,[],_,h,_=>by simp [qbz] at h
 | _ :: _,_ :: _,[],_,h=>by simp [qbz] at h
 | x :: a,y :: b,z :: c,h1,h2=>by
  unfold qbz at h1 h2 ⊢
  by_cases a1:x < y
  ·by_cases b1:y < z
   ·rw [if_pos (by omega)]; decide
   ·rw [if_neg b1] at h2
    by_cases b2:z < y
    ·rw [if_pos b2] at h2; omega
    ·rw [if_pos (by omega)]; decide
  ·rw [if_neg a1] at h1
   by_cases a2:y < x
   ·rw [if_pos a2] at h1; omega
   ·rw [if_neg a2] at h1
    have e:x = y:=by omega
    subst e
    by_cases b1:x < z
    ·rw [if_pos b1]; decide
    ·rw [if_neg b1] at h2 ⊢
     by_cases b2:z < x
     ·rw [if_pos b2] at h2; omega
     ·rw [if_neg b2] at h2 ⊢
      exact qoR h1 h2
variable {o:List Int} {a b c:Int}
theorem qfk:qO o a b = decide (qcT o a b < 0):=by
 unfold qO qcT
 by_cases h:qJ o a = qJ o b
 ·rw [if_pos h,if_pos h]
  exact decide_eq_decide.2 ⟨fun h=>by omega,fun h=>by omega⟩
 ·rw [if_neg h,if_neg h]
theorem qfw:qcT o a b = 0↔a = b:=by
 unfold qcT
 by_cases h:qJ o a = qJ o b
 ·rw [if_pos h]; omega
 ·rw [if_neg h,qfj]
  exact ⟨fun h'=>(h h').elim,fun h'=>by rw [h']⟩
theorem qjS:qcT o b a = - qcT o a b:=by
 unfold qcT
 by_cases h:qJ o a = qJ o b
 ·rw [if_pos h,if_pos h.symm]; omega
 ·rw [if_neg h,if_neg (fun h'=>h h'.symm),qto]
theorem qjG (h1:qcT o a b < 0) (h2:qcT o b c < 0):qcT o a c < 0:=by
 unfold qcT at h1 h2 ⊢
 by_cases e1:qJ o a = qJ o b
 ·rw [if_pos e1] at h1
  by_cases e2:qJ o b = qJ o c
  ·rw [if_pos e2] at h2
   rw [if_pos (e1.trans e2)]; omega
  ·rw [if_neg e2] at h2
   rw [if_neg (by rw [e1]; exact e2),e1]; exact h2
 ·rw [if_neg e1] at h1
  by_cases e2:qJ o b = qJ o c
  ·rw [if_neg (by rw [<- e2]; exact e1),<- e2]; exact h1
  ·rw [if_neg e2] at h2
   have h3:=qoR h1 h2
   by_cases e3:qJ o a = qJ o c
   ·rw [e3,qfj.2 rfl] at h3; omega
   ·rw [if_neg e3]; exact h3
theorem q09 (h1:qO o a b = true) (h2:qO o b c = true):qO o a c = true:=by
 rw [qfk,decide_eq_true_eq] at h1 h2 ⊢
 exact qjG h1 h2
theorem qxy:qO o a a = false:=by
 rw [qfk,qfw.2 rfl]; rfl
theorem q0r (h:qO o a b = true):qO o b a = false:=by
 rw [qfk,decide_eq_true_eq] at h
 rw [qfk,decide_eq_false_iff_not,qjS]; omega
theorem qqY (h:a ≠ b):qO o a b = true∨qO o b a = true:=by
 rw [qfk,qfk,decide_eq_true_eq,decide_eq_true_eq,qjS (a:=a) (b:=b)]
 have:¬ qcT o a b = 0:=fun h'=>h (qfw.1 h')
 omega
theorem qre:∀ {l m:List Int},l.Perm m->(l.Pairwise fun a b=>qO o a b = true)->(m.Pairwise fun a b=>qO o a b = true)->l = m
 | [],m,h,_,_=>(List.Perm.nil_eq h)
 | x :: l,[],h,_,_=>by simp at h
 | x :: l,y :: m,h,h1,h2=>by
  rw [List.pairwise_cons] at h1 h2
  have hxy:x = y:=by
   rcases List.mem_cons.1 (h.subset (List.mem_cons_self ..)) with e | e
   ·exact e
   ·rcases List.mem_cons.1 (h.symm.subset (List.mem_cons_self ..)) with e' | e'
    ·exact e'.symm
    ·have a1:=h2.1 x e
     have a2:=h1.1 y e'
     rw [q0r a1] at a2; cases a2
  subst hxy
  rw [qre (List.Perm.cons_inv h) h1.2 h2.2]
theorem qv7 {s l m:List Int} (h1:qmm o s l) (h2:qmm o s m):l = m:=qre (h1.1.trans h2.1.symm) h1.2 h2.2
end Go.Proofs

set_option linter.unusedSimpArgs false
set_option linter.unusedVariables false
namespace Go.Proofs
open Go Go.Eng
theorem q4J {x y:Int} (hx:0 <= x/\x < 256) (hy:0 <= y/\y < 256):x.toNat.toUInt8 < y.toNat.toUInt8↔x < y:=by
 rw [UInt8.lt_iff_toNat_lt]
 have h1:x.toNat.toUInt8.toNat = x.toNat:=by
  show x.toNat % 256 = x.toNat
  omega
 have h2:y.toNat.toUInt8.toNat = y.toNat:=by
  show y.toNat % 256 = y.toNat
  omega
 rw [h1,h2]; omega
theorem qlm:∀ {xs ys:List Int},qQ xs->qQ ys->Lib.compareBytes (Lib.bytesOf xs) (Lib.bytesOf ys) = qbz xs ys
 | [],[],_,_=>rfl
 | [],_ :: _,_,_=>rfl
 | _ :: _,[],_,_=>rfl
 | x :: xs,y :: ys,hx,hy=>by
  have h1:=q4J (hx x (List.mem_cons_self ..)) (hy y (List.mem_cons_self ..))
  have h2:=q4J (hy y (List.mem_cons_self ..)) (hx x (List.mem_cons_self ..))
  have h3:=qlm (xs:=xs) (ys:=ys) (fun z hz=>hx z (List.mem_cons_of_mem _ hz)) (fun z hz=>hy z (List.mem_cons_of_mem _ hz))
  show (if x.toNat.toUInt8 < y.toNat.toUInt8 then -1 else if y.toNat.toUInt8 < x.toNat.toUInt8 then 1 else Lib.compareBytes (Lib.bytesOf xs) (Lib.bytesOf ys)) = _
  rw [h3,qbz]
  simp only [h1,h2]
theorem q6j {k:IntKind} {v:Value} (h:CK.fits (.int k) v = true):∃ z,v = .int k z:=by
 cases v <;> simp [CK.fits] at h
 subst h
 exact ⟨_,rfl⟩
theorem qtI {c:Array Value} {b o:Nat} {ty:TypeId} {fr:Nat × Nat} {d:qe} {w:World} (hb:w.heap[b]? = some (.cells c ty fr)) (hd:qak d 33) (hr:qV c o kRk d) :
  ∀ j x,((qf d 33).drop 1)[j]? = some x->w.cell? ((⟨b,o + 1,none⟩:Addr).add j) = some (.int .u8 x):=fun j x hx=>by
 obtain ⟨row,rfl,hl⟩:=hd
 obtain ⟨hf,hc⟩:=hr 0 row rfl
 rw [List.getElem?_drop] at hx
 have hj:1 + j < 33:=by
  rcases Nat.lt_or_ge (1 + j) 33 with h | h
  ·exact h
  ·rw [List.getElem?_eq_none (by simp [qf]; omega)] at hx; cases hx
 have hx2:x = qad (row[1 + j]?.getD .nilFunc):=by
  rw [qf,List.getElem?_map,List.getElem?_range hj] at hx
  have:=(Option.some.inj hx).symm
  rw [this]; rfl
 have hrow:row[1 + j]? = some row[1 + j]:=List.getElem?_eq_getElem (by omega)
 have hk:kRk[1 + j]? = some (.int .u8):=by
  have:kRk = .int .i64 :: List.replicate 32 (.int .u8):=rfl
  rw [this,Nat.add_comm,List.getElem?_cons_succ,List.getElem?_replicate,if_pos (by omega)]
 obtain ⟨z,hz⟩:=q6j (hf.2 (1 + j) (.int .u8) row[1 + j] hk hrow)
 have hv:=hc (1 + j) row[1 + j] hrow
 rw [hx2,hrow]
 simp only [Option.getD_some]
 rw [hz] at hv ⊢
 have e:((⟨b,o + 1,none⟩:Addr).add j) = ⟨b,o + 1 + j,none⟩:=by
  unfold Addr.add
  by_cases hj0:j = 0
  ·subst hj0; simp
  ·simp [hj0]
 rw [e]
 simp only [World.cell?,hb]
 show c[o + 1 + j]? = _
 rw [show o + 1 + j = o + 0 * kRk.length + (1 + j) by omega,hv]
 rfl
theorem q4T:qj1.ok Tryz.prog:=by
 refine ⟨fun args w=>Tryz.call118 args w,fun ρ w hF hO hg hd hw hs hro hp=>?_⟩
 obtain ⟨h2,h3,b2,b3⟩:=hp
 have hr0:=hro _ (List.mem_cons_self ..)
 have hr1:=hro _ (List.mem_cons_of_mem _ (List.mem_cons_self ..))
 obtain ⟨row2,e2,l2⟩:=h2
 obtain ⟨row3,e3,l3⟩:=h3
 rcases hr0 with h | ⟨b,o,c,ty,fr,q1,q2,q3⟩
 ·have h:(ρ 2).d = []:=h
  rw [e2] at h; cases h
 rcases hr1 with h | ⟨b',o',c',ty',fr',p1,p2,p3⟩
 ·have h:(ρ 3).d = []:=h
  rw [e3] at h; cases h
 have hsub:∀ {x:Nat} {X:Obj},hF.h x = some X->w.heap[x]? = some X:=fun h=>hw.1 _ _ (by simp [Hp.union,h])
 have hx:=qtI (w:=w) (hsub q2) ⟨row2,e2,l2⟩ q3
 have hy:=qtI (w:=w) (hsub p2) ⟨row3,e3,l3⟩ p3
 have hlen:∀ d:qe,((qf d 33).drop 1).length = 32:=fun d=>by simp [qf]
 have hc:=qom ⟨b,o + 1,none⟩ ⟨b',o' + 1,none⟩ _ _ 32 32 w hx hy
 rw [hlen,hlen] at hc
 have hargs:(List.map (SV.den ρ) qj1.args).toArray = #[.slice (some ⟨b,o + 1,none⟩) 32 32,.slice (some ⟨b',o' + 1,none⟩) 32 32]:=by
  simp [qj1,SV.den,T.den,O0.den,O3.den,q1,p1,ql]
 rw [hargs]
 refine hc.mono fun e w' h=>?_
 obtain ⟨rfl,rfl⟩:=h
 refine ⟨0,_,ρ.set 4 { i:=qbz ((qf (ρ 2).d 33).drop 1) ((qf (ρ 3).d 33).drop 1) },rfl,fun n=>?_,fun n hn=>Env.set_ne _ _ (by have:n < 4:=hn; omega),?_,?_,hO,hd,trivial,hw.1,hw.2⟩
 ·by_cases hn:n = 4
  ·subst hn; rw [Env.set_same]; exact ⟨rfl,fun row hr=>(by cases hr)⟩
  ·rw [Env.set_ne _ _ hn]; exact hg n
 ·rw [qlm b2 b3]; rfl
 ·rfl
end Go.Proofs

set_option linter.unusedSimpArgs false
set_option linter.unusedVariables false
set_option maxRecDepth 100000
namespace Go.Proofs
open Go Go.Eng

def quD:Out:=(.br (.cmp .geq (.var 0) (.lit 0))
 (.ret 0 (sg 1 [bt 1 (.cmp .lss (.var 0) (.lit 16))]))
 (.ret 0 (sg 1 [bt 1 (.bl false)])))
theorem q1V:qj ⟨Tryz.prog,qcn,[],[]⟩ 100000 Tryz.f100 = quD:=by kernel_rfl
theorem q5A (hd:∀ c ∈ ([]:List Ctr),c.ok Tryz.prog) (h:∀ ρ:Env,ρ.good->(qcn).pre ρ->quD.den ⟨Tryz.prog,qcn,[],[]⟩ ρ):(qcn).ok Tryz.prog :=
 qc Tryz.func100 (fun a w=>Tryz.call100 a w) hd 100000 (fun ρ hg hp=>by rw [q1V]; exact h ρ hg hp)
@[simp] def qbm:T:=.rcons (.vbool (.bcell (.var 7) (.lit 0) 0)) (.rcons (.vbool (.bcell (.var 7) (.lit 0) 1)) (.rcons (.vbool (.bcell (.var 7) (.lit 0) 2)) (.rcons (.vbool (.bcell (.var 7) (.lit 0) 3)) (.rcons (.vbool (.bcell (.var 7) (.lit 0) 4)) (.rcons (.vbool (.bcell (.var 7) (.lit 0) 5)) (.rcons (.vbool (.bcell (.var 7) (.lit 0) 6)) (.rcons (.vbool (.bcell (.var 7) (.lit 0) 7)) (.rcons (.vbool (.bcell (.var 7) (.lit 0) 8)) (.rcons (.vbool (.bcell (.var 7) (.lit 0) 9)) (.rcons (.vbool (.bcell (.var 7) (.lit 0) 10)) (.rcons (.vbool (.bcell (.var 7) (.lit 0) 11)) (.rcons (.vbool (.bcell (.var 7) (.lit 0) 12)) (.rcons (.vbool (.bcell (.var 7) (.lit 0) 13)) (.rcons (.vbool (.bcell (.var 7) (.lit 0) 14)) (.rcons (.vbool (.bcell (.var 7) (.lit 0) 15)) .rnil)))))))))))))))
def qmj:Out:=(.fresh 5 (.need (.cmp .leq (.lit 0) (.var 1)) (.inv 0 6 (sg 1000 [bt 1001 (.rcons (.vbool (.bl false)) (.rcons (.vbool (.bl false)) (.rcons (.vbool (.bl false)) (.rcons (.vbool (.bl false)) (.rcons (.vbool (.bl false)) (.rcons (.vbool (.bl false)) (.rcons (.vbool (.bl false)) (.rcons (.vbool (.bl false)) (.rcons (.vbool (.bl false)) (.rcons (.vbool (.bl false)) (.rcons (.vbool (.bl false)) (.rcons (.vbool (.bl false)) (.rcons (.vbool (.bl false)) (.rcons (.vbool (.bl false)) (.rcons (.vbool (.bl false)) (.rcons (.vbool (.bl false)) .rnil)))))))))))))))),bt 1002 (.lit 0),bg 1000 5]) (.fresh 6 (.fresh 7 (.fresh 8 (.hyp 0 6 (.br (.cmp .lss (.var 8) (.var 1))
 (.need (.cmp .leq (.lit 0) (.var 8)) (.need (.cmp .lss (.var 8) (.dlen (.var 3))) (.pre 0 (sg 0 [bt 0 (.icell (.var 3) (.var 8) 0)]) (.both (.fresh 9 (.post 0 0 (sg 0 [bt 0 (.icell (.var 3) (.var 8) 0)]) 9 (.br (.var 9)
 (.need (.cmp .leq (.lit 0) (.icell (.var 3) (.var 8) 0)) (.need (.cmp .lss (.icell (.var 3) (.var 8) 0) (.lit 16)) (.need (.cmp .lss (.lit 0) (.dlen (.var 7))) (.back 0 6 (sg 1000 [bt 1001 (.c3 (.xput 0) (.var 7) (.icell (.var 3) (.var 8) 0) (.vbool (.bl true))),bt 1002 (.arith .add .i64 (.var 8) (.lit 1)),bg 1000 6])))))
 (.back 0 6 (sg 1000 [bv 1001 7,bt 1002 (.arith .add .i64 (.var 8) (.lit 1)),bg 1000 6]))))) .top))))
 (.need (.cmp .lss (.lit 0) (.dlen (.var 7))) (.ret 0 (sg 5 [bt 20 (.bcell (.dput (.var 7) (.lit 0) 0 qbm) (.lit 0) 15),bt 19 (.bcell (.dput (.var 7) (.lit 0) 0 qbm) (.lit 0) 14),bt 18 (.bcell (.dput (.var 7) (.lit 0) 0 qbm) (.lit 0) 13),bt 17 (.bcell (.dput (.var 7) (.lit 0) 0 qbm) (.lit 0) 12),bt 16 (.bcell (.dput (.var 7) (.lit 0) 0 qbm) (.lit 0) 11),bt 15 (.bcell (.dput (.var 7) (.lit 0) 0 qbm) (.lit 0) 10),bt 14 (.bcell (.dput (.var 7) (.lit 0) 0 qbm) (.lit 0) 9),bt 13 (.bcell (.dput (.var 7) (.lit 0) 0 qbm) (.lit 0) 8),bt 12 (.bcell (.dput (.var 7) (.lit 0) 0 qbm) (.lit 0) 7),bt 11 (.bcell (.dput (.var 7) (.lit 0) 0 qbm) (.lit 0) 6),bt 10 (.bcell (.dput (.var 7) (.lit 0) 0 qbm) (.lit 0) 5),bt 9 (.bcell (.dput (.var 7) (.lit 0) 0 qbm) (.lit 0) 4),bt 8 (.bcell (.dput (.var 7) (.lit 0) 0 qbm) (.lit 0) 3),bt 7 (.bcell (.dput (.var 7) (.lit 0) 0 qbm) (.lit 0) 2),bt 6 (.bcell (.dput (.var 7) (.lit 0) 0 qbm) (.lit 0) 1),bt 5 (.bcell (.dput (.var 7) (.lit 0) 0 qbm) (.lit 0) 0)])))))))))))
theorem q2X:qj ⟨Tryz.prog,qdM,[qcn],[qp3]⟩ 100000 Tryz.f82 = qmj:=by kernel_rfl
theorem q6o (hd:∀ c ∈ ([qcn]:List Ctr),c.ok Tryz.prog) (h:∀ ρ:Env,ρ.good->(qdM).pre ρ->qmj.den ⟨Tryz.prog,qdM,[qcn],[qp3]⟩ ρ):(qdM).ok Tryz.prog :=
 qc Tryz.func82 (fun a w=>Tryz.call82 a w) hd 100000 (fun ρ hg hp=>by rw [q2X]; exact h ρ hg hp)
@[simp] def qqZ:Sg:=sg 0 [bv 7 3,bv 5 8,bt 4 (.dapp (.dapp (.rcons (x8 0 0) .rnil) (.dapp (.rcons (x8 1 0) .rnil) (.dapp (.rcons (x8 2 0) .rnil) (.dapp (.rcons (x8 3 0) .rnil) (.dapp (.rcons (x8 4 0) .rnil) (.dapp (.rcons (x8 5 0) .rnil) (.dapp (.rcons (x8 6 0) .rnil) (.dapp (.rcons (x8 7 0) .rnil) (.dapp (.rcons (x8 8 0) .rnil) (.dapp (.rcons (x8 9 0) .rnil) (.dapp (.rcons (x8 10 0) .rnil) (.dapp (.rcons (x8 11 0) .rnil) (.dapp (.rcons (x8 12 0) .rnil) (.dapp (.rcons (x8 13 0) .rnil) (.dapp (.rcons (x8 14 0) .rnil) (.dapp (.rcons (x8 15 0) .rnil) (.dapp (.rcons (x8 16 0) .rnil) (.dapp (.rcons (x8 17 0) .rnil) (.dapp (.rcons (x8 18 0) .rnil) (.dapp (.rcons (x8 19 0) .rnil) (.dapp (.rcons (x8 20 0) .rnil) (.dapp (.rcons (x8 21 0) .rnil) (.dapp (.rcons (x8 22 0) .rnil) (.dapp (.rcons (x8 23 0) .rnil) (.dapp (.rcons (x8 24 0) .rnil) (.dapp (.rcons (x8 25 0) .rnil) (.dapp (.rcons (x8 26 0) .rnil) (.dapp (.rcons (x8 27 0) .rnil) (.dapp (.rcons (x8 28 0) .rnil) (.dapp (.rcons (x8 29 0) .rnil) (.dapp (.rcons (x8 30 0) .rnil) (.rcons (x8 31 0) .rnil)))))))))))))))))))))))))))))))) (.rcons (.vint .u8 (.conv .u8 (.var 1))) .rnil)),bv 3 8,bt 2 (.lit 33),bt 1 (.lit 0),bg 0 7,bg 6 2]
def qqR:Out:=(.fresh 4 (.fresh 5 (.fresh 6 (.need (.cmp .leq (.tims (.lit 1) (.lit 33)) (.lit 140737488355328)) (.fresh 7 (.fresh 8 (.know (.cmp .leq (.lit 33) (.var 8)) (.pre 0 qqZ (.both (.fresh 9 (.post 0 0 qqZ 9 (.ret 0 (sg 4 [bt 4 (r8 9)])))) .top)))))))))
theorem qyV:qj ⟨Tryz.prog,qcm,[qaH],[]⟩ 100000 Tryz.f24 = qqR:=by kernel_rfl
theorem q3A (hd:∀ c ∈ ([qaH]:List Ctr),c.ok Tryz.prog) (h:∀ ρ:Env,ρ.good->(qcm).pre ρ->qqR.den ⟨Tryz.prog,qcm,[qaH],[]⟩ ρ):(qcm).ok Tryz.prog :=
 qc Tryz.func24 (fun a w=>Tryz.call24 a w) hd 100000 (fun ρ hg hp=>by rw [qyV]; exact h ρ hg hp)
def qvd:Out:=(.fresh 4 (.fresh 5 (.pre 0 (sg 0 [bv 3 3,bv 1 1,bt 0 (r8 0),bg 2 2]) (.both (.fresh 6 (.post 0 0 (sg 0 [bv 3 3,bv 1 1,bt 0 (r8 0),bg 2 2]) 6 (.ret 0 (sg 4 [bt 4 (r8 6)])))) .top))))
theorem q0e:qj ⟨Tryz.prog,qdA,[qcm],[]⟩ 100000 Tryz.f80 = qvd:=by kernel_rfl
theorem q54 (hd:∀ c ∈ ([qcm]:List Ctr),c.ok Tryz.prog) (h:∀ ρ:Env,ρ.good->(qdA).pre ρ->qvd.den ⟨Tryz.prog,qdA,[qcm],[]⟩ ρ):(qdA).ok Tryz.prog :=
 qc Tryz.func80 (fun a w=>Tryz.call80 a w) hd 100000 (fun ρ hg hp=>by rw [q0e]; exact h ρ hg hp)
def ql5:Out:=(.fresh 4 (.fresh 5 (.both (.pre 0 (sg 0 [bt 3 (.rcons (.vint .i64 (.var 2)) (r8 3)),bt 2 (.rcons (.vint .i64 (.var 0)) (r8 1)),bg 1 5,bg 0 4]) (.both (.fresh 6 (.post 0 0 (sg 0 [bt 3 (.rcons (.vint .i64 (.var 2)) (r8 3)),bt 2 (.rcons (.vint .i64 (.var 0)) (r8 1)),bg 1 5,bg 0 4]) 6 (.br (.cmp .neq (.var 6) (.lit 0))
 (.ret 0 (sg 4 [bv 4 6]))
 (.ret 0 (sg 4 [bt 4 (.arith .sub .i64 (.var 0) (.var 2))]))))) .top)) .top)))
theorem qsU:qj ⟨Tryz.prog,qc9,[qj1],[]⟩ 100000 Tryz.f81 = ql5:=by kernel_rfl
theorem qzd (hd:∀ c ∈ ([qj1]:List Ctr),c.ok Tryz.prog) (h:∀ ρ:Env,ρ.good->(qc9).pre ρ->ql5.den ⟨Tryz.prog,qc9,[qj1],[]⟩ ρ):(qc9).ok Tryz.prog :=
 qc Tryz.func81 (fun a w=>Tryz.call81 a w) hd 100000 (fun ρ hg hp=>by rw [qsU]; exact h ρ hg hp)
@[simp] def qpu:Out:=.fresh 10 (.both (.fresh 11 (.both (.both (.br (.c2 .req (r8 6) (r8 8))
 (.ret 0 (sg 5 [bt 5 (.cmp .lss (.var 1) (.var 2))]))
 (.pre 1 (sg 0 [bv 2 2,bt 3 (r8 8),bv 0 1,bt 1 (r8 6)]) (.both (.fresh 12 (.post 1 0 (sg 0 [bv 2 2,bt 3 (r8 8),bv 0 1,bt 1 (r8 6)]) 12 (.ret 0 (sg 5 [bt 5 (.cmp .lss (.var 12) (.lit 0))])))) .top))) .top) .top)) .top)
@[simp] def qpw:Out:=.fresh 8 (.both (.pre 0 (sg 0 [bv 3 4,bv 1 2,bt 0 (r8 0),bg 2 3]) (.both (.fresh 9 (.fresh 10 (.post 0 0 (sg 0 [bv 3 4,bv 1 2,bt 0 (r8 0),bg 2 3]) 9 (.both (.fresh 11 (.both (.both (.br (.c2 .req (r8 6) (r8 9))
 (.ret 0 (sg 5 [bt 5 (.cmp .lss (.var 1) (.var 2))]))
 (.pre 1 (sg 0 [bv 2 2,bt 3 (r8 9),bv 0 1,bt 1 (r8 6)]) (.both (.fresh 12 (.post 1 0 (sg 0 [bv 2 2,bt 3 (r8 9),bv 0 1,bt 1 (r8 6)]) 12 (.ret 0 (sg 5 [bt 5 (.cmp .lss (.var 12) (.lit 0))])))) .top))) .top) .top)) .top)))) .top)) (.both (.fresh 9 (.both (.pre 0 (sg 0 [bv 3 4,bv 1 2,bt 0 (r8 0),bg 2 3]) (.both (.fresh 10 (.fresh 11 (.post 0 0 (sg 0 [bv 3 4,bv 1 2,bt 0 (r8 0),bg 2 3]) 10 (.both (.both (.br (.c2 .req (r8 6) (r8 10))
 (.ret 0 (sg 5 [bt 5 (.cmp .lss (.var 1) (.var 2))]))
 (.pre 1 (sg 0 [bv 2 2,bt 3 (r8 10),bv 0 1,bt 1 (r8 6)]) (.both (.fresh 12 (.post 1 0 (sg 0 [bv 2 2,bt 3 (r8 10),bv 0 1,bt 1 (r8 6)]) 12 (.ret 0 (sg 5 [bt 5 (.cmp .lss (.var 12) (.lit 0))])))) .top))) .top) .top)))) .top)) .top)) .top))
@[simp] def qof:Out:=.fresh 6 (.both (.pre 0 (sg 0 [bv 3 4,bv 1 1,bt 0 (r8 0),bg 2 3]) (.both (.fresh 7 (.fresh 8 (.post 0 0 (sg 0 [bv 3 4,bv 1 1,bt 0 (r8 0),bg 2 3]) 7 (.both (.pre 0 (sg 0 [bv 3 4,bv 1 2,bt 0 (r8 0),bg 2 3]) (.both (.fresh 9 (.fresh 10 (.post 0 0 (sg 0 [bv 3 4,bv 1 2,bt 0 (r8 0),bg 2 3]) 9 (.both (.fresh 11 (.both (.both (.br (.c2 .req (r8 7) (r8 9))
 (.ret 0 (sg 5 [bt 5 (.cmp .lss (.var 1) (.var 2))]))
 (.pre 1 (sg 0 [bv 2 2,bt 3 (r8 9),bv 0 1,bt 1 (r8 7)]) (.both (.fresh 12 (.post 1 0 (sg 0 [bv 2 2,bt 3 (r8 9),bv 0 1,bt 1 (r8 7)]) 12 (.ret 0 (sg 5 [bt 5 (.cmp .lss (.var 12) (.lit 0))])))) .top))) .top) .top)) .top)))) .top)) (.both (.fresh 9 (.both (.pre 0 (sg 0 [bv 3 4,bv 1 2,bt 0 (r8 0),bg 2 3]) (.both (.fresh 10 (.fresh 11 (.post 0 0 (sg 0 [bv 3 4,bv 1 2,bt 0 (r8 0),bg 2 3]) 10 (.both (.both (.br (.c2 .req (r8 7) (r8 10))
 (.ret 0 (sg 5 [bt 5 (.cmp .lss (.var 1) (.var 2))]))
 (.pre 1 (sg 0 [bv 2 2,bt 3 (r8 10),bv 0 1,bt 1 (r8 7)]) (.both (.fresh 12 (.post 1 0 (sg 0 [bv 2 2,bt 3 (r8 10),bv 0 1,bt 1 (r8 7)]) 12 (.ret 0 (sg 5 [bt 5 (.cmp .lss (.var 12) (.lit 0))])))) .top))) .top) .top)))) .top)) .top)) .top))))) .top)) (.both (.fresh 7 (.both (.pre 0 (sg 0 [bv 3 4,bv 1 1,bt 0 (r8 0),bg 2 3]) (.both (.fresh 8 (.fresh 9 (.post 0 0 (sg 0 [bv 3 4,bv 1 1,bt 0 (r8 0),bg 2 3]) 8 (.both (.pre 0 (sg 0 [bv 3 4,bv 1 2,bt 0 (r8 0),bg 2 3]) (.both (.fresh 10 (.fresh 11 (.post 0 0 (sg 0 [bv 3 4,bv 1 2,bt 0 (r8 0),bg 2 3]) 10 (.both (.both (.br (.c2 .req (r8 8) (r8 10))
 (.ret 0 (sg 5 [bt 5 (.cmp .lss (.var 1) (.var 2))]))
 (.pre 1 (sg 0 [bv 2 2,bt 3 (r8 10),bv 0 1,bt 1 (r8 8)]) (.both (.fresh 12 (.post 1 0 (sg 0 [bv 2 2,bt 3 (r8 10),bv 0 1,bt 1 (r8 8)]) 12 (.ret 0 (sg 5 [bt 5 (.cmp .lss (.var 12) (.lit 0))])))) .top))) .top) .top)))) .top)) .top)))) .top)) .top)) .top))
def qnm:Out:=(.fresh 5 (.both (.pre 0 (sg 0 [bv 3 4,bv 1 1,bt 0 (r8 0),bg 2 3]) (.both (.fresh 6 (.fresh 7 (.post 0 0 (sg 0 [bv 3 4,bv 1 1,bt 0 (r8 0),bg 2 3]) 6 (.both (.pre 0 (sg 0 [bv 3 4,bv 1 2,bt 0 (r8 0),bg 2 3]) (.both (.fresh 8 (.fresh 9 (.post 0 0 (sg 0 [bv 3 4,bv 1 2,bt 0 (r8 0),bg 2 3]) 8 (.both qpu (.both qpu .top))))) .top)) (.both qpw (.both qpw .top)))))) .top)) (.both qof (.both qof .top))))
theorem qw6:qj ⟨Tryz.prog,qbH,[qdA,qc9],[]⟩ 100000 Tryz.f26 = qnm:=by kernel_rfl
theorem q0S (hd:∀ c ∈ ([qdA,qc9]:List Ctr),c.ok Tryz.prog) (h:∀ ρ:Env,ρ.good->(qbH).pre ρ->qnm.den ⟨Tryz.prog,qbH,[qdA,qc9],[]⟩ ρ):(qbH).ok Tryz.prog :=
 qc Tryz.func26 (fun a w=>Tryz.call26 a w) hd 100000 (fun ρ hg hp=>by rw [qw6]; exact h ρ hg hp)
end Go.Proofs

set_option linter.unusedSimpArgs false
set_option linter.unusedVariables false
namespace Go.Proofs
open Go Go.Eng
set_option maxRecDepth 20000
theorem qq0:qcn.ok Tryz.prog:=q5A (by simp) fun ρ hg hp=>by
 simp (config:={ maxSteps:=4000000 }) [quD,qcn,qpo]
 exact ⟨fun h=>by simp [qF,h],fun h1 h2=>by omega⟩
theorem qy7 (d:qe) (p:Int):(qf d 32).map (fun x=>[Value.int .u8 x]) ++ [[Value.int .u8 (IntKind.u8.wrap p)]] = [[.int .u8 (qa d 0)],[.int .u8 (qa d 1)],[.int .u8 (qa d 2)],[.int .u8 (qa d 3)],[.int .u8 (qa d 4)],[.int .u8 (qa d 5)],[.int .u8 (qa d 6)],[.int .u8 (qa d 7)],[.int .u8 (qa d 8)],[.int .u8 (qa d 9)],[.int .u8 (qa d 10)],[.int .u8 (qa d 11)],[.int .u8 (qa d 12)],[.int .u8 (qa d 13)],[.int .u8 (qa d 14)],[.int .u8 (qa d 15)],[.int .u8 (qa d 16)],[.int .u8 (qa d 17)],[.int .u8 (qa d 18)],[.int .u8 (qa d 19)],[.int .u8 (qa d 20)],[.int .u8 (qa d 21)],[.int .u8 (qa d 22)],[.int .u8 (qa d 23)],[.int .u8 (qa d 24)],[.int .u8 (qa d 25)],[.int .u8 (qa d 26)],[.int .u8 (qa d 27)],[.int .u8 (qa d 28)],[.int .u8 (qa d 29)],[.int .u8 (qa d 30)],[.int .u8 (qa d 31)],[.int .u8 (IntKind.u8.wrap p)]]:=rfl
theorem qtD (d:qe) (p:Int):bI ((qf d 32).map (fun x=>[Value.int .u8 x]) ++ [[Value.int .u8 (IntKind.u8.wrap p)]]) = qf d 32 ++ [p % 256]:=by
 rw [qup]
 congr 1
theorem qx1 {d:qe} {p:Int} (h:qQ (qf d 32)):qy ((qf d 32).map (fun x=>[Value.int .u8 x]) ++ [[Value.int .u8 (IntKind.u8.wrap p)]]):=by
 refine q55 ?_
 rw [qtD]
 intro x hx
 rcases List.mem_append.1 hx with hx | hx
 ·exact h x hx
 ·rw [List.mem_singleton.1 hx]; exact ⟨Int.emod_nonneg _ (by decide),Int.emod_lt_of_pos _ (by decide)⟩
theorem qt4:qcm.ok Tryz.prog:=q3A (by simp [qlC]) fun ρ hg hp=>by
 obtain ⟨hO,hGr,hGd⟩:=hp
 simp (config:={ maxSteps:=4000000 }) [qqR,qcm,qaH,qlX,gOk,hGr,hGd,hO]
 rw [<- qy7]
 refine fun u _ hu=>⟨⟨by omega,qx1 hO⟩,fun v _ hv=>?_⟩
 rw [hv,qkk (by simp [qf]),qtD]; rfl
theorem qwA:qdA.ok Tryz.prog:=q54 (by simp [qt4]) fun ρ hg hp=>by
 obtain ⟨hO,hGr,hGd⟩:=hp
 simp (config:={ maxSteps:=4000000 }) [qvd,qdA,qcm,gOk,hGr,hGd,hO]
theorem qz4:qc9.ok Tryz.prog:=qzd (by simp [q4T]) fun ρ hg hp=>by
 obtain ⟨h1,h3⟩:=hp
 simp (config:={ maxSteps:=4000000 }) [ql5,qc9,qj1]
 refine ⟨⟨⟨_,rfl,rfl⟩,⟨_,rfl,rfl⟩,h1,h3⟩,fun u _ hu=>?_⟩
 have hu:u.i = qbz (qf (ρ 1).d 32) (qf (ρ 3).d 32):=hu
 rw [<- hu]
 exact ⟨fun h=>by simp [h],fun h=>by simp [h]⟩
theorem qrF:qbH.ok Tryz.prog:=q0S (by simp [qwA,qz4]) fun ρ hg hp=>by
 obtain ⟨hO,hGr,hGd⟩:=hp
 simp (config:={ maxSteps:=4000000 }) [qnm,qbH,qdA,qc9,gOk,hGr,hGd,hO]
 intro u _ hu u1 _ hu1
 rw [hu,hu1]
 unfold qO
 refine ⟨fun h=>by rw [if_pos h]; rfl,fun h=>⟨⟨qfU _,qfU _⟩,fun v _ hv=>?_⟩⟩
 rw [if_neg (fun h'=>h (qfj.1 h'))] at hv
 rw [if_neg h,hv]; rfl
theorem qmU {L:List Int}:qdq [List.replicate 16 (.bool false)] L 0:=by
 refine ⟨⟨_,rfl,List.length_replicate ..⟩,fun x h0 h1=>⟨fun h=>?_,fun h=>by simp at h⟩⟩
 exfalso
 have h2:qaL [List.replicate 16 (Value.bool false)] x.toNat = false:=by
  unfold qaL
  rw [List.headD_cons,List.getElem?_replicate,if_pos (by omega)]; rfl
 rw [h2] at h; cases h
theorem qip {L:List Int} {n:Nat} (hn:n < L.length):L.take (n + 1) = L.take n ++ [L.getD n 0]:=by
 rw [List.take_add_one,List.getElem?_eq_getElem hn,List.getD_eq_getElem?_getD,List.getElem?_eq_getElem hn]; rfl
theorem qm5 {s:qe} {L:List Int} {n:Nat} {y:Int} (h:qdq s L n) (hn:n < L.length) (hy:y = L.getD n 0) (h0:0 <= y) (h1:y < 16):qdq (qat s y.toNat (.bool true)) L (n + 1):=by
 obtain ⟨⟨row,rfl,hr⟩,h2⟩:=h
 refine ⟨⟨_,rfl,by rw [List.length_set]; exact hr⟩,fun x x0 x1=>?_⟩
 have hc:qaL (qat [row] y.toNat (.bool true)) x.toNat = if x = y then true else qaL [row] x.toNat:=by
  unfold qaL qat
  rw [List.headD_cons,List.headD_cons,List.getElem?_set]
  by_cases hxe:x = y
  ·rw [if_pos (by rw [hxe]),if_pos (by omega),if_pos hxe]; rfl
  ·rw [if_neg (fun e=>hxe (by omega)),if_neg hxe]
 rw [hc,qip hn,<- hy,List.mem_append,List.mem_singleton]
 by_cases hxe:x = y
 ·rw [if_pos hxe]; exact ⟨fun _=>.inr hxe,fun _=>rfl⟩
 ·rw [if_neg hxe,h2 x x0 x1]
  exact ⟨.inl,fun h=>h.resolve_right hxe⟩
theorem qmT {s:qe} {L:List Int} {n:Nat} {y:Int} (h:qdq s L n) (hn:n < L.length) (hy:y = L.getD n 0) (hne:¬ (0 <= y/\y < 16)):qdq s L (n + 1):=by
 refine ⟨h.1,fun x x0 x1=>?_⟩
 rw [h.2 x x0 x1,qip hn,<- hy,List.mem_append,List.mem_singleton]
 exact ⟨.inl,fun h=>h.resolve_right (fun e=>hne (by omega))⟩
theorem qem {d:qe} {i:Int} (h0:0 <= i) (h1:i < d.length):qh d i 0 = (qw d).getD i.toNat 0:=by
 have hl:i.toNat < d.length:=by omega
 rw [qw,List.getD_eq_getElem?_getD,List.getElem?_map,List.getElem?_eq_getElem hl]
 simp [qh,qaj,qbB,List.getElem?_eq_getElem hl]
theorem q1q:qdM.ok Tryz.prog:=q6o (by simp [qq0]) fun ρ hg hp=>by
 obtain ⟨hl,h1,hr⟩:=hp
 simp only [Nat.reduceAdd] at hl h1 hr
 simp (config:={ maxSteps:=4000000 }) [qmj,qdM,qp3,qcn,hl]
 have hil:(qw (ρ 3).d).length = (ρ 3).d.length:=by simp [qw]
 refine ⟨qmU,fun s _ i _ i0 i1 hs=>⟨fun hi=>⟨i0,hi,fun u _ hu=>⟨fun ht=>?_,fun hf=>?_⟩⟩,fun hi=>?_⟩⟩
 ·have hp:0 <= qh (ρ 3).d i.i 0/\qh (ρ 3).d i.i 0 < 16:=by rw [hu] at ht; exact of_decide_eq_true ht
  have hsl:0 < s.d.length:=by obtain ⟨⟨row,e,_⟩,_⟩:=hs; rw [e]; exact Nat.one_pos
  rw [add64 (x:=i.i) (by omega) (by omega)]
  refine ⟨hp.1,hp.2,hsl,⟨by omega,by omega,?_⟩,by omega⟩
  rw [show (i.i + 1).toNat = i.i.toNat + 1 by omega]
  exact qm5 hs (by omega) (qem i0 hi) hp.1 hp.2
 ·have hp:¬ (0 <= qh (ρ 3).d i.i 0/\qh (ρ 3).d i.i 0 < 16):=by rw [hu] at hf; exact of_decide_eq_false hf
  rw [add64 (x:=i.i) (by omega) (by omega)]
  refine ⟨⟨by omega,by omega,?_⟩,by omega⟩
  rw [show (i.i + 1).toNat = i.i.toNat + 1 by omega]
  exact qmT hs (by omega) (qem i0 hi) hp
 ·obtain ⟨⟨row,hs1,hrl⟩,hs2⟩:=hs
  rw [List.take_of_length_le (by omega)] at hs2
  rw [hs1] at hs2 ⊢
  match row,hrl with
  | [a0,a1,a2,a3,a4,a5,a6,a7,a8,a9,a10,a11,a12,a13,a14,a15],_ =>
   refine ⟨by simp,?_⟩
   have key:qeC ((List.range 16).map (qaL [[a0,a1,a2,a3,a4,a5,a6,a7,a8,a9,a10,a11,a12,a13,a14,a15]])) (qw (ρ 3).d):=⟨by simp,fun j hj=>by
    rw [List.getD_eq_getElem?_getD,List.getElem?_map,List.getElem?_range hj]
    exact hs2 j (by omega) (by omega)⟩
   exact key
end Go.Proofs

set_option linter.unusedSimpArgs false
set_option linter.unusedVariables false
namespace Go.Eng
open Go Go.Proofs
end Go.Eng

set_option linter.unusedSimpArgs false
set_option linter.unusedVariables false
set_option maxRecDepth 100000
namespace Go.Proofs
open Go Go.Eng

end Go.Proofs

set_option linter.unusedSimpArgs false
set_option linter.unusedVariables false
namespace Go.Proofs
open Go Go.Eng
set_option maxRecDepth 20000
theorem qcE {d:qe}:(qw d).length = d.length:=by simp [qw]
end Go.Proofs

set_option linter.unusedSimpArgs false
set_option linter.unusedVariables false
namespace Go.Eng
open Go Go.Proofs
def qG (L:List Int) (n:Nat):List Int:=((List.range n).map fun (i:Nat)=>(i:Int)).filter fun x=>decide (x ∈ L)
def qeA:Ctr:={ fn := 121,nv:=6,args:=[bS 0,iv .i64 (.var 5)],heap:=[],ro:=[qe3 0],pre:=fun ρ=>qbZ ρ 0,alts:=[{ k:=1,ret:=iv .i64 (.var 6),heap:=[],post:=fun ρ=>0 <= (ρ 6).i↔(ρ 5).i ∈ qw (ρ 3).d }] }
def qt6:Inv:={ key:=2,nv:=1,env:=[(0,bS 0),(1,iv .i64 (.var 5)),(6,bS 0),(7,iv .i64 (.var 1)),(8,iv .i64 (.var 1000))],heap:=[],inv:=(fun ρ=>0 <= (ρ 1000).i/\(ρ 1000).i <= (ρ 1).i/\(ρ 5).i ∉ (qw (ρ 3).d).take (ρ 1000).i.toNat),mu:=(fun ρ=>((ρ 1).i - (ρ 1000).i).toNat) }
def qaF:Ctr:={ fn := 84,nv:=6,args:=[bS 0,iv .i64 (.var 5)],heap:=[],ro:=[qe3 0],pre:=fun ρ=>qbZ ρ 0,alts:=[{ k:=1,ret:=.one (.vbool (.var 6)),heap:=[],post:=fun ρ=>(ρ 6).b = decide ((ρ 5).i ∈ qw (ρ 3).d) }] }
end Go.Eng

set_option linter.unusedSimpArgs false
set_option linter.unusedVariables false
set_option maxRecDepth 100000
namespace Go.Proofs
open Go Go.Eng

def qqz:Out:=(.need (.cmp .leq (.lit 0) (.var 1)) (.inv 0 6 (sg 1000 [bt 1000 (.lit 0)]) (.fresh 6 (.hyp 0 6 (.br (.cmp .lss (.var 6) (.var 1))
 (.need (.cmp .leq (.lit 0) (.var 6)) (.need (.cmp .lss (.var 6) (.dlen (.var 3))) (.br (.cmp .eql (.var 5) (.icell (.var 3) (.var 6) 0))
 (.ret 0 (sg 6 [bv 6 6]))
 (.back 0 6 (sg 1000 [bt 1000 (.arith .add .i64 (.var 6) (.lit 1))])))))
 (.ret 0 (sg 6 [bt 6 (.lit (-1))])))))))
theorem qyp:qj ⟨Tryz.prog,qeA,[],[qt6]⟩ 100000 Tryz.f121 = qqz:=by kernel_rfl
theorem q4w (hd:∀ c ∈ ([]:List Ctr),c.ok Tryz.prog) (h:∀ ρ:Env,ρ.good->(qeA).pre ρ->qqz.den ⟨Tryz.prog,qeA,[],[qt6]⟩ ρ):(qeA).ok Tryz.prog :=
 qc Tryz.func121 (fun a w=>Tryz.call121 a w) hd 100000 (fun ρ hg hp=>by rw [qyp]; exact h ρ hg hp)
def qj6:Out:=(.pre 0 (sg 0 [bv 4 4,bv 3 3,bv 5 5,bv 2 2,bv 1 1,bg 0 0]) (.both (.fresh 6 (.post 0 0 (sg 0 [bv 4 4,bv 3 3,bv 5 5,bv 2 2,bv 1 1,bg 0 0]) 6 (.ret 0 (sg 6 [bt 6 (.cmp .geq (.var 6) (.lit 0))])))) .top))
theorem qse:qj ⟨Tryz.prog,qaF,[qeA],[]⟩ 100000 Tryz.f84 = qj6:=by kernel_rfl
theorem qvy (hd:∀ c ∈ ([qeA]:List Ctr),c.ok Tryz.prog) (h:∀ ρ:Env,ρ.good->(qaF).pre ρ->qj6.den ⟨Tryz.prog,qaF,[qeA],[]⟩ ρ):(qaF).ok Tryz.prog :=
 qc Tryz.func84 (fun a w=>Tryz.call84 a w) hd 100000 (fun ρ hg hp=>by rw [qse]; exact h ρ hg hp)
end Go.Proofs

set_option linter.unusedSimpArgs false
set_option linter.unusedVariables false
namespace Go.Proofs
open Go Go.Eng
set_option maxRecDepth 20000
theorem qec {L:List Int} {n:Nat}:qG L (n + 1) = qG L n ++ (if (n:Int) ∈ L then [(n:Int)] else []):=by
 unfold qG
 rw [List.range_succ,List.map_append,List.filter_append]
 congr 1
 simp only [List.map_cons,List.map_nil,List.filter_cons,List.filter_nil,decide_eq_true_eq]
theorem qlO {d:qe} {x:Int}:qw (d ++ [[.int .i64 x]]) = qw d ++ [x]:=by simp [qw,qbB,qad]
theorem q3S:qeA.ok Tryz.prog:=q4w (by simp) fun ρ hg hp=>by
 obtain ⟨hl,h1,hr⟩:=hp
 simp only [Nat.reduceAdd] at hl h1 hr
 simp (config:={ maxSteps:=4000000 }) [qqz,qeA,qt6,hl]
 have hil:=qcE (d:=(ρ 3).d)
 intro i _ i0 i1 hno
 refine ⟨fun hi=>⟨i0,hi,fun he=>⟨fun _=>?_,fun _=>i0⟩,fun hne=>?_⟩,fun hi=>?_⟩
 ·rw [he,qem i0 hi,List.getD_eq_getElem?_getD,List.getElem?_eq_getElem (by omega)]
  exact List.getElem_mem _
 ·rw [qem i0 hi] at hne
  rw [add64 (x:=i.i) (by omega) (by omega)]
  refine ⟨⟨by omega,by omega,?_⟩,by omega⟩
  rw [show (i.i + 1).toNat = i.i.toNat + 1 by omega,qip (by omega),List.mem_append,List.mem_singleton]
  exact fun h=>h.elim hno fun h=>hne h
 ·rw [List.take_of_length_le (by omega)] at hno
  exact hno
theorem qmJ:qaF.ok Tryz.prog:=qvy (by simp [q3S]) fun ρ hg hp=>by
 obtain ⟨hl,h1,hr⟩:=hp
 simp only [Nat.reduceAdd] at hl h1 hr
 simp (config:={ maxSteps:=4000000 }) [qj6,qaF,qeA,qe3,qbZ,hl]
 refine ⟨⟨by omega,hr⟩,fun u _ hu=>?_⟩
 show decide (u.i ≥ 0) = _
 exact decide_eq_decide.2 hu
end Go.Proofs

set_option linter.unusedSimpArgs false
set_option linter.unusedVariables false
namespace Go.Eng
open Go Go.Proofs
def qkE (o:List Int) (self n:Int) (L:List Int):Bool:=decide (1 <= n) && decide (n <= (((qc4 L).filter fun i=>qO o i self).length:Int))
def q6P (ρ:Env) (g:Nat):Prop:=qQ (qf (ρ 0).d 32)/\qbZ ρ 3/\gOk ρ 8 9 g
def q3g:Ctr:={ fn := 37,nv:=10,ip:=[gIp 8],args:=[dgV 0,iv .i64 (.var 1),iv .i64 (.var 2),bS 3],heap:=[],ro:=[qe3 3,gHp 8 9],pre:=fun ρ=>q6P ρ gR,alts:=[{ k:=1,ret:=.one (.vbool (.var 10)),heap:=[],post:=fun ρ=>(ρ 10).b = qkE (qf (ρ 0).d 32) (ρ 1).i (ρ 2).i (qw (ρ 6).d) }] }
def q69:Inv:={ key:=3,nv:=3,env:=[(1,iv .i64 (.var 1)),(2,iv .i64 (.var 2)),(4,.one (.vptr 1000 (.lit 0) 32 0)),(9,iv .i64 (.var 1002)),(13,b16 11),(14,iv .i64 (.var 1001))],heap:=[.cells 1000 24 (qaK .u8 0 32)],inv:=(fun ρ=>0 <= (ρ 1001).i/\(ρ 1001).i <= 16/\(ρ 1002).i = (((qG (qw (ρ 6).d) (ρ 1001).i.toNat).filter fun i=>qO (qf (ρ 0).d 32) i (ρ 1).i).length:Int)),mu:=(fun ρ=>(16 - (ρ 1001).i).toNat) }
end Go.Eng

set_option linter.unusedSimpArgs false
set_option linter.unusedVariables false
namespace Go.Proofs
open Go Go.Eng
end Go.Proofs

set_option linter.unusedSimpArgs false
set_option linter.unusedVariables false
namespace Go.Eng
open Go Go.Proofs
def qA (o:List Int) (p:Int):List Value:=.int .i64 p :: (qJ o p).map (Value.int .u8)
def qan (o l:List Int):List Int:=l.mergeSort fun a b=>!qO o b a
def qaV (o live:List Int) (n:Int):List Int:=(qan o (qc4 live)).take n.toNat
def qdH (d:qe) (n:Int) (l:List Int):Prop:=n = d.length/\qw d = l/\∀ row ∈ d,row.length = 1
def qtZ (r d c:Nat):SH:=.arr r 153 kRk (.var d) (.var c)
def rkS (r l c:Nat):SV:=.one (.vslice r (.lit 0) (.var l) (.var c) 33)
def qef:Ctr:={ fn := 83,nv:=4,args:=[rkS 0 1 2,.fn (.func 81) [] []],heap:=[qtZ 0 3 2],ro:=[],pre:=fun ρ=>(ρ 1).i = (ρ 3).d.length/\(ρ 1).i <= 1000000/\∃ o L:List Int,qQ o/\(ρ 3).d = L.map (qA o)/\∀ x ∈ L,0 <= x/\x < 16,alts:=[
 { k:=1,ret:=.tup [],heap:=[qtZ 0 4 2],post:=fun ρ=>∀ o L:List Int,qQ o->(ρ 3).d = L.map (qA o)->(∀ x ∈ L,0 <= x/\x < 16)->(ρ 4).d = (qan o L).map (qA o) }] }
def q4I (r:Nat):SH:=.cells r 24 (qaK .u8 0 32)
def q2o (r:Nat):SV:=.one (.vptr r (.lit 0) 32 0)
def qs2 (ρ:Env) (g:Nat):Prop:=qQ (qf (ρ 0).d 32)/\qbZ ρ 1/\gOk ρ 7 8 g
def qaY:Ctr:={ fn := 32,nv:=9,ip:=[gIp 7],args:=[dgV 0,bS 1,iv .i64 (.var 6)],heap:=[],ro:=[qe3 1,gHp 7 8],pre:=fun ρ=>qs2 ρ gR,alts:=[
 { k:=4,ret:=.one (.vslice 9 (.lit 0) (.var 10) (.var 11) 1),heap:=[iHp 9 12 11],post:=fun ρ=>qdH (ρ 12).d (ρ 10).i (qaV (qf (ρ 0).d 32) (qw (ρ 4).d) (ρ 6).i) }] }
def qpS:Inv:={ key:=3,nv:=6,env:=[(2,iv .i64 (.var 6)),(3,q2o 1000),(7,rkS 1002 1003 1004),(14,b16 10),(15,iv .i64 (.var 1001))],heap:=[q4I 1000,qtZ 1002 1005 1004],inv:=(fun ρ=>0 <= (ρ 1001).i/\(ρ 1001).i <= 16/\(ρ 1003).i = (ρ 1005).d.length/\(ρ 1005).d = (qG (qw (ρ 4).d) (ρ 1001).i.toNat).map (qA (qf (ρ 0).d 32))),mu:=(fun ρ=>(16 - (ρ 1001).i).toNat) }
def qqK:Inv:={ key:=11,nv:=9,env:=[(36,rkS 1000 1001 1002),(37,iv .i64 (.var 1001)),(38,iv .i64 (.var 1003)),(10,.one (.vslice 1004 (.lit 0) (.var 1005) (.var 1006) 1))],heap:=[qtZ 1000 1007 1002,iHp 1004 1008 1006],inv:=(fun ρ=>0 <= (ρ 1003).i/\(ρ 1003).i <= (ρ 1001).i/\(ρ 1001).i <= (ρ 1007).d.length/\(ρ 1007).d = (qan (qf (ρ 0).d 32) (qc4 (qw (ρ 4).d))).map (qA (qf (ρ 0).d 32))/\(ρ 1001).i = min (max (ρ 6).i 0) ((qan (qf (ρ 0).d 32) (qc4 (qw (ρ 4).d))).length:Int)/\qdH (ρ 1008).d (ρ 1005).i ((qan (qf (ρ 0).d 32) (qc4 (qw (ρ 4).d))).take (ρ 1003).i.toNat)),mu:=(fun ρ=>((ρ 1001).i - (ρ 1003).i).toNat) }
def qgb (n:Int):List Int:=(List.range (min (max n 0) 16).toNat).map fun (i:Nat)=>(i:Int)
def qkm (o:List Int) (n:Int):List Int:=qaV o (qgb n) 16
def qcj:Ctr:={ fn := 29,nv:=4,ip:=[gIp 2],args:=[dgV 0,iv .i64 (.var 1)],heap:=[],ro:=[gHp 2 3],pre:=fun ρ=>qQ (qf (ρ 0).d 32)/\gOk ρ 2 3 gR,alts:=[
 { k:=4,ret:=.one (.vslice 4 (.lit 0) (.var 5) (.var 6) 1),heap:=[iHp 4 7 6],post:=fun ρ=>qdH (ρ 7).d (ρ 5).i (qkm (qf (ρ 0).d 32) (ρ 1).i) }] }
def qn1:Inv:={ key:=3,nv:=7,env:=[(2,q2o 1000),(5,.one (.vslice 1001 (.lit 0) (.var 1002) (.var 1003) 1)),(10,iv .i64 (.var 1006)),(11,iv .i64 (.var 1005))],heap:=[q4I 1000,iHp 1001 1004 1003],inv:=(fun ρ=>0 <= (ρ 1005).i/\(ρ 1005).i <= (ρ 1006).i/\(ρ 1006).i = min (max (ρ 1).i 0) 16/\qdH (ρ 1004).d (ρ 1002).i (qgb (ρ 1005).i)),mu:=(fun ρ=>((ρ 1006).i - (ρ 1005).i).toNat) }
def qg2 (o:List Int) (self:Int) (L:List Int) (n:Int) (held buried:Bool):Int :=
 if buried then (if held then 3 else 0) else if n < 1 then 0 else if self ∈ qaV o L n then (if held then 0 else 1) else if held = true/\((qaV o L n).length:Int) = n then 2 else 0
def q45 (ρ:Env) (g:Nat):Prop:=qQ (qf (ρ 0).d 32)/\qbZ ρ 2/\gOk ρ 10 11 g
def qfK:Ctr:={ fn := 35,nv:=12,ip:=[gIp 10],args:=[dgV 0,iv .i64 (.var 1),bS 2,iv .i64 (.var 7),.one (.vbool (.var 8)),.one (.vbool (.var 9))],heap:=[],ro:=[qe3 2,gHp 10 11],pre:=fun ρ=>q45 ρ gR,alts:=[
 { k:=1,ret:=iv .u8 (.var 12),heap:=[],post:=fun ρ=>(ρ 12).i = qg2 (qf (ρ 0).d 32) (ρ 1).i (qw (ρ 5).d) (ρ 7).i (ρ 8).b (ρ 9).b }] }
end Go.Eng

set_option linter.unusedSimpArgs false
set_option linter.unusedVariables false
set_option maxRecDepth 100000
namespace Go.Proofs
open Go Go.Eng

def qns:Out:=(.fresh 9 (.pre 0 (sg 0 [bv 4 5,bv 3 4,bv 2 3,bv 1 2,bg 0 1]) (.both (.fresh 10 (.fresh 11 (.fresh 12 (.fresh 13 (.fresh 14 (.fresh 15 (.fresh 16 (.fresh 17 (.fresh 18 (.fresh 19 (.fresh 20 (.fresh 21 (.fresh 22 (.fresh 23 (.fresh 24 (.fresh 25 (.post 0 0 (sg 0 [bv 4 5,bv 3 4,bv 2 3,bv 1 2,bg 0 1]) 10 (.inv 0 26 (sg 1000 [bt 1005 .dnil,bt 1001 (.lit 0),bt 1004 (.lit 0),bt 1003 (.lit 0),(1002,.nil),bg 1000 9]) (.fresh 26 (.fresh 27 (.fresh 28 (.fresh 29 (.fresh 30 (.fresh 31 (.hyp 0 26 (.br (.cmp .lss (.var 27) (.lit 16))
 (.need (.cmp .leq (.lit 0) (.var 27)) (.br (.c2 (.xbool 0) (.rcons (.vbool (.var 10)) (.rcons (.vbool (.var 11)) (.rcons (.vbool (.var 12)) (.rcons (.vbool (.var 13)) (.rcons (.vbool (.var 14)) (.rcons (.vbool (.var 15)) (.rcons (.vbool (.var 16)) (.rcons (.vbool (.var 17)) (.rcons (.vbool (.var 18)) (.rcons (.vbool (.var 19)) (.rcons (.vbool (.var 20)) (.rcons (.vbool (.var 21)) (.rcons (.vbool (.var 22)) (.rcons (.vbool (.var 23)) (.rcons (.vbool (.var 24)) (.rcons (.vbool (.var 25)) .rnil)))))))))))))))) (.var 27))
 (.pre 1 (sg 0 [bv 3 8,bv 1 27,bt 0 (r8 0),bg 2 7]) (.both (.fresh 32 (.fresh 33 (.post 1 0 (sg 0 [bv 3 8,bv 1 27,bt 0 (r8 0),bg 2 7]) 32 (.fresh 34 (.need (.cmp .eql (.var 29) (.dlen (.var 31))) (.need (.cmp .leq (.tims (.lit 40) (.plus (.var 29) (.lit 1))) (.lit 140737488355328)) (.fresh 35 (.fresh 36 (.back 0 26 (sg 1000 [bt 1005 (.dapp (.var 31) (.rcons (.vint .i64 (.var 27)) (r8 32))),bt 1001 (.arith .add .i64 (.var 27) (.lit 1)),bv 1004 36,bt 1003 (.plus (.var 29) (.lit 1)),bg 1002 35,bg 1000 26])))))))))) .top))
 (.back 0 26 (sg 1000 [bv 1005 31,bt 1001 (.arith .add .i64 (.var 27) (.lit 1)),bv 1004 30,bv 1003 29,bg 1002 28,bg 1000 26]))))
 (.pre 2 (sg 0 [bv 3 31,bv 2 30,bv 1 29,bg 0 28]) (.both (.fresh 32 (.post 2 0 (sg 0 [bv 3 31,bv 2 30,bv 1 29,bg 0 28]) 32 (.fresh 33 (.need (.cmp .leq (.lit 0) (.var 29)) (.know (.cmp .leq (.dlen (.var 32)) (.var 30)) (.need (.cmp .leq (.lit 0) (.var 30)) (.need (.cmp .leq (.lit 0) (.imin (.imax (.var 6) (.lit 0)) (.var 29))) (.need (.cmp .leq (.imin (.imax (.var 6) (.lit 0)) (.var 29)) (.var 30)) (.inv 1 34 (sg 1000 [bt 1008 .dnil,bv 1007 32,bt 1006 (.lit 0),bt 1005 (.lit 0),bg 1004 33,bt 1003 (.lit 0),bv 1002 30,bt 1001 (.imin (.imax (.var 6) (.lit 0)) (.var 29)),bg 1000 28]) (.fresh 34 (.fresh 35 (.fresh 36 (.fresh 37 (.fresh 38 (.fresh 39 (.fresh 40 (.fresh 41 (.fresh 42 (.hyp 1 34 (.br (.cmp .lss (.var 37) (.var 35))
 (.need (.cmp .leq (.lit 0) (.var 37)) (.need (.cmp .lss (.var 37) (.dlen (.var 41))) (.fresh 43 (.fresh 44 (.need (.cmp .eql (.var 39) (.dlen (.var 42))) (.need (.cmp .leq (.tims (.lit 8) (.plus (.var 39) (.lit 1))) (.lit 140737488355328)) (.fresh 45 (.fresh 46 (.back 1 34 (sg 1000 [bt 1008 (.dapp (.var 42) (.rcons (.vint .i64 (.icell (.var 41) (.var 37) 0)) .rnil)),bv 1007 41,bv 1006 46,bt 1005 (.plus (.var 39) (.lit 1)),bg 1004 45,bt 1003 (.arith .add .i64 (.var 37) (.lit 1)),bv 1002 36,bv 1001 35,bg 1000 34]))))))))))
 (.ret 0 (sg 9 [bv 12 42,bv 11 40,bv 10 39,bg 9 38])))))))))))))))))))))) .top)))))))))))))))))))))))))))) .top)))
theorem qwn:qj ⟨Tryz.prog,qaY,[qdM,qdA,qef],[qpS,qqK]⟩ 100000 Tryz.f32 = qns:=by kernel_rfl
theorem qzM (hd:∀ c ∈ ([qdM,qdA,qef]:List Ctr),c.ok Tryz.prog) (h:∀ ρ:Env,ρ.good->(qaY).pre ρ->qns.den ⟨Tryz.prog,qaY,[qdM,qdA,qef],[qpS,qqK]⟩ ρ):(qaY).ok Tryz.prog :=
 qc Tryz.func32 (fun a w=>Tryz.call32 a w) hd 100000 (fun ρ hg hp=>by rw [qwn]; exact h ρ hg hp)
def qln:Out:=(.fresh 4 (.fresh 5 (.inv 0 6 (sg 1000 [bt 1004 .dnil,bt 1005 (.lit 0),bt 1006 (.imin (.imax (.var 1) (.lit 0)) (.lit 16)),bt 1003 (.lit 0),bt 1002 (.lit 0),bg 1001 5,bg 1000 4]) (.fresh 6 (.fresh 7 (.fresh 8 (.fresh 9 (.fresh 10 (.fresh 11 (.fresh 12 (.hyp 0 6 (.br (.cmp .lss (.var 11) (.var 12))
 (.fresh 13 (.need (.cmp .eql (.var 8) (.dlen (.var 10))) (.need (.cmp .leq (.tims (.lit 8) (.plus (.var 8) (.lit 1))) (.lit 140737488355328)) (.fresh 14 (.fresh 15 (.back 0 6 (sg 1000 [bt 1004 (.dapp (.var 10) (.rcons (.vint .i64 (.var 11)) .rnil)),bt 1005 (.arith .add .i64 (.var 11) (.lit 1)),bv 1006 12,bv 1003 15,bt 1002 (.plus (.var 8) (.lit 1)),bg 1001 14,bg 1000 6])))))))
 (.pre 0 (sg 0 [bv 8 3,bv 5 9,bv 4 10,bt 6 (.lit 16),bv 3 9,bv 2 8,bg 1 7,bt 0 (r8 0),bg 7 2]) (.both (.fresh 13 (.fresh 14 (.fresh 15 (.fresh 16 (.post 0 0 (sg 0 [bv 8 3,bv 5 9,bv 4 10,bt 6 (.lit 16),bv 3 9,bv 2 8,bg 1 7,bt 0 (r8 0),bg 7 2]) 13 (.ret 0 (sg 4 [bv 7 16,bv 6 15,bv 5 14,bg 4 13]))))))) .top))))))))))))))
theorem qtP:qj ⟨Tryz.prog,qcj,[qaY],[qn1]⟩ 100000 Tryz.f29 = qln:=by kernel_rfl
theorem qzG (hd:∀ c ∈ ([qaY]:List Ctr),c.ok Tryz.prog) (h:∀ ρ:Env,ρ.good->(qcj).pre ρ->qln.den ⟨Tryz.prog,qcj,[qaY],[qn1]⟩ ρ):(qcj).ok Tryz.prog :=
 qc Tryz.func29 (fun a w=>Tryz.call29 a w) hd 100000 (fun ρ hg hp=>by rw [qtP]; exact h ρ hg hp)
def qud:Out:=(.fresh 12 (.br (.var 9)
 (.br (.var 8)
 (.ret 0 (sg 12 [bt 12 (.lit 3)]))
 (.ret 0 (sg 12 [bt 12 (.lit 0)])))
 (.br (.cmp .lss (.var 7) (.lit 1))
 (.ret 0 (sg 12 [bt 12 (.lit 0)]))
 (.pre 0 (sg 0 [bv 8 11,bv 5 6,bv 4 5,bv 6 7,bv 3 4,bv 2 3,bg 1 2,bt 0 (r8 0),bg 7 10]) (.both (.fresh 13 (.fresh 14 (.fresh 15 (.fresh 16 (.post 0 0 (sg 0 [bv 8 11,bv 5 6,bv 4 5,bv 6 7,bv 3 4,bv 2 3,bg 1 2,bt 0 (r8 0),bg 7 10]) 13 (.pre 1 (sg 0 [bv 4 15,bv 3 16,bv 5 1,bv 2 15,bv 1 14,bg 0 13]) (.both (.fresh 17 (.post 1 0 (sg 0 [bv 4 15,bv 3 16,bv 5 1,bv 2 15,bv 1 14,bg 0 13]) 17 (.br (.var 17)
 (.br (.not (.var 8))
 (.ret 0 (sg 12 [bt 12 (.lit 1)]))
 (.ret 0 (sg 12 [bt 12 (.lit 0)])))
 (.br (.var 8)
 (.need (.cmp .leq (.lit 0) (.var 14)) (.br (.cmp .eql (.var 14) (.var 7))
 (.ret 0 (sg 12 [bt 12 (.lit 2)]))
 (.ret 0 (sg 12 [bt 12 (.lit 0)]))))
 (.ret 0 (sg 12 [bt 12 (.lit 0)])))))) .top))))))) .top)))))
theorem q0i:qj ⟨Tryz.prog,qfK,[qaY,qaF],[]⟩ 100000 Tryz.f35 = qud:=by kernel_rfl
theorem q5v (hd:∀ c ∈ ([qaY,qaF]:List Ctr),c.ok Tryz.prog) (h:∀ ρ:Env,ρ.good->(qfK).pre ρ->qud.den ⟨Tryz.prog,qfK,[qaY,qaF],[]⟩ ρ):(qfK).ok Tryz.prog :=
 qc Tryz.func35 (fun a w=>Tryz.call35 a w) hd 100000 (fun ρ hg hp=>by rw [q0i]; exact h ρ hg hp)
end Go.Proofs

set_option linter.unusedSimpArgs false
set_option linter.unusedVariables false
namespace Go.Proofs
open Go Go.Eng
variable {o:List Int}
theorem qjd {a b:Int}:(!qO o b a) = true↔qcT o a b <= 0:=by
 rw [qfk,Bool.not_eq_true',decide_eq_false_iff_not,qjS (a:=a) (b:=b)]; omega
theorem qhc {l:List Int}:(qan o l).Perm l:=List.mergeSort_perm l _
theorem q28 {l:List Int}:(qan o l).Pairwise fun a b=>(!qO o b a) = true:=by
 refine List.pairwise_mergeSort (fun a b c h1 h2=>?_) (fun a b=>?_) l
 ·rw [qjd] at h1 h2 ⊢
  by_cases e1:qcT o a b = 0
  ·rw [qfw.1 e1]; exact h2
  ·by_cases e2:qcT o b c = 0
   ·rw [<- qfw.1 e2]; exact h1
   ·have:=qjG (o:=o) (a:=a) (b:=b) (c:=c) (by omega) (by omega)
    omega
 ·rw [Bool.or_eq_true,qjd,qjd,qjS (a:=a) (b:=b)]; omega
theorem qtO {l:List Int} (h:l.Nodup):qmm o l (qan o l):=by
 refine ⟨qhc,?_⟩
 have hn:(qan o l).Nodup:=qhc.nodup_iff.2 h
 refine List.Pairwise.imp₂ (fun a b h1 h2=>?_) q28 hn
 rcases qqY (o:=o) h2 with h | h
 ·exact h
 ·rw [h] at h1; cases h1
theorem qzp {l m:List Int} (h:qmm o l m) (hn:l.Nodup):m = qan o l:=qv7 h (qtO hn)
theorem q0G {l:List Int} {x:Int}:x ∈ qan o l↔x ∈ l:=qhc.mem_iff
theorem qim {l:List Int}:(qan o l).length = l.length:=qhc.length_eq
theorem qmR {L:List Int} {n:Nat} {x:Int}:x ∈ qG L n↔0 <= x/\x < n/\x ∈ L:=by
 unfold qG
 rw [List.mem_filter,List.mem_map]
 constructor
 ·rintro ⟨⟨i,hi,rfl⟩,h⟩
  rw [List.mem_range] at hi
  exact ⟨by omega,by omega,of_decide_eq_true h⟩
 ·rintro ⟨h0,h1,h2⟩
  exact ⟨⟨x.toNat,List.mem_range.2 (by omega),by omega⟩,decide_eq_true h2⟩
theorem q1G {L:List Int}:qc4 L = qG L 16:=rfl
theorem qmQ {p:Int}:qQ (qJ o p):=qfU _
theorem qkt {p:Int}:(qJ o p).length = 32:=q5V
theorem qhZ {p:Int}:(qA o p).length = 33:=by simp [qA,qkt]
theorem qtF {l:List Int}:qw (l.map (qA o)) = l:=by
 unfold qw
 rw [List.map_map]
 conv=>rhs; rw [<- List.map_id l]
 exact List.map_congr_left fun x _=>rfl
end Go.Proofs

set_option linter.unusedSimpArgs false
set_option linter.unusedVariables false
namespace Go.Proofs
open Go Go.Eng
set_option maxRecDepth 20000
theorem qyS {l:List Bool} {i:Nat}:qaL [l.map Value.bool] i = l.getD i false:=by
 unfold qaL
 rw [List.headD_cons,List.getElem?_map,List.getD_eq_getElem?_getD]
 cases l[i]? <;> rfl
theorem qcZ {l:List Bool} {L:List Int} {n:Nat} (h:qeC l L) (hn:L.length <= n):qdq [l.map Value.bool] L n:=by
 refine ⟨⟨_,rfl,by rw [List.length_map]; exact h.1⟩,fun x x0 x1=>?_⟩
 rw [qyS,List.take_of_length_le hn]
 have:=h.2 x.toNat (by omega)
 rwa [Int.toNat_of_nonneg x0] at this
theorem qdI {D:qe}:(qw D).length <= D.length:=by simp [qw]
theorem qeX {d:qe} {L:List Int} {n:Nat} {x:Int} (h:qdq d L n) (hn:L.length <= n) (x0:0 <= x) (x1:x < 16):qaL d x.toNat = true↔x ∈ L:=by
 have:=h.2 x x0 x1
 rwa [List.take_of_length_le hn] at this
theorem qs6 {d:qe} {L:List Int} {n:Nat} (h:qdq d L n):0 < d.length:=by obtain ⟨⟨row,e,_⟩,_⟩:=h; rw [e]; exact Nat.one_pos
theorem qfd {i:Int} (h0:0 <= i) (h1:i < 1000000000000):qd .add .i64 i 1 = i + 1:=add64 (by omega) (by omega)
theorem qjy {d:qe} {L:List Int} {n:Nat} {x:Int} (h:qdq d L n) (hn:L.length <= n) (x0:0 <= x) (x1:x < 16) (hf:qaL d x.toNat = false):x ∉ L:=fun hx=>by
 rw [(qeX h hn x0 x1).2 hx] at hf; cases hf
theorem qpH {D:qe} {row:List Value} {v:Value} (hr:row ∈ D∨row = [v]) (h:∀ row,row ∈ D->row.length = 1):row.length = 1:=hr.elim (h row) fun h=>by rw [h]; rfl
theorem qjj {D:qe} {row:List Value} (hr:row ∈ D) (h:∀ row,row ∈ D->row.length = 1):row.length = 1:=h row hr
theorem q7z {b:Bool} {p:Prop} [Decidable p] (h:b = decide p) (hb:b = true):p:=of_decide_eq_true (h ▸ hb)
theorem qzb {b:Bool} {p:Prop} [Decidable p] (h:b = decide p) (hb:b = false):¬ p:=of_decide_eq_false (h ▸ hb)
theorem qoS {L:List Int}:(qc4 L).length <= 16:=by
 rw [q1G]; unfold qG
 exact Nat.le_trans (List.length_filter_le ..) (by simp)
theorem qwz {o L:List Int} {n:Int}:(qaV o L n).length <= 16:=by
 unfold qaV
 rw [List.length_take,qim]
 have:=qoS (L:=L)
 omega
theorem qvU {o L:List Int} {n:Int} {D:qe} (h:qw D = qaV o L n):D.length <= 16:=by
 have h1:=congrArg List.length h
 rw [qcE] at h1
 have:=qwz (o:=o) (L:=L) (n:=n)
 omega
theorem q6K {o L:List Int} {self n x:Int} {D:qe} {held buried:Bool} (hD:qw D = qaV o L n) (hx:x = (D.length:Int)) (hn:1 <= n) (hm:¬ self ∈ qw D) (hh:held = true) (hb:buried = false) (he:x = n):2 = qg2 o self L n held buried:=by
 have h1:((qaV o L n).length:Int) = n:=by rw [<- hD,qcE]; omega
 rw [hD] at hm
 unfold qg2
 rw [hh,hb,if_neg (by simp),if_neg (by omega),if_neg hm,if_pos ⟨rfl,h1⟩]
theorem q6E {o L:List Int} {self n x:Int} {D:qe} {held buried:Bool} (hD:qw D = qaV o L n) (hx:x = (D.length:Int)) (hn:1 <= n) (hm:¬ self ∈ qw D) (hh:held = true) (hb:buried = false) (he:¬ x = n):0 = qg2 o self L n held buried:=by
 have h1:¬ ((qaV o L n).length:Int) = n:=by rw [<- hD,qcE]; omega
 rw [hD] at hm
 unfold qg2
 rw [hh,hb,if_neg (by simp),if_neg (by omega),if_neg hm,if_neg (fun h=>h1 h.2)]
theorem q5u (hch:qaY.ok Tryz.prog):qfK.ok Tryz.prog:=q5v (by simp [qmJ,hch]) fun ρ hg hp=>by
 obtain ⟨hO,⟨hl,h1,hr⟩,hGr,hGd⟩:=hp
 simp only [Nat.reduceAdd] at hl h1 hr
 simp (config:={ maxSteps:=4000000 }) [qud,qfK,qaY,qaF,qs2,qe3,qbZ,qdH,gOk,hl,hO,hGr,hGd]
 repeat' (first | with_reducible apply And.intro | with_reducible intro _)
 all_goals first
  | assumption
  | omega
  | exact qjj (by assumption) (by assumption)
  | exact (by have:=qvU (by assumption); omega)
  | (unfold qg2; simp_all [qcE]; done)
  | exact q6K (by assumption) (by assumption) (by assumption) (qzb (by assumption) (by assumption)) (by assumption) (by assumption) (by assumption)
  | exact q6E (by assumption) (by assumption) (by assumption) (qzb (by assumption) (by assumption)) (by assumption) (by assumption) (by assumption)
theorem q4z {n:Int}:(qgb n).length = (min (max n 0) 16).toNat:=by simp [qgb]
theorem qx3 {i n:Int} (h:min (max i 0) 16 = min (max n 0) 16):qgb i = qgb n:=by unfold qgb; rw [h]
theorem q1K {i:Int} {D:qe} (hD:qw D = qgb i) (h0:0 <= i) (h1:i < 16):qw (D ++ [[.int .i64 i]]) = qgb (qd .add .i64 i 1):=by
 rw [qfd h0 (by omega),qlO,hD]
 unfold qgb
 rw [show (min (max (i + 1) 0) 16).toNat = (min (max i 0) 16).toNat + 1 by omega,List.range_succ,List.map_append]
 congr 1
 show [i] = [(((min (max i 0) 16).toNat:Nat):Int)]
 congr 1; omega
theorem q1w {i:Int} {D:qe} (hD:qw D = qgb i):D.length <= 16:=by
 have h1:=congrArg List.length hD
 rw [qcE,q4z] at h1
 omega
theorem q2J {o:List Int} {i n:Int} {D E:qe} (hE:qw E = qaV o (qw D) 16) (hD:qw D = qgb i) (h:min (max i 0) 16 = min (max n 0) 16):qw E = qkm o n:=by
 rw [hE,hD,qx3 h]; rfl
theorem qxW (hch:qaY.ok Tryz.prog):qcj.ok Tryz.prog:=qzG (by simp [hch]) fun ρ hg hp=>by
 obtain ⟨hO,hGr,hGd⟩:=hp
 simp (config:={ maxSteps:=4000000 }) [qln,qcj,qn1,qaY,qs2,qe3,qbZ,qdH,gOk,hO,hGr,hGd]
 repeat' (first | with_reducible apply And.intro | with_reducible intro _)
 all_goals first
  | assumption
  | omega
  | exact qjj (by assumption) (by assumption)
  | exact qpH (by assumption) (by assumption)
  | (rw [qfd (by assumption) (by omega)]; omega)
  | rfl
  | exact (by have:=q1w (by assumption); omega)
  | exact q1K (by assumption) (by assumption) (by omega)
  | exact q2J (by assumption) (by assumption) (by omega)
section
variable {o L:List Int}
theorem qmE {L:List Int} {n:Nat}:(qG L n).length <= n:=by
 unfold qG
 exact Nat.le_trans (List.length_filter_le ..) (by simp)
theorem q7e {D:qe} {i:Int} (h:D = (qG L i.toNat).map (qA o)) (h1:i <= 16):D.length <= 16:=by
 rw [h,List.length_map]
 have:=qmE (L:=L) (n:=i.toNat)
 omega
theorem q6F {D v:qe} {i:Int} {l:List Bool} (hD:D = (qG L i.toNat).map (qA o)) (h0:0 <= i) (h1:i < 16) (hb:qeC l L) (hc:qaL [l.map Value.bool] i.toNat = true) (hv:qf v 32 = qJ o i) :
  D ++ [Value.int .i64 i :: (qf v 32).map (Value.int .u8)] = (qG L (qd .add .i64 i 1).toNat).map (qA o):=by
 have hm:i ∈ L:=(qeX (qcZ hb (Nat.le_refl _)) (Nat.le_refl _) h0 h1).1 hc
 rw [qfd h0 (by omega),show (i + 1).toNat = i.toNat + 1 by omega,qec,Int.toNat_of_nonneg h0,if_pos hm,List.map_append,hD,hv]; rfl
theorem q5O {D:qe} {i:Int} {l:List Bool} (hD:D = (qG L i.toNat).map (qA o)) (h0:0 <= i) (h1:i < 16) (hb:qeC l L) (hc:qaL [l.map Value.bool] i.toNat = false) :
  D = (qG L (qd .add .i64 i 1).toNat).map (qA o):=by
 have hm:¬ i ∈ L:=qjy (qcZ hb (Nat.le_refl _)) (Nat.le_refl _) h0 h1 hc
 rw [qfd h0 (by omega),show (i + 1).toNat = i.toNat + 1 by omega,qec,Int.toNat_of_nonneg h0,if_neg hm,List.append_nil,hD]
theorem qkO {D E:qe} {i:Int} (hO:qQ o) (hD:D = (qG L i.toNat).map (qA o)) (h1:i <= 16) (h2:16 <= i) (h:∀ o L:List Int,qQ o->D = L.map (qA o)->(∀ x,x ∈ L->0 <= x/\x < 16)->E = (qan o L).map (qA o)):E = (qan o (qc4 L)).map (qA o)/\E.length = D.length:=by
 have hi:i.toNat = 16:=by omega
 rw [hi] at hD
 have hE:=h o (qG L 16) hO hD (fun x hx=>by have:=qmR.1 hx; omega)
 exact ⟨hE,by rw [hE,hD,List.length_map,List.length_map,qim]⟩
theorem q3M {D:qe} {n:Nat} (hO:qQ o) (hD:D = (qG L n).map (qA o)) (hn:n <= 16):∃ o:List Int,qQ o/\∃ x:List Int,D = x.map (qA o)/\∀ y:Int,y ∈ x->0 <= y/\y < 16 :=
 ⟨o,hO,_,hD,fun x hx=>by have:=qmR.1 hx; omega⟩
theorem q7I {M:List Int} {D:qe} {i:Int} (hD:D = M.map (qA o)) (h0:0 <= i) (h1:i < M.length):qh D i 0 = M.getD i.toNat 0:=by
 have hl:i.toNat < M.length:=by omega
 subst hD
 rw [List.getD_eq_getElem?_getD,List.getElem?_eq_getElem hl]
 simp [qh,qaj,List.getElem?_eq_getElem hl,qA,qad]
theorem take_add {M:List Int} {D E:qe} {i:Int} (hE:E = M.map (qA o)) (hD:qw D = M.take i.toNat) (h0:0 <= i) (h1:i < M.length) (hb:i < 1000000):qw (D ++ [[.int .i64 (qh E i 0)]]) = M.take (qd .add .i64 i 1).toNat:=by
 rw [qfd h0 (by omega),show (i + 1).toNat = i.toNat + 1 by omega,qip (by omega),qlO,hD,q7I hE h0 h1]
theorem q5J {M:List Int} {D:qe} {i:Nat} (hD:qw D = M.take i):D.length <= i/\D.length <= M.length:=by
 have h1:=congrArg List.length hD
 rw [qcE,List.length_take] at h1
 omega
theorem qzg {o L:List Int}:(qan o (qc4 L)).length <= 16:=by rw [qim]; exact qoS
theorem q6W {D:qe} {i n:Int} (hD:qw D = (qan o (qc4 L)).take i.toNat) (h:i = min (max n 0) ((qan o (qc4 L)).length:Int)):qw D = qaV o L n:=by
 rw [hD]
 unfold qaV
 by_cases hn:n.toNat <= (qan o (qc4 L)).length
 ·rw [show i.toNat = n.toNat by omega]
 ·rw [List.take_of_length_le (by omega),List.take_of_length_le (by omega)]
end
theorem q1X (hs:qef.ok Tryz.prog):qaY.ok Tryz.prog:=qzM (by simp [hs,q1q,qwA]) fun ρ hg hp=>by
 obtain ⟨hO,⟨hl,h1,hr⟩,hGr,hGd⟩:=hp
 simp only [Nat.reduceAdd] at hl h1 hr
 simp (config:={ maxSteps:=4000000 }) [qns,qaY,qpS,qqK,qdM,qdA,qef,qs2,qe3,qbZ,qdH,gOk,hl,hO,hGr,hGd]
 have hsl:=qzg (o:=qf (ρ 0).d 32) (L:=qw (ρ 4).d)
 repeat' (first | with_reducible apply And.intro | with_reducible intro _)
 all_goals first
  | assumption
  | omega
  | exact qjj (by assumption) (by assumption)
  | exact qpH (by assumption) (by assumption)
  | (rw [qfd (by assumption) (by omega)]; omega)
  | rfl
  | exact (by have:=q7e (by assumption) (by omega); omega)
  | exact q6F (l:=[_,_,_,_,_,_,_,_,_,_,_,_,_,_,_,_]) (by assumption) (by assumption) (by assumption) (by assumption) (by assumption) (by assumption)
  | exact q5O (l:=[_,_,_,_,_,_,_,_,_,_,_,_,_,_,_,_]) (by assumption) (by assumption) (by assumption) (by assumption) (by assumption)
  | exact q3M hO (by assumption) (by omega)
  | exact (qkO hO (by assumption) (by assumption) (by assumption) (by assumption)).1
  | (have h:=qkO hO (by assumption) (by assumption) (by assumption) (by assumption); have h2:=congrArg List.length h.1; rw [List.length_map] at h2; have h3:=h.2; split <;> split <;> omega)
  | (have h:=qkO hO (by assumption) (by assumption) (by assumption) (by assumption); have h2:=congrArg List.length h.1; rw [List.length_map] at h2; have h3:=h.2; split <;> omega)
  | exact take_add (by assumption) (by assumption) (by assumption) (by omega) (by omega)
  | exact q6W (by assumption) (by omega)
  | (have h2:=q5J (by assumption); omega)
section
variable {o L:List Int} {D E:qe} {n m k b i:Int}
end
end Go.Proofs

set_option linter.unusedSimpArgs false
set_option linter.unusedVariables false
namespace Go.Proofs
open Go Go.Eng Go.RowKit Go.Lib Go.Sort
def qnA (W:World) (p q:Int) (xs ys:List Int):World:=(W.alloc (Obj.cells (Value.int .i64 p :: xs.map (Value.int .u8)).toArray 153)).alloc (Obj.cells (Value.int .i64 q :: ys.map (Value.int .u8)).toArray 153)
theorem qwL {W:World} {p q:Int} {xs ys:List Int}:(qnA W p q xs ys).heap[W.heap.size]? = some (Obj.cells (Value.int .i64 p :: xs.map (Value.int .u8)).toArray 153):=by
 simp only [qnA,World.alloc]
 rw [Array.getElem?_push,if_neg (by simp),Array.getElem?_push,if_pos rfl]
theorem qwU {W:World} {p q:Int} {xs ys:List Int}:(qnA W p q xs ys).heap[W.heap.size + 1]? = some (Obj.cells (Value.int .i64 q :: ys.map (Value.int .u8)).toArray 153):=by
 simp only [qnA,World.alloc]
 rw [Array.getElem?_push,if_pos (by simp)]
theorem q1e {W:World} {b:Nat} {p:Int} {xs:List Int} {ty:TypeId} (h:W.heap[b]? = some (Obj.cells (Value.int .i64 p :: xs.map (Value.int .u8)).toArray ty)) (n j:Nat) (x:Int) (hx:xs[j]? = some x):(W.drewN n).cell? ((⟨b,1,none⟩:Addr).add j) = some (.int .u8 x):=by
 have e:((⟨b,1,none⟩:Addr).add j) = ⟨b,1 + j,none⟩:=by
  unfold Addr.add
  by_cases hj0:j = 0
  ·subst hj0; simp
  ·simp [hj0]
 have h':(W.drewN n).heap[b]? = some (Obj.cells (Value.int .i64 p :: xs.map (Value.int .u8)).toArray ty):=h
 rw [e]
 simp only [World.cell?,h']
 rw [show 1 + j = j + 1 by omega]
 simp [hx]
theorem quh {W:World} {b:Nat} {p:Int} {xs:List Int} {ty:TypeId} (h:W.heap[b]? = some (Obj.cells (Value.int .i64 p :: xs.map (Value.int .u8)).toArray ty)) (n:Nat):(W.drewN n).cell? ⟨b,0,none⟩ = some (.int .i64 p):=by
 have h':(W.drewN n).heap[b]? = some (Obj.cells (Value.int .i64 p :: xs.map (Value.int .u8)).toArray ty):=h
 simp only [World.cell?,h']
 simp
set_option maxHeartbeats 2000000 in
set_option maxRecDepth 100000 in
theorem q0X (p q:Int) (xs ys:List Int) (hx:xs.length = 32) (hy:ys.length = 32) (W:World) :
  Calls Tryz.prog 81 #[.agg (Value.int .i64 p :: xs.map (Value.int .u8)).toArray,.agg (Value.int .i64 q :: ys.map (Value.int .u8)).toArray] W fun e w' =>
   e = .returned (.int .i64 (if compareBytes (Lib.bytesOf xs) (Lib.bytesOf ys) = 0 then RowKit.wrap64 (p - q) else compareBytes (Lib.bytesOf xs) (Lib.bytesOf ys)))/\∃ n os',w' = grow (W.drewN n) os':=by
 have hc:=fun (a b:Addr) (w:World) h1 h2=>qom a b xs ys 32 32 w h1 h2
 rw [hx,hy] at hc
 have c1:=q1e (qwL (W:=W) (p:=p) (q:=q) (xs:=xs) (ys:=ys))
 have c2:=q1e (qwU (W:=W) (p:=p) (q:=q) (xs:=xs) (ys:=ys))
 have c3:=quh (qwL (W:=W) (p:=p) (q:=q) (xs:=xs) (ys:=ys))
 have c4:=quh (qwU (W:=W) (p:=p) (q:=q) (xs:=xs) (ys:=ys))
 have hg:∀ n,∃ m os',(qnA W p q xs ys).drewN n = grow (W.drewN m) os':=fun n=>⟨n,_,by rw [qnA,alloc_eq_grow,alloc_eq_grow,grow_grow]; rfl⟩
 unfold qnA at c1 c2 c3 c4 hg
 generalize compareBytes (Lib.bytesOf xs) (Lib.bytesOf ys) = r at hc ⊢
 go_enter Tryz.func81,Tryz.ntmps81
 go_wp2
 go_quiet ((go_at_call 118; refine Calls.quiet_of_same (hc _ _ _ ?_ ?_); exact c1 _; exact c2 _))
 go_wp2
 all_goals go_ret
 all_goals refine ⟨?_,hg nq⟩
 all_goals simp_all
end Go.Proofs

namespace Go.Proofs
open Go Go.Shelf Go.RowKit Go.Lib Go.Sort
def qvR:Go.Shelf.Ren:=⟨fun | 6=>83 | 15=>120 | 14=>119 | 28=>148 | 29=>149 | 20=>140 | 21=>141 | 22=>142 | 23=>143 | 24=>144 | 25=>145 | 26=>146 | 27=>147 | 46=>172 | 47=>173 | 48=>174 | 49=>175 | 50=>176 | 57=>186 | n=>n,fun | 22=>156 | 24=>153 | 25=>155 | 3=>3 | 39=>187 | 0=>0 | 53=>131 | 55=>113 | 4=>4 | 46=>234 | 45=>233 | 50=>238 | 5=>5 | 9=>9 | 66=>258 | 70=>262 | 76=>271 | 77=>272 | n=>n,fun | n=>n⟩
theorem qwK:SlLaysF0.n6 Tryz.prog qvR:={
 mixed:=by kernel_rfl
 f6:=⟨Tryz.f83.name,by decide,Tryz.func83.trans (congrArg some (by kernel_rfl))⟩
 f14:=⟨Tryz.f119.name,by decide,Tryz.func119.trans (congrArg some (by kernel_rfl))⟩
 f15:=Tryz.func120.trans (congrArg some (by kernel_rfl))
 f20:=⟨Tryz.f140.name,by decide,Tryz.func140.trans (congrArg some (by kernel_rfl))⟩
 f21:=⟨Tryz.f141.name,by decide,Tryz.func141.trans (congrArg some (by kernel_rfl))⟩
 f22:=⟨Tryz.f142.name,by decide,Tryz.func142.trans (congrArg some (by kernel_rfl))⟩
 f23:=⟨Tryz.f143.name,by decide,Tryz.func143.trans (congrArg some (by kernel_rfl))⟩
 f24:=⟨Tryz.f144.name,by decide,Tryz.func144.trans (congrArg some (by kernel_rfl))⟩
 f25:=⟨Tryz.f145.name,by decide,Tryz.func145.trans (congrArg some (by kernel_rfl))⟩
 f26:=⟨Tryz.f146.name,by decide,Tryz.func146.trans (congrArg some (by kernel_rfl))⟩
 f27:=⟨Tryz.f147.name,by decide,Tryz.func147.trans (congrArg some (by kernel_rfl))⟩
 f28:=Tryz.func148.trans (congrArg some (by kernel_rfl))
 f29:=Tryz.func149.trans (congrArg some (by kernel_rfl))
 f46:=⟨Tryz.f172.name,by decide,Tryz.func172.trans (congrArg some (by kernel_rfl))⟩
 f47:=Tryz.func173.trans (congrArg some (by kernel_rfl))
 f48:=Tryz.func174.trans (congrArg some (by kernel_rfl))
 f49:=⟨Tryz.f175.name,by decide,Tryz.func175.trans (congrArg some (by kernel_rfl))⟩
 f50:=⟨Tryz.f176.name,by decide,Tryz.func176.trans (congrArg some (by kernel_rfl))⟩
 f57:=⟨Tryz.f186.name,by decide,Tryz.func186.trans (congrArg some (by kernel_rfl))⟩
 t0:=Tryz.underlying0
 a0:=Tryz.isAgg0
 z0:=Tryz.sizeOf0
 v0:=Tryz.zeroValue0
 t3:=Tryz.underlying3
 a3:=Tryz.isAgg3
 z3:=Tryz.sizeOf3
 v3:=Tryz.zeroValue3
 t4:=Tryz.underlying4
 a4:=Tryz.isAgg4
 z4:=Tryz.sizeOf4
 v4:=Tryz.zeroValue4
 t5:=Tryz.underlying5
 a5:=Tryz.isAgg5
 z5:=Tryz.sizeOf5
 v5:=Tryz.zeroValue5
 t9:=Tryz.underlying9
 a9:=Tryz.isAgg9
 z9:=Tryz.sizeOf9
 v9:=Tryz.zeroValue9
 t22:=Tryz.underlying156
 a22:=Tryz.isAgg156
 z22:=Tryz.sizeOf156
 v22:=Tryz.zeroValue156
 t25:=Tryz.underlying155
 a25:=Tryz.isAgg155
 z25:=Tryz.sizeOf155
 v25:=Tryz.zeroValue155
 t39:=Tryz.underlying187
 a39:=Tryz.isAgg187
 z39:=Tryz.sizeOf187
 v39:=Tryz.zeroValue187
 t45:=Tryz.underlying233
 a45:=Tryz.isAgg233
 z45:=Tryz.sizeOf233
 v45:=Tryz.zeroValue233
 t46:=Tryz.underlying234
 a46:=Tryz.isAgg234
 z46:=Tryz.sizeOf234
 v46:=Tryz.zeroValue234
 t50:=Tryz.underlying238
 a50:=Tryz.isAgg238
 z50:=Tryz.sizeOf238
 v50:=Tryz.zeroValue238
 t53:=Tryz.underlying131
 a53:=Tryz.isAgg131
 z53:=Tryz.sizeOf131
 v53:=Tryz.zeroValue131
 t55:=Tryz.underlying113
 a55:=Tryz.isAgg113
 z55:=Tryz.sizeOf113
 v55:=Tryz.zeroValue113
 t66:=Tryz.underlying258
 a66:=Tryz.isAgg258
 z66:=Tryz.sizeOf258
 v66:=Tryz.zeroValue258
 t70:=Tryz.underlying262
 a70:=Tryz.isAgg262
 z70:=Tryz.sizeOf262
 v70:=Tryz.zeroValue262
 t76:=Tryz.underlying271
 a76:=Tryz.isAgg271
 z76:=Tryz.sizeOf271
 v76:=Tryz.zeroValue271
 t77:=Tryz.underlying272
 a77:=Tryz.isAgg272
 z77:=Tryz.sizeOf272
 v77:=Tryz.zeroValue272 }
end Go.Proofs

set_option linter.unusedSimpArgs false
set_option linter.unusedVariables false
namespace Go.Proofs
open Go Go.Eng Go.Shelf Go.RowKit Go.Lib Go.Sort
def qfe (o:List Int) (p:Fin 16):List Value:=qA o (p.val:Int)
def cfK (o:List Int) (a b:Fin 16):Int:=qcT o (a.val:Int) (b.val:Int)
theorem ltK {o:List Int} {a b:Fin 16}:ltOf (cfK o) a b = qO o (a.val:Int) (b.val:Int):=by unfold ltOf cfK; rw [qfk]
theorem q8k (o:List Int):SWO (ltOf (cfK o)) where
 irrefl x:=by rw [ltK]; exact qxy
 trans x y z h1 h2:=by rw [ltK] at *; exact q09 h1 h2
 ntrans x y z h1 h2:=by
  rw [ltK] at *
  have e1:(!qO o (x.val:Int) (y.val:Int)) = true:=by rw [h1]; rfl
  have e2:(!qO o (y.val:Int) (z.val:Int)) = true:=by rw [h2]; rfl
  rw [qjd] at e1 e2
  have e3:(!qO o (x.val:Int) (z.val:Int)) = true:=by
   rw [qjd]
   by_cases c1:qcT o (y.val:Int) (x.val:Int) = 0
   ·rw [<- qfw.1 c1]; exact e2
   ·by_cases c2:qcT o (z.val:Int) (y.val:Int) = 0
    ·rw [qfw.1 c2]; exact e1
    ·have:=qjG (o:=o) (a:=(z.val:Int)) (b:=(y.val:Int)) (c:=(x.val:Int)) (by omega) (by omega)
     omega
  simpa using e3
theorem q8i (o:List Int) (x y:Fin 16) (h1:ltOf (cfK o) x y = false) (h2:ltOf (cfK o) y x = false):x = y:=by
 rw [ltK] at h1 h2
 by_cases h:x = y
 ·exact h
 ·have hv:(x.val:Int) ≠ (y.val:Int):=fun e=>h (Fin.ext (by omega))
  rcases qqY (o:=o) hv with e | e
  ·rw [e] at h1; cases h1
  ·rw [e] at h2; cases h2
theorem q6i {o:List Int} {p:Int}:qs kRk (qA o p):=by
 refine ⟨by rw [qhZ]; rfl,fun c k v hk hv=>?_⟩
 cases c with
 | zero =>
  simp only [kRk,qA,List.getElem?_cons_zero,Option.some.injEq] at hk hv
  subst hk hv; rfl
 | succ c =>
  simp only [kRk,qA,List.getElem?_cons_succ] at hk hv
  rw [List.getElem?_replicate] at hk
  split at hk
  ·simp only [Option.some.injEq] at hk
   rw [List.getElem?_map] at hv
   obtain ⟨z,_,rfl⟩:=Option.map_eq_some_iff.1 hv
   subst hk; rfl
  ·cases hk
theorem qwR {o:List Int} {p:Int}:∀ v ∈ qA o p,v.oneCell' = true:=fun v hv=>by
 rcases List.mem_cons.1 hv with rfl | hv
 ·rfl
 ·obtain ⟨z,_,rfl⟩:=List.mem_map.1 hv; rfl
def toFin (x:Int):Fin 16:=⟨x.toNat % 16,by omega⟩
theorem qqV {x:Int} (h:0 <= x/\x < 16):((toFin x).val:Int) = x:=by simp only [toFin]; omega
theorem qwB {M:List Int} {d:Array (Fin 16)} (h:d.toList.map (fun p=>(p.val:Int)) = M) {i:Nat} (hi:i < d.size):M[i]? = some ((d[i]!).val:Int):=by
 rw [<- h,List.getElem?_map,List.getElem?_eq_getElem (by simpa using hi),Option.map_some]
 rw [getElem!_pos d i hi]; rfl
theorem qti {o:List Int} {M:List Int} {d:Array (Fin 16)} (h:d.toList.map (fun p=>(p.val:Int)) = M) {i k:Nat} {row:List Value} {v:Value} (hr:(M.map (qA o))[i]? = some row) (hv:row[k]? = some v) :
  i < d.size/\k < 33/\(flatK (qfe o) 33 d)[i * 33 + k]! = v:=by
 rw [List.getElem?_map] at hr
 obtain ⟨x,hx,rfl⟩:=Option.map_eq_some_iff.1 hr
 have hi:i < d.size:=by
  have:=(List.getElem?_eq_some_iff.1 hx).1
  rw [<- h] at this; simpa using this
 have hk:k < 33:=by
  have:=(List.getElem?_eq_some_iff.1 hv).1
  rwa [qhZ] at this
 rw [qwB h hi,Option.some.injEq] at hx
 refine ⟨hi,hk,?_⟩
 have hlt:i * 33 + k < d.size * 33:=by omega
 rw [get_flatK _ _ _ _ hlt,show (i * 33 + k) / 33 = i by omega,show (i * 33 + k) % 33 = k by omega]
 unfold qfe
 rw [hx,List.getElem!_eq_getElem?_getD,hv]; rfl
theorem qwi {o:List Int} {L:List Int} {d:Array (Fin 16)} (h:d.toList.map (fun p=>(p.val:Int)) = L) {w:World} {b:Nat} {c:Array Value} {ty:TypeId} (hb:w.heap[b]? = some (.cells c ty (0,0))) (hr:qV c 0 kRk (L.map (qA o))):HoldsK (qfe o) 33 w b 0 d:=by
 intro j hj
 rw [size_flatK] at hj
 have hi:j / 33 < d.size:=by omega
 have hrow:(L.map (qA o))[j / 33]? = some (qA o ((d[j / 33]!).val:Int)):=by rw [List.getElem?_map,qwB h hi]; rfl
 have hkl:j % 33 < (qA o ((d[j / 33]!).val:Int)).length:=by rw [qhZ]; omega
 have hv:=(hr _ _ hrow).2 (j % 33) _ (List.getElem?_eq_getElem hkl)
 have hf:=(qti h hrow (List.getElem?_eq_getElem hkl)).2.2
 rw [show j / 33 * 33 + j % 33 = j by omega] at hf
 have hlen:kRk.length = 33:=rfl
 rw [hlen,show 0 + j / 33 * 33 + j % 33 = j by omega] at hv
 refine ⟨?_,by simp [World.frozen?,hb]⟩
 show w.cell? ⟨b,0 + j,none⟩ = some (id (flatK (qfe o) 33 d)[j]!)
 simp only [World.cell?,hb,Nat.zero_add,id]
 rw [hf,hv]; rfl
theorem qyM {o:List Int} {w:World} {b n:Nat} {d:Array (Fin 16)} {os:Array Obj} {c:Array Value} {ty:TypeId} (hb:w.heap[b]? = some (.cells c ty (0,0))) :
  (sortWorldK (qfe o) 33 w b 0 n d os).heap[b]? = some (.cells (putCells id 0 (flatK (qfe o) 33 d) c) ty (0,0)):=by
 have hlt:b < w.heap.size:=(Array.getElem?_eq_some_iff.1 hb).1
 unfold sortWorldK grow putRowK putRow mapBlock
 have e:(Go.Sort.ahead w n).heap = w.heap:=rfl
 simp only [e]
 rw [Array.getElem?_append_left (by simpa using hlt),Array.getElem?_modify,if_pos rfl,hb]; rfl
theorem qvJ {o:List Int} {w:World} {b x n:Nat} {d:Array (Fin 16)} {os:Array Obj} {X:Obj} (hx:w.heap[x]? = some X) (hne:x ≠ b):(sortWorldK (qfe o) 33 w b 0 n d os).heap[x]? = some X:=by
 have hlt:x < w.heap.size:=(Array.getElem?_eq_some_iff.1 hx).1
 unfold sortWorldK grow putRowK putRow mapBlock
 have e:(Go.Sort.ahead w n).heap = w.heap:=rfl
 simp only [e]
 rw [Array.getElem?_append_left (by simpa using hlt),Array.getElem?_modify,if_neg (Ne.symm hne),hx]
theorem qzL {o:List Int} {M:List Int} {d:Array (Fin 16)} (h:d.toList.map (fun p=>(p.val:Int)) = M) {c:Array Value} (hc:d.size * 33 <= c.size):qV (putCells id 0 (flatK (qfe o) 33 d) c) 0 kRk (M.map (qA o)):=by
 intro i row hi
 have hfit:qs kRk row:=by
  rw [List.getElem?_map] at hi
  obtain ⟨x,_,rfl⟩:=Option.map_eq_some_iff.1 hi
  exact q6i
 refine ⟨hfit,fun k v hv=>?_⟩
 obtain ⟨h1,h2,h3⟩:=qti h hi hv
 have hlen:kRk.length = 33:=rfl
 rw [hlen,Nat.zero_add]
 have hlt:i * 33 + k < d.size * 33:=by omega
 unfold putCells
 rw [Array.getElem?_mapIdx,Array.getElem?_eq_getElem (by omega),Option.map_some,if_pos ⟨by omega,by rw [size_flatK]; omega⟩,Nat.sub_zero,h3]; rfl
theorem q8f (o:List Int) (ho:qQ o) (x y:Fin 16) (W:World):Calls Tryz.prog 81 #[.agg (qfe o x).toArray,.agg (qfe o y).toArray] W fun e w'=>e = .returned (.int .i64 (cfK o x y))/\∃ q os',w' = grow (W.drewN q) os':=by
 refine (q0X (x.val:Int) (y.val:Int) (qJ o x.val) (qJ o y.val) qkt qkt W).mono fun e w' h=>?_
 obtain ⟨rfl,h⟩:=h
 refine ⟨?_,h⟩
 rw [qlm qmQ qmQ]
 have hx:=x.isLt
 have hy:=y.isLt
 unfold cfK qcT
 by_cases he:qJ o (x.val:Int) = qJ o (y.val:Int)
 ·rw [if_pos (qfj.2 he),if_pos he]
  have:RowKit.wrap64 ((x.val:Int) - (y.val:Int)) = (x.val:Int) - (y.val:Int):=by unfold RowKit.wrap64; omega
  rw [this]
 ·rw [if_neg (fun h=>he (qfj.1 h)),if_neg he]
theorem q0I (o:List Int) (ho:qQ o) (b cap:Nat) (d:Array (Fin 16)) (w:World) (hH:HoldsK (qfe o) 33 w b 0 d) (hb:b < w.heap.size) (hsz:d.size < 4611686018427387904) :
  Calls Tryz.prog 83 #[.slice (some ⟨b,0,none⟩) d.size cap,.func (.func 81) #[] #[]] w fun e w'=>e = .returned (.tuple #[])/\∃ n os,w' = sortWorldK (qfe o) 33 w b 0 n (d.toList.mergeSort fun x y=>!(ltOf (cfK o)) y x).toArray os :=
 AnyQ.slices_SortFunc_total qwK 33 Tryz.isAgg153 Tryz.sizeOf153 (qfe o) (fun _=>qhZ) (fun _=>qwR) (cfK o) (q8k o) 81 #[] b 0 cap d w (fun args w=>Tryz.call81 args w) (fun m os dk hs x y=>q8f o ho x y _) hH hb hsz (q8i o)
theorem qxK (p:Option Addr) (cap:Nat) (fv:Value) (w:World):Calls Tryz.prog 83 #[.slice p 0 cap,fv] w fun e w'=>e = .returned (.tuple #[])/\w' = w:=AnyF.slices_SortFunc_none qwK p cap fv w
theorem qyr {o L:List Int} (hL:∀ x ∈ L,0 <= x/\x < 16):(((L.map toFin).mergeSort fun x y=>!(ltOf (cfK o)) y x).map fun p=>(p.val:Int)) = qan o L:=by
 have hv:(L.map toFin).map (fun p=>(p.val:Int)) = L:=by
  rw [List.map_map]
  conv=>rhs; rw [<- List.map_id L]
  exact List.map_congr_left fun x hx=>qqV (hL x hx)
 rw [List.map_mergeSort (s:=fun a b=>!qO o b a) (fun a _ b _=>by rw [ltK]),hv]; rfl
theorem qv4 {o o' L:List Int} (h:L.map (qA o) = L.map (qA o')):(qan o L).map (qA o) = (qan o' L).map (qA o'):=by
 have h1:∀ x ∈ L,qA o x = qA o' x:=List.map_inj_left.1 h
 have hsc:∀ x ∈ L,qJ o x = qJ o' x:=fun x hx=>by
  have h2:=h1 x hx
  simp only [qA,List.cons.injEq,true_and] at h2
  have h3:=congrArg (List.map qad) h2
  rw [List.map_map,List.map_map] at h3
  have e:(qad ∘ Value.int IntKind.u8) = id:=rfl
  rwa [e,List.map_id,List.map_id] at h3
 have hs:qan o L = qan o' L:=by
  have:=List.map_mergeSort (r:=fun a b=>!qO o b a) (s:=fun a b=>!qO o' b a) (f:=id) (l:=L) (fun a ha b hb=>by simp only [id,qO,hsc a ha,hsc b hb])
  rwa [List.map_id,List.map_id] at this
 rw [<- hs]
 exact List.map_congr_left fun x hx=>h1 x (q0G.1 hx)
theorem q50:qef.ok Tryz.prog:=by
 refine ⟨fun args w=>Tryz.call83 args w,fun ρ w hF hO hg hd hw hs hro hp=>?_⟩
 obtain ⟨hl,hb1,o,L,ho,hD,hL⟩:=hp
 obtain ⟨h1,h2,hdis,hu,harr,_⟩:=hs
 have huniq:∀ {o' L':List Int},(ρ 3).d = L'.map (qA o')->L' = L:=fun {o' L'} h=>by
  have e:=congrArg qw (h.symm.trans hD)
  rwa [qtF,qtF] at e
 have hlen:(ρ 1).i = L.length:=by rw [hl,hD,List.length_map]
 -- the answer, once the rows are qco
 have key:∀ (w':World) (hO':Hp),Hp.disj hF.h hO'->SH.den (ρ.set 4 { d:=(qan o L).map (qA o) }) (qtZ 0 4 2) hO'->(Hp.union hF.h hO').sub w'->hF.wi w' ->
   ∃ (ai:Nat) (al:Alt) (ρ':Env),qef.alts[ai]? = some al/\ρ'.good/\(∀ n,n < qef.nv->ρ' n = ρ n)/\(Ending.returned (.tuple #[]):Ending) = .returned (al.ret.den ρ')/\al.post (ρ'.upto (qef.nv + al.k))/\qq ρ' hF al.heap w':=by
  intro w' hO' a1 a2 a3 a4
  have hgood:({ d:=(qan o L).map (qA o) }:U).good:=⟨rfl,fun row hr v hv=>by
   obtain ⟨x,_,rfl⟩:=List.mem_map.1 hr
   exact qwR v hv⟩
  refine ⟨0,_,ρ.set 4 { d:=(qan o L).map (qA o) },rfl,fun n=>?_,fun n hn=>Env.set_ne _ _ (by have:n < 4:=hn; omega),rfl,?_,hO',a1,⟨hO',Hp.emp,fun _=>.inr rfl,?_,a2,trivial⟩,a3,a4⟩
  ·by_cases hn:n = 4
   ·subst hn; rw [Env.set_same]; exact hgood
   ·rw [Env.set_ne _ _ hn]; exact hg n
  ·intro o' L' ho' hD' hL'
   have hD2:(ρ 3).d = L'.map (qA o'):=hD'
   obtain rfl:=huniq hD2
   show (qan o L').map (qA o) = (qan o' L').map (qA o')
   exact qv4 (hD.symm.trans hD2)
  ·funext b
   simp only [Hp.union,Hp.emp]
   cases hO' b <;> rfl
 rcases harr with ⟨hr,hd0,hc0⟩ | ⟨b,c,hr,hb,hcs,hcap,hrows⟩
 ·have hL0:L = []:=by
   have e:(ρ 3).d = []:=hd0
   rw [hD] at e
   exact List.map_eq_nil_iff.1 e
  subst hL0
  have hargs:(List.map (SV.den ρ) qef.args).toArray = #[.slice none 0 (ρ 2).i.toNat,.func (.func 81) #[] #[]]:=by
   have hr':(ρ 0).r = none:=hr
   simp [qef,rkS,SV.den,qb,T.den,O0.den,O3.den,hr',hlen,ql]
  rw [hargs]
  refine (qxK none _ _ w).mono fun e w' h=>?_
  obtain ⟨rfl,rfl⟩:=h
  refine key _ hO hd (.inl ⟨?_,?_,?_⟩) hw.1 hw.2
  ·rw [Env.set_ne _ _ (by decide)]; exact hr
  ·show ((ρ.set 4 _) 4).d = []
   rw [Env.set_same]; simp [qan]
  ·show ((ρ.set 4 _) 2).i = 0
   rw [Env.set_ne _ _ (by decide)]; exact hc0
 ·have hbO:hO b = some (.cells c 153 (0,0)):=by rw [hu]; simp [Hp.union,hb]
  have hbw:w.heap[b]? = some (.cells c 153 (0,0)):=hw.1 _ _ (by
   unfold Hp.union
   rcases hd b with h | h
   ·rw [h]; exact hbO
   ·rw [hbO] at h; cases h)
  have hblt:b < w.heap.size:=(Array.getElem?_eq_some_iff.1 hbw).1
  have hrows':qV c 0 kRk (L.map (qA o)):=by
   have h:=hrows
   rw [show (T.den ρ (.var 3)).d = (ρ 3).d from rfl,hD] at h
   exact h
  have hcs':c.size = (ρ 2).i.toNat * 33:=hcs
  have hcap':((ρ 3).d.length:Int) <= (ρ 2).i:=hcap
  rw [hD,List.length_map] at hcap'
  let d:Array (Fin 16):=(L.map toFin).toArray
  have hdv:d.toList.map (fun p=>(p.val:Int)) = L:=by
   simp only [d,List.toList_toArray,List.map_map]
   conv=>rhs; rw [<- List.map_id L]
   exact List.map_congr_left fun x hx=>qqV (hL x hx)
  have hds:d.size = L.length:=by simp [d]
  have hH:=qwi hdv hbw hrows'
  have hargs:(List.map (SV.den ρ) qef.args).toArray = #[.slice (some ⟨b,0,none⟩) d.size (ρ 2).i.toNat,.func (.func 81) #[] #[]]:=by
   have hr':(ρ 0).r = some ⟨b,0,none⟩:=hr
   simp [qef,rkS,SV.den,qb,T.den,O0.den,O3.den,hr',hlen,ql,hds]
  rw [hargs]
  refine (q0I o ho b _ d w hH hblt (by omega)).mono fun e w' h=>?_
  obtain ⟨rfl,n,os,rfl⟩:=h
  have hsv:((d.toList.mergeSort fun x y=>!(ltOf (cfK o)) y x).toArray:Array (Fin 16)).toList.map (fun p=>(p.val:Int)) = qan o L:=by
   simp only [d,List.toList_toArray]
   exact qyr hL
  have hsl:((d.toList.mergeSort fun x y=>!(ltOf (cfK o)) y x).toArray:Array (Fin 16)).size * 33 <= c.size:=by
   rw [hcs',List.size_toArray,List.length_mergeSort]
   simp only [Array.length_toList,hds]
   omega
  refine key _ (Hp.upd hO b (.cells (putCells id 0 (flatK (qfe o) 33 (d.toList.mergeSort fun x y=>!(ltOf (cfK o)) y x).toArray) c) 153 (0,0))) (fun x=>?_) (.inr ⟨b,putCells id 0 (flatK (qfe o) 33 (d.toList.mergeSort fun x y=>!(ltOf (cfK o)) y x).toArray) c,?_,?_,?_,?_,?_⟩) (fun x X hX=>?_) ?_
  ·by_cases hx:x = b
   ·subst hx
    rcases hd x with h | h
    ·exact .inl h
    ·rw [hbO] at h; cases h
   ·unfold Hp.upd; rw [if_neg hx]; exact hd x
  ·rw [Env.set_ne _ _ (by decide)]; exact hr
  ·unfold Hp.upd; rw [if_pos rfl]
  ·show (putCells id 0 _ c).size = ((ρ.set 4 _) 2).i.toNat * 33
   rw [Env.set_ne _ _ (by decide),<- hcs']
   simp [putCells]
  ·show ((((ρ.set 4 { d:=(qan o L).map (qA o) }) 4).d.length:Nat):Int) <= ((ρ.set 4 _) 2).i
   rw [Env.set_same,Env.set_ne _ _ (by decide),List.length_map,qim]; exact hcap'
  ·show qV _ 0 kRk ((ρ.set 4 { d:=(qan o L).map (qA o) }) 4).d
   rw [Env.set_same]
   exact qzL hsv hsl
  ·by_cases hx:x = b
   ·subst hx
    have hFn:hF.h x = none:=by
     rcases hd x with h | h
     ·exact h
     ·rw [hbO] at h; cases h
    simp only [Hp.union,hFn,Hp.upd,if_true,Option.none_or,Option.some.injEq] at hX
    rw [<- hX]
    exact qyM hbw
   ·have hX':Hp.union hF.h hO x = some X:=by
     simpa [Hp.union,Hp.upd,hx] using hX
    exact qvJ (hw.1 _ _ hX') hx
  ·exact hw.2
end Go.Proofs

set_option linter.unusedSimpArgs false
set_option linter.unusedVariables false
namespace Go.Eng
open Go Go.Proofs
def mtI:MT:=⟨false,[.i64],false,[.int .u64],[.vint .u64 (.lit 0)]⟩
def mtO:MT:=⟨true,List.replicate 32 .u8,false,[.any],[.vnilm]⟩
abbrev Cl:=List Int->Int->Option Int
def qd9 (l:List ME) (i:Int):Option Int:=(l.find? fun x=>x.k == [i]).map fun x=>qad (x.v.headD .nilFunc)
def qR (h:Hp) (v:Value) (cl:Cl):Prop:=∃ b l c,v = .map (some b)/\qaP h b mtO l c /\
 (∀ x ∈ l,∃ b' m c',x.v = [.map (some b')]/\b' ≠ b/\qaP h b' mtI m c'/\∀ i,cl x.k i = qd9 m i) /\
 (∀ x ∈ l,∀ y ∈ l,x.k ≠ y.k->x.v ≠ y.v)/\(∀ o i,(∀ x ∈ l,x.k ≠ o)->cl o i = none)/\∀ o i t,cl o i = some t->0 <= i/\i < 16/\0 <= t/\t < 18446744073709551616
def qeq (cl:Cl) (o:List Int) (i t:Int):Cl:=if 0 <= i/\i < 16 then fun o' i'=>if o' = o/\i' = i then some t else cl o' i' else cl
def qjR (t clock:Int):Bool:=decide (t <= clock) && decide (clock - t < 12)
def qdP (cl:Cl) (o:List Int) (self clock:Int) (L H:List Int):Bool:=(List.range 16).any fun (i:Nat)=>match cl o i with
 | some t=>qjR t clock && decide ((i:Int) ∈ L) && !decide ((i:Int) ∈ H) && qO o i self
 | none=>false
def qqT (r v:Nat):SH:=.cells r 179 [.var v]
def clP (r:Nat):SV:=.one (.vptr r (.lit 0) 1 0)
def q6H (r v:Nat):SH:=.cells r 24 (qaK .u8 v 32)
def qdL:Ctr:={ fn := 61,nv:=0,args:=[],heap:=[],ro:=[],pre:=fun _=>True,alts:=[
 { k:=3,ret:=clP 0,heap:=[qqT 0 1,.abs 2 1003],post:=fun ρ=>qR (ρ 2).h (ρ 1).v fun _ _=>none }] }
def qi1:Ctr:={ fn := 101,nv:=2,args:=[iv .u64 (.var 0),iv .u64 (.var 1)],heap:=[],ro:=[],pre:=fun ρ=>0 <= (ρ 0).i/\(ρ 0).i < 18446744073709551616/\0 <= (ρ 1).i/\(ρ 1).i < 18446744073709551616,alts:=[
 { k:=1,ret:=.one (.vbool (.var 2)),heap:=[],post:=fun ρ=>(ρ 2).b = qjR (ρ 0).i (ρ 1).i }] }
def qf5:Ctr:={ fn := 62,nv:=6,args:=[clP 0,dgV 1,iv .i64 (.var 2),iv .u64 (.var 3)],heap:=[qqT 0 4,.abs 5 1003],ro:=[],pre:=fun ρ=>(∃ cl,qR (ρ 5).h (ρ 4).v cl)/\0 <= (ρ 3).i/\(ρ 3).i < 18446744073709551616,alts:=[
 { k:=1,ret:=.tup [],heap:=[qqT 0 4,.abs 6 1003],post:=fun ρ=>∀ cl,qR (ρ 5).h (ρ 4).v cl->qR (ρ 6).h (ρ 4).v (qeq cl (qf (ρ 1).d 32) (ρ 2).i (ρ 3).i) }] }
def q6u (h:Hp) (it:Value) (m:List ME) (seen:List Nat):Prop:=∃ b' mo since st,it = .pointer (some ⟨b',0,none⟩)/\h b' = some (.mapIter mo since seen.toArray st) /\
 ((mo = none/\m = [])∨∃ b c,mo = some b/\b' ≠ b/\qaP h b mtI m c/\c <= since/\(seen = []∨m = []∨∃ e ∈ m,e.born < st)/\∀ n ∈ seen,∃ e ∈ m,e.born = n)
def qhu (h:Hp) (it:Value):Nat :=
 match it with
 | .pointer (some a) =>
  match h a.block with
  | some (.mapIter (some b) _ seen _) =>
   match h b with
   | some (.map es _)=>(es.toList.filter fun e=>!(seen.contains e.born)).length
   | _=>0
  | _=>0
 | _=>0
def q4G (ρ:Env):Prop:=(∃ cl,qR (ρ 5).h (ρ 4).v cl)/\qQ (qf (ρ 1).d 32)/\qbZ ρ 6/\qbZ ρ 11/\gOk ρ 16 17 gR/\0 <= (ρ 3).i/\(ρ 3).i < 18446744073709551616
def qcf:Ctr:={ fn := 68,nv:=18,ip:=[gIp 16,(5030, 181)],args:=[clP 0,dgV 1,iv .i64 (.var 2),iv .u64 (.var 3),bS 6,bS 11],heap:=[qqT 0 4,.abs 5 1003],ro:=[qe3 6,qe3 11,gHp 16 17],pre:=q4G,alts:=[
 { k:=2,ret:=.one (.vbool (.var 18)),heap:=[qqT 0 4,.abs 19 1003],post:=fun ρ=>∀ cl,qR (ρ 5).h (ρ 4).v cl->qR (ρ 19).h (ρ 4).v cl/\(ρ 18).b = qdP cl (qf (ρ 1).d 32) (ρ 2).i (ρ 3).i (qw (ρ 9).d) (qw (ρ 14).d) }] }
def qiC (o:List Int) (self clock:Int) (L H:List Int) (x:ME):Bool:=qjR (qad (x.v.headD .nilFunc)) clock && decide (x.k.headD 0 ∈ L) && !decide (x.k.headD 0 ∈ H) && qO o (x.k.headD 0) self
def qp9 (h0 h:Hp) (v it:Value) (o:List Int) (self clock:Int) (L H:List Int) (x:Bool):Prop:=∀ cl,qR h0 v cl->qR h v cl/\∃ m seen,q6u h it m seen/\(∀ i,cl o i = qd9 m i)/\x = (m.filter fun e=>seen.contains e.born).any (qiC o self clock L H)
def qnE:Inv:={ key:=6,nv:=8,env:=[(2,iv .i64 (.var 2)),(3,iv .u64 (.var 3)),(7,q2o 1000),(13,.one (.vptr 1001 (.lit 0) 16 0)),(14,.one (.vptr 1003 (.lit 0) 16 0)),(15,.one (.vbool (.var 1005))),(30,.one (.var 1006))],heap:=[q6H 1000 1,.arr 1001 157 qqi (.var 1002) (.lit 1),.arr 1003 157 qqi (.var 1004) (.lit 1),qqT 0 4,.abs 1007 1003],inv:=(fun ρ=>qdq (ρ 1002).d (qw (ρ 14).d) (ρ 14).d.length/\qdq (ρ 1004).d (qw (ρ 9).d) (ρ 9).d.length/\qp9 (ρ 5).h (ρ 1007).h (ρ 4).v (ρ 1006).v (qf (ρ 1).d 32) (ρ 2).i (ρ 3).i (qw (ρ 9).d) (qw (ρ 14).d) (ρ 1005).b),mu:=(fun ρ=>qhu (ρ 1007).h (ρ 1006).v) }
end Go.Eng

set_option linter.unusedSimpArgs false
set_option linter.unusedVariables false
set_option maxRecDepth 100000
namespace Go.Proofs
open Go Go.Eng

def qzK:Out:=(.br (.cmp .geq (.var 1) (.var 0))
 (.ret 0 (sg 2 [bt 2 (.cmp .lss (.arith .sub .u64 (.var 1) (.var 0)) (.lit 12))]))
 (.ret 0 (sg 2 [bt 2 (.bl false)])))
theorem q3G:qj ⟨Tryz.prog,qi1,[],[]⟩ 100000 Tryz.f101 = qzK:=by kernel_rfl
theorem q6Q (hd:∀ c ∈ ([]:List Ctr),c.ok Tryz.prog) (h:∀ ρ:Env,ρ.good->(qi1).pre ρ->qzK.den ⟨Tryz.prog,qi1,[],[]⟩ ρ):(qi1).ok Tryz.prog :=
 qc Tryz.func101 (fun a w=>Tryz.call101 a w) hd 100000 (fun ρ hg hp=>by rw [q3G]; exact h ρ hg hp)
def qpA:Out:=(.mop .new 0 (.fresh 2 (.ret 0 (sg 0 [bg 2 0,bv 1 1,bg 0 2]))) .top)
theorem qx5:qj ⟨Tryz.prog,qdL,[],[]⟩ 100000 Tryz.f61 = qpA:=by kernel_rfl
theorem q2N (hd:∀ c ∈ ([]:List Ctr),c.ok Tryz.prog) (h:∀ ρ:Env,ρ.good->(qdL).pre ρ->qpA.den ⟨Tryz.prog,qdL,[],[]⟩ ρ):(qdL).ok Tryz.prog :=
 qc Tryz.func61 (fun a w=>Tryz.call61 a w) hd 100000 (fun ρ hg hp=>by rw [qx5]; exact h ρ hg hp)
def qtA:Out:=(.fresh 6 (.pre 0 (sg 0 [bv 0 2]) (.both (.fresh 7 (.post 0 0 (sg 0 [bv 0 2]) 7 (.br (.not (.var 7))
 (.ret 0 (sg 6 [bg 6 5]))
 (.both (.mop (.get (.var 4) [(.c2 (.xint 0) (.var 1) (.lit 0)),(.c2 (.xint 1) (.var 1) (.lit 0)),(.c2 (.xint 2) (.var 1) (.lit 0)),(.c2 (.xint 3) (.var 1) (.lit 0)),(.c2 (.xint 4) (.var 1) (.lit 0)),(.c2 (.xint 5) (.var 1) (.lit 0)),(.c2 (.xint 6) (.var 1) (.lit 0)),(.c2 (.xint 7) (.var 1) (.lit 0)),(.c2 (.xint 8) (.var 1) (.lit 0)),(.c2 (.xint 9) (.var 1) (.lit 0)),(.c2 (.xint 10) (.var 1) (.lit 0)),(.c2 (.xint 11) (.var 1) (.lit 0)),(.c2 (.xint 12) (.var 1) (.lit 0)),(.c2 (.xint 13) (.var 1) (.lit 0)),(.c2 (.xint 14) (.var 1) (.lit 0)),(.c2 (.xint 15) (.var 1) (.lit 0)),(.c2 (.xint 16) (.var 1) (.lit 0)),(.c2 (.xint 17) (.var 1) (.lit 0)),(.c2 (.xint 18) (.var 1) (.lit 0)),(.c2 (.xint 19) (.var 1) (.lit 0)),(.c2 (.xint 20) (.var 1) (.lit 0)),(.c2 (.xint 21) (.var 1) (.lit 0)),(.c2 (.xint 22) (.var 1) (.lit 0)),(.c2 (.xint 23) (.var 1) (.lit 0)),(.c2 (.xint 24) (.var 1) (.lit 0)),(.c2 (.xint 25) (.var 1) (.lit 0)),(.c2 (.xint 26) (.var 1) (.lit 0)),(.c2 (.xint 27) (.var 1) (.lit 0)),(.c2 (.xint 28) (.var 1) (.lit 0)),(.c2 (.xint 29) (.var 1) (.lit 0)),(.c2 (.xint 30) (.var 1) (.lit 0)),(.c2 (.xint 31) (.var 1) (.lit 0))] ⟨true,[.u8,.u8,.u8,.u8,.u8,.u8,.u8,.u8,.u8,.u8,.u8,.u8,.u8,.u8,.u8,.u8,.u8,.u8,.u8,.u8,.u8,.u8,.u8,.u8,.u8,.u8,.u8,.u8,.u8,.u8,.u8,.u8],false,[CK.any],[.vnilm]⟩ [5]) 8 (.both (.mop (.isnil (.vcell (.var 8) (.lit 0) 0)) 9 (.br (.var 9)
 (.both (.mop .new 10 (.both (.pack [.abs 10 1003,.abs 5 1003] 12 (.mop (.put 12 (.var 4) [(.c2 (.xint 0) (.var 1) (.lit 0)),(.c2 (.xint 1) (.var 1) (.lit 0)),(.c2 (.xint 2) (.var 1) (.lit 0)),(.c2 (.xint 3) (.var 1) (.lit 0)),(.c2 (.xint 4) (.var 1) (.lit 0)),(.c2 (.xint 5) (.var 1) (.lit 0)),(.c2 (.xint 6) (.var 1) (.lit 0)),(.c2 (.xint 7) (.var 1) (.lit 0)),(.c2 (.xint 8) (.var 1) (.lit 0)),(.c2 (.xint 9) (.var 1) (.lit 0)),(.c2 (.xint 10) (.var 1) (.lit 0)),(.c2 (.xint 11) (.var 1) (.lit 0)),(.c2 (.xint 12) (.var 1) (.lit 0)),(.c2 (.xint 13) (.var 1) (.lit 0)),(.c2 (.xint 14) (.var 1) (.lit 0)),(.c2 (.xint 15) (.var 1) (.lit 0)),(.c2 (.xint 16) (.var 1) (.lit 0)),(.c2 (.xint 17) (.var 1) (.lit 0)),(.c2 (.xint 18) (.var 1) (.lit 0)),(.c2 (.xint 19) (.var 1) (.lit 0)),(.c2 (.xint 20) (.var 1) (.lit 0)),(.c2 (.xint 21) (.var 1) (.lit 0)),(.c2 (.xint 22) (.var 1) (.lit 0)),(.c2 (.xint 23) (.var 1) (.lit 0)),(.c2 (.xint 24) (.var 1) (.lit 0)),(.c2 (.xint 25) (.var 1) (.lit 0)),(.c2 (.xint 26) (.var 1) (.lit 0)),(.c2 (.xint 27) (.var 1) (.lit 0)),(.c2 (.xint 28) (.var 1) (.lit 0)),(.c2 (.xint 29) (.var 1) (.lit 0)),(.c2 (.xint 30) (.var 1) (.lit 0)),(.c2 (.xint 31) (.var 1) (.lit 0))] [(.var 11)] ⟨true,[.u8,.u8,.u8,.u8,.u8,.u8,.u8,.u8,.u8,.u8,.u8,.u8,.u8,.u8,.u8,.u8,.u8,.u8,.u8,.u8,.u8,.u8,.u8,.u8,.u8,.u8,.u8,.u8,.u8,.u8,.u8,.u8],false,[CK.any],[.vnilm]⟩) 13 (.both (.mop (.get (.var 4) [(.c2 (.xint 0) (.var 1) (.lit 0)),(.c2 (.xint 1) (.var 1) (.lit 0)),(.c2 (.xint 2) (.var 1) (.lit 0)),(.c2 (.xint 3) (.var 1) (.lit 0)),(.c2 (.xint 4) (.var 1) (.lit 0)),(.c2 (.xint 5) (.var 1) (.lit 0)),(.c2 (.xint 6) (.var 1) (.lit 0)),(.c2 (.xint 7) (.var 1) (.lit 0)),(.c2 (.xint 8) (.var 1) (.lit 0)),(.c2 (.xint 9) (.var 1) (.lit 0)),(.c2 (.xint 10) (.var 1) (.lit 0)),(.c2 (.xint 11) (.var 1) (.lit 0)),(.c2 (.xint 12) (.var 1) (.lit 0)),(.c2 (.xint 13) (.var 1) (.lit 0)),(.c2 (.xint 14) (.var 1) (.lit 0)),(.c2 (.xint 15) (.var 1) (.lit 0)),(.c2 (.xint 16) (.var 1) (.lit 0)),(.c2 (.xint 17) (.var 1) (.lit 0)),(.c2 (.xint 18) (.var 1) (.lit 0)),(.c2 (.xint 19) (.var 1) (.lit 0)),(.c2 (.xint 20) (.var 1) (.lit 0)),(.c2 (.xint 21) (.var 1) (.lit 0)),(.c2 (.xint 22) (.var 1) (.lit 0)),(.c2 (.xint 23) (.var 1) (.lit 0)),(.c2 (.xint 24) (.var 1) (.lit 0)),(.c2 (.xint 25) (.var 1) (.lit 0)),(.c2 (.xint 26) (.var 1) (.lit 0)),(.c2 (.xint 27) (.var 1) (.lit 0)),(.c2 (.xint 28) (.var 1) (.lit 0)),(.c2 (.xint 29) (.var 1) (.lit 0)),(.c2 (.xint 30) (.var 1) (.lit 0)),(.c2 (.xint 31) (.var 1) (.lit 0))] ⟨true,[.u8,.u8,.u8,.u8,.u8,.u8,.u8,.u8,.u8,.u8,.u8,.u8,.u8,.u8,.u8,.u8,.u8,.u8,.u8,.u8,.u8,.u8,.u8,.u8,.u8,.u8,.u8,.u8,.u8,.u8,.u8,.u8],false,[CK.any],[.vnilm]⟩ [13]) 14 (.both (.mop (.put 13 (.vcell (.var 14) (.lit 0) 0) [(.var 2)] [(.vint .u64 (.var 3))] ⟨false,[.i64],false,[CK.int .u64],[(.vint .u64 (.lit 0))]⟩) 15 (.ret 0 (sg 6 [bg 6 15])) .top) .top) .top) .top) .top)) .top) .top) .top)
 (.both (.mop (.get (.var 4) [(.c2 (.xint 0) (.var 1) (.lit 0)),(.c2 (.xint 1) (.var 1) (.lit 0)),(.c2 (.xint 2) (.var 1) (.lit 0)),(.c2 (.xint 3) (.var 1) (.lit 0)),(.c2 (.xint 4) (.var 1) (.lit 0)),(.c2 (.xint 5) (.var 1) (.lit 0)),(.c2 (.xint 6) (.var 1) (.lit 0)),(.c2 (.xint 7) (.var 1) (.lit 0)),(.c2 (.xint 8) (.var 1) (.lit 0)),(.c2 (.xint 9) (.var 1) (.lit 0)),(.c2 (.xint 10) (.var 1) (.lit 0)),(.c2 (.xint 11) (.var 1) (.lit 0)),(.c2 (.xint 12) (.var 1) (.lit 0)),(.c2 (.xint 13) (.var 1) (.lit 0)),(.c2 (.xint 14) (.var 1) (.lit 0)),(.c2 (.xint 15) (.var 1) (.lit 0)),(.c2 (.xint 16) (.var 1) (.lit 0)),(.c2 (.xint 17) (.var 1) (.lit 0)),(.c2 (.xint 18) (.var 1) (.lit 0)),(.c2 (.xint 19) (.var 1) (.lit 0)),(.c2 (.xint 20) (.var 1) (.lit 0)),(.c2 (.xint 21) (.var 1) (.lit 0)),(.c2 (.xint 22) (.var 1) (.lit 0)),(.c2 (.xint 23) (.var 1) (.lit 0)),(.c2 (.xint 24) (.var 1) (.lit 0)),(.c2 (.xint 25) (.var 1) (.lit 0)),(.c2 (.xint 26) (.var 1) (.lit 0)),(.c2 (.xint 27) (.var 1) (.lit 0)),(.c2 (.xint 28) (.var 1) (.lit 0)),(.c2 (.xint 29) (.var 1) (.lit 0)),(.c2 (.xint 30) (.var 1) (.lit 0)),(.c2 (.xint 31) (.var 1) (.lit 0))] ⟨true,[.u8,.u8,.u8,.u8,.u8,.u8,.u8,.u8,.u8,.u8,.u8,.u8,.u8,.u8,.u8,.u8,.u8,.u8,.u8,.u8,.u8,.u8,.u8,.u8,.u8,.u8,.u8,.u8,.u8,.u8,.u8,.u8],false,[CK.any],[.vnilm]⟩ [5]) 10 (.both (.mop (.put 5 (.vcell (.var 10) (.lit 0) 0) [(.var 2)] [(.vint .u64 (.var 3))] ⟨false,[.i64],false,[CK.int .u64],[(.vint .u64 (.lit 0))]⟩) 11 (.ret 0 (sg 6 [bg 6 11])) .top) .top) .top) .top)) .top) .top) .top) .top)))) .top)))
theorem q1S:qj ⟨Tryz.prog,qf5,[qcn],[]⟩ 100000 Tryz.f62 = qtA:=by kernel_rfl
theorem q56 (hd:∀ c ∈ ([qcn]:List Ctr),c.ok Tryz.prog) (h:∀ ρ:Env,ρ.good->(qf5).pre ρ->qtA.den ⟨Tryz.prog,qf5,[qcn],[]⟩ ρ):(qf5).ok Tryz.prog :=
 qc Tryz.func62 (fun a w=>Tryz.call62 a w) hd 100000 (fun ρ hg hp=>by rw [q1S]; exact h ρ hg hp)
@[simp] def qi9:Out:=.back 0 57 (sg 1000 [bg 1007 65,bv 1004 61,bv 1002 59,bv 1006 63,bt 1005 (.bl false),bg 1003 60,bg 1001 58,bg 1000 57])
def ql0:Out:=(.fresh 18 (.pre 0 (sg 0 [bv 4 15,bv 3 14,bv 2 13,bv 1 12,bg 0 11]) (.both (.fresh 19 (.fresh 20 (.fresh 21 (.fresh 22 (.fresh 23 (.fresh 24 (.fresh 25 (.fresh 26 (.fresh 27 (.fresh 28 (.fresh 29 (.fresh 30 (.fresh 31 (.fresh 32 (.fresh 33 (.fresh 34 (.post 0 0 (sg 0 [bv 4 15,bv 3 14,bv 2 13,bv 1 12,bg 0 11]) 19 (.pre 0 (sg 0 [bv 4 10,bv 3 9,bv 2 8,bv 1 7,bg 0 6]) (.both (.fresh 35 (.fresh 36 (.fresh 37 (.fresh 38 (.fresh 39 (.fresh 40 (.fresh 41 (.fresh 42 (.fresh 43 (.fresh 44 (.fresh 45 (.fresh 46 (.fresh 47 (.fresh 48 (.fresh 49 (.fresh 50 (.post 0 0 (sg 0 [bv 4 10,bv 3 9,bv 2 8,bv 1 7,bg 0 6]) 35 (.fresh 51 (.fresh 52 (.both (.mop (.get (.var 4) [(.c2 (.xint 0) (.var 1) (.lit 0)),(.c2 (.xint 1) (.var 1) (.lit 0)),(.c2 (.xint 2) (.var 1) (.lit 0)),(.c2 (.xint 3) (.var 1) (.lit 0)),(.c2 (.xint 4) (.var 1) (.lit 0)),(.c2 (.xint 5) (.var 1) (.lit 0)),(.c2 (.xint 6) (.var 1) (.lit 0)),(.c2 (.xint 7) (.var 1) (.lit 0)),(.c2 (.xint 8) (.var 1) (.lit 0)),(.c2 (.xint 9) (.var 1) (.lit 0)),(.c2 (.xint 10) (.var 1) (.lit 0)),(.c2 (.xint 11) (.var 1) (.lit 0)),(.c2 (.xint 12) (.var 1) (.lit 0)),(.c2 (.xint 13) (.var 1) (.lit 0)),(.c2 (.xint 14) (.var 1) (.lit 0)),(.c2 (.xint 15) (.var 1) (.lit 0)),(.c2 (.xint 16) (.var 1) (.lit 0)),(.c2 (.xint 17) (.var 1) (.lit 0)),(.c2 (.xint 18) (.var 1) (.lit 0)),(.c2 (.xint 19) (.var 1) (.lit 0)),(.c2 (.xint 20) (.var 1) (.lit 0)),(.c2 (.xint 21) (.var 1) (.lit 0)),(.c2 (.xint 22) (.var 1) (.lit 0)),(.c2 (.xint 23) (.var 1) (.lit 0)),(.c2 (.xint 24) (.var 1) (.lit 0)),(.c2 (.xint 25) (.var 1) (.lit 0)),(.c2 (.xint 26) (.var 1) (.lit 0)),(.c2 (.xint 27) (.var 1) (.lit 0)),(.c2 (.xint 28) (.var 1) (.lit 0)),(.c2 (.xint 29) (.var 1) (.lit 0)),(.c2 (.xint 30) (.var 1) (.lit 0)),(.c2 (.xint 31) (.var 1) (.lit 0))] ⟨true,[.u8,.u8,.u8,.u8,.u8,.u8,.u8,.u8,.u8,.u8,.u8,.u8,.u8,.u8,.u8,.u8,.u8,.u8,.u8,.u8,.u8,.u8,.u8,.u8,.u8,.u8,.u8,.u8,.u8,.u8,.u8,.u8],false,[CK.any],[.vnilm]⟩ [5]) 53 (.both (.mop (.range (.vcell (.var 53) (.lit 0) 0) ⟨false,[.i64],false,[CK.int .u64],[(.vint .u64 (.lit 0))]⟩ [5]) 54 (.pack [.abs 54 1003,.abs 5 1003] 56 (.inv 0 57 (sg 1000 [bg 1007 56,bt 1004 (.rcons (.vbool (.var 35)) (.rcons (.vbool (.var 36)) (.rcons (.vbool (.var 37)) (.rcons (.vbool (.var 38)) (.rcons (.vbool (.var 39)) (.rcons (.vbool (.var 40)) (.rcons (.vbool (.var 41)) (.rcons (.vbool (.var 42)) (.rcons (.vbool (.var 43)) (.rcons (.vbool (.var 44)) (.rcons (.vbool (.var 45)) (.rcons (.vbool (.var 46)) (.rcons (.vbool (.var 47)) (.rcons (.vbool (.var 48)) (.rcons (.vbool (.var 49)) (.rcons (.vbool (.var 50)) .rnil)))))))))))))))),bt 1002 (.rcons (.vbool (.var 19)) (.rcons (.vbool (.var 20)) (.rcons (.vbool (.var 21)) (.rcons (.vbool (.var 22)) (.rcons (.vbool (.var 23)) (.rcons (.vbool (.var 24)) (.rcons (.vbool (.var 25)) (.rcons (.vbool (.var 26)) (.rcons (.vbool (.var 27)) (.rcons (.vbool (.var 28)) (.rcons (.vbool (.var 29)) (.rcons (.vbool (.var 30)) (.rcons (.vbool (.var 31)) (.rcons (.vbool (.var 32)) (.rcons (.vbool (.var 33)) (.rcons (.vbool (.var 34)) .rnil)))))))))))))))),bv 1006 55,bt 1005 (.bl false),bg 1003 52,bg 1001 51,bg 1000 18]) (.fresh 57 (.fresh 58 (.fresh 59 (.fresh 60 (.fresh 61 (.fresh 62 (.fresh 63 (.fresh 64 (.hyp 0 57 (.mop (.next 64 (.var 63) ⟨false,[.i64],false,[CK.int .u64],[(.vint .u64 (.lit 0))]⟩ [64]) 65 (.mop (.entry 65 (.var 63) ⟨false,[.i64],false,[CK.int .u64],[(.vint .u64 (.lit 0))]⟩ [65]) 68 (.br (.var 62)
 (.back 0 57 (sg 1000 [bg 1007 65,bv 1004 61,bv 1002 59,bv 1006 63,bt 1005 (.bl true),bg 1003 60,bg 1001 58,bg 1000 57]))
 (.pre 1 (sg 0 [bv 1 3,bt 0 (.c2 (.xint 0) (.var 69) (.lit 0))]) (.both (.fresh 70 (.post 1 0 (sg 0 [bv 1 3,bt 0 (.c2 (.xint 0) (.var 69) (.lit 0))]) 70 (.br (.var 70)
 (.need (.cmp .leq (.lit 0) (.c2 (.xint 0) (.var 68) (.lit 0))) (.need (.cmp .lss (.c2 (.xint 0) (.var 68) (.lit 0)) (.lit 16)) (.need (.cmp .lss (.lit 0) (.dlen (.var 61))) (.br (.c2 (.xbool 0) (.var 61) (.c2 (.xint 0) (.var 68) (.lit 0)))
 (.need (.cmp .lss (.lit 0) (.dlen (.var 59))) (.br (.not (.c2 (.xbool 0) (.var 59) (.c2 (.xint 0) (.var 68) (.lit 0))))
 (.pre 2 (sg 0 [bv 4 17,bv 2 2,bt 1 (.c2 (.xint 0) (.var 68) (.lit 0)),bt 0 (r8 1),bg 3 16]) (.both (.fresh 71 (.post 2 0 (sg 0 [bv 4 17,bv 2 2,bt 1 (.c2 (.xint 0) (.var 68) (.lit 0)),bt 0 (r8 1),bg 3 16]) 71 (.back 0 57 (sg 1000 [bg 1007 65,bv 1004 61,bv 1002 59,bv 1006 63,bv 1005 71,bg 1003 60,bg 1001 58,bg 1000 57])))) .top))
 qi9))
 qi9))))
 qi9))) .top))) .top) (.ret 0 (sg 18 [bg 19 64,bv 18 62])))))))))))))) .top) .top) .top) .top)))))))))))))))))))) .top))))))))))))))))))) .top)))
theorem quc:qj ⟨Tryz.prog,qcf,[qdM,qi1,qbH],[qnE]⟩ 100000 Tryz.f68 = ql0:=by kernel_rfl
theorem qy5 (hd:∀ c ∈ ([qdM,qi1,qbH]:List Ctr),c.ok Tryz.prog) (h:∀ ρ:Env,ρ.good->(qcf).pre ρ->ql0.den ⟨Tryz.prog,qcf,[qdM,qi1,qbH],[qnE]⟩ ρ):(qcf).ok Tryz.prog :=
 qc Tryz.func68 (fun a w=>Tryz.call68 a w) hd 100000 (fun ρ hg hp=>by rw [quc]; exact h ρ hg hp)
end Go.Proofs

set_option linter.unusedSimpArgs false
set_option linter.unusedVariables false
namespace Go.Proofs
open Go Go.Eng
theorem qr2:∀ {ks:List IntKind} {a b:List Int},a.length = ks.length->b.length = ks.length->qP ks a = qP ks b->a = b
 | [],[],[],_,_,_=>rfl
 | k :: ks,x :: a,y :: b,h1,h2,h=>by
  simp only [qP,List.zipWith_cons_cons,List.cons.injEq,Value.int.injEq,true_and] at h
  rw [h.1,qr2 (ks:=ks) (by simpa using h1) (by simpa using h2) h.2]
 | [],_ :: _,_,h,_,_=>by simp at h
 | [],_,_ :: _,_,h,_=>by simp at h
 | _ :: _,[],_,h,_,_=>by simp at h
 | _ :: _,_ :: _,[],_,h,_=>by simp at h
theorem qwG {g:Bool} {a b:List Value} {n:Nat} (ha:a.length = n) (hb:b.length = n) (hg:g = true∨n = 1) (h:mkV g a = mkV g b):a = b:=by
 cases g with
 | true =>
  simp only [mkV,Value.agg.injEq] at h
  simpa using congrArg Array.toList h
 | false =>
  obtain rfl:=hg.resolve_left (by simp)
  match a,b,ha,hb with
  | [x],[y],_,_ =>
   simp only [mkV,List.headD_cons] at h
   rw [h]
theorem qvh {mt:MT} (hk:mt.kagg = true∨mt.kks.length = 1) (hv:mt.vagg = true∨mt.vpat.length = 1):∀ {l l':List ME},(∀ x ∈ l,x.k.length = mt.kks.length/\qs mt.vpat x.v)->(∀ x ∈ l',x.k.length = mt.kks.length/\qs mt.vpat x.v)->l.map mt.ent = l'.map mt.ent->l = l'
 | [],[],_,_,_=>rfl
 | [],_ :: _,_,_,h=>by simp at h
 | _ :: _,[],_,_,h=>by simp at h
 | x :: l,y :: l',h1,h2,h=>by
  simp only [List.map_cons,List.cons.injEq] at h
  obtain ⟨e1,e2⟩:=h
  have hx:=h1 x (List.mem_cons_self ..)
  have hy:=h2 y (List.mem_cons_self ..)
  simp only [MT.ent,MapEntry.mk.injEq] at e1
  obtain ⟨a1,a2,a3⟩:=e1
  have lk:∀ {k:List Int},k.length = mt.kks.length->(qP mt.kks k).length = mt.kks.length:=fun h=>by simp [qP,h]
  have b1:=qr2 hx.1 hy.1 (qwG (lk hx.1) (lk hy.1) hk a1)
  have b2:=qwG hx.2.1 hy.2.1 hv a2
  obtain ⟨xk,xv,xb⟩:=x
  obtain ⟨yk,yv,yb⟩:=y
  simp only at b1 b2 a3
  subst b1 b2 a3
  rw [qvh hk hv (fun z hz=>h1 z (List.mem_cons_of_mem _ hz)) (fun z hz=>h2 z (List.mem_cons_of_mem _ hz)) e2]
theorem qry {h:Hp} {b:Nat} {mt:MT} {l l':List ME} {c c':Nat} (hk:mt.kagg = true∨mt.kks.length = 1) (hv:mt.vagg = true∨mt.vpat.length = 1) (h1:qaP h b mt l c) (h2:qaP h b mt l' c'):l = l'/\c = c':=by
 have e:=h1.1.symm.trans h2.1
 simp only [MT.obj,Option.some.injEq,Obj.map.injEq] at e
 exact ⟨qvh hk hv (fun x hx=>⟨(h1.2.1 x hx).1,(h1.2.1 x hx).2.1⟩) (fun x hx=>⟨(h2.2.1 x hx).1,(h2.2.1 x hx).2.1⟩) (by simpa using congrArg Array.toList e.1),e.2⟩
theorem q7V {h:Hp} {b:Nat} {l l':List ME} {c c':Nat} (h1:qaP h b mtO l c) (h2:qaP h b mtO l' c'):l = l'/\c = c':=qry (.inl rfl) (.inr rfl) h1 h2
theorem q46 {h:Hp} {b:Nat} {l l':List ME} {c c':Nat} (h1:qaP h b mtI l c) (h2:qaP h b mtI l' c'):l = l'/\c = c':=qry (.inr rfl) (.inr rfl) h1 h2
theorem qhm {h:Hp} {v:Value} {cl cl':Cl} (h1:qR h v cl) (h2:qR h v cl'):cl' = cl:=by
 obtain ⟨b,l,c,rfl,hm,hi,_,hn,_⟩:=h1
 obtain ⟨b2,l2,c2,e,hm2,hi2,_,hn2,_⟩:=h2
 simp only [Value.map.injEq,Option.some.injEq] at e
 subst e
 obtain ⟨rfl,rfl⟩:=q7V hm hm2
 funext o i
 by_cases ho:∃ x ∈ l,x.k = o
 ·obtain ⟨x,hx,rfl⟩:=ho
  obtain ⟨b',m,c',e1,_,e2,e3⟩:=hi x hx
  obtain ⟨b2',m2,c2',e1',_,e2',e3'⟩:=hi2 x hx
  rw [e1] at e1'
  simp only [List.cons.injEq,Value.map.injEq,Option.some.injEq,and_true] at e1'
  subst e1'
  obtain ⟨rfl,_⟩:=q46 e2 e2'
  rw [e3,e3']
 ·have:∀ x ∈ l,x.k ≠ o:=fun x hx he=>ho ⟨x,hx,he⟩
  rw [hn o i this,hn2 o i this]
theorem qg9 {h h':Hp} {b:Nat} {mt:MT} {l:List ME} {c:Nat} (hm:qaP h b mt l c) (hl:Hp.le h h'):qaP h' b mt l c:=⟨hl _ _ hm.1,hm.2⟩
theorem qxe {h h':Hp} {v:Value} {cl:Cl} (hc:qR h v cl) (hl:Hp.le h h'):qR h' v cl:=by
 obtain ⟨b,l,c,e,hm,hi,hr⟩:=hc
 exact ⟨b,l,c,e,qg9 hm hl,fun x hx=>by
  obtain ⟨b',m,c',e1,e2,e3,e4⟩:=hi x hx
  exact ⟨b',m,c',e1,e2,qg9 e3 hl,e4⟩,hr⟩
theorem quv {l:List ME} {k:List Int}:qbx l k = true↔∃ x ∈ l,x.k = k:=by
 unfold qbx
 rw [List.any_eq_true]
 exact ⟨fun ⟨x,h1,h2⟩=>⟨x,h1,by simpa using h2⟩,fun ⟨x,h1,h2⟩=>⟨x,h1,by simpa using h2⟩⟩
theorem qjK {l:List ME} {k:List Int} (h:qbx l k = false):∀ x ∈ l,x.k ≠ k:=fun x hx he=>by
 rw [quv.2 ⟨x,hx,he⟩] at h; cases h
theorem qvj {m:List ME} {i i' t:Int} {c:Nat}:qd9 (qby m [i] [.int .u64 t] c).1 i' = if i' = i then some t else qd9 m i':=by
 unfold qby
 by_cases h:qbx m [i] = true
 ·rw [if_pos h]
  unfold qd9
  simp only
  rw [List.find?_map]
  have hp:((fun x:ME=>x.k == [i']) ∘ fun x:ME=>if x.k = [i] then { x with v:=[.int .u64 t] } else x) = fun x:ME=>x.k == [i']:=by
   funext x
   simp only [Function.comp]
   split <;> rfl
  rw [hp,Option.map_map]
  by_cases hi:i' = i
  ·subst hi
   rw [if_pos rfl]
   obtain ⟨x,hx,hk⟩:=quv.1 h
   cases hf:m.find? fun x=>x.k == [i'] with
   | none =>
    rw [List.find?_eq_none] at hf
    exact absurd (by simpa using hk) (hf x hx)
   | some y =>
    have hy:=List.find?_some hf
    simp only [beq_iff_eq] at hy
    simp [hy,qad]
  ·rw [if_neg hi]
   cases hf:m.find? fun x=>x.k == [i'] with
   | none=>rfl
   | some y =>
    have hy:=List.find?_some hf
    simp only [beq_iff_eq] at hy
    have:y.k ≠ [i]:=by rw [hy]; simp [hi]
    simp [this]
 ·rw [if_neg h]
  have hn:=qjK (by simpa using h)
  unfold qd9
  simp only
  rw [List.find?_append]
  by_cases hi:i' = i
  ·subst hi
   rw [if_pos rfl]
   have:m.find? (fun x=>x.k == [i']) = none:=by
    rw [List.find?_eq_none]
    intro x hx hk
    exact hn x hx (by simpa using hk)
   rw [this]; simp [qad]
  ·rw [if_neg hi]
   have:([⟨[i],[.int .u64 t],c⟩]:List ME).find? (fun x=>x.k == [i']) = none:=by
    simp [Ne.symm hi]
   rw [this,Option.or_none]
theorem qik {i t:Int}:([i]:List Int).length = mtI.kks.length/\qs mtI.vpat [.int .u64 t]:=⟨rfl,rfl,fun c k v hk hv=>by
 cases c with
 | zero=>simp only [mtI,List.getElem?_cons_zero,Option.some.injEq] at hk hv; subst hk hv; rfl
 | succ c=>simp [mtI] at hk⟩
theorem qtY {h:Hp} {b x:Nat} {X:Obj} (hne:x ≠ b):Hp.upd h b X x = h x:=by unfold Hp.upd; rw [if_neg hne]
theorem qhE {h:Hp} {b:Nat} {X:Obj}:Hp.upd h b X b = some X:=by unfold Hp.upd; rw [if_pos rfl]
theorem qdg {h:Hp} {b x:Nat} {X:Obj} {mt:MT} {l:List ME} {c:Nat} (hne:x ≠ b) (hm:qaP h x mt l c):qaP (Hp.upd h b X) x mt l c:=⟨by rw [qtY hne]; exact hm.1,hm.2⟩
theorem q3j {h:Hp} {b b' c c':Nat} {l m:List ME} {x:ME} {cl:Cl} {i t:Int} (hm:qaP h b mtO l c) (hi:∀ x ∈ l,∃ b' m c',x.v = [.map (some b')]/\b' ≠ b/\qaP h b' mtI m c'/\∀ i,cl x.k i = qd9 m i) (hd:∀ x ∈ l,∀ y ∈ l,x.k ≠ y.k->x.v ≠ y.v) (hn:∀ o i,(∀ x ∈ l,x.k ≠ o)->cl o i = none)
  (hr:∀ o i t,cl o i = some t->0 <= i/\i < 16/\0 <= t/\t < 18446744073709551616) (hx:x ∈ l) (hb:x.v = [.map (some b')]) (hI:qaP h b' mtI m c') (i0:0 <= i) (i1:i < 16) (t0:0 <= t) (t1:t < 18446744073709551616) :
  qR (Hp.upd h b' (mtI.obj (qby m [i] [.int .u64 t] c'))) (.map (some b)) (qeq cl x.k i t):=by
 obtain ⟨b2,m2,c2,e1,e2,e3,e4⟩:=hi x hx
 rw [hb] at e1
 simp only [List.cons.injEq,Value.map.injEq,Option.some.injEq,and_true] at e1
 subst e1
 obtain ⟨rfl,rfl⟩:=q46 hI e3
 have hF:∀ o' i',qeq cl x.k i t o' i' = if o' = x.k/\i' = i then some t else cl o' i':=fun o' i'=>by unfold qeq; rw [if_pos ⟨i0,i1⟩]
 refine ⟨b,l,c,rfl,qdg (Ne.symm e2) hm,fun y hy=>?_,hd,fun o' i' ho=>?_,fun o' i' t' ht=>?_⟩
 ·by_cases hk:y.k = x.k
  ·have hvv:y.v = [.map (some b')]:=by
    obtain ⟨jx,hjx⟩:=List.getElem?_of_mem hx
    obtain ⟨jy,hjy⟩:=List.getElem?_of_mem hy
    have hj:=qhy hm.2 hjy hjx hk
    rw [hj,hjx] at hjy
    rw [<- Option.some.inj hjy]; exact hb
   refine ⟨b',(qby m [i] [.int .u64 t] c').1,(qby m [i] [.int .u64 t] c').2,hvv,e2,⟨qhE,qlZ hI.2 (qik (i:=i) (t:=t)).1 (qik (i:=i) (t:=t)).2⟩,fun i'=>?_⟩
   rw [hF,qvj,hk,e4]
   by_cases hii:i' = i
   ·simp [hii]
   ·simp [hii]
  ·obtain ⟨b3,m3,c3,f1,f2,f3,f4⟩:=hi y hy
   have hne:b3 ≠ b':=fun he=>hd y hy x hx hk (by rw [f1,hb,he])
   refine ⟨b3,m3,c3,f1,f2,qdg hne f3,fun i'=>?_⟩
   rw [hF,if_neg (fun h=>hk h.1),f4]
 ·rw [hF,if_neg (fun h=>ho x hx h.1.symm),hn o' i' ho]
 ·rw [hF] at ht
  split at ht
  ·rename_i he
   obtain rfl:=Option.some.inj ht
   exact ⟨by omega,by omega,t0,t1⟩
  ·exact hr _ _ _ ht
theorem q3X {h:Hp} {b b' c:Nat} {l:List ME} {cl:Cl} {o:List Int} {i t:Int} (hm:qaP h b mtO l c) (hi:∀ x ∈ l,∃ b' m c',x.v = [.map (some b')]/\b' ≠ b/\qaP h b' mtI m c'/\∀ i,cl x.k i = qd9 m i) (hd:∀ x ∈ l,∀ y ∈ l,x.k ≠ y.k->x.v ≠ y.v) (hn:∀ o i,(∀ x ∈ l,x.k ≠ o)->cl o i = none)
  (hr:∀ o i t,cl o i = some t->0 <= i/\i < 16/\0 <= t/\t < 18446744073709551616) (ho:qbx l o = false) (hol:o.length = 32) (hbb:b' ≠ b) (hfree:∀ x ∈ l,x.v ≠ [.map (some b')]) (i0:0 <= i) (i1:i < 16) (t0:0 <= t) (t1:t < 18446744073709551616) :
  qR (Hp.upd (Hp.upd h b (mtO.obj (qby l o [.map (some b')] c))) b' (mtI.obj (qby [] [i] [.int .u64 t] 0))) (.map (some b)) (qeq cl o i t):=by
 have hF:∀ o' i',qeq cl o i t o' i' = if o' = o/\i' = i then some t else cl o' i':=fun o' i'=>by unfold qeq; rw [if_pos ⟨i0,i1⟩]
 have hput:qby l o [.map (some b')] c = (l ++ [⟨o,[.map (some b')],c⟩],c + 1):=by unfold qby; rw [if_neg (by rw [ho]; simp)]
 have hfit:qs mtO.vpat [.map (some b')]:=⟨rfl,fun c k v hk hv=>by
  cases c with
  | zero=>simp only [mtO,List.getElem?_cons_zero,Option.some.injEq] at hk hv; subst hk hv; rfl
  | succ c=>simp [mtO] at hk⟩
 have hno:=qjK ho
 refine ⟨b,(qby l o [.map (some b')] c).1,(qby l o [.map (some b')] c).2,rfl,⟨by rw [qtY (Ne.symm hbb)]; exact qhE,qlZ hm.2 (by rw [hol]; rfl) hfit⟩,fun y hy=>?_,fun x hx y hy hk=>?_,fun o' i' ho'=>?_,fun o' i' t' ht=>?_⟩
 ·rw [hput] at hy
  rcases List.mem_append.1 hy with hy | hy
  ·obtain ⟨b3,m3,c3,f1,f2,f3,f4⟩:=hi y hy
   have hne:b3 ≠ b':=fun he=>hfree y hy (by rw [f1,he])
   refine ⟨b3,m3,c3,f1,f2,qdg hne (qdg f2 f3),fun i'=>?_⟩
   rw [hF,if_neg (fun h=>hno y hy h.1),f4]
  ·rw [List.mem_singleton] at hy
   subst hy
   refine ⟨b',(qby [] [i] [.int .u64 t] 0).1,(qby [] [i] [.int .u64 t] 0).2,rfl,hbb,⟨qhE,qlZ (c:=0) (l:=[]) ⟨fun x hx=>(by cases hx),List.Pairwise.nil⟩ (qik (i:=i) (t:=t)).1 (qik (i:=i) (t:=t)).2⟩,fun i'=>?_⟩
   rw [hF,qvj,hn o i' hno]
   by_cases hii:i' = i
   ·simp [hii]
   ·simp [hii,qd9]
 ·rw [hput] at hx hy
  rcases List.mem_append.1 hx with hx | hx <;> rcases List.mem_append.1 hy with hy | hy
  ·exact hd x hx y hy hk
  ·rw [List.mem_singleton] at hy; subst hy; exact hfree x hx
  ·rw [List.mem_singleton] at hx; subst hx; exact (hfree y hy).symm
  ·rw [List.mem_singleton] at hx hy; subst hx hy; exact absurd rfl hk
 ·rw [hput] at ho'
  rw [hF,if_neg (fun h=>ho' _ (List.mem_append_right _ (List.mem_singleton.2 rfl)) h.1.symm),hn o' i' fun x hx=>ho' x (List.mem_append_left _ hx)]
 ·rw [hF] at ht
  split at ht
  ·obtain rfl:=Option.some.inj ht
   rename_i he
   exact ⟨by omega,by omega,t0,t1⟩
  ·exact hr _ _ _ ht
end Go.Proofs

set_option linter.unusedSimpArgs false
set_option linter.unusedVariables false
namespace Go.Proofs
open Go Go.Eng
theorem qwO {m:List ME} {c:Nat} (hM:MWf mtI m c) {e:ME} (he:e ∈ m):∃ z,e.k = [z]:=qjw (hM.1 e he).1
theorem q02 {m:List ME} {i t:Int} (h:qd9 m i = some t):∃ e ∈ m,e.k = [i]/\qad (e.v.headD .nilFunc) = t:=by
 unfold qd9 at h
 obtain ⟨e,he,rfl⟩:=Option.map_eq_some_iff.1 h
 exact ⟨e,List.mem_of_find?_eq_some he,by simpa using List.find?_some he,rfl⟩
theorem qu5 {m:List ME} {c:Nat} (hM:MWf mtI m c) {e:ME} (he:e ∈ m) {z:Int} (hk:e.k = [z]):qd9 m z = some (qad (e.v.headD .nilFunc)):=by
 unfold qd9
 cases hf:m.find? fun x=>x.k == [z] with
 | none =>
  rw [List.find?_eq_none] at hf
  exact absurd (by simpa using hk) (hf e he)
 | some y =>
  have hy:y.k = [z]:=by simpa using List.find?_some hf
  obtain ⟨j,hj⟩:=List.getElem?_of_mem he
  obtain ⟨j',hj'⟩:=List.getElem?_of_mem (List.mem_of_find?_eq_some hf)
  have hjj:=qhy hM hj hj' (hk.trans hy.symm)
  rw [hjj,hj'] at hj
  rw [Option.some.inj hj]; rfl
theorem qtM {m:List ME} {c:Nat} {cl:Cl} {o:List Int} {s t:Int} {L Hs:List Int} (hM:MWf mtI m c) (he:∀ i,cl o i = qd9 m i) (hr:∀ o i t,cl o i = some t->0 <= i/\i < 16/\0 <= t/\t < 18446744073709551616):m.any (qiC o s t L Hs) = qdP cl o s t L Hs:=by
 apply Bool.eq_iff_iff.2
 unfold qdP
 rw [List.any_eq_true,List.any_eq_true]
 constructor
 ·rintro ⟨e,hem,hb⟩
  obtain ⟨z,hz⟩:=qwO hM hem
  have hg:=qu5 hM hem hz
  have hc:=(he z).trans hg
  obtain ⟨z0,z1,_⟩:=hr _ _ _ hc
  refine ⟨z.toNat,List.mem_range.2 (by omega),?_⟩
  rw [Int.toNat_of_nonneg z0,hc]
  unfold qiC at hb
  rw [hz] at hb
  exact hb
 ·rintro ⟨i,hi,hb⟩
  cases hc:cl o i with
  | none=>rw [hc] at hb; cases hb
  | some tt =>
   rw [hc] at hb
   obtain ⟨e,hem,hk,hv⟩:=q02 ((he i).symm.trans hc)
   refine ⟨e,hem,?_⟩
   unfold qiC
   rw [hk,hv]
   exact hb
theorem qws {h:Hp} {v:Value} {cl:Cl} {bi:Nat} {mo:Option Nat} {since st:Nat} {seen:Array Nat} {X:Obj} (hc:qR h v cl) (hb:h bi = some (.mapIter mo since seen st)):qR (Hp.upd h bi X) v cl:=by
 have hne:∀ {b:Nat} {mt:MT} {l:List ME} {c:Nat},qaP h b mt l c->b ≠ bi:=fun hm he=>by
  rw [he] at hm
  have:=hm.1.symm.trans hb
  simp [MT.obj] at this
 obtain ⟨b,l,c,e,hm,hi,hr⟩:=hc
 exact ⟨b,l,c,e,qdg (hne hm) hm,fun x hx=>by
  obtain ⟨b',m,c',e1,e2,e3,e4⟩:=hi x hx
  exact ⟨b',m,c',e1,e2,qdg (hne e3) e3,e4⟩,hr⟩
theorem q4n {m:List ME} {c:Nat} (hM:MWf mtI m c) {e:ME} (he:e ∈ m) {seen:List Nat} {p:ME->Bool}:((m.filter fun y=>(seen ++ [e.born]).contains y.born).any p) = ((m.filter fun y=>seen.contains y.born).any p || p e):=by
 apply Bool.eq_iff_iff.2
 rw [Bool.or_eq_true,List.any_eq_true,List.any_eq_true]
 constructor
 ·rintro ⟨y,hy,hp⟩
  rw [List.mem_filter] at hy
  obtain ⟨hy1,hy2⟩:=hy
  simp only [List.contains_eq_mem,List.mem_append,List.mem_singleton,decide_eq_true_eq] at hy2
  rcases hy2 with h | h
  ·exact .inl ⟨y,List.mem_filter.2 ⟨hy1,by simpa using h⟩,hp⟩
  ·right
   have:y = e:=by
    obtain ⟨i,hi⟩:=List.getElem?_of_mem hy1
    obtain ⟨j,hj⟩:=List.getElem?_of_mem he
    have hij:i = j:=born_get hM hi hj h
    rw [hij,hj] at hi
    exact (Option.some.inj hi).symm
   rw [<- this]; exact hp
 ·rintro (⟨y,hy,hp⟩ | hp)
  ·rw [List.mem_filter] at hy
   exact ⟨y,List.mem_filter.2 ⟨hy.1,by have:=hy.2; simp only [List.contains_eq_mem,decide_eq_true_eq] at this; simp [this]⟩,hp⟩
  ·exact ⟨e,List.mem_filter.2 ⟨he,by simp⟩,hp⟩
where
 born_get {m:List ME} {c:Nat} (hM:MWf mtI m c) {i j:Nat} {x y:ME} (hi:m[i]? = some x) (hj:m[j]? = some y) (h:x.born = y.born):i = j:=by
  have hp:=List.pairwise_iff_getElem.1 hM.2
  obtain ⟨h1,e1⟩:=List.getElem?_eq_some_iff.1 hi
  obtain ⟨h2,e2⟩:=List.getElem?_eq_some_iff.1 hj
  rcases Nat.lt_trichotomy i j with hlt | heq | hlt
  ·have:=(hp i j h1 h2 hlt).1; rw [e1,e2] at this; omega
  ·exact heq
  ·have:=(hp j i h2 h1 hlt).1; rw [e1,e2] at this; omega
theorem qmD {h:Hp} {it:Value} {bi b since st c:Nat} {seen:List Nat} {m:List ME} (hit:it = .pointer (some ⟨bi,0,none⟩)) (hb:h bi = some (.mapIter (some b) since seen.toArray st)) (hM:qaP h b mtI m c):qhu h it = (m.filter fun y=>!(seen.contains y.born)).length:=by
 subst hit
 unfold qhu
 simp only [hb,hM.1,MT.obj,List.toList_toArray,List.contains_toArray]
 rw [List.filter_map,List.length_map]
 rfl
theorem q19 {m:List ME} {e:ME} (he:e ∈ m) {seen:List Nat} (hn:¬ e.born ∈ seen):(m.filter fun y=>!((seen ++ [e.born]).contains y.born)).length < (m.filter fun y=>!(seen.contains y.born)).length:=by
 have h1:(m.filter fun y=>!((seen ++ [e.born]).contains y.born)) = ((m.filter fun y=>!(seen.contains y.born)).filter fun y=>!((seen ++ [e.born]).contains y.born)):=by
  rw [List.filter_filter]
  refine List.filter_congr fun y hy=>?_
  by_cases hs:y.born ∈ seen <;> simp [hs]
 rw [h1]
 refine List.length_filter_lt_length_iff_exists.2 ⟨e,List.mem_filter.2 ⟨he,by simp [hn]⟩,by simp⟩
section
variable {h0 H:Hp} {v it:Value} {o:List Int} {s t:Int} {L Hs:List Int} {cl:Cl}
theorem qsr {bi:Nat} (hc:qR h0 v cl) (hno:∀ i,cl o i = none) (hle:Hp.le h0 H) (hit:it = .pointer (some ⟨bi,0,none⟩)) (hb:H bi = some (.mapIter none 0 #[] 0)):qp9 h0 H v it o s t L Hs false:=fun cl' h'=>by
 rw [qhm hc h']
 exact ⟨qxe hc hle,[],[],⟨bi,none,0,0,hit,hb,.inl ⟨rfl,rfl⟩⟩,fun i=>by rw [hno]; rfl,rfl⟩
theorem qrW {bi b c:Nat} {m:List ME} (hc:qR h0 v cl) (hm:qaP h0 b mtI m c) (he:∀ i,cl o i = qd9 m i) (hle:Hp.le h0 H) (hit:it = .pointer (some ⟨bi,0,none⟩)) (hb:H bi = some (.mapIter (some b) c #[] c)):qp9 h0 H v it o s t L Hs false:=fun cl' h'=>by
 rw [qhm hc h']
 have hmH:=qg9 hm hle
 have hne:bi ≠ b:=fun e=>by
  rw [e] at hb
  have:=hmH.1.symm.trans hb
  simp [MT.obj] at this
 refine ⟨qxe hc hle,m,[],⟨bi,some b,c,c,hit,hb,.inr ⟨b,c,rfl,hne,hmH,Nat.le_refl _,.inl rfl,fun n hn=>by cases hn⟩⟩,he,?_⟩
 have:(m.filter fun e=>([]:List Nat).contains e.born) = []:=by simp
 rw [this]; rfl
theorem q4Q {bi b since st c:Nat} {m:List ME} {seen:List Nat} {e:ME} {x y:Bool} (hc:qR h0 v cl) (hcH:qR H v cl) (hit:it = .pointer (some ⟨bi,0,none⟩)) (hb:H bi = some (.mapIter (some b) since seen.toArray st)) (hne:bi ≠ b) (hm:qaP H b mtI m c) (hcs:c <= since) (hseen:∀ n ∈ seen,∃ e ∈ m,e.born = n)
  (he:∀ i,cl o i = qd9 m i) (hem:e ∈ m) (hx:x = (m.filter fun e=>seen.contains e.born).any (qiC o s t L Hs)) (hy:y = (x || qiC o s t L Hs e)):qp9 h0 (Hp.upd H bi (.mapIter (some b) since (seen ++ [e.born]).toArray c)) v it o s t L Hs y:=fun cl' h'=>by
 rw [qhm hc h']
 refine ⟨qws hcH hb,m,seen ++ [e.born],⟨bi,some b,since,c,hit,qhE,.inr ⟨b,c,rfl,hne,qdg (Ne.symm hne) hm,hcs,.inr (.inr ⟨e,hem,(hm.2.1 e hem).2.2⟩),fun n hn=>?_⟩⟩,he,?_⟩
 ·rcases List.mem_append.1 hn with h | h
  ·exact hseen n h
  ·rw [List.mem_singleton] at h; exact ⟨e,hem,h.symm⟩
 ·rw [q4n hm.2 hem,<- hx,hy]
theorem q0J {since c:Nat} {m:List ME} {seen:List Nat} {x:Bool} (hM:MWf mtI m c) (hc:qR h0 v cl) (hcH:qR H v cl) (hcs:c <= since) (he:∀ i,cl o i = qd9 m i) (hx:x = (m.filter fun e=>seen.contains e.born).any (qiC o s t L Hs)) (hall:∀ e ∈ m,e.born < since->e.born ∈ seen) :
  ∀ cl',qR h0 v cl'->qR H v cl'/\x = qdP cl' o s t L Hs:=fun cl' h'=>by
 rw [qhm hc h']
 refine ⟨hcH,?_⟩
 have hf:(m.filter fun e=>seen.contains e.born) = m:=List.filter_eq_self.2 fun e hem=>by
  have:=hall e hem (by have:=(hM.1 e hem).2.2; omega)
  simpa using this
 obtain ⟨b,l,c0,rfl,_,_,_,_,hr⟩:=hc
 rw [hf] at hx
 rw [hx]; exact qtM hM he hr
end
end Go.Proofs

set_option linter.unusedSimpArgs false
set_option linter.unusedVariables false
namespace Go.Proofs
open Go Go.Eng
set_option maxRecDepth 20000
theorem q2W:qdL.ok Tryz.prog:=q2N (by simp) fun ρ hg hp=>by
 simp (config:={ maxSteps:=4000000 }) [qpA,qdL]
 intro u _ v _ b hv hu
 exact ⟨b,[],0,hv,⟨by rw [hu]; simp [Hp.one,MT.obj],fun x hx=>(by cases hx),List.Pairwise.nil⟩,fun x hx=>(by cases hx),fun x hx=>(by cases hx),fun _ _ _=>rfl,fun _ _ _ h=>(by cases h)⟩
theorem q7c:qi1.ok Tryz.prog:=q6Q (by simp) fun ρ hg hp=>by
 obtain ⟨h0,h1,h2,h3⟩:=hp
 simp (config:={ maxSteps:=4000000 }) [qzK,qi1]
 have hu:(ρ 0).i <= (ρ 1).i->qd .sub .u64 (ρ 1).i (ρ 0).i = (ρ 1).i - (ρ 0).i:=fun h=>by
  show IntKind.wrap .u64 _ = _
  rw [q5M]; omega
 refine ⟨fun h=>?_,fun h=>?_⟩
 ·rw [hu h]; unfold qjR; rw [decide_eq_true h,Bool.true_and]; rfl
 ·unfold qjR; rw [decide_eq_false (by omega),Bool.false_and]
theorem quQ (d:qe):[qa d 0,qa d 1,qa d 2,qa d 3,qa d 4,qa d 5,qa d 6,qa d 7,qa d 8,qa d 9,qa d 10,qa d 11,qa d 12,qa d 13,qa d 14,qa d 15,qa d 16,qa d 17,qa d 18,qa d 19,qa d 20,qa d 21,qa d 22,qa d 23,qa d 24,qa d 25,qa d 26,qa d 27,qa d 28,qa d 29,qa d 30,qa d 31] = qf d 32:=rfl
theorem qus:(⟨true,[.u8,.u8,.u8,.u8,.u8,.u8,.u8,.u8,.u8,.u8,.u8,.u8,.u8,.u8,.u8,.u8,.u8,.u8,.u8,.u8,.u8,.u8,.u8,.u8,.u8,.u8,.u8,.u8,.u8,.u8,.u8,.u8],false,[.any],[.vnilm]⟩:MT) = mtO:=rfl
theorem qtz:(⟨false,[.i64],false,[.int .u64],[.vint .u64 (.lit 0)]⟩:MT) = mtI:=rfl
theorem q4L (ρ:Env):List.map (fun t=>(T.den ρ t).v) mtO.zero = [.map none]:=rfl
theorem q4F (ρ:Env):List.map (fun t=>(T.den ρ t).v) mtI.zero = [.int .u64 0]:=rfl
theorem qro (row:List Value):qaj [row] 0 0 = row.headD .nilFunc:=by cases row <;> rfl
theorem qtg {l:List ME} {k:List Int} {z:List Value} (h:qbx l k = true):∃ x ∈ l,x.k = k/\qcP l k z = x.v:=by
 obtain ⟨j,x,hj,hk,_,hg⟩:=qf9 (mt:=mtO) (i:=0) h
 exact ⟨x,List.mem_of_getElem? hj,hk,hg z⟩
theorem q3p {cl:Cl} {o:List Int} {i t:Int} (h:qpo i = false):qeq cl o i t = cl:=by
 unfold qeq
 rw [if_neg (of_decide_eq_false h)]
theorem q4q {l:List ME} {k:List Int} {v z:List Value} {c:Nat} (h:qbx l k = false):qcP (qby l k v c).1 k z = v:=by
 have hn:=qjK h
 unfold qby
 rw [if_neg (by rw [h]; simp)]
 unfold qcP
 simp only
 rw [List.find?_append]
 have:l.find? (fun x=>x.k == k) = none:=by
  rw [List.find?_eq_none]
  intro x hx hk
  exact hn x hx (by simpa using hk)
 rw [this]; simp
theorem qfa {ρ:Env} {l:List SH} {H:Hp} (n t:Nat) (hs:qU ρ l H) (hm:SH.abs n t ∈ l):Hp.le (ρ n).h H:=by
 obtain ⟨hb,lb,db⟩:=qck hs hm
 exact Hp.le_trans db lb
theorem qz2 {ρ:Env} {n m t t':Nat} {H:Hp} (hs:qU ρ [SH.abs n t,SH.abs m t'] H):Hp.disj (ρ n).h (ρ m).h:=by
 obtain ⟨h1,h2,hd,hu,hx,h3,h4,hd2,hu2,hy,_⟩:=hs
 intro b
 cases hb1:(ρ n).h b with
 | none=>exact .inl rfl
 | some X =>
  cases hb2:(ρ m).h b with
  | none=>exact .inr rfl
  | some Y =>
   have e1:=hx.1 b X hb1
   have e2:=hy.1 b Y hb2
   have e3:h2 b = some Y:=by rw [hu2]; simp [Hp.union,e2]
   rcases hd b with h | h
   ·rw [e1] at h; cases h
   ·rw [e3] at h; cases h
theorem q5q {b:Nat}:qs mtO.vpat [.map (some b)]:=⟨rfl,fun c k v hk hv=>by
 cases c with
 | zero=>simp only [mtO,List.getElem?_cons_zero,Option.some.injEq] at hk hv; subst hk hv; rfl
 | succ c=>simp [mtO] at hk⟩
theorem q4V:qf5.ok Tryz.prog:=q56 (by simp [qq0]) fun ρ hg hp=>by
 obtain ⟨⟨cl,hcl⟩,h0,h1⟩:=hp
 have hcl0:=hcl
 simp (config:={ maxSteps:=4000000 }) [qtA,qf5,qcn,quQ,qus,qtz,qro,qb,q4L,q4F]
 obtain ⟨b,l,c,hv,hm,hi,hd,hn,hr⟩:=hcl
 intro u _ p _ hp
 refine ⟨fun hpf cl' h'=>by rw [q3p (hp ▸ hpf)]; exact h',fun hpt=>⟨l,.inr ⟨b,hv,c,hm⟩,?_⟩⟩
 have hpp:0 <= (ρ 2).i/\(ρ 2).i < 16:=of_decide_eq_true (hp ▸ hpt:qpo (ρ 2).i = true)
 cases hh:qbx l (qf (ρ 1).d 32) with
 | false =>
  refine .inl ⟨by rw [qlL hh]; rfl,fun m _ v _ b' hvv hmh H _ hst=>?_⟩
  obtain ⟨hA,lA,dA⟩:=qck hst (n:=10) (t:=1003) (by simp)
  obtain ⟨hB,lB,dB⟩:=qck hst (n:=5) (t:=1003) (by simp)
  have hle:Hp.le (ρ 5).h H.h:=by
   have h:=qfa 5 1003 hst (by simp)
   simpa using h
  have hone:H.h b' = some (.map #[] 0):=by
   have h:=qfa 10 1003 hst (by simp)
   have h:Hp.le m.h H.h:=by simpa using h
   exact h b' _ (by rw [hmh]; simp [Hp.one])
  have hnew:∀ X,(ρ 5).h b' = some X->False:=by
   intro X hX
   have h:=qz2 hst
   have h:Hp.disj m.h (ρ 5).h:=by simpa using h
   rcases h b' with h | h
   ·rw [hmh] at h; simp [Hp.one] at h
   ·rw [hX] at h; cases h
  have hbb:b' ≠ b:=fun he=>hnew _ (by rw [he]; exact hm.1)
  have hfree:∀ x ∈ l,x.v ≠ [.map (some b')]:=fun x hx he=>by
   obtain ⟨b3,m3,c3,f1,f2,f3,f4⟩:=hi x hx
   rw [he] at f1
   simp only [List.cons.injEq,Value.map.injEq,Option.some.injEq,and_true] at f1
   exact hnew _ (by rw [f1]; exact f3.1)
  have hmH:=qg9 hm hle
  have hiH:∀ x ∈ l,∃ b' m c',x.v = [.map (some b')]/\b' ≠ b/\qaP H.h b' mtI m c'/\∀ i,cl x.k i = qd9 m i:=fun x hx=>by
   obtain ⟨b3,m3,c3,f1,f2,f3,f4⟩:=hi x hx
   exact ⟨b3,m3,c3,f1,f2,qg9 f3 hle,f4⟩
  have hput:=q4q (z:=[.map none]) (v:=[v.v]) (c:=c) hh
  have hfit:qs mtO.vpat [v.v]:=by rw [hvv]; exact q5q
  refine ⟨b,hv,l,c,hmH,fun u4 _ h4=>⟨(qby l (qf (ρ 1).d 32) [v.v] c).1,.inr ⟨b,hv,(qby l (qf (ρ 1).d 32) [v.v] c).2,⟨by rw [h4]; exact qhE,qlZ hm.2 (by simp [qf,mtO]) hfit⟩⟩,b',by rw [hput,hvv]; rfl,[],0,⟨by rw [h4,qtY hbb,hone]; rfl,fun x hx=>(by cases hx),List.Pairwise.nil⟩,fun u5 _ h5 cl' h'=>?_⟩⟩
  rw [qhm hcl0 h',h5,hv,h4,hvv]
  exact q3X hmH hiH hd hn hr hh (by simp [qf]) hbb hfree hpp.1 hpp.2 h0 h1
 | true =>
  obtain ⟨x,hx,hk,hgx⟩:=qtg (z:=[.map none]) hh
  obtain ⟨b',m,c',e1,e2,e3,e4⟩:=hi x hx
  refine .inr ⟨⟨b',by rw [hgx,e1]; rfl⟩,l,.inr ⟨b,hv,c,hm⟩,b',by rw [hgx,e1]; rfl,m,c',e3,fun u5 _ h5 cl' h'=>?_⟩
  rw [qhm hcl0 h',h5,hv,<- hk]
  exact q3j hm hi hd hn hr hx e1 e3 hpp.1 hpp.2 h0 h1
theorem qyw:qcf.ok Tryz.prog:=qy5 (by simp [q1q,q7c,qrF]) fun ρ hg hp=>by
 obtain ⟨⟨cl,hcl⟩,hO,⟨hl,h1,hr⟩,⟨hl2,h12,hr2⟩,⟨hGr,hGd⟩,t0,t1⟩:=hp
 simp only [Nat.reduceAdd] at hl h1 hr hl2 h12 hr2
 have hcl0:=hcl
 simp (config:={ maxSteps:=4000000 }) [ql0,qcf,qnE,qdM,qi1,qbH,qe3,qbZ,gOk,quQ,qus,qtz,qro,qb,q4L,q4F,hl,hl2,hO,hGr,hGd]
 obtain ⟨b,l,c,hv,hm,hi,hd,hn,hrr⟩:=hcl
 repeat' (first | with_reducible apply And.intro | with_reducible intro _)
 all_goals first
  | omega
  | exact qjj (by assumption) (by assumption)
  | skip
 refine ⟨l,.inr ⟨b,hv,c,hm⟩,?_⟩
 have hstart:∃ (mo:Option Nat) (clock:Nat),((qcP l (qf (ρ 1).d 32) [Value.map none]).head?.getD .nilFunc = .map none/\mo = none/\clock = 0∨∃ b:Nat,(qcP l (qf (ρ 1).d 32) [Value.map none]).head?.getD .nilFunc = .map (some b)/\mo = some b/\∃ l,qaP (ρ 5).h b mtI l clock)/\∀ (H:Hp) (bi:Nat) (it:Value),Hp.le (ρ 5).h H->it = .pointer (some ⟨bi,0,none⟩)->H bi = some (.mapIter mo clock #[] clock)->qp9 (ρ 5).h H (ρ 4).v it (qf (ρ 1).d 32) (ρ 2).i (ρ 3).i (qw (ρ 9).d) (qw (ρ 14).d) false:=by
  cases hh:qbx l (qf (ρ 1).d 32) with
  | false =>
   have hg0:=qlL (z:=[.map none]) hh
   exact ⟨none,0,.inl ⟨by rw [hg0]; rfl,rfl,rfl⟩,fun H bi it hle hit hb=>qsr hcl0 (fun i=>hn _ _ (qjK hh)) hle hit hb⟩
  | true =>
   obtain ⟨x,hx,hk,hgx⟩:=qtg (z:=[.map none]) hh
   obtain ⟨b',m,c',e1,e2,e3,e4⟩:=hi x hx
   exact ⟨some b',c',.inr ⟨b',by rw [hgx,e1]; rfl,rfl,m,e3⟩,fun H bi it hle hit hb=>qrW hcl0 e3 (fun i=>by rw [<- hk]; exact e4 i) hle hit hb⟩
 obtain ⟨mo,clock,hmo,hst0⟩:=hstart
 refine ⟨mo,clock,hmo,?_⟩
 intro I1 _ I2 _ bi hit hI1 H _ hst
 have hle:Hp.le I1.h H.h/\Hp.le (ρ 5).h H.h:=by
  have h1:=qfa 54 1003 hst (by simp)
  have h2:=qfa 5 1003 hst (by simp)
  exact ⟨by simpa using h1,by simpa using h2⟩
 have hbi:H.h bi = some (.mapIter mo clock #[] clock):=hle.1 _ _ (by rw [hI1]; simp [Hp.one])
 refine ⟨⟨qcZ (l:=[_,_,_,_,_,_,_,_,_,_,_,_,_,_,_,_]) (by assumption) qdI,qcZ (l:=[_,_,_,_,_,_,_,_,_,_,_,_,_,_,_,_]) (by assumption) qdI,hst0 H.h bi I2.v hle.2 hit hbi⟩,?_⟩
 intro F13 _ F14 _ x _ it _ H2 _ hs13 hs14 hB
 obtain ⟨hcH,m,seen,⟨bi2,mo2,since,stp,hit2,hbi2,hmo2⟩,hco,hx⟩:=hB cl hcl0
 refine ⟨bi2,hit2,since,seen,stp,mo2,hbi2,?_⟩
 rcases hmo2 with ⟨rfl,rfl⟩ | ⟨b2,c2,rfl,hne,hM,hcs,hstt,hseen⟩
 ·exact q0J (m:=[]) (c:=0) (since:=0) ⟨fun x hx=>(by cases hx),List.Pairwise.nil⟩ hcl0 hcH (Nat.le_refl _) hco hx (fun e he=>by cases he)
 ·refine ⟨m,c2,hM,hstt,fun hall=>q0J hM.2 hcl0 hcH hcs hco hx hall,fun e he hns u2 _ hu2=>⟨bi2,hit2,since,seen,c2,b2,m,e,by rw [hu2]; exact qhE,by rw [hu2]; exact qdg (Ne.symm hne) hM,he,?_⟩⟩
  have hbl:∀ y:Bool,y = (x.b || qiC (qf (ρ 1).d 32) (ρ 2).i (ρ 3).i (qw (ρ 9).d) (qw (ρ 14).d) e)->qp9 (ρ 5).h u2.h (ρ 4).v it.v (qf (ρ 1).d 32) (ρ 2).i (ρ 3).i (qw (ρ 9).d) (qw (ρ 14).d) y:=fun y hy=>by
   rw [hu2]; exact q4Q hcl0 hcH hit2 hbi2 hne hM hcs hseen hco he hx hy
  have hless:qhu u2.h it.v < qhu H2.h it.v:=by
   rw [qmD (h:=H2.h) hit2 hbi2 hM,qmD (h:=u2.h) (seen:=seen ++ [e.born]) hit2 (by rw [hu2]; exact qhE) (by rw [hu2]; exact qdg (Ne.symm hne) hM)]
   exact q19 he hns
  obtain ⟨z,hz⟩:=qwO hM.2 he
  have hg:=(hco z).trans (qu5 hM.2 he hz)
  obtain ⟨z0,z1,v0,v1⟩:=hrr _ _ _ hg
  have hcv:qa [e.v] 0 = qad (e.v.headD .nilFunc):=by unfold qa; cases e.v <;> rfl
  have hbe:∀ a b c d:Bool,a = qjR (qad (e.v.headD .nilFunc)) (ρ 3).i->b = decide (z ∈ qw (ρ 9).d)->c = decide (z ∈ qw (ρ 14).d)->d = qO (qf (ρ 1).d 32) z (ρ 2).i->qiC (qf (ρ 1).d 32) (ρ 2).i (ρ 3).i (qw (ρ 9).d) (qw (ρ 14).d) e = (a && b && !c && d):=by
   intro a b c d ha hb hc hd
   unfold qiC
   rw [hz,ha,hb,hc,hd,List.headD_cons]
  have hkx:qa [qP [IntKind.i64] e.k] 0 = z:=by rw [hz]; rfl
  have hkx':qa [qP mtI.kks e.k] 0 = z:=hkx
  rw [hcv,hkx']
  have hB:=fun (r:U) (hr':r.b = qjR (qad (e.v.headD .nilFunc)) (ρ 3).i)=>hbe r.b (decide (z ∈ qw (ρ 9).d)) (decide (z ∈ qw (ρ 14).d)) (qO (qf (ρ 1).d 32) z (ρ 2).i) hr' rfl rfl rfl
  refine ⟨fun hxt=>⟨⟨hs13,hs14,hbl true (by rw [hxt,Bool.true_or])⟩,hless⟩,fun hxf=>⟨⟨v0,v1,t0,t1⟩,fun r _ hr'=>⟨fun hrt=>⟨z0,z1,qs6 hs14,fun hf14=>⟨qs6 hs13,fun hf13 w _ hw=>⟨⟨hs13,hs14,hbl w.b ?_⟩,hless⟩,fun hf13=>⟨⟨hs13,hs14,hbl false ?_⟩,hless⟩⟩,fun hf14=>⟨⟨hs13,hs14,hbl false ?_⟩,hless⟩⟩,fun hrf=>⟨⟨hs13,hs14,hbl false ?_⟩,hless⟩⟩⟩⟩
  ·rw [hxf,hB r hr',hrt,decide_eq_true ((qeX hs14 qdI z0 z1).1 hf14),decide_eq_false (qjy hs13 qdI z0 z1 hf13),hw]; generalize qO (qf (ρ 1).d 32) z (ρ 2).i = q; cases q <;> rfl
  ·rw [hxf,hB r hr',hrt,decide_eq_true ((qeX hs14 qdI z0 z1).1 hf14),decide_eq_true ((qeX hs13 qdI z0 z1).1 hf13)]; generalize qO (qf (ρ 1).d 32) z (ρ 2).i = q; cases q <;> rfl
  ·rw [hxf,hB r hr',hrt,decide_eq_false (qjy hs14 qdI z0 z1 hf14)]; generalize qO (qf (ρ 1).d 32) z (ρ 2).i = q; cases q <;> rfl
  ·rw [hxf,hB r hr',hrf]; generalize qO (qf (ρ 1).d 32) z (ρ 2).i = q; cases q <;> simp
end Go.Proofs

set_option linter.unusedSimpArgs false
set_option linter.unusedVariables false
namespace Go.Eng
open Go Go.Proofs
structure ManV where
 k:Int
 n:Int
 t:Int
 s:Int
 o:List Int
 D:List (List Int)
def ManV.ok (m:ManV):Bool:=qE m.k m.n m.t m.s m.D.length
def ManV.bytes (m:ManV):List Int:=qaD m.k m.n m.t m.s m.o ++ m.D.flatten
abbrev PcL:=List (Int × List Int)
def q7i (m d c:Nat):SH:=.arr m 27 qte (.var d) (.var c)
def q6U (g o m p l q:Nat):SH:=.cells g 165 (qaK .u8 o 32 ++ [.vptr m (.lit 0) 37 0,.vslice p (.lit 0) (.var l) (.var q) 2])
def gaP (g:Nat):SV:=.one (.vptr g (.lit 0) 34 0)
def qsx (b tag:Nat):List SH:=[q6U b (b + 1) (b + 2) (b + 5) (b + 6) (b + 7),q7i (b + 2) (b + 3) (b + 4),q23 (b + 5) (b + 8) (b + 7),.abs (b + 9) tag]
def qhK (h:Hp) (d:qe) (m:ManV):Prop:=∃ row D,d = [row]/\qs qte row/\Rd h k32 (row[36]?.getD .nilFunc) D/\qdi D/\dgs D = m.D/\qbB row 0 = m.k/\qbB row 1 = m.n/\qbB row 2 = m.t/\qbB row 3 = m.s/\((List.range 32).map fun j=>qbB row (4 + j)) = m.o/\qQ m.o/\m.ok = true
def qpf (h:Hp) (P:qe) (L:PcL):Prop:=P.length = L.length/\qql h P P.length/\∀ j,j < P.length->(pcI P j,pcD h P j) = L.getD j (0,[])
def qbM (h:Hp) (r:Option Addr) (d:qe) (c n:Int) (P:qe) (M:Option ManV) (L:PcL):Prop:=n = P.length/\qpf h P L/\(∀ x ∈ L,(x.2.length:Int) <= 9000)/\L.length <= 255/\((M = none/\r = none/\c = 0/\d = []/\L = [])∨∃ m,M = some m/\c = 1/\qhK h d m/\L ≠ [])
def qgF (M:Option ManV) (L:PcL):Bool:=match M with
 | some m=>decide (m.k <= L.length)
 | none=>false
def gaB (ρ:Env) (b:Nat) (M:Option ManV) (L:PcL):Prop:=qbM (ρ (b + 9)).h (ρ (b + 2)).r (ρ (b + 3)).d (ρ (b + 4)).i (ρ (b + 6)).i (ρ (b + 8)).d M L
def qdN:Ctr:={ fn := 45,nv:=1,args:=[dgV 0],heap:=[],ro:=[],pre:=fun _=>True,alts:=[
 { k:=1,ret:=gaP 1,heap:=[.cells 1 165 (qaK .u8 0 32 ++ [.vnilp,.vnils])],post:=fun _=>True }] }
def qcd:Ctr:={ fn := 47,nv:=10,args:=[gaP 0],heap:=[],ro:=qsx 0 20,pre:=fun ρ=>∃ M L,gaB ρ 0 M L,alts:=[
 { k:=1,ret:=.one (.vbool (.var 10)),heap:=[],post:=fun ρ=>∀ M L,gaB ρ 0 M L->(ρ 10).b = qgF M L }] }
def qdk:Ctr:={ fn := 55,nv:=10,args:=[gaP 0],heap:=[],ro:=qsx 0 20,pre:=fun ρ=>∃ M L,gaB ρ 0 M L,alts:=[
 { k:=4,ret:=.one (.vslice 10 (.lit 0) (.var 11) (.var 12) 1),heap:=[iHp 10 13 12],post:=fun ρ=>∀ M L,gaB ρ 0 M L->qdH (ρ 13).d (ρ 11).i (L.map Prod.fst) }] }
def qyo:Inv:={ key:=5,nv:=5,env:=[(3,.one (.vslice 1000 (.lit 0) (.var 1001) (.var 1002) 1)),(12,pcS 5 6 7),(13,iv .i64 (.var 6)),(14,iv .i64 (.var 1004))],heap:=[iHp 1000 1003 1002],inv:=(fun ρ=>0 <= (ρ 1004).i/\(ρ 1004).i <= (ρ 6).i/\qdH (ρ 1003).d (ρ 1001).i (qgR (ρ 8).d (ρ 1004).i.toNat)),mu:=(fun ρ=>((ρ 6).i - (ρ 1004).i).toNat) }
def qdt:Ctr:={ fn := 90,nv:=5,args:=[.one (.vslice 0 (.lit 0) (.var 1) (.var 2) 32)],heap:=[],ro:=[qdj 0 3 4],pre:=fun ρ=>0 <= (ρ 1).i/\(ρ 1).i = (ρ 3).d.length/\(ρ 1).i <= 4398046510976,alts:=[
 { k:=3,ret:=.one (.vslice 5 (.lit 0) (.var 1) (.var 6) 32),heap:=[qdj 5 7 6],post:=fun ρ=>(ρ 7).d = (ρ 3).d }] }
def qgd (o:List Int) (M:Option ManV) (L:PcL) (m:ManV) (i:Int) (b:List Int):Int :=
 if m.ok = false then 2 else if sha m.bytes ≠ o then 20 else if qcc m.k m.n m.t m.s m.D.length m.D i b ≠ 0 then qcc m.k m.n m.t m.s m.D.length m.D i b else if i ∈ L.map Prod.fst then 7 else if qgF M L then 8 else 0
def qyk (ρ:Env) (r:Nat):ManV:=⟨(ρ r).i,(ρ (r + 1)).i,(ρ (r + 2)).i,(ρ (r + 3)).i,qf (ρ (r + 4)).d 32,dgs (ρ (r + 8)).d⟩
def q1k (ρ:Env):Prop:=(∃ M L,gaB ρ 0 M L)/\qQ (qf (ρ 1).d 32)/\q4K ρ 10/\qcR (ρ 20).i/\qgW ρ 20/\(ρ 22).i <= 9000
def qdK:Ctr:={ fn := 48,nv:=28,ip:=[gIp 26,(1002,9)],args:=[gaP 0,qoU 10,qge 20],heap:=qsx 0 20,ro:=[qdj 15 18 19,qfm 20,gHp 26 27],pre:=fun ρ=>q1k ρ/\gOk ρ 26 27 gR,alts:=[
 { k:=9,ret:=iv .i64 (.var 36),heap:=[q6U 0 1 28 31 32 33,q7i 28 29 30,q23 31 34 33,.abs 35 20],post:=fun ρ=>∀ M L,gaB ρ 0 M L->(ρ 36).i = qgd (qf (ρ 1).d 32) M L (qyk ρ 10) (ρ 20).i (bI (ρ 24).d)/\qbM (ρ 35).h (ρ 28).r (ρ 29).d (ρ 30).i (ρ 32).i (ρ 34).d (if (ρ 36).i = 0 then some (qyk ρ 10) else M) (if (ρ 36).i = 0 then L ++ [((ρ 20).i,bI (ρ 24).d)] else L) }] }
end Go.Eng

set_option linter.unusedSimpArgs false
set_option linter.unusedVariables false
set_option maxRecDepth 100000
namespace Go.Proofs
open Go Go.Eng

def qpJ:Out:=(.fresh 1 (.fresh 2 (.ret 0 (sg 1 [bg 1 2]))))
theorem qx0:qj ⟨Tryz.prog,qdN,[],[]⟩ 100000 Tryz.f45 = qpJ:=by kernel_rfl
theorem q2v (hd:∀ c ∈ ([]:List Ctr),c.ok Tryz.prog) (h:∀ ρ:Env,ρ.good->(qdN).pre ρ->qpJ.den ⟨Tryz.prog,qdN,[],[]⟩ ρ):(qdN).ok Tryz.prog :=
 qc Tryz.func45 (fun a w=>Tryz.call45 a w) hd 100000 (fun ρ hg hp=>by rw [qx0]; exact h ρ hg hp)
def qqJ:Out:=(.br (.not (.and (.cmp .eql (.dlen (.var 3)) (.lit 0)) (.isnil 2)))
 (.need (.cmp .leq (.lit 0) (.var 6)) (.need (.cmp .lss (.lit 0) (.dlen (.var 3))) (.ret 0 (sg 10 [bt 10 (.cmp .geq (.var 6) (.icell (.var 3) (.lit 0) 0))]))))
 (.ret 0 (sg 10 [bt 10 (.bl false)])))
theorem qyC:qj ⟨Tryz.prog,qcd,[],[]⟩ 100000 Tryz.f47 = qqJ:=by kernel_rfl
theorem q2y (hd:∀ c ∈ ([]:List Ctr),c.ok Tryz.prog) (h:∀ ρ:Env,ρ.good->(qcd).pre ρ->qqJ.den ⟨Tryz.prog,qcd,[],[]⟩ ρ):(qcd).ok Tryz.prog :=
 qc Tryz.func47 (fun a w=>Tryz.call47 a w) hd 100000 (fun ρ hg hp=>by rw [qyC]; exact h ρ hg hp)
def qvo:Out:=(.fresh 10 (.need (.cmp .leq (.lit 0) (.var 6)) (.inv 0 11 (sg 1000 [bt 1003 .dnil,bt 1004 (.lit 0),bt 1002 (.lit 0),bt 1001 (.lit 0),bg 1000 10]) (.fresh 11 (.fresh 12 (.fresh 13 (.fresh 14 (.fresh 15 (.hyp 0 11 (.br (.cmp .lss (.var 15) (.var 6))
 (.need (.cmp .leq (.lit 0) (.var 15)) (.need (.cmp .lss (.var 15) (.dlen (.var 8))) (.fresh 16 (.fresh 17 (.need (.cmp .eql (.var 12) (.dlen (.var 14))) (.need (.cmp .leq (.tims (.lit 8) (.plus (.var 12) (.lit 1))) (.lit 140737488355328)) (.fresh 18 (.fresh 19 (.back 0 11 (sg 1000 [bt 1003 (.dapp (.var 14) (.rcons (.vint .i64 (.icell (.var 8) (.var 15) 0)) .rnil)),bt 1004 (.arith .add .i64 (.var 15) (.lit 1)),bv 1002 19,bt 1001 (.plus (.var 12) (.lit 1)),bg 1000 18]))))))))))
 (.ret 0 (sg 10 [bv 13 14,bv 12 13,bv 11 12,bg 10 11]))))))))))))
theorem q1R:qj ⟨Tryz.prog,qdk,[],[qyo]⟩ 100000 Tryz.f55 = qvo:=by kernel_rfl
theorem q5U (hd:∀ c ∈ ([]:List Ctr),c.ok Tryz.prog) (h:∀ ρ:Env,ρ.good->(qdk).pre ρ->qvo.den ⟨Tryz.prog,qdk,[],[qyo]⟩ ρ):(qdk).ok Tryz.prog :=
 qc Tryz.func55 (fun a w=>Tryz.call55 a w) hd 100000 (fun ρ hg hp=>by rw [q1R]; exact h ρ hg hp)
def qnD:Out:=(.br (.and (.cmp .eql (.dlen (.var 3)) (.lit 0)) (.isnil 0))
 (.need (.cmp .eql (.var 1) (.lit 0)) (.ret 0 (sg 5 [bt 7 .dnil,bt 6 (.lit 0),(5,.nil)])))
 (.fresh 5 (.need (.cmp .leq (.lit 0) (.var 1)) (.need (.cmp .leq (.var 1) (.dlen (.var 3))) (.need (.cmp .leq (.tims (.lit 32) (.var 1)) (.lit 140737488355328)) (.fresh 6 (.fresh 7 (.ret 0 (sg 5 [bt 7 (.dtake (.var 3) (.var 1)),bv 6 7,bg 5 6])))))))))
theorem qvX:qj ⟨Tryz.prog,qdt,[],[]⟩ 100000 Tryz.f90 = qnD:=by kernel_rfl
theorem q0P (hd:∀ c ∈ ([]:List Ctr),c.ok Tryz.prog) (h:∀ ρ:Env,ρ.good->(qdt).pre ρ->qnD.den ⟨Tryz.prog,qdt,[],[]⟩ ρ):(qdt).ok Tryz.prog :=
 qc Tryz.func90 (fun a w=>Tryz.call90 a w) hd 100000 (fun ρ hg hp=>by rw [qvX]; exact h ρ hg hp)
@[simp] def qic:Sg:=sg 0 [bg 9 9,bv 8 8,bv 4 4,bv 3 3,bv 7 7,bv 6 6,bg 5 5,bg 2 2,bt 1 (r8 1),bg 0 0]
@[simp] def qrm:Sg:=sg 0 [bv 11 27,bv 9 19,bv 8 18,bv 7 17,bv 6 16,bg 5 15,bv 3 13,bv 2 12,bv 1 11,bv 0 10,bt 4 (r8 14),bg 10 26]
@[simp] def qrp:Sg:=sg 0 [bv 17 27,bv 15 25,bv 14 24,bv 9 19,bv 8 18,bv 13 23,bv 12 22,bg 11 21,bv 10 20,bv 7 17,bv 6 16,bg 5 15,bv 3 13,bv 2 12,bv 1 11,bv 0 10,bt 4 (r8 14),bg 16 26]
def qqt:Out:=(.fresh 28 (.fresh 29 (.pre 0 qrm (.both (.fresh 30 (.fresh 31 (.post 0 0 qrm 30 (.fresh 32 (.br (.cmp .neq (.var 31) (.lit 0))
 (.pack [.cells 32 24 [(x8 0 30),(x8 1 30),(x8 2 30),(x8 3 30),(x8 4 30),(x8 5 30),(x8 6 30),(x8 7 30),(x8 8 30),(x8 9 30),(x8 10 30),(x8 11 30),(x8 12 30),(x8 13 30),(x8 14 30),(x8 15 30),(x8 16 30),(x8 17 30),(x8 18 30),(x8 19 30),(x8 20 30),(x8 21 30),(x8 22 30),(x8 23 30),(x8 24 30),(x8 25 30),(x8 26 30),(x8 27 30),(x8 28 30),(x8 29 30),(x8 30 30),(x8 31 30)],.cells 29 86 [(.vint .i64 (.var 20)),(.vslice 21 (.lit 0) (.var 22) (.var 23) 1)],.cells 28 27 [(.vint .i64 (.var 10)),(.vint .i64 (.var 11)),(.vint .i64 (.var 12)),(.vint .i64 (.var 13)),(x8 0 14),(x8 1 14),(x8 2 14),(x8 3 14),(x8 4 14),(x8 5 14),(x8 6 14),(x8 7 14),(x8 8 14),(x8 9 14),(x8 10 14),(x8 11 14),(x8 12 14),(x8 13 14),(x8 14 14),(x8 15 14),(x8 16 14),(x8 17 14),(x8 18 14),(x8 19 14),(x8 20 14),(x8 21 14),(x8 22 14),(x8 23 14),(x8 24 14),(x8 25 14),(x8 26 14),(x8 27 14),(x8 28 14),(x8 29 14),(x8 30 14),(x8 31 14),(.vslice 15 (.lit 0) (.var 16) (.var 17) 32)],.abs 9 20] 33 (.ret 0 (sg 28 [bg 35 33,bv 34 8,bv 30 4,bv 29 3,bv 33 7,bv 32 6,bg 31 5,bg 28 2,bv 36 31])))
 (.br (.not (.c2 .req (r8 30) (r8 1)))
 (.pack [.cells 32 24 [(x8 0 30),(x8 1 30),(x8 2 30),(x8 3 30),(x8 4 30),(x8 5 30),(x8 6 30),(x8 7 30),(x8 8 30),(x8 9 30),(x8 10 30),(x8 11 30),(x8 12 30),(x8 13 30),(x8 14 30),(x8 15 30),(x8 16 30),(x8 17 30),(x8 18 30),(x8 19 30),(x8 20 30),(x8 21 30),(x8 22 30),(x8 23 30),(x8 24 30),(x8 25 30),(x8 26 30),(x8 27 30),(x8 28 30),(x8 29 30),(x8 30 30),(x8 31 30)],.cells 29 86 [(.vint .i64 (.var 20)),(.vslice 21 (.lit 0) (.var 22) (.var 23) 1)],.cells 28 27 [(.vint .i64 (.var 10)),(.vint .i64 (.var 11)),(.vint .i64 (.var 12)),(.vint .i64 (.var 13)),(x8 0 14),(x8 1 14),(x8 2 14),(x8 3 14),(x8 4 14),(x8 5 14),(x8 6 14),(x8 7 14),(x8 8 14),(x8 9 14),(x8 10 14),(x8 11 14),(x8 12 14),(x8 13 14),(x8 14 14),(x8 15 14),(x8 16 14),(x8 17 14),(x8 18 14),(x8 19 14),(x8 20 14),(x8 21 14),(x8 22 14),(x8 23 14),(x8 24 14),(x8 25 14),(x8 26 14),(x8 27 14),(x8 28 14),(x8 29 14),(x8 30 14),(x8 31 14),(.vslice 15 (.lit 0) (.var 16) (.var 17) 32)],.abs 9 20] 33 (.ret 0 (sg 28 [bg 35 33,bv 34 8,bv 30 4,bv 29 3,bv 33 7,bv 32 6,bg 31 5,bg 28 2,bt 36 (.lit 20)])))
 (.pre 1 qrp (.both (.fresh 33 (.post 1 0 qrp 33 (.br (.cmp .neq (.var 33) (.lit 0))
 (.pack [.cells 32 24 [(x8 0 30),(x8 1 30),(x8 2 30),(x8 3 30),(x8 4 30),(x8 5 30),(x8 6 30),(x8 7 30),(x8 8 30),(x8 9 30),(x8 10 30),(x8 11 30),(x8 12 30),(x8 13 30),(x8 14 30),(x8 15 30),(x8 16 30),(x8 17 30),(x8 18 30),(x8 19 30),(x8 20 30),(x8 21 30),(x8 22 30),(x8 23 30),(x8 24 30),(x8 25 30),(x8 26 30),(x8 27 30),(x8 28 30),(x8 29 30),(x8 30 30),(x8 31 30)],.cells 29 86 [(.vint .i64 (.var 20)),(.vslice 21 (.lit 0) (.var 22) (.var 23) 1)],.cells 28 27 [(.vint .i64 (.var 10)),(.vint .i64 (.var 11)),(.vint .i64 (.var 12)),(.vint .i64 (.var 13)),(x8 0 14),(x8 1 14),(x8 2 14),(x8 3 14),(x8 4 14),(x8 5 14),(x8 6 14),(x8 7 14),(x8 8 14),(x8 9 14),(x8 10 14),(x8 11 14),(x8 12 14),(x8 13 14),(x8 14 14),(x8 15 14),(x8 16 14),(x8 17 14),(x8 18 14),(x8 19 14),(x8 20 14),(x8 21 14),(x8 22 14),(x8 23 14),(x8 24 14),(x8 25 14),(x8 26 14),(x8 27 14),(x8 28 14),(x8 29 14),(x8 30 14),(x8 31 14),(.vslice 15 (.lit 0) (.var 16) (.var 17) 32)],.abs 9 20] 34 (.ret 0 (sg 28 [bg 35 34,bv 34 8,bv 30 4,bv 29 3,bv 33 7,bv 32 6,bg 31 5,bg 28 2,bv 36 33])))
 (.both (.pre 2 qic (.both (.fresh 34 (.fresh 35 (.fresh 36 (.fresh 37 (.post 2 0 qic 34 (.both (.pre 3 (sg 0 [bv 4 36,bv 3 37,bv 5 20,bv 2 36,bv 1 35,bg 0 34]) (.both (.fresh 38 (.post 3 0 (sg 0 [bv 4 36,bv 3 37,bv 5 20,bv 2 36,bv 1 35,bg 0 34]) 38 (.br (.var 38)
 (.pack [.arr 34 3 [CK.int .i64] (.var 37) (.var 36),.cells 32 24 [(x8 0 30),(x8 1 30),(x8 2 30),(x8 3 30),(x8 4 30),(x8 5 30),(x8 6 30),(x8 7 30),(x8 8 30),(x8 9 30),(x8 10 30),(x8 11 30),(x8 12 30),(x8 13 30),(x8 14 30),(x8 15 30),(x8 16 30),(x8 17 30),(x8 18 30),(x8 19 30),(x8 20 30),(x8 21 30),(x8 22 30),(x8 23 30),(x8 24 30),(x8 25 30),(x8 26 30),(x8 27 30),(x8 28 30),(x8 29 30),(x8 30 30),(x8 31 30)],.cells 29 86 [(.vint .i64 (.var 20)),(.vslice 21 (.lit 0) (.var 22) (.var 23) 1)],.cells 28 27 [(.vint .i64 (.var 10)),(.vint .i64 (.var 11)),(.vint .i64 (.var 12)),(.vint .i64 (.var 13)),(x8 0 14),(x8 1 14),(x8 2 14),(x8 3 14),(x8 4 14),(x8 5 14),(x8 6 14),(x8 7 14),(x8 8 14),(x8 9 14),(x8 10 14),(x8 11 14),(x8 12 14),(x8 13 14),(x8 14 14),(x8 15 14),(x8 16 14),(x8 17 14),(x8 18 14),(x8 19 14),(x8 20 14),(x8 21 14),(x8 22 14),(x8 23 14),(x8 24 14),(x8 25 14),(x8 26 14),(x8 27 14),(x8 28 14),(x8 29 14),(x8 30 14),(x8 31 14),(.vslice 15 (.lit 0) (.var 16) (.var 17) 32)],.abs 9 20] 39 (.ret 0 (sg 28 [bg 35 39,bv 34 8,bv 30 4,bv 29 3,bv 33 7,bv 32 6,bg 31 5,bg 28 2,bt 36 (.lit 7)])))
 (.pre 4 qic (.both (.fresh 39 (.post 4 0 qic 39 (.br (.var 39)
 (.pack [.arr 34 3 [CK.int .i64] (.var 37) (.var 36),.cells 32 24 [(x8 0 30),(x8 1 30),(x8 2 30),(x8 3 30),(x8 4 30),(x8 5 30),(x8 6 30),(x8 7 30),(x8 8 30),(x8 9 30),(x8 10 30),(x8 11 30),(x8 12 30),(x8 13 30),(x8 14 30),(x8 15 30),(x8 16 30),(x8 17 30),(x8 18 30),(x8 19 30),(x8 20 30),(x8 21 30),(x8 22 30),(x8 23 30),(x8 24 30),(x8 25 30),(x8 26 30),(x8 27 30),(x8 28 30),(x8 29 30),(x8 30 30),(x8 31 30)],.cells 29 86 [(.vint .i64 (.var 20)),(.vslice 21 (.lit 0) (.var 22) (.var 23) 1)],.cells 28 27 [(.vint .i64 (.var 10)),(.vint .i64 (.var 11)),(.vint .i64 (.var 12)),(.vint .i64 (.var 13)),(x8 0 14),(x8 1 14),(x8 2 14),(x8 3 14),(x8 4 14),(x8 5 14),(x8 6 14),(x8 7 14),(x8 8 14),(x8 9 14),(x8 10 14),(x8 11 14),(x8 12 14),(x8 13 14),(x8 14 14),(x8 15 14),(x8 16 14),(x8 17 14),(x8 18 14),(x8 19 14),(x8 20 14),(x8 21 14),(x8 22 14),(x8 23 14),(x8 24 14),(x8 25 14),(x8 26 14),(x8 27 14),(x8 28 14),(x8 29 14),(x8 30 14),(x8 31 14),(.vslice 15 (.lit 0) (.var 16) (.var 17) 32)],.abs 9 20] 40 (.ret 0 (sg 28 [bg 35 40,bv 34 8,bv 30 4,bv 29 3,bv 33 7,bv 32 6,bg 31 5,bg 28 2,bt 36 (.lit 8)])))
 (.pre 5 (sg 0 [bv 4 19,bv 3 18,bv 2 17,bv 1 16,bg 0 15]) (.both (.fresh 40 (.fresh 41 (.fresh 42 (.post 5 0 (sg 0 [bv 4 19,bv 3 18,bv 2 17,bv 1 16,bg 0 15]) 40 (.both (.pre 6 (sg 0 [bv 4 25,bv 3 24,bv 2 23,bv 1 22,bg 0 21]) (.both (.fresh 43 (.fresh 44 (.fresh 45 (.post 6 0 (sg 0 [bv 4 25,bv 3 24,bv 2 23,bv 1 22,bg 0 21]) 43 (.both (.both (.fresh 46 (.both (.need (.cmp .eql (.var 6) (.dlen (.var 8))) (.need (.cmp .leq (.tims (.lit 32) (.plus (.var 6) (.lit 1))) (.lit 140737488355328)) (.fresh 47 (.fresh 48 (.both (.both (.both (.pack [.cells 46 86 [(.vint .i64 (.var 20)),(.vslice 43 (.lit 0) (.var 22) (.var 44) 1)],.arr 43 5 [CK.int .u8] (.var 45) (.var 44),.arr 40 24 [CK.int .u8,CK.int .u8,CK.int .u8,CK.int .u8,CK.int .u8,CK.int .u8,CK.int .u8,CK.int .u8,CK.int .u8,CK.int .u8,CK.int .u8,CK.int .u8,CK.int .u8,CK.int .u8,CK.int .u8,CK.int .u8,CK.int .u8,CK.int .u8,CK.int .u8,CK.int .u8,CK.int .u8,CK.int .u8,CK.int .u8,CK.int .u8,CK.int .u8,CK.int .u8,CK.int .u8,CK.int .u8,CK.int .u8,CK.int .u8,CK.int .u8,CK.int .u8] (.var 42) (.var 41),.arr 34 3 [CK.int .i64] (.var 37) (.var 36),.cells 32 24 [(x8 0 30),(x8 1 30),(x8 2 30),(x8 3 30),(x8 4 30),(x8 5 30),(x8 6 30),(x8 7 30),(x8 8 30),(x8 9 30),(x8 10 30),(x8 11 30),(x8 12 30),(x8 13 30),(x8 14 30),(x8 15 30),(x8 16 30),(x8 17 30),(x8 18 30),(x8 19 30),(x8 20 30),(x8 21 30),(x8 22 30),(x8 23 30),(x8 24 30),(x8 25 30),(x8 26 30),(x8 27 30),(x8 28 30),(x8 29 30),(x8 30 30),(x8 31 30)],.cells 29 86 [(.vint .i64 (.var 20)),(.vslice 21 (.lit 0) (.var 22) (.var 23) 1)],.arr 2 27 [CK.int .i64,CK.int .i64,CK.int .i64,CK.int .i64,CK.int .u8,CK.int .u8,CK.int .u8,CK.int .u8,CK.int .u8,CK.int .u8,CK.int .u8,CK.int .u8,CK.int .u8,CK.int .u8,CK.int .u8,CK.int .u8,CK.int .u8,CK.int .u8,CK.int .u8,CK.int .u8,CK.int .u8,CK.int .u8,CK.int .u8,CK.int .u8,CK.int .u8,CK.int .u8,CK.int .u8,CK.int .u8,CK.int .u8,CK.int .u8,CK.int .u8,CK.int .u8,CK.int .u8,CK.int .u8,CK.int .u8,CK.int .u8,CK.any] (.var 3) (.var 4),.abs 9 20] 49 (.ret 0 (sg 28 [bg 35 49,bt 34 (.dapp (.var 8) (.rcons (.vint .i64 (.var 20)) (.rcons (.vslice 43 (.lit 0) (.var 22) (.var 44) 1) .rnil))),bt 30 (.lit 1),bt 29 (.rcons (.vint .i64 (.var 10)) (.rcons (.vint .i64 (.var 11)) (.rcons (.vint .i64 (.var 12)) (.rcons (.vint .i64 (.var 13)) (.rcons (x8 0 14) (.rcons (x8 1 14) (.rcons (x8 2 14) (.rcons (x8 3 14) (.rcons (x8 4 14) (.rcons (x8 5 14) (.rcons (x8 6 14) (.rcons (x8 7 14) (.rcons (x8 8 14) (.rcons (x8 9 14) (.rcons (x8 10 14) (.rcons (x8 11 14) (.rcons (x8 12 14) (.rcons (x8 13 14) (.rcons (x8 14 14) (.rcons (x8 15 14) (.rcons (x8 16 14) (.rcons (x8 17 14) (.rcons (x8 18 14) (.rcons (x8 19 14) (.rcons (x8 20 14) (.rcons (x8 21 14) (.rcons (x8 22 14) (.rcons (x8 23 14) (.rcons (x8 24 14) (.rcons (x8 25 14) (.rcons (x8 26 14) (.rcons (x8 27 14) (.rcons (x8 28 14) (.rcons (x8 29 14) (.rcons (x8 30 14) (.rcons (x8 31 14) (.rcons (.vslice 40 (.lit 0) (.var 16) (.var 41) 32) .rnil))))))))))))))))))))))))))))))))))))),bv 33 48,bt 32 (.plus (.var 6) (.lit 1)),bg 31 47,bg 28 28,bt 36 (.lit 0)]))) .top) .top) .top))))) .top)) .top) .top))))) .top)) .top))))) .top))))) .top))))) .top)) .top)))))) .top)) .top)))) .top)))))))) .top))))
theorem qxX:qj ⟨Tryz.prog,qdK,[idC,qdx,qdk,qaF,qcd,qdt,qbG],[]⟩ 100000 Tryz.f48 = qqt:=by kernel_rfl
theorem q2q (hd:∀ c ∈ ([idC,qdx,qdk,qaF,qcd,qdt,qbG]:List Ctr),c.ok Tryz.prog) (h:∀ ρ:Env,ρ.good->(qdK).pre ρ->qqt.den ⟨Tryz.prog,qdK,[idC,qdx,qdk,qaF,qcd,qdt,qbG],[]⟩ ρ):(qdK).ok Tryz.prog :=
 qc Tryz.func48 (fun a w=>Tryz.call48 a w) hd 100000 (fun ρ hg hp=>by rw [qxX]; exact h ρ hg hp)
end Go.Proofs

set_option linter.unusedSimpArgs false
set_option linter.unusedVariables false
namespace Go.Proofs
open Go Go.Eng
set_option maxRecDepth 20000
theorem q2O:qdN.ok Tryz.prog:=q2v (by simp) fun ρ hg hp=>by
 simp (config:={ maxSteps:=4000000 }) [qpJ,qdN]
theorem q1y:qdt.ok Tryz.prog:=q0P (by simp) fun ρ hg hp=>by
 obtain ⟨h0,hl,h1⟩:=hp
 simp (config:={ maxSteps:=4000000 }) [qnD,qdt,hl]
 exact ⟨fun h _=>h,fun _=>by omega⟩
section
variable {h:Hp} {r:Option Addr} {d P:qe} {c n:Int} {M M':Option ManV} {L L':PcL}
theorem q3H (h1:qpf h P L) (h2:qpf h P L'):L = L':=by
 refine List.ext_getElem? fun j=>?_
 by_cases hj:j < P.length
 ·have e:=(h1.2.2 j hj).symm.trans (h2.2.2 j hj)
  rw [List.getD_eq_getElem?_getD,List.getD_eq_getElem?_getD,List.getElem?_eq_getElem (by have:=h1.1; omega),List.getElem?_eq_getElem (by have:=h2.1; omega)] at e
  rw [List.getElem?_eq_getElem (by have:=h1.1; omega),List.getElem?_eq_getElem (by have:=h2.1; omega)]
  exact congrArg some e
 ·rw [List.getElem?_eq_none (by have:=h1.1; omega),List.getElem?_eq_none (by have:=h2.1; omega)]
theorem q2n {m m':ManV} (h1:qhK h d m) (h2:qhK h d m'):m = m':=by
 obtain ⟨row,D,e,hf,hr,hD,a1,a2,a3,a4,a5,a6,_,_⟩:=h1
 obtain ⟨row',D',e',hf',hr',hD',b1,b2,b3,b4,b5,b6,_,_⟩:=h2
 rw [e] at e'
 simp only [List.cons.injEq,and_true] at e'
 subst e'
 obtain rfl:=qrP hr hr'
 obtain ⟨k,n,t,s,o,D1⟩:=m
 obtain ⟨k',n',t',s',o',D1'⟩:=m'
 simp only at a1 a2 a3 a4 a5 a6 b1 b2 b3 b4 b5 b6
 simp only [ManV.mk.injEq]
 exact ⟨by rw [<- a2,<- b2],by rw [<- a3,<- b3],by rw [<- a4,<- b4],by rw [<- a5,<- b5],by rw [<- a6,<- b6],by rw [<- a1,<- b1]⟩
theorem qqQ (h1:qbM h r d c n P M L) (h2:qbM h r d c n P M' L'):M' = M/\L' = L:=by
 obtain ⟨_,p1,_,_,q1⟩:=h1
 obtain ⟨_,p2,_,_,q2⟩:=h2
 refine ⟨?_,(q3H p1 p2).symm⟩
 rcases q1 with ⟨rfl,_,c0,_⟩ | ⟨m,rfl,c1,hm,_⟩ <;> rcases q2 with ⟨rfl,_,c0',_⟩ | ⟨m',rfl,c1',hm',_⟩
 ·rfl
 ·omega
 ·omega
 ·rw [q2n hm hm']
theorem q6G (h1:qbM h r d c n P M L):qgR P P.length = L.map Prod.fst:=by
 obtain ⟨_,p1,_⟩:=h1
 refine List.ext_getElem? fun j=>?_
 by_cases hj:j < P.length
 ·have e:=congrArg Prod.fst (p1.2.2 j hj)
  rw [List.getD_eq_getElem?_getD,List.getElem?_eq_getElem (by have:=p1.1; omega)] at e
  rw [qgR,List.getElem?_map,List.getElem?_range hj,List.getElem?_map,List.getElem?_eq_getElem (by have:=p1.1; omega)]
  exact congrArg some e
 ·rw [List.getElem?_eq_none (by simp [qgR]; omega),List.getElem?_eq_none (by rw [List.length_map]; have:=p1.1; omega)]
theorem q3F {i:Nat}:qgR P (i + 1) = qgR P i ++ [pcI P i]:=by
 unfold qgR
 rw [List.range_succ,List.map_append]; rfl
end
theorem qux:qcd.ok Tryz.prog:=q2y (by simp) fun ρ hg hp=>by
 obtain ⟨M,L,h⟩:=hp
 simp (config:={ maxSteps:=4000000 }) [qqJ,qcd,gaB]
 have h0:qbM (ρ 9).h (ρ 2).r (ρ 3).d (ρ 4).i (ρ 6).i (ρ 8).d M L:=h
 obtain ⟨hn,hp,_,_,hc⟩:=h
 rcases hc with ⟨rfl,hr,c0,hd,hL⟩ | ⟨m,rfl,c1,hm,hL⟩
 ·refine ⟨fun hcon=>?_,fun _ _ M' L' h'=>?_⟩
  ·rw [hd,hr] at hcon; simp at hcon
  ·obtain ⟨rfl,rfl⟩:=qqQ h0 h'; rfl
 ·obtain ⟨row,D,e,hf,hrd,hD,a1,a2,_⟩:=hm
  have e:(ρ 3).d = [row]:=e
  refine ⟨fun _=>⟨by have hn':(ρ 6).i = ((ρ 8).d.length:Int):=hn; omega,by rw [e]; exact Nat.one_pos,fun M' L' h'=>?_⟩,fun hd _=>by rw [e] at hd; cases hd⟩
  obtain ⟨rfl,rfl⟩:=qqQ h0 h'
  have hk:qh (ρ 3).d 0 0 = m.k:=by rw [<- a2,e]; rfl
  have hn':(ρ 6).i = ((ρ 8).d.length:Int):=hn
  have hp1:(ρ 8).d.length = L'.length:=hp.1
  rw [hk,hn',hp1]; rfl
theorem qwD:qdk.ok Tryz.prog:=q5U (by simp) fun ρ hg hp=>by
 obtain ⟨M,L,h⟩:=hp
 have h0:qbM (ρ 9).h (ρ 2).r (ρ 3).d (ρ 4).i (ρ 6).i (ρ 8).d M L:=h
 obtain ⟨hn,hp,_,h255,hc⟩:=h
 have hpl:=hp.1
 simp (config:={ maxSteps:=4000000 }) [qvo,qdk,qyo,qdH,gaB]
 have hn:(ρ 6).i = ((ρ 8).d.length:Int):=hn
 have hpl:(ρ 8).d.length = L.length:=hpl
 refine ⟨by omega,⟨by omega,rfl⟩,fun a _ D _ i _ i0 i1 ha hD hr=>⟨fun hi=>?_,fun hi M' L' h'=>?_⟩⟩
 ·have hDl:D.d.length = i.i.toNat:=by
   have:=congrArg List.length hD
   rw [qcE] at this
   simpa [qgR] using this
  have hnx:(qd .add .i64 i.i 1).toNat = i.i.toNat + 1:=by rw [qfd i0 (by omega)]; omega
  refine ⟨i0,by omega,ha,by omega,⟨by rw [qfd i0 (by omega)]; omega,by rw [qfd i0 (by omega)]; omega,ha,?_,fun row h=>qpH h hr⟩,by rw [qfd i0 (by omega)]; omega⟩
  rw [hnx,q3F,qlO,hD]
  unfold pcI
  rw [Int.toNat_of_nonneg i0]
 ·obtain ⟨rfl,rfl⟩:=qqQ h0 h'
  refine ⟨ha,?_,hr⟩
  rw [hD,<- q6G h0,show i.i.toNat = (ρ 8).d.length by omega]
section
variable {h h':Hp} {r:Option Addr} {d P:qe} {c n e i:Int} {M:Option ManV} {L:PcL} {o b:List Int} {m:ManV}
theorem q29 (h1:qpf h P L) (hl:Hp.le h h'):qpf h' P L:=by
 refine ⟨h1.1,fun j hj=>?_,fun j hj=>?_⟩
 ·obtain ⟨i,v,d,e1,e2,e3⟩:=h1.2.1 j hj
  exact ⟨i,v,d,e1,qju e2 hl,e3⟩
 ·rw [<- h1.2.2 j hj]
  obtain ⟨i,v,d,e1,e2,e3⟩:=h1.2.1 j hj
  have hv:qaj P j 1 = v:=by simp only [qaj,Int.toNat_natCast,e1,Option.getD_some]; rfl
  unfold pcD
  rw [hv,qiZ e2,qiZ (qju e2 hl)]
theorem q2s (h1:qhK h d m) (hl:Hp.le h h'):qhK h' d m:=by
 obtain ⟨row,D,e,hf,hr,hx⟩:=h1
 exact ⟨row,D,e,hf,qju hr hl,hx⟩
theorem qqE (h1:qbM h r d c n P M L) (hl:Hp.le h h'):qbM h' r d c n P M L:=by
 obtain ⟨a1,a2,a3,a4,a5⟩:=h1
 refine ⟨a1,q29 a2 hl,a3,a4,?_⟩
 rcases a5 with a5 | ⟨m,b1,b3,b4,b5⟩
 ·exact .inl a5
 ·exact .inr ⟨m,b1,b3,q2s b4 hl,b5⟩
theorem q63 (h1:qbM h r d c n P M L) (hl:Hp.le h h') (hne:¬ e = 0):qbM h' r d c n P (if e = 0 then some m else M) (if e = 0 then L ++ [(i,b)] else L):=by
 rw [if_neg hne,if_neg hne]; exact qqE h1 hl
section
variable {k n' t s l u:Int} {O R S z:List Int} {D J:qe} {x y:Bool}
theorem qiW (hl:l = (D.length:Int)):ManV.ok ⟨k,n',t,s,O,dgs D⟩ = qE k n' t s l:=by
 unfold ManV.ok
 rw [hl]; simp [dgs]
theorem q7E (hl:l = (D.length:Int)) (hid:(qE k n' t s l = false/\e = 2/\R = z)∨(qE k n' t s l = true/\e = 0/\R = S)) (hne:¬ e = 0):e = qgd o M L ⟨k,n',t,s,O,dgs D⟩ i b:=by
 rcases hid with ⟨h1,h2,_⟩ | ⟨_,h2,_⟩
 ·unfold qgd; rw [qiW hl,if_pos h1,h2]
 ·exact absurd h2 hne
theorem qoW (hid:(qE k n' t s l = false/\e = 2/\R = z)∨(qE k n' t s l = true/\e = 0/\R = S)) (he:e = 0):qE k n' t s l = true/\R = S:=by
 rcases hid with ⟨_,h2,_⟩ | ⟨h1,_,h3⟩
 ·omega
 ·exact ⟨h1,h3⟩
theorem q68 (hl:l = (D.length:Int)) (hid:(qE k n' t s l = false/\e = 2/\R = z)∨(qE k n' t s l = true/\e = 0/\R = sha (qaD k n' t s O ++ (dgs D).flatten))) (he:e = 0) (hR:¬ R = o):20 = qgd o M L ⟨k,n',t,s,O,dgs D⟩ i b:=by
 obtain ⟨h1,h2⟩:=qoW hid he
 unfold qgd
 rw [qiW hl,if_neg (by rw [h1]; simp),if_pos (by show sha (qaD k n' t s O ++ (dgs D).flatten) ≠ o; rw [<- h2]; exact hR)]
theorem q7H (hl:l = (D.length:Int)) (hid:(qE k n' t s l = false/\e = 2/\R = z)∨(qE k n' t s l = true/\e = 0/\R = sha (qaD k n' t s O ++ (dgs D).flatten))) (he:e = 0) (hR:R = o) (hc:u = qcc k n' t s l (dgs D) i b) (hne:¬ u = 0):u = qgd o M L ⟨k,n',t,s,O,dgs D⟩ i b:=by
 obtain ⟨h1,h2⟩:=qoW hid he
 have hl':(((dgs D).length:Nat):Int) = l:=by rw [hl]; simp [dgs]
 unfold qgd
 simp only [hl']
 rw [qiW hl,if_neg (by rw [h1]; simp),if_neg (fun h=>h (by rw [<- hR,h2]; rfl)),if_pos (by rw [<- hc]; exact hne),hc]
theorem quB (hl:l = (D.length:Int)) (hid:(qE k n' t s l = false/\e = 2/\R = z)∨(qE k n' t s l = true/\e = 0/\R = sha (qaD k n' t s O ++ (dgs D).flatten))) (he:e = 0) (hR:R = o) (hc:u = qcc k n' t s l (dgs D) i b) (hu:u = 0):qgd o M L ⟨k,n',t,s,O,dgs D⟩ i b = if i ∈ L.map Prod.fst then 7 else if qgF M L then 8 else 0:=by
 obtain ⟨h1,h2⟩:=qoW hid he
 have hl':(((dgs D).length:Nat):Int) = l:=by rw [hl]; simp [dgs]
 unfold qgd
 simp only [hl']
 rw [qiW hl,if_neg (by rw [h1]; simp),if_neg (fun h=>h (by rw [<- hR,h2]; rfl)),if_neg (by rw [<- hc,hu]; simp)]
theorem qn6 (hq:∀ (M:Option ManV) (L:PcL),qbM h r d c n P M L->u = (J.length:Int)/\qw J = L.map Prod.fst/\∀ row,row ∈ J->row.length = 1) (h1:qbM h r d c n P M L):u = (J.length:Int)/\u <= 1000/\qw J = L.map Prod.fst/\∀ row,row ∈ J->row.length = 1:=by
 obtain ⟨a,b,e⟩:=hq M L h1
 refine ⟨a,?_,b,e⟩
 have h2:=congrArg List.length b
 rw [qcE,List.length_map] at h2
 have:=h1.2.2.2.1
 omega
theorem q7O (hl:l = (D.length:Int)) (hid:(qE k n' t s l = false/\e = 2/\R = z)∨(qE k n' t s l = true/\e = 0/\R = sha (qaD k n' t s O ++ (dgs D).flatten))) (he:e = 0) (hR:R = o) (hc:u = qcc k n' t s l (dgs D) i b) (hu:u = 0) {u':Int}
  (hq:∀ (M:Option ManV) (L:PcL),qbM h r d c n P M L->u' = (J.length:Int)/\qw J = L.map Prod.fst/\∀ row,row ∈ J->row.length = 1) (h1:qbM h r d c n P M L) (hx:x = decide (i ∈ qw J)) (ht:x = true):7 = qgd o M L ⟨k,n',t,s,O,dgs D⟩ i b:=by
 rw [quB hl hid he hR hc hu,if_pos]
 rw [<- (hq M L h1).2.1]; exact q7z hx ht
theorem q7G (hl:l = (D.length:Int)) (hid:(qE k n' t s l = false/\e = 2/\R = z)∨(qE k n' t s l = true/\e = 0/\R = sha (qaD k n' t s O ++ (dgs D).flatten))) (he:e = 0) (hR:R = o) (hc:u = qcc k n' t s l (dgs D) i b) (hu:u = 0) {u':Int}
  (hq:∀ (M:Option ManV) (L:PcL),qbM h r d c n P M L->u' = (J.length:Int)/\qw J = L.map Prod.fst/\∀ row,row ∈ J->row.length = 1) (h1:qbM h r d c n P M L) (hx:x = decide (i ∈ qw J)) (ht:x = false) (hr:∀ (M:Option ManV) (L:PcL),qbM h r d c n P M L->y = qgF M L):qgd o M L ⟨k,n',t,s,O,dgs D⟩ i b = if y then 8 else 0:=by
 rw [quB hl hid he hR hc hu,if_neg,<- hr M L h1]
 rw [<- (hq M L h1).2.1]; exact qzb hx ht
theorem q5m {v:Value} (hv:v.oneCell' = true) (hRd:Rd h k32 v D) (hD:qdi D) (hO:qQ (qf J 32)) (hok:qE k n' t s l = true) (hl:l = (D.length:Int)) :
  qhK h [[Value.int .i64 k,Value.int .i64 n',Value.int .i64 t,Value.int .i64 s] ++ ((qf J 32).map (Value.int .u8) ++ [v])] ⟨k,n',t,s,qf J 32,dgs D⟩:=by
 refine ⟨_,D,rfl,⟨by simp [qte,qf],fun c kk w hk hw=>?_⟩,hRd,hD,rfl,rfl,rfl,rfl,rfl,rfl,hO,by rw [qiW hl]; exact hok⟩
 unfold qte at hk
 rcases Nat.lt_or_ge c 4 with h4 | h4
 ·rw [List.getElem?_append_left (by simpa using h4),List.getElem?_replicate,if_pos h4] at hk
  rw [List.getElem?_append_left (by simpa using h4)] at hw
  obtain rfl:=(Option.some.inj hk).symm
  match c,h4 with
  | 0,_=>obtain rfl:=(Option.some.inj hw).symm; rfl
  | 1,_=>obtain rfl:=(Option.some.inj hw).symm; rfl
  | 2,_=>obtain rfl:=(Option.some.inj hw).symm; rfl
  | 3,_=>obtain rfl:=(Option.some.inj hw).symm; rfl
 ·rw [List.getElem?_append_right (by simpa using h4)] at hk
  rw [List.getElem?_append_right (by simpa using h4)] at hw
  simp only [List.length_replicate,List.length_cons,List.length_nil] at hk hw
  rcases Nat.lt_or_ge (c - 4) 32 with h5 | h5
  ·rw [List.getElem?_append_left (by simpa using h5),List.getElem?_replicate,if_pos h5] at hk
   rw [List.getElem?_append_left (by simp [qf]; omega),List.getElem?_map] at hw
   obtain rfl:=(Option.some.inj hk).symm
   obtain ⟨q,_,rfl⟩:=Option.map_eq_some_iff.1 hw
   rfl
  ·rw [List.getElem?_append_right (by simpa using h5)] at hk
   rw [List.getElem?_append_right (by simp [qf]; omega)] at hw
   simp only [List.length_replicate,List.length_map] at hk hw
   rw [show (qf J 32).length = 32 by simp [qf]] at hw
   match hc:c - 4 - 32,hk with
   | 0,hk =>
    rw [hc] at hw
    obtain rfl:=(Option.some.inj hk).symm
    obtain rfl:=(Option.some.inj hw).symm
    unfold CK.fits; exact hv
   | q + 1,hk=>simp at hk
theorem q6s {v:Value} {B d':qe} {r':Option Addr} {m:ManV} (h1:qbM h r d c n P M L) (hl:Hp.le h h') (hRd:Rd h' kB v B) (hB:qy B) (hb9:(B.length:Int) <= 9000) (hm:qhK h' d' m) (hy:qgF M L = false):qbM h' r' d' 1 (n + 1) (P ++ [[.int .i64 i,v]]) (some m) (L ++ [(i,bI B)]):=by
 have h2:=qqE h1 hl
 obtain ⟨a1,a2,a3,a4,a5⟩:=h2
 have hlen:L.length < 255:=by
  rcases a5 with ⟨_,_,_,_,rfl⟩ | ⟨m0,rfl,_,hm0,_⟩
  ·decide
  ·obtain ⟨_,_,_,_,_,_,_,_,_,_,_,_,_,hok⟩:=hm0
   unfold qgF at hy
   have hk:=of_decide_eq_false hy
   have hk2:m0.k <= 255:=by
    unfold ManV.ok qE qbi at hok
    simp at hok
    omega
   omega
 have hPl:=a2.1
 refine ⟨by rw [List.length_append,List.length_singleton]; omega,⟨by rw [List.length_append,List.length_append,hPl]; rfl,fun j hj=>?_,fun j hj=>?_⟩,fun x hx=>?_,by rw [List.length_append,List.length_singleton]; omega,.inr ⟨m,rfl,rfl,hm,by simp⟩⟩
 ·rw [List.length_append,List.length_singleton] at hj
  rcases Nat.lt_or_ge j P.length with hjP | hjP
  ·obtain ⟨i0,v0,d0,e1,e2⟩:=a2.2.1 j hjP
   exact ⟨i0,v0,d0,by rw [List.getElem?_append_left hjP]; exact e1,e2⟩
  ·have:j = P.length:=by omega
   subst this
   exact ⟨i,v,B,by rw [List.getElem?_append_right (Nat.le_refl _),Nat.sub_self]; rfl,hRd,hB⟩
 ·rw [List.length_append,List.length_singleton] at hj
  rcases Nat.lt_or_ge j P.length with hjP | hjP
  ·have h3:=a2.2.2 j hjP
   have e1:pcI (P ++ [[.int .i64 i,v]]) j = pcI P j:=by unfold pcI qh qaj; rw [Int.toNat_natCast,List.getElem?_append_left hjP]
   have e2:pcD h' (P ++ [[.int .i64 i,v]]) j = pcD h' P j:=by unfold pcD qaj; rw [Int.toNat_natCast,List.getElem?_append_left hjP]
   rw [e1,e2,h3,List.getD_eq_getElem?_getD,List.getD_eq_getElem?_getD,List.getElem?_append_left (by omega)]
  ·have:j = P.length:=by omega
   subst this
   have e1:pcI (P ++ [[.int .i64 i,v]]) P.length = i:=by unfold pcI qh qaj; rw [Int.toNat_natCast,List.getElem?_append_right (Nat.le_refl _),Nat.sub_self]; rfl
   have e2:pcD h' (P ++ [[.int .i64 i,v]]) P.length = bI B:=by
    unfold pcD qaj
    rw [Int.toNat_natCast,List.getElem?_append_right (Nat.le_refl _),Nat.sub_self]
    exact qiZ hRd
   rw [e1,e2,hPl,List.getD_eq_getElem?_getD,List.getElem?_append_right (Nat.le_refl _),Nat.sub_self]; rfl
 ·rcases List.mem_append.1 hx with hx | hx
  ·exact a3 x hx
  ·rw [List.mem_singleton.1 hx,bI_len]; exact hb9
end
end
theorem q4P {h h':Hp} {r r':Option Addr} {d P:qe} {c n e i:Int} {M:Option ManV} {L:PcL} {k n' t s l:Int} {R S z:List Int} {D D' B B' J:qe} {y:Bool} {a a':Option Addr} {x x' q q':Nat} (h1:qbM h r d c n P M L) (hl:Hp.le h h')
  (hid:(qE k n' t s l = false/\e = 2/\R = z)∨(qE k n' t s l = true/\e = 0/\R = S)) (he:e = 0) (hy:∀ (M:Option ManV) (L:PcL),qbM h r d c n P M L->y = qgF M L) (hyf:y = false) (hRb:Rd h' kB (.slice a B'.length q) B') (eB:B' = B) (hRd:Rd h' k32 (.slice a' D'.length q') D') (eD:D' = D)
  (hx:x = B.length) (hx':x' = D.length) (hB:qy B) (hb9:(B.length:Int) <= 9000) (hD:qdi D) (hO:qQ (qf J 32)) (hml:l = (D.length:Int)) :
  qbM h' r' [[Value.int .i64 k,Value.int .i64 n',Value.int .i64 t,Value.int .i64 s] ++ ((qf J 32).map (Value.int .u8) ++ [.slice a' x' q'])] 1 (n + 1) (P ++ [[.int .i64 i,.slice a x q]]) (some ⟨k,n',t,s,qf J 32,dgs D⟩) (L ++ [(i,bI B)]):=by
 subst eB eD hx hx'
 exact q6s h1 hl hRb hB hb9 (q5m rfl hRd hD hO (qoW hid he).1 hml) (by rw [<- hy M L h1]; exact hyf)
theorem qxj {ρ:Env} {l:List SH} {H:Hp} (r ty d c:Nat) (pat:List CK) (hs:qU ρ l H) (hm:SH.arr r ty pat (.var d) (.var c) ∈ l):Rd H pat (.slice (ql (ρ r).r 0) (ρ d).d.length (ρ c).i.toNat) (ρ d).d:=by
 obtain ⟨hx,hl,hd⟩:=qjC hs hm
 exact q0V hd hl rfl rfl
set_option maxHeartbeats 4000000 in
theorem q3N:qdK.ok Tryz.prog:=q2q (by simp [q49,qzP,qwD,qmJ,qux,q1y,qrN]) fun ρ hg hp=>by
 obtain ⟨⟨⟨M,L,h⟩,hO,hMan,hi64,hpa,h9⟩,hGr,hGd⟩:=hp
 have h0:qbM (ρ 9).h (ρ 2).r (ρ 3).d (ρ 4).i (ρ 6).i (ρ 8).d M L:=h
 obtain ⟨q0,q1,q2,q3,hOm,hml,hml2,hD⟩:=hMan
 obtain ⟨p0,p1,p2,p3⟩:=hpa
 simp only [Nat.reduceAdd] at q0 q1 q2 q3 hOm hml hml2 hD p0 p1 p2 p3
 obtain ⟨hn0,hp0,_,h255,_⟩:=id h0
 have hpl0:=hp0.1
 simp (config:={ maxSteps:=4000000 }) [qqt,qdK,idC,qoN,qx9,qdx,qqr,q1W,qdk,qaF,qcd,qdt,qbG,gaB,qe3,qbZ,qdH,qge,qgW,qyk,qva,qzD,qe1,qaK,gOk,hGr,hGd]
 repeat' (first | with_reducible apply And.intro | with_reducible intro _)
 all_goals first
  | assumption
  | omega
  | exact ⟨M,L,h0⟩
  | exact q7E (by assumption) (by assumption) (by assumption)
  | exact q68 (by assumption) (by assumption) (by assumption) (by assumption)
  | exact q7O (by assumption) (by assumption) (by assumption) (by assumption) (by assumption) (by assumption) (by assumption) (by assumption) (by assumption) (by assumption)
  | (rw [q7G (by assumption) (by assumption) (by assumption) (by assumption) (by assumption) (by assumption) (by assumption) (by assumption) (by assumption) (by assumption) (by assumption)]; simp [*]; done)
  | exact (qn6 (by assumption) h0).1
  | exact Int.le_trans (qn6 (by assumption) h0).2.1 (by decide)
  | exact (qn6 (by assumption) h0).2.2.2 _ (by assumption)
  | exact q7H (by assumption) (by assumption) (by assumption) (by assumption) (by assumption) (by assumption)
  | exact q63 (by assumption) (by have h:=qfa 9 20 (by assumption) (by simp); simpa using h) (by assumption)
  | exact qqE (by assumption) (by have h:=qfa 9 20 (by assumption) (by simp); simpa using h)
  | skip
 rename_i hst M1 L1 h1
 have hle:=qfa 9 20 hst (by simp)
 have hRb:=qxj 43 5 45 44 kB hst (by simp [kB])
 have hRd:=qxj 40 24 42 41 k32 hst (by simp [k32])
 simp at hRb hRd hle
 exact q4P (J:=(ρ 14).d) h1 hle (by assumption) (by assumption) (by assumption) (by assumption) hRb (by assumption) hRd (by assumption) (by omega) (by omega) p3 (by omega) hD hOm hml
end Go.Proofs
