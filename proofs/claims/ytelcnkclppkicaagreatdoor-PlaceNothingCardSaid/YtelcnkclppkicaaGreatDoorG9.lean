/- Texts PY, PZ, QM, QI, QJ, QK, QL, QN, QR, RD, RP, RF. -/
import Derived.Test.YtelcnkclppkicaaGreatDoorG8
import Derived.Test.YtelcnkclppkicaaGreatDoorProg
import Derived.Test.YtelcnkclppkicaaGreatDoorG7
import Derived.Test.YtelcnkclppkicaaGreatDoorG5
set_option linter.unusedSimpArgs false
set_option linter.unusedVariables false
set_option maxRecDepth 100000
namespace Go.Proofs
open Go Go.Eng

def qxD:Out:=(.fresh 10 (.pre 0 (sg 0 [bv 4 7,bv 3 6,bv 2 5,bv 1 4,bg 0 3]) (.both (.fresh 11 (.fresh 12 (.fresh 13 (.fresh 14 (.fresh 15 (.fresh 16 (.fresh 17 (.fresh 18 (.fresh 19 (.fresh 20 (.fresh 21 (.fresh 22 (.fresh 23 (.fresh 24 (.fresh 25 (.fresh 26 (.post 0 0 (sg 0 [bv 4 7,bv 3 6,bv 2 5,bv 1 4,bg 0 3]) 11 (.inv 0 27 (sg 1000 [bt 1001 (.lit 0),bt 1002 (.lit 0),bg 1000 10]) (.fresh 27 (.fresh 28 (.fresh 29 (.hyp 0 27 (.br (.cmp .lss (.var 28) (.lit 16))
 (.need (.cmp .leq (.lit 0) (.var 28)) (.br (.c2 (.xbool 0) (.rcons (.vbool (.var 11)) (.rcons (.vbool (.var 12)) (.rcons (.vbool (.var 13)) (.rcons (.vbool (.var 14)) (.rcons (.vbool (.var 15)) (.rcons (.vbool (.var 16)) (.rcons (.vbool (.var 17)) (.rcons (.vbool (.var 18)) (.rcons (.vbool (.var 19)) (.rcons (.vbool (.var 20)) (.rcons (.vbool (.var 21)) (.rcons (.vbool (.var 22)) (.rcons (.vbool (.var 23)) (.rcons (.vbool (.var 24)) (.rcons (.vbool (.var 25)) (.rcons (.vbool (.var 26)) .rnil)))))))))))))))) (.var 28))
 (.pre 1 (sg 0 [bv 4 9,bv 2 1,bv 1 28,bt 0 (r8 0),bg 3 8]) (.both (.fresh 30 (.post 1 0 (sg 0 [bv 4 9,bv 2 1,bv 1 28,bt 0 (r8 0),bg 3 8]) 30 (.br (.var 30)
 (.back 0 27 (sg 1000 [bt 1001 (.arith .add .i64 (.var 28) (.lit 1)),bt 1002 (.arith .add .i64 (.var 29) (.lit 1)),bg 1000 27]))
 (.back 0 27 (sg 1000 [bt 1001 (.arith .add .i64 (.var 28) (.lit 1)),bv 1002 29,bg 1000 27]))))) .top))
 (.back 0 27 (sg 1000 [bt 1001 (.arith .add .i64 (.var 28) (.lit 1)),bv 1002 29,bg 1000 27]))))
 (.br (.cmp .geq (.var 2) (.lit 1))
 (.ret 0 (sg 10 [bt 10 (.cmp .geq (.var 29) (.var 2))]))
 (.ret 0 (sg 10 [bt 10 (.bl false)])))))))))))))))))))))))))) .top)))
end Go.Proofs

set_option linter.unusedSimpArgs false
set_option linter.unusedVariables false
namespace Go.Proofs
open Go Go.Eng
set_option maxRecDepth 20000
section
variable {o L:List Int} {i c s:Int} {l:List Bool}
def qgh (o:List Int) (s:Int) (l:List Int):Int:=((l.filter fun i=>qO o i s).length:Int)
theorem q2h {l:List Int}:0 <= qgh o s l/\qgh o s l <= l.length:=⟨by unfold qgh; omega,by unfold qgh; have:=List.length_filter_le (fun i=>qO o i s) l; omega⟩
theorem qrG {l:List Int} {x:Int}:qgh o s (l ++ [x]) = qgh o s l + (if qO o x s = true then 1 else 0):=by
 unfold qgh
 rw [List.filter_append,List.length_append]
 by_cases h:qO o x s = true
 ·rw [if_pos h]; simp [h]
 ·rw [if_neg h]; simp [h]
theorem qxn {n:Nat}:0 <= qgh o s (qG L n)/\qgh o s (qG L n) <= n:=by
 have h:=q2h (o:=o) (s:=s) (l:=qG L n)
 have:=qmE (L:=L) (n:=n)
 omega
theorem q7A {x:Bool} (hc:c = ((qG L i.toNat).filter fun i=>qO o i s).length) (h0:0 <= i) (h1:i < 16) (hb:qeC l L) (hx:qaL [l.map Value.bool] i.toNat = true) (hu:x = qO o i s) (ht:x = true):qd .add .i64 c 1 = ((qG L (qd .add .i64 i 1).toNat).filter fun i=>qO o i s).length:=by
 have hm:i ∈ L:=(qeX (qcZ hb (Nat.le_refl _)) (Nat.le_refl _) h0 h1).1 hx
 have h2:=qxn (o:=o) (s:=s) (L:=L) (n:=i.toNat)
 change c = qgh o s (qG L i.toNat) at hc
 show _ = qgh o s _
 rw [qfd h0 (by omega),qfd (by omega) (by omega),show (i + 1).toNat = i.toNat + 1 by omega,qec,Int.toNat_of_nonneg h0,if_pos hm,qrG,if_pos (hu ▸ ht),hc]
theorem q7R {x:Bool} (hc:c = ((qG L i.toNat).filter fun i=>qO o i s).length) (h0:0 <= i) (h1:i < 16) (hb:qeC l L) (hx:qaL [l.map Value.bool] i.toNat = true) (hu:x = qO o i s) (ht:x = false):c = ((qG L (qd .add .i64 i 1).toNat).filter fun i=>qO o i s).length:=by
 have hm:i ∈ L:=(qeX (qcZ hb (Nat.le_refl _)) (Nat.le_refl _) h0 h1).1 hx
 have h2:=qxn (o:=o) (s:=s) (L:=L) (n:=i.toNat)
 change c = qgh o s (qG L i.toNat) at hc
 show _ = qgh o s _
 rw [qfd h0 (by omega),show (i + 1).toNat = i.toNat + 1 by omega,qec,Int.toNat_of_nonneg h0,if_pos hm,qrG,if_neg (by rw [<- hu,ht]; simp),hc,Int.add_zero]
theorem q70 (hc:c = ((qG L i.toNat).filter fun i=>qO o i s).length) (h0:0 <= i) (h1:i < 16) (hb:qeC l L) (hx:qaL [l.map Value.bool] i.toNat = false):c = ((qG L (qd .add .i64 i 1).toNat).filter fun i=>qO o i s).length:=by
 have hm:¬ i ∈ L:=qjy (qcZ hb (Nat.le_refl _)) (Nat.le_refl _) h0 h1 hx
 rw [qfd h0 (by omega),show (i + 1).toNat = i.toNat + 1 by omega,qec,Int.toNat_of_nonneg h0,if_neg hm,List.append_nil,hc]
theorem q6c {n:Int} (hc:c = ((qG L i.toNat).filter fun i=>qO o i s).length) (h0:i <= 16) (h1:16 <= i) (hn:1 <= n):decide (c ≥ n) = qkE o s n L:=by
 rw [show i.toNat = 16 by omega] at hc
 unfold qkE
 rw [decide_eq_true hn,Bool.true_and,hc]; rfl
theorem qs9 {n:Int} (hn:n < 1):false = qkE o s n L:=by
 unfold qkE
 rw [decide_eq_false (by omega),Bool.false_and]
end
end Go.Proofs

set_option linter.unusedSimpArgs false
set_option linter.unusedVariables false
namespace Go.Eng
open Go Go.Proofs
def qlW (ρ:Env) (r:Nat):Prop:=0 <= (ρ (r + 1)).i/\(ρ (r + 1)).i <= (ρ (r + 3)).d.length/\(ρ (r + 1)).i <= 1000000000000/\∀ row ∈ (ρ (r + 3)).d,row.length = 1
def qgz:Ctr:={ qdM with pre:=fun ρ=>qlW ρ 0,alts:=[
 { k:=16,ret:=b16 5,heap:=[],post:=fun ρ=>qeC [(ρ 5).b,(ρ 6).b,(ρ 7).b,(ρ 8).b,(ρ 9).b,(ρ 10).b,(ρ 11).b,(ρ 12).b,(ρ 13).b,(ρ 14).b,(ρ 15).b,(ρ 16).b,(ρ 17).b,(ρ 18).b,(ρ 19).b,(ρ 20).b] ((qw (ρ 3).d).take (ρ 1).i.toNat) }] }
def qfM:Ctr:={ q3g with pre:=fun ρ=>qQ (qf (ρ 0).d 32)/\qlW ρ 3/\gOk ρ 8 9 gR,alts:=[{ k:=1,ret:=.one (.vbool (.var 10)),heap:=[],post:=fun ρ=>(ρ 10).b = qkE (qf (ρ 0).d 32) (ρ 1).i (ρ 2).i ((qw (ρ 6).d).take (ρ 4).i.toNat) }] }
def qy8:Inv:={ q69 with inv:=(fun ρ=>0 <= (ρ 1001).i/\(ρ 1001).i <= 16/\(ρ 1002).i = (((qG ((qw (ρ 6).d).take (ρ 4).i.toNat) (ρ 1001).i.toNat).filter fun i=>qO (qf (ρ 0).d 32) i (ρ 1).i).length:Int)) }
end Go.Eng
namespace Go.Proofs
open Go Go.Eng
set_option maxRecDepth 100000
theorem q1M:qj ⟨Tryz.prog,qgz,[qcn],[qp3]⟩ 100000 Tryz.f82 = qmj:=by kernel_rfl
theorem q5j (hd:∀ c ∈ ([qcn]:List Ctr),c.ok Tryz.prog) (h:∀ ρ:Env,ρ.good->(qgz).pre ρ->qmj.den ⟨Tryz.prog,qgz,[qcn],[qp3]⟩ ρ):(qgz).ok Tryz.prog :=
 qc Tryz.func82 (fun a w=>Tryz.call82 a w) hd 100000 (fun ρ hg hp=>by rw [q1M]; exact h ρ hg hp)
theorem q0c:qj ⟨Tryz.prog,qfM,[qgz,qbH],[qy8]⟩ 100000 Tryz.f37 = qxD:=by kernel_rfl
theorem q59 (hd:∀ c ∈ ([qgz,qbH]:List Ctr),c.ok Tryz.prog) (h:∀ ρ:Env,ρ.good->(qfM).pre ρ->qxD.den ⟨Tryz.prog,qfM,[qgz,qbH],[qy8]⟩ ρ):(qfM).ok Tryz.prog :=
 qc Tryz.func37 (fun a w=>Tryz.call37 a w) hd 100000 (fun ρ hg hp=>by rw [q0c]; exact h ρ hg hp)
theorem q5E:qgz.ok Tryz.prog:=q5j (by simp [qq0]) fun ρ hg hp=>by
 obtain ⟨h0,hl,h1,hr⟩:=hp
 simp only [Nat.reduceAdd] at h0 hl h1 hr
 simp (config:={ maxSteps:=4000000 }) [qmj,qgz,qdM,qp3,qcn,h0]
 have hil:(qw (ρ 3).d).length = (ρ 3).d.length:=by simp [qw]
 refine ⟨qmU,fun s _ i _ i0 i1 hs=>⟨fun hi=>⟨i0,by omega,fun u _ hu=>⟨fun ht=>?_,fun hf=>?_⟩⟩,fun hi=>?_⟩⟩
 ·have hp:0 <= qh (ρ 3).d i.i 0/\qh (ρ 3).d i.i 0 < 16:=by rw [hu] at ht; exact of_decide_eq_true ht
  have hsl:0 < s.d.length:=by obtain ⟨⟨row,e,_⟩,_⟩:=hs; rw [e]; exact Nat.one_pos
  rw [add64 (x:=i.i) (by omega) (by omega)]
  refine ⟨hp.1,hp.2,hsl,⟨by omega,by omega,?_⟩,by omega⟩
  rw [show (i.i + 1).toNat = i.i.toNat + 1 by omega]
  exact qm5 hs (by omega) (qem i0 (by omega)) hp.1 hp.2
 ·have hp:¬ (0 <= qh (ρ 3).d i.i 0/\qh (ρ 3).d i.i 0 < 16):=by rw [hu] at hf; exact of_decide_eq_false hf
  rw [add64 (x:=i.i) (by omega) (by omega)]
  refine ⟨⟨by omega,by omega,?_⟩,by omega⟩
  rw [show (i.i + 1).toNat = i.i.toNat + 1 by omega]
  exact qmT hs (by omega) (qem i0 (by omega)) hp
 ·obtain ⟨⟨row,hs1,hrl⟩,hs2⟩:=hs
  rw [show i.i.toNat = (ρ 1).i.toNat by omega] at hs2
  rw [hs1] at hs2 ⊢
  match row,hrl with
  | [a0,a1,a2,a3,a4,a5,a6,a7,a8,a9,a10,a11,a12,a13,a14,a15],_ =>
   refine ⟨by simp,?_⟩
   have key:qeC ((List.range 16).map (qaL [[a0,a1,a2,a3,a4,a5,a6,a7,a8,a9,a10,a11,a12,a13,a14,a15]])) ((qw (ρ 3).d).take (ρ 1).i.toNat):=⟨by simp,fun j hj=>by
    rw [List.getD_eq_getElem?_getD,List.getElem?_map,List.getElem?_range hj]
    exact hs2 j (by omega) (by omega)⟩
   exact key
theorem q5t:qfM.ok Tryz.prog:=q59 (by simp [q5E,qrF]) fun ρ hg hp=>by
 obtain ⟨hO,⟨h0,hl,h1,hr⟩,hGr,hGd⟩:=hp
 simp only [Nat.reduceAdd] at h0 hl h1 hr
 simp (config:={ maxSteps:=4000000 }) [qxD,qfM,q3g,qy8,q69,qgz,qdM,qbH,qe3,qlW,gOk,h0,hl,hO,hGr,hGd]
 repeat' (first | with_reducible apply And.intro | with_reducible intro _)
 all_goals first
  | assumption
  | omega
  | rfl
  | exact qjj (by assumption) (by assumption)
  | (rw [qfd (by assumption) (by omega)]; omega)
  | exact q7A (l:=[_,_,_,_,_,_,_,_,_,_,_,_,_,_,_,_]) (by assumption) (by assumption) (by assumption) (by assumption) (by assumption) (by assumption) (by assumption)
  | exact q7R (l:=[_,_,_,_,_,_,_,_,_,_,_,_,_,_,_,_]) (by assumption) (by assumption) (by assumption) (by assumption) (by assumption) (by assumption) (by assumption)
  | exact q70 (l:=[_,_,_,_,_,_,_,_,_,_,_,_,_,_,_,_]) (by assumption) (by assumption) (by assumption) (by assumption) (by assumption)
  | exact q6c (by assumption) (by assumption) (by assumption) (by assumption)
  | exact qs9 (by assumption)
  | exact (qs9 (by assumption)).symm
end Go.Proofs

set_option linter.unusedSimpArgs false
set_option linter.unusedVariables false
namespace Go.Eng
open Go Go.Proofs
def qcM:Ctr:={ fn := 31,nv:=2,ow:=[1003,200096],ip:=[gIp 0,(1127,8),(58,2),(1001,9),(1002,9)],args:=[],heap:=[],ro:=[gHp 0 1],pre:=fun ρ=>gOk ρ 0 1 gR,alts:=[qme] }
def qpI:Inv:={ key:=1000012,nv:=19,env:=[(4,.one (.vptr 1010 (.lit 0) 37 0)),(5,.one (.vslice 1015 (.lit 0) (.lit 1) (.var 1016) 2)),(6,.one (.vint .i64 (.lit 0))),(9,gaP 1000)],heap:=qsx 1000 20 ++ [.cells 1010 27 ([.vint .i64 (.lit 1),.vint .i64 (.lit 1),.vint .i64 (.lit 1),.vint .i64 (.lit 1)] ++ (qaK .u8 1011 32 ++ [.vslice 1012 (.lit 0) (.lit 1) (.var 1013) 32])),qdj 1012 1014 1013,q23 1015 1017 1016,.abs 1018 10],inv:=(fun ρ=>gaB ρ 1000 none []/\qQ (qf (ρ 1011).d 32)/\qdi (ρ 1014).d/\(ρ 1014).d.length = 1/\(ρ 1017).d.length = 1/\qql (ρ 1018).h (ρ 1017).d 1/\pcI (ρ 1017).d 0 = 0/\qcc 1 1 1 1 1 (dgs (ρ 1014).d) 0 (pcD (ρ 1018).h (ρ 1017).d 0) = 0/\qf (ρ 1001).d 32 = sha (qaD 1 1 1 1 (qf (ρ 1011).d 32) ++ (dgs (ρ 1014).d).flatten)),mu:=fun _=>0 }
end Go.Eng

set_option linter.unusedSimpArgs false
set_option linter.unusedVariables false
set_option maxRecDepth 100000
namespace Go.Proofs
open Go Go.Eng

@[simp] def qb3:T:=.rcons (.vint .u8 (.lit 1)) (.rcons o8 (.rcons o8 (.rcons o8 (.rcons o8 (.rcons o8 (.rcons o8 (.rcons o8 (.rcons o8 (.rcons o8 (.rcons o8 (.rcons o8 (.rcons o8 (.rcons o8 (.rcons o8 (.rcons o8 (.rcons o8 (.rcons o8 (.rcons o8 (.rcons o8 (.rcons o8 (.rcons o8 (.rcons o8 (.rcons o8 (.rcons o8 (.rcons o8 (.rcons o8 (.rcons o8 (.rcons o8 (.rcons o8 (.rcons o8 (.rcons o8 .rnil)))))))))))))))))))))))))))))))
@[simp] def qgw:Sg:=sg 0 [bg 9 68,bv 8 67,bv 4 63,bv 3 62,bv 7 66,bv 6 65,bg 5 64,bg 2 61,bt 1 (s8 40),bg 0 39]
@[simp] def qms:Sg:=sg 0 [bv 11 1,bv 9 28,bv 8 32,bv 7 28,bt 6 (.lit 1),bg 5 27,bt 3 (.lit 1),bt 2 (.lit 1),bt 1 (.lit 1),bt 0 (.lit 1),bt 4 (r8 26),bg 10 0]
@[simp] def qm1:Sg:=sg 0 [bv 11 1,bt 9 (.lit 1),bt 8 (.rcons (.vint .u8 (.lit 120)) .rnil),bv 1 23,bt 7 (.lit 1),bt 6 (.lit 1),bg 5 24,bt 4 (.lit 1),bt 3 (.lit 1),bt 2 (.lit 1),bg 0 22,bg 10 0]
@[simp] def qm3:Sg:=sg 0 [bv 27 1,bv 25 59,bv 24 60,bv 19 52,bv 18 53,bg 9 48,bv 8 47,bv 4 43,bv 3 42,bv 7 46,bv 6 45,bg 5 44,bg 2 41,bt 1 (r8 40),bv 23 59,bt 22 (.dlen (.var 60)),bg 21 58,bt 20 (.icell (.var 56) (.lit 0) 0),bv 17 52,bt 16 (.lit 1),bg 15 51,bt 13 (.lit 1),bt 12 (.lit 1),bt 11 (.lit 1),bt 10 (.lit 1),bt 14 (r8 50),bg 0 39,bg 26 0]
@[simp] def qo2:Sg:=sg 0 [bv 3 1,bt 1 (.lit 1),bt 0 qb3,bg 2 0]
@[simp] def qp1:Sg:=sg 0 [bv 3 1,bt 1 (.lit 0),bt 0 qb3,bg 2 0]
@[simp] def qpv:Sg:=sg 0 [bv 3 1,bt 1 (.lit 3),bt 0 qb3,bg 2 0]
@[simp] def qpe:Sg:=sg 0 [bg 5 13,bv 4 12,bt 3 (.lit 5),bt 2 (.icell (.var 6) (.lit 0) 0),bt 1 qb3,bg 0 11]
@[simp] def qoi:Sg:=sg 0 [bv 9 1,bv 7 5,bv 6 6,bv 5 5,bt 4 (.lit 2),bg 3 3,bt 2 (.lit 2),bt 1 (.icell (.var 6) (.lit 2) 0),bt 0 qb3,bg 8 0]
@[simp] def qp2:Sg:=sg 0 [bv 17 1,bt 15 (.lit 0),bt 14 .dnil,bv 10 5,bv 9 6,bg 5 16,bv 4 12,bt 13 (.lit 0),bt 12 (.lit 0),(11,.nil),bv 8 5,bv 7 4,bg 6 3,bt 3 (.lit 17),bt 2 (.icell (.var 6) (.lit 1) 0),bt 1 qb3,bg 0 11,bg 16 0]
@[simp] def qow:Sg:=sg 0 [bv 17 1,bt 15 (.lit 0),bt 14 .dnil,bv 10 5,bv 9 6,bg 5 14,bv 4 12,bt 13 (.lit 0),bt 12 (.lit 0),(11,.nil),bv 8 5,bv 7 4,bg 6 3,bt 3 (.lit 16),bt 2 (.icell (.var 6) (.lit 1) 0),bt 1 qb3,bg 0 11,bg 16 0]
@[simp] def qnQ:Sg:=sg 0 [bv 11 1,bt 6 (.lit 3),bt 5 (.dapp (.rcons (.vint .i64 (.lit 0)) .rnil) (.dapp (.rcons (.vint .i64 (.lit 1)) .rnil) (.rcons (.vint .i64 (.lit 2)) .rnil))),bt 9 (.bl false),bt 8 (.bl true),bt 7 (.lit 3),bt 4 (.lit 3),bt 3 (.lit 3),bg 2 9,bt 1 (.lit 3),bt 0 qb3,bg 10 0]
@[simp] def qnZ:Sg:=sg 0 [bv 11 1,bt 6 (.lit 3),bt 5 (.dapp (.rcons (.vint .i64 (.lit 0)) .rnil) (.dapp (.rcons (.vint .i64 (.lit 1)) .rnil) (.rcons (.vint .i64 (.lit 2)) .rnil))),bt 9 (.bl false),bt 8 (.bl false),bt 7 (.lit 3),bt 4 (.lit 3),bt 3 (.lit 3),bg 2 7,bt 1 (.lit 1),bt 0 qb3,bg 10 0]
def qnh:Out:=(.fresh 2 (.pre 0 qpv (.both (.fresh 3 (.fresh 4 (.fresh 5 (.fresh 6 (.post 0 0 qpv 3 (.need (.cmp .leq (.lit 0) (.var 4)) (.br (.cmp .neq (.var 4) (.lit 3))
 (.stuck 7 0 0)
 (.fresh 7 (.pre 1 qnZ (.both (.fresh 8 (.post 1 0 qnZ 8 (.br (.cmp .neq (.var 8) (.lit 1))
 (.stuck 7 0 0)
 (.fresh 9 (.pre 1 qnQ (.both (.fresh 10 (.post 1 0 qnQ 10 (.br (.cmp .neq (.var 10) (.lit 2))
 (.stuck 7 0 0)
 (.pre 2 (sg 0 []) (.both (.fresh 11 (.fresh 12 (.fresh 13 (.post 2 0 (sg 0 []) 11 (.need (.cmp .lss (.lit 0) (.var 4)) (.need (.cmp .lss (.lit 0) (.dlen (.var 6))) (.both (.pre 3 qpe (.both (.fresh 14 (.post 3 0 qpe 14 (.need (.cmp .lss (.lit 1) (.var 4)) (.need (.cmp .lss (.lit 1) (.dlen (.var 6))) (.both (.pre 4 qow (.both (.fresh 15 (.fresh 16 (.post 4 0 qow 15 (.br (.not (.var 15))
 (.both (.both (.both (.both (.stuck 7 0 0) .top) .top) .top) .top)
 (.both (.pre 4 qp2 (.both (.fresh 17 (.fresh 18 (.post 4 0 qp2 17 (.br (.var 17)
 (.both (.both (.both (.stuck 7 0 0) .top) .top) .top)
 (.need (.cmp .lss (.lit 2) (.var 4)) (.need (.cmp .lss (.lit 2) (.dlen (.var 6))) (.know (.cmp .leq (.dlen (.var 6)) (.var 5)) (.need (.cmp .leq (.lit 0) (.var 5)) (.need (.cmp .leq (.lit 2) (.var 5)) (.both (.pre 5 qoi (.both (.fresh 19 (.post 5 0 qoi 19 (.br (.not (.var 19))
 (.both (.both (.stuck 7 0 0) .top) .top)
 (.both (.pre 6 qp1 (.both (.fresh 20 (.post 6 0 qp1 20 (.both (.pre 6 qo2 (.both (.fresh 21 (.post 6 0 qo2 21 (.br (.c2 .req (r8 20) (r8 21))
 (.stuck 7 0 0)
 (.pre 7 (sg 0 []) (.both (.fresh 22 (.fresh 23 (.post 7 0 (sg 0 []) 22 (.fresh 24 (.fresh 25 (.pre 8 qm1 (.both (.fresh 26 (.fresh 27 (.fresh 28 (.fresh 29 (.fresh 30 (.fresh 31 (.fresh 32 (.fresh 33 (.fresh 34 (.post 8 0 qm1 26 (.fresh 35 (.pre 9 qms (.both (.fresh 36 (.fresh 37 (.post 9 0 qms 36 (.fresh 38 (.both (.pre 10 (sg 0 [bt 0 (r8 36)]) (.both (.fresh 39 (.post 10 0 (sg 0 [bt 0 (r8 36)]) 39 (.pack [.cells 38 24 [(x8 0 36),(x8 1 36),(x8 2 36),(x8 3 36),(x8 4 36),(x8 5 36),(x8 6 36),(x8 7 36),(x8 8 36),(x8 9 36),(x8 10 36),(x8 11 36),(x8 12 36),(x8 13 36),(x8 14 36),(x8 15 36),(x8 16 36),(x8 17 36),(x8 18 36),(x8 19 36),(x8 20 36),(x8 21 36),(x8 22 36),(x8 23 36),(x8 24 36),(x8 25 36),(x8 26 36),(x8 27 36),(x8 28 36),(x8 29 36),(x8 30 36),(x8 31 36)],.arr 22 151 [CK.int .u32,CK.int .i32,CK.int .u32,CK.int .u8,CK.int .u8,CK.int .u8,CK.int .u8,CK.int .u8,CK.int .u8,CK.int .u8,CK.int .u8,CK.int .u8,CK.int .u8,CK.int .u8,CK.int .u8,CK.int .u8,CK.int .u8,CK.int .u8,CK.int .u8,CK.int .u8,CK.int .u8,CK.int .u8,CK.int .u8,CK.int .u8,CK.int .u8,CK.int .u8,CK.int .u8,CK.int .u8,CK.int .u8,CK.int .u8,CK.int .u8,CK.int .u8,CK.int .u8,CK.int .u8,CK.int .u8,CK.int .u8,CK.int .u8,CK.int .u8,CK.int .u8,CK.int .u8,CK.int .u8,CK.int .u8,CK.int .u8,CK.int .u8,CK.int .u8,CK.int .u8,CK.int .u8,CK.int .u8,CK.int .u8,CK.int .u8,CK.int .u8,CK.int .u8,CK.int .u8,CK.int .u8,CK.int .u8,CK.int .u8,CK.int .u8,CK.int .u8,CK.int .u8,CK.int .u8,CK.int .u8,CK.int .u8,CK.int .u8,CK.int .u8,CK.int .u8,CK.int .u8,CK.int .u8,CK.int .u8,CK.int .u8,CK.int .u8,CK.int .u8,CK.int .u8,CK.int .u8,CK.int .u8,CK.int .u8,CK.int .u8,CK.int .u8,CK.int .u8,CK.int .u8,CK.int .u8,CK.int .u8,CK.int .u8,CK.int .u8,CK.int .u8,CK.int .u8,CK.int .u8,CK.int .u8,CK.int .u8,CK.int .u8,CK.int .u8,CK.int .u8,CK.int .u8,CK.int .u8,CK.int .u8,CK.int .u8,CK.int .u8,CK.int .u8,CK.int .u8,CK.int .u8,CK.int .u8,CK.int .u8,CK.int .u8,CK.int .u8,CK.int .u8,CK.int .u8,CK.int .u8,CK.int .u8,CK.int .u8,CK.int .u8,CK.int .u8,CK.int .u8,CK.int .u8,CK.int .u8,CK.int .u8,CK.int .u8,CK.int .u8,CK.int .u8,CK.int .u8,CK.int .u8,CK.int .u8,CK.int .u8,CK.int .u8,CK.int .u8,CK.int .u8,CK.int .u8,CK.int .u8,CK.int .u8,CK.int .u8,CK.int .u8,CK.int .u8,CK.int .u8,CK.int .u8,CK.int .u8,CK.int .u8,CK.int .u8,CK.int .u8,CK.int .u8,CK.int .u8,CK.int .u8,CK.int .u8,CK.int .u8,CK.int .u8,CK.int .u8,CK.int .u8,CK.int .u8,CK.int .u8,CK.int .u8,CK.int .u8,CK.int .u8,CK.int .u8,CK.int .u8,CK.int .u8,CK.int .u8,CK.int .u8,CK.int .u8,CK.int .u8,CK.int .u8,CK.int .u8,CK.int .u8,CK.int .u8,CK.int .u8,CK.int .u8,CK.int .u8,CK.int .u8,CK.int .u8,CK.int .u8,CK.int .u8,CK.int .u8,CK.int .u8,CK.int .u8,CK.int .u8,CK.int .u8,CK.int .u8,CK.int .u8,CK.int .u8,CK.int .u8,CK.int .u8,CK.int .u8,CK.int .u8,CK.int .u8,CK.int .u8,CK.int .u8,CK.int .u8,CK.int .u8,CK.int .u8,CK.int .u8,CK.int .u8,CK.int .u8,CK.int .u8,CK.int .u8,CK.int .u8,CK.int .u8,CK.int .u8,CK.int .u8,CK.int .u8,CK.int .u8,CK.int .u8,CK.int .u8,CK.int .u8,CK.int .u8,CK.int .u8,CK.int .u8,CK.int .u8,CK.int .u8,CK.int .u8,CK.int .u8,CK.int .u8,CK.int .u8,CK.int .u8,CK.int .u8,CK.int .u8,CK.int .u8,CK.int .u8,CK.int .u8,CK.int .u8,CK.int .u8,CK.int .u8,CK.int .u8,CK.int .u8,CK.int .u8,CK.int .u8,CK.int .u8,CK.int .u8,CK.int .u8,CK.int .u8,CK.int .u8,CK.int .u8,CK.int .u8,CK.int .u8,CK.int .u8,CK.int .u8,CK.int .u8,CK.int .u8,CK.int .u8,CK.int .u8,CK.int .u8,CK.int .u8,CK.int .u8,CK.int .u8,CK.int .u8,CK.int .u8,CK.int .u8,CK.int .u8,CK.int .u8,CK.int .u8,CK.int .u8,CK.int .u8,CK.int .u8,CK.int .u8,CK.int .u8,CK.int .u8,CK.int .u8,CK.int .u8,CK.int .u8,CK.int .u8,CK.int .u8,CK.int .u8,CK.int .u8,CK.int .u8,CK.int .u8,CK.int .u8,CK.int .u8,CK.int .u8,CK.int .u8,CK.int .u8,CK.int .u8,CK.int .u8,CK.int .u8,CK.int .u8,CK.int .u8,CK.int .u8,CK.int .u8,CK.int .u8,CK.int .u8,CK.int .u8,CK.int .u8,CK.int .u8,CK.int .u8,CK.int .u8,CK.int .u8,CK.int .u8,CK.int .u8,CK.int .u8,CK.int .u8,CK.int .u8,CK.int .u8,CK.int .u8,CK.int .u8,CK.int .u8,CK.int .u8,CK.int .u8,CK.int .u8,CK.int .u8,CK.int .u8,CK.int .u8,CK.int .u8,CK.int .u8,CK.int .u8,CK.int .u8,CK.int .u8,CK.int .u8,CK.int .u8,CK.int .u8,CK.int .u8,CK.int .u8,CK.int .u8,CK.int .u8,CK.int .u8,CK.int .u8,CK.int .u8,CK.int .u8,CK.int .u8,CK.int .u8,CK.int .u8,CK.int .u8,CK.int .u8,CK.int .u8,CK.int .u8,CK.int .u8,CK.int .u8,CK.int .u8,CK.int .u8,CK.int .u8,CK.int .u8,CK.int .u8,CK.int .u8,CK.int .u8,CK.int .u8,CK.int .u8,CK.int .u8,CK.int .u8,CK.int .u8,CK.int .u8,CK.int .u8,CK.int .u8,CK.int .u8,CK.int .u8,CK.int .u8,CK.int .u8,CK.int .u8,CK.int .u8,CK.int .u8,CK.int .u8,CK.int .u8,CK.int .u8,CK.int .u8,CK.int .u8,CK.int .u8,CK.int .u8,CK.int .u8,CK.int .u8,CK.int .u8,CK.int .u8,CK.int .u8,CK.int .u8,CK.int .u8,CK.int .u8,CK.int .u8,CK.int .u8,CK.int .u8,CK.int .u8,CK.int .u8,CK.int .u8,CK.int .u8,CK.int .u8,CK.int .u8,CK.int .u8,CK.int .u8,CK.int .u8,CK.int .u8,CK.int .u8,CK.int .u8,CK.int .u8,CK.int .u8,CK.int .u8,CK.int .u8,CK.int .u8,CK.int .u8,CK.int .u8,CK.int .u8,CK.int .u8,CK.int .u8,CK.int .u8,CK.int .u8,CK.int .u8,CK.int .u8,CK.int .u8,CK.int .u8,CK.int .u8,CK.int .u8,CK.int .u8,CK.int .u8,CK.int .u8,CK.int .u8,CK.int .u8,CK.int .u8,CK.int .u8,CK.int .u8,CK.int .u8,CK.int .u8,CK.int .u8,CK.int .u8,CK.int .u8,CK.int .u8,CK.int .u8,CK.int .u8,CK.int .u8,CK.int .u8,CK.int .u8,CK.int .u8,CK.int .u8,CK.int .u8,CK.int .u8,CK.int .u8,CK.int .u8,CK.int .u8,CK.int .u8,CK.int .u8,CK.int .u8,CK.int .u8,CK.int .u8,CK.int .u8,CK.int .u8,CK.int .u8,CK.int .u8,CK.int .u8,CK.int .u8,CK.int .u8,CK.int .u8,CK.int .u8,CK.int .u8,CK.int .u8,CK.int .u8,CK.int .u8,CK.int .u8,CK.int .u8,CK.int .u8,CK.int .u8,CK.int .u8,CK.int .u8,CK.int .u8,CK.int .u8,CK.int .u8,CK.int .u8,CK.int .u8,CK.int .u8,CK.int .u8,CK.int .u8,CK.int .u8,CK.int .u8,CK.int .u8,CK.int .u8,CK.int .u8,CK.int .u8,CK.int .u8,CK.int .u8,CK.int .u8,CK.int .u8,CK.int .u8,CK.int .u8,CK.int .u8,CK.int .u8,CK.int .u8,CK.int .u8,CK.int .u8,CK.int .u8,CK.int .u8,CK.int .u8,CK.int .u8,CK.int .u8,CK.int .u8,CK.int .u8,CK.int .u8,CK.int .u8,CK.int .u8,CK.int .u8,CK.int .u8,CK.int .u8,CK.int .u8,CK.int .u8,CK.int .u8,CK.int .u8,CK.int .u8,CK.int .u8,CK.int .u8,CK.int .u8,CK.int .u8,CK.int .u8,CK.int .u8,CK.int .u8,CK.int .u8,CK.int .u8,CK.int .u8,CK.int .u8,CK.int .u8,CK.int .u8,CK.int .u8,CK.int .u8,CK.int .u8,CK.int .u8,CK.int .u8,CK.int .u8,CK.int .u8,CK.int .u8,CK.int .u8,CK.int .u8,CK.int .u8,CK.int .u8,CK.int .u8,CK.int .u8,CK.int .u8,CK.int .u8,CK.int .u8,CK.int .i64,CK.int .i64,CK.int .i64,CK.int .i64,CK.int .i64,CK.int .i64,CK.int .i64,CK.int .i64,CK.int .i64,CK.int .i64,CK.int .i64,CK.int .i64,CK.int .i64,CK.int .i64,CK.int .i64,CK.int .i64,CK.int .i64,CK.int .i64,CK.int .i64,CK.int .i64,CK.int .i64,CK.int .i64,CK.int .i64,CK.int .i64,CK.int .i64,CK.int .i64,CK.int .i64,CK.int .i64,CK.int .i64,CK.int .i64,CK.int .i64,CK.int .i64,CK.int .i64,CK.int .i64,CK.int .i64,CK.int .i64,CK.int .i64,CK.int .i64,CK.int .i64,CK.int .i64,CK.int .i64,CK.int .i64,CK.int .i64,CK.int .i64,CK.int .i64,CK.int .i64,CK.int .i64,CK.int .i64,CK.int .i64,CK.int .i64,CK.int .i64,CK.int .i64,CK.int .i64,CK.int .i64,CK.int .i64,CK.int .i64,CK.int .i64,CK.int .i64,CK.int .i64,CK.int .i64,CK.int .i64,CK.int .i64,CK.int .i64,CK.int .i64,CK.int .i64,CK.int .i64,CK.int .i64,CK.int .i64,CK.int .i64,CK.int .i64,CK.int .i64,CK.int .i64,CK.int .i64,CK.int .i64,CK.int .i64,CK.int .i64,CK.int .i64,CK.int .i64,CK.int .i64,CK.int .i64,CK.int .i64,CK.int .i64,CK.int .i64,CK.int .i64,CK.int .i64,CK.int .i64,CK.int .i64,CK.int .i64,CK.int .i64,CK.int .i64,CK.int .i64,CK.int .i64,CK.int .i64,CK.int .i64,CK.int .i64,CK.int .i64,CK.int .i64,CK.int .i64,CK.int .i64,CK.int .i64,CK.int .i64,CK.int .i64,CK.int .i64,CK.int .i64,CK.int .i64,CK.int .i64,CK.int .i64,CK.int .i64,CK.int .i64,CK.int .i64,CK.int .i64,CK.int .i64,CK.int .i64,CK.int .i64,CK.int .i64,CK.int .i64,CK.int .i64,CK.int .i64,CK.int .i64,CK.int .i64,CK.int .i64,CK.int .i64,CK.int .i64,CK.int .i64,CK.int .i64,CK.int .i64,CK.int .i64,CK.int .i64,CK.int .i64,CK.int .i64,CK.int .i64,CK.int .i64,CK.int .i64,CK.int .i64,CK.int .i64,CK.int .i64,CK.int .i64,CK.int .i64,CK.int .i64,CK.int .i64,CK.int .i64,CK.int .i64,CK.int .i64,CK.int .i64,CK.int .i64,CK.int .i64,CK.int .i64,CK.int .i64,CK.int .i64,CK.int .i64,CK.int .i64,CK.int .i64,CK.int .i64,CK.int .i64,CK.int .i64,CK.int .i64,CK.int .i64,CK.int .i64,CK.int .i64,CK.int .i64,CK.int .i64,CK.int .i64,CK.int .i64,CK.int .i64,CK.int .i64,CK.int .i64,CK.int .i64,CK.int .i64,CK.int .i64,CK.int .i64,CK.int .i64,CK.int .i64,CK.int .i64,CK.int .i64,CK.int .i64,CK.int .i64,CK.int .i64,CK.int .i64,CK.int .i64,CK.int .i64,CK.int .i64,CK.int .i64,CK.int .i64,CK.int .i64,CK.int .i64,CK.int .i64,CK.int .i64,CK.int .i64,CK.int .i64,CK.int .i64,CK.int .i64,CK.int .i64,CK.int .i64,CK.int .i64,CK.int .i64,CK.int .i64,CK.int .i64,CK.int .i64,CK.int .i64,CK.int .i64,CK.int .i64,CK.int .i64,CK.int .i64,CK.int .i64,CK.int .i64,CK.int .i64,CK.int .i64,CK.int .i64,CK.int .i64,CK.int .i64,CK.int .i64,CK.int .i64,CK.int .i64,CK.int .i64,CK.int .i64,CK.int .i64,CK.int .i64,CK.int .i64,CK.int .i64,CK.int .i64,CK.int .i64,CK.int .i64,CK.int .i64,CK.int .i64,CK.int .i64,CK.int .i64,CK.int .i64,CK.int .i64,CK.int .i64,CK.int .i64,CK.int .i64,CK.int .i64,CK.int .i64,CK.int .i64,CK.int .i64,CK.int .i64,CK.int .i64,CK.int .i64,CK.int .i64,CK.int .i64,CK.int .i64,CK.int .i64,CK.int .i64,CK.int .i64,CK.int .i64,CK.int .i64,CK.int .i64,CK.int .i64,CK.int .i64,CK.int .i64,CK.int .i64,CK.int .i64,CK.int .i64,CK.int .i64,CK.int .i64,CK.int .i64] (.var 31) (.lit 1),.cells 11 179 [(.var 12)],.cells 9 3 [(.vint .i64 (.lit 0)),(.vint .i64 (.lit 1)),(.vint .i64 (.lit 2))],.cells 7 3 [(.vint .i64 (.lit 0)),(.vint .i64 (.lit 1)),(.vint .i64 (.lit 2))],.arr 3 3 [CK.int .i64] (.var 6) (.var 5),.cells 2 24 [(.vint .u8 (.lit 1)),o8,o8,o8,o8,o8,o8,o8,o8,o8,o8,o8,o8,o8,o8,o8,o8,o8,o8,o8,o8,o8,o8,o8,o8,o8,o8,o8,o8,o8,o8,o8]] 40 (.cut 0 39 (sg 1000 [bg 1018 34,bv 1017 33,bv 1014 32,bv 1013 28,bg 1012 27,bt 1011 (r8 26),bg 1009 40,bt 1008 .dnil,bt 1004 (.lit 0),bt 1003 .dnil,bt 1007 (.lit 0),bt 1006 (.lit 0),(1005,.nil),(1002,.nil),bt 1001 (s8 36),bg 1000 39,bv 1016 30,bg 1015 29,bg 1010 35]))))) .top)) (.fresh 39 (.fresh 40 (.fresh 41 (.fresh 42 (.fresh 43 (.fresh 44 (.fresh 45 (.fresh 46 (.fresh 47 (.fresh 48 (.fresh 49 (.fresh 50 (.fresh 51 (.fresh 52 (.fresh 53 (.fresh 54 (.fresh 55 (.fresh 56 (.fresh 57 (.hyp 0 39 (.need (.cmp .lss (.lit 0) (.dlen (.var 56))) (.both (.viewL (.vcell (.var 56) (.lit 0) 1) [CK.int .u8] [57] 58 (.pre 11 qm3 (.both (.fresh 61 (.fresh 62 (.fresh 63 (.fresh 64 (.fresh 65 (.fresh 66 (.fresh 67 (.fresh 68 (.fresh 69 (.post 11 0 qm3 61 (.both (.both (.both (.br (.cmp .eql (.var 69) (.lit 0))
 (.both (.both (.pre 12 qgw (.both (.fresh 70 (.post 12 0 qgw 70 (.both (.both (.br (.var 70)
 (.both (.both (.pre 13 qgw (.both (.fresh 71 (.fresh 72 (.fresh 73 (.fresh 74 (.post 13 0 qgw 71 (.both (.need (.cmp .leq (.lit 0) (.var 72)) (.both (.both (.both (.need (.beq (.bl true) (.cmp .eql (.var 72) (.lit 1))) (.ret 0 (sg 2 []))) .top) .top) .top)) .top)))))) .top)) .top) .top)
 (.both (.both (.both (.both (.both (.both (.stuck 7 0 0) .top) .top) .top) .top) .top) .top)) .top) .top))) .top)) .top) .top)
 (.both (.both (.both (.both (.both (.both (.both (.both (.both (.both (.stuck 7 0 0) .top) .top) .top) .top) .top) .top) .top) .top) .top) .top)) .top) .top) .top))))))))))) .top))) .top))))))))))))))))))))))))))) .top))))))))))))) .top))))))) .top))))) .top)) .top))) .top)) .top)))) .top)) .top)))))))))) .top)) .top))))) .top)) .top))))) .top)) .top))))))) .top))))) .top)))))) .top)))))))))) .top)))
theorem qvQ:qj ⟨Tryz.prog,qcM,[qcj,qfK,qdL,qf5,qcf,qfM,qcm,qa3,qjb,idC,qdN,qdK,qcd,qdk],[qpI]⟩ 100000 Tryz.f31 = qnh:=by kernel_rfl
theorem qzQ (hd:∀ c ∈ ([qcj,qfK,qdL,qf5,qcf,qfM,qcm,qa3,qjb,idC,qdN,qdK,qcd,qdk]:List Ctr),c.ok Tryz.prog) (h:∀ ρ:Env,ρ.good->(qcM).pre ρ->qnh.den ⟨Tryz.prog,qcM,[qcj,qfK,qdL,qf5,qcf,qfM,qcm,qa3,qjb,idC,qdN,qdK,qcd,qdk],[qpI]⟩ ρ):(qcM).ok Tryz.prog :=
 qc Tryz.func31 (fun a w=>Tryz.call31 a w) hd 100000 (fun ρ hg hp=>by rw [qvQ]; exact h ρ hg hp)
end Go.Proofs

set_option linter.unusedSimpArgs false
set_option linter.unusedVariables false
namespace Go.Proofs
open Go Go.Eng
def d1:List Int:=1 :: List.replicate 31 0
theorem qu0:qO d1 0 1 = true:=by decide +kernel
theorem quY:qO d1 0 2 = true:=by decide +kernel
theorem qtj:qO d1 1 2 = true:=by decide +kernel
theorem q3q:¬ qJ d1 0 = qJ d1 1:=by decide +kernel
theorem qxh:qan d1 [0,1,2] = [0,1,2]:=by
 symm
 refine qzp ⟨List.Perm.refl _,?_⟩ (by decide)
 simp [qu0,quY,qtj]
theorem qvq:qc4 [0,1,2] = [0,1,2]:=by decide
theorem q6f:qkm d1 3 = [0,1,2]:=by
 have h:qgb 3 = [0,1,2]:=by decide
 rw [qkm,h,qaV,qvq,qxh]; rfl
theorem qrQ:qaV d1 [0,1,2] 3 = [0,1,2]:=by
 rw [qaV,qvq,qxh]; rfl
theorem q2C:qg2 d1 1 [0,1,2] 3 false false = 1:=by simp [qg2,qrQ]
theorem q2I:qg2 d1 3 [0,1,2] 3 true false = 2:=by simp [qg2,qrQ]
theorem q6w:qkE d1 2 2 [0,1] = true:=by
 have h:qc4 [0,1] = [0,1]:=by decide
 rw [qkE,h]; simp [quY,qtj]
def cl1:Cl:=qeq (fun _ _=>none) d1 0 5
theorem qy3:qdP cl1 d1 1 16 [0,1,2] [] = true:=by
 rw [qdP,List.any_eq_true]
 refine ⟨0,by simp,?_⟩
 have h:cl1 d1 ((0:Nat):Int) = some 5:=by simp [cl1,qeq]
 rw [h]
 simp [qu0,qjR]
theorem qxP:qdP cl1 d1 1 17 [0,1,2] [] = false:=by
 rw [qdP,List.any_eq_false]
 intro i _
 by_cases hi:i = 0
 ·subst hi
  have h:cl1 d1 ((0:Nat):Int) = some 5:=by simp [cl1,qeq]
  rw [h]; simp [qjR]
 ·have h:cl1 d1 ((i:Nat):Int) = none:=by simp [cl1,qeq,hi]
  rw [h]; simp
end Go.Proofs

set_option linter.unusedSimpArgs false
set_option linter.unusedVariables false
namespace Go.Proofs
open Go Go.Eng
theorem q4S:qf [[Value.int .u8 1,.int .u8 0,.int .u8 0,.int .u8 0,.int .u8 0,.int .u8 0,.int .u8 0,.int .u8 0,.int .u8 0,.int .u8 0,.int .u8 0,.int .u8 0,.int .u8 0,.int .u8 0,.int .u8 0,.int .u8 0,.int .u8 0,.int .u8 0,.int .u8 0,.int .u8 0,.int .u8 0,.int .u8 0,.int .u8 0,.int .u8 0,.int .u8 0,.int .u8 0,.int .u8 0,.int .u8 0,.int .u8 0,.int .u8 0,.int .u8 0,.int .u8 0]] 32 = d1:=by rfl
theorem q5W:qQ d1:=by intro x hx; simp [d1] at hx; rcases hx with rfl | rfl <;> decide
theorem q2u {h:Hp}:qbM h none [] 0 0 [] none []:=by
 refine ⟨rfl,⟨rfl,?_,?_⟩,?_,by decide,.inl ⟨rfl,rfl,rfl,rfl,rfl⟩⟩
 ·intro j hj; exact absurd hj (Nat.not_lt_zero j)
 ·intro j hj; exact absurd hj (Nat.not_lt_zero j)
 ·intro x hx; cases hx
theorem q74:(qcg 1 1).2.2 = 1:=by kernel_rfl
theorem q2P:qy [[Value.int .u8 120]]:=by intro row hr; simp at hr; subst hr; decide
set_option pp.funBinderTypes false
set_option format.width 2000
set_option format.indent 1
set_option maxRecDepth 20000 in
set_option maxHeartbeats 4000000 in
theorem qu6 (hd:∀ c ∈ ([qcj,qfK,qdL,qf5,qcf,qfM,qcm,qa3,qjb,idC,qdN,qdK,qcd,qdk]:List Ctr),c.ok Tryz.prog):qcM.ok Tryz.prog:=qzQ hd fun ρ hg hp=>by
 obtain ⟨hGr,hGd⟩:=hp
 simp (config:={ maxSteps:=4000000 }) [qnh,qcM,qpI,qcj,qfK,q45,qdL,qf5,qcf,q4G,qfM,q3g,qlW,qcm,qa3,qjb,qg6,idC,qoN,qx9,qdN,qdK,q1k,qcd,qdk,qva,qzD,qe1,qaK,qoU,q4K,qge,qgW,qfm,qyk,qcR,qbZ,qe3,gaB,gOk,hGr,hGd,q4S,q5W]
 have e012:qw [[Value.int IntKind.i64 0],[Value.int IntKind.i64 1],[Value.int IntKind.i64 2]] = [0,1,2]:=rfl
 intro _ _ l0 _ n _ c _ D _ hl
 obtain ⟨hn,hD,hrow⟩:=hl
 rw [q6f] at hD
 have hDl:D.d.length = 3:=by have:=congrArg List.length hD; simpa [qw] using this
 refine ⟨by omega,by omega,fun _ _ _ x5 _ h5=>?_⟩
 rw [e012,q2C] at h5
 refine ⟨h5,fun _ _ _ x6 _ h6=>?_⟩
 rw [e012,q2I] at h6
 refine ⟨h6,fun _ _ _ v _ H0 _ hc0=>⟨by omega,by omega,⟨_,hc0⟩,fun H1 _ hc1=>?_⟩⟩
 have g0:qh D.d 0 0 = 0:=by rw [qem (d:=D.d) (by omega) (by omega),hD]; rfl
 have g1:qh D.d 1 0 = 1:=by rw [qem (d:=D.d) (by omega) (by omega),hD]; rfl
 have g2:qh D.d 2 0 = 2:=by rw [qem (d:=D.d) (by omega) (by omega),hD]; rfl
 have hcl:=hc1 _ hc0
 rw [g0] at hcl
 refine ⟨by omega,by omega,⟨⟨_,hcl⟩,by omega,by omega,hrow⟩,fun b1 _ H2 _ hb1=>?_⟩
 obtain ⟨hcl2,hb1⟩:=hb1 _ hcl
 rw [g1,hD] at hb1
 have hb1':b1.b = true:=hb1.trans qy3
 refine ⟨hb1',fun _=>⟨⟨⟨_,hcl2⟩,by omega,by omega,hrow⟩,fun b2 _ H3 _ hb2=>?_⟩⟩
 obtain ⟨hcl3,hb2⟩:=hb2 _ hcl2
 rw [g1,hD] at hb2
 have hb2':b2.b = false:=hb2.trans qxP
 refine ⟨hb2',fun _=>⟨by omega,by omega,fun hcap=>⟨by omega,by omega,⟨by omega,hrow⟩,fun b3 _ hb3=>?_⟩⟩⟩
 rw [g2,hD] at hb3
 have hb3':b3.b = true:=hb3.trans q6w
 refine ⟨hb3',fun _ s0 _ hs0 s1 _ hs1=>?_⟩
 rw [hs0,hs1]
 refine ⟨q3q,fun _ _ _ fl _ hfl _ _ _ _=>⟨⟨⟨.inl hfl,q2P,fun _=>q74⟩,by decide⟩,?_⟩⟩
 intro o _ _ _ f _ _ _ _ _ _ _ Ds _ P _ Hp _ _ _ hPl hE ho hDs hdg _ _
 have hDl1:Ds.d.length = 1:=by
  have:=congrArg List.length hdg
  rw [qyg] at this; simpa [dgs] using this
 have hoM:qQ (qf o.d 32):=by rw [ho]; exact qfU _
 have hm1:qE 1 1 1 1 1 = true:=by decide
 refine ⟨⟨by omega,hoM,hDs⟩,fun ID _ e _ hid gn _=>⟨fun _ _ _ _ _=>?_,?_⟩⟩
 ·obtain ⟨q1,q2⟩:=q6l hE
  refine ⟨q2u,hoM,hDs,hDl1,hPl,q1,(q2 0 (by decide)).1,?_,?_⟩
  ·exact q3d (data:=[120]) hm1 (by intro x hx; simp at hx; subst hx; exact ⟨by decide,by decide⟩) rfl hdg (by decide) (by decide) (q2 0 (by decide)).2
  ·rcases hid with ⟨h,_⟩ | ⟨_,_,h⟩
   ·exact absurd h (by decide)
   ·exact h
 intro ar _ id _ mr _ mp _ mc _ pr _ pl _ pq _ pd _ gh _ bm _ om _ dr _ dq _ dd _ br _ bq _ bp _ bh _ hga hom hdd hdl hbl hpk hpi hck hid2
 obtain ⟨v0,B0,eP,hv,hRd,hB,hpd⟩:=q7Q hpk (j:=0) (by decide)
 obtain ⟨_,_,_,hlen,hsum⟩:=q1s hck
 have hB1:B0.length = 1:=by rw [hpd,bI_len] at hlen; rw [show qek 1 1 = 1 from rfl] at hlen; omega
 have hci:qh bp.d 0 0 = 0:=hpi
 have hidM:qQ (qf id.d 32):=by rw [hid2]; exact qfU _
 have hck':qcc 1 1 1 1 1 (dgs dd.d) 0 (bI B0) = 0:=by rw [<- hpd]; exact hck
 have hddl:(dgs dd.d).length = 1:=by simpa [dgs] using hdl
 have hoff:qgd (qf id.d 32) none [] { k:=1,n:=1,t:=1,s:=1,o:=qf om.d 32,D:=dgs dd.d } 0 (bI B0) = 0:=by
  have hok:ManV.ok { k:=1,n:=1,t:=1,s:=1,o:=qf om.d 32,D:=dgs dd.d } = true:=by simp only [ManV.ok,hddl]; decide
  have hbt:sha (ManV.bytes { k:=1,n:=1,t:=1,s:=1,o:=qf om.d 32,D:=dgs dd.d }) = qf id.d 32:=hid2.symm
  rw [qgd,if_neg (by rw [hok]; decide),if_neg (fun h=>h hbt)]
  simp [hddl,hck',qgF]
 refine ⟨by omega,B0,by rw [show (0:Int) = ((0:Nat):Int) from rfl,hv]; exact hRd,?_⟩
 rw [hci]
 intro vr _ vc _ _ hcap
 refine ⟨⟨⟨_,_,hga⟩,hidM,⟨hom,by omega,hdd⟩,by decide,⟨by omega,by omega,hB⟩,by omega⟩,?_⟩
 intro _ _ _ _ _ _ _ _ _ _ _ _ _ _ _ _ oe _ hofr
 obtain ⟨he0,hga2⟩:=hofr _ _ hga
 rw [hoff] at he0
 rw [if_pos he0,if_pos he0] at hga2
 refine ⟨fun _=>⟨⟨_,_,hga2⟩,fun rb _ hrb=>?_⟩,he0⟩
 have hr1:=hrb _ _ hga2
 have hr2:rb.b = true:=by rw [hr1]; rfl
 refine ⟨fun _=>⟨⟨_,_,hga2⟩,fun _ _ il _ _ _ di _ hi=>?_⟩,hr2⟩
 obtain ⟨hi1,hi2,_⟩:=hi _ _ hga2
 have hdi:di.d.length = 1:=by
  have:=congrArg List.length hi2
  rw [qcE] at this; simpa using this
 exact ⟨by omega,by omega,trivial⟩
theorem qoM:qaY.ok Tryz.prog:=q1X q50
theorem q0f:qcM.ok Tryz.prog:=qu6 (by simp [qxW qoM,q5u qoM,q2W,q4V,qyw,q5t,qt4,qm7,q3Y,q49,q2O,q3N,qux,qwD])
end Go.Proofs

set_option linter.unusedSimpArgs false
set_option linter.unusedVariables false
namespace Go.Eng
open Go Go.Proofs
end Go.Eng

set_option linter.unusedSimpArgs false
set_option linter.unusedVariables false
namespace Go.Eng
open Go Go.Proofs
end Go.Eng

set_option linter.unusedSimpArgs false
set_option linter.unusedVariables false
namespace Go.Eng
open Go Go.Proofs
def qhv:SV:=.one .vnilp
def fP (r:Nat):SV:=.one (.vptr r (.lit 0) 769 0)
def qgt:Ctr:={ fn := 49,nv:=16,args:=[qoU 0,qge 10],heap:=[],ro:=[qdj 5 8 9,qfm 10],pre:=fun ρ=>(ρ 6).i = (ρ 8).d.length/\(ρ 6).i <= 4398046510976/\(ρ 12).i = (ρ 14).d.length/\(ρ 12).i <= 100000000,alts:=[
 { k:=6,ret:=.tup [(true,qe1 0 1 2 3 4 16 6 17),(true,[.vint .i64 (.var 10),.vslice 18 (.lit 0) (.var 12) (.var 19) 1])],heap:=[qdj 16 20 17,bHp 18 21 19],post:=fun ρ=>(ρ 20).d = (ρ 8).d/\(ρ 21).d = (ρ 14).d }] }
def qeI:Ctr:={ fn := 62,nv:=3,args:=[qhv,dgV 0,iv .i64 (.var 1),iv .u64 (.var 2)],heap:=[],ro:=[],pre:=fun _=>True,alts:=[{ k:=0,ret:=.tup [],heap:=[],post:=fun _=>True }] }
def qdy:Ctr:={ fn := 64,nv:=1,args:=[qhv,iv .u64 (.var 0)],heap:=[],ro:=[],pre:=fun _=>True,alts:=[{ k:=0,ret:=.tup [],heap:=[],post:=fun _=>True }] }
def qbc:Ctr:={ fn := 66,nv:=1,args:=[qhv,dgV 0],heap:=[],ro:=[],pre:=fun _=>True,alts:=[{ k:=0,ret:=.one .vnils,heap:=[],post:=fun _=>True }] }
def qbV:Ctr:={ fn := 68,nv:=9,args:=[qhv,dgV 0,iv .i64 (.var 1),iv .u64 (.var 2),.one (.vslice 3 (.lit 0) (.var 4) (.var 5) 1),.one (.vslice 6 (.lit 0) (.var 7) (.var 8) 1)],heap:=[],ro:=[],pre:=fun _=>True,alts:=[{ k:=0,ret:=.one (.vbool (.bl false)),heap:=[],post:=fun _=>True }] }
def qbK:Ctr:={ fn := 89,nv:=0,args:=[qhv],heap:=[],ro:=[],pre:=fun _=>True,alts:=[{ k:=0,ret:=iv .i64 (.lit 1),heap:=[],post:=fun _=>True }] }
def qbE:Ctr:={ fn := 47,nv:=0,args:=[qhv],heap:=[],ro:=[],pre:=fun _=>True,alts:=[{ k:=0,ret:=.one (.vbool (.bl false)),heap:=[],post:=fun _=>True }] }
def qe8:Ctr:={ fn := 55,nv:=0,args:=[qhv],heap:=[],ro:=[],pre:=fun _=>True,alts:=[{ k:=0,ret:=.one .vnils,heap:=[],post:=fun _=>True }] }
def qeK:Ctr:={ fn := 46,nv:=1,args:=[qhv,fP 0],heap:=[],ro:=[],pre:=fun _=>True,alts:=[{ k:=0,ret:=.tup [(false,[.vnils]),qcb (.lit 1)],heap:=[],post:=fun _=>True }] }
def qd4:Ctr:={ fn := 50,nv:=2,args:=[qhv,fP 0,iv .i64 (.var 1)],heap:=[],ro:=[],pre:=fun _=>True,alts:=[{ k:=0,ret:=.tup [(true,[.vint .i64 (.lit 0),.vnils]),qcb (.lit 1)],heap:=[],post:=fun _=>True }] }
def qgu:Ctr:={ fn := 52,nv:=0,args:=[qhv],heap:=[],ro:=[],pre:=fun _=>True,alts:=[{ k:=0,ret:=.tup [(true,List.replicate 4 (.vint .i64 (.lit 0)) ++ (List.replicate 32 (.vint .u8 (.lit 0)) ++ [.vnils])),(false,[.vbool (.bl false)])],heap:=[],post:=fun _=>True }] }
def qd1:Ctr:={ fn := 48,nv:=14,args:=[qhv,qoU 0,.agg [.vint .i64 (.var 10),.vslice 11 (.lit 0) (.var 12) (.var 13) 1]],heap:=[],ro:=[],pre:=fun _=>True,alts:=[{ k:=0,ret:=iv .i64 (.lit 1),heap:=[],post:=fun _=>True }] }
def qoY (r:Nat):SV:=.agg (qe1 r (r + 1) (r + 2) (r + 3) (r + 4) (r + 5) (r + 6) (r + 7) ++ [.vint .i64 (.var (r + 10)),.vslice (r + 11) (.lit 0) (.var (r + 12)) (.var (r + 13)) 1,.vint .i64 (.var (r + 16))])
def qaM:Ctr:={ fn := 15,nv:=20,ip:=[gIp 18,(1001,9),(1002,9)],args:=[dgV 0,qoY 1],heap:=[],ro:=[qdj 6 9 10,qfm 11,gHp 18 19],pre:=fun ρ=>(ρ 7).i = (ρ 9).d.length/\(ρ 13).i = (ρ 15).d.length/\gOk ρ 18 19 gR,alts:=[qme] }
end Go.Eng

set_option linter.unusedSimpArgs false
set_option linter.unusedVariables false
set_option maxRecDepth 100000
namespace Go.Proofs
open Go Go.Eng

def qtT:Out:=(.fresh 16 (.fresh 17 (.fresh 18 (.fresh 19 (.fresh 20 (.need (.cmp .leq (.lit 0) (.var 6)) (.need (.cmp .leq (.var 6) (.dlen (.var 8))) (.need (.cmp .leq (.tims (.lit 32) (.var 6)) (.lit 140737488355328)) (.fresh 21 (.fresh 22 (.fresh 23 (.need (.cmp .leq (.lit 0) (.var 12)) (.need (.cmp .leq (.var 12) (.dlen (.var 14))) (.need (.cmp .leq (.tims (.lit 1) (.var 12)) (.lit 140737488355328)) (.fresh 24 (.fresh 25 (.both (.both (.ret 0 (sg 16 [bt 21 (.dtake (.var 14) (.var 12)),bt 20 (.dtake (.var 8) (.var 6)),bv 19 25,bg 18 24,bv 17 22,bg 16 21])) .top) .top)))))))))))))))))
theorem q1z:qj ⟨Tryz.prog,qgt,[],[]⟩ 100000 Tryz.f49 = qtT:=by kernel_rfl
theorem q6g (hd:∀ c ∈ ([]:List Ctr),c.ok Tryz.prog) (h:∀ ρ:Env,ρ.good->(qgt).pre ρ->qtT.den ⟨Tryz.prog,qgt,[],[]⟩ ρ):(qgt).ok Tryz.prog :=
 qc Tryz.func49 (fun a w=>Tryz.call49 a w) hd 100000 (fun ρ hg hp=>by rw [q1z]; exact h ρ hg hp)
def qqe:Out:=(.fresh 3 (.ret 0 (sg 3 [])))
theorem qy6:qj ⟨Tryz.prog,qeI,[],[]⟩ 100000 Tryz.f62 = qqe:=by kernel_rfl
theorem q3K (hd:∀ c ∈ ([]:List Ctr),c.ok Tryz.prog) (h:∀ ρ:Env,ρ.good->(qeI).pre ρ->qqe.den ⟨Tryz.prog,qeI,[],[]⟩ ρ):(qeI).ok Tryz.prog :=
 qc Tryz.func62 (fun a w=>Tryz.call62 a w) hd 100000 (fun ρ hg hp=>by rw [qy6]; exact h ρ hg hp)
def qnM:Out:=(.ret 0 (sg 1 []))
theorem qwp:qj ⟨Tryz.prog,qdy,[],[]⟩ 100000 Tryz.f64 = qnM:=by kernel_rfl
theorem q0p (hd:∀ c ∈ ([]:List Ctr),c.ok Tryz.prog) (h:∀ ρ:Env,ρ.good->(qdy).pre ρ->qnM.den ⟨Tryz.prog,qdy,[],[]⟩ ρ):(qdy).ok Tryz.prog :=
 qc Tryz.func64 (fun a w=>Tryz.call64 a w) hd 100000 (fun ρ hg hp=>by rw [qwp]; exact h ρ hg hp)
def qh4:Out:=(.fresh 1 (.ret 0 (sg 1 [])))
theorem qp0:qj ⟨Tryz.prog,qbc,[],[]⟩ 100000 Tryz.f66 = qh4:=by kernel_rfl
theorem qrS (hd:∀ c ∈ ([]:List Ctr),c.ok Tryz.prog) (h:∀ ρ:Env,ρ.good->(qbc).pre ρ->qh4.den ⟨Tryz.prog,qbc,[],[]⟩ ρ):(qbc).ok Tryz.prog :=
 qc Tryz.func66 (fun a w=>Tryz.call66 a w) hd 100000 (fun ρ hg hp=>by rw [qp0]; exact h ρ hg hp)
def qkr:Out:=(.fresh 9 (.ret 0 (sg 9 [])))
theorem qso:qj ⟨Tryz.prog,qbV,[],[]⟩ 100000 Tryz.f68 = qkr:=by kernel_rfl
theorem qwo (hd:∀ c ∈ ([]:List Ctr),c.ok Tryz.prog) (h:∀ ρ:Env,ρ.good->(qbV).pre ρ->qkr.den ⟨Tryz.prog,qbV,[],[]⟩ ρ):(qbV).ok Tryz.prog :=
 qc Tryz.func68 (fun a w=>Tryz.call68 a w) hd 100000 (fun ρ hg hp=>by rw [qso]; exact h ρ hg hp)
def qny:Out:=(.ret 0 (sg 0 []))
theorem qv3:qj ⟨Tryz.prog,qbE,[],[]⟩ 100000 Tryz.f47 = qny:=by kernel_rfl
theorem q10 (hd:∀ c ∈ ([]:List Ctr),c.ok Tryz.prog) (h:∀ ρ:Env,ρ.good->(qbE).pre ρ->qny.den ⟨Tryz.prog,qbE,[],[]⟩ ρ):(qbE).ok Tryz.prog :=
 qc Tryz.func47 (fun a w=>Tryz.call47 a w) hd 100000 (fun ρ hg hp=>by rw [qv3]; exact h ρ hg hp)
def qn5:Out:=(.ret 0 (sg 0 []))
theorem qvG:qj ⟨Tryz.prog,qbK,[qbE],[]⟩ 100000 Tryz.f89 = qn5:=by kernel_rfl
theorem q12 (hd:∀ c ∈ ([qbE]:List Ctr),c.ok Tryz.prog) (h:∀ ρ:Env,ρ.good->(qbK).pre ρ->qn5.den ⟨Tryz.prog,qbK,[qbE],[]⟩ ρ):(qbK).ok Tryz.prog :=
 qc Tryz.func89 (fun a w=>Tryz.call89 a w) hd 100000 (fun ρ hg hp=>by rw [qvG]; exact h ρ hg hp)
def qq9:Out:=(.ret 0 (sg 0 []))
theorem qyY:qj ⟨Tryz.prog,qe8,[],[]⟩ 100000 Tryz.f55 = qq9:=by kernel_rfl
theorem q3f (hd:∀ c ∈ ([]:List Ctr),c.ok Tryz.prog) (h:∀ ρ:Env,ρ.good->(qe8).pre ρ->qq9.den ⟨Tryz.prog,qe8,[],[]⟩ ρ):(qe8).ok Tryz.prog :=
 qc Tryz.func55 (fun a w=>Tryz.call55 a w) hd 100000 (fun ρ hg hp=>by rw [qyY]; exact h ρ hg hp)
def qqp:Out:=(.pre 0 (sg 0 []) (.both (.post 0 0 (sg 0 []) 1 (.ret 0 (sg 1 []))) .top))
theorem qyb:qj ⟨Tryz.prog,qeK,[qbK],[]⟩ 100000 Tryz.f46 = qqp:=by kernel_rfl
theorem q2U (hd:∀ c ∈ ([qbK]:List Ctr),c.ok Tryz.prog) (h:∀ ρ:Env,ρ.good->(qeK).pre ρ->qqp.den ⟨Tryz.prog,qeK,[qbK],[]⟩ ρ):(qeK).ok Tryz.prog :=
 qc Tryz.func46 (fun a w=>Tryz.call46 a w) hd 100000 (fun ρ hg hp=>by rw [qyb]; exact h ρ hg hp)
def qnk:Out:=(.fresh 2 (.pre 0 (sg 0 []) (.both (.post 0 0 (sg 0 []) 3 (.ret 0 (sg 2 []))) .top)))
theorem qw1:qj ⟨Tryz.prog,qd4,[qbK],[]⟩ 100000 Tryz.f50 = qnk:=by kernel_rfl
theorem q1i (hd:∀ c ∈ ([qbK]:List Ctr),c.ok Tryz.prog) (h:∀ ρ:Env,ρ.good->(qd4).pre ρ->qnk.den ⟨Tryz.prog,qd4,[qbK],[]⟩ ρ):(qd4).ok Tryz.prog :=
 qc Tryz.func50 (fun a w=>Tryz.call50 a w) hd 100000 (fun ρ hg hp=>by rw [qw1]; exact h ρ hg hp)
def qtd:Out:=(.fresh 0 (.ret 0 (sg 0 [])))
theorem q0j:qj ⟨Tryz.prog,qgu,[],[]⟩ 100000 Tryz.f52 = qtd:=by kernel_rfl
theorem q5n (hd:∀ c ∈ ([]:List Ctr),c.ok Tryz.prog) (h:∀ ρ:Env,ρ.good->(qgu).pre ρ->qtd.den ⟨Tryz.prog,qgu,[],[]⟩ ρ):(qgu).ok Tryz.prog :=
 qc Tryz.func52 (fun a w=>Tryz.call52 a w) hd 100000 (fun ρ hg hp=>by rw [q0j]; exact h ρ hg hp)
def qn0:Out:=(.fresh 14 (.fresh 15 (.ret 0 (sg 14 []))))
theorem qvB:qj ⟨Tryz.prog,qd1,[],[]⟩ 100000 Tryz.f48 = qn0:=by kernel_rfl
theorem q0Q (hd:∀ c ∈ ([]:List Ctr),c.ok Tryz.prog) (h:∀ ρ:Env,ρ.good->(qd1).pre ρ->qn0.den ⟨Tryz.prog,qd1,[],[]⟩ ρ):(qd1).ok Tryz.prog :=
 qc Tryz.func48 (fun a w=>Tryz.call48 a w) hd 100000 (fun ρ hg hp=>by rw [qvB]; exact h ρ hg hp)
@[simp] def qjp:Sg:=sg 0 [bt 8 (.lit 0),bt 7 (.lit 0),(6,.nil),bt 5 (.lit 2),bt 4 (.lit 2),bg 3 28,bt 2 (.lit 1),bt 1 (.lit 2),bt 0 (r8 0)]
@[simp] def qja:Sg:=sg 0 [bv 15 16,bv 14 15,bv 9 10,bv 8 9,bv 13 14,bv 12 13,bg 11 12,bv 10 11,bv 7 8,bv 6 7,bg 5 6,bv 3 4,bv 2 3,bv 1 2,bv 0 1,bt 4 (r8 5)]
@[simp] def qfO:Out:=.both (.pre 8 (sg 0 []) (.both (.post 8 0 (sg 0 []) 27 (.fresh 27 (.fresh 28 (.pre 5 qjp (.both (.post 5 0 qjp 29 (.pre 4 (sg 0 [bt 0 (r8 0)]) (.both (.post 4 0 (sg 0 [bt 0 (r8 0)]) 29 (.pre 12 qja (.both (.fresh 29 (.fresh 30 (.fresh 31 (.fresh 32 (.fresh 33 (.fresh 34 (.post 12 0 qja 29 (.pre 9 (sg 0 [bv 13 32,bv 12 13,bg 11 31,bv 10 11,bv 7 30,bv 6 7,bg 5 29,bv 3 4,bv 2 3,bv 1 2,bv 0 1,bt 4 (s8 5)]) (.both (.post 9 0 (sg 0 [bv 13 32,bv 12 13,bg 11 31,bv 10 11,bv 7 30,bv 6 7,bg 5 29,bv 3 4,bv 2 3,bv 1 2,bv 0 1,bt 4 (s8 5)]) 35 (.pre 10 (sg 0 []) (.both (.post 10 0 (sg 0 []) 35 (.pre 11 (sg 0 []) (.both (.post 11 0 (sg 0 []) 35 (.pre 0 (sg 0 [bv 1 19,bg 0 18]) (.both (.post 0 0 (sg 0 [bv 1 19,bg 0 18]) 35 (.ret 0 (sg 20 []))) .top))) .top))) .top))) .top))))))))) .top))) .top))) .top))))) .top)) .top
def qh7:Out:=(.fresh 20 (.fresh 21 (.need (.cmp .leq (.lit 0) (.var 7)) (.br (.cmp .gtr (.var 7) (.lit 60))
 (.pre 0 (sg 0 [bv 1 19,bg 0 18]) (.both (.post 0 0 (sg 0 [bv 1 19,bg 0 18]) 22 (.ret 0 (sg 20 []))) .top))
 (.need (.cmp .leq (.lit 0) (.var 13)) (.br (.cmp .gtr (.var 13) (.lit 2000))
 (.pre 0 (sg 0 [bv 1 19,bg 0 18]) (.both (.post 0 0 (sg 0 [bv 1 19,bg 0 18]) 22 (.ret 0 (sg 20 []))) .top))
 (.pre 2 (sg 0 [bt 2 (.lit 1),bt 1 (.lit 1),bt 0 (r8 0)]) (.both (.post 2 0 (sg 0 [bt 2 (.lit 1),bt 1 (.lit 1),bt 0 (r8 0)]) 22 (.pre 3 (sg 0 [bt 0 (.lit 1)]) (.both (.post 3 0 (sg 0 [bt 0 (.lit 1)]) 22 (.pre 1 (sg 0 []) (.both (.fresh 22 (.fresh 23 (.post 1 0 (sg 0 []) 22 (.pre 6 (sg 0 [bg 0 22]) (.both (.post 6 0 (sg 0 [bg 0 22]) 24 (.both (.pre 1 (sg 0 []) (.both (.fresh 24 (.fresh 25 (.post 1 0 (sg 0 []) 24 (.both (.pre 7 (sg 0 [bv 1 17,bg 0 24]) (.both (.post 7 0 (sg 0 [bv 1 17,bg 0 24]) 26 (.both (.fresh 26 qfO) .top)) .top)) (.both (.fresh 26 (.both (.pre 7 (sg 0 [bv 1 17,bg 0 24]) (.both (.post 7 0 (sg 0 [bv 1 17,bg 0 24]) 27 qfO) .top)) .top)) .top))))) .top)) (.both (.fresh 24 (.both (.pre 1 (sg 0 []) (.both (.fresh 25 (.fresh 26 (.post 1 0 (sg 0 []) 25 (.both (.pre 7 (sg 0 [bv 1 17,bg 0 25]) (.both (.post 7 0 (sg 0 [bv 1 17,bg 0 25]) 27 qfO) .top)) .top)))) .top)) .top)) .top))) .top))))) .top))) .top))) .top))))))))
theorem qoD:qj ⟨Tryz.prog,qaM,[qcM,qa3,qeI,qdy,qbc,qbV,qeK,qd4,qgu,qd1,qbE,qe8,qgt],[]⟩ 100000 Tryz.f15 = qh7:=by kernel_rfl
theorem qrT (hd:∀ c ∈ ([qcM,qa3,qeI,qdy,qbc,qbV,qeK,qd4,qgu,qd1,qbE,qe8,qgt]:List Ctr),c.ok Tryz.prog) (h:∀ ρ:Env,ρ.good->(qaM).pre ρ->qh7.den ⟨Tryz.prog,qaM,[qcM,qa3,qeI,qdy,qbc,qbV,qeK,qd4,qgu,qd1,qbE,qe8,qgt],[]⟩ ρ):(qaM).ok Tryz.prog :=
 qc Tryz.func15 (fun a w=>Tryz.call15 a w) hd 100000 (fun ρ hg hp=>by rw [qoD]; exact h ρ hg hp)
end Go.Proofs

set_option linter.unusedSimpArgs false
set_option linter.unusedVariables false
namespace Go.Proofs
open Go Go.Eng
set_option maxRecDepth 20000
theorem q5B:qgt.ok Tryz.prog:=q6g (by simp) fun ρ hg hp=>by
 obtain ⟨h0,h1,h2,h3⟩:=hp
 simp (config:={ maxSteps:=2000000 }) [qtT,qgt,qoU,qge,qe1,qaK]
 exact ⟨by omega,by omega,by omega,by omega,by omega,by omega,List.take_of_length_le (by omega),List.take_of_length_le (by omega)⟩
theorem q2Y:qeI.ok Tryz.prog:=q3K (by simp) fun ρ hg hp=>by simp [qqe,qeI]
theorem q1j:qdy.ok Tryz.prog:=q0p (by simp) fun ρ hg hp=>by simp [qnM,qdy]
theorem qsi:qbc.ok Tryz.prog:=qrS (by simp) fun ρ hg hp=>by simp [qh4,qbc]
theorem qvP:qbV.ok Tryz.prog:=qwo (by simp) fun ρ hg hp=>by simp [qkr,qbV]
theorem qrt:qbE.ok Tryz.prog:=q10 (by simp) fun ρ hg hp=>by simp [qny,qbE]
theorem qrs:qbK.ok Tryz.prog:=q12 (by simp [qrt]) fun ρ hg hp=>by simp [qn5,qbK,qbE]
theorem q3O:qe8.ok Tryz.prog:=q3f (by simp) fun ρ hg hp=>by simp [qq9,qe8]
theorem q3w:qeK.ok Tryz.prog:=q2U (by simp [qrs]) fun ρ hg hp=>by simp [qqp,qeK,qbK]
theorem q0E:qd4.ok Tryz.prog:=q1i (by simp [qrs]) fun ρ hg hp=>by simp [qnk,qd4,qbK]
theorem q4N:qgu.ok Tryz.prog:=q5n (by simp) fun ρ hg hp=>by simp [qtd,qgu]
theorem q2a:qd1.ok Tryz.prog:=q0Q (by simp) fun ρ hg hp=>by simp [qn0,qd1]
theorem qst:qaM.ok Tryz.prog:=qrT (by simp [q0f,qm7,q2Y,q1j,qsi,qvP,q3w,q0E,q4N,q2a,qrt,q3O,q5B]) fun ρ hg hp=>by
 obtain ⟨hl,hlp,hGr,hGd⟩:=hp
 simp (config:={ maxSteps:=4000000 }) [qh7,qaM,qcM,qa3,qeI,qdy,qbc,qbV,qeK,qd4,qgu,qd1,qbE,qe8,qgt,qme,gOk,hGr,hGd]
 repeat' (first | with_reducible apply And.intro | with_reducible intro _)
 all_goals omega
end Go.Proofs
