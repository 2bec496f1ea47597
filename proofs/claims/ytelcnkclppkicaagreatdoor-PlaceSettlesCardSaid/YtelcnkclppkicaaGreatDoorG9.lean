/- Texts QG, QH, QJ, QK, QL, QO, QP, QS, QT, QU, QV, QW, QY, QZ, RB, RC. -/
import Derived.Test.YtelcnkclppkicaaGreatDoorG8
import Derived.Test.YtelcnkclppkicaaGreatDoorProg
import Derived.Test.YtelcnkclppkicaaGreatDoorG7
import Derived.Test.YtelcnkclppkicaaGreatDoorG5
set_option linter.unusedSimpArgs false
set_option linter.unusedVariables false
set_option maxRecDepth 100000
namespace Go.Proofs
open Go Go.Eng

def qqi:Out:=(.fresh 1 (.fresh 2 (.ret 0 (sg 1 [bg 1 2]))))
theorem qyG:qk ⟨Tryz.prog,qdJ,[],[]⟩ 100000 Tryz.f45 = qqi:=by kernel_rfl
theorem q1W (hd:∀ c ∈ ([]:List Ctr),c.ok Tryz.prog) (h:∀ ρ:Env,ρ.good->(qdJ).pre ρ->qqi.den ⟨Tryz.prog,qdJ,[],[]⟩ ρ):(qdJ).ok Tryz.prog :=
 qe Tryz.func45 (fun a w=>Tryz.call45 a w) hd 100000 (fun ρ hg hp=>by rw [qyG]; exact h ρ hg hp)
def qqe:Out:=(.br (.not (.and (.cmp .eql (.dlen (.var 3)) (.lit 0)) (.isnil 2)))
 (.need (.cmp .leq (.lit 0) (.var 6)) (.need (.cmp .lss (.lit 0) (.dlen (.var 3))) (.ret 0 (sg 10 [bt 10 (.cmp .geq (.var 6) (.icell (.var 3) (.lit 0) 0))]))))
 (.ret 0 (sg 10 [bt 10 (.bl false)])))
theorem qxd:qk ⟨Tryz.prog,qcb,[],[]⟩ 100000 Tryz.f47 = qqe:=by kernel_rfl
theorem q1L (hd:∀ c ∈ ([]:List Ctr),c.ok Tryz.prog) (h:∀ ρ:Env,ρ.good->(qcb).pre ρ->qqe.den ⟨Tryz.prog,qcb,[],[]⟩ ρ):(qcb).ok Tryz.prog :=
 qe Tryz.func47 (fun a w=>Tryz.call47 a w) hd 100000 (fun ρ hg hp=>by rw [qxd]; exact h ρ hg hp)
def qsn:Out:=(.fresh 10 (.need (.cmp .leq (.lit 0) (.var 6)) (.inv 0 11 (sg 1000 [bt 1003 .dnil,bt 1004 (.lit 0),bt 1002 (.lit 0),bt 1001 (.lit 0),bg 1000 10]) (.fresh 11 (.fresh 12 (.fresh 13 (.fresh 14 (.fresh 15 (.hyp 0 11 (.br (.cmp .lss (.var 15) (.var 6))
 (.need (.cmp .leq (.lit 0) (.var 15)) (.need (.cmp .lss (.var 15) (.dlen (.var 8))) (.fresh 16 (.fresh 17 (.need (.cmp .eql (.var 12) (.dlen (.var 14))) (.need (.cmp .leq (.tims (.lit 8) (.plus (.var 12) (.lit 1))) (.lit 140737488355328)) (.fresh 18 (.fresh 19 (.back 0 11 (sg 1000 [bt 1003 (.dapp (.var 14) (.rcons (.vint .i64 (.icell (.var 8) (.var 15) 0)) .rnil)),bt 1004 (.arith .add .i64 (.var 15) (.lit 1)),bv 1002 19,bt 1001 (.plus (.var 12) (.lit 1)),bg 1000 18]))))))))))
 (.ret 0 (sg 10 [bv 13 14,bv 12 13,bv 11 12,bg 10 11]))))))))))))
theorem qzB:qk ⟨Tryz.prog,qdb,[],[qxs]⟩ 100000 Tryz.f55 = qsn:=by kernel_rfl
theorem q5q (hd:∀ c ∈ ([]:List Ctr),c.ok Tryz.prog) (h:∀ ρ:Env,ρ.good->(qdb).pre ρ->qsn.den ⟨Tryz.prog,qdb,[],[qxs]⟩ ρ):(qdb).ok Tryz.prog :=
 qe Tryz.func55 (fun a w=>Tryz.call55 a w) hd 100000 (fun ρ hg hp=>by rw [qzB]; exact h ρ hg hp)
def qna:Out:=(.br (.and (.cmp .eql (.dlen (.var 3)) (.lit 0)) (.isnil 0))
 (.need (.cmp .eql (.var 1) (.lit 0)) (.ret 0 (sg 5 [bt 7 .dnil,bt 6 (.lit 0),(5,.nil)])))
 (.fresh 5 (.need (.cmp .leq (.lit 0) (.var 1)) (.need (.cmp .leq (.var 1) (.dlen (.var 3))) (.need (.cmp .leq (.tims (.lit 32) (.var 1)) (.lit 140737488355328)) (.fresh 6 (.fresh 7 (.ret 0 (sg 5 [bt 7 (.dtake (.var 3) (.var 1)),bv 6 7,bg 5 6])))))))))
theorem qvy:qk ⟨Tryz.prog,qdt,[],[]⟩ 100000 Tryz.f90 = qna:=by kernel_rfl
theorem qzF (hd:∀ c ∈ ([]:List Ctr),c.ok Tryz.prog) (h:∀ ρ:Env,ρ.good->(qdt).pre ρ->qna.den ⟨Tryz.prog,qdt,[],[]⟩ ρ):(qdt).ok Tryz.prog :=
 qe Tryz.func90 (fun a w=>Tryz.call90 a w) hd 100000 (fun ρ hg hp=>by rw [qvy]; exact h ρ hg hp)
@[simp] def qia:Sg:=sg 0 [bg 9 9,bv 8 8,bv 4 4,bv 3 3,bv 7 7,bv 6 6,bg 5 5,bg 2 2,bt 1 (r8 1),bg 0 0]
@[simp] def qq7:Sg:=sg 0 [bv 11 27,bv 9 19,bv 8 18,bv 7 17,bv 6 16,bg 5 15,bv 3 13,bv 2 12,bv 1 11,bv 0 10,bt 4 (r8 14),bg 10 26]
@[simp] def qra:Sg:=sg 0 [bv 17 27,bv 15 25,bv 14 24,bv 9 19,bv 8 18,bv 13 23,bv 12 22,bg 11 21,bv 10 20,bv 7 17,bv 6 16,bg 5 15,bv 3 13,bv 2 12,bv 1 11,bv 0 10,bt 4 (r8 14),bg 16 26]
def qpi:Out:=(.fresh 28 (.fresh 29 (.pre 0 qq7 (.both (.fresh 30 (.fresh 31 (.post 0 0 qq7 30 (.fresh 32 (.br (.cmp .neq (.var 31) (.lit 0))
 (.pack [.cells 32 24 [(x8 0 30),(x8 1 30),(x8 2 30),(x8 3 30),(x8 4 30),(x8 5 30),(x8 6 30),(x8 7 30),(x8 8 30),(x8 9 30),(x8 10 30),(x8 11 30),(x8 12 30),(x8 13 30),(x8 14 30),(x8 15 30),(x8 16 30),(x8 17 30),(x8 18 30),(x8 19 30),(x8 20 30),(x8 21 30),(x8 22 30),(x8 23 30),(x8 24 30),(x8 25 30),(x8 26 30),(x8 27 30),(x8 28 30),(x8 29 30),(x8 30 30),(x8 31 30)],.cells 29 86 [(.vint .i64 (.var 20)),(.vslice 21 (.lit 0) (.var 22) (.var 23) 1)],.cells 28 27 [(.vint .i64 (.var 10)),(.vint .i64 (.var 11)),(.vint .i64 (.var 12)),(.vint .i64 (.var 13)),(x8 0 14),(x8 1 14),(x8 2 14),(x8 3 14),(x8 4 14),(x8 5 14),(x8 6 14),(x8 7 14),(x8 8 14),(x8 9 14),(x8 10 14),(x8 11 14),(x8 12 14),(x8 13 14),(x8 14 14),(x8 15 14),(x8 16 14),(x8 17 14),(x8 18 14),(x8 19 14),(x8 20 14),(x8 21 14),(x8 22 14),(x8 23 14),(x8 24 14),(x8 25 14),(x8 26 14),(x8 27 14),(x8 28 14),(x8 29 14),(x8 30 14),(x8 31 14),(.vslice 15 (.lit 0) (.var 16) (.var 17) 32)],.abs 9 20] 33 (.ret 0 (sg 28 [bg 35 33,bv 34 8,bv 30 4,bv 29 3,bv 33 7,bv 32 6,bg 31 5,bg 28 2,bv 36 31])))
 (.br (.not (.c2 .req (r8 30) (r8 1)))
 (.pack [.cells 32 24 [(x8 0 30),(x8 1 30),(x8 2 30),(x8 3 30),(x8 4 30),(x8 5 30),(x8 6 30),(x8 7 30),(x8 8 30),(x8 9 30),(x8 10 30),(x8 11 30),(x8 12 30),(x8 13 30),(x8 14 30),(x8 15 30),(x8 16 30),(x8 17 30),(x8 18 30),(x8 19 30),(x8 20 30),(x8 21 30),(x8 22 30),(x8 23 30),(x8 24 30),(x8 25 30),(x8 26 30),(x8 27 30),(x8 28 30),(x8 29 30),(x8 30 30),(x8 31 30)],.cells 29 86 [(.vint .i64 (.var 20)),(.vslice 21 (.lit 0) (.var 22) (.var 23) 1)],.cells 28 27 [(.vint .i64 (.var 10)),(.vint .i64 (.var 11)),(.vint .i64 (.var 12)),(.vint .i64 (.var 13)),(x8 0 14),(x8 1 14),(x8 2 14),(x8 3 14),(x8 4 14),(x8 5 14),(x8 6 14),(x8 7 14),(x8 8 14),(x8 9 14),(x8 10 14),(x8 11 14),(x8 12 14),(x8 13 14),(x8 14 14),(x8 15 14),(x8 16 14),(x8 17 14),(x8 18 14),(x8 19 14),(x8 20 14),(x8 21 14),(x8 22 14),(x8 23 14),(x8 24 14),(x8 25 14),(x8 26 14),(x8 27 14),(x8 28 14),(x8 29 14),(x8 30 14),(x8 31 14),(.vslice 15 (.lit 0) (.var 16) (.var 17) 32)],.abs 9 20] 33 (.ret 0 (sg 28 [bg 35 33,bv 34 8,bv 30 4,bv 29 3,bv 33 7,bv 32 6,bg 31 5,bg 28 2,bt 36 (.lit 20)])))
 (.pre 1 qra (.both (.fresh 33 (.post 1 0 qra 33 (.br (.cmp .neq (.var 33) (.lit 0))
 (.pack [.cells 32 24 [(x8 0 30),(x8 1 30),(x8 2 30),(x8 3 30),(x8 4 30),(x8 5 30),(x8 6 30),(x8 7 30),(x8 8 30),(x8 9 30),(x8 10 30),(x8 11 30),(x8 12 30),(x8 13 30),(x8 14 30),(x8 15 30),(x8 16 30),(x8 17 30),(x8 18 30),(x8 19 30),(x8 20 30),(x8 21 30),(x8 22 30),(x8 23 30),(x8 24 30),(x8 25 30),(x8 26 30),(x8 27 30),(x8 28 30),(x8 29 30),(x8 30 30),(x8 31 30)],.cells 29 86 [(.vint .i64 (.var 20)),(.vslice 21 (.lit 0) (.var 22) (.var 23) 1)],.cells 28 27 [(.vint .i64 (.var 10)),(.vint .i64 (.var 11)),(.vint .i64 (.var 12)),(.vint .i64 (.var 13)),(x8 0 14),(x8 1 14),(x8 2 14),(x8 3 14),(x8 4 14),(x8 5 14),(x8 6 14),(x8 7 14),(x8 8 14),(x8 9 14),(x8 10 14),(x8 11 14),(x8 12 14),(x8 13 14),(x8 14 14),(x8 15 14),(x8 16 14),(x8 17 14),(x8 18 14),(x8 19 14),(x8 20 14),(x8 21 14),(x8 22 14),(x8 23 14),(x8 24 14),(x8 25 14),(x8 26 14),(x8 27 14),(x8 28 14),(x8 29 14),(x8 30 14),(x8 31 14),(.vslice 15 (.lit 0) (.var 16) (.var 17) 32)],.abs 9 20] 34 (.ret 0 (sg 28 [bg 35 34,bv 34 8,bv 30 4,bv 29 3,bv 33 7,bv 32 6,bg 31 5,bg 28 2,bv 36 33])))
 (.both (.pre 2 qia (.both (.fresh 34 (.fresh 35 (.fresh 36 (.fresh 37 (.post 2 0 qia 34 (.both (.pre 3 (sg 0 [bv 4 36,bv 3 37,bv 5 20,bv 2 36,bv 1 35,bg 0 34]) (.both (.fresh 38 (.post 3 0 (sg 0 [bv 4 36,bv 3 37,bv 5 20,bv 2 36,bv 1 35,bg 0 34]) 38 (.br (.var 38)
 (.pack [.arr 34 3 [CK.int .i64] (.var 37) (.var 36),.cells 32 24 [(x8 0 30),(x8 1 30),(x8 2 30),(x8 3 30),(x8 4 30),(x8 5 30),(x8 6 30),(x8 7 30),(x8 8 30),(x8 9 30),(x8 10 30),(x8 11 30),(x8 12 30),(x8 13 30),(x8 14 30),(x8 15 30),(x8 16 30),(x8 17 30),(x8 18 30),(x8 19 30),(x8 20 30),(x8 21 30),(x8 22 30),(x8 23 30),(x8 24 30),(x8 25 30),(x8 26 30),(x8 27 30),(x8 28 30),(x8 29 30),(x8 30 30),(x8 31 30)],.cells 29 86 [(.vint .i64 (.var 20)),(.vslice 21 (.lit 0) (.var 22) (.var 23) 1)],.cells 28 27 [(.vint .i64 (.var 10)),(.vint .i64 (.var 11)),(.vint .i64 (.var 12)),(.vint .i64 (.var 13)),(x8 0 14),(x8 1 14),(x8 2 14),(x8 3 14),(x8 4 14),(x8 5 14),(x8 6 14),(x8 7 14),(x8 8 14),(x8 9 14),(x8 10 14),(x8 11 14),(x8 12 14),(x8 13 14),(x8 14 14),(x8 15 14),(x8 16 14),(x8 17 14),(x8 18 14),(x8 19 14),(x8 20 14),(x8 21 14),(x8 22 14),(x8 23 14),(x8 24 14),(x8 25 14),(x8 26 14),(x8 27 14),(x8 28 14),(x8 29 14),(x8 30 14),(x8 31 14),(.vslice 15 (.lit 0) (.var 16) (.var 17) 32)],.abs 9 20] 39 (.ret 0 (sg 28 [bg 35 39,bv 34 8,bv 30 4,bv 29 3,bv 33 7,bv 32 6,bg 31 5,bg 28 2,bt 36 (.lit 7)])))
 (.pre 4 qia (.both (.fresh 39 (.post 4 0 qia 39 (.br (.var 39)
 (.pack [.arr 34 3 [CK.int .i64] (.var 37) (.var 36),.cells 32 24 [(x8 0 30),(x8 1 30),(x8 2 30),(x8 3 30),(x8 4 30),(x8 5 30),(x8 6 30),(x8 7 30),(x8 8 30),(x8 9 30),(x8 10 30),(x8 11 30),(x8 12 30),(x8 13 30),(x8 14 30),(x8 15 30),(x8 16 30),(x8 17 30),(x8 18 30),(x8 19 30),(x8 20 30),(x8 21 30),(x8 22 30),(x8 23 30),(x8 24 30),(x8 25 30),(x8 26 30),(x8 27 30),(x8 28 30),(x8 29 30),(x8 30 30),(x8 31 30)],.cells 29 86 [(.vint .i64 (.var 20)),(.vslice 21 (.lit 0) (.var 22) (.var 23) 1)],.cells 28 27 [(.vint .i64 (.var 10)),(.vint .i64 (.var 11)),(.vint .i64 (.var 12)),(.vint .i64 (.var 13)),(x8 0 14),(x8 1 14),(x8 2 14),(x8 3 14),(x8 4 14),(x8 5 14),(x8 6 14),(x8 7 14),(x8 8 14),(x8 9 14),(x8 10 14),(x8 11 14),(x8 12 14),(x8 13 14),(x8 14 14),(x8 15 14),(x8 16 14),(x8 17 14),(x8 18 14),(x8 19 14),(x8 20 14),(x8 21 14),(x8 22 14),(x8 23 14),(x8 24 14),(x8 25 14),(x8 26 14),(x8 27 14),(x8 28 14),(x8 29 14),(x8 30 14),(x8 31 14),(.vslice 15 (.lit 0) (.var 16) (.var 17) 32)],.abs 9 20] 40 (.ret 0 (sg 28 [bg 35 40,bv 34 8,bv 30 4,bv 29 3,bv 33 7,bv 32 6,bg 31 5,bg 28 2,bt 36 (.lit 8)])))
 (.pre 5 (sg 0 [bv 4 19,bv 3 18,bv 2 17,bv 1 16,bg 0 15]) (.both (.fresh 40 (.fresh 41 (.fresh 42 (.post 5 0 (sg 0 [bv 4 19,bv 3 18,bv 2 17,bv 1 16,bg 0 15]) 40 (.both (.pre 6 (sg 0 [bv 4 25,bv 3 24,bv 2 23,bv 1 22,bg 0 21]) (.both (.fresh 43 (.fresh 44 (.fresh 45 (.post 6 0 (sg 0 [bv 4 25,bv 3 24,bv 2 23,bv 1 22,bg 0 21]) 43 (.both (.both (.fresh 46 (.both (.need (.cmp .eql (.var 6) (.dlen (.var 8))) (.need (.cmp .leq (.tims (.lit 32) (.plus (.var 6) (.lit 1))) (.lit 140737488355328)) (.fresh 47 (.fresh 48 (.both (.both (.both (.pack [.cells 46 86 [(.vint .i64 (.var 20)),(.vslice 43 (.lit 0) (.var 22) (.var 44) 1)],.arr 43 5 [CK.int .u8] (.var 45) (.var 44),.arr 40 24 [CK.int .u8,CK.int .u8,CK.int .u8,CK.int .u8,CK.int .u8,CK.int .u8,CK.int .u8,CK.int .u8,CK.int .u8,CK.int .u8,CK.int .u8,CK.int .u8,CK.int .u8,CK.int .u8,CK.int .u8,CK.int .u8,CK.int .u8,CK.int .u8,CK.int .u8,CK.int .u8,CK.int .u8,CK.int .u8,CK.int .u8,CK.int .u8,CK.int .u8,CK.int .u8,CK.int .u8,CK.int .u8,CK.int .u8,CK.int .u8,CK.int .u8,CK.int .u8] (.var 42) (.var 41),.arr 34 3 [CK.int .i64] (.var 37) (.var 36),.cells 32 24 [(x8 0 30),(x8 1 30),(x8 2 30),(x8 3 30),(x8 4 30),(x8 5 30),(x8 6 30),(x8 7 30),(x8 8 30),(x8 9 30),(x8 10 30),(x8 11 30),(x8 12 30),(x8 13 30),(x8 14 30),(x8 15 30),(x8 16 30),(x8 17 30),(x8 18 30),(x8 19 30),(x8 20 30),(x8 21 30),(x8 22 30),(x8 23 30),(x8 24 30),(x8 25 30),(x8 26 30),(x8 27 30),(x8 28 30),(x8 29 30),(x8 30 30),(x8 31 30)],.cells 29 86 [(.vint .i64 (.var 20)),(.vslice 21 (.lit 0) (.var 22) (.var 23) 1)],.arr 2 27 [CK.int .i64,CK.int .i64,CK.int .i64,CK.int .i64,CK.int .u8,CK.int .u8,CK.int .u8,CK.int .u8,CK.int .u8,CK.int .u8,CK.int .u8,CK.int .u8,CK.int .u8,CK.int .u8,CK.int .u8,CK.int .u8,CK.int .u8,CK.int .u8,CK.int .u8,CK.int .u8,CK.int .u8,CK.int .u8,CK.int .u8,CK.int .u8,CK.int .u8,CK.int .u8,CK.int .u8,CK.int .u8,CK.int .u8,CK.int .u8,CK.int .u8,CK.int .u8,CK.int .u8,CK.int .u8,CK.int .u8,CK.int .u8,CK.any] (.var 3) (.var 4),.abs 9 20] 49 (.ret 0 (sg 28 [bg 35 49,bt 34 (.dapp (.var 8) (.rcons (.vint .i64 (.var 20)) (.rcons (.vslice 43 (.lit 0) (.var 22) (.var 44) 1) .rnil))),bt 30 (.lit 1),bt 29 (.rcons (.vint .i64 (.var 10)) (.rcons (.vint .i64 (.var 11)) (.rcons (.vint .i64 (.var 12)) (.rcons (.vint .i64 (.var 13)) (.rcons (x8 0 14) (.rcons (x8 1 14) (.rcons (x8 2 14) (.rcons (x8 3 14) (.rcons (x8 4 14) (.rcons (x8 5 14) (.rcons (x8 6 14) (.rcons (x8 7 14) (.rcons (x8 8 14) (.rcons (x8 9 14) (.rcons (x8 10 14) (.rcons (x8 11 14) (.rcons (x8 12 14) (.rcons (x8 13 14) (.rcons (x8 14 14) (.rcons (x8 15 14) (.rcons (x8 16 14) (.rcons (x8 17 14) (.rcons (x8 18 14) (.rcons (x8 19 14) (.rcons (x8 20 14) (.rcons (x8 21 14) (.rcons (x8 22 14) (.rcons (x8 23 14) (.rcons (x8 24 14) (.rcons (x8 25 14) (.rcons (x8 26 14) (.rcons (x8 27 14) (.rcons (x8 28 14) (.rcons (x8 29 14) (.rcons (x8 30 14) (.rcons (x8 31 14) (.rcons (.vslice 40 (.lit 0) (.var 16) (.var 41) 32) .rnil))))))))))))))))))))))))))))))))))))),bv 33 48,bt 32 (.plus (.var 6) (.lit 1)),bg 31 47,bg 28 28,bt 36 (.lit 0)]))) .top) .top) .top))))) .top)) .top) .top))))) .top)) .top))))) .top))))) .top))))) .top)) .top)))))) .top)) .top)))) .top)))))))) .top))))
theorem qy5:qk ⟨Tryz.prog,qdM,[idC,qdy,qdb,qaI,qcb,qdt,qbH],[]⟩ 100000 Tryz.f48 = qpi:=by kernel_rfl
theorem q2F (hd:∀ c ∈ ([idC,qdy,qdb,qaI,qcb,qdt,qbH]:List Ctr),c.ok Tryz.prog) (h:∀ ρ:Env,ρ.good->(qdM).pre ρ->qpi.den ⟨Tryz.prog,qdM,[idC,qdy,qdb,qaI,qcb,qdt,qbH],[]⟩ ρ):(qdM).ok Tryz.prog :=
 qe Tryz.func48 (fun a w=>Tryz.call48 a w) hd 100000 (fun ρ hg hp=>by rw [qy5]; exact h ρ hg hp)
end Go.Proofs

set_option linter.unusedSimpArgs false
set_option linter.unusedVariables false
namespace Go.Proofs
open Go Go.Eng
set_option maxRecDepth 20000
theorem q2o:qdJ.ok Tryz.prog:=q1W (by simp) fun ρ hg hp=>by
 simp (config:={ maxSteps:=4000000 }) [qqi,qdJ]
theorem qz0:qdt.ok Tryz.prog:=qzF (by simp) fun ρ hg hp=>by
 obtain ⟨h0,hl,h1⟩:=hp
 simp (config:={ maxSteps:=4000000 }) [qna,qdt,hl]
 exact ⟨fun h _=>h,fun _=>by omega⟩
section
variable {h:Hp} {r:Option Addr} {d P:qd} {c n:Int} {M M':Option ManV} {L L':PcL}
theorem q3c (h1:qou h P L) (h2:qou h P L'):L = L':=by
 refine List.ext_getElem? fun j=>?_
 by_cases hj:j < P.length
 ·have e:=(h1.2.2 j hj).symm.trans (h2.2.2 j hj)
  rw [List.getD_eq_getElem?_getD,List.getD_eq_getElem?_getD,List.getElem?_eq_getElem (by have:=h1.1; omega),List.getElem?_eq_getElem (by have:=h2.1; omega)] at e
  rw [List.getElem?_eq_getElem (by have:=h1.1; omega),List.getElem?_eq_getElem (by have:=h2.1; omega)]
  exact congrArg some e
 ·rw [List.getElem?_eq_none (by have:=h1.1; omega),List.getElem?_eq_none (by have:=h2.1; omega)]
theorem q3f {m m':ManV} (h1:qhz h d m) (h2:qhz h d m'):m = m':=by
 obtain ⟨row,D,e,hf,hr,hD,a1,a2,a3,a4,a5,a6,_,_⟩:=h1
 obtain ⟨row',D',e',hf',hr',hD',b1,b2,b3,b4,b5,b6,_,_⟩:=h2
 rw [e] at e'
 simp only [List.cons.injEq,and_true] at e'
 subst e'
 obtain rfl:=qqM hr hr'
 obtain ⟨k,n,t,s,o,D1⟩:=m
 obtain ⟨k',n',t',s',o',D1'⟩:=m'
 simp only at a1 a2 a3 a4 a5 a6 b1 b2 b3 b4 b5 b6
 simp only [ManV.mk.injEq]
 exact ⟨by rw [<- a2,<- b2],by rw [<- a3,<- b3],by rw [<- a4,<- b4],by rw [<- a5,<- b5],by rw [<- a6,<- b6],by rw [<- a1,<- b1]⟩
theorem qqr (h1:qbM h r d c n P M L) (h2:qbM h r d c n P M' L'):M' = M/\L' = L:=by
 obtain ⟨_,p1,_,_,q1⟩:=h1
 obtain ⟨_,p2,_,_,q2⟩:=h2
 refine ⟨?_,(q3c p1 p2).symm⟩
 rcases q1 with ⟨rfl,_,c0,_⟩ | ⟨m,rfl,c1,hm,_⟩ <;> rcases q2 with ⟨rfl,_,c0',_⟩ | ⟨m',rfl,c1',hm',_⟩
 ·rfl
 ·omega
 ·omega
 ·rw [q3f hm hm']
theorem q5R (h1:qbM h r d c n P M L):qgG P P.length = L.map Prod.fst:=by
 obtain ⟨_,p1,_⟩:=h1
 refine List.ext_getElem? fun j=>?_
 by_cases hj:j < P.length
 ·have e:=congrArg Prod.fst (p1.2.2 j hj)
  rw [List.getD_eq_getElem?_getD,List.getElem?_eq_getElem (by have:=p1.1; omega)] at e
  rw [qgG,List.getElem?_map,List.getElem?_range hj,List.getElem?_map,List.getElem?_eq_getElem (by have:=p1.1; omega)]
  exact congrArg some e
 ·rw [List.getElem?_eq_none (by simp [qgG]; omega),List.getElem?_eq_none (by rw [List.length_map]; have:=p1.1; omega)]
theorem q2h {i:Nat}:qgG P (i + 1) = qgG P i ++ [pcI P i]:=by
 unfold qgG
 rw [List.range_succ,List.map_append]; rfl
end
theorem qup:qcb.ok Tryz.prog:=q1L (by simp) fun ρ hg hp=>by
 obtain ⟨M,L,h⟩:=hp
 simp (config:={ maxSteps:=4000000 }) [qqe,qcb,gaB]
 have h0:qbM (ρ 9).h (ρ 2).r (ρ 3).d (ρ 4).i (ρ 6).i (ρ 8).d M L:=h
 obtain ⟨hn,hp,_,_,hc⟩:=h
 rcases hc with ⟨rfl,hr,c0,hd,hL⟩ | ⟨m,rfl,c1,hm,hL⟩
 ·refine ⟨fun hcon=>?_,fun _ _ M' L' h'=>?_⟩
  ·rw [hd,hr] at hcon; simp at hcon
  ·obtain ⟨rfl,rfl⟩:=qqr h0 h'; rfl
 ·obtain ⟨row,D,e,hf,hrd,hD,a1,a2,_⟩:=hm
  have e:(ρ 3).d = [row]:=e
  refine ⟨fun _=>⟨by have hn':(ρ 6).i = ((ρ 8).d.length:Int):=hn; omega,by rw [e]; exact Nat.one_pos,fun M' L' h'=>?_⟩,fun hd _=>by rw [e] at hd; cases hd⟩
  obtain ⟨rfl,rfl⟩:=qqr h0 h'
  have hk:qh (ρ 3).d 0 0 = m.k:=by rw [<- a2,e]; rfl
  have hn':(ρ 6).i = ((ρ 8).d.length:Int):=hn
  have hp1:(ρ 8).d.length = L'.length:=hp.1
  rw [hk,hn',hp1]; rfl
theorem qwD:qdb.ok Tryz.prog:=q5q (by simp) fun ρ hg hp=>by
 obtain ⟨M,L,h⟩:=hp
 have h0:qbM (ρ 9).h (ρ 2).r (ρ 3).d (ρ 4).i (ρ 6).i (ρ 8).d M L:=h
 obtain ⟨hn,hp,_,h255,hc⟩:=h
 have hpl:=hp.1
 simp (config:={ maxSteps:=4000000 }) [qsn,qdb,qxs,qH,gaB]
 have hn:(ρ 6).i = ((ρ 8).d.length:Int):=hn
 have hpl:(ρ 8).d.length = L.length:=hpl
 refine ⟨by omega,⟨by omega,rfl⟩,fun a _ D _ i _ i0 i1 ha hD hr=>⟨fun hi=>?_,fun hi M' L' h'=>?_⟩⟩
 ·have hDl:D.d.length = i.i.toNat:=by
   have:=congrArg List.length hD
   rw [qaV] at this
   simpa [qgG] using this
  have hnx:(qc .add .i64 i.i 1).toNat = i.i.toNat + 1:=by rw [qdh i0 (by omega)]; omega
  refine ⟨i0,by omega,ha,by omega,⟨by rw [qdh i0 (by omega)]; omega,by rw [qdh i0 (by omega)]; omega,ha,?_,fun row h=>qqz h hr⟩,by rw [qdh i0 (by omega)]; omega⟩
  rw [hnx,q2h,qic,hD]
  unfold pcI
  rw [Int.toNat_of_nonneg i0]
 ·obtain ⟨rfl,rfl⟩:=qqr h0 h'
  refine ⟨ha,?_,hr⟩
  rw [hD,<- q5R h0,show i.i.toNat = (ρ 8).d.length by omega]
section
variable {h h':Hp} {r:Option Addr} {d P:qd} {c n e i:Int} {M:Option ManV} {L:PcL} {o b:List Int} {m:ManV}
theorem q2P (h1:qou h P L) (hl:Hp.le h h'):qou h' P L:=by
 refine ⟨h1.1,fun j hj=>?_,fun j hj=>?_⟩
 ·obtain ⟨i,v,d,e1,e2,e3⟩:=h1.2.1 j hj
  exact ⟨i,v,d,e1,qiD e2 hl,e3⟩
 ·rw [<- h1.2.2 j hj]
  obtain ⟨i,v,d,e1,e2,e3⟩:=h1.2.1 j hj
  have hv:qal P j 1 = v:=by simp only [qal,Int.toNat_natCast,e1,Option.getD_some]; rfl
  unfold pcD
  rw [hv,qjb e2,qjb (qiD e2 hl)]
theorem q3s (h1:qhz h d m) (hl:Hp.le h h'):qhz h' d m:=by
 obtain ⟨row,D,e,hf,hr,hx⟩:=h1
 exact ⟨row,D,e,hf,qiD hr hl,hx⟩
theorem qpz (h1:qbM h r d c n P M L) (hl:Hp.le h h'):qbM h' r d c n P M L:=by
 obtain ⟨a1,a2,a3,a4,a5⟩:=h1
 refine ⟨a1,q2P a2 hl,a3,a4,?_⟩
 rcases a5 with a5 | ⟨m,b1,b3,b4,b5⟩
 ·exact .inl a5
 ·exact .inr ⟨m,b1,b3,q3s b4 hl,b5⟩
theorem q61 (h1:qbM h r d c n P M L) (hl:Hp.le h h') (hne:¬ e = 0):qbM h' r d c n P (if e = 0 then some m else M) (if e = 0 then L ++ [(i,b)] else L):=by
 rw [if_neg hne,if_neg hne]; exact qpz h1 hl
section
variable {k n' t s l u:Int} {O R S z:List Int} {D J:qd} {x y:Bool}
theorem qiF (hl:l = (D.length:Int)):ManV.ok ⟨k,n',t,s,O,dgs D⟩ = qG k n' t s l:=by
 unfold ManV.ok
 rw [hl]; simp [dgs]
theorem q7a (hl:l = (D.length:Int)) (hid:(qG k n' t s l = false/\e = 2/\R = z)∨(qG k n' t s l = true/\e = 0/\R = S)) (hne:¬ e = 0):e = qfC o M L ⟨k,n',t,s,O,dgs D⟩ i b:=by
 rcases hid with ⟨h1,h2,_⟩ | ⟨_,h2,_⟩
 ·unfold qfC; rw [qiF hl,if_pos h1,h2]
 ·exact absurd h2 hne
theorem qoa (hid:(qG k n' t s l = false/\e = 2/\R = z)∨(qG k n' t s l = true/\e = 0/\R = S)) (he:e = 0):qG k n' t s l = true/\R = S:=by
 rcases hid with ⟨_,h2,_⟩ | ⟨h1,_,h3⟩
 ·omega
 ·exact ⟨h1,h3⟩
theorem q5T (hl:l = (D.length:Int)) (hid:(qG k n' t s l = false/\e = 2/\R = z)∨(qG k n' t s l = true/\e = 0/\R = sha (qaE k n' t s O ++ (dgs D).flatten))) (he:e = 0) (hR:¬ R = o):20 = qfC o M L ⟨k,n',t,s,O,dgs D⟩ i b:=by
 obtain ⟨h1,h2⟩:=qoa hid he
 unfold qfC
 rw [qiF hl,if_neg (by rw [h1]; simp),if_pos (by show sha (qaE k n' t s O ++ (dgs D).flatten) ≠ o; rw [<- h2]; exact hR)]
theorem q6Y (hl:l = (D.length:Int)) (hid:(qG k n' t s l = false/\e = 2/\R = z)∨(qG k n' t s l = true/\e = 0/\R = sha (qaE k n' t s O ++ (dgs D).flatten))) (he:e = 0) (hR:R = o) (hc:u = qcg k n' t s l (dgs D) i b) (hne:¬ u = 0):u = qfC o M L ⟨k,n',t,s,O,dgs D⟩ i b:=by
 obtain ⟨h1,h2⟩:=qoa hid he
 have hl':(((dgs D).length:Nat):Int) = l:=by rw [hl]; simp [dgs]
 unfold qfC
 simp only [hl']
 rw [qiF hl,if_neg (by rw [h1]; simp),if_neg (fun h=>h (by rw [<- hR,h2]; rfl)),if_pos (by rw [<- hc]; exact hne),hc]
theorem qsx (hl:l = (D.length:Int)) (hid:(qG k n' t s l = false/\e = 2/\R = z)∨(qG k n' t s l = true/\e = 0/\R = sha (qaE k n' t s O ++ (dgs D).flatten))) (he:e = 0) (hR:R = o) (hc:u = qcg k n' t s l (dgs D) i b) (hu:u = 0):qfC o M L ⟨k,n',t,s,O,dgs D⟩ i b = if i ∈ L.map Prod.fst then 7 else if qg4 M L then 8 else 0:=by
 obtain ⟨h1,h2⟩:=qoa hid he
 have hl':(((dgs D).length:Nat):Int) = l:=by rw [hl]; simp [dgs]
 unfold qfC
 simp only [hl']
 rw [qiF hl,if_neg (by rw [h1]; simp),if_neg (fun h=>h (by rw [<- hR,h2]; rfl)),if_neg (by rw [<- hc,hu]; simp)]
theorem qmZ (hq:∀ (M:Option ManV) (L:PcL),qbM h r d c n P M L->u = (J.length:Int)/\ql J = L.map Prod.fst/\∀ row,row ∈ J->row.length = 1) (h1:qbM h r d c n P M L):u = (J.length:Int)/\u <= 1000/\ql J = L.map Prod.fst/\∀ row,row ∈ J->row.length = 1:=by
 obtain ⟨a,b,e⟩:=hq M L h1
 refine ⟨a,?_,b,e⟩
 have h2:=congrArg List.length b
 rw [qaV,List.length_map] at h2
 have:=h1.2.2.2.1
 omega
theorem q6S (hl:l = (D.length:Int)) (hid:(qG k n' t s l = false/\e = 2/\R = z)∨(qG k n' t s l = true/\e = 0/\R = sha (qaE k n' t s O ++ (dgs D).flatten))) (he:e = 0) (hR:R = o) (hc:u = qcg k n' t s l (dgs D) i b) (hu:u = 0) {u':Int}
  (hq:∀ (M:Option ManV) (L:PcL),qbM h r d c n P M L->u' = (J.length:Int)/\ql J = L.map Prod.fst/\∀ row,row ∈ J->row.length = 1) (h1:qbM h r d c n P M L) (hx:x = decide (i ∈ ql J)) (ht:x = true):7 = qfC o M L ⟨k,n',t,s,O,dgs D⟩ i b:=by
 rw [qsx hl hid he hR hc hu,if_pos]
 rw [<- (hq M L h1).2.1]; exact q7c hx ht
theorem q7f (hl:l = (D.length:Int)) (hid:(qG k n' t s l = false/\e = 2/\R = z)∨(qG k n' t s l = true/\e = 0/\R = sha (qaE k n' t s O ++ (dgs D).flatten))) (he:e = 0) (hR:R = o) (hc:u = qcg k n' t s l (dgs D) i b) (hu:u = 0) {u':Int}
  (hq:∀ (M:Option ManV) (L:PcL),qbM h r d c n P M L->u' = (J.length:Int)/\ql J = L.map Prod.fst/\∀ row,row ∈ J->row.length = 1) (h1:qbM h r d c n P M L) (hx:x = decide (i ∈ ql J)) (ht:x = false) (hr:∀ (M:Option ManV) (L:PcL),qbM h r d c n P M L->y = qg4 M L):qfC o M L ⟨k,n',t,s,O,dgs D⟩ i b = if y then 8 else 0:=by
 rw [qsx hl hid he hR hc hu,if_neg,<- hr M L h1]
 rw [<- (hq M L h1).2.1]; exact qxz hx ht
theorem q4V {v:Value} (hv:v.oneCell' = true) (hRd:Rd h k32 v D) (hD:qfp D) (hO:qR (qf J 32)) (hok:qG k n' t s l = true) (hl:l = (D.length:Int)) :
  qhz h [[Value.int .i64 k,Value.int .i64 n',Value.int .i64 t,Value.int .i64 s] ++ ((qf J 32).map (Value.int .u8) ++ [v])] ⟨k,n',t,s,qf J 32,dgs D⟩:=by
 refine ⟨_,D,rfl,⟨by simp [qu7,qf],fun c kk w hk hw=>?_⟩,hRd,hD,rfl,rfl,rfl,rfl,rfl,rfl,hO,by rw [qiF hl]; exact hok⟩
 unfold qu7 at hk
 rcases Nat.lt_or_ge c 4 with h4 | h4
 ·rw [List.getElem?_append_left (by simpa using h4),List.getElem?_replicate,if_pos h4] at hk
  rw [List.getElem?_append_left (by simpa using h4)] at hw
  obtain rfl:=(Option.some.inj hk).symm
  match c,h4 with
  | 0,_=>obtain rfl:=(Option.some.inj hw).symm; rfl
  | 1,_=>obtain rfl:=(Option.some.inj hw).symm; rfl
  | 2,_=>obtain rfl:=(Option.some.inj hw).symm; rfl
  | 3,_=>obtain rfl:=(Option.some.inj hw).symm; rfl
 ·rw [List.getElem?_append_right (by simpa using h4)] at hk
  rw [List.getElem?_append_right (by simpa using h4)] at hw
  simp only [List.length_replicate,List.length_cons,List.length_nil] at hk hw
  rcases Nat.lt_or_ge (c - 4) 32 with h5 | h5
  ·rw [List.getElem?_append_left (by simpa using h5),List.getElem?_replicate,if_pos h5] at hk
   rw [List.getElem?_append_left (by simp [qf]; omega),List.getElem?_map] at hw
   obtain rfl:=(Option.some.inj hk).symm
   obtain ⟨q,_,rfl⟩:=Option.map_eq_some_iff.1 hw
   rfl
  ·rw [List.getElem?_append_right (by simpa using h5)] at hk
   rw [List.getElem?_append_right (by simp [qf]; omega)] at hw
   simp only [List.length_replicate,List.length_map] at hk hw
   rw [show (qf J 32).length = 32 by simp [qf]] at hw
   match hc:c - 4 - 32,hk with
   | 0,hk =>
    rw [hc] at hw
    obtain rfl:=(Option.some.inj hk).symm
    obtain rfl:=(Option.some.inj hw).symm
    unfold CK.fits; exact hv
   | q + 1,hk=>simp at hk
theorem q5F {v:Value} {B d':qd} {r':Option Addr} {m:ManV} (h1:qbM h r d c n P M L) (hl:Hp.le h h') (hRd:Rd h' kB v B) (hB:q9 B) (hb9:(B.length:Int) <= 9000) (hm:qhz h' d' m) (hy:qg4 M L = false):qbM h' r' d' 1 (n + 1) (P ++ [[.int .i64 i,v]]) (some m) (L ++ [(i,bI B)]):=by
 have h2:=qpz h1 hl
 obtain ⟨a1,a2,a3,a4,a5⟩:=h2
 have hlen:L.length < 255:=by
  rcases a5 with ⟨_,_,_,_,rfl⟩ | ⟨m0,rfl,_,hm0,_⟩
  ·decide
  ·obtain ⟨_,_,_,_,_,_,_,_,_,_,_,_,_,hok⟩:=hm0
   unfold qg4 at hy
   have hk:=of_decide_eq_false hy
   have hk2:m0.k <= 255:=by
    unfold ManV.ok qG qbf at hok
    simp at hok
    omega
   omega
 have hPl:=a2.1
 refine ⟨by rw [List.length_append,List.length_singleton]; omega,⟨by rw [List.length_append,List.length_append,hPl]; rfl,fun j hj=>?_,fun j hj=>?_⟩,fun x hx=>?_,by rw [List.length_append,List.length_singleton]; omega,.inr ⟨m,rfl,rfl,hm,by simp⟩⟩
 ·rw [List.length_append,List.length_singleton] at hj
  rcases Nat.lt_or_ge j P.length with hjP | hjP
  ·obtain ⟨i0,v0,d0,e1,e2⟩:=a2.2.1 j hjP
   exact ⟨i0,v0,d0,by rw [List.getElem?_append_left hjP]; exact e1,e2⟩
  ·have:j = P.length:=by omega
   subst this
   exact ⟨i,v,B,by rw [List.getElem?_append_right (Nat.le_refl _),Nat.sub_self]; rfl,hRd,hB⟩
 ·rw [List.length_append,List.length_singleton] at hj
  rcases Nat.lt_or_ge j P.length with hjP | hjP
  ·have h3:=a2.2.2 j hjP
   have e1:pcI (P ++ [[.int .i64 i,v]]) j = pcI P j:=by unfold pcI qh qal; rw [Int.toNat_natCast,List.getElem?_append_left hjP]
   have e2:pcD h' (P ++ [[.int .i64 i,v]]) j = pcD h' P j:=by unfold pcD qal; rw [Int.toNat_natCast,List.getElem?_append_left hjP]
   rw [e1,e2,h3,List.getD_eq_getElem?_getD,List.getD_eq_getElem?_getD,List.getElem?_append_left (by omega)]
  ·have:j = P.length:=by omega
   subst this
   have e1:pcI (P ++ [[.int .i64 i,v]]) P.length = i:=by unfold pcI qh qal; rw [Int.toNat_natCast,List.getElem?_append_right (Nat.le_refl _),Nat.sub_self]; rfl
   have e2:pcD h' (P ++ [[.int .i64 i,v]]) P.length = bI B:=by
    unfold pcD qal
    rw [Int.toNat_natCast,List.getElem?_append_right (Nat.le_refl _),Nat.sub_self]
    exact qjb hRd
   rw [e1,e2,hPl,List.getD_eq_getElem?_getD,List.getElem?_append_right (Nat.le_refl _),Nat.sub_self]; rfl
 ·rcases List.mem_append.1 hx with hx | hx
  ·exact a3 x hx
  ·rw [List.mem_singleton.1 hx,bI_len]; exact hb9
end
end
theorem q4J {h h':Hp} {r r':Option Addr} {d P:qd} {c n e i:Int} {M:Option ManV} {L:PcL} {k n' t s l:Int} {R S z:List Int} {D D' B B' J:qd} {y:Bool} {a a':Option Addr} {x x' q q':Nat} (h1:qbM h r d c n P M L) (hl:Hp.le h h')
  (hid:(qG k n' t s l = false/\e = 2/\R = z)∨(qG k n' t s l = true/\e = 0/\R = S)) (he:e = 0) (hy:∀ (M:Option ManV) (L:PcL),qbM h r d c n P M L->y = qg4 M L) (hyf:y = false) (hRb:Rd h' kB (.slice a B'.length q) B') (eB:B' = B) (hRd:Rd h' k32 (.slice a' D'.length q') D') (eD:D' = D)
  (hx:x = B.length) (hx':x' = D.length) (hB:q9 B) (hb9:(B.length:Int) <= 9000) (hD:qfp D) (hO:qR (qf J 32)) (hml:l = (D.length:Int)) :
  qbM h' r' [[Value.int .i64 k,Value.int .i64 n',Value.int .i64 t,Value.int .i64 s] ++ ((qf J 32).map (Value.int .u8) ++ [.slice a' x' q'])] 1 (n + 1) (P ++ [[.int .i64 i,.slice a x q]]) (some ⟨k,n',t,s,qf J 32,dgs D⟩) (L ++ [(i,bI B)]):=by
 subst eB eD hx hx'
 exact q5F h1 hl hRb hB hb9 (q4V rfl hRd hD hO (qoa hid he).1 hml) (by rw [<- hy M L h1]; exact hyf)
theorem qwo {ρ:Env} {l:List SH} {H:Hp} (r ty d c:Nat) (pat:List CK) (hs:qX ρ l H) (hm:SH.arr r ty pat (.var d) (.var c) ∈ l):Rd H pat (.slice (qm (ρ r).r 0) (ρ d).d.length (ρ c).i.toNat) (ρ d).d:=by
 obtain ⟨hx,hl,hd⟩:=qj7 hs hm
 exact qzw hd hl rfl rfl
set_option maxHeartbeats 4000000 in
theorem q2W:qdM.ok Tryz.prog:=q2F (by simp [q3T,q0u,qwD,qmf,qup,qz0,qqR]) fun ρ hg hp=>by
 obtain ⟨⟨⟨M,L,h⟩,hO,hMan,hi64,hpa,h9⟩,hGr,hGd⟩:=hp
 have h0:qbM (ρ 9).h (ρ 2).r (ρ 3).d (ρ 4).i (ρ 6).i (ρ 8).d M L:=h
 obtain ⟨q0,q1,q2,q3,hOm,hml,hml2,hD⟩:=hMan
 obtain ⟨p0,p1,p2,p3⟩:=hpa
 simp only [Nat.reduceAdd] at q0 q1 q2 q3 hOm hml hml2 hD p0 p1 p2 p3
 obtain ⟨hn0,hp0,_,h255,_⟩:=id h0
 have hpl0:=hp0.1
 simp (config:={ maxSteps:=4000000 }) [qpi,qdM,idC,qnQ,qyE,qdy,qpT,q1r,qdb,qaI,qcb,qdt,qbH,gaB,qcp,qbp,qH,qjX,qgJ,qxq,qsp,qzk,qix,qbb,gOk,hGr,hGd]
 repeat' (first | with_reducible apply And.intro | with_reducible intro _)
 all_goals first
  | assumption
  | omega
  | exact ⟨M,L,h0⟩
  | exact q7a (by assumption) (by assumption) (by assumption)
  | exact q5T (by assumption) (by assumption) (by assumption) (by assumption)
  | exact q6S (by assumption) (by assumption) (by assumption) (by assumption) (by assumption) (by assumption) (by assumption) (by assumption) (by assumption) (by assumption)
  | (rw [q7f (by assumption) (by assumption) (by assumption) (by assumption) (by assumption) (by assumption) (by assumption) (by assumption) (by assumption) (by assumption) (by assumption)]; simp [*]; done)
  | exact (qmZ (by assumption) h0).1
  | exact Int.le_trans (qmZ (by assumption) h0).2.1 (by decide)
  | exact (qmZ (by assumption) h0).2.2.2 _ (by assumption)
  | exact q6Y (by assumption) (by assumption) (by assumption) (by assumption) (by assumption) (by assumption)
  | exact q61 (by assumption) (by have h:=qeP 9 20 (by assumption) (by simp); simpa using h) (by assumption)
  | exact qpz (by assumption) (by have h:=qeP 9 20 (by assumption) (by simp); simpa using h)
  | skip
 rename_i hst M1 L1 h1
 have hle:=qeP 9 20 hst (by simp)
 have hRb:=qwo 43 5 45 44 kB hst (by simp [kB])
 have hRd:=qwo 40 24 42 41 k32 hst (by simp [k32])
 simp at hRb hRd hle
 exact q4J (J:=(ρ 14).d) h1 hle (by assumption) (by assumption) (by assumption) (by assumption) hRb (by assumption) hRd (by assumption) (by omega) (by omega) p3 (by omega) hD hOm hml
end Go.Proofs

set_option linter.unusedSimpArgs false
set_option linter.unusedVariables false
set_option maxRecDepth 100000
namespace Go.Proofs
open Go Go.Eng

@[simp] def qb1:T:=.rcons (.vint .u8 (.lit 1)) (.rcons o8 (.rcons o8 (.rcons o8 (.rcons o8 (.rcons o8 (.rcons o8 (.rcons o8 (.rcons o8 (.rcons o8 (.rcons o8 (.rcons o8 (.rcons o8 (.rcons o8 (.rcons o8 (.rcons o8 (.rcons o8 (.rcons o8 (.rcons o8 (.rcons o8 (.rcons o8 (.rcons o8 (.rcons o8 (.rcons o8 (.rcons o8 (.rcons o8 (.rcons o8 (.rcons o8 (.rcons o8 (.rcons o8 (.rcons o8 (.rcons o8 .rnil)))))))))))))))))))))))))))))))
@[simp] def qgm:Sg:=sg 0 [bg 9 68,bv 8 67,bv 4 63,bv 3 62,bv 7 66,bv 6 65,bg 5 64,bg 2 61,bt 1 (s8 40),bg 0 39]
@[simp] def qm9:Sg:=sg 0 [bv 11 1,bv 9 28,bv 8 32,bv 7 28,bt 6 (.lit 1),bg 5 27,bt 3 (.lit 1),bt 2 (.lit 1),bt 1 (.lit 1),bt 0 (.lit 1),bt 4 (r8 26),bg 10 0]
@[simp] def qm5:Sg:=sg 0 [bv 11 1,bt 9 (.lit 1),bt 8 (.rcons (.vint .u8 (.lit 120)) .rnil),bv 1 23,bt 7 (.lit 1),bt 6 (.lit 1),bg 5 24,bt 4 (.lit 1),bt 3 (.lit 1),bt 2 (.lit 1),bg 0 22,bg 10 0]
@[simp] def qm8:Sg:=sg 0 [bv 27 1,bv 25 59,bv 24 60,bv 19 52,bv 18 53,bg 9 48,bv 8 47,bv 4 43,bv 3 42,bv 7 46,bv 6 45,bg 5 44,bg 2 41,bt 1 (r8 40),bv 23 59,bt 22 (.dlen (.var 60)),bg 21 58,bt 20 (.icell (.var 56) (.lit 0) 0),bv 17 52,bt 16 (.lit 1),bg 15 51,bt 13 (.lit 1),bt 12 (.lit 1),bt 11 (.lit 1),bt 10 (.lit 1),bt 14 (r8 50),bg 0 39,bg 26 0]
@[simp] def qnM:Sg:=sg 0 [bv 3 1,bt 1 (.lit 1),bt 0 qb1,bg 2 0]
@[simp] def qnB:Sg:=sg 0 [bv 3 1,bt 1 (.lit 0),bt 0 qb1,bg 2 0]
@[simp] def qoN:Sg:=sg 0 [bv 3 1,bt 1 (.lit 3),bt 0 qb1,bg 2 0]
@[simp] def qof:Sg:=sg 0 [bg 5 13,bv 4 12,bt 3 (.lit 5),bt 2 (.icell (.var 6) (.lit 0) 0),bt 1 qb1,bg 0 11]
@[simp] def qo2:Sg:=sg 0 [bv 9 1,bv 7 5,bv 6 6,bv 5 5,bt 4 (.lit 2),bg 3 3,bt 2 (.lit 2),bt 1 (.icell (.var 6) (.lit 2) 0),bt 0 qb1,bg 8 0]
@[simp] def qoy:Sg:=sg 0 [bv 17 1,bt 15 (.lit 0),bt 14 .dnil,bv 10 5,bv 9 6,bg 5 16,bv 4 12,bt 13 (.lit 0),bt 12 (.lit 0),(11,.nil),bv 8 5,bv 7 4,bg 6 3,bt 3 (.lit 17),bt 2 (.icell (.var 6) (.lit 1) 0),bt 1 qb1,bg 0 11,bg 16 0]
@[simp] def qor:Sg:=sg 0 [bv 17 1,bt 15 (.lit 0),bt 14 .dnil,bv 10 5,bv 9 6,bg 5 14,bv 4 12,bt 13 (.lit 0),bt 12 (.lit 0),(11,.nil),bv 8 5,bv 7 4,bg 6 3,bt 3 (.lit 16),bt 2 (.icell (.var 6) (.lit 1) 0),bt 1 qb1,bg 0 11,bg 16 0]
@[simp] def qpg:Sg:=sg 0 [bv 11 1,bt 6 (.lit 3),bt 5 (.dapp (.rcons (.vint .i64 (.lit 0)) .rnil) (.dapp (.rcons (.vint .i64 (.lit 1)) .rnil) (.rcons (.vint .i64 (.lit 2)) .rnil))),bt 9 (.bl false),bt 8 (.bl true),bt 7 (.lit 3),bt 4 (.lit 3),bt 3 (.lit 3),bg 2 9,bt 1 (.lit 3),bt 0 qb1,bg 10 0]
@[simp] def qo4:Sg:=sg 0 [bv 11 1,bt 6 (.lit 3),bt 5 (.dapp (.rcons (.vint .i64 (.lit 0)) .rnil) (.dapp (.rcons (.vint .i64 (.lit 1)) .rnil) (.rcons (.vint .i64 (.lit 2)) .rnil))),bt 9 (.bl false),bt 8 (.bl false),bt 7 (.lit 3),bt 4 (.lit 3),bt 3 (.lit 3),bg 2 7,bt 1 (.lit 1),bt 0 qb1,bg 10 0]
def qmK:Out:=(.fresh 2 (.pre 0 qoN (.both (.fresh 3 (.fresh 4 (.fresh 5 (.fresh 6 (.post 0 0 qoN 3 (.need (.cmp .leq (.lit 0) (.var 4)) (.br (.cmp .neq (.var 4) (.lit 3))
 (.stuck 7 0 0)
 (.fresh 7 (.pre 1 qo4 (.both (.fresh 8 (.post 1 0 qo4 8 (.br (.cmp .neq (.var 8) (.lit 1))
 (.stuck 7 0 0)
 (.fresh 9 (.pre 1 qpg (.both (.fresh 10 (.post 1 0 qpg 10 (.br (.cmp .neq (.var 10) (.lit 2))
 (.stuck 7 0 0)
 (.pre 2 (sg 0 []) (.both (.fresh 11 (.fresh 12 (.fresh 13 (.post 2 0 (sg 0 []) 11 (.need (.cmp .lss (.lit 0) (.var 4)) (.need (.cmp .lss (.lit 0) (.dlen (.var 6))) (.both (.pre 3 qof (.both (.fresh 14 (.post 3 0 qof 14 (.need (.cmp .lss (.lit 1) (.var 4)) (.need (.cmp .lss (.lit 1) (.dlen (.var 6))) (.both (.pre 4 qor (.both (.fresh 15 (.fresh 16 (.post 4 0 qor 15 (.br (.not (.var 15))
 (.both (.both (.both (.both (.stuck 7 0 0) .top) .top) .top) .top)
 (.both (.pre 4 qoy (.both (.fresh 17 (.fresh 18 (.post 4 0 qoy 17 (.br (.var 17)
 (.both (.both (.both (.stuck 7 0 0) .top) .top) .top)
 (.need (.cmp .lss (.lit 2) (.var 4)) (.need (.cmp .lss (.lit 2) (.dlen (.var 6))) (.know (.cmp .leq (.dlen (.var 6)) (.var 5)) (.need (.cmp .leq (.lit 0) (.var 5)) (.need (.cmp .leq (.lit 2) (.var 5)) (.both (.pre 5 qo2 (.both (.fresh 19 (.post 5 0 qo2 19 (.br (.not (.var 19))
 (.both (.both (.stuck 7 0 0) .top) .top)
 (.both (.pre 6 qnB (.both (.fresh 20 (.post 6 0 qnB 20 (.both (.pre 6 qnM (.both (.fresh 21 (.post 6 0 qnM 21 (.br (.c2 .req (r8 20) (r8 21))
 (.stuck 7 0 0)
 (.pre 7 (sg 0 []) (.both (.fresh 22 (.fresh 23 (.post 7 0 (sg 0 []) 22 (.fresh 24 (.fresh 25 (.pre 8 qm5 (.both (.fresh 26 (.fresh 27 (.fresh 28 (.fresh 29 (.fresh 30 (.fresh 31 (.fresh 32 (.fresh 33 (.fresh 34 (.post 8 0 qm5 26 (.fresh 35 (.pre 9 qm9 (.both (.fresh 36 (.fresh 37 (.post 9 0 qm9 36 (.fresh 38 (.both (.pre 10 (sg 0 [bt 0 (r8 36)]) (.both (.fresh 39 (.post 10 0 (sg 0 [bt 0 (r8 36)]) 39 (.pack [.cells 38 24 [(x8 0 36),(x8 1 36),(x8 2 36),(x8 3 36),(x8 4 36),(x8 5 36),(x8 6 36),(x8 7 36),(x8 8 36),(x8 9 36),(x8 10 36),(x8 11 36),(x8 12 36),(x8 13 36),(x8 14 36),(x8 15 36),(x8 16 36),(x8 17 36),(x8 18 36),(x8 19 36),(x8 20 36),(x8 21 36),(x8 22 36),(x8 23 36),(x8 24 36),(x8 25 36),(x8 26 36),(x8 27 36),(x8 28 36),(x8 29 36),(x8 30 36),(x8 31 36)],.arr 22 151 [CK.int .u32,CK.int .i32,CK.int .u32,CK.int .u8,CK.int .u8,CK.int .u8,CK.int .u8,CK.int .u8,CK.int .u8,CK.int .u8,CK.int .u8,CK.int .u8,CK.int .u8,CK.int .u8,CK.int .u8,CK.int .u8,CK.int .u8,CK.int .u8,CK.int .u8,CK.int .u8,CK.int .u8,CK.int .u8,CK.int .u8,CK.int .u8,CK.int .u8,CK.int .u8,CK.int .u8,CK.int .u8,CK.int .u8,CK.int .u8,CK.int .u8,CK.int .u8,CK.int .u8,CK.int .u8,CK.int .u8,CK.int .u8,CK.int .u8,CK.int .u8,CK.int .u8,CK.int .u8,CK.int .u8,CK.int .u8,CK.int .u8,CK.int .u8,CK.int .u8,CK.int .u8,CK.int .u8,CK.int .u8,CK.int .u8,CK.int .u8,CK.int .u8,CK.int .u8,CK.int .u8,CK.int .u8,CK.int .u8,CK.int .u8,CK.int .u8,CK.int .u8,CK.int .u8,CK.int .u8,CK.int .u8,CK.int .u8,CK.int .u8,CK.int .u8,CK.int .u8,CK.int .u8,CK.int .u8,CK.int .u8,CK.int .u8,CK.int .u8,CK.int .u8,CK.int .u8,CK.int .u8,CK.int .u8,CK.int .u8,CK.int .u8,CK.int .u8,CK.int .u8,CK.int .u8,CK.int .u8,CK.int .u8,CK.int .u8,CK.int .u8,CK.int .u8,CK.int .u8,CK.int .u8,CK.int .u8,CK.int .u8,CK.int .u8,CK.int .u8,CK.int .u8,CK.int .u8,CK.int .u8,CK.int .u8,CK.int .u8,CK.int .u8,CK.int .u8,CK.int .u8,CK.int .u8,CK.int .u8,CK.int .u8,CK.int .u8,CK.int .u8,CK.int .u8,CK.int .u8,CK.int .u8,CK.int .u8,CK.int .u8,CK.int .u8,CK.int .u8,CK.int .u8,CK.int .u8,CK.int .u8,CK.int .u8,CK.int .u8,CK.int .u8,CK.int .u8,CK.int .u8,CK.int .u8,CK.int .u8,CK.int .u8,CK.int .u8,CK.int .u8,CK.int .u8,CK.int .u8,CK.int .u8,CK.int .u8,CK.int .u8,CK.int .u8,CK.int .u8,CK.int .u8,CK.int .u8,CK.int .u8,CK.int .u8,CK.int .u8,CK.int .u8,CK.int .u8,CK.int .u8,CK.int .u8,CK.int .u8,CK.int .u8,CK.int .u8,CK.int .u8,CK.int .u8,CK.int .u8,CK.int .u8,CK.int .u8,CK.int .u8,CK.int .u8,CK.int .u8,CK.int .u8,CK.int .u8,CK.int .u8,CK.int .u8,CK.int .u8,CK.int .u8,CK.int .u8,CK.int .u8,CK.int .u8,CK.int .u8,CK.int .u8,CK.int .u8,CK.int .u8,CK.int .u8,CK.int .u8,CK.int .u8,CK.int .u8,CK.int .u8,CK.int .u8,CK.int .u8,CK.int .u8,CK.int .u8,CK.int .u8,CK.int .u8,CK.int .u8,CK.int .u8,CK.int .u8,CK.int .u8,CK.int .u8,CK.int .u8,CK.int .u8,CK.int .u8,CK.int .u8,CK.int .u8,CK.int .u8,CK.int .u8,CK.int .u8,CK.int .u8,CK.int .u8,CK.int .u8,CK.int .u8,CK.int .u8,CK.int .u8,CK.int .u8,CK.int .u8,CK.int .u8,CK.int .u8,CK.int .u8,CK.int .u8,CK.int .u8,CK.int .u8,CK.int .u8,CK.int .u8,CK.int .u8,CK.int .u8,CK.int .u8,CK.int .u8,CK.int .u8,CK.int .u8,CK.int .u8,CK.int .u8,CK.int .u8,CK.int .u8,CK.int .u8,CK.int .u8,CK.int .u8,CK.int .u8,CK.int .u8,CK.int .u8,CK.int .u8,CK.int .u8,CK.int .u8,CK.int .u8,CK.int .u8,CK.int .u8,CK.int .u8,CK.int .u8,CK.int .u8,CK.int .u8,CK.int .u8,CK.int .u8,CK.int .u8,CK.int .u8,CK.int .u8,CK.int .u8,CK.int .u8,CK.int .u8,CK.int .u8,CK.int .u8,CK.int .u8,CK.int .u8,CK.int .u8,CK.int .u8,CK.int .u8,CK.int .u8,CK.int .u8,CK.int .u8,CK.int .u8,CK.int .u8,CK.int .u8,CK.int .u8,CK.int .u8,CK.int .u8,CK.int .u8,CK.int .u8,CK.int .u8,CK.int .u8,CK.int .u8,CK.int .u8,CK.int .u8,CK.int .u8,CK.int .u8,CK.int .u8,CK.int .u8,CK.int .u8,CK.int .u8,CK.int .u8,CK.int .u8,CK.int .u8,CK.int .u8,CK.int .u8,CK.int .u8,CK.int .u8,CK.int .u8,CK.int .u8,CK.int .u8,CK.int .u8,CK.int .u8,CK.int .u8,CK.int .u8,CK.int .u8,CK.int .u8,CK.int .u8,CK.int .u8,CK.int .u8,CK.int .u8,CK.int .u8,CK.int .u8,CK.int .u8,CK.int .u8,CK.int .u8,CK.int .u8,CK.int .u8,CK.int .u8,CK.int .u8,CK.int .u8,CK.int .u8,CK.int .u8,CK.int .u8,CK.int .u8,CK.int .u8,CK.int .u8,CK.int .u8,CK.int .u8,CK.int .u8,CK.int .u8,CK.int .u8,CK.int .u8,CK.int .u8,CK.int .u8,CK.int .u8,CK.int .u8,CK.int .u8,CK.int .u8,CK.int .u8,CK.int .u8,CK.int .u8,CK.int .u8,CK.int .u8,CK.int .u8,CK.int .u8,CK.int .u8,CK.int .u8,CK.int .u8,CK.int .u8,CK.int .u8,CK.int .u8,CK.int .u8,CK.int .u8,CK.int .u8,CK.int .u8,CK.int .u8,CK.int .u8,CK.int .u8,CK.int .u8,CK.int .u8,CK.int .u8,CK.int .u8,CK.int .u8,CK.int .u8,CK.int .u8,CK.int .u8,CK.int .u8,CK.int .u8,CK.int .u8,CK.int .u8,CK.int .u8,CK.int .u8,CK.int .u8,CK.int .u8,CK.int .u8,CK.int .u8,CK.int .u8,CK.int .u8,CK.int .u8,CK.int .u8,CK.int .u8,CK.int .u8,CK.int .u8,CK.int .u8,CK.int .u8,CK.int .u8,CK.int .u8,CK.int .u8,CK.int .u8,CK.int .u8,CK.int .u8,CK.int .u8,CK.int .u8,CK.int .u8,CK.int .u8,CK.int .u8,CK.int .u8,CK.int .u8,CK.int .u8,CK.int .u8,CK.int .u8,CK.int .u8,CK.int .u8,CK.int .u8,CK.int .u8,CK.int .u8,CK.int .u8,CK.int .u8,CK.int .u8,CK.int .u8,CK.int .u8,CK.int .u8,CK.int .u8,CK.int .u8,CK.int .u8,CK.int .u8,CK.int .u8,CK.int .u8,CK.int .u8,CK.int .u8,CK.int .u8,CK.int .u8,CK.int .u8,CK.int .u8,CK.int .u8,CK.int .u8,CK.int .u8,CK.int .u8,CK.int .u8,CK.int .u8,CK.int .u8,CK.int .u8,CK.int .u8,CK.int .u8,CK.int .u8,CK.int .u8,CK.int .u8,CK.int .u8,CK.int .u8,CK.int .u8,CK.int .u8,CK.int .u8,CK.int .u8,CK.int .u8,CK.int .u8,CK.int .u8,CK.int .u8,CK.int .u8,CK.int .u8,CK.int .u8,CK.int .u8,CK.int .u8,CK.int .u8,CK.int .u8,CK.int .u8,CK.int .u8,CK.int .u8,CK.int .u8,CK.int .u8,CK.int .u8,CK.int .u8,CK.int .u8,CK.int .u8,CK.int .u8,CK.int .u8,CK.int .u8,CK.int .u8,CK.int .u8,CK.int .u8,CK.int .u8,CK.int .u8,CK.int .u8,CK.int .u8,CK.int .u8,CK.int .u8,CK.int .u8,CK.int .u8,CK.int .u8,CK.int .u8,CK.int .u8,CK.int .u8,CK.int .u8,CK.int .u8,CK.int .u8,CK.int .u8,CK.int .u8,CK.int .u8,CK.int .u8,CK.int .u8,CK.int .u8,CK.int .u8,CK.int .u8,CK.int .u8,CK.int .u8,CK.int .u8,CK.int .u8,CK.int .u8,CK.int .u8,CK.int .u8,CK.int .u8,CK.int .u8,CK.int .u8,CK.int .u8,CK.int .u8,CK.int .u8,CK.int .u8,CK.int .u8,CK.int .u8,CK.int .u8,CK.int .u8,CK.int .u8,CK.int .u8,CK.int .u8,CK.int .u8,CK.int .u8,CK.int .u8,CK.int .u8,CK.int .u8,CK.int .u8,CK.int .u8,CK.int .u8,CK.int .u8,CK.int .u8,CK.int .u8,CK.int .u8,CK.int .u8,CK.int .u8,CK.int .u8,CK.int .u8,CK.int .u8,CK.int .u8,CK.int .u8,CK.int .u8,CK.int .u8,CK.int .u8,CK.int .u8,CK.int .u8,CK.int .i64,CK.int .i64,CK.int .i64,CK.int .i64,CK.int .i64,CK.int .i64,CK.int .i64,CK.int .i64,CK.int .i64,CK.int .i64,CK.int .i64,CK.int .i64,CK.int .i64,CK.int .i64,CK.int .i64,CK.int .i64,CK.int .i64,CK.int .i64,CK.int .i64,CK.int .i64,CK.int .i64,CK.int .i64,CK.int .i64,CK.int .i64,CK.int .i64,CK.int .i64,CK.int .i64,CK.int .i64,CK.int .i64,CK.int .i64,CK.int .i64,CK.int .i64,CK.int .i64,CK.int .i64,CK.int .i64,CK.int .i64,CK.int .i64,CK.int .i64,CK.int .i64,CK.int .i64,CK.int .i64,CK.int .i64,CK.int .i64,CK.int .i64,CK.int .i64,CK.int .i64,CK.int .i64,CK.int .i64,CK.int .i64,CK.int .i64,CK.int .i64,CK.int .i64,CK.int .i64,CK.int .i64,CK.int .i64,CK.int .i64,CK.int .i64,CK.int .i64,CK.int .i64,CK.int .i64,CK.int .i64,CK.int .i64,CK.int .i64,CK.int .i64,CK.int .i64,CK.int .i64,CK.int .i64,CK.int .i64,CK.int .i64,CK.int .i64,CK.int .i64,CK.int .i64,CK.int .i64,CK.int .i64,CK.int .i64,CK.int .i64,CK.int .i64,CK.int .i64,CK.int .i64,CK.int .i64,CK.int .i64,CK.int .i64,CK.int .i64,CK.int .i64,CK.int .i64,CK.int .i64,CK.int .i64,CK.int .i64,CK.int .i64,CK.int .i64,CK.int .i64,CK.int .i64,CK.int .i64,CK.int .i64,CK.int .i64,CK.int .i64,CK.int .i64,CK.int .i64,CK.int .i64,CK.int .i64,CK.int .i64,CK.int .i64,CK.int .i64,CK.int .i64,CK.int .i64,CK.int .i64,CK.int .i64,CK.int .i64,CK.int .i64,CK.int .i64,CK.int .i64,CK.int .i64,CK.int .i64,CK.int .i64,CK.int .i64,CK.int .i64,CK.int .i64,CK.int .i64,CK.int .i64,CK.int .i64,CK.int .i64,CK.int .i64,CK.int .i64,CK.int .i64,CK.int .i64,CK.int .i64,CK.int .i64,CK.int .i64,CK.int .i64,CK.int .i64,CK.int .i64,CK.int .i64,CK.int .i64,CK.int .i64,CK.int .i64,CK.int .i64,CK.int .i64,CK.int .i64,CK.int .i64,CK.int .i64,CK.int .i64,CK.int .i64,CK.int .i64,CK.int .i64,CK.int .i64,CK.int .i64,CK.int .i64,CK.int .i64,CK.int .i64,CK.int .i64,CK.int .i64,CK.int .i64,CK.int .i64,CK.int .i64,CK.int .i64,CK.int .i64,CK.int .i64,CK.int .i64,CK.int .i64,CK.int .i64,CK.int .i64,CK.int .i64,CK.int .i64,CK.int .i64,CK.int .i64,CK.int .i64,CK.int .i64,CK.int .i64,CK.int .i64,CK.int .i64,CK.int .i64,CK.int .i64,CK.int .i64,CK.int .i64,CK.int .i64,CK.int .i64,CK.int .i64,CK.int .i64,CK.int .i64,CK.int .i64,CK.int .i64,CK.int .i64,CK.int .i64,CK.int .i64,CK.int .i64,CK.int .i64,CK.int .i64,CK.int .i64,CK.int .i64,CK.int .i64,CK.int .i64,CK.int .i64,CK.int .i64,CK.int .i64,CK.int .i64,CK.int .i64,CK.int .i64,CK.int .i64,CK.int .i64,CK.int .i64,CK.int .i64,CK.int .i64,CK.int .i64,CK.int .i64,CK.int .i64,CK.int .i64,CK.int .i64,CK.int .i64,CK.int .i64,CK.int .i64,CK.int .i64,CK.int .i64,CK.int .i64,CK.int .i64,CK.int .i64,CK.int .i64,CK.int .i64,CK.int .i64,CK.int .i64,CK.int .i64,CK.int .i64,CK.int .i64,CK.int .i64,CK.int .i64,CK.int .i64,CK.int .i64,CK.int .i64,CK.int .i64,CK.int .i64,CK.int .i64,CK.int .i64,CK.int .i64,CK.int .i64,CK.int .i64,CK.int .i64,CK.int .i64,CK.int .i64,CK.int .i64,CK.int .i64,CK.int .i64,CK.int .i64,CK.int .i64,CK.int .i64,CK.int .i64,CK.int .i64,CK.int .i64,CK.int .i64,CK.int .i64,CK.int .i64,CK.int .i64,CK.int .i64,CK.int .i64,CK.int .i64,CK.int .i64,CK.int .i64,CK.int .i64] (.var 31) (.lit 1),.cells 11 179 [(.var 12)],.cells 9 3 [(.vint .i64 (.lit 0)),(.vint .i64 (.lit 1)),(.vint .i64 (.lit 2))],.cells 7 3 [(.vint .i64 (.lit 0)),(.vint .i64 (.lit 1)),(.vint .i64 (.lit 2))],.arr 3 3 [CK.int .i64] (.var 6) (.var 5),.cells 2 24 [(.vint .u8 (.lit 1)),o8,o8,o8,o8,o8,o8,o8,o8,o8,o8,o8,o8,o8,o8,o8,o8,o8,o8,o8,o8,o8,o8,o8,o8,o8,o8,o8,o8,o8,o8,o8]] 40 (.cut 0 39 (sg 1000 [bg 1018 34,bv 1017 33,bv 1014 32,bv 1013 28,bg 1012 27,bt 1011 (r8 26),bg 1009 40,bt 1008 .dnil,bt 1004 (.lit 0),bt 1003 .dnil,bt 1007 (.lit 0),bt 1006 (.lit 0),(1005,.nil),(1002,.nil),bt 1001 (s8 36),bg 1000 39,bv 1016 30,bg 1015 29,bg 1010 35]))))) .top)) (.fresh 39 (.fresh 40 (.fresh 41 (.fresh 42 (.fresh 43 (.fresh 44 (.fresh 45 (.fresh 46 (.fresh 47 (.fresh 48 (.fresh 49 (.fresh 50 (.fresh 51 (.fresh 52 (.fresh 53 (.fresh 54 (.fresh 55 (.fresh 56 (.fresh 57 (.hyp 0 39 (.need (.cmp .lss (.lit 0) (.dlen (.var 56))) (.both (.viewL (.vcell (.var 56) (.lit 0) 1) [CK.int .u8] [57] 58 (.pre 11 qm8 (.both (.fresh 61 (.fresh 62 (.fresh 63 (.fresh 64 (.fresh 65 (.fresh 66 (.fresh 67 (.fresh 68 (.fresh 69 (.post 11 0 qm8 61 (.both (.both (.both (.br (.cmp .eql (.var 69) (.lit 0))
 (.both (.both (.pre 12 qgm (.both (.fresh 70 (.post 12 0 qgm 70 (.both (.both (.br (.var 70)
 (.both (.both (.pre 13 qgm (.both (.fresh 71 (.fresh 72 (.fresh 73 (.fresh 74 (.post 13 0 qgm 71 (.both (.need (.cmp .leq (.lit 0) (.var 72)) (.both (.both (.both (.need (.beq (.bl true) (.cmp .eql (.var 72) (.lit 1))) (.ret 0 (sg 2 []))) .top) .top) .top)) .top)))))) .top)) .top) .top)
 (.both (.both (.both (.both (.both (.both (.stuck 7 0 0) .top) .top) .top) .top) .top) .top)) .top) .top))) .top)) .top) .top)
 (.both (.both (.both (.both (.both (.both (.both (.both (.both (.both (.stuck 7 0 0) .top) .top) .top) .top) .top) .top) .top) .top) .top) .top)) .top) .top) .top))))))))))) .top))) .top))))))))))))))))))))))))))) .top))))))))))))) .top))))))) .top))))) .top)) .top))) .top)) .top)))) .top)) .top)))))))))) .top)) .top))))) .top)) .top))))) .top)) .top))))))) .top))))) .top)))))) .top)))))))))) .top)))
theorem qvz:qk ⟨Tryz.prog,qcN,[qcf,qdi,qdO,qfr,qca,qfw,qci,qbA,qiB,idC,qdJ,qdM,qcb,qdb],[qpp]⟩ 100000 Tryz.f31 = qmK:=by kernel_rfl
theorem q0V (hd:∀ c ∈ ([qcf,qdi,qdO,qfr,qca,qfw,qci,qbA,qiB,idC,qdJ,qdM,qcb,qdb]:List Ctr),c.ok Tryz.prog) (h:∀ ρ:Env,ρ.good->(qcN).pre ρ->qmK.den ⟨Tryz.prog,qcN,[qcf,qdi,qdO,qfr,qca,qfw,qci,qbA,qiB,idC,qdJ,qdM,qcb,qdb],[qpp]⟩ ρ):(qcN).ok Tryz.prog :=
 qe Tryz.func31 (fun a w=>Tryz.call31 a w) hd 100000 (fun ρ hg hp=>by rw [qvz]; exact h ρ hg hp)
end Go.Proofs

set_option linter.unusedSimpArgs false
set_option linter.unusedVariables false
namespace Go.Proofs
open Go Go.Eng
def d1:List Int:=1 :: List.replicate 31 0
theorem qsT:qO d1 0 1 = true:=by decide +kernel
theorem qur:qO d1 0 2 = true:=by decide +kernel
theorem qtD:qO d1 1 2 = true:=by decide +kernel
theorem q1B:¬ qL d1 0 = qL d1 1:=by decide +kernel
theorem qwC:qap d1 [0,1,2] = [0,1,2]:=by
 symm
 refine qxT ⟨List.Perm.refl _,?_⟩ (by decide)
 simp [qsT,qur,qtD]
theorem qs4:qa4 [0,1,2] = [0,1,2]:=by decide
theorem q46:qjI d1 3 = [0,1,2]:=by
 have h:qfV 3 = [0,1,2]:=by decide
 rw [qjI,h,qI,qs4,qwC]; rfl
theorem qrl:qI d1 [0,1,2] 3 = [0,1,2]:=by
 rw [qI,qs4,qwC]; rfl
theorem q3B:qcx d1 1 [0,1,2] 3 false false = 1:=by simp [qcx,qrl]
theorem q29:qcx d1 3 [0,1,2] 3 true false = 2:=by simp [qcx,qrl]
theorem q5Y:qkZ d1 2 2 [0,1] = true:=by
 have h:qa4 [0,1] = [0,1]:=by decide
 rw [qkZ,h]; simp [qur,qtD]
def cl1:Cl:=qdY (fun _ _=>none) d1 0 5
theorem qxJ:qdS cl1 d1 1 16 [0,1,2] [] = true:=by
 rw [qdS,List.any_eq_true]
 refine ⟨0,by simp,?_⟩
 have h:cl1 d1 ((0:Nat):Int) = some 5:=by simp [cl1,qdY]
 rw [h]
 simp [qsT,qj2]
theorem qwK:qdS cl1 d1 1 17 [0,1,2] [] = false:=by
 rw [qdS,List.any_eq_false]
 intro i _
 by_cases hi:i = 0
 ·subst hi
  have h:cl1 d1 ((0:Nat):Int) = some 5:=by simp [cl1,qdY]
  rw [h]; simp [qj2]
 ·have h:cl1 d1 ((i:Nat):Int) = none:=by simp [cl1,qdY,hi]
  rw [h]; simp
end Go.Proofs

set_option linter.unusedSimpArgs false
set_option linter.unusedVariables false
namespace Go.Proofs
open Go Go.Eng
theorem q4I:qf [[Value.int .u8 1,.int .u8 0,.int .u8 0,.int .u8 0,.int .u8 0,.int .u8 0,.int .u8 0,.int .u8 0,.int .u8 0,.int .u8 0,.int .u8 0,.int .u8 0,.int .u8 0,.int .u8 0,.int .u8 0,.int .u8 0,.int .u8 0,.int .u8 0,.int .u8 0,.int .u8 0,.int .u8 0,.int .u8 0,.int .u8 0,.int .u8 0,.int .u8 0,.int .u8 0,.int .u8 0,.int .u8 0,.int .u8 0,.int .u8 0,.int .u8 0,.int .u8 0]] 32 = d1:=by rfl
theorem q5k:qR d1:=by intro x hx; simp [d1] at hx; rcases hx with rfl | rfl <;> decide
theorem q3C {h:Hp}:qbM h none [] 0 0 [] none []:=by
 refine ⟨rfl,⟨rfl,?_,?_⟩,?_,by decide,.inl ⟨rfl,rfl,rfl,rfl,rfl⟩⟩
 ·intro j hj; exact absurd hj (Nat.not_lt_zero j)
 ·intro j hj; exact absurd hj (Nat.not_lt_zero j)
 ·intro x hx; cases hx
theorem q7g:(qch 1 1).2.2 = 1:=by kernel_rfl
theorem q2S:q9 [[Value.int .u8 120]]:=by intro row hr; simp at hr; subst hr; decide
set_option pp.funBinderTypes false
set_option format.width 2000
set_option format.indent 1
set_option maxRecDepth 20000 in
set_option maxHeartbeats 4000000 in
theorem quA (hd:∀ c ∈ ([qcf,qdi,qdO,qfr,qca,qfw,qci,qbA,qiB,idC,qdJ,qdM,qcb,qdb]:List Ctr),c.ok Tryz.prog):qcN.ok Tryz.prog:=q0V hd fun ρ hg hp=>by
 obtain ⟨hGr,hGd⟩:=hp
 simp (config:={ maxSteps:=4000000 }) [qmK,qcN,qpp,qcf,qdi,qzn,qdO,qfr,qca,q3Q,qfw,q3j,qlL,qci,qbA,qiB,qgn,idC,qnQ,qyE,qdJ,qdM,qzS,qcb,qdb,qsp,qzk,qix,qbb,q3V,q3Z,qjX,qgJ,qpI,qxq,qkd,qbp,qcp,gaB,gOk,hGr,hGd,q4I,q5k]
 have e012:ql [[Value.int IntKind.i64 0],[Value.int IntKind.i64 1],[Value.int IntKind.i64 2]] = [0,1,2]:=rfl
 intro _ _ l0 _ n _ c _ D _ hl
 obtain ⟨hn,hD,hrow⟩:=hl
 rw [q46] at hD
 have hDl:D.d.length = 3:=by have:=congrArg List.length hD; simpa [ql] using this
 refine ⟨by omega,by omega,fun _ _ _ x5 _ h5=>?_⟩
 rw [e012,q3B] at h5
 refine ⟨h5,fun _ _ _ x6 _ h6=>?_⟩
 rw [e012,q29] at h6
 refine ⟨h6,fun _ _ _ v _ H0 _ hc0=>⟨by omega,by omega,⟨_,hc0⟩,fun H1 _ hc1=>?_⟩⟩
 have g0:qh D.d 0 0 = 0:=by rw [qcM (d:=D.d) (by omega) (by omega),hD]; rfl
 have g1:qh D.d 1 0 = 1:=by rw [qcM (d:=D.d) (by omega) (by omega),hD]; rfl
 have g2:qh D.d 2 0 = 2:=by rw [qcM (d:=D.d) (by omega) (by omega),hD]; rfl
 have hcl:=hc1 _ hc0
 rw [g0] at hcl
 refine ⟨by omega,by omega,⟨⟨_,hcl⟩,by omega,by omega,hrow⟩,fun b1 _ H2 _ hb1=>?_⟩
 obtain ⟨hcl2,hb1⟩:=hb1 _ hcl
 rw [g1,hD] at hb1
 have hb1':b1.b = true:=hb1.trans qxJ
 refine ⟨hb1',fun _=>⟨⟨⟨_,hcl2⟩,by omega,by omega,hrow⟩,fun b2 _ H3 _ hb2=>?_⟩⟩
 obtain ⟨hcl3,hb2⟩:=hb2 _ hcl2
 rw [g1,hD] at hb2
 have hb2':b2.b = false:=hb2.trans qwK
 refine ⟨hb2',fun _=>⟨by omega,by omega,fun hcap=>⟨by omega,by omega,⟨by omega,hrow⟩,fun b3 _ hb3=>?_⟩⟩⟩
 rw [g2,hD] at hb3
 have hb3':b3.b = true:=hb3.trans q5Y
 refine ⟨hb3',fun _ s0 _ hs0 s1 _ hs1=>?_⟩
 rw [hs0,hs1]
 refine ⟨q1B,fun _ _ _ fl _ hfl _ _ _ _=>⟨⟨⟨.inl hfl,q2S,fun _=>q7g⟩,by decide⟩,?_⟩⟩
 intro o _ _ _ f _ _ _ _ _ _ _ Ds _ P _ Hp _ _ _ hPl hE ho hDs hdg _ _
 have hDl1:Ds.d.length = 1:=by
  have:=congrArg List.length hdg
  rw [qzb] at this; simpa [dgs] using this
 have hoM:qR (qf o.d 32):=by rw [ho]; exact qfJ _
 have hm1:qG 1 1 1 1 1 = true:=by decide
 refine ⟨⟨by omega,hoM,hDs⟩,fun ID _ e _ hid gn _=>⟨fun _ _ _ _ _=>?_,?_⟩⟩
 ·obtain ⟨q1,q2⟩:=q57 hE
  refine ⟨q3C,hoM,hDs,hDl1,hPl,q1,(q2 0 (by decide)).1,?_,?_⟩
  ·exact q20 (data:=[120]) hm1 (by intro x hx; simp at hx; subst hx; exact ⟨by decide,by decide⟩) rfl hdg (by decide) (by decide) (q2 0 (by decide)).2
  ·rcases hid with ⟨h,_⟩ | ⟨_,_,h⟩
   ·exact absurd h (by decide)
   ·exact h
 intro ar _ id _ mr _ mp _ mc _ pr _ pl _ pq _ pd _ gh _ bm _ om _ dr _ dq _ dd _ br _ bq _ bp _ bh _ hga hom hdd hdl hbl hpk hpi hck hid2
 obtain ⟨v0,B0,eP,hv,hRd,hB,hpd⟩:=q6R hpk (j:=0) (by decide)
 obtain ⟨_,_,_,hlen,hsum⟩:=q0m hck
 have hB1:B0.length = 1:=by rw [hpd,bI_len] at hlen; rw [show qec 1 1 = 1 from rfl] at hlen; omega
 have hci:qh bp.d 0 0 = 0:=hpi
 have hidM:qR (qf id.d 32):=by rw [hid2]; exact qfJ _
 have hck':qcg 1 1 1 1 1 (dgs dd.d) 0 (bI B0) = 0:=by rw [<- hpd]; exact hck
 have hddl:(dgs dd.d).length = 1:=by simpa [dgs] using hdl
 have hoff:qfC (qf id.d 32) none [] { k:=1,n:=1,t:=1,s:=1,o:=qf om.d 32,D:=dgs dd.d } 0 (bI B0) = 0:=by
  have hok:ManV.ok { k:=1,n:=1,t:=1,s:=1,o:=qf om.d 32,D:=dgs dd.d } = true:=by simp only [ManV.ok,hddl]; decide
  have hbt:sha (ManV.bytes { k:=1,n:=1,t:=1,s:=1,o:=qf om.d 32,D:=dgs dd.d }) = qf id.d 32:=hid2.symm
  rw [qfC,if_neg (by rw [hok]; decide),if_neg (fun h=>h hbt)]
  simp [hddl,hck',qg4]
 refine ⟨by omega,B0,by rw [show (0:Int) = ((0:Nat):Int) from rfl,hv]; exact hRd,?_⟩
 rw [hci]
 intro vr _ vc _ _ hcap
 refine ⟨⟨⟨_,_,hga⟩,hidM,⟨hom,by omega,hdd⟩,by decide,⟨by omega,by omega,hB⟩,by omega⟩,?_⟩
 intro _ _ _ _ _ _ _ _ _ _ _ _ _ _ _ _ oe _ hofr
 obtain ⟨he0,hga2⟩:=hofr _ _ hga
 rw [hoff] at he0
 rw [if_pos he0,if_pos he0] at hga2
 refine ⟨fun _=>⟨⟨_,_,hga2⟩,fun rb _ hrb=>?_⟩,he0⟩
 have hr1:=hrb _ _ hga2
 have hr2:rb.b = true:=by rw [hr1]; rfl
 refine ⟨fun _=>⟨⟨_,_,hga2⟩,fun _ _ il _ _ _ di _ hi=>?_⟩,hr2⟩
 obtain ⟨hi1,hi2,_⟩:=hi _ _ hga2
 have hdi:di.d.length = 1:=by
  have:=congrArg List.length hi2
  rw [qaV] at this; simpa using this
 exact ⟨by omega,by omega,trivial⟩
theorem qgV:qay.ok Tryz.prog:=qz1 q4i
theorem q1a:qcN.ok Tryz.prog:=quA (by simp [qx1 qgV,qwu qgV,q1Q,q4Q,qyi,q4j,qtp,qv9,q19,q3T,q2o,q2W,qup,qwD])
end Go.Proofs

set_option linter.unusedSimpArgs false
set_option linter.unusedVariables false
set_option maxRecDepth 100000
namespace Go.Proofs
open Go Go.Eng

end Go.Proofs

set_option linter.unusedSimpArgs false
set_option linter.unusedVariables false
namespace Go.Proofs
open Go Go.Eng
end Go.Proofs

set_option linter.unusedSimpArgs false
set_option linter.unusedVariables false
set_option maxRecDepth 100000
namespace Go.Proofs
open Go Go.Eng

end Go.Proofs

set_option linter.unusedSimpArgs false
set_option linter.unusedVariables false
namespace Go.Proofs
open Go Go.Eng
theorem q07 {o L:List Int} {k:Int} {D:qd} {n:Int} (h:qH D n (qI o L k)):n = D.length/\n <= 1000000000000/\∀ row ∈ D,row.length = 1:=by
 obtain ⟨h1,h2,h3⟩:=h
 have:=qmg h2
 exact ⟨h1,by omega,h3⟩
theorem q3g {D:qd} {n:Int} {l:List Int} {row:List Value} (hm:row ∈ D) (h:qH D n l):row.length = 1:=h.2.2 row hm
theorem q56 {x:Int} {D D':qd} (h:D = D') (h2:x = D'.length):x = D.length:=by rw [h]; exact h2
theorem q6y {D D':qd} {row:List Value} (hm:row ∈ D) (h:D = D') (h3:∀ row ∈ D',row.length = 1):row.length = 1:=h3 row (by rw [<- h]; exact hm)
theorem same_eq {b:Bool} {D D':qd} (h:b = decide (ql D = ql D')) (e:D = D'):b = true:=by rw [h,e]; simp
end Go.Proofs

set_option linter.unusedSimpArgs false
set_option linter.unusedVariables false
namespace Go.Eng
open Go Go.Proofs
end Go.Eng

set_option linter.unusedSimpArgs false
set_option linter.unusedVariables false
set_option maxRecDepth 100000
namespace Go.Proofs
open Go Go.Eng

end Go.Proofs

set_option linter.unusedSimpArgs false
set_option linter.unusedVariables false
namespace Go.Proofs
open Go Go.Eng
theorem q4T {ρ:Env}:qlO.post ρ:=True.intro
end Go.Proofs

set_option linter.unusedSimpArgs false
set_option linter.unusedVariables false
set_option maxRecDepth 100000
namespace Go.Proofs
open Go Go.Eng

end Go.Proofs

set_option linter.unusedSimpArgs false
set_option linter.unusedVariables false
namespace Go.Proofs
open Go Go.Eng
theorem q5K {D:qd} {n:Int} {l:List Int} (h:qH D n l):n = D.length:=h.1
theorem q6O {o:List Int} {b D D':qd} {n k:Int} (h:qH b n (qI o (ql D) k)) (e:D = D'):qH b n (qI o (ql D') k):=e ▸ h
theorem q6w {D:qd} {n:Int} {l:List Int} (h:qH D n l):0 <= n:=by have:=h.1; omega
theorem q7i {D:qd} {n i:Int} {l:List Int} (h:qH D n l) (h1:i < n):i < (D.length:Int):=by rw [<- h.1]; exact h1
end Go.Proofs

set_option linter.unusedSimpArgs false
set_option linter.unusedVariables false
set_option maxRecDepth 100000
namespace Go.Proofs
open Go Go.Eng

@[simp] def qeh:Sg:=sg 0 [bv 4 37,bv 3 38,bt 5 (.icell (.var 34) (.var 41) 0),bv 2 37,bv 1 36,bg 0 35]
@[simp] def qiJ:Sg:=sg 0 [bv 11 13,bv 6 44,bv 5 45,bt 9 (.bl false),bv 8 42,bv 7 11,bv 4 44,bv 3 2,bg 2 43,bt 1 (.icell (.var 34) (.var 41) 0),bt 0 (r8 0),bg 10 12]
@[simp] def qiN:Out:=.back 1 30 (sg 1000 [bv 1008 38,bv 1004 34,bt 1011 (.arith .add .i64 (.var 41) (.lit 1)),bt 1010 (.bl false),bt 1009 (.bl false),bv 1007 37,bv 1006 36,bg 1005 35,bv 1003 33,bv 1002 32,bg 1001 31,bg 1000 30])
@[simp] def qiX:Out:=.back 1 30 (sg 1000 [bv 1008 38,bv 1004 34,bt 1011 (.arith .add .i64 (.var 41) (.lit 1)),bt 1010 (.beq (.var 42) (.var 47)),bt 1009 (.bl false),bv 1007 37,bv 1006 36,bg 1005 35,bv 1003 33,bv 1002 32,bg 1001 31,bg 1000 30])
@[simp] def qiM:Out:=.back 1 30 (sg 1000 [bv 1008 38,bv 1004 34,bt 1011 (.arith .add .i64 (.var 41) (.lit 1)),bt 1010 (.bl false),bt 1009 (.cmp .eql (.var 46) (.lit 0)),bv 1007 37,bv 1006 36,bg 1005 35,bv 1003 33,bv 1002 32,bg 1001 31,bg 1000 30])
@[simp] def qiI:Out:=.back 1 30 (sg 1000 [bv 1008 38,bv 1004 34,bt 1011 (.arith .add .i64 (.var 41) (.lit 1)),bt 1010 (.beq (.var 42) (.var 47)),bt 1009 (.cmp .eql (.var 46) (.lit 0)),bv 1007 37,bv 1006 36,bg 1005 35,bv 1003 33,bv 1002 32,bg 1001 31,bg 1000 30])
def qhm:Out:=(.fresh 14 (.both (.fresh 15 (.both (.need (.cmp .leq (.lit 0) (.var 2)) (.br (.cmp .gtr (.var 2) (.lit 16))
 (.pre 4 (sg 0 [bv 1 13,bg 0 12]) (.both (.post 4 0 (sg 0 [bv 1 13,bg 0 12]) 16 (.ret 0 (sg 14 []))) .top))
 (.need (.cmp .leq (.lit 0) (.var 7)) (.br (.cmp .gtr (.var 7) (.lit 16))
 (.pre 4 (sg 0 [bv 1 13,bg 0 12]) (.both (.post 4 0 (sg 0 [bv 1 13,bg 0 12]) 16 (.ret 0 (sg 14 []))) .top))
 (.fresh 16 (.inv 0 17 (sg 1000 [bt 1004 .dnil,bt 1005 (.lit 0),bt 1003 (.lit 0),bt 1002 (.lit 0),bg 1001 16,bg 1000 15]) (.fresh 17 (.fresh 18 (.fresh 19 (.fresh 20 (.fresh 21 (.fresh 22 (.hyp 0 17 (.br (.cmp .lss (.var 22) (.lit 16))
 (.pre 2 (sg 0 [bv 4 5,bv 3 4,bv 5 22,bv 2 3,bv 1 2,bg 0 1]) (.both (.fresh 23 (.post 2 0 (sg 0 [bv 4 5,bv 3 4,bv 5 22,bv 2 3,bv 1 2,bg 0 1]) 23 (.br (.var 23)
 (.fresh 24 (.need (.cmp .eql (.var 19) (.dlen (.var 21))) (.need (.cmp .leq (.tims (.lit 8) (.plus (.var 19) (.lit 1))) (.lit 140737488355328)) (.fresh 25 (.fresh 26 (.back 0 17 (sg 1000 [bt 1004 (.dapp (.var 21) (.rcons (.vint .i64 (.var 22)) .rnil)),bt 1005 (.arith .add .i64 (.var 22) (.lit 1)),bv 1003 26,bt 1002 (.plus (.var 19) (.lit 1)),bg 1001 25,bg 1000 17])))))))
 (.back 0 17 (sg 1000 [bv 1004 21,bt 1005 (.arith .add .i64 (.var 22) (.lit 1)),bv 1003 20,bv 1002 19,bg 1001 18,bg 1000 17]))))) .top))
 (.br (.cmp .lss (.var 11) (.lit 1))
 (.pre 4 (sg 0 [bv 1 13,bg 0 12]) (.both (.post 4 0 (sg 0 [bv 1 13,bg 0 12]) 23 (.ret 0 (sg 14 []))) .top))
 (.need (.cmp .leq (.lit 0) (.var 19)) (.br (.cmp .gtr (.var 11) (.var 19))
 (.pre 4 (sg 0 [bv 1 13,bg 0 12]) (.both (.post 4 0 (sg 0 [bv 1 13,bg 0 12]) 23 (.ret 0 (sg 14 []))) .top))
 (.both (.pre 0 (sg 0 [bv 4 5,bv 3 4,bv 2 3,bv 1 2,bg 0 1]) (.both (.fresh 23 (.fresh 24 (.fresh 25 (.post 0 0 (sg 0 [bv 4 5,bv 3 4,bv 2 3,bv 1 2,bg 0 1]) 23 (.both (.pre 1 (sg 0 [bv 8 13,bv 5 24,bv 4 25,bv 6 11,bv 3 24,bv 2 2,bg 1 23,bt 0 (r8 0),bg 7 12]) (.both (.fresh 26 (.fresh 27 (.fresh 28 (.fresh 29 (.post 1 0 (sg 0 [bv 8 13,bv 5 24,bv 4 25,bv 6 11,bv 3 24,bv 2 2,bg 1 23,bt 0 (r8 0),bg 7 12]) 26 (.need (.cmp .leq (.lit 0) (.var 27)) (.inv 1 30 (sg 1000 [bv 1008 29,bv 1004 21,bt 1011 (.lit 0),bt 1010 (.cmp .eql (.var 27) (.var 11)),bt 1009 (.bl true),bv 1007 28,bv 1006 27,bg 1005 26,bv 1003 20,bv 1002 19,bg 1001 18,bg 1000 17]) (.fresh 30 (.fresh 31 (.fresh 32 (.fresh 33 (.fresh 34 (.fresh 35 (.fresh 36 (.fresh 37 (.fresh 38 (.fresh 39 (.fresh 40 (.fresh 41 (.hyp 1 30 (.need (.cmp .leq (.lit 0) (.var 32)) (.br (.cmp .lss (.var 41) (.var 32))
 (.need (.cmp .leq (.lit 0) (.var 41)) (.need (.cmp .lss (.var 41) (.dlen (.var 34))) (.pre 2 (sg 0 [bv 4 10,bv 3 9,bt 5 (.icell (.var 34) (.var 41) 0),bv 2 8,bv 1 7,bg 0 6]) (.both (.fresh 42 (.post 2 0 (sg 0 [bv 4 10,bv 3 9,bt 5 (.icell (.var 34) (.var 41) 0),bv 2 8,bv 1 7,bg 0 6]) 42 (.both (.pre 0 (sg 0 [bv 4 5,bv 3 4,bv 2 3,bv 1 2,bg 0 1]) (.both (.fresh 43 (.fresh 44 (.fresh 45 (.post 0 0 (sg 0 [bv 4 5,bv 3 4,bv 2 3,bv 1 2,bg 0 1]) 43 (.both (.pre 3 qiJ (.both (.fresh 46 (.post 3 0 qiJ 46 (.br (.var 39)
 (.br (.var 40)
 (.pre 2 qeh (.both (.fresh 47 (.post 2 0 qeh 47 (.br (.cmp .eql (.var 46) (.lit 3))
 (.stuck 7 0 0)
 (.br (.var 42)
 (.br (.cmp .eql (.var 46) (.lit 1))
 (.stuck 7 0 0)
 qiI)
 (.br (.cmp .eql (.var 46) (.lit 2))
 (.stuck 7 0 0)
 qiI))))) .top))
 (.br (.cmp .eql (.var 46) (.lit 3))
 (.stuck 7 0 0)
 (.br (.var 42)
 (.br (.cmp .eql (.var 46) (.lit 1))
 (.stuck 7 0 0)
 qiM)
 (.br (.cmp .eql (.var 46) (.lit 2))
 (.stuck 7 0 0)
 qiM))))
 (.br (.var 40)
 (.pre 2 qeh (.both (.fresh 47 (.post 2 0 qeh 47 (.br (.cmp .eql (.var 46) (.lit 3))
 (.stuck 7 0 0)
 (.br (.var 42)
 (.br (.cmp .eql (.var 46) (.lit 1))
 (.stuck 7 0 0)
 qiX)
 (.br (.cmp .eql (.var 46) (.lit 2))
 (.stuck 7 0 0)
 qiX))))) .top))
 (.br (.cmp .eql (.var 46) (.lit 3))
 (.stuck 7 0 0)
 (.br (.var 42)
 (.br (.cmp .eql (.var 46) (.lit 1))
 (.stuck 7 0 0)
 qiN)
 (.br (.cmp .eql (.var 46) (.lit 2))
 (.stuck 7 0 0)
 qiN))))))) .top)) .top))))) .top)) .top))) .top))))
 (.br (.beq (.var 39) (.var 40))
 (.pre 4 (sg 0 [bv 1 13,bg 0 12]) (.both (.post 4 0 (sg 0 [bv 1 13,bg 0 12]) 42 (.ret 0 (sg 14 []))) .top))
 (.stuck 7 0 0)))))))))))))))))))))))) .top)) .top))))) .top)) .top)))))))))))))))))) .top)) .top))
theorem qnF:qk ⟨Tryz.prog,qbd,[qfZ,qay,qir,qdi,qcN],[qtw,qu5]⟩ 100000 Tryz.f7 = qhm:=by kernel_rfl
theorem qr3 (hd:∀ c ∈ ([qfZ,qay,qir,qdi,qcN]:List Ctr),c.ok Tryz.prog) (h:∀ ρ:Env,ρ.good->(qbd).pre ρ->qhm.den ⟨Tryz.prog,qbd,[qfZ,qay,qir,qdi,qcN],[qtw,qu5]⟩ ρ):(qbd).ok Tryz.prog :=
 qe Tryz.func7 (fun a w=>Tryz.call7 a w) hd 100000 (fun ρ hg hp=>by rw [qnF]; exact h ρ hg hp)
end Go.Proofs

set_option linter.unusedSimpArgs false
set_option linter.unusedVariables false
namespace Go.Proofs
open Go Go.Eng
theorem qkM {o L:List Int} {n:Int} (h1:1 <= n) (h2:n <= (qa4 L).length):((qI o L n).length:Int) = n:=by
 unfold qI; rw [List.length_take,qgz]; omega
theorem q5o {o L:List Int} {n p:Int} {h:Bool} (h1:1 <= n) (h2:n <= (qa4 L).length):qcx o p L n h false = if p ∈ qI o L n then (if h then 0 else 1) else if h then 2 else 0:=by
 have hl:=qkM (o:=o) h1 h2
 unfold qcx
 rw [if_neg (by decide),if_neg (by omega),hl]
 by_cases hp:p ∈ qI o L n
 ·rw [if_pos hp,if_pos hp]
 ·rw [if_neg hp,if_neg hp]; cases h <;> simp
theorem q78 {P:Prop} {x y:U} (h:x.b = y.b) (hx:x.b = true) (hy:y.b = false):P:=by rw [hx,hy] at h; cases h
theorem q7w {P:Prop} {x y:U} (h:x.b = y.b) (hx:x.b = false) (hy:y.b = true):P:=by rw [hx,hy] at h; cases h
theorem qy0 {o:List Int} {x p n na:Int} {D D' a:qd} {h:Bool} (hx:x = qcx o p (ql D) n h false) (e:D = D') (h1:1 <= n) (h2:n <= na) (ha:qH a na (qa4 (ql D'))):x = if p ∈ qI o (ql D') n then (if h then 0 else 1) else if h then 2 else 0:=by
 have hl:=congrArg List.length ha.2.1
 have hl1:=ha.1
 rw [qaV] at hl
 rw [hx,e,q5o h1 (by omega)]
theorem q79 {o:List Int} {x p n na:Int} {D D' a:qd} {h:Bool} (hx:x = qcx o p (ql D) n h false) (e:D = D') (h1:1 <= n) (h2:n <= na) (ha:qH a na (qa4 (ql D'))):¬ x = 3:=by
 rw [qy0 hx e h1 h2 ha]
 by_cases hp:p ∈ qI o (ql D') n
 ·rw [if_pos hp]; cases h <;> decide
 ·rw [if_neg hp]; cases h <;> decide
theorem q7z {o:List Int} {x p n na:Int} {D D' a:qd} {h:Bool} (hx:x = qcx o p (ql D) n h false) (ht:h = true) (e:D = D') (h1:1 <= n) (h2:n <= na) (ha:qH a na (qa4 (ql D'))):¬ x = 1:=by
 rw [qy0 hx e h1 h2 ha,ht]
 by_cases hp:p ∈ qI o (ql D') n
 ·rw [if_pos hp]; decide
 ·rw [if_neg hp]; decide
theorem q7p {o:List Int} {x p n na:Int} {D D' a:qd} {h:Bool} (hx:x = qcx o p (ql D) n h false) (ht:h = false) (e:D = D') (h1:1 <= n) (h2:n <= na) (ha:qH a na (qa4 (ql D'))):¬ x = 2:=by
 rw [qy0 hx e h1 h2 ha,ht]
 by_cases hp:p ∈ qI o (ql D') n
 ·rw [if_pos hp]; decide
 ·rw [if_neg hp]; decide
theorem q77 {o:List Int} {x p n na nb:Int} {D D' a B:qd} {h y:Bool} (hx:x = qcx o p (ql D) n h false) (e:D = D') (h1:1 <= n) (h2:n <= na) (ha:qH a na (qa4 (ql D'))) (hy:y = decide (p ∈ ql B)) (hB:qH B nb (qI o (ql D') n)):qF .eql x 0 = (h == y):=by
 rw [hy,hB.2.1,qy0 hx e h1 h2 ha]
 by_cases hp:p ∈ qI o (ql D') n
 ·rw [if_pos hp,decide_eq_true hp]; cases h <;> decide
 ·rw [if_neg hp,decide_eq_false hp]; cases h <;> decide
theorem q72 {L:List Int}:qH [] 0 (qy L 0):=⟨rfl,rfl,fun r h=>by cases h⟩
theorem q5D {D:qd} {n i:Int} {L:List Int} (h:qH D n (qy L i.toNat)) (h0:0 <= i) (h1:i <= 16):0 <= n/\n <= 16:=by
 obtain ⟨e1,e2,_⟩:=h
 have h3:=congrArg List.length e2
 rw [qaV] at h3
 have:=qi5 (L:=L) (n:=i.toNat)
 omega
theorem q7t {D:qd} {n:Int} {L:List Int} (h:qH D n (qa4 L)):0 <= n/\n <= 16:=q5D (i:=16) h (by decide) (by decide)
theorem q53 {D:qd} {n i:Int} {L:List Int} {x:Bool} (h:qH D n (qy L i.toNat)) (hu:x = decide (i ∈ L)) (hx:x = true) (h0:0 <= i) (h1:i < 16):qH (D ++ [[.int .i64 i]]) (n + 1) (qy L (qc .add .i64 i 1).toNat):=by
 obtain ⟨e1,e2,e3⟩:=h
 rw [qdh h0 (by omega),show (i + 1).toNat = i.toNat + 1 by omega,qcj,Int.toNat_of_nonneg h0,if_pos (of_decide_eq_true (hu.symm.trans hx))]
 refine ⟨by rw [List.length_append,List.length_singleton]; omega,by rw [qic,e2],fun row hr=>?_⟩
 rcases List.mem_append.1 hr with hr | hr
 ·exact e3 row hr
 ·rw [List.mem_singleton.1 hr]; rfl
theorem q5c {D:qd} {n i:Int} {L:List Int} {x:Bool} (h:qH D n (qy L i.toNat)) (hu:x = decide (i ∈ L)) (hx:x = false) (h0:0 <= i) (h1:i < 16):qH D n (qy L (qc .add .i64 i 1).toNat):=by
 rw [qdh h0 (by omega),show (i + 1).toNat = i.toNat + 1 by omega,qcj,Int.toNat_of_nonneg h0,if_neg (of_decide_eq_false (hu.symm.trans hx)),List.append_nil]
 exact h
theorem qzL {D:qd} {n i:Int} {L:List Int} (h:qH D n (qy L i.toNat)) (h1:i <= 16) (h2:16 <= i):qH D n (qa4 L):=by
 rw [show i.toNat = 16 by omega] at h; exact h
theorem q52 {o:List Int} {n na nb i:Int} {a b D D':qd} (hb:qH b nb (qI o (ql D) n)) (e:D = D') (ha:qH a na (qy (ql D') i.toNat)) (h1:i <= 16) (h2:16 <= i) (h3:1 <= n) (h4:n <= na):nb = n:=by
 have ha:=qzL ha h1 h2
 have hl:=congrArg List.length ha.2.1
 have hl1:=ha.1
 rw [qaV] at hl
 have:=qkM (o:=o) (L:=ql D') h3 (by omega)
 have hm:=congrArg List.length hb.2.1
 rw [qaV,e] at hm
 rw [hb.1]; omega
set_option maxHeartbeats 1000000 in
set_option maxRecDepth 20000 in
theorem qrF:qbd.ok Tryz.prog:=qr3 (by simp [q4m,qgV,q5G,qwu qgV,q1a]) fun ρ hg hp=>by
 obtain ⟨hO,⟨l1,l2,l3⟩,⟨m1,m2,m3⟩,hRr,hRd⟩:=hp
 simp only [Nat.reduceAdd] at l1 l2 l3 m1 m2 m3
 simp (config:={ maxSteps:=4000000 }) [qhm,qbd,qlu,qtw,qu5,qyA,q1X,q6j,qfZ,qay,qnD,qir,qdi,qzn,qcN,qbp,qcp,gOk,hO,hRr,hRd]
 repeat' (first | with_reducible apply And.intro | with_reducible intro _)
 all_goals first
  | assumption
  | omega
  | with_reducible exact q4T
  | with_reducible exact l3 _ (by assumption)
  | with_reducible exact m3 _ (by assumption)
  | with_reducible exact q6y (by assumption) (by assumption) (by assumption)
  | with_reducible exact q3g (by assumption) (by assumption)
  | with_reducible exact q5K (by assumption)
  | with_reducible exact q6w (by assumption)
  | with_reducible exact q56 (by assumption) (by assumption)
  | (refine q6O (by assumption) (by assumption); done)
  | with_reducible exact q7i (by assumption) (by assumption)
  | with_reducible exact q72
  | exact q78 (by assumption) (by assumption) (by assumption)
  | exact q7w (by assumption) (by assumption) (by assumption)
  | with_reducible exact q79 (by assumption) (by assumption) (by assumption) (by assumption) (by assumption)
  | with_reducible exact q7z (by assumption) (by assumption) (by assumption) (by assumption) (by assumption) (by assumption)
  | with_reducible exact q7p (by assumption) (by assumption) (by assumption) (by assumption) (by assumption) (by assumption)
  | with_reducible exact q77 (by assumption) (by assumption) (by assumption) (by assumption) (by assumption) (by assumption) (by assumption)
  | (refine q53 (by assumption) (by assumption) (by assumption) (by assumption) (by assumption); done)
  | (refine q5c (by assumption) (by assumption) (by assumption) (by assumption) (by assumption); done)
  | (refine qzL (by assumption) (by assumption) (by assumption); done)
  | (refine q52 (by assumption) (by assumption) (by assumption) (by assumption) (by assumption) (by assumption) (by assumption); done)
  | (have hb:=q7t (by assumption); first | omega | (rw [qdh (by omega) (by omega)]; omega))
  | (have hb:=q5D (by assumption) (by assumption) (by assumption); omega)
  | (rw [qdh (by omega) (by omega)]; omega)
  | (have hb:=(q07 (by assumption)).2.1; omega)
end Go.Proofs
