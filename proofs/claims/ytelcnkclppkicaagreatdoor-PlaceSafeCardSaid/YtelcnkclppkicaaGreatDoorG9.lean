/- Texts QG, QH, QJ, QK, QL, RQ, RJ, RG, RM, RL, RU, RR. -/
import Derived.Test.YtelcnkclppkicaaGreatDoorG8
import Derived.Test.YtelcnkclppkicaaGreatDoorProg
import Derived.Test.YtelcnkclppkicaaGreatDoorG7
import Derived.Test.YtelcnkclppkicaaGreatDoorG5
import Derived.Shelf.Sort.Plain
import Derived.Shelf.Slices.In.SortNone
import Derived.Ground.Names2Prog
set_option linter.unusedSimpArgs false
set_option linter.unusedVariables false
set_option maxRecDepth 100000
namespace Go.Proofs
open Go Go.Eng

def qqv:Out:=(.fresh 1 (.fresh 2 (.ret 0 (sg 1 [bg 1 2]))))
theorem qym:qk ⟨Tryz.prog,qdW,[],[]⟩ 100000 Tryz.f45 = qqv:=by kernel_rfl
theorem q3J (hd:∀ c ∈ ([]:List Ctr),c.ok Tryz.prog) (h:∀ ρ:Env,ρ.good->(qdW).pre ρ->qqv.den ⟨Tryz.prog,qdW,[],[]⟩ ρ):(qdW).ok Tryz.prog :=
 qe Tryz.func45 (fun a w=>Tryz.call45 a w) hd 100000 (fun ρ hg hp=>by rw [qym]; exact h ρ hg hp)
def qqB:Out:=(.br (.not (.and (.cmp .eql (.dlen (.var 3)) (.lit 0)) (.isnil 2)))
 (.need (.cmp .leq (.lit 0) (.var 6)) (.need (.cmp .lss (.lit 0) (.dlen (.var 3))) (.ret 0 (sg 10 [bt 10 (.cmp .geq (.var 6) (.icell (.var 3) (.lit 0) 0))]))))
 (.ret 0 (sg 10 [bt 10 (.bl false)])))
theorem qzC:qk ⟨Tryz.prog,qcf,[],[]⟩ 100000 Tryz.f47 = qqB:=by kernel_rfl
theorem q23 (hd:∀ c ∈ ([]:List Ctr),c.ok Tryz.prog) (h:∀ ρ:Env,ρ.good->(qcf).pre ρ->qqB.den ⟨Tryz.prog,qcf,[],[]⟩ ρ):(qcf).ok Tryz.prog :=
 qe Tryz.func47 (fun a w=>Tryz.call47 a w) hd 100000 (fun ρ hg hp=>by rw [qzC]; exact h ρ hg hp)
def qsH:Out:=(.fresh 10 (.need (.cmp .leq (.lit 0) (.var 6)) (.inv 0 11 (sg 1000 [bt 1003 .dnil,bt 1004 (.lit 0),bt 1002 (.lit 0),bt 1001 (.lit 0),bg 1000 10]) (.fresh 11 (.fresh 12 (.fresh 13 (.fresh 14 (.fresh 15 (.hyp 0 11 (.br (.cmp .lss (.var 15) (.var 6))
 (.need (.cmp .leq (.lit 0) (.var 15)) (.need (.cmp .lss (.var 15) (.dlen (.var 8))) (.fresh 16 (.fresh 17 (.need (.cmp .eql (.var 12) (.dlen (.var 14))) (.need (.cmp .leq (.tims (.lit 8) (.plus (.var 12) (.lit 1))) (.lit 140737488355328)) (.fresh 18 (.fresh 19 (.back 0 11 (sg 1000 [bt 1003 (.dapp (.var 14) (.rcons (.vint .i64 (.icell (.var 8) (.var 15) 0)) .rnil)),bt 1004 (.arith .add .i64 (.var 15) (.lit 1)),bv 1002 19,bt 1001 (.plus (.var 12) (.lit 1)),bg 1000 18]))))))))))
 (.ret 0 (sg 10 [bv 13 14,bv 12 13,bv 11 12,bg 10 11]))))))))))))
theorem q0c:qk ⟨Tryz.prog,qdj,[],[qxF]⟩ 100000 Tryz.f55 = qsH:=by kernel_rfl
theorem q5X (hd:∀ c ∈ ([]:List Ctr),c.ok Tryz.prog) (h:∀ ρ:Env,ρ.good->(qdj).pre ρ->qsH.den ⟨Tryz.prog,qdj,[],[qxF]⟩ ρ):(qdj).ok Tryz.prog :=
 qe Tryz.func55 (fun a w=>Tryz.call55 a w) hd 100000 (fun ρ hg hp=>by rw [q0c]; exact h ρ hg hp)
def qnI:Out:=(.br (.and (.cmp .eql (.dlen (.var 3)) (.lit 0)) (.isnil 0))
 (.need (.cmp .eql (.var 1) (.lit 0)) (.ret 0 (sg 5 [bt 7 .dnil,bt 6 (.lit 0),(5,.nil)])))
 (.fresh 5 (.need (.cmp .leq (.lit 0) (.var 1)) (.need (.cmp .leq (.var 1) (.dlen (.var 3))) (.need (.cmp .leq (.tims (.lit 32) (.var 1)) (.lit 140737488355328)) (.fresh 6 (.fresh 7 (.ret 0 (sg 5 [bt 7 (.dtake (.var 3) (.var 1)),bv 6 7,bg 5 6])))))))))
theorem qw7:qk ⟨Tryz.prog,qd1,[],[]⟩ 100000 Tryz.f90 = qnI:=by kernel_rfl
theorem q0I (hd:∀ c ∈ ([]:List Ctr),c.ok Tryz.prog) (h:∀ ρ:Env,ρ.good->(qd1).pre ρ->qnI.den ⟨Tryz.prog,qd1,[],[]⟩ ρ):(qd1).ok Tryz.prog :=
 qe Tryz.func90 (fun a w=>Tryz.call90 a w) hd 100000 (fun ρ hg hp=>by rw [qw7]; exact h ρ hg hp)
@[simp] def qip:Sg:=sg 0 [bg 9 9,bv 8 8,bv 4 4,bv 3 3,bv 7 7,bv 6 6,bg 5 5,bg 2 2,bt 1 (r8 1),bg 0 0]
@[simp] def qrr:Sg:=sg 0 [bv 11 27,bv 9 19,bv 8 18,bv 7 17,bv 6 16,bg 5 15,bv 3 13,bv 2 12,bv 1 11,bv 0 10,bt 4 (r8 14),bg 10 26]
@[simp] def qrk:Sg:=sg 0 [bv 17 27,bv 15 25,bv 14 24,bv 9 19,bv 8 18,bv 13 23,bv 12 22,bg 11 21,bv 10 20,bv 7 17,bv 6 16,bg 5 15,bv 3 13,bv 2 12,bv 1 11,bv 0 10,bt 4 (r8 14),bg 16 26]
def qpD:Out:=(.fresh 28 (.fresh 29 (.pre 0 qrr (.both (.fresh 30 (.fresh 31 (.post 0 0 qrr 30 (.fresh 32 (.br (.cmp .neq (.var 31) (.lit 0))
 (.pack [.cells 32 24 [(x8 0 30),(x8 1 30),(x8 2 30),(x8 3 30),(x8 4 30),(x8 5 30),(x8 6 30),(x8 7 30),(x8 8 30),(x8 9 30),(x8 10 30),(x8 11 30),(x8 12 30),(x8 13 30),(x8 14 30),(x8 15 30),(x8 16 30),(x8 17 30),(x8 18 30),(x8 19 30),(x8 20 30),(x8 21 30),(x8 22 30),(x8 23 30),(x8 24 30),(x8 25 30),(x8 26 30),(x8 27 30),(x8 28 30),(x8 29 30),(x8 30 30),(x8 31 30)],.cells 29 86 [(.vint .i64 (.var 20)),(.vslice 21 (.lit 0) (.var 22) (.var 23) 1)],.cells 28 27 [(.vint .i64 (.var 10)),(.vint .i64 (.var 11)),(.vint .i64 (.var 12)),(.vint .i64 (.var 13)),(x8 0 14),(x8 1 14),(x8 2 14),(x8 3 14),(x8 4 14),(x8 5 14),(x8 6 14),(x8 7 14),(x8 8 14),(x8 9 14),(x8 10 14),(x8 11 14),(x8 12 14),(x8 13 14),(x8 14 14),(x8 15 14),(x8 16 14),(x8 17 14),(x8 18 14),(x8 19 14),(x8 20 14),(x8 21 14),(x8 22 14),(x8 23 14),(x8 24 14),(x8 25 14),(x8 26 14),(x8 27 14),(x8 28 14),(x8 29 14),(x8 30 14),(x8 31 14),(.vslice 15 (.lit 0) (.var 16) (.var 17) 32)],.abs 9 20] 33 (.ret 0 (sg 28 [bg 35 33,bv 34 8,bv 30 4,bv 29 3,bv 33 7,bv 32 6,bg 31 5,bg 28 2,bv 36 31])))
 (.br (.not (.c2 .req (r8 30) (r8 1)))
 (.pack [.cells 32 24 [(x8 0 30),(x8 1 30),(x8 2 30),(x8 3 30),(x8 4 30),(x8 5 30),(x8 6 30),(x8 7 30),(x8 8 30),(x8 9 30),(x8 10 30),(x8 11 30),(x8 12 30),(x8 13 30),(x8 14 30),(x8 15 30),(x8 16 30),(x8 17 30),(x8 18 30),(x8 19 30),(x8 20 30),(x8 21 30),(x8 22 30),(x8 23 30),(x8 24 30),(x8 25 30),(x8 26 30),(x8 27 30),(x8 28 30),(x8 29 30),(x8 30 30),(x8 31 30)],.cells 29 86 [(.vint .i64 (.var 20)),(.vslice 21 (.lit 0) (.var 22) (.var 23) 1)],.cells 28 27 [(.vint .i64 (.var 10)),(.vint .i64 (.var 11)),(.vint .i64 (.var 12)),(.vint .i64 (.var 13)),(x8 0 14),(x8 1 14),(x8 2 14),(x8 3 14),(x8 4 14),(x8 5 14),(x8 6 14),(x8 7 14),(x8 8 14),(x8 9 14),(x8 10 14),(x8 11 14),(x8 12 14),(x8 13 14),(x8 14 14),(x8 15 14),(x8 16 14),(x8 17 14),(x8 18 14),(x8 19 14),(x8 20 14),(x8 21 14),(x8 22 14),(x8 23 14),(x8 24 14),(x8 25 14),(x8 26 14),(x8 27 14),(x8 28 14),(x8 29 14),(x8 30 14),(x8 31 14),(.vslice 15 (.lit 0) (.var 16) (.var 17) 32)],.abs 9 20] 33 (.ret 0 (sg 28 [bg 35 33,bv 34 8,bv 30 4,bv 29 3,bv 33 7,bv 32 6,bg 31 5,bg 28 2,bt 36 (.lit 20)])))
 (.pre 1 qrk (.both (.fresh 33 (.post 1 0 qrk 33 (.br (.cmp .neq (.var 33) (.lit 0))
 (.pack [.cells 32 24 [(x8 0 30),(x8 1 30),(x8 2 30),(x8 3 30),(x8 4 30),(x8 5 30),(x8 6 30),(x8 7 30),(x8 8 30),(x8 9 30),(x8 10 30),(x8 11 30),(x8 12 30),(x8 13 30),(x8 14 30),(x8 15 30),(x8 16 30),(x8 17 30),(x8 18 30),(x8 19 30),(x8 20 30),(x8 21 30),(x8 22 30),(x8 23 30),(x8 24 30),(x8 25 30),(x8 26 30),(x8 27 30),(x8 28 30),(x8 29 30),(x8 30 30),(x8 31 30)],.cells 29 86 [(.vint .i64 (.var 20)),(.vslice 21 (.lit 0) (.var 22) (.var 23) 1)],.cells 28 27 [(.vint .i64 (.var 10)),(.vint .i64 (.var 11)),(.vint .i64 (.var 12)),(.vint .i64 (.var 13)),(x8 0 14),(x8 1 14),(x8 2 14),(x8 3 14),(x8 4 14),(x8 5 14),(x8 6 14),(x8 7 14),(x8 8 14),(x8 9 14),(x8 10 14),(x8 11 14),(x8 12 14),(x8 13 14),(x8 14 14),(x8 15 14),(x8 16 14),(x8 17 14),(x8 18 14),(x8 19 14),(x8 20 14),(x8 21 14),(x8 22 14),(x8 23 14),(x8 24 14),(x8 25 14),(x8 26 14),(x8 27 14),(x8 28 14),(x8 29 14),(x8 30 14),(x8 31 14),(.vslice 15 (.lit 0) (.var 16) (.var 17) 32)],.abs 9 20] 34 (.ret 0 (sg 28 [bg 35 34,bv 34 8,bv 30 4,bv 29 3,bv 33 7,bv 32 6,bg 31 5,bg 28 2,bv 36 33])))
 (.both (.pre 2 qip (.both (.fresh 34 (.fresh 35 (.fresh 36 (.fresh 37 (.post 2 0 qip 34 (.both (.pre 3 (sg 0 [bv 4 36,bv 3 37,bv 5 20,bv 2 36,bv 1 35,bg 0 34]) (.both (.fresh 38 (.post 3 0 (sg 0 [bv 4 36,bv 3 37,bv 5 20,bv 2 36,bv 1 35,bg 0 34]) 38 (.br (.var 38)
 (.pack [.arr 34 3 [CK.int .i64] (.var 37) (.var 36),.cells 32 24 [(x8 0 30),(x8 1 30),(x8 2 30),(x8 3 30),(x8 4 30),(x8 5 30),(x8 6 30),(x8 7 30),(x8 8 30),(x8 9 30),(x8 10 30),(x8 11 30),(x8 12 30),(x8 13 30),(x8 14 30),(x8 15 30),(x8 16 30),(x8 17 30),(x8 18 30),(x8 19 30),(x8 20 30),(x8 21 30),(x8 22 30),(x8 23 30),(x8 24 30),(x8 25 30),(x8 26 30),(x8 27 30),(x8 28 30),(x8 29 30),(x8 30 30),(x8 31 30)],.cells 29 86 [(.vint .i64 (.var 20)),(.vslice 21 (.lit 0) (.var 22) (.var 23) 1)],.cells 28 27 [(.vint .i64 (.var 10)),(.vint .i64 (.var 11)),(.vint .i64 (.var 12)),(.vint .i64 (.var 13)),(x8 0 14),(x8 1 14),(x8 2 14),(x8 3 14),(x8 4 14),(x8 5 14),(x8 6 14),(x8 7 14),(x8 8 14),(x8 9 14),(x8 10 14),(x8 11 14),(x8 12 14),(x8 13 14),(x8 14 14),(x8 15 14),(x8 16 14),(x8 17 14),(x8 18 14),(x8 19 14),(x8 20 14),(x8 21 14),(x8 22 14),(x8 23 14),(x8 24 14),(x8 25 14),(x8 26 14),(x8 27 14),(x8 28 14),(x8 29 14),(x8 30 14),(x8 31 14),(.vslice 15 (.lit 0) (.var 16) (.var 17) 32)],.abs 9 20] 39 (.ret 0 (sg 28 [bg 35 39,bv 34 8,bv 30 4,bv 29 3,bv 33 7,bv 32 6,bg 31 5,bg 28 2,bt 36 (.lit 7)])))
 (.pre 4 qip (.both (.fresh 39 (.post 4 0 qip 39 (.br (.var 39)
 (.pack [.arr 34 3 [CK.int .i64] (.var 37) (.var 36),.cells 32 24 [(x8 0 30),(x8 1 30),(x8 2 30),(x8 3 30),(x8 4 30),(x8 5 30),(x8 6 30),(x8 7 30),(x8 8 30),(x8 9 30),(x8 10 30),(x8 11 30),(x8 12 30),(x8 13 30),(x8 14 30),(x8 15 30),(x8 16 30),(x8 17 30),(x8 18 30),(x8 19 30),(x8 20 30),(x8 21 30),(x8 22 30),(x8 23 30),(x8 24 30),(x8 25 30),(x8 26 30),(x8 27 30),(x8 28 30),(x8 29 30),(x8 30 30),(x8 31 30)],.cells 29 86 [(.vint .i64 (.var 20)),(.vslice 21 (.lit 0) (.var 22) (.var 23) 1)],.cells 28 27 [(.vint .i64 (.var 10)),(.vint .i64 (.var 11)),(.vint .i64 (.var 12)),(.vint .i64 (.var 13)),(x8 0 14),(x8 1 14),(x8 2 14),(x8 3 14),(x8 4 14),(x8 5 14),(x8 6 14),(x8 7 14),(x8 8 14),(x8 9 14),(x8 10 14),(x8 11 14),(x8 12 14),(x8 13 14),(x8 14 14),(x8 15 14),(x8 16 14),(x8 17 14),(x8 18 14),(x8 19 14),(x8 20 14),(x8 21 14),(x8 22 14),(x8 23 14),(x8 24 14),(x8 25 14),(x8 26 14),(x8 27 14),(x8 28 14),(x8 29 14),(x8 30 14),(x8 31 14),(.vslice 15 (.lit 0) (.var 16) (.var 17) 32)],.abs 9 20] 40 (.ret 0 (sg 28 [bg 35 40,bv 34 8,bv 30 4,bv 29 3,bv 33 7,bv 32 6,bg 31 5,bg 28 2,bt 36 (.lit 8)])))
 (.pre 5 (sg 0 [bv 4 19,bv 3 18,bv 2 17,bv 1 16,bg 0 15]) (.both (.fresh 40 (.fresh 41 (.fresh 42 (.post 5 0 (sg 0 [bv 4 19,bv 3 18,bv 2 17,bv 1 16,bg 0 15]) 40 (.both (.pre 6 (sg 0 [bv 4 25,bv 3 24,bv 2 23,bv 1 22,bg 0 21]) (.both (.fresh 43 (.fresh 44 (.fresh 45 (.post 6 0 (sg 0 [bv 4 25,bv 3 24,bv 2 23,bv 1 22,bg 0 21]) 43 (.both (.both (.fresh 46 (.both (.need (.cmp .eql (.var 6) (.dlen (.var 8))) (.need (.cmp .leq (.tims (.lit 32) (.plus (.var 6) (.lit 1))) (.lit 140737488355328)) (.fresh 47 (.fresh 48 (.both (.both (.both (.pack [.cells 46 86 [(.vint .i64 (.var 20)),(.vslice 43 (.lit 0) (.var 22) (.var 44) 1)],.arr 43 5 [CK.int .u8] (.var 45) (.var 44),.arr 40 24 [CK.int .u8,CK.int .u8,CK.int .u8,CK.int .u8,CK.int .u8,CK.int .u8,CK.int .u8,CK.int .u8,CK.int .u8,CK.int .u8,CK.int .u8,CK.int .u8,CK.int .u8,CK.int .u8,CK.int .u8,CK.int .u8,CK.int .u8,CK.int .u8,CK.int .u8,CK.int .u8,CK.int .u8,CK.int .u8,CK.int .u8,CK.int .u8,CK.int .u8,CK.int .u8,CK.int .u8,CK.int .u8,CK.int .u8,CK.int .u8,CK.int .u8,CK.int .u8] (.var 42) (.var 41),.arr 34 3 [CK.int .i64] (.var 37) (.var 36),.cells 32 24 [(x8 0 30),(x8 1 30),(x8 2 30),(x8 3 30),(x8 4 30),(x8 5 30),(x8 6 30),(x8 7 30),(x8 8 30),(x8 9 30),(x8 10 30),(x8 11 30),(x8 12 30),(x8 13 30),(x8 14 30),(x8 15 30),(x8 16 30),(x8 17 30),(x8 18 30),(x8 19 30),(x8 20 30),(x8 21 30),(x8 22 30),(x8 23 30),(x8 24 30),(x8 25 30),(x8 26 30),(x8 27 30),(x8 28 30),(x8 29 30),(x8 30 30),(x8 31 30)],.cells 29 86 [(.vint .i64 (.var 20)),(.vslice 21 (.lit 0) (.var 22) (.var 23) 1)],.arr 2 27 [CK.int .i64,CK.int .i64,CK.int .i64,CK.int .i64,CK.int .u8,CK.int .u8,CK.int .u8,CK.int .u8,CK.int .u8,CK.int .u8,CK.int .u8,CK.int .u8,CK.int .u8,CK.int .u8,CK.int .u8,CK.int .u8,CK.int .u8,CK.int .u8,CK.int .u8,CK.int .u8,CK.int .u8,CK.int .u8,CK.int .u8,CK.int .u8,CK.int .u8,CK.int .u8,CK.int .u8,CK.int .u8,CK.int .u8,CK.int .u8,CK.int .u8,CK.int .u8,CK.int .u8,CK.int .u8,CK.int .u8,CK.int .u8,CK.any] (.var 3) (.var 4),.abs 9 20] 49 (.ret 0 (sg 28 [bg 35 49,bt 34 (.dapp (.var 8) (.rcons (.vint .i64 (.var 20)) (.rcons (.vslice 43 (.lit 0) (.var 22) (.var 44) 1) .rnil))),bt 30 (.lit 1),bt 29 (.rcons (.vint .i64 (.var 10)) (.rcons (.vint .i64 (.var 11)) (.rcons (.vint .i64 (.var 12)) (.rcons (.vint .i64 (.var 13)) (.rcons (x8 0 14) (.rcons (x8 1 14) (.rcons (x8 2 14) (.rcons (x8 3 14) (.rcons (x8 4 14) (.rcons (x8 5 14) (.rcons (x8 6 14) (.rcons (x8 7 14) (.rcons (x8 8 14) (.rcons (x8 9 14) (.rcons (x8 10 14) (.rcons (x8 11 14) (.rcons (x8 12 14) (.rcons (x8 13 14) (.rcons (x8 14 14) (.rcons (x8 15 14) (.rcons (x8 16 14) (.rcons (x8 17 14) (.rcons (x8 18 14) (.rcons (x8 19 14) (.rcons (x8 20 14) (.rcons (x8 21 14) (.rcons (x8 22 14) (.rcons (x8 23 14) (.rcons (x8 24 14) (.rcons (x8 25 14) (.rcons (x8 26 14) (.rcons (x8 27 14) (.rcons (x8 28 14) (.rcons (x8 29 14) (.rcons (x8 30 14) (.rcons (x8 31 14) (.rcons (.vslice 40 (.lit 0) (.var 16) (.var 41) 32) .rnil))))))))))))))))))))))))))))))))))))),bv 33 48,bt 32 (.plus (.var 6) (.lit 1)),bg 31 47,bg 28 28,bt 36 (.lit 0)]))) .top) .top) .top))))) .top)) .top) .top))))) .top)) .top))))) .top))))) .top))))) .top)) .top)))))) .top)) .top)))) .top)))))))) .top))))
theorem qxH:qk ⟨Tryz.prog,qdV,[idC,qdy,qdj,qaG,qcf,qd1,qbI],[]⟩ 100000 Tryz.f48 = qpD:=by kernel_rfl
theorem q48 (hd:∀ c ∈ ([idC,qdy,qdj,qaG,qcf,qd1,qbI]:List Ctr),c.ok Tryz.prog) (h:∀ ρ:Env,ρ.good->(qdV).pre ρ->qpD.den ⟨Tryz.prog,qdV,[idC,qdy,qdj,qaG,qcf,qd1,qbI],[]⟩ ρ):(qdV).ok Tryz.prog :=
 qe Tryz.func48 (fun a w=>Tryz.call48 a w) hd 100000 (fun ρ hg hp=>by rw [qxH]; exact h ρ hg hp)
end Go.Proofs

set_option linter.unusedSimpArgs false
set_option linter.unusedVariables false
namespace Go.Proofs
open Go Go.Eng
set_option maxRecDepth 20000
theorem q29:qdW.ok Tryz.prog:=q3J (by simp) fun ρ hg hp=>by
 simp (config:={ maxSteps:=4000000 }) [qqv,qdW]
theorem q1D:qd1.ok Tryz.prog:=q0I (by simp) fun ρ hg hp=>by
 obtain ⟨h0,hl,h1⟩:=hp
 simp (config:={ maxSteps:=4000000 }) [qnI,qd1,hl]
 exact ⟨fun h _=>h,fun _=>by omega⟩
section
variable {h:Hp} {r:Option Addr} {d P:qd} {c n:Int} {M M':Option ManV} {L L':PcL}
theorem q2X (h1:qo1 h P L) (h2:qo1 h P L'):L = L':=by
 refine List.ext_getElem? fun j=>?_
 by_cases hj:j < P.length
 ·have e:=(h1.2.2 j hj).symm.trans (h2.2.2 j hj)
  rw [List.getD_eq_getElem?_getD,List.getD_eq_getElem?_getD,List.getElem?_eq_getElem (by have:=h1.1; omega),List.getElem?_eq_getElem (by have:=h2.1; omega)] at e
  rw [List.getElem?_eq_getElem (by have:=h1.1; omega),List.getElem?_eq_getElem (by have:=h2.1; omega)]
  exact congrArg some e
 ·rw [List.getElem?_eq_none (by have:=h1.1; omega),List.getElem?_eq_none (by have:=h2.1; omega)]
theorem q2O {m m':ManV} (h1:qhU h d m) (h2:qhU h d m'):m = m':=by
 obtain ⟨row,D,e,hf,hr,hD,a1,a2,a3,a4,a5,a6,_,_⟩:=h1
 obtain ⟨row',D',e',hf',hr',hD',b1,b2,b3,b4,b5,b6,_,_⟩:=h2
 rw [e] at e'
 simp only [List.cons.injEq,and_true] at e'
 subst e'
 obtain rfl:=qr5 hr hr'
 obtain ⟨k,n,t,s,o,D1⟩:=m
 obtain ⟨k',n',t',s',o',D1'⟩:=m'
 simp only at a1 a2 a3 a4 a5 a6 b1 b2 b3 b4 b5 b6
 simp only [ManV.mk.injEq]
 exact ⟨by rw [<- a2,<- b2],by rw [<- a3,<- b3],by rw [<- a4,<- b4],by rw [<- a5,<- b5],by rw [<- a6,<- b6],by rw [<- a1,<- b1]⟩
theorem qqw (h1:qbL h r d c n P M L) (h2:qbL h r d c n P M' L'):M' = M/\L' = L:=by
 obtain ⟨_,p1,_,_,q1⟩:=h1
 obtain ⟨_,p2,_,_,q2⟩:=h2
 refine ⟨?_,(q2X p1 p2).symm⟩
 rcases q1 with ⟨rfl,_,c0,_⟩ | ⟨m,rfl,c1,hm,_⟩ <;> rcases q2 with ⟨rfl,_,c0',_⟩ | ⟨m',rfl,c1',hm',_⟩
 ·rfl
 ·omega
 ·omega
 ·rw [q2O hm hm']
theorem q78 (h1:qbL h r d c n P M L):qgO P P.length = L.map Prod.fst:=by
 obtain ⟨_,p1,_⟩:=h1
 refine List.ext_getElem? fun j=>?_
 by_cases hj:j < P.length
 ·have e:=congrArg Prod.fst (p1.2.2 j hj)
  rw [List.getD_eq_getElem?_getD,List.getElem?_eq_getElem (by have:=p1.1; omega)] at e
  rw [qgO,List.getElem?_map,List.getElem?_range hj,List.getElem?_map,List.getElem?_eq_getElem (by have:=p1.1; omega)]
  exact congrArg some e
 ·rw [List.getElem?_eq_none (by simp [qgO]; omega),List.getElem?_eq_none (by rw [List.length_map]; have:=p1.1; omega)]
theorem q3e {i:Nat}:qgO P (i + 1) = qgO P i ++ [pcI P i]:=by
 unfold qgO
 rw [List.range_succ,List.map_append]; rfl
end
theorem qte:qcf.ok Tryz.prog:=q23 (by simp) fun ρ hg hp=>by
 obtain ⟨M,L,h⟩:=hp
 simp (config:={ maxSteps:=4000000 }) [qqB,qcf,gaB]
 have h0:qbL (ρ 9).h (ρ 2).r (ρ 3).d (ρ 4).i (ρ 6).i (ρ 8).d M L:=h
 obtain ⟨hn,hp,_,_,hc⟩:=h
 rcases hc with ⟨rfl,hr,c0,hd,hL⟩ | ⟨m,rfl,c1,hm,hL⟩
 ·refine ⟨fun hcon=>?_,fun _ _ M' L' h'=>?_⟩
  ·rw [hd,hr] at hcon; simp at hcon
  ·obtain ⟨rfl,rfl⟩:=qqw h0 h'; rfl
 ·obtain ⟨row,D,e,hf,hrd,hD,a1,a2,_⟩:=hm
  have e:(ρ 3).d = [row]:=e
  refine ⟨fun _=>⟨by have hn':(ρ 6).i = ((ρ 8).d.length:Int):=hn; omega,by rw [e]; exact Nat.one_pos,fun M' L' h'=>?_⟩,fun hd _=>by rw [e] at hd; cases hd⟩
  obtain ⟨rfl,rfl⟩:=qqw h0 h'
  have hk:qg (ρ 3).d 0 0 = m.k:=by rw [<- a2,e]; rfl
  have hn':(ρ 6).i = ((ρ 8).d.length:Int):=hn
  have hp1:(ρ 8).d.length = L'.length:=hp.1
  rw [hk,hn',hp1]; rfl
theorem qwY:qdj.ok Tryz.prog:=q5X (by simp) fun ρ hg hp=>by
 obtain ⟨M,L,h⟩:=hp
 have h0:qbL (ρ 9).h (ρ 2).r (ρ 3).d (ρ 4).i (ρ 6).i (ρ 8).d M L:=h
 obtain ⟨hn,hp,_,h255,hc⟩:=h
 have hpl:=hp.1
 simp (config:={ maxSteps:=4000000 }) [qsH,qdj,qxF,qdS,gaB]
 have hn:(ρ 6).i = ((ρ 8).d.length:Int):=hn
 have hpl:(ρ 8).d.length = L.length:=hpl
 refine ⟨by omega,⟨by omega,rfl⟩,fun a _ D _ i _ i0 i1 ha hD hr=>⟨fun hi=>?_,fun hi M' L' h'=>?_⟩⟩
 ·have hDl:D.d.length = i.i.toNat:=by
   have:=congrArg List.length hD
   rw [qcc] at this
   simpa [qgO] using this
  have hnx:(qc .add .i64 i.i 1).toNat = i.i.toNat + 1:=by rw [qcM i0 (by omega)]; omega
  refine ⟨i0,by omega,ha,by omega,⟨by rw [qcM i0 (by omega)]; omega,by rw [qcM i0 (by omega)]; omega,ha,?_,fun row h=>qpS h hr⟩,by rw [qcM i0 (by omega)]; omega⟩
  rw [hnx,q3e,qkD,hD]
  unfold pcI
  rw [Int.toNat_of_nonneg i0]
 ·obtain ⟨rfl,rfl⟩:=qqw h0 h'
  refine ⟨ha,?_,hr⟩
  rw [hD,<- q78 h0,show i.i.toNat = (ρ 8).d.length by omega]
section
variable {h h':Hp} {r:Option Addr} {d P:qd} {c n e i:Int} {M:Option ManV} {L:PcL} {o b:List Int} {m:ManV}
theorem q34 (h1:qo1 h P L) (hl:Hp.le h h'):qo1 h' P L:=by
 refine ⟨h1.1,fun j hj=>?_,fun j hj=>?_⟩
 ·obtain ⟨i,v,d,e1,e2,e3⟩:=h1.2.1 j hj
  exact ⟨i,v,d,e1,qiX e2 hl,e3⟩
 ·rw [<- h1.2.2 j hj]
  obtain ⟨i,v,d,e1,e2,e3⟩:=h1.2.1 j hj
  have hv:qJ P j 1 = v:=by simp only [qJ,Int.toNat_natCast,e1,Option.getD_some]; rfl
  unfold pcD
  rw [hv,qjs e2,qjs (qiX e2 hl)]
theorem q40 (h1:qhU h d m) (hl:Hp.le h h'):qhU h' d m:=by
 obtain ⟨row,D,e,hf,hr,hx⟩:=h1
 exact ⟨row,D,e,hf,qiX hr hl,hx⟩
theorem qqk (h1:qbL h r d c n P M L) (hl:Hp.le h h'):qbL h' r d c n P M L:=by
 obtain ⟨a1,a2,a3,a4,a5⟩:=h1
 refine ⟨a1,q34 a2 hl,a3,a4,?_⟩
 rcases a5 with a5 | ⟨m,b1,b3,b4,b5⟩
 ·exact .inl a5
 ·exact .inr ⟨m,b1,b3,q40 b4 hl,b5⟩
theorem q7k (h1:qbL h r d c n P M L) (hl:Hp.le h h') (hne:¬ e = 0):qbL h' r d c n P (if e = 0 then some m else M) (if e = 0 then L ++ [(i,b)] else L):=by
 rw [if_neg hne,if_neg hne]; exact qqk h1 hl
section
variable {k n' t s l u:Int} {O R S z:List Int} {D J:qd} {x y:Bool}
theorem qjm (hl:l = (D.length:Int)):ManV.ok ⟨k,n',t,s,O,dgs D⟩ = qF k n' t s l:=by
 unfold ManV.ok
 rw [hl]; simp [dgs]
theorem q8d (hl:l = (D.length:Int)) (hid:(qF k n' t s l = false/\e = 2/\R = z)∨(qF k n' t s l = true/\e = 0/\R = S)) (hne:¬ e = 0):e = qgd o M L ⟨k,n',t,s,O,dgs D⟩ i b:=by
 rcases hid with ⟨h1,h2,_⟩ | ⟨_,h2,_⟩
 ·unfold qgd; rw [qjm hl,if_pos h1,h2]
 ·exact absurd h2 hne
theorem qoC (hid:(qF k n' t s l = false/\e = 2/\R = z)∨(qF k n' t s l = true/\e = 0/\R = S)) (he:e = 0):qF k n' t s l = true/\R = S:=by
 rcases hid with ⟨_,h2,_⟩ | ⟨h1,_,h3⟩
 ·omega
 ·exact ⟨h1,h3⟩
theorem q6C (hl:l = (D.length:Int)) (hid:(qF k n' t s l = false/\e = 2/\R = z)∨(qF k n' t s l = true/\e = 0/\R = sha (qa6 k n' t s O ++ (dgs D).flatten))) (he:e = 0) (hR:¬ R = o):20 = qgd o M L ⟨k,n',t,s,O,dgs D⟩ i b:=by
 obtain ⟨h1,h2⟩:=qoC hid he
 unfold qgd
 rw [qjm hl,if_neg (by rw [h1]; simp),if_pos (by show sha (qa6 k n' t s O ++ (dgs D).flatten) ≠ o; rw [<- h2]; exact hR)]
theorem q7U (hl:l = (D.length:Int)) (hid:(qF k n' t s l = false/\e = 2/\R = z)∨(qF k n' t s l = true/\e = 0/\R = sha (qa6 k n' t s O ++ (dgs D).flatten))) (he:e = 0) (hR:R = o) (hc:u = qbY k n' t s l (dgs D) i b) (hne:¬ u = 0):u = qgd o M L ⟨k,n',t,s,O,dgs D⟩ i b:=by
 obtain ⟨h1,h2⟩:=qoC hid he
 have hl':(((dgs D).length:Nat):Int) = l:=by rw [hl]; simp [dgs]
 unfold qgd
 simp only [hl']
 rw [qjm hl,if_neg (by rw [h1]; simp),if_neg (fun h=>h (by rw [<- hR,h2]; rfl)),if_pos (by rw [<- hc]; exact hne),hc]
theorem qut (hl:l = (D.length:Int)) (hid:(qF k n' t s l = false/\e = 2/\R = z)∨(qF k n' t s l = true/\e = 0/\R = sha (qa6 k n' t s O ++ (dgs D).flatten))) (he:e = 0) (hR:R = o) (hc:u = qbY k n' t s l (dgs D) i b) (hu:u = 0):qgd o M L ⟨k,n',t,s,O,dgs D⟩ i b = if i ∈ L.map Prod.fst then 7 else if qgH M L then 8 else 0:=by
 obtain ⟨h1,h2⟩:=qoC hid he
 have hl':(((dgs D).length:Nat):Int) = l:=by rw [hl]; simp [dgs]
 unfold qgd
 simp only [hl']
 rw [qjm hl,if_neg (by rw [h1]; simp),if_neg (fun h=>h (by rw [<- hR,h2]; rfl)),if_neg (by rw [<- hc,hu]; simp)]
theorem qnK (hq:∀ (M:Option ManV) (L:PcL),qbL h r d c n P M L->u = (J.length:Int)/\qu J = L.map Prod.fst/\∀ row,row ∈ J->row.length = 1) (h1:qbL h r d c n P M L):u = (J.length:Int)/\u <= 1000/\qu J = L.map Prod.fst/\∀ row,row ∈ J->row.length = 1:=by
 obtain ⟨a,b,e⟩:=hq M L h1
 refine ⟨a,?_,b,e⟩
 have h2:=congrArg List.length b
 rw [qcc,List.length_map] at h2
 have:=h1.2.2.2.1
 omega
theorem q8g (hl:l = (D.length:Int)) (hid:(qF k n' t s l = false/\e = 2/\R = z)∨(qF k n' t s l = true/\e = 0/\R = sha (qa6 k n' t s O ++ (dgs D).flatten))) (he:e = 0) (hR:R = o) (hc:u = qbY k n' t s l (dgs D) i b) (hu:u = 0) {u':Int}
  (hq:∀ (M:Option ManV) (L:PcL),qbL h r d c n P M L->u' = (J.length:Int)/\qu J = L.map Prod.fst/\∀ row,row ∈ J->row.length = 1) (h1:qbL h r d c n P M L) (hx:x = decide (i ∈ qu J)) (ht:x = true):7 = qgd o M L ⟨k,n',t,s,O,dgs D⟩ i b:=by
 rw [qut hl hid he hR hc hu,if_pos]
 rw [<- (hq M L h1).2.1]; exact q8b hx ht
theorem q8h (hl:l = (D.length:Int)) (hid:(qF k n' t s l = false/\e = 2/\R = z)∨(qF k n' t s l = true/\e = 0/\R = sha (qa6 k n' t s O ++ (dgs D).flatten))) (he:e = 0) (hR:R = o) (hc:u = qbY k n' t s l (dgs D) i b) (hu:u = 0) {u':Int}
  (hq:∀ (M:Option ManV) (L:PcL),qbL h r d c n P M L->u' = (J.length:Int)/\qu J = L.map Prod.fst/\∀ row,row ∈ J->row.length = 1) (h1:qbL h r d c n P M L) (hx:x = decide (i ∈ qu J)) (ht:x = false) (hr:∀ (M:Option ManV) (L:PcL),qbL h r d c n P M L->y = qgH M L):qgd o M L ⟨k,n',t,s,O,dgs D⟩ i b = if y then 8 else 0:=by
 rw [qut hl hid he hR hc hu,if_neg,<- hr M L h1]
 rw [<- (hq M L h1).2.1]; exact qzq hx ht
theorem q6q {v:Value} (hv:v.oneCell' = true) (hRd:Rd h k32 v D) (hD:qf3 D) (hO:qS (qf J 32)) (hok:qF k n' t s l = true) (hl:l = (D.length:Int)) :
  qhU h [[Value.int .i64 k,Value.int .i64 n',Value.int .i64 t,Value.int .i64 s] ++ ((qf J 32).map (Value.int .u8) ++ [v])] ⟨k,n',t,s,qf J 32,dgs D⟩:=by
 refine ⟨_,D,rfl,⟨by simp [quQ,qf],fun c kk w hk hw=>?_⟩,hRd,hD,rfl,rfl,rfl,rfl,rfl,rfl,hO,by rw [qjm hl]; exact hok⟩
 unfold quQ at hk
 rcases Nat.lt_or_ge c 4 with h4 | h4
 ·rw [List.getElem?_append_left (by simpa using h4),List.getElem?_replicate,if_pos h4] at hk
  rw [List.getElem?_append_left (by simpa using h4)] at hw
  obtain rfl:=(Option.some.inj hk).symm
  match c,h4 with
  | 0,_=>obtain rfl:=(Option.some.inj hw).symm; rfl
  | 1,_=>obtain rfl:=(Option.some.inj hw).symm; rfl
  | 2,_=>obtain rfl:=(Option.some.inj hw).symm; rfl
  | 3,_=>obtain rfl:=(Option.some.inj hw).symm; rfl
 ·rw [List.getElem?_append_right (by simpa using h4)] at hk
  rw [List.getElem?_append_right (by simpa using h4)] at hw
  simp only [List.length_replicate,List.length_cons,List.length_nil] at hk hw
  rcases Nat.lt_or_ge (c - 4) 32 with h5 | h5
  ·rw [List.getElem?_append_left (by simpa using h5),List.getElem?_replicate,if_pos h5] at hk
   rw [List.getElem?_append_left (by simp [qf]; omega),List.getElem?_map] at hw
   obtain rfl:=(Option.some.inj hk).symm
   obtain ⟨q,_,rfl⟩:=Option.map_eq_some_iff.1 hw
   rfl
  ·rw [List.getElem?_append_right (by simpa using h5)] at hk
   rw [List.getElem?_append_right (by simp [qf]; omega)] at hw
   simp only [List.length_replicate,List.length_map] at hk hw
   rw [show (qf J 32).length = 32 by simp [qf]] at hw
   match hc:c - 4 - 32,hk with
   | 0,hk =>
    rw [hc] at hw
    obtain rfl:=(Option.some.inj hk).symm
    obtain rfl:=(Option.some.inj hw).symm
    unfold CK.fits; exact hv
   | q + 1,hk=>simp at hk
theorem q7p {v:Value} {B d':qd} {r':Option Addr} {m:ManV} (h1:qbL h r d c n P M L) (hl:Hp.le h h') (hRd:Rd h' kB v B) (hB:q9 B) (hb9:(B.length:Int) <= 9000) (hm:qhU h' d' m) (hy:qgH M L = false):qbL h' r' d' 1 (n + 1) (P ++ [[.int .i64 i,v]]) (some m) (L ++ [(i,bI B)]):=by
 have h2:=qqk h1 hl
 obtain ⟨a1,a2,a3,a4,a5⟩:=h2
 have hlen:L.length < 255:=by
  rcases a5 with ⟨_,_,_,_,rfl⟩ | ⟨m0,rfl,_,hm0,_⟩
  ·decide
  ·obtain ⟨_,_,_,_,_,_,_,_,_,_,_,_,_,hok⟩:=hm0
   unfold qgH at hy
   have hk:=of_decide_eq_false hy
   have hk2:m0.k <= 255:=by
    unfold ManV.ok qF qbd at hok
    simp at hok
    omega
   omega
 have hPl:=a2.1
 refine ⟨by rw [List.length_append,List.length_singleton]; omega,⟨by rw [List.length_append,List.length_append,hPl]; rfl,fun j hj=>?_,fun j hj=>?_⟩,fun x hx=>?_,by rw [List.length_append,List.length_singleton]; omega,.inr ⟨m,rfl,rfl,hm,by simp⟩⟩
 ·rw [List.length_append,List.length_singleton] at hj
  rcases Nat.lt_or_ge j P.length with hjP | hjP
  ·obtain ⟨i0,v0,d0,e1,e2⟩:=a2.2.1 j hjP
   exact ⟨i0,v0,d0,by rw [List.getElem?_append_left hjP]; exact e1,e2⟩
  ·have:j = P.length:=by omega
   subst this
   exact ⟨i,v,B,by rw [List.getElem?_append_right (Nat.le_refl _),Nat.sub_self]; rfl,hRd,hB⟩
 ·rw [List.length_append,List.length_singleton] at hj
  rcases Nat.lt_or_ge j P.length with hjP | hjP
  ·have h3:=a2.2.2 j hjP
   have e1:pcI (P ++ [[.int .i64 i,v]]) j = pcI P j:=by unfold pcI qg qJ; rw [Int.toNat_natCast,List.getElem?_append_left hjP]
   have e2:pcD h' (P ++ [[.int .i64 i,v]]) j = pcD h' P j:=by unfold pcD qJ; rw [Int.toNat_natCast,List.getElem?_append_left hjP]
   rw [e1,e2,h3,List.getD_eq_getElem?_getD,List.getD_eq_getElem?_getD,List.getElem?_append_left (by omega)]
  ·have:j = P.length:=by omega
   subst this
   have e1:pcI (P ++ [[.int .i64 i,v]]) P.length = i:=by unfold pcI qg qJ; rw [Int.toNat_natCast,List.getElem?_append_right (Nat.le_refl _),Nat.sub_self]; rfl
   have e2:pcD h' (P ++ [[.int .i64 i,v]]) P.length = bI B:=by
    unfold pcD qJ
    rw [Int.toNat_natCast,List.getElem?_append_right (Nat.le_refl _),Nat.sub_self]
    exact qjs hRd
   rw [e1,e2,hPl,List.getD_eq_getElem?_getD,List.getElem?_append_right (Nat.le_refl _),Nat.sub_self]; rfl
 ·rcases List.mem_append.1 hx with hx | hx
  ·exact a3 x hx
  ·rw [List.mem_singleton.1 hx,bI_len]; exact hb9
end
end
theorem q55 {h h':Hp} {r r':Option Addr} {d P:qd} {c n e i:Int} {M:Option ManV} {L:PcL} {k n' t s l:Int} {R S z:List Int} {D D' B B' J:qd} {y:Bool} {a a':Option Addr} {x x' q q':Nat} (h1:qbL h r d c n P M L) (hl:Hp.le h h')
  (hid:(qF k n' t s l = false/\e = 2/\R = z)∨(qF k n' t s l = true/\e = 0/\R = S)) (he:e = 0) (hy:∀ (M:Option ManV) (L:PcL),qbL h r d c n P M L->y = qgH M L) (hyf:y = false) (hRb:Rd h' kB (.slice a B'.length q) B') (eB:B' = B) (hRd:Rd h' k32 (.slice a' D'.length q') D') (eD:D' = D)
  (hx:x = B.length) (hx':x' = D.length) (hB:q9 B) (hb9:(B.length:Int) <= 9000) (hD:qf3 D) (hO:qS (qf J 32)) (hml:l = (D.length:Int)) :
  qbL h' r' [[Value.int .i64 k,Value.int .i64 n',Value.int .i64 t,Value.int .i64 s] ++ ((qf J 32).map (Value.int .u8) ++ [.slice a' x' q'])] 1 (n + 1) (P ++ [[.int .i64 i,.slice a x q]]) (some ⟨k,n',t,s,qf J 32,dgs D⟩) (L ++ [(i,bI B)]):=by
 subst eB eD hx hx'
 exact q7p h1 hl hRb hB hb9 (q6q rfl hRd hD hO (qoC hid he).1 hml) (by rw [<- hy M L h1]; exact hyf)
theorem qwU {ρ:Env} {l:List SH} {H:Hp} (r ty d c:Nat) (pat:List CK) (hs:qW ρ l H) (hm:SH.arr r ty pat (.var d) (.var c) ∈ l):Rd H pat (.slice (ql (ρ r).r 0) (ρ d).d.length (ρ c).i.toNat) (ρ d).d:=by
 obtain ⟨hx,hl,hd⟩:=qjF hs hm
 exact q0P hd hl rfl rfl
set_option maxHeartbeats 4000000 in
theorem q4a:qdV.ok Tryz.prog:=q48 (by simp [q4J,q16,qwY,qmK,qte,q1D,qr7]) fun ρ hg hp=>by
 obtain ⟨⟨⟨M,L,h⟩,hO,hMan,hi64,hpa,h9⟩,hGr,hGd⟩:=hp
 have h0:qbL (ρ 9).h (ρ 2).r (ρ 3).d (ρ 4).i (ρ 6).i (ρ 8).d M L:=h
 obtain ⟨q0,q1,q2,q3,hOm,hml,hml2,hD⟩:=hMan
 obtain ⟨p0,p1,p2,p3⟩:=hpa
 simp only [Nat.reduceAdd] at q0 q1 q2 q3 hOm hml hml2 hD p0 p1 p2 p3
 obtain ⟨hn0,hp0,_,h255,_⟩:=id h0
 have hpl0:=hp0.1
 simp (config:={ maxSteps:=4000000 }) [qpD,qdV,idC,qoH,qyu,qdy,qqN,q0f,qdj,qaG,qcf,qd1,qbI,gaB,qco,qbf,qdS,qjZ,qhg,qyV,qvc,qzJ,qiJ,qaY,gOk,hGr,hGd]
 repeat' (first | with_reducible apply And.intro | with_reducible intro _)
 all_goals first
  | assumption
  | omega
  | exact ⟨M,L,h0⟩
  | exact q8d (by assumption) (by assumption) (by assumption)
  | exact q6C (by assumption) (by assumption) (by assumption) (by assumption)
  | exact q8g (by assumption) (by assumption) (by assumption) (by assumption) (by assumption) (by assumption) (by assumption) (by assumption) (by assumption) (by assumption)
  | (rw [q8h (by assumption) (by assumption) (by assumption) (by assumption) (by assumption) (by assumption) (by assumption) (by assumption) (by assumption) (by assumption) (by assumption)]; simp [*]; done)
  | exact (qnK (by assumption) h0).1
  | exact Int.le_trans (qnK (by assumption) h0).2.1 (by decide)
  | exact (qnK (by assumption) h0).2.2.2 _ (by assumption)
  | exact q7U (by assumption) (by assumption) (by assumption) (by assumption) (by assumption) (by assumption)
  | exact q7k (by assumption) (by have h:=qc7 9 20 (by assumption) (by simp); simpa using h) (by assumption)
  | exact qqk (by assumption) (by have h:=qc7 9 20 (by assumption) (by simp); simpa using h)
  | skip
 rename_i hst M1 L1 h1
 have hle:=qc7 9 20 hst (by simp)
 have hRb:=qwU 43 5 45 44 kB hst (by simp [kB])
 have hRd:=qwU 40 24 42 41 k32 hst (by simp [k32])
 simp at hRb hRd hle
 exact q55 (J:=(ρ 14).d) h1 hle (by assumption) (by assumption) (by assumption) (by assumption) hRb (by assumption) hRd (by assumption) (by omega) (by omega) p3 (by omega) hD hOm hml
end Go.Proofs

set_option linter.unusedSimpArgs false
set_option linter.unusedVariables false
set_option maxRecDepth 100000
namespace Go.Proofs
open Go Go.Eng

@[simp] def qb1:T:=.rcons (.vint .u8 (.lit 1)) (.rcons o8 (.rcons o8 (.rcons o8 (.rcons o8 (.rcons o8 (.rcons o8 (.rcons o8 (.rcons o8 (.rcons o8 (.rcons o8 (.rcons o8 (.rcons o8 (.rcons o8 (.rcons o8 (.rcons o8 (.rcons o8 (.rcons o8 (.rcons o8 (.rcons o8 (.rcons o8 (.rcons o8 (.rcons o8 (.rcons o8 (.rcons o8 (.rcons o8 (.rcons o8 (.rcons o8 (.rcons o8 (.rcons o8 (.rcons o8 (.rcons o8 .rnil)))))))))))))))))))))))))))))))
@[simp] def qgf:Sg:=sg 0 [bg 9 68,bv 8 67,bv 4 63,bv 3 62,bv 7 66,bv 6 65,bg 5 64,bg 2 61,bt 1 (s8 40),bg 0 39]
@[simp] def qm6:Sg:=sg 0 [bv 11 1,bv 9 28,bv 8 32,bv 7 28,bt 6 (.lit 1),bg 5 27,bt 3 (.lit 1),bt 2 (.lit 1),bt 1 (.lit 1),bt 0 (.lit 1),bt 4 (r8 26),bg 10 0]
@[simp] def qm9:Sg:=sg 0 [bv 11 1,bt 9 (.lit 1),bt 8 (.rcons (.vint .u8 (.lit 120)) .rnil),bv 1 23,bt 7 (.lit 1),bt 6 (.lit 1),bg 5 24,bt 4 (.lit 1),bt 3 (.lit 1),bt 2 (.lit 1),bg 0 22,bg 10 0]
@[simp] def qmV:Sg:=sg 0 [bv 27 1,bv 25 59,bv 24 60,bv 19 52,bv 18 53,bg 9 48,bv 8 47,bv 4 43,bv 3 42,bv 7 46,bv 6 45,bg 5 44,bg 2 41,bt 1 (r8 40),bv 23 59,bt 22 (.dlen (.var 60)),bg 21 58,bt 20 (.icell (.var 56) (.lit 0) 0),bv 17 52,bt 16 (.lit 1),bg 15 51,bt 13 (.lit 1),bt 12 (.lit 1),bt 11 (.lit 1),bt 10 (.lit 1),bt 14 (r8 50),bg 0 39,bg 26 0]
@[simp] def qpt:Sg:=sg 0 [bv 3 1,bt 1 (.lit 1),bt 0 qb1,bg 2 0]
@[simp] def qoR:Sg:=sg 0 [bv 3 1,bt 1 (.lit 0),bt 0 qb1,bg 2 0]
@[simp] def qoQ:Sg:=sg 0 [bv 3 1,bt 1 (.lit 3),bt 0 qb1,bg 2 0]
@[simp] def qo5:Sg:=sg 0 [bg 5 13,bv 4 12,bt 3 (.lit 5),bt 2 (.icell (.var 6) (.lit 0) 0),bt 1 qb1,bg 0 11]
@[simp] def qpb:Sg:=sg 0 [bv 9 1,bv 7 5,bv 6 6,bv 5 5,bt 4 (.lit 2),bg 3 3,bt 2 (.lit 2),bt 1 (.icell (.var 6) (.lit 2) 0),bt 0 qb1,bg 8 0]
@[simp] def qoT:Sg:=sg 0 [bv 17 1,bt 15 (.lit 0),bt 14 .dnil,bv 10 5,bv 9 6,bg 5 16,bv 4 12,bt 13 (.lit 0),bt 12 (.lit 0),(11,.nil),bv 8 5,bv 7 4,bg 6 3,bt 3 (.lit 17),bt 2 (.icell (.var 6) (.lit 1) 0),bt 1 qb1,bg 0 11,bg 16 0]
@[simp] def qoW:Sg:=sg 0 [bv 17 1,bt 15 (.lit 0),bt 14 .dnil,bv 10 5,bv 9 6,bg 5 14,bv 4 12,bt 13 (.lit 0),bt 12 (.lit 0),(11,.nil),bv 8 5,bv 7 4,bg 6 3,bt 3 (.lit 16),bt 2 (.icell (.var 6) (.lit 1) 0),bt 1 qb1,bg 0 11,bg 16 0]
@[simp] def qoG:Sg:=sg 0 [bv 11 1,bt 6 (.lit 3),bt 5 (.dapp (.rcons (.vint .i64 (.lit 0)) .rnil) (.dapp (.rcons (.vint .i64 (.lit 1)) .rnil) (.rcons (.vint .i64 (.lit 2)) .rnil))),bt 9 (.bl false),bt 8 (.bl true),bt 7 (.lit 3),bt 4 (.lit 3),bt 3 (.lit 3),bg 2 9,bt 1 (.lit 3),bt 0 qb1,bg 10 0]
@[simp] def qou:Sg:=sg 0 [bv 11 1,bt 6 (.lit 3),bt 5 (.dapp (.rcons (.vint .i64 (.lit 0)) .rnil) (.dapp (.rcons (.vint .i64 (.lit 1)) .rnil) (.rcons (.vint .i64 (.lit 2)) .rnil))),bt 9 (.bl false),bt 8 (.bl false),bt 7 (.lit 3),bt 4 (.lit 3),bt 3 (.lit 3),bg 2 7,bt 1 (.lit 1),bt 0 qb1,bg 10 0]
def qnN:Out:=(.fresh 2 (.pre 0 qoQ (.both (.fresh 3 (.fresh 4 (.fresh 5 (.fresh 6 (.post 0 0 qoQ 3 (.need (.cmp .leq (.lit 0) (.var 4)) (.br (.cmp .neq (.var 4) (.lit 3))
 (.stuck 7 0 0)
 (.fresh 7 (.pre 1 qou (.both (.fresh 8 (.post 1 0 qou 8 (.br (.cmp .neq (.var 8) (.lit 1))
 (.stuck 7 0 0)
 (.fresh 9 (.pre 1 qoG (.both (.fresh 10 (.post 1 0 qoG 10 (.br (.cmp .neq (.var 10) (.lit 2))
 (.stuck 7 0 0)
 (.pre 2 (sg 0 []) (.both (.fresh 11 (.fresh 12 (.fresh 13 (.post 2 0 (sg 0 []) 11 (.need (.cmp .lss (.lit 0) (.var 4)) (.need (.cmp .lss (.lit 0) (.dlen (.var 6))) (.both (.pre 3 qo5 (.both (.fresh 14 (.post 3 0 qo5 14 (.need (.cmp .lss (.lit 1) (.var 4)) (.need (.cmp .lss (.lit 1) (.dlen (.var 6))) (.both (.pre 4 qoW (.both (.fresh 15 (.fresh 16 (.post 4 0 qoW 15 (.br (.not (.var 15))
 (.both (.both (.both (.both (.stuck 7 0 0) .top) .top) .top) .top)
 (.both (.pre 4 qoT (.both (.fresh 17 (.fresh 18 (.post 4 0 qoT 17 (.br (.var 17)
 (.both (.both (.both (.stuck 7 0 0) .top) .top) .top)
 (.need (.cmp .lss (.lit 2) (.var 4)) (.need (.cmp .lss (.lit 2) (.dlen (.var 6))) (.know (.cmp .leq (.dlen (.var 6)) (.var 5)) (.need (.cmp .leq (.lit 0) (.var 5)) (.need (.cmp .leq (.lit 2) (.var 5)) (.both (.pre 5 qpb (.both (.fresh 19 (.post 5 0 qpb 19 (.br (.not (.var 19))
 (.both (.both (.stuck 7 0 0) .top) .top)
 (.both (.pre 6 qoR (.both (.fresh 20 (.post 6 0 qoR 20 (.both (.pre 6 qpt (.both (.fresh 21 (.post 6 0 qpt 21 (.br (.c2 .req (r8 20) (r8 21))
 (.stuck 7 0 0)
 (.pre 7 (sg 0 []) (.both (.fresh 22 (.fresh 23 (.post 7 0 (sg 0 []) 22 (.fresh 24 (.fresh 25 (.pre 8 qm9 (.both (.fresh 26 (.fresh 27 (.fresh 28 (.fresh 29 (.fresh 30 (.fresh 31 (.fresh 32 (.fresh 33 (.fresh 34 (.post 8 0 qm9 26 (.fresh 35 (.pre 9 qm6 (.both (.fresh 36 (.fresh 37 (.post 9 0 qm6 36 (.fresh 38 (.both (.pre 10 (sg 0 [bt 0 (r8 36)]) (.both (.fresh 39 (.post 10 0 (sg 0 [bt 0 (r8 36)]) 39 (.pack [.cells 38 24 [(x8 0 36),(x8 1 36),(x8 2 36),(x8 3 36),(x8 4 36),(x8 5 36),(x8 6 36),(x8 7 36),(x8 8 36),(x8 9 36),(x8 10 36),(x8 11 36),(x8 12 36),(x8 13 36),(x8 14 36),(x8 15 36),(x8 16 36),(x8 17 36),(x8 18 36),(x8 19 36),(x8 20 36),(x8 21 36),(x8 22 36),(x8 23 36),(x8 24 36),(x8 25 36),(x8 26 36),(x8 27 36),(x8 28 36),(x8 29 36),(x8 30 36),(x8 31 36)],.arr 22 151 [CK.int .u32,CK.int .i32,CK.int .u32,CK.int .u8,CK.int .u8,CK.int .u8,CK.int .u8,CK.int .u8,CK.int .u8,CK.int .u8,CK.int .u8,CK.int .u8,CK.int .u8,CK.int .u8,CK.int .u8,CK.int .u8,CK.int .u8,CK.int .u8,CK.int .u8,CK.int .u8,CK.int .u8,CK.int .u8,CK.int .u8,CK.int .u8,CK.int .u8,CK.int .u8,CK.int .u8,CK.int .u8,CK.int .u8,CK.int .u8,CK.int .u8,CK.int .u8,CK.int .u8,CK.int .u8,CK.int .u8,CK.int .u8,CK.int .u8,CK.int .u8,CK.int .u8,CK.int .u8,CK.int .u8,CK.int .u8,CK.int .u8,CK.int .u8,CK.int .u8,CK.int .u8,CK.int .u8,CK.int .u8,CK.int .u8,CK.int .u8,CK.int .u8,CK.int .u8,CK.int .u8,CK.int .u8,CK.int .u8,CK.int .u8,CK.int .u8,CK.int .u8,CK.int .u8,CK.int .u8,CK.int .u8,CK.int .u8,CK.int .u8,CK.int .u8,CK.int .u8,CK.int .u8,CK.int .u8,CK.int .u8,CK.int .u8,CK.int .u8,CK.int .u8,CK.int .u8,CK.int .u8,CK.int .u8,CK.int .u8,CK.int .u8,CK.int .u8,CK.int .u8,CK.int .u8,CK.int .u8,CK.int .u8,CK.int .u8,CK.int .u8,CK.int .u8,CK.int .u8,CK.int .u8,CK.int .u8,CK.int .u8,CK.int .u8,CK.int .u8,CK.int .u8,CK.int .u8,CK.int .u8,CK.int .u8,CK.int .u8,CK.int .u8,CK.int .u8,CK.int .u8,CK.int .u8,CK.int .u8,CK.int .u8,CK.int .u8,CK.int .u8,CK.int .u8,CK.int .u8,CK.int .u8,CK.int .u8,CK.int .u8,CK.int .u8,CK.int .u8,CK.int .u8,CK.int .u8,CK.int .u8,CK.int .u8,CK.int .u8,CK.int .u8,CK.int .u8,CK.int .u8,CK.int .u8,CK.int .u8,CK.int .u8,CK.int .u8,CK.int .u8,CK.int .u8,CK.int .u8,CK.int .u8,CK.int .u8,CK.int .u8,CK.int .u8,CK.int .u8,CK.int .u8,CK.int .u8,CK.int .u8,CK.int .u8,CK.int .u8,CK.int .u8,CK.int .u8,CK.int .u8,CK.int .u8,CK.int .u8,CK.int .u8,CK.int .u8,CK.int .u8,CK.int .u8,CK.int .u8,CK.int .u8,CK.int .u8,CK.int .u8,CK.int .u8,CK.int .u8,CK.int .u8,CK.int .u8,CK.int .u8,CK.int .u8,CK.int .u8,CK.int .u8,CK.int .u8,CK.int .u8,CK.int .u8,CK.int .u8,CK.int .u8,CK.int .u8,CK.int .u8,CK.int .u8,CK.int .u8,CK.int .u8,CK.int .u8,CK.int .u8,CK.int .u8,CK.int .u8,CK.int .u8,CK.int .u8,CK.int .u8,CK.int .u8,CK.int .u8,CK.int .u8,CK.int .u8,CK.int .u8,CK.int .u8,CK.int .u8,CK.int .u8,CK.int .u8,CK.int .u8,CK.int .u8,CK.int .u8,CK.int .u8,CK.int .u8,CK.int .u8,CK.int .u8,CK.int .u8,CK.int .u8,CK.int .u8,CK.int .u8,CK.int .u8,CK.int .u8,CK.int .u8,CK.int .u8,CK.int .u8,CK.int .u8,CK.int .u8,CK.int .u8,CK.int .u8,CK.int .u8,CK.int .u8,CK.int .u8,CK.int .u8,CK.int .u8,CK.int .u8,CK.int .u8,CK.int .u8,CK.int .u8,CK.int .u8,CK.int .u8,CK.int .u8,CK.int .u8,CK.int .u8,CK.int .u8,CK.int .u8,CK.int .u8,CK.int .u8,CK.int .u8,CK.int .u8,CK.int .u8,CK.int .u8,CK.int .u8,CK.int .u8,CK.int .u8,CK.int .u8,CK.int .u8,CK.int .u8,CK.int .u8,CK.int .u8,CK.int .u8,CK.int .u8,CK.int .u8,CK.int .u8,CK.int .u8,CK.int .u8,CK.int .u8,CK.int .u8,CK.int .u8,CK.int .u8,CK.int .u8,CK.int .u8,CK.int .u8,CK.int .u8,CK.int .u8,CK.int .u8,CK.int .u8,CK.int .u8,CK.int .u8,CK.int .u8,CK.int .u8,CK.int .u8,CK.int .u8,CK.int .u8,CK.int .u8,CK.int .u8,CK.int .u8,CK.int .u8,CK.int .u8,CK.int .u8,CK.int .u8,CK.int .u8,CK.int .u8,CK.int .u8,CK.int .u8,CK.int .u8,CK.int .u8,CK.int .u8,CK.int .u8,CK.int .u8,CK.int .u8,CK.int .u8,CK.int .u8,CK.int .u8,CK.int .u8,CK.int .u8,CK.int .u8,CK.int .u8,CK.int .u8,CK.int .u8,CK.int .u8,CK.int .u8,CK.int .u8,CK.int .u8,CK.int .u8,CK.int .u8,CK.int .u8,CK.int .u8,CK.int .u8,CK.int .u8,CK.int .u8,CK.int .u8,CK.int .u8,CK.int .u8,CK.int .u8,CK.int .u8,CK.int .u8,CK.int .u8,CK.int .u8,CK.int .u8,CK.int .u8,CK.int .u8,CK.int .u8,CK.int .u8,CK.int .u8,CK.int .u8,CK.int .u8,CK.int .u8,CK.int .u8,CK.int .u8,CK.int .u8,CK.int .u8,CK.int .u8,CK.int .u8,CK.int .u8,CK.int .u8,CK.int .u8,CK.int .u8,CK.int .u8,CK.int .u8,CK.int .u8,CK.int .u8,CK.int .u8,CK.int .u8,CK.int .u8,CK.int .u8,CK.int .u8,CK.int .u8,CK.int .u8,CK.int .u8,CK.int .u8,CK.int .u8,CK.int .u8,CK.int .u8,CK.int .u8,CK.int .u8,CK.int .u8,CK.int .u8,CK.int .u8,CK.int .u8,CK.int .u8,CK.int .u8,CK.int .u8,CK.int .u8,CK.int .u8,CK.int .u8,CK.int .u8,CK.int .u8,CK.int .u8,CK.int .u8,CK.int .u8,CK.int .u8,CK.int .u8,CK.int .u8,CK.int .u8,CK.int .u8,CK.int .u8,CK.int .u8,CK.int .u8,CK.int .u8,CK.int .u8,CK.int .u8,CK.int .u8,CK.int .u8,CK.int .u8,CK.int .u8,CK.int .u8,CK.int .u8,CK.int .u8,CK.int .u8,CK.int .u8,CK.int .u8,CK.int .u8,CK.int .u8,CK.int .u8,CK.int .u8,CK.int .u8,CK.int .u8,CK.int .u8,CK.int .u8,CK.int .u8,CK.int .u8,CK.int .u8,CK.int .u8,CK.int .u8,CK.int .u8,CK.int .u8,CK.int .u8,CK.int .u8,CK.int .u8,CK.int .u8,CK.int .u8,CK.int .u8,CK.int .u8,CK.int .u8,CK.int .u8,CK.int .u8,CK.int .u8,CK.int .u8,CK.int .u8,CK.int .u8,CK.int .u8,CK.int .u8,CK.int .u8,CK.int .u8,CK.int .u8,CK.int .u8,CK.int .u8,CK.int .u8,CK.int .u8,CK.int .u8,CK.int .u8,CK.int .u8,CK.int .u8,CK.int .u8,CK.int .u8,CK.int .u8,CK.int .u8,CK.int .u8,CK.int .u8,CK.int .u8,CK.int .u8,CK.int .u8,CK.int .u8,CK.int .u8,CK.int .u8,CK.int .u8,CK.int .u8,CK.int .u8,CK.int .u8,CK.int .u8,CK.int .u8,CK.int .u8,CK.int .u8,CK.int .u8,CK.int .u8,CK.int .u8,CK.int .u8,CK.int .u8,CK.int .u8,CK.int .u8,CK.int .u8,CK.int .u8,CK.int .u8,CK.int .u8,CK.int .u8,CK.int .u8,CK.int .u8,CK.int .u8,CK.int .u8,CK.int .u8,CK.int .u8,CK.int .u8,CK.int .u8,CK.int .u8,CK.int .u8,CK.int .u8,CK.int .u8,CK.int .u8,CK.int .u8,CK.int .u8,CK.int .u8,CK.int .u8,CK.int .u8,CK.int .u8,CK.int .u8,CK.int .u8,CK.int .u8,CK.int .u8,CK.int .u8,CK.int .u8,CK.int .u8,CK.int .u8,CK.int .u8,CK.int .u8,CK.int .u8,CK.int .u8,CK.int .u8,CK.int .u8,CK.int .u8,CK.int .u8,CK.int .u8,CK.int .u8,CK.int .u8,CK.int .u8,CK.int .u8,CK.int .u8,CK.int .u8,CK.int .u8,CK.int .u8,CK.int .u8,CK.int .u8,CK.int .u8,CK.int .u8,CK.int .u8,CK.int .u8,CK.int .u8,CK.int .u8,CK.int .u8,CK.int .u8,CK.int .u8,CK.int .u8,CK.int .u8,CK.int .u8,CK.int .u8,CK.int .u8,CK.int .u8,CK.int .u8,CK.int .u8,CK.int .u8,CK.int .u8,CK.int .i64,CK.int .i64,CK.int .i64,CK.int .i64,CK.int .i64,CK.int .i64,CK.int .i64,CK.int .i64,CK.int .i64,CK.int .i64,CK.int .i64,CK.int .i64,CK.int .i64,CK.int .i64,CK.int .i64,CK.int .i64,CK.int .i64,CK.int .i64,CK.int .i64,CK.int .i64,CK.int .i64,CK.int .i64,CK.int .i64,CK.int .i64,CK.int .i64,CK.int .i64,CK.int .i64,CK.int .i64,CK.int .i64,CK.int .i64,CK.int .i64,CK.int .i64,CK.int .i64,CK.int .i64,CK.int .i64,CK.int .i64,CK.int .i64,CK.int .i64,CK.int .i64,CK.int .i64,CK.int .i64,CK.int .i64,CK.int .i64,CK.int .i64,CK.int .i64,CK.int .i64,CK.int .i64,CK.int .i64,CK.int .i64,CK.int .i64,CK.int .i64,CK.int .i64,CK.int .i64,CK.int .i64,CK.int .i64,CK.int .i64,CK.int .i64,CK.int .i64,CK.int .i64,CK.int .i64,CK.int .i64,CK.int .i64,CK.int .i64,CK.int .i64,CK.int .i64,CK.int .i64,CK.int .i64,CK.int .i64,CK.int .i64,CK.int .i64,CK.int .i64,CK.int .i64,CK.int .i64,CK.int .i64,CK.int .i64,CK.int .i64,CK.int .i64,CK.int .i64,CK.int .i64,CK.int .i64,CK.int .i64,CK.int .i64,CK.int .i64,CK.int .i64,CK.int .i64,CK.int .i64,CK.int .i64,CK.int .i64,CK.int .i64,CK.int .i64,CK.int .i64,CK.int .i64,CK.int .i64,CK.int .i64,CK.int .i64,CK.int .i64,CK.int .i64,CK.int .i64,CK.int .i64,CK.int .i64,CK.int .i64,CK.int .i64,CK.int .i64,CK.int .i64,CK.int .i64,CK.int .i64,CK.int .i64,CK.int .i64,CK.int .i64,CK.int .i64,CK.int .i64,CK.int .i64,CK.int .i64,CK.int .i64,CK.int .i64,CK.int .i64,CK.int .i64,CK.int .i64,CK.int .i64,CK.int .i64,CK.int .i64,CK.int .i64,CK.int .i64,CK.int .i64,CK.int .i64,CK.int .i64,CK.int .i64,CK.int .i64,CK.int .i64,CK.int .i64,CK.int .i64,CK.int .i64,CK.int .i64,CK.int .i64,CK.int .i64,CK.int .i64,CK.int .i64,CK.int .i64,CK.int .i64,CK.int .i64,CK.int .i64,CK.int .i64,CK.int .i64,CK.int .i64,CK.int .i64,CK.int .i64,CK.int .i64,CK.int .i64,CK.int .i64,CK.int .i64,CK.int .i64,CK.int .i64,CK.int .i64,CK.int .i64,CK.int .i64,CK.int .i64,CK.int .i64,CK.int .i64,CK.int .i64,CK.int .i64,CK.int .i64,CK.int .i64,CK.int .i64,CK.int .i64,CK.int .i64,CK.int .i64,CK.int .i64,CK.int .i64,CK.int .i64,CK.int .i64,CK.int .i64,CK.int .i64,CK.int .i64,CK.int .i64,CK.int .i64,CK.int .i64,CK.int .i64,CK.int .i64,CK.int .i64,CK.int .i64,CK.int .i64,CK.int .i64,CK.int .i64,CK.int .i64,CK.int .i64,CK.int .i64,CK.int .i64,CK.int .i64,CK.int .i64,CK.int .i64,CK.int .i64,CK.int .i64,CK.int .i64,CK.int .i64,CK.int .i64,CK.int .i64,CK.int .i64,CK.int .i64,CK.int .i64,CK.int .i64,CK.int .i64,CK.int .i64,CK.int .i64,CK.int .i64,CK.int .i64,CK.int .i64,CK.int .i64,CK.int .i64,CK.int .i64,CK.int .i64,CK.int .i64,CK.int .i64,CK.int .i64,CK.int .i64,CK.int .i64,CK.int .i64,CK.int .i64,CK.int .i64,CK.int .i64,CK.int .i64,CK.int .i64,CK.int .i64,CK.int .i64,CK.int .i64,CK.int .i64,CK.int .i64,CK.int .i64,CK.int .i64,CK.int .i64,CK.int .i64,CK.int .i64,CK.int .i64,CK.int .i64,CK.int .i64,CK.int .i64,CK.int .i64,CK.int .i64,CK.int .i64,CK.int .i64,CK.int .i64,CK.int .i64,CK.int .i64,CK.int .i64,CK.int .i64,CK.int .i64,CK.int .i64,CK.int .i64,CK.int .i64,CK.int .i64,CK.int .i64,CK.int .i64,CK.int .i64,CK.int .i64,CK.int .i64,CK.int .i64,CK.int .i64] (.var 31) (.lit 1),.cells 11 179 [(.var 12)],.cells 9 3 [(.vint .i64 (.lit 0)),(.vint .i64 (.lit 1)),(.vint .i64 (.lit 2))],.cells 7 3 [(.vint .i64 (.lit 0)),(.vint .i64 (.lit 1)),(.vint .i64 (.lit 2))],.arr 3 3 [CK.int .i64] (.var 6) (.var 5),.cells 2 24 [(.vint .u8 (.lit 1)),o8,o8,o8,o8,o8,o8,o8,o8,o8,o8,o8,o8,o8,o8,o8,o8,o8,o8,o8,o8,o8,o8,o8,o8,o8,o8,o8,o8,o8,o8,o8]] 40 (.cut 0 39 (sg 1000 [bg 1018 34,bv 1017 33,bv 1014 32,bv 1013 28,bg 1012 27,bt 1011 (r8 26),bg 1009 40,bt 1008 .dnil,bt 1004 (.lit 0),bt 1003 .dnil,bt 1007 (.lit 0),bt 1006 (.lit 0),(1005,.nil),(1002,.nil),bt 1001 (s8 36),bg 1000 39,bv 1016 30,bg 1015 29,bg 1010 35]))))) .top)) (.fresh 39 (.fresh 40 (.fresh 41 (.fresh 42 (.fresh 43 (.fresh 44 (.fresh 45 (.fresh 46 (.fresh 47 (.fresh 48 (.fresh 49 (.fresh 50 (.fresh 51 (.fresh 52 (.fresh 53 (.fresh 54 (.fresh 55 (.fresh 56 (.fresh 57 (.hyp 0 39 (.need (.cmp .lss (.lit 0) (.dlen (.var 56))) (.both (.viewL (.vcell (.var 56) (.lit 0) 1) [CK.int .u8] [57] 58 (.pre 11 qmV (.both (.fresh 61 (.fresh 62 (.fresh 63 (.fresh 64 (.fresh 65 (.fresh 66 (.fresh 67 (.fresh 68 (.fresh 69 (.post 11 0 qmV 61 (.both (.both (.both (.br (.cmp .eql (.var 69) (.lit 0))
 (.both (.both (.pre 12 qgf (.both (.fresh 70 (.post 12 0 qgf 70 (.both (.both (.br (.var 70)
 (.both (.both (.pre 13 qgf (.both (.fresh 71 (.fresh 72 (.fresh 73 (.fresh 74 (.post 13 0 qgf 71 (.both (.need (.cmp .leq (.lit 0) (.var 72)) (.both (.both (.both (.need (.beq (.bl true) (.cmp .eql (.var 72) (.lit 1))) (.ret 0 (sg 2 []))) .top) .top) .top)) .top)))))) .top)) .top) .top)
 (.both (.both (.both (.both (.both (.both (.stuck 7 0 0) .top) .top) .top) .top) .top) .top)) .top) .top))) .top)) .top) .top)
 (.both (.both (.both (.both (.both (.both (.both (.both (.both (.both (.stuck 7 0 0) .top) .top) .top) .top) .top) .top) .top) .top) .top) .top)) .top) .top) .top))))))))))) .top))) .top))))))))))))))))))))))))))) .top))))))))))))) .top))))))) .top))))) .top)) .top))) .top)) .top)))) .top)) .top)))))))))) .top)) .top))))) .top)) .top))))) .top)) .top))))))) .top))))) .top)))))) .top)))))))))) .top)))
theorem qvS:qk ⟨Tryz.prog,qcN,[qce,qf6,qdP,qfG,qcb,qfq,qcj,qbA,qje,idC,qdW,qdV,qcf,qdj],[qqJ]⟩ 100000 Tryz.f31 = qnN:=by kernel_rfl
theorem q17 (hd:∀ c ∈ ([qce,qf6,qdP,qfG,qcb,qfq,qcj,qbA,qje,idC,qdW,qdV,qcf,qdj]:List Ctr),c.ok Tryz.prog) (h:∀ ρ:Env,ρ.good->(qcN).pre ρ->qnN.den ⟨Tryz.prog,qcN,[qce,qf6,qdP,qfG,qcb,qfq,qcj,qbA,qje,idC,qdW,qdV,qcf,qdj],[qqJ]⟩ ρ):(qcN).ok Tryz.prog :=
 qe Tryz.func31 (fun a w=>Tryz.call31 a w) hd 100000 (fun ρ hg hp=>by rw [qvS]; exact h ρ hg hp)
end Go.Proofs

set_option linter.unusedSimpArgs false
set_option linter.unusedVariables false
namespace Go.Proofs
open Go Go.Eng
def d1:List Int:=1 :: List.replicate 31 0
theorem quv:qI d1 0 1 = true:=by decide +kernel
theorem qua:qI d1 0 2 = true:=by decide +kernel
theorem qtN:qI d1 1 2 = true:=by decide +kernel
theorem q3R:¬ qN d1 0 = qN d1 1:=by decide +kernel
theorem qxp:qao d1 [0,1,2] = [0,1,2]:=by
 symm
 refine qx3 ⟨List.Perm.refl _,?_⟩ (by decide)
 simp [quv,qua,qtN]
theorem quT:qbM [0,1,2] = [0,1,2]:=by decide
theorem q4Z:qj6 d1 3 = [0,1,2]:=by
 have h:qfV 3 = [0,1,2]:=by decide
 rw [qj6,h,qbb,quT,qxp]; rfl
theorem qrA:qbb d1 [0,1,2] 3 = [0,1,2]:=by
 rw [qbb,quT,qxp]; rfl
theorem q3D:qgt d1 1 [0,1,2] 3 false false = 1:=by simp [qgt,qrA]
theorem q2N:qgt d1 3 [0,1,2] 3 true false = 2:=by simp [qgt,qrA]
theorem q6Y:qgS d1 2 2 [0,1] = true:=by
 have h:qbM [0,1] = [0,1]:=by decide
 rw [qgS,h]; simp [qua,qtN]
def cl1:Cl:=qen (fun _ _=>none) d1 0 5
theorem qyR:qdX cl1 d1 1 16 [0,1,2] [] = true:=by
 rw [qdX,List.any_eq_true]
 refine ⟨0,by simp,?_⟩
 have h:cl1 d1 ((0:Nat):Int) = some 5:=by simp [cl1,qen]
 rw [h]
 simp [quv,qkq]
theorem qyj:qdX cl1 d1 1 17 [0,1,2] [] = false:=by
 rw [qdX,List.any_eq_false]
 intro i _
 by_cases hi:i = 0
 ·subst hi
  have h:cl1 d1 ((0:Nat):Int) = some 5:=by simp [cl1,qen]
  rw [h]; simp [qkq]
 ·have h:cl1 d1 ((i:Nat):Int) = none:=by simp [cl1,qen,hi]
  rw [h]; simp
end Go.Proofs

set_option linter.unusedSimpArgs false
set_option linter.unusedVariables false
namespace Go.Proofs
open Go Go.Eng
theorem q6u:qf [[Value.int .u8 1,.int .u8 0,.int .u8 0,.int .u8 0,.int .u8 0,.int .u8 0,.int .u8 0,.int .u8 0,.int .u8 0,.int .u8 0,.int .u8 0,.int .u8 0,.int .u8 0,.int .u8 0,.int .u8 0,.int .u8 0,.int .u8 0,.int .u8 0,.int .u8 0,.int .u8 0,.int .u8 0,.int .u8 0,.int .u8 0,.int .u8 0,.int .u8 0,.int .u8 0,.int .u8 0,.int .u8 0,.int .u8 0,.int .u8 0,.int .u8 0,.int .u8 0]] 32 = d1:=by rfl
theorem q6d:qS d1:=by intro x hx; simp [d1] at hx; rcases hx with rfl | rfl <;> decide
theorem q3Q {h:Hp}:qbL h none [] 0 0 [] none []:=by
 refine ⟨rfl,⟨rfl,?_,?_⟩,?_,by decide,.inl ⟨rfl,rfl,rfl,rfl,rfl⟩⟩
 ·intro j hj; exact absurd hj (Nat.not_lt_zero j)
 ·intro j hj; exact absurd hj (Nat.not_lt_zero j)
 ·intro x hx; cases hx
theorem q8e:(qch 1 1).2.2 = 1:=by kernel_rfl
theorem q3p:q9 [[Value.int .u8 120]]:=by intro row hr; simp at hr; subst hr; decide
set_option pp.funBinderTypes false
set_option format.width 2000
set_option format.indent 1
set_option maxRecDepth 20000 in
set_option maxHeartbeats 4000000 in
theorem qtv (hd:∀ c ∈ ([qce,qf6,qdP,qfG,qcb,qfq,qcj,qbA,qje,idC,qdW,qdV,qcf,qdj]:List Ctr),c.ok Tryz.prog):qcN.ok Tryz.prog:=q17 hd fun ρ hg hp=>by
 obtain ⟨hGr,hGd⟩:=hp
 simp (config:={ maxSteps:=4000000 }) [qnN,qcN,qqJ,qce,qf6,q4E,qdP,qfG,qcb,q4T,qfq,qfM,qmq,qcj,qbA,qje,qgp,idC,qoH,qyu,qdW,qdV,q0o,qcf,qdj,qvc,qzJ,qiJ,qaY,q4U,q4D,qjZ,qhg,qqi,qyV,qiP,qbf,qco,gaB,gOk,hGr,hGd,q6u,q6d]
 have e012:qu [[Value.int IntKind.i64 0],[Value.int IntKind.i64 1],[Value.int IntKind.i64 2]] = [0,1,2]:=rfl
 intro _ _ l0 _ n _ c _ D _ hl
 obtain ⟨hn,hD,hrow⟩:=hl
 rw [q4Z] at hD
 have hDl:D.d.length = 3:=by have:=congrArg List.length hD; simpa [qu] using this
 refine ⟨by omega,by omega,fun _ _ _ x5 _ h5=>?_⟩
 rw [e012,q3D] at h5
 refine ⟨h5,fun _ _ _ x6 _ h6=>?_⟩
 rw [e012,q2N] at h6
 refine ⟨h6,fun _ _ _ v _ H0 _ hc0=>⟨by omega,by omega,⟨_,hc0⟩,fun H1 _ hc1=>?_⟩⟩
 have g0:qg D.d 0 0 = 0:=by rw [qcQ (d:=D.d) (by omega) (by omega),hD]; rfl
 have g1:qg D.d 1 0 = 1:=by rw [qcQ (d:=D.d) (by omega) (by omega),hD]; rfl
 have g2:qg D.d 2 0 = 2:=by rw [qcQ (d:=D.d) (by omega) (by omega),hD]; rfl
 have hcl:=hc1 _ hc0
 rw [g0] at hcl
 refine ⟨by omega,by omega,⟨⟨_,hcl⟩,by omega,by omega,hrow⟩,fun b1 _ H2 _ hb1=>?_⟩
 obtain ⟨hcl2,hb1⟩:=hb1 _ hcl
 rw [g1,hD] at hb1
 have hb1':b1.b = true:=hb1.trans qyR
 refine ⟨hb1',fun _=>⟨⟨⟨_,hcl2⟩,by omega,by omega,hrow⟩,fun b2 _ H3 _ hb2=>?_⟩⟩
 obtain ⟨hcl3,hb2⟩:=hb2 _ hcl2
 rw [g1,hD] at hb2
 have hb2':b2.b = false:=hb2.trans qyj
 refine ⟨hb2',fun _=>⟨by omega,by omega,fun hcap=>⟨by omega,by omega,⟨by omega,hrow⟩,fun b3 _ hb3=>?_⟩⟩⟩
 rw [g2,hD] at hb3
 have hb3':b3.b = true:=hb3.trans q6Y
 refine ⟨hb3',fun _ s0 _ hs0 s1 _ hs1=>?_⟩
 rw [hs0,hs1]
 refine ⟨q3R,fun _ _ _ fl _ hfl _ _ _ _=>⟨⟨⟨.inl hfl,q3p,fun _=>q8e⟩,by decide⟩,?_⟩⟩
 intro o _ _ _ f _ _ _ _ _ _ _ Ds _ P _ Hp _ _ _ hPl hE ho hDs hdg _ _
 have hDl1:Ds.d.length = 1:=by
  have:=congrArg List.length hdg
  rw [qzz] at this; simpa [dgs] using this
 have hoM:qS (qf o.d 32):=by rw [ho]; exact qge _
 have hm1:qF 1 1 1 1 1 = true:=by decide
 refine ⟨⟨by omega,hoM,hDs⟩,fun ID _ e _ hid gn _=>⟨fun _ _ _ _ _=>?_,?_⟩⟩
 ·obtain ⟨q1,q2⟩:=q6P hE
  refine ⟨q3Q,hoM,hDs,hDl1,hPl,q1,(q2 0 (by decide)).1,?_,?_⟩
  ·exact q3X (data:=[120]) hm1 (by intro x hx; simp at hx; subst hx; exact ⟨by decide,by decide⟩) rfl hdg (by decide) (by decide) (q2 0 (by decide)).2
  ·rcases hid with ⟨h,_⟩ | ⟨_,_,h⟩
   ·exact absurd h (by decide)
   ·exact h
 intro ar _ id _ mr _ mp _ mc _ pr _ pl _ pq _ pd _ gh _ bm _ om _ dr _ dq _ dd _ br _ bq _ bp _ bh _ hga hom hdd hdl hbl hpk hpi hck hid2
 obtain ⟨v0,B0,eP,hv,hRd,hB,hpd⟩:=q7Q hpk (j:=0) (by decide)
 obtain ⟨_,_,_,hlen,hsum⟩:=q0e hck
 have hB1:B0.length = 1:=by rw [hpd,bI_len] at hlen; rw [show qep 1 1 = 1 from rfl] at hlen; omega
 have hci:qg bp.d 0 0 = 0:=hpi
 have hidM:qS (qf id.d 32):=by rw [hid2]; exact qge _
 have hck':qbY 1 1 1 1 1 (dgs dd.d) 0 (bI B0) = 0:=by rw [<- hpd]; exact hck
 have hddl:(dgs dd.d).length = 1:=by simpa [dgs] using hdl
 have hoff:qgd (qf id.d 32) none [] { k:=1,n:=1,t:=1,s:=1,o:=qf om.d 32,D:=dgs dd.d } 0 (bI B0) = 0:=by
  have hok:ManV.ok { k:=1,n:=1,t:=1,s:=1,o:=qf om.d 32,D:=dgs dd.d } = true:=by simp only [ManV.ok,hddl]; decide
  have hbt:sha (ManV.bytes { k:=1,n:=1,t:=1,s:=1,o:=qf om.d 32,D:=dgs dd.d }) = qf id.d 32:=hid2.symm
  rw [qgd,if_neg (by rw [hok]; decide),if_neg (fun h=>h hbt)]
  simp [hddl,hck',qgH]
 refine ⟨by omega,B0,by rw [show (0:Int) = ((0:Nat):Int) from rfl,hv]; exact hRd,?_⟩
 rw [hci]
 intro vr _ vc _ _ hcap
 refine ⟨⟨⟨_,_,hga⟩,hidM,⟨hom,by omega,hdd⟩,by decide,⟨by omega,by omega,hB⟩,by omega⟩,?_⟩
 intro _ _ _ _ _ _ _ _ _ _ _ _ _ _ _ _ oe _ hofr
 obtain ⟨he0,hga2⟩:=hofr _ _ hga
 rw [hoff] at he0
 rw [if_pos he0,if_pos he0] at hga2
 refine ⟨fun _=>⟨⟨_,_,hga2⟩,fun rb _ hrb=>?_⟩,he0⟩
 have hr1:=hrb _ _ hga2
 have hr2:rb.b = true:=by rw [hr1]; rfl
 refine ⟨fun _=>⟨⟨_,_,hga2⟩,fun _ _ il _ _ _ di _ hi=>?_⟩,hr2⟩
 obtain ⟨hi1,hi2,_⟩:=hi _ _ hga2
 have hdi:di.d.length = 1:=by
  have:=congrArg List.length hi2
  rw [qcc] at this; simpa using this
 exact ⟨by omega,by omega,trivial⟩
theorem qpx:qaZ.ok Tryz.prog:=qzY q5E
theorem q0l:qcN.ok Tryz.prog:=qtv (by simp [qxQ qpx,q5g qpx,q2J,q5d,qxz,q5M,qvk,qvD,q3K,q4J,q29,q4a,qte,qwY])
end Go.Proofs

set_option linter.unusedSimpArgs false
set_option linter.unusedVariables false
set_option maxRecDepth 100000
namespace Go.Proofs
open Go Go.Eng

def qsA:Out:=(.need (.cmp .neq (.var 1) (.lit 0)) (.br (.cmp .lss (.arith .rem .i64 (.var 0) (.var 1)) (.lit 0))
 (.ret 0 (sg 2 [bt 2 (.arith .add .i64 (.arith .rem .i64 (.var 0) (.var 1)) (.var 1))]))
 (.ret 0 (sg 2 [bt 2 (.arith .rem .i64 (.var 0) (.var 1))]))))
theorem q2d:qk ⟨Tryz.prog,qgu,[],[]⟩ 100000 Tryz.f36 = qsA:=by kernel_rfl
theorem q5P (hd:∀ c ∈ ([]:List Ctr),c.ok Tryz.prog) (h:∀ ρ:Env,ρ.good->(qgu).pre ρ->qsA.den ⟨Tryz.prog,qgu,[],[]⟩ ρ):(qgu).ok Tryz.prog :=
 qe Tryz.func36 (fun a w=>Tryz.call36 a w) hd 100000 (fun ρ hg hp=>by rw [q2d]; exact h ρ hg hp)
@[simp] def qd2:Out:=.pre 4 (sg 0 [bv 1 14,bg 0 13]) (.both (.post 4 0 (sg 0 [bv 1 14,bg 0 13]) 17 (.ret 0 (sg 15 []))) .top)
@[simp] def qdr:Sg:=sg 1000 [bg 1016 58,bv 1012 54,bv 1009 51,bv 1006 48,bv 1003 45,bv 1015 57,bv 1014 56,bv 1011 53,bv 1013 55,bg 1010 52,bv 1008 50,bg 1007 49,bv 1005 47,bg 1004 46,bv 1002 44,bg 1001 43,bg 1000 42]
@[simp] def qmJ:Out:=.back 2 42 (sg 1000 [bg 1016 92,bv 1012 88,bv 1009 85,bv 1006 82,bv 1003 79,bt 1015 (.arith .add .i64 (.var 91) (.lit 1)),bt 1014 (.cmp .geq (.var 93) (.var 2)),bv 1011 87,bv 1013 89,bg 1010 86,bv 1008 84,bg 1007 83,bv 1005 81,bg 1004 80,bv 1002 78,bg 1001 77,bg 1000 76])
def qlP:Out:=(.fresh 15 (.both (.fresh 16 (.both (.br (.cmp .lss (.var 1) (.lit 2))
 qd2
 (.br (.cmp .gtr (.var 1) (.lit 12))
 qd2
 (.br (.cmp .lss (.var 2) (.lit 1))
 qd2
 (.br (.cmp .gtr (.var 2) (.var 1))
 qd2
 (.need (.cmp .leq (.lit 0) (.var 4)) (.br (.cmp .gtr (.var 4) (.lit 16))
 qd2
 (.need (.cmp .leq (.lit 0) (.var 9)) (.br (.cmp .gtr (.var 9) (.lit 300))
 qd2
 (.both (.both (.need (.cmp .leq (.lit 0) (.var 1)) (.need (.cmp .leq (.tims (.lit 1) (.var 1)) (.lit 281474976710656)) (.fresh 17 (.both (.fresh 18 (.cut 0 17 (sg 1000 [bt 1006 (.drep (.var 1) (.rcons (.vbool (.bl false)) .rnil)),bt 1003 (.drep (.var 1) (.rcons (.vbool (.bl false)) .rnil)),bv 1005 1,bg 1004 18,bv 1002 1,bg 1001 17,bg 1000 16]))) .top)))) (.both (.need (.cmp .leq (.lit 0) (.var 1)) (.need (.cmp .leq (.tims (.lit 1) (.var 1)) (.lit 281474976710656)) (.fresh 17 (.both (.fresh 18 (.cut 0 17 (sg 1000 [bt 1006 (.drep (.var 1) (.rcons (.vbool (.bl false)) .rnil)),bt 1003 (.drep (.var 1) (.rcons (.vbool (.bl false)) .rnil)),bv 1005 1,bg 1004 17,bv 1002 1,bg 1001 18,bg 1000 16]))) .top)))) .top)) (.fresh 17 (.fresh 18 (.fresh 19 (.fresh 20 (.fresh 21 (.fresh 22 (.fresh 23 (.hyp 0 17 (.need (.cmp .leq (.lit 0) (.var 1)) (.need (.cmp .leq (.tims (.lit 24) (.var 1)) (.lit 281474976710656)) (.fresh 24 (.fresh 25 (.inv 1 26 (sg 1000 [bt 1012 .dnil,bt 1009 (.drep (.var 1) (.rcons .vnils .rnil)),bv 1006 23,bv 1003 20,bt 1014 (.lit 0),bt 1011 (.lit 0),bt 1013 (.lit 0),bg 1010 25,bv 1008 1,bg 1007 24,bv 1005 22,bg 1004 21,bv 1002 19,bg 1001 18,bg 1000 17]) (.fresh 26 (.fresh 27 (.fresh 28 (.fresh 29 (.fresh 30 (.fresh 31 (.fresh 32 (.fresh 33 (.fresh 34 (.fresh 35 (.fresh 36 (.fresh 37 (.fresh 38 (.fresh 39 (.fresh 40 (.hyp 1 26 (.br (.cmp .lss (.var 40) (.var 1))
 (.pre 1 (sg 0 [bv 4 7,bv 3 6,bv 5 40,bv 2 5,bv 1 4,bg 0 3]) (.both (.fresh 41 (.post 1 0 (sg 0 [bv 4 7,bv 3 6,bv 5 40,bv 2 5,bv 1 4,bg 0 3]) 41 (.need (.cmp .leq (.lit 0) (.var 40)) (.need (.cmp .lss (.var 40) (.dlen (.var 29))) (.back 1 26 (sg 1000 [bv 1012 38,bv 1009 35,bv 1006 32,bt 1003 (.dput (.var 29) (.var 40) 0 (.rcons (.vbool (.var 41)) .rnil)),bt 1014 (.arith .add .i64 (.var 40) (.lit 1)),bv 1011 37,bv 1013 39,bg 1010 36,bv 1008 34,bg 1007 33,bv 1005 31,bg 1004 30,bv 1002 28,bg 1001 27,bg 1000 26])))))) .top))
 (.pack [] 41 (.inv 2 42 (sg 1000 [bg 1016 41,bv 1012 38,bv 1009 35,bv 1006 32,bv 1003 29,bt 1015 (.lit (-1)),bt 1014 (.bl false),bv 1011 37,bv 1013 39,bg 1010 36,bv 1008 34,bg 1007 33,bv 1005 31,bg 1004 30,bv 1002 28,bg 1001 27,bg 1000 26]) (.fresh 42 (.fresh 43 (.fresh 44 (.fresh 45 (.fresh 46 (.fresh 47 (.fresh 48 (.fresh 49 (.fresh 50 (.fresh 51 (.fresh 52 (.fresh 53 (.fresh 54 (.fresh 55 (.fresh 56 (.fresh 57 (.fresh 58 (.hyp 2 42 (.br (.cmp .lss (.var 57) (.var 9))
 (.both (.br (.cmp .geq (.var 57) (.lit 0))
 (.need (.cmp .leq (.lit 0) (.var 57)) (.need (.cmp .lss (.var 57) (.dlen (.var 11))) (.both (.pre 0 (sg 0 [bv 1 1,bt 0 (.icell (.var 11) (.var 57) 1)]) (.both (.fresh 59 (.post 0 0 (sg 0 [bv 1 1,bt 0 (.icell (.var 11) (.var 57) 1)]) 59 (.both (.pre 0 (sg 0 [bv 1 1,bt 0 (.icell (.var 11) (.var 57) 2)]) (.both (.fresh 60 (.post 0 0 (sg 0 [bv 1 1,bt 0 (.icell (.var 11) (.var 57) 2)]) 60 (.br (.cmp .eql (.icell (.var 11) (.var 57) 0) (.lit 1))
 (.need (.cmp .leq (.lit 0) (.var 59)) (.need (.cmp .lss (.var 59) (.var 1)) (.need (.cmp .lss (.var 59) (.dlen (.var 45))) (.br (.bcell (.var 45) (.var 59) 0)
 (.br (.cmp .neq (.var 59) (.var 60))
 (.fresh 61 (.need (.cmp .eql (.var 55) (.dlen (.var 54))) (.need (.cmp .leq (.tims (.lit 16) (.plus (.var 55) (.lit 1))) (.lit 140737488355328)) (.fresh 62 (.fresh 63 (.pack [.cells 61 68 [(.vint .i64 (.var 59)),(.vint .i64 (.var 60))],.abs 58 10] 64 (.cut 3 59 (sg 1000 [bg 1016 64,bt 1012 (.dapp (.var 54) (.rcons (.vint .i64 (.var 59)) (.rcons (.vint .i64 (.var 60)) .rnil))),bv 1009 51,bv 1006 48,bv 1003 45,bv 1015 57,bv 1014 56,bv 1011 63,bt 1013 (.plus (.var 55) (.lit 1)),bg 1010 62,bv 1008 50,bg 1007 49,bv 1005 47,bg 1004 46,bv 1002 44,bg 1001 43,bg 1000 42]))))))))
 (.cut 3 59 qdr))
 (.cut 3 59 qdr)))))
 (.br (.cmp .eql (.icell (.var 11) (.var 57) 0) (.lit 2))
 (.need (.cmp .leq (.lit 0) (.var 55)) (.br (.cmp .gtr (.var 55) (.lit 0))
 (.pre 0 (sg 0 [bv 1 55,bt 0 (.icell (.var 11) (.var 57) 1)]) (.both (.fresh 61 (.post 0 0 (sg 0 [bv 1 55,bt 0 (.icell (.var 11) (.var 57) 1)]) 61 (.need (.cmp .leq (.lit 0) (.var 61)) (.need (.cmp .lss (.var 61) (.var 55)) (.need (.cmp .lss (.var 61) (.dlen (.var 54))) (.fresh 62 (.need (.cmp .leq (.lit 0) (.icell (.var 54) (.var 61) 1)) (.need (.cmp .lss (.icell (.var 54) (.var 61) 1) (.var 1)) (.need (.cmp .lss (.icell (.var 54) (.var 61) 1) (.dlen (.var 51))) (.both (.fresh 63 (.both (.take (.vcell (.var 51) (.icell (.var 54) (.var 61) 1) 0) 3 [CK.int .i64] 58 64 (.need (.cmp .leq (.tims (.lit 8) (.plus (.dlen (.var 67)) (.lit 1))) (.lit 140737488355328)) (.fresh 68 (.fresh 69 (.both (.both (.pack [.arr 68 3 [CK.int .i64] (.dapp (.var 67) (.rcons (.vint .i64 (.icell (.var 54) (.var 61) 0)) .rnil)) (.var 69),.abs 64 10,.cells 63 3 [(.vint .i64 (.icell (.var 54) (.var 61) 0))],.cells 62 68 [(.vint .i64 (.icell (.var 54) (.var 61) 0)),(.vint .i64 (.icell (.var 54) (.var 61) 1))]] 70 (.cut 3 59 (sg 1000 [bg 1016 70,bv 1012 54,bt 1009 (.dput (.var 51) (.icell (.var 54) (.var 61) 1) 0 (.rcons (.vslice 68 (.lit 0) (.plus (.dlen (.var 67)) (.lit 1)) (.var 69) 1) .rnil)),bv 1006 48,bv 1003 45,bv 1015 57,bv 1014 56,bv 1011 53,bv 1013 55,bg 1010 52,bv 1008 50,bg 1007 49,bv 1005 47,bg 1004 46,bv 1002 44,bg 1001 43,bg 1000 42]))) .top) .top))))) .top)) .top)))))))))) .top))
 (.cut 3 59 qdr)))
 (.br (.cmp .eql (.icell (.var 11) (.var 57) 0) (.lit 3))
 (.need (.cmp .leq (.lit 0) (.var 59)) (.need (.cmp .lss (.var 59) (.var 1)) (.need (.cmp .lss (.lit 0) (.dlen (.var 45))) (.both (.need (.cmp .lss (.var 59) (.dlen (.var 45))) (.br (.bcell (.var 45) (.var 59) 0)
 (.need (.cmp .lss (.lit 0) (.dlen (.var 51))) (.both (.need (.cmp .lss (.var 59) (.dlen (.var 51))) (.both (.view (.vcell (.var 51) (.var 59) 0) [CK.int .i64] [58] 61 (.pre 2 (sg 0 [bv 4 62,bv 3 63,bv 2 62,bt 1 (.dlen (.var 63)),bg 0 61]) (.both (.fresh 64 (.fresh 65 (.fresh 66 (.post 2 0 (sg 0 [bv 4 62,bv 3 63,bv 2 62,bt 1 (.dlen (.var 63)),bg 0 61]) 64 (.both (.pre 3 (sg 0 [bv 9 14,bv 7 65,bv 6 66,bv 5 65,bt 4 (.dlen (.var 63)),bg 3 64,bv 2 2,bv 1 59,bt 0 (r8 0),bg 8 13]) (.both (.fresh 67 (.post 3 0 (sg 0 [bv 9 14,bv 7 65,bv 6 66,bv 5 65,bt 4 (.dlen (.var 63)),bg 3 64,bv 2 2,bv 1 59,bt 0 (r8 0),bg 8 13]) 67 (.br (.var 67)
 (.pack [.arr 64 3 [CK.int .i64] (.var 66) (.var 65),.abs 58 10] 68 (.cut 3 59 (sg 1000 [bg 1016 68,bv 1012 54,bv 1009 51,bv 1006 48,bt 1003 (.dput (.var 45) (.var 59) 0 (.rcons (.vbool (.bl false)) .rnil)),bv 1015 57,bt 1014 (.bl true),bv 1011 53,bv 1013 55,bg 1010 52,bv 1008 50,bg 1007 49,bv 1005 47,bg 1004 46,bv 1002 44,bg 1001 43,bg 1000 42])))
 (.pack [.arr 64 3 [CK.int .i64] (.var 66) (.var 65),.abs 58 10] 68 (.cut 3 59 (sg 1000 [bg 1016 68,bv 1012 54,bv 1009 51,bv 1006 48,bv 1003 45,bv 1015 57,bv 1014 56,bv 1011 53,bv 1013 55,bg 1010 52,bv 1008 50,bg 1007 49,bv 1005 47,bg 1004 46,bv 1002 44,bg 1001 43,bg 1000 42])))))) .top)) .top))))) .top))) .top)) .top))
 (.both (.both (.cut 3 59 qdr) .top) .top))) .top))))
 (.br (.cmp .eql (.icell (.var 11) (.var 57) 0) (.lit 4))
 (.need (.cmp .leq (.lit 0) (.var 59)) (.need (.cmp .lss (.var 59) (.var 1)) (.need (.cmp .lss (.var 59) (.dlen (.var 45))) (.cut 3 59 (sg 1000 [bg 1016 58,bv 1012 54,bv 1009 51,bv 1006 48,bt 1003 (.dput (.var 45) (.var 59) 0 (.rcons (.vbool (.bl true)) .rnil)),bv 1015 57,bv 1014 56,bv 1011 53,bv 1013 55,bg 1010 52,bv 1008 50,bg 1007 49,bv 1005 47,bg 1004 46,bv 1002 44,bg 1001 43,bg 1000 42])))))
 (.br (.cmp .eql (.icell (.var 11) (.var 57) 0) (.lit 5))
 (.need (.cmp .leq (.lit 0) (.var 59)) (.need (.cmp .lss (.var 59) (.var 1)) (.need (.cmp .lss (.var 59) (.dlen (.var 45))) (.need (.cmp .lss (.var 59) (.dlen (.var 48))) (.cut 3 59 (sg 1000 [bg 1016 58,bv 1012 54,bv 1009 51,bt 1006 (.dput (.var 48) (.var 59) 0 (.rcons (.vbool (.bl true)) .rnil)),bt 1003 (.dput (.var 45) (.var 59) 0 (.rcons (.vbool (.bl false)) .rnil)),bv 1015 57,bv 1014 56,bv 1011 53,bv 1013 55,bg 1010 52,bv 1008 50,bg 1007 49,bv 1005 47,bg 1004 46,bv 1002 44,bg 1001 43,bg 1000 42]))))))
 (.br (.cmp .eql (.icell (.var 11) (.var 57) 0) (.lit 6))
 (.need (.cmp .leq (.lit 0) (.var 59)) (.need (.cmp .lss (.var 59) (.var 1)) (.need (.cmp .lss (.var 59) (.dlen (.var 51))) (.cut 3 59 (sg 1000 [bg 1016 58,bv 1012 54,bt 1009 (.dput (.var 51) (.var 59) 0 (.rcons .vnils .rnil)),bv 1006 48,bv 1003 45,bv 1015 57,bv 1014 56,bv 1011 53,bv 1013 55,bg 1010 52,bv 1008 50,bg 1007 49,bv 1005 47,bg 1004 46,bv 1002 44,bg 1001 43,bg 1000 42])))))
 (.cut 3 59 qdr))))))))) .top)) .top))) .top)) .top)))
 (.cut 3 59 qdr)) (.fresh 59 (.fresh 60 (.fresh 61 (.fresh 62 (.fresh 63 (.fresh 64 (.fresh 65 (.fresh 66 (.fresh 67 (.fresh 68 (.fresh 69 (.fresh 70 (.fresh 71 (.fresh 72 (.fresh 73 (.fresh 74 (.fresh 75 (.hyp 3 59 (.inv 4 76 (sg 1000 [bg 1016 75,bv 1012 71,bv 1009 68,bv 1006 65,bv 1003 62,bt 1019 (.lit 0),bt 1018 (.lit 0),bt 1017 (.lit 0),bv 1015 74,bv 1014 73,bv 1011 70,bv 1013 72,bg 1010 69,bv 1008 67,bg 1007 66,bv 1005 64,bg 1004 63,bv 1002 61,bg 1001 60,bg 1000 59]) (.fresh 76 (.fresh 77 (.fresh 78 (.fresh 79 (.fresh 80 (.fresh 81 (.fresh 82 (.fresh 83 (.fresh 84 (.fresh 85 (.fresh 86 (.fresh 87 (.fresh 88 (.fresh 89 (.fresh 90 (.fresh 91 (.fresh 92 (.fresh 93 (.fresh 94 (.fresh 95 (.hyp 4 76 (.br (.cmp .lss (.var 95) (.var 1))
 (.need (.cmp .leq (.lit 0) (.var 95)) (.need (.cmp .lss (.var 95) (.dlen (.var 79))) (.br (.bcell (.var 79) (.var 95) 0)
 (.need (.cmp .lss (.var 95) (.dlen (.var 82))) (.br (.bcell (.var 82) (.var 95) 0)
 (.back 4 76 (sg 1000 [bg 1016 92,bv 1012 88,bv 1009 85,bv 1006 82,bv 1003 79,bt 1019 (.arith .add .i64 (.var 95) (.lit 1)),bt 1018 (.arith .add .i64 (.var 94) (.lit 1)),bt 1017 (.arith .add .i64 (.var 93) (.lit 1)),bv 1015 91,bv 1014 90,bv 1011 87,bv 1013 89,bg 1010 86,bv 1008 84,bg 1007 83,bv 1005 81,bg 1004 80,bv 1002 78,bg 1001 77,bg 1000 76]))
 (.back 4 76 (sg 1000 [bg 1016 92,bv 1012 88,bv 1009 85,bv 1006 82,bv 1003 79,bt 1019 (.arith .add .i64 (.var 95) (.lit 1)),bv 1018 94,bt 1017 (.arith .add .i64 (.var 93) (.lit 1)),bv 1015 91,bv 1014 90,bv 1011 87,bv 1013 89,bg 1010 86,bv 1008 84,bg 1007 83,bv 1005 81,bg 1004 80,bv 1002 78,bg 1001 77,bg 1000 76]))))
 (.need (.cmp .lss (.var 95) (.dlen (.var 82))) (.br (.bcell (.var 82) (.var 95) 0)
 (.back 4 76 (sg 1000 [bg 1016 92,bv 1012 88,bv 1009 85,bv 1006 82,bv 1003 79,bt 1019 (.arith .add .i64 (.var 95) (.lit 1)),bt 1018 (.arith .add .i64 (.var 94) (.lit 1)),bv 1017 93,bv 1015 91,bv 1014 90,bv 1011 87,bv 1013 89,bg 1010 86,bv 1008 84,bg 1007 83,bv 1005 81,bg 1004 80,bv 1002 78,bg 1001 77,bg 1000 76]))
 (.back 4 76 (sg 1000 [bg 1016 92,bv 1012 88,bv 1009 85,bv 1006 82,bv 1003 79,bt 1019 (.arith .add .i64 (.var 95) (.lit 1)),bv 1018 94,bv 1017 93,bv 1015 91,bv 1014 90,bv 1011 87,bv 1013 89,bg 1010 86,bv 1008 84,bg 1007 83,bv 1005 81,bg 1004 80,bv 1002 78,bg 1001 77,bg 1000 76])))))))
 (.br (.var 90)
 (.br (.cmp .lss (.var 93) (.arith .sub .i64 (.var 2) (.var 94)))
 (.stuck 7 0 0)
 (.back 2 42 (sg 1000 [bg 1016 92,bv 1012 88,bv 1009 85,bv 1006 82,bv 1003 79,bt 1015 (.arith .add .i64 (.var 91) (.lit 1)),bt 1014 (.bl true),bv 1011 87,bv 1013 89,bg 1010 86,bv 1008 84,bg 1007 83,bv 1005 81,bg 1004 80,bv 1002 78,bg 1001 77,bg 1000 76])))
 (.br (.cmp .geq (.var 93) (.var 2))
 (.br (.cmp .lss (.var 93) (.arith .sub .i64 (.var 2) (.var 94)))
 (.stuck 7 0 0)
 qmJ)
 qmJ))))))))))))))))))))))))))))))))))))))))))))
 (.pre 4 (sg 0 [bv 1 14,bg 0 13]) (.both (.post 4 0 (sg 0 [bv 1 14,bg 0 13]) 59 (.ret 0 (sg 15 []))) .top)))))))))))))))))))))))))))))))))))))))))))))))))))))))))))))) .top)) .top))
theorem qty:qk ⟨Tryz.prog,qcB,[qgu,qi6,qgw,qfM,qcN],[qyk,qsD,qur,qzE,qtV]⟩ 100000 Tryz.f8 = qlP:=by kernel_rfl
theorem qyH (hd:∀ c ∈ ([qgu,qi6,qgw,qfM,qcN]:List Ctr),c.ok Tryz.prog) (h:∀ ρ:Env,ρ.good->(qcB).pre ρ->qlP.den ⟨Tryz.prog,qcB,[qgu,qi6,qgw,qfM,qcN],[qyk,qsD,qur,qzE,qtV]⟩ ρ):(qcB).ok Tryz.prog :=
 qe Tryz.func8 (fun a w=>Tryz.call8 a w) hd 100000 (fun ρ hg hp=>by rw [qty]; exact h ρ hg hp)
end Go.Proofs

set_option linter.unusedSimpArgs false
set_option linter.unusedVariables false
namespace Go.Proofs
open Go Go.Eng
theorem qrM:∀ {l m:List Nat},l.Nodup->(∀ x ∈ l,x ∈ m)->l.length <= m.length
 | [],_,_,_=>Nat.zero_le _
 | x :: l,m,hn,hs=>by
  have hx:=hs x (List.mem_cons_self ..)
  have hn':=List.nodup_cons.1 hn
  have:=qrM (l:=l) (m:=m.erase x) hn'.2 fun y hy=>(List.mem_erase_of_ne (fun (h:y = x)=>hn'.1 (by rw [<- h]; exact hy))).2 (hs y (List.mem_cons_of_mem _ hy))
  rw [List.length_erase_of_mem hx] at this
  have:=List.length_pos_of_mem hx
  simp only [List.length_cons]; omega
def qhQ (H:List Bool):List Nat:=(List.range H.length).filter fun j=>H.getD j false
theorem qjX {H:List Bool} {j:Nat}:j ∈ qhQ H↔H[j]? = some true:=by
 unfold qhQ
 rw [List.mem_filter,List.mem_range,List.getD_eq_getElem?_getD]
 constructor
 ·rintro ⟨h1,h2⟩
  rw [List.getElem?_eq_getElem h1] at h2 ⊢
  simpa using h2
 ·intro h
  exact ⟨(List.getElem?_eq_some_iff.1 h).1,by rw [h]; rfl⟩
theorem qjy (H:List Bool):(qhQ H).length = (H.filter id).length:=by
 have e:(List.range H.length).map (fun j=>H.getD j false) = H:=by
  apply List.ext_getElem?
  intro i
  rw [List.getElem?_map]
  by_cases hi:i < H.length
  ·rw [List.getElem?_range hi,List.getElem?_eq_getElem hi]
   simp [List.getD_eq_getElem?_getD,hi]
  ·rw [List.getElem?_eq_none (by simpa using Nat.le_of_not_lt hi),List.getElem?_eq_none (by omega)]; rfl
 conv=>rhs; rw [<- e,List.filter_map,List.length_map]
 rfl
theorem qu1 (H:List Bool):(qhQ H).Nodup:=List.nodup_range.filter _
theorem q7 {α:Type} {l:List α} {a j:Nat} {x y:α}:(l.set a x)[j]? = some y↔(j = a/\a < l.length/\x = y)∨(j ≠ a/\l[j]? = some y):=by
 rw [List.getElem?_set]
 by_cases h:a = j
 ·subst h
  by_cases hl:a < l.length
  ·simp [hl]
  ·simp [hl]
 ·simp [h,Ne.symm h]
section
variable {o:List Int} {p n:Int} {H F:List Bool} {G:List (List Int)} {N:List (Int × Int)} {r:Bool}
theorem q5l {a b:Nat} (h:qcH o p n H F G N r) (ha:H[a]? = some true) (hb:(b:Int) < p):qcH o p n H F G (N ++ [((a:Int),(b:Int))]) r:=by
 obtain ⟨E,D,hE,hP,hN,hG,hD,hS⟩:=h
 refine ⟨E,D,hE,hP,fun x hx=>?_,hG,hD,hS⟩
 rcases List.mem_append.1 hx with hx | hx
 ·exact hN x hx
 ·rw [List.mem_singleton] at hx
  exact ⟨a,b,hx,hE a ha,hb⟩
theorem q6S {k:Nat} {x:Int × Int} {g:List Int} (h:qcH o p n H F G N r) (hx:x ∈ N) (hg:G[k]? = some g):qcH o p n H F (G.set k (g ++ [x.1])) N r:=by
 obtain ⟨E,D,hE,hP,hN,hG,hD,hS⟩:=h
 refine ⟨E,D,hE,hP,hN,fun g' hg' y hy=>?_,hD,hS⟩
 rcases List.mem_or_eq_of_mem_set hg' with hg' | rfl
 ·exact hG g' hg' y hy
 ·rcases List.mem_append.1 hy with hy | hy
  ·exact hG g (List.mem_of_getElem? hg) y hy
  ·rw [List.mem_singleton] at hy
   obtain ⟨a,b,e,h1,_⟩:=hN x hx
   exact ⟨a,by rw [hy,e],h1⟩
theorem q13 {k:Nat} (h:qcH o p n H F G N r):qcH o p n H F (G.set k []) N r:=by
 obtain ⟨E,D,hE,hP,hN,hG,hD,hS⟩:=h
 refine ⟨E,D,hE,hP,hN,fun g' hg' y hy=>?_,hD,hS⟩
 rcases List.mem_or_eq_of_mem_set hg' with hg' | rfl
 ·exact hG g' hg' y hy
 ·cases hy
theorem q5C {a:Nat} (h:qcH o p n H F G N r) (ha:(a:Int) < p) (hl:(H.length:Int) = p):qcH o p n (H.set a true) F G N r:=by
 obtain ⟨E,D,hE,hP,hN,hG,hD,hS⟩:=h
 refine ⟨fun j=>E j∨j = a,D,fun j hj=>?_,fun j hj=>?_,fun x hx=>?_,fun g hg x hx=>?_,hD,fun hr=>?_⟩
 ·rcases q7.1 hj with ⟨rfl,_⟩ | ⟨_,hj⟩
  ·exact .inr rfl
  ·exact .inl (hE j hj)
 ·by_cases hja:j = a
  ·subst hja
   exact ⟨ha,.inl (q7.2 (.inl ⟨rfl,by omega,rfl⟩))⟩
  ·obtain ⟨h1,h2⟩:=hP j (hj.resolve_right hja)
   exact ⟨h1,h2.imp_left fun h=>q7.2 (.inr ⟨hja,h⟩)⟩
 ·obtain ⟨a,b,e,h1,h2⟩:=hN x hx
  exact ⟨a,b,e,.inl h1,h2⟩
 ·obtain ⟨a,e,h1⟩:=hG g hg x hx
  exact ⟨a,e,.inl h1⟩
 ·obtain ⟨S,s1,s2,s3⟩:=hS hr
  exact ⟨S,s1,s2,fun s hs=>⟨.inl (s3 s hs).1,(s3 s hs).2⟩⟩
theorem q3n {a:Nat} (h:qcH o p n H F G N r) (ha:(a:Int) < p) (hl:(F.length:Int) = p):qcH o p n (H.set a false) (F.set a true) G N r:=by
 obtain ⟨E,D,hE,hP,hN,hG,hD,hS⟩:=h
 refine ⟨E,D,fun j hj=>?_,fun j hj=>?_,hN,hG,hD,hS⟩
 ·rcases q7.1 hj with ⟨_,_,h⟩ | ⟨_,hj⟩
  ·cases h
  ·exact hE j hj
 ·obtain ⟨h1,h2⟩:=hP j hj
  refine ⟨h1,?_⟩
  by_cases hja:j = a
  ·subst hja
   exact .inr (.inl (q7.2 (.inl ⟨rfl,by omega,rfl⟩)))
  ·rcases h2 with h | h | h
   ·exact .inl (q7.2 (.inr ⟨hja,h⟩))
   ·exact .inr (.inl (q7.2 (.inr ⟨hja,h⟩)))
   ·exact .inr (.inr h)
theorem q28 {a:Int} {g:List Int} (hc:qgS o a n g = true):∃ S:List Int,S.Nodup/\n <= (S.length:Int)/\∀ s ∈ S,0 <= s/\s ∈ g/\qI o s a = true:=by
 unfold qgS at hc
 rw [Bool.and_eq_true,decide_eq_true_eq,decide_eq_true_eq] at hc
 refine ⟨(qbM g).filter fun i=>qI o i a,List.Pairwise.filter _ (qrX (L:=g) (n:=16)),hc.2,fun s hs=>?_⟩
 obtain ⟨h1,h2⟩:=List.mem_filter.1 hs
 obtain ⟨h3,_,h4⟩:=qzu.1 h1
 exact ⟨h3,h4,h2⟩
theorem q5u {a:Nat} {g:List Int} (h:qcH o p n H F G N r) (ha:H[a]? = some true) (hg:G[a]? = some g) (hc:qgS o (a:Int) n g = true):qcH o p n (H.set a false) F G N true:=by
 obtain ⟨E,D,hE,hP,hN,hG,hD,hS⟩:=h
 refine ⟨E,fun j=>D j∨j = a,fun j hj=>?_,fun j hj=>?_,hN,hG,fun _ _=>rfl,fun _=>?_⟩
 ·rcases q7.1 hj with ⟨_,_,h⟩ | ⟨_,hj⟩
  ·cases h
  ·exact hE j hj
 ·obtain ⟨h1,h2⟩:=hP j hj
  refine ⟨h1,?_⟩
  by_cases hja:j = a
  ·exact .inr (.inr (.inr hja))
  ·rcases h2 with h | h | h
   ·exact .inl (q7.2 (.inr ⟨hja,h⟩))
   ·exact .inr (.inl h)
   ·exact .inr (.inr (.inl h))
 ·by_cases hx:∃ d,D d/\(d = a∨qI o (d:Int) (a:Int) = true)
  ·obtain ⟨d,hd,hda⟩:=hx
   obtain ⟨S,s1,s2,s3⟩:=hS (hD d hd)
   refine ⟨S,s1,s2,fun s hs=>⟨(s3 s hs).1,fun d' hd'=>?_⟩⟩
   rcases hd' with hd' | rfl
   ·exact (s3 s hs).2 d' hd'
   ·rcases hda with rfl | hda
    ·exact (s3 s hs).2 d hd
    ·exact qlI ((s3 s hs).2 d hd) hda
  ·obtain ⟨S,s1,s2,s3⟩:=q28 hc
   refine ⟨S.map Int.toNat,?_,by rw [List.length_map]; exact s2,fun s hs=>?_⟩
   ·refine List.pairwise_map.2 (List.Pairwise.imp_of_mem (fun {x y} hx hy hxy hh=>hxy ?_) s1)
    have:=(s3 x hx).1
    have:=(s3 y hy).1
    omega
   ·obtain ⟨x,hxS,rfl⟩:=List.mem_map.1 hs
    obtain ⟨x0,x1,x2⟩:=s3 x hxS
    obtain ⟨q,hq,hEq⟩:=hG g (List.mem_of_getElem? hg) x x1
    subst hq
    refine ⟨by simpa using hEq,fun d hd=>?_⟩
    have hxn:(((q:Int).toNat:Nat):Int) = (q:Int):=by omega
    rw [hxn]
    rcases hd with hd | rfl
    ·have hne:(a:Int) ≠ (d:Int):=fun he=>hx ⟨d,hd,.inl (by omega)⟩
     rcases qlH (o:=o) hne with e | e
     ·exact qlI x2 e
     ·exact absurd ⟨d,hd,.inr e⟩ hx
    ·exact x2
theorem q30 (h:qcH o p n H F G N r):qcH o p n H F G N (r || decide (n <= ((H.filter id).length:Int))):=by
 obtain ⟨E,D,hE,hP,hN,hG,hD,hS⟩:=h
 refine ⟨E,D,hE,hP,hN,hG,fun d hd=>by rw [hD d hd]; rfl,fun hr=>?_⟩
 cases hrr:r with
 | true=>exact hS hrr
 | false =>
  rw [hrr,Bool.false_or,decide_eq_true_eq] at hr
  refine ⟨qhQ H,qu1 H,by rw [qjy]; exact hr,fun s hs=>⟨hE s (qjX.1 hs),fun d hd=>?_⟩⟩
  have:=hD d hd
  rw [hrr] at this; cases this
theorem q6V (h:qcH o p n H F G N true):n <= ((H.filter id).length:Int) + ((F.filter id).length:Int):=by
 obtain ⟨E,D,hE,hP,hN,hG,hD,hS⟩:=h
 obtain ⟨S,s1,s2,s3⟩:=hS rfl
 have:=qrM (m:=qhQ H ++ qhQ F) s1 fun s hs=>by
  obtain ⟨h1,h2⟩:=s3 s hs
  rcases (hP s h1).2 with h | h | h
  ·exact List.mem_append_left _ (qjX.2 h)
  ·exact List.mem_append_right _ (qjX.2 h)
  ·have:=h2 s h
   rw [qox] at this; cases this
 rw [List.length_append,qjy,qjy] at this
 omega
end
theorem qrQ {h h':Hp} {v:Value} {g:List Int} (hs:qg8 h v g) (hle:∀ b X,qe9 v = some b->h b = some X->h' b = some X):qg8 h' v g:=by
 rcases hs with hs | ⟨b,cap,c,e,h1,h2,h3,h4⟩
 ·exact .inl hs
 ·subst e
  exact .inr ⟨b,cap,c,rfl,hle b _ rfl h1,h2,h3,h4⟩
theorem qn3 {h h':Hp} {R:qd} {G:List (List Int)} (hg:qhi h R G) (hle:Hp.le h h'):qhi h' R G:=by
 obtain ⟨h1,h2,h3⟩:=hg
 refine ⟨h1,fun j g hj=>?_,h3⟩
 obtain ⟨v,e,hs⟩:=h2 j g hj
 exact ⟨v,e,qrQ hs fun b X _ hb=>hle b X hb⟩
theorem q5A {h:Hp} {v:Value} {g:List Int} (hs:qg8 h v g):Rd h kI v (g.map qiL):=by
 rcases hs with ⟨rfl,rfl⟩ | ⟨b,cap,c,rfl,h1,h2,h3,h4⟩
 ·exact .inl ⟨none,rfl,rfl⟩
 ·exact .inr ⟨b,0,cap,c,3,(0,0),by rw [List.length_map],by rw [List.length_map]; exact h3,h1,h4⟩
theorem q0q {h:Hp} {v:Value} {g:List Int} (hs:qg8 h v g):∃ h' r cap,qtl h 3 kI v (g.map qiL) h' r cap/\(∀ b X,qe9 v ≠ some b->h b = some X->h' b = some X)/\0 <= cap:=by
 rcases hs with ⟨rfl,rfl⟩ | ⟨b,cap,c,rfl,h1,h2,h3,h4⟩
 ·exact ⟨h,none,0,⟨rfl,.inl ⟨rfl,rfl,rfl,rfl⟩⟩,fun _ _ _ h=>h,by omega⟩
 ·refine ⟨h.del b,some ⟨b,0,none⟩,cap,⟨?_,.inr ⟨b,c,rfl,h1,h2,by rw [List.length_map]; exact Int.ofNat_le.2 h3,h4,rfl⟩⟩,fun b' X hb' hX=>?_,Int.natCast_nonneg _⟩
  ·rw [List.length_map]; rfl
  ·have:b' ≠ b:=fun he=>hb' (by rw [he]; rfl)
   simp only [Hp.del,this,if_false]; exact hX
theorem q57 {h:Hp} {R:qd} {G:List (List Int)} {k:Nat} (hg:qhi h R G):qhi h (R.set k [.slice none 0 0]) (G.set k []):=by
 obtain ⟨h1,h2,h3⟩:=hg
 refine ⟨by simp [h1],fun j g hj=>?_,fun i j v w b hij hi hj hv=>?_⟩
 ·rcases q7.1 hj with ⟨rfl,hl,rfl⟩ | ⟨hne,hj⟩
  ·exact ⟨_,q7.2 (.inl ⟨rfl,by omega,rfl⟩),.inl ⟨rfl,rfl⟩⟩
  ·obtain ⟨v,e,hs⟩:=h2 j g hj
   exact ⟨v,q7.2 (.inr ⟨hne,e⟩),hs⟩
 ·rcases q7.1 hi with ⟨_,_,e⟩ | ⟨hi0,hi⟩
  ·simp only [List.cons.injEq,and_true] at e
   rw [<- e] at hv; cases hv
  ·rcases q7.1 hj with ⟨_,_,e⟩ | ⟨hj0,hj⟩
   ·simp only [List.cons.injEq,and_true] at e
    rw [<- e]; intro hh; cases hh
   ·exact h3 i j v w b hij hi hj hv
theorem q5i {h h':Hp} {R:qd} {G:List (List Int)} {k b':Nat} {v v':Value} {g:List Int} (hg:qhi h R G) (hv:R[k]? = some [v]) (hs:qg8 h' v' g) (hb:qe9 v' = some b')
  (hle:∀ b X,qe9 v ≠ some b->h b = some X->h' b = some X/\b ≠ b'):qhi h' (R.set k [v']) (G.set k g):=by
 obtain ⟨h1,h2,h3⟩:=hg
 have hkl:=(List.getElem?_eq_some_iff.1 hv).1
 have hother:∀ j w,j ≠ k->R[j]? = some [w]->∀ b,qe9 w = some b->qe9 v ≠ some b:=fun j w hj hw b hb' hvb=>h3 k j v w b (Ne.symm hj) hv hw hvb hb'
 have hblk:∀ j w b,j ≠ k->R[j]? = some [w]->qe9 w = some b->b ≠ b':=fun j w b hj hw hb0=>by
  have hjl:j < G.length:=by rw [<- h1]; exact (List.getElem?_eq_some_iff.1 hw).1
  obtain ⟨w',e,hs'⟩:=h2 j _ (List.getElem?_eq_getElem hjl)
  rw [hw] at e
  simp only [Option.some.injEq,List.cons.injEq,and_true] at e
  subst e
  rcases hs' with ⟨rfl,_⟩ | ⟨b2,cap,c,rfl,q1,_⟩
  ·cases hb0
  ·have:b2 = b:=by simpa [qe9] using hb0
   subst this
   exact (hle _ _ (hother j _ hj hw _ rfl) q1).2
 refine ⟨by simp [h1],fun j g' hj=>?_,fun i j x y b hij hi hj hx=>?_⟩
 ·rcases q7.1 hj with ⟨rfl,hl,rfl⟩ | ⟨hne,hj⟩
  ·exact ⟨v',q7.2 (.inl ⟨rfl,hkl,rfl⟩),hs⟩
  ·obtain ⟨w,e,hw⟩:=h2 j g' hj
   exact ⟨w,q7.2 (.inr ⟨hne,e⟩),qrQ hw fun b X hwb hX=>(hle b X (hother j w hne e b hwb) hX).1⟩
 ·rcases q7.1 hi with ⟨rfl,_,e⟩ | ⟨hi0,hi⟩
  ·simp only [List.cons.injEq,and_true] at e
   subst e
   rcases q7.1 hj with ⟨rfl,_⟩ | ⟨hj0,hj⟩
   ·exact absurd rfl hij
   ·intro hy
    rw [hb] at hx
    exact hblk j y b hj0 hj hy (Option.some.inj hx).symm
  ·rcases q7.1 hj with ⟨hjk,_,e⟩ | ⟨hj0,hj⟩
   ·simp only [List.cons.injEq,and_true] at e
    subst e
    intro hy
    rw [hb] at hy
    exact hblk i x b hi0 hi hx (Option.some.inj hy).symm
   ·exact h3 i j x y b hij hi hj hx
theorem q0x {ρ:Env} {l:List SH} {h:Hp} {i j:Nat} {x y:SH} (hs:qW ρ l h) (hij:i < j) (hi:l[i]? = some x) (hj:l[j]? = some y):∃ hx hy,Hp.disj hx hy/\Hp.le hx h/\Hp.le hy h/\x.den ρ hx/\y.den ρ hy:=by
 obtain ⟨g1,g2,gd,gu,gx,gs⟩:=qM hs hi
 have hj':(l.eraseIdx i)[j - 1]? = some y:=by
  rw [List.getElem?_eraseIdx,if_neg (by omega),show j - 1 + 1 = j by omega]; exact hj
 obtain ⟨k1,k2,kd,ku,kx,_⟩:=qM gs hj'
 subst gu; subst ku
 rw [Hp.disj_union] at gd
 refine ⟨g1,k1,gd.1,Hp.le_left _ _,?_,gx,kx⟩
 exact Hp.le_trans (Hp.le_left k1 k2) (Hp.le_right (Hp.disj_union.2 gd))
end Go.Proofs

set_option linter.unusedSimpArgs false
set_option linter.unusedVariables false
namespace Go.Proofs
open Go Go.Eng
section
variable {h0 H:Hp} {v it mv it2:Value} {kd:List Int} {clock:Int} {cl cl1:Cl} {b c b' c':Nat} {l m:List ME} {seen seen2:List Nat} {e:ME}
end
section
variable {h0 H:Hp} {v it:Value} {o L:List Int} {cl:Cl}
end
end Go.Proofs

namespace Go.Proofs
open Go.Shelf
end Go.Proofs

set_option linter.unusedSimpArgs false
set_option linter.unusedVariables false
namespace Go.Proofs
open Go Go.Eng Go.Shelf Go.RowKit Go.Lib Go.Sort
theorem q10 {l:List Int}:qu (l.map qiL) = l:=by
 unfold qu
 rw [List.map_map]
 conv=>rhs; rw [<- List.map_id l]
 exact List.map_congr_left fun x _=>rfl
end Go.Proofs

set_option linter.unusedSimpArgs false
set_option linter.unusedVariables false
namespace Go.Proofs
open Go Go.Eng
theorem qnD {l:qd} {a:Int} {v:Value} (h0:0 <= a) (hr:∀ row,l[a.toNat]? = some row->row.length = 1):qaF l a 0 [v] = l.set a.toNat [v]:=by
 unfold qaF
 by_cases hl:a.toNat < l.length
 ·have:=hr _ (List.getElem?_eq_getElem hl)
  rw [List.getElem?_eq_getElem hl]
  match hm:l[a.toNat],this with
  | [x],_=>rfl
 ·rw [List.set_eq_of_length_le (by omega),List.set_eq_of_length_le (by omega)]
theorem qhS {H:List Bool} {a:Int} {b:Bool} (h0:0 <= a):qaF (H.map qf0) a 0 [.bool b] = (H.set a.toNat b).map qf0:=by
 rw [qnD h0 fun row hr=>?_,List.map_set]; rfl
 rw [List.getElem?_map] at hr
 obtain ⟨x,_,rfl⟩:=Option.map_eq_some_iff.1 hr
 rfl
theorem qrb {H:List Bool} {a:Int} (h1:a.toNat < H.length):H[a.toNat]? = some (qid (H.map qf0) a 0):=by
 rw [List.getElem?_eq_getElem h1]
 unfold qid qJ
 rw [List.getElem?_map,List.getElem?_eq_getElem h1]; rfl
theorem qs6 {h:Hp} {R:qd} {G:List (List Int)} (hg:qhi h R G) {a:Int} {g:List Int} (hj:G[a.toNat]? = some g):R[a.toNat]? = some [qJ R a 0]/\qg8 h (qJ R a 0) g:=by
 obtain ⟨v,e,hs⟩:=hg.2.1 _ _ hj
 have:qJ R a 0 = v:=by unfold qJ; rw [e]; rfl
 rw [this]; exact ⟨e,hs⟩
section
variable {o:List Int} {p n k:Int} {h h':Hp} {dH dF dG dN:qd} {nN:Int} {r:Bool} {a b:Int}
theorem qtB (hS:qb7 o p n k h dH dF dG dN nN r):(dH.length:Int) = p/\(dF.length:Int) = p/\(dG.length:Int) = p/\nN = (dN.length:Int)/\nN <= k:=by
 obtain ⟨H,F,G,N,rfl,rfl,hG,rfl,e,h1,h2,h3,h4,_⟩:=hS
 refine ⟨by rw [List.length_map]; exact h1,by rw [List.length_map]; exact h2,by rw [hG.1]; exact h3,by rw [List.length_map]; exact e,h4⟩
theorem qrz {k':Int} (hS:qb7 o p n k h dH dF dG dN nN r) (hk:k <= k') (hle:Hp.le h h'):qb7 o p n k' h' dH dF dG dN nN r:=by
 obtain ⟨H,F,G,N,e1,e2,hG,e3,e,h1,h2,h3,h4,h5,h6⟩:=hS
 exact ⟨H,F,G,N,e1,e2,qn3 hG hle,e3,e,h1,h2,h3,by omega,fun g hg=>by have:=h5 g hg; omega,h6⟩
theorem q1s (h0:0 <= p) {L:List Int} (hH:dH = qdU L p p) (hF:dF = List.replicate p.toNat (qf0 false)) (hG:dG = List.replicate p.toNat [.slice none 0 0]) (hN:dN = []) (hn:nN = 0):qb7 o p n 0 h dH dF dG dN nN false:=by
 subst hH hF hG hN hn
 refine ⟨(List.range p.toNat).map fun (j:Nat)=>decide ((j:Int) < p) && decide ((j:Int) ∈ L),List.replicate p.toNat false,List.replicate p.toNat [],[],?_,by simp,⟨by simp,fun j g hj=>?_,fun i j v w b _ hi _ hv=>?_⟩,rfl,rfl,by simp; omega,by simp; omega,by simp; omega,Int.le_refl _,fun g hg=>?_,?_⟩
 ·unfold qdU; rw [List.map_map]; rfl
 ·rw [List.getElem?_replicate] at hj ⊢
  split at hj
  ·rename_i hlt
   obtain rfl:=Option.some.inj hj
   exact ⟨_,if_pos hlt,.inl ⟨rfl,rfl⟩⟩
  ·cases hj
 ·rw [List.getElem?_replicate] at hi
  split at hi
  ·simp only [Option.some.injEq,List.cons.injEq,and_true] at hi
   rw [<- hi] at hv; cases hv
  ·cases hi
 ·rw [(List.mem_replicate.1 hg).2]; exact Int.le_refl _
 ·refine ⟨fun j=>((List.range p.toNat).map fun (j:Nat)=>decide ((j:Int) < p) && decide ((j:Int) ∈ L))[j]? = some true,fun _=>False,fun j hj=>hj,fun j hj=>⟨?_,.inl hj⟩,fun x hx=>(by cases hx),fun g hg x hx=>?_,fun d hd=>hd.elim,fun h=>by cases h⟩
  ·have hj:((List.range p.toNat).map fun (j:Nat)=>decide ((j:Int) < p) && decide ((j:Int) ∈ L))[j]? = some true:=hj
   have:=(List.getElem?_eq_some_iff.1 hj).1
   simp at this; omega
  ·rw [(List.mem_replicate.1 hg).2] at hx; cases hx
theorem q1g (hS:qb7 o p n k h dH dF dG dN nN r) (a0:0 <= a) (a1:a < p) (hc:qid dH a 0 = true) (b0:0 <= b) (b1:b < p) (hle:Hp.le h h'):qb7 o p n (k + 1) h' dH dF dG (dN ++ [[.int .i64 a,.int .i64 b]]) (nN + 1) r:=by
 obtain ⟨H,F,G,N,rfl,e2,hG,rfl,rfl,h1,h2,h3,h4,h5,h6⟩:=hS
 refine ⟨H,F,G,N ++ [(a,b)],rfl,e2,qn3 hG hle,by simp [qq0],by simp,h1,h2,h3,by omega,fun g hg=>by have:=h5 g hg; omega,?_⟩
 have ha:H[a.toNat]? = some true:=by rw [qrb (by omega),hc]
 have:=q5l (a:=a.toNat) (b:=b.toNat) h6 ha (by omega)
 rwa [show ((a.toNat:Nat):Int) = a by omega,show ((b.toNat:Nat):Int) = b by omega] at this
theorem q0z (hS:qb7 o p n k h dH dF dG dN nN r) (a0:0 <= a) (a1:a < p):qb7 o p n (k + 1) h (qaF dH a 0 [.bool true]) dF dG dN nN r:=by
 obtain ⟨H,F,G,N,rfl,e2,hG,rfl,rfl,h1,h2,h3,h4,h5,h6⟩:=hS
 exact ⟨H.set a.toNat true,F,G,N,qhS a0,e2,hG,rfl,rfl,by simpa using h1,h2,h3,by omega,fun g hg=>by have:=h5 g hg; omega,q5C h6 (by omega) h1⟩
theorem qzf (hS:qb7 o p n k h dH dF dG dN nN r) (a0:0 <= a) (a1:a < p):qb7 o p n (k + 1) h (qaF dH a 0 [.bool false]) (qaF dF a 0 [.bool true]) dG dN nN r:=by
 obtain ⟨H,F,G,N,rfl,rfl,hG,rfl,rfl,h1,h2,h3,h4,h5,h6⟩:=hS
 exact ⟨H.set a.toNat false,F.set a.toNat true,G,N,qhS a0,qhS a0,hG,rfl,rfl,by simpa using h1,by simpa using h2,h3,by omega,fun g hg=>by have:=h5 g hg; omega,q3n h6 (by omega) h2⟩
theorem qxd {R:qd} {G:List (List Int)} (hg:qhi h R G) {j:Nat} {row:List Value} (hr:R[j]? = some row):row.length = 1:=by
 have hl:j < G.length:=by rw [<- hg.1]; exact (List.getElem?_eq_some_iff.1 hr).1
 obtain ⟨v,e,_⟩:=hg.2.1 _ _ (List.getElem?_eq_getElem hl)
 rw [hr] at e
 rw [Option.some.inj e]; rfl
theorem qw1 (hS:qb7 o p n k h dH dF dG dN nN r) (a0:0 <= a) (a1:a < p):qb7 o p n (k + 1) h dH dF (qaF dG a 0 [.slice none 0 0]) dN nN r:=by
 obtain ⟨H,F,G,N,e1,e2,hG,e3,e,h1,h2,h3,h4,h5,h6⟩:=hS
 rw [qnD a0 fun row hr=>qxd hG hr]
 refine ⟨H,F,G.set a.toNat [],N,e1,e2,q57 hG,e3,e,h1,h2,by simpa using h3,by omega,fun g hg=>?_,q13 h6⟩
 rcases List.mem_or_eq_of_mem_set hg with hg | rfl
 ·have:=h5 g hg; omega
 ·have:(0:Int) <= nN:=by omega
  simp; omega
theorem q2m (hS:qb7 o p n k h dH dF dG dN nN r) (a0:0 <= a) (a1:a < p):∃ g:List Int,Rd h kI (qJ dG a 0) (g.map qiL)/\(g.length:Int) <= k/\(qid dH a 0 = true->qgS o a n g = true->∀ h',Hp.le h h'->qb7 o p n (k + 1) h' (qaF dH a 0 [.bool false]) dF dG dN nN true):=by
 obtain ⟨H,F,G,N,rfl,e2,hG,rfl,rfl,h1,h2,h3,h4,h5,h6⟩:=hS
 have hl:a.toNat < G.length:=by omega
 have hg:=List.getElem?_eq_getElem hl
 refine ⟨G[a.toNat],q5A (qs6 hG hg).2,h5 _ (List.getElem_mem hl),fun hc hcov h' hle=>?_⟩
 refine ⟨H.set a.toNat false,F,G,N,qhS a0,e2,qn3 hG hle,rfl,rfl,by simpa using h1,h2,h3,by omega,fun g hg=>by have:=h5 g hg; omega,?_⟩
 have ha:H[a.toNat]? = some true:=by rw [qrb (by omega),hc]
 exact q5u h6 ha hg (by rwa [show ((a.toNat:Nat):Int) = a by omega])
theorem q26 (hS:qb7 o p n k h dH dF dG dN nN r) {x:Int} (x0:0 <= x) (x1:x < nN):0 <= qg dN x 1/\qg dN x 1 < p/\∃ h1 r1 cap d,qtl h 3 kI (qJ dG (qg dN x 1) 0) d h1 r1 cap/\(d.length:Int) <= k /\
  ∀ (r2:Option Addr) (c2:Int) (hA hB H2:Hp),((r2 = none/\d ++ [[Value.int .i64 (qg dN x 0)]] = []/\c2 = 0)∨∃ b c,r2 = some ⟨b,0,none⟩/\hA b = some (.cells c 3 (0,0))/\c.size = c2.toNat * 1/\((d ++ [[Value.int .i64 (qg dN x 0)]]).length:Int) <= c2/\qT c 0 kI (d ++ [[Value.int .i64 (qg dN x 0)]])) ->
   Hp.disj hA hB->Hp.le h1 hB->Hp.le hA H2->Hp.le hB H2->qb7 o p n (k + 1) H2 dH dF (qaF dG (qg dN x 1) 0 [.slice (ql r2 0) (d.length + 1) c2.toNat]) dN nN r:=by
 obtain ⟨H,F,G,N,e1,e2,hG,rfl,rfl,l1,l2,l3,l4,l5,l6⟩:=hS
 have hxl:x.toNat < N.length:=by omega
 have hxN:N[x.toNat] ∈ N:=List.getElem_mem hxl
 have c0:qg (N.map qq0) x 0 = N[x.toNat].1:=by
  unfold qg qJ; rw [List.getElem?_map,List.getElem?_eq_getElem hxl]; rfl
 have c1:qg (N.map qq0) x 1 = N[x.toNat].2:=by
  unfold qg qJ; rw [List.getElem?_map,List.getElem?_eq_getElem hxl]; rfl
 obtain ⟨a',b',eab,_,hb'⟩:∃ a b:Nat,N[x.toNat] = ((a:Int),(b:Int))/\True/\(b:Int) < p:=by
  obtain ⟨E,D,_,_,hN,_⟩:=l6
  obtain ⟨a,b,e,_,hb⟩:=hN _ hxN
  exact ⟨a,b,e,trivial,hb⟩
 have hk1:qg (N.map qq0) x 1 = (b':Int):=by rw [c1,eab]
 have hk0:qg (N.map qq0) x 0 = N[x.toNat].1:=c0
 rw [hk1,hk0]
 have hbl:b' < G.length:=by omega
 have hg:=List.getElem?_eq_getElem hbl
 have hcell:=qs6 (a:=(b':Int)) hG (g:=G[b']) (by simp)
 simp only [Int.toNat_natCast] at hcell
 obtain ⟨hR,hslot⟩:=hcell
 obtain ⟨h1,r1,cap,hT,hkeep,hcap⟩:=q0q hslot
 refine ⟨by omega,hb',h1,r1,cap,G[b'].map qiL,hT,by rw [List.length_map]; exact l5 _ (List.getElem_mem hbl),fun r2 c2 hA hB H2 hAr hdj hle1 hle2 hle3=>?_⟩
 rcases hAr with ⟨_,hbad,_⟩ | ⟨b2,c,rfl,hb2,hcs,hlc,hrows⟩
 ·simp at hbad
 rw [qnD (by omega) fun row hr=>qxd hG hr]
 simp only [Int.toNat_natCast,List.length_map]
 have hmap:G[b'].map qiL ++ [[Value.int .i64 N[x.toNat].1]] = (G[b'] ++ [N[x.toNat].1]).map qiL:=by simp [qiL]
 rw [hmap] at hrows hlc
 rw [List.length_map] at hlc
 have hslot2:qg8 H2 (.slice (ql (some ⟨b2,0,none⟩) 0) (G[b'].length + 1) c2.toNat) (G[b'] ++ [N[x.toNat].1]):=by
  refine .inr ⟨b2,c2.toNat,c,by simp [ql],hle2 _ _ hb2,hcs,?_,hrows⟩
  omega
 refine ⟨H,F,G.set b' (G[b'] ++ [N[x.toNat].1]),N,e1,e2,q5i hG hR hslot2 rfl fun b X hb hX=>?_,rfl,rfl,l1,l2,by simpa using l3,by omega,fun g hg'=>?_,q6S l6 hxN hg⟩
 ·have hB1:=hle1 _ _ (hkeep b X hb hX)
  refine ⟨hle3 _ _ hB1,fun he=>?_⟩
  subst he
  rcases hdj b with h | h
  ·rw [hb2] at h; cases h
  ·rw [hB1] at h; cases h
 ·rcases List.mem_or_eq_of_mem_set hg' with hg' | rfl
  ·have:=l5 g hg'; omega
  ·have:=l5 _ (List.getElem_mem hbl)
   rw [List.length_append]; simp; omega
theorem q56 {H:List Bool}:((H.map qf0).filter fun r=>qmm (r.headD .nilFunc)).length = (H.filter id).length:=by
 rw [List.filter_map,List.length_map]; rfl
theorem qqS {H:List Bool} (hl:(H.length:Int) = p):qez (H.map qf0) p = ((H.filter id).length:Int):=by
 unfold qez
 rw [List.take_of_length_le (by rw [List.length_map]; omega),q56]
theorem qkN (hS:qb7 o p n k h dH dF dG dN nN r) {r':Bool} (hr:r' = (r || decide (n <= qez dH p))):qb7 o p n k h dH dF dG dN nN r':=by
 obtain ⟨H,F,G,N,rfl,e2,hG,e3,e,l1,l2,l3,l4,l5,l6⟩:=hS
 refine ⟨H,F,G,N,rfl,e2,hG,e3,e,l1,l2,l3,l4,l5,?_⟩
 rw [hr,qqS l1]
 exact q30 l6
theorem q2I (hS:qb7 o p n k h dH dF dG dN nN r) (hr:r = true∨n <= qez dH p):n <= qez dH p + qez dF p:=by
 have hS2:qb7 o p n k h dH dF dG dN nN true:=qkN hS (by rcases hr with h | h <;> simp [h])
 obtain ⟨H,F,G,N,rfl,rfl,hG,e3,e,l1,l2,l3,l4,l5,l6⟩:=hS2
 rw [qqS l1,qqS l2]
 exact q6V l6
end
theorem qrs {d:qd} {j:Int} (j0:0 <= j) (j1:j < d.length):qez d (j + 1) = qez d j + if qid d j 0 = true then 1 else 0:=by
 unfold qez qid qJ
 rw [show (j + 1).toNat = j.toNat + 1 by omega,List.take_add_one,List.getElem?_eq_getElem (by omega:j.toNat < d.length),List.filter_append]
 have e:d[j.toNat].headD .nilFunc = d[j.toNat][0]?.getD .nilFunc:=by cases d[j.toNat] <;> rfl
 simp only [Option.toList_some,Option.getD_some,List.length_append,List.filter_cons,List.filter_nil,e]
 split <;> simp
theorem qwE {d:qd} {j:Int}:0 <= qez d j/\qez d j <= d.length:=by
 unfold qez
 refine ⟨Int.natCast_nonneg _,Int.ofNat_le.2 (Nat.le_trans (List.length_filter_le _ _) ?_)⟩
 rw [List.length_take]; omega
theorem qvU {L:List Int} {p:Int}:List.replicate p.toNat (qf0 false) = qdU L p 0:=by
 unfold qdU
 apply List.ext_getElem?
 intro i
 rw [List.getElem?_replicate,List.getElem?_map]
 by_cases hi:i < p.toNat
 ·rw [if_pos hi,List.getElem?_range hi]
  have:¬ ((i:Int) < 0):=by omega
  simp [this]
 ·rw [if_neg hi,List.getElem?_eq_none (by simpa using Nat.le_of_not_lt hi)]; rfl
theorem qxN {L:List Int} {p i:Int}:(qdU L p i).length = p.toNat:=by simp [qdU]
theorem qvN {L:List Int} {p i:Int} (i0:0 <= i) (i1:i < p):qaF (qdU L p i) i 0 [.bool (decide (i ∈ L))] = qdU L p (i + 1):=by
 have e:∀ i:Int,qdU L p i = ((List.range p.toNat).map fun (j:Nat)=>decide ((j:Int) < i) && decide ((j:Int) ∈ L)).map qf0:=fun i=>by unfold qdU; rw [List.map_map]; rfl
 rw [e,e,qhS i0]
 congr 1
 apply List.ext_getElem?
 intro j
 rw [List.getElem?_set,List.getElem?_map,List.getElem?_map]
 by_cases hj:j < p.toNat
 ·rw [List.getElem?_range hj]
  by_cases hij:i.toNat = j
  ·have hji:(j:Int) = i:=by omega
   rw [if_pos hij,if_pos (by simpa using by omega)]
   simp only [Option.map_some,hji,decide_eq_true (show i < i + 1 by omega),Bool.true_and]
  ·rw [if_neg hij]
   simp only [Option.map_some,Option.some.injEq]
   have:decide ((j:Int) < i) = decide ((j:Int) < i + 1):=decide_eq_decide.2 (by omega)
   rw [this]
 ·rw [List.getElem?_eq_none (by simpa using Nat.le_of_not_lt hj)]
  rw [if_neg (by omega)]; rfl
end Go.Proofs

set_option linter.unusedSimpArgs false
set_option linter.unusedVariables false
namespace Go.Proofs
open Go Go.Eng
set_option maxRecDepth 20000
theorem q5K:qgu.ok Tryz.prog:=q5P (by simp) fun ρ hg hp=>by
 obtain ⟨h1,h2⟩:=hp
 simp (config:={ maxSteps:=4000000 }) [qsA,qgu]
 have e:qc .rem .i64 (ρ 0).i (ρ 1).i = Int.tmod (ρ 0).i (ρ 1).i:=rfl
 have hm:Int.tmod (ρ 0).i (ρ 1).i < (ρ 1).i:=Int.tmod_lt_of_pos _ (by omega)
 have hm2:-(ρ 1).i < Int.tmod (ρ 0).i (ρ 1).i:=by
  have:=Int.tmod_lt_of_pos (-(ρ 0).i) (show 0 < (ρ 1).i by omega)
  rw [Int.neg_tmod] at this; omega
 have hd:(ρ 0).i % (ρ 1).i = Int.tmod (ρ 0).i (ρ 1).i % (ρ 1).i:=by
  conv=>lhs; rw [<- Int.mul_tdiv_add_tmod (ρ 0).i (ρ 1).i,Int.add_comm,Int.add_mul_emod_self_left]
 rw [e]
 refine ⟨by omega,fun h=>?_,fun h=>?_⟩
 ·rw [add64 (by omega) (by omega),hd,<- Int.add_emod_right,Int.emod_eq_of_lt (by omega) (by omega)]
 ·rw [hd,Int.emod_eq_of_lt (by omega) (by omega)]
set_option maxHeartbeats 2000000 in
theorem qz4:qcB.ok Tryz.prog:=qyH (by simp [q0l,q5K,q6I,q5z,q7n]) fun ρ hg hp=>by
 obtain ⟨hO,⟨hl,h1,hr⟩,⟨hle,h1e,hre⟩,hGr,hGd⟩:=hp
 simp only [Nat.reduceAdd] at hl h1 hr hle h1e hre
 simp (config:={ maxSteps:=4000000 }) [qlP,qcB,qcN,qgu,qi6,qgw,qfM,q0y,qyk,qsD,qur,qzE,qtV,qpk,qco,qbf,qmu,gOk,hO,hGr,hGd,hl,hle]
 intro _ _ _ _ p2 p12 n1 np l16 e300
 refine ⟨⟨by omega,by omega,.inr rfl⟩,?_⟩
 intro _ _ _ _ _ _ D5 _ _ _ _ _ D8 _ hD5 hD8
 refine ⟨by omega,by omega,?_⟩
 intro _ _ _ _
 refine ⟨⟨by omega,by rw [hD5]; exact qvU,hD8⟩,?_⟩
 intro _ _ _ _ _ _ A14 _ _ _ _ _ A17 _ _ _ _ _ A20 _ _ _ _ _ A23 _ A24 _ A25 _ i0 i1 hA14 hA17 hA20 hA23 hA24
 have lA14:(A14.d.length:Int) = (ρ 1).i:=by rw [hA14,qxN]; omega
 refine ⟨fun hi=>⟨⟨by omega,hr⟩,fun b _ hb=>⟨i0,by omega,?_⟩⟩,fun hi=>?_⟩
 ·rw [qcM i0 (by omega)]
  exact ⟨⟨by omega,by omega,by rw [hA14,hb]; exact qvN i0 hi,hA17,hA20,hA23,hA24⟩,by omega⟩
 intro H26 _ _
 have eA:A25.i = (ρ 1).i:=by omega
 rw [eA] at hA14
 refine ⟨q1s (by omega) hA14 hA17 hA20 hA23 hA24,?_⟩
 intro _ _ _ _ _ _ B30 _ _ _ _ _ B33 _ _ _ _ _ B36 _ _ _ _ _ B39 _ B40 _ B41 _ B42 _ B43 _ j0 j1 hS hlt
 obtain ⟨q1,q2,q3,q4,q5⟩:=qtB hS
 have hK:=qrz hS (k':=B42.i + 2) (by omega) (Hp.le_refl _)
 have m0:∀ x:Int,0 <= x % (ρ 1).i:=fun x=>Int.emod_nonneg _ (by omega)
 have m1:∀ x:Int,x % (ρ 1).i < (ρ 1).i:=fun x=>Int.emod_lt_of_pos _ (by omega)
 have k2:B42.i + 2 = B42.i + 1 + 1:=by omega
 refine ⟨⟨fun hi0=>⟨hi0,hlt,⟨by omega,by omega⟩,fun C44 _ hC44=>⟨⟨by omega,by omega⟩,fun C45 _ hC45=>?_⟩⟩,fun _=>hK⟩,?_⟩
 ·have a0:0 <= C44.i:=by rw [hC44]; exact m0 _
  have a1:C44.i < (ρ 1).i:=by rw [hC44]; exact m1 _
  have b0:0 <= C45.i:=by rw [hC45]; exact m0 _
  have b1:C45.i < (ρ 1).i:=by rw [hC45]; exact m1 _
  refine ⟨fun _=>⟨a0,a1,by omega,fun hx=>⟨fun hne Q _=>⟨q4,by omega,?_⟩,fun _=>hK⟩,fun _=>hK⟩,fun _=>⟨fun _=>⟨by omega,fun hn0=>⟨⟨by omega,by omega⟩,fun C46 _ hC46=>?_⟩,fun _=>hK⟩,fun _=>⟨fun _=>⟨a0,a1,by omega,by omega,fun hx=>⟨by omega,by omega,?_⟩,fun _=>hK⟩,fun _=>⟨fun _=>⟨a0,a1,by omega,?_⟩,fun _=>⟨fun _=>⟨a0,a1,by omega,by omega,?_⟩,fun _=>⟨fun _=>⟨a0,a1,by omega,?_⟩,fun _=>hK⟩⟩⟩⟩⟩⟩
  ·intro _ _ _ _ H49 _ hst
   have h:=qc7 58 10 hst (by simp)
   rw [k2]
   exact q1g hS a0 a1 hx b0 b1 (by simpa using h)
  ·have x0:0 <= C46.i:=by rw [hC46]; exact Int.emod_nonneg _ (by omega)
   have x1:C46.i < B40.i:=by rw [hC46]; exact Int.emod_lt_of_pos _ (by omega)
   obtain ⟨c0,c1,h1',r1,cap,d,hT,hdl,hnext⟩:=q26 hS x0 x1
   refine ⟨x0,x1,by omega,fun _ _=>⟨c0,c1,by omega,fun _ _=>⟨h1',r1,cap,d,hT,by omega,?_⟩⟩⟩
   intro U49 _ U50 _ H51 _ hst
   obtain ⟨hA,hB,dj,leA,leB,denA,denB⟩:=q0x hst (i:=0) (j:=1) (by decide) rfl rfl
   rw [k2]
   refine hnext U49.r U50.i hA hB H51.h ?_ dj ?_ leA leB
   ·simpa [SH.den,kI] using denA
   ·simpa [SH.den] using denB.1
  ·obtain ⟨g,hRd,hgl,hdrop⟩:=q2m hS a0 a1
   refine ⟨g.map qiL,hRd,fun _ _ _ _=>⟨⟨by rw [List.length_map]; omega,fun row hr'=>?_⟩,fun _ _ _ _ D48 _ hD48=>⟨?_,fun W49 _ hW=>⟨fun hw H50 _ hst=>?_,fun hw H50 _ hst=>?_⟩⟩⟩⟩
   ·obtain ⟨x,_,rfl⟩:=List.mem_map.1 hr'; rfl
   ·rw [hD48,List.length_map]
    refine ⟨rfl,by omega,fun row hr'=>?_⟩
    obtain ⟨x,_,rfl⟩:=List.mem_map.1 hr'; rfl
   ·have h:=qc7 58 10 hst (by simp)
    rw [hD48,q10] at hW
    rw [k2]
    exact hdrop hx (by rw [<- hW]; exact hw) _ (by simpa using h)
   ·have h:=qc7 58 10 hst (by simp)
    exact qrz hS (by omega) (by simpa using h)
  ·rw [k2]; exact q0z hS a0 a1
  ·rw [k2]; exact qzf hS a0 a1
  ·rw [k2]; exact qw1 hS a0 a1
 ·intro C30 _ C33 _ C36 _ C39 _ C40 _ C41 _ C42 _ C43 _ eC hSC
  refine ⟨⟨eC,hSC,by omega,by simp [qez],by simp [qez]⟩,?_⟩
  intro E30 _ E33 _ E36 _ E39 _ E40 _ E41 _ E42 _ E43 _ E58 _ E59 _ E60 _ eE hSE y0 y1 z0 z1
  obtain ⟨s1,s2,s3,s4,s5⟩:=qtB hSE
  have cb:=qwE (d:=E30.d) (j:=E60.i)
  have cb2:=qwE (d:=E33.d) (j:=E60.i)
  refine ⟨fun hy=>?_,fun hy=>?_⟩
  ·have n1':=qrs (d:=E30.d) y0 (by omega)
   have n2':=qrs (d:=E33.d) y0 (by omega)
   rw [qcM y0 (by omega),qcM (i:=E58.i) (by omega) (by omega),qcM (i:=E59.i) (by omega) (by omega),n1',n2',<- z0,<- z1]
   refine ⟨y0,by omega,fun hx=>⟨by omega,fun hx2=>?_,fun hx2=>?_⟩,fun hx=>⟨by omega,fun hx2=>?_,fun hx2=>?_⟩⟩ <;> simp only [hx,hx2,if_true,Bool.false_eq_true,if_false,Int.add_zero] <;> exact ⟨⟨eE,hSE,by omega,by omega,by trivial,by trivial⟩,by omega⟩
  ·have ey:E60.i = (ρ 1).i:=by omega
   rw [ey] at z0 z1 cb cb2
   have hend:=q2I hSE
   have hsub:qc .sub .i64 (ρ 2).i E59.i = (ρ 2).i - E59.i:=wrap64 (by omega) (by omega)
   have hadd:qc .add .i64 E42.i 1 = E42.i + 1:=add64 (by omega) (by omega)
   rw [hsub,hadd]
   have eK:B42.i + 2 = E42.i + 1 + 1:=by omega
   rw [eK] at hSE
   refine ⟨fun hx=>⟨?_,fun _=>⟨⟨by omega,by omega,?_⟩,by omega⟩⟩,fun hx=>⟨fun hx2=>⟨?_,fun _=>⟨⟨by omega,by omega,?_⟩,by omega⟩⟩,fun hx2=>⟨⟨by omega,by omega,?_⟩,by omega⟩⟩⟩
   ·have:=hend (.inl hx); omega
   ·rw [<- hx]; exact hSE
   ·have:=hend (.inr (by omega)); omega
   ·exact qkN hSE (by rw [hx,Bool.false_or,<- z0]; rfl)
   ·exact qkN hSE (by rw [hx,Bool.false_or,<- z0]; rfl)
end Go.Proofs
