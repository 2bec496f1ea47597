/- Texts DP, ZC, ZT, ZP, ZO, ZN, ZQ, ZR, ZD, ZH, ZI, ZK, ZM, ZS, ZV. -/
import Derived.Test.YtelcnkclppkicaaGreatDoorG5
import Derived.Test.YtelcnkclppkicaaGreatDoorProg
import Derived.Tactics
import Derived.Tactics2
import Derived.Defers
import Derived.Laws.Pointers
import Derived.Laws.LoneSync
import Derived.RegionTactic
import Derived.RegionCalls
import Derived.ChangeAlike
set_option linter.unusedSimpArgs false
set_option linter.unusedVariables false
set_option maxRecDepth 100000
namespace Go.Proofs
open Go Go.Eng

def qpl:Out:=(.br (.cmp .leq (.lit 1) (.var 0))
 (.br (.cmp .leq (.var 0) (.var 1))
 (.br (.cmp .leq (.var 1) (.var 2))
 (.ret 0 (sg 3 [bt 3 (.cmp .leq (.var 2) (.lit 255))]))
 (.ret 0 (sg 3 [bt 3 (.bl false)])))
 (.ret 0 (sg 3 [bt 3 (.bl false)])))
 (.ret 0 (sg 3 [bt 3 (.bl false)])))
theorem qye:qj ⟨Tryz.prog,qce,[],[]⟩ 100000 Tryz.f86 = qpl:=by kernel_rfl
theorem q3d (hd:∀ c ∈ ([]:List Ctr),c.ok Tryz.prog) (h:∀ ρ:Env,ρ.good->(qce).pre ρ->qpl.den ⟨Tryz.prog,qce,[],[]⟩ ρ):(qce).ok Tryz.prog :=
 qf Tryz.func86 (fun a w=>Tryz.call86 a w) hd 100000 (fun ρ hg hp=>by rw [qye]; exact h ρ hg hp)
def qpf:Out:=(.fresh 10 (.pre 0 (sg 0 [bv 2 2,bv 1 1,bv 0 0]) (.both (.fresh 11 (.post 0 0 (sg 0 [bv 2 2,bv 1 1,bv 0 0]) 11 (.br (.not (.var 11))
 (.ret 0 (sg 10 [bt 10 (.lit 2)]))
 (.br (.cmp .lss (.var 3) (.lit 0))
 (.ret 0 (sg 10 [bt 10 (.lit 2)]))
 (.br (.cmp .gtr (.var 3) (.lit 8192))
 (.ret 0 (sg 10 [bt 10 (.lit 2)]))
 (.need (.cmp .leq (.lit 0) (.var 6)) (.br (.cmp .neq (.var 6) (.var 2))
 (.ret 0 (sg 10 [bt 10 (.lit 2)]))
 (.ret 0 (sg 10 [bt 10 (.lit 0)]))))))))) .top)))
theorem qxR:qj ⟨Tryz.prog,qaz,[qce],[]⟩ 100000 Tryz.f74 = qpf:=by kernel_rfl
theorem q2Q (hd:∀ c ∈ ([qce]:List Ctr),c.ok Tryz.prog) (h:∀ ρ:Env,ρ.good->(qaz).pre ρ->qpf.den ⟨Tryz.prog,qaz,[qce],[]⟩ ρ):(qaz).ok Tryz.prog :=
 qf Tryz.func74 (fun a w=>Tryz.call74 a w) hd 100000 (fun ρ hg hp=>by rw [qxR]; exact h ρ hg hp)
@[simp] def qoj:Sg:=sg 0 [bv 9 8,bt 7 (.lit 2),bt 6 (.dapp (.rcons (.vint .u8 (.conv .u8 (.arith .shr .i64 (.var 0) (.lit 8)))) .rnil) (.rcons (.vint .u8 (.conv .u8 (.var 0))) .rnil)),bv 1 11,bt 5 (.lit 2),bt 4 (.lit 2),bt 3 (.lit 0),bg 2 12,bg 0 10,bg 8 7]
def qm6:Out:=(.fresh 9 (.pre 0 (sg 0 []) (.both (.fresh 10 (.fresh 11 (.post 0 0 (sg 0 []) 10 (.fresh 12 (.pre 1 qoj (.both (.fresh 13 (.post 1 0 qoj 13 (.pre 1 (sg 0 [bv 9 8,bv 7 6,bv 6 5,bv 1 13,bv 5 4,bv 4 3,bv 3 2,bg 2 1,bg 0 10,bg 8 7]) (.both (.fresh 14 (.post 1 0 (sg 0 [bv 9 8,bv 7 6,bv 6 5,bv 1 13,bv 5 4,bv 4 3,bv 3 2,bg 2 1,bg 0 10,bg 8 7]) 14 (.pre 2 (sg 0 [bv 3 8,bv 1 14,bg 0 10,bg 2 7]) (.both (.fresh 15 (.post 2 0 (sg 0 [bv 3 8,bv 1 14,bg 0 10,bg 2 7]) 15 (.ret 0 (sg 9 [bt 9 (r8 15)])))) .top)))) .top)))) .top)))))) .top)))
theorem qvT:qj ⟨Tryz.prog,qaB,[qbx,qcR,qfK],[]⟩ 100000 Tryz.f88 = qm6:=by kernel_rfl
theorem q0H (hd:∀ c ∈ ([qbx,qcR,qfK]:List Ctr),c.ok Tryz.prog) (h:∀ ρ:Env,ρ.good->(qaB).pre ρ->qm6.den ⟨Tryz.prog,qaB,[qbx,qcR,qfK],[]⟩ ρ):(qaB).ok Tryz.prog :=
 qf Tryz.func88 (fun a w=>Tryz.call88 a w) hd 100000 (fun ρ hg hp=>by rw [qvT]; exact h ρ hg hp)
@[simp] def qlw:Sg:=sg 0 [bv 6 52,bv 5 51,bv 4 50,bg 3 49,bv 2 48,bv 1 47,bg 0 46]
@[simp] def qqh:Sg:=sg 0 [bt 6 .dnil,bt 5 (.lit 0),bt 4 (.lit 0),(3,.nil),bt 2 (.bl false),bv 1 13,bt 7 (.lit 19713),bg 0 12]
@[simp] def qp5:Sg:=sg 0 [bt 8 (.rcons (i8 8 53 0) (.rcons (i8 8 53 1) (.rcons (i8 8 53 2) (.rcons (i8 8 53 3) (.rcons (i8 8 53 4) (.rcons (i8 8 53 5) (.rcons (i8 8 53 6) (.rcons (i8 8 53 7) (.rcons (i8 8 53 8) (.rcons (i8 8 53 9) (.rcons (i8 8 53 10) (.rcons (i8 8 53 11) (.rcons (i8 8 53 12) (.rcons (i8 8 53 13) (.rcons (i8 8 53 14) (.rcons (i8 8 53 15) (.rcons (i8 8 53 16) (.rcons (i8 8 53 17) (.rcons (i8 8 53 18) (.rcons (i8 8 53 19) (.rcons (i8 8 53 20) (.rcons (i8 8 53 21) (.rcons (i8 8 53 22) (.rcons (i8 8 53 23) (.rcons (i8 8 53 24) (.rcons (i8 8 53 25) (.rcons (i8 8 53 26) (.rcons (i8 8 53 27) (.rcons (i8 8 53 28) (.rcons (i8 8 53 29) (.rcons (i8 8 53 30) (.rcons (i8 8 53 31) .rnil)))))))))))))))))))))))))))))))),bv 6 52,bv 5 51,bv 4 50,bg 3 49,bv 2 48,bv 1 47,bg 7 54,bg 0 46]
@[simp] def qpL:Sg:=sg 0 [bt 8 (.rcons (.vint .i64 (.var 0)) (.rcons (.vint .i64 (.var 1)) (.rcons (.vint .i64 (.var 2)) (.rcons (.vint .i64 (.var 3)) (.rcons (x8 0 4) (.rcons (x8 1 4) (.rcons (x8 2 4) (.rcons (x8 3 4) (.rcons (x8 4 4) (.rcons (x8 5 4) (.rcons (x8 6 4) (.rcons (x8 7 4) (.rcons (x8 8 4) (.rcons (x8 9 4) (.rcons (x8 10 4) (.rcons (x8 11 4) (.rcons (x8 12 4) (.rcons (x8 13 4) (.rcons (x8 14 4) (.rcons (x8 15 4) (.rcons (x8 16 4) (.rcons (x8 17 4) (.rcons (x8 18 4) (.rcons (x8 19 4) (.rcons (x8 20 4) (.rcons (x8 21 4) (.rcons (x8 22 4) (.rcons (x8 23 4) (.rcons (x8 24 4) (.rcons (x8 25 4) (.rcons (x8 26 4) (.rcons (x8 27 4) (.rcons (x8 28 4) (.rcons (x8 29 4) (.rcons (x8 30 4) (.rcons (x8 31 4) (.rcons (.vslice 5 (.lit 0) (.var 6) (.var 7) 32) .rnil))))))))))))))))))))))))))))))))))))),bv 6 40,bv 5 39,bv 4 38,bg 3 37,bv 2 36,bv 1 13,bg 7 10,bg 0 12]
def qpi:Out:=(.fresh 10 (.pre 0 (sg 0 [bv 9 9,bv 8 8,bv 7 7,bv 6 6,bg 5 5,bv 3 3,bv 2 2,bv 1 1,bv 0 0,bt 4 (r8 4)]) (.both (.fresh 11 (.post 0 0 (sg 0 [bv 9 9,bv 8 8,bv 7 7,bv 6 6,bg 5 5,bv 3 3,bv 2 2,bv 1 1,bv 0 0,bt 4 (r8 4)]) 11 (.br (.cmp .neq (.var 11) (.lit 0))
 (.need (.cmp .eql (.lit 2) (.var 11)) (.ret 0 (sg 10 [])))
 (.pre 1 (sg 0 [bt 0 (.arith .add .i64 (.lit 39) (.arith .mul .i64 (.lit 32) (.var 2)))]) (.both (.fresh 12 (.fresh 13 (.fresh 14 (.fresh 15 (.post 1 0 (sg 0 [bt 0 (.arith .add .i64 (.lit 39) (.arith .mul .i64 (.lit 32) (.var 2)))]) 12 (.pre 3 qqh (.both (.fresh 16 (.fresh 17 (.fresh 18 (.fresh 19 (.fresh 20 (.post 3 0 qqh 16 (.pre 2 (sg 0 [bv 6 20,bv 5 19,bv 4 18,bg 3 17,bv 2 16,bv 1 13,bt 7 (.conv .u8 (.var 0)),bg 0 12]) (.both (.fresh 21 (.fresh 22 (.fresh 23 (.fresh 24 (.fresh 25 (.post 2 0 (sg 0 [bv 6 20,bv 5 19,bv 4 18,bg 3 17,bv 2 16,bv 1 13,bt 7 (.conv .u8 (.var 0)),bg 0 12]) 21 (.pre 2 (sg 0 [bv 6 25,bv 5 24,bv 4 23,bg 3 22,bv 2 21,bv 1 13,bt 7 (.conv .u8 (.var 1)),bg 0 12]) (.both (.fresh 26 (.fresh 27 (.fresh 28 (.fresh 29 (.fresh 30 (.post 2 0 (sg 0 [bv 6 25,bv 5 24,bv 4 23,bg 3 22,bv 2 21,bv 1 13,bt 7 (.conv .u8 (.var 1)),bg 0 12]) 26 (.pre 2 (sg 0 [bv 6 30,bv 5 29,bv 4 28,bg 3 27,bv 2 26,bv 1 13,bt 7 (.conv .u8 (.var 2)),bg 0 12]) (.both (.fresh 31 (.fresh 32 (.fresh 33 (.fresh 34 (.fresh 35 (.post 2 0 (sg 0 [bv 6 30,bv 5 29,bv 4 28,bg 3 27,bv 2 26,bv 1 13,bt 7 (.conv .u8 (.var 2)),bg 0 12]) 31 (.pre 3 (sg 0 [bv 6 35,bv 5 34,bv 4 33,bg 3 32,bv 2 31,bv 1 13,bt 7 (.conv .u16 (.var 3)),bg 0 12]) (.both (.fresh 36 (.fresh 37 (.fresh 38 (.fresh 39 (.fresh 40 (.post 3 0 (sg 0 [bv 6 35,bv 5 34,bv 4 33,bg 3 32,bv 2 31,bv 1 13,bt 7 (.conv .u16 (.var 3)),bg 0 12]) 36 (.pre 4 qpL (.both (.fresh 41 (.fresh 42 (.fresh 43 (.fresh 44 (.fresh 45 (.post 4 0 qpL 41 (.need (.cmp .leq (.lit 0) (.var 6)) (.inv 0 46 (sg 1000 [bv 1006 45,bv 1005 44,bv 1004 43,bg 1003 42,bv 1002 41,bv 1001 13,bt 1007 (.lit 0),bg 1000 12]) (.fresh 46 (.fresh 47 (.fresh 48 (.fresh 49 (.fresh 50 (.fresh 51 (.fresh 52 (.fresh 53 (.hyp 0 46 (.br (.cmp .lss (.var 53) (.var 6))
 (.need (.cmp .leq (.lit 0) (.var 53)) (.need (.cmp .lss (.var 53) (.dlen (.var 8))) (.fresh 54 (.pre 5 qp5 (.both (.fresh 55 (.fresh 56 (.fresh 57 (.fresh 58 (.fresh 59 (.post 5 0 qp5 55 (.back 0 46 (sg 1000 [bv 1006 59,bv 1005 58,bv 1004 57,bg 1003 56,bv 1002 55,bv 1001 47,bt 1007 (.arith .add .i64 (.var 53) (.lit 1)),bg 1000 46])))))))) .top)))))
 (.pre 6 qlw (.both (.post 6 0 qlw 54 (.stuck 7 0 0)) (.both (.fresh 54 (.fresh 55 (.fresh 56 (.fresh 57 (.post 6 1 qlw 54 (.ret 1 (sg 10 [bv 13 56,bv 12 55,bv 11 50,bg 10 54]))))))) .top))))))))))))))))))))) .top)))))))) .top)))))))) .top)))))))) .top)))))))) .top)))))))) .top))))))) .top))))) .top)))
theorem qyq:qj ⟨Tryz.prog,qdI,[qaz,qbG,u8C,qji,qgT,qfn,qfp],[qrl]⟩ 100000 Tryz.f73 = qpi:=by kernel_rfl
theorem q3F (hd:∀ c ∈ ([qaz,qbG,u8C,qji,qgT,qfn,qfp]:List Ctr),c.ok Tryz.prog) (h:∀ ρ:Env,ρ.good->(qdI).pre ρ->qpi.den ⟨Tryz.prog,qdI,[qaz,qbG,u8C,qji,qgT,qfn,qfp],[qrl]⟩ ρ):(qdI).ok Tryz.prog :=
 qf Tryz.func73 (fun a w=>Tryz.call73 a w) hd 100000 (fun ρ hg hp=>by rw [qyq]; exact h ρ hg hp)
@[simp] def qoY:Sg:=sg 0 [bv 8 9,bv 7 8,bv 1 1,bv 6 7,bv 5 6,bg 4 5,bv 3 4,bv 2 2,bg 0 0]
@[simp] def qkC:Sg:=sg 0 [bv 7 11,bv 5 9,bv 4 8,bv 3 7,bv 2 6,bt 1 (.lit 0),bg 0 5,bg 6 10]
@[simp] def qwr:Sg:=sg 0 [bv 8 11,bv 6 35,bv 5 36,bv 4 35,bt 3 (.dlen (.var 36)),bt 2 (.lit 0),bg 1 34,bt 0 (.icell (.var 29) (.var 26) 0),bg 7 10]
@[simp] def qvk:Sg:=sg 0 [bv 8 11,bv 6 33,bv 5 34,bv 4 33,bt 3 (.dlen (.var 34)),bt 2 (.lit 0),bg 1 32,bt 0 (.icell (.var 27) (.var 24) 0),bg 7 10]
def qvd:Out:=(.fresh 12 (.br (.and (.cmp .eql (.dlen (.var 1)) (.lit 0)) (.isnil 0))
 (.ret 0 (sg 12 [bv 13 1,bt 12 (.lit 1)]))
 (.pre 0 (sg 0 [bv 2 4,bv 1 3,bv 0 2]) (.both (.fresh 13 (.post 0 0 (sg 0 [bv 2 4,bv 1 3,bv 0 2]) 13 (.br (.not (.var 13))
 (.ret 0 (sg 12 [bv 13 1,bt 12 (.lit 2)]))
 (.pre 1 qoY (.both (.fresh 14 (.fresh 15 (.post 1 0 qoY 14 (.br (.cmp .neq (.var 14) (.lit 0))
 (.ret 0 (sg 12 [bv 13 15,bv 12 14]))
 (.need (.cmp .leq (.lit 0) (.var 6)) (.pre 2 qkC (.both (.fresh 16 (.post 2 0 qkC 16 (.fresh 17 (.pack [] 18 (.need (.cmp .eql (.var 4) (.lit 0)) (.inv 0 19 (sg 1000 [bg 1011 18,bt 1008 .dnil,bt 1007 .dnil,bt 1006 (.lit 0),(1004,.nil),bt 1003 (r8 16),bv 1010 15,bt 1005 (.lit 0),bg 1002 17,bt 1009 (.lit 0),(1001,.nil),bg 1000 12]) (.fresh 19 (.fresh 20 (.fresh 21 (.fresh 22 (.fresh 23 (.fresh 24 (.fresh 25 (.fresh 26 (.fresh 27 (.fresh 28 (.fresh 29 (.fresh 30 (.hyp 0 19 (.br (.cmp .lss (.var 24) (.var 4))
 (.need (.cmp .leq (.lit 0) (.var 24)) (.need (.cmp .lss (.var 24) (.dlen (.var 27))) (.fresh 31 (.both (.viewL (.vcell (.var 27) (.var 24) 1) [CK.int .u8] [30] 32 (.pre 3 qvk (.both (.fresh 35 (.post 3 0 qvk 35 (.both (.fresh 36 (.both (.need (.cmp .eql (.var 24) (.dlen (.var 26))) (.need (.cmp .leq (.tims (.lit 32) (.plus (.var 24) (.lit 1))) (.lit 140737488355328)) (.fresh 37 (.fresh 38 (.both (.both (.pack [.cells 36 24 [(x8 0 35),(x8 1 35),(x8 2 35),(x8 3 35),(x8 4 35),(x8 5 35),(x8 6 35),(x8 7 35),(x8 8 35),(x8 9 35),(x8 10 35),(x8 11 35),(x8 12 35),(x8 13 35),(x8 14 35),(x8 15 35),(x8 16 35),(x8 17 35),(x8 18 35),(x8 19 35),(x8 20 35),(x8 21 35),(x8 22 35),(x8 23 35),(x8 24 35),(x8 25 35),(x8 26 35),(x8 27 35),(x8 28 35),(x8 29 35),(x8 30 35),(x8 31 35)],.cells 31 86 [(.vint .i64 (.icell (.var 27) (.var 24) 0)),(.vcell (.var 27) (.var 24) 1)],.abs 30 2] 39 (.need (.cmp .eql (.arith .add .i64 (.var 24) (.lit 1)) (.plus (.var 24) (.lit 1))) (.back 0 19 (sg 1000 [bg 1011 39,bv 1008 27,bt 1007 (.dapp (.var 26) (r8 35)),bv 1006 38,bg 1004 37,bt 1003 (r8 22),bv 1010 29,bt 1005 (.arith .add .i64 (.var 24) (.lit 1)),bg 1002 21,bv 1009 28,bg 1001 20,bg 1000 19])))) .top) .top))))) .top)) .top))) .top))) .top))))
 (.pack [.cells 19 27 [(.vint .i64 (.var 2)),(.vint .i64 (.var 3)),(.vint .i64 (.var 4)),(.vint .i64 (.var 6)),(x8 0 22),(x8 1 22),(x8 2 22),(x8 3 22),(x8 4 22),(x8 5 22),(x8 6 22),(x8 7 22),(x8 8 22),(x8 9 22),(x8 10 22),(x8 11 22),(x8 12 22),(x8 13 22),(x8 14 22),(x8 15 22),(x8 16 22),(x8 17 22),(x8 18 22),(x8 19 22),(x8 20 22),(x8 21 22),(x8 22 22),(x8 23 22),(x8 24 22),(x8 25 22),(x8 26 22),(x8 27 22),(x8 28 22),(x8 29 22),(x8 30 22),(x8 31 22),(.vslice 23 (.lit 0) (.var 24) (.var 25) 32)],.cells 21 27 [(.vint .i64 (.var 2)),(.vint .i64 (.var 3)),(.vint .i64 (.var 4)),(.vint .i64 (.var 6)),(x8 0 22),(x8 1 22),(x8 2 22),(x8 3 22),(x8 4 22),(x8 5 22),(x8 6 22),(x8 7 22),(x8 8 22),(x8 9 22),(x8 10 22),(x8 11 22),(x8 12 22),(x8 13 22),(x8 14 22),(x8 15 22),(x8 16 22),(x8 17 22),(x8 18 22),(x8 19 22),(x8 20 22),(x8 21 22),(x8 22 22),(x8 23 22),(x8 24 22),(x8 25 22),(x8 26 22),(x8 27 22),(x8 28 22),(x8 29 22),(x8 30 22),(x8 31 22),(.vslice 23 (.lit 0) (.var 24) (.var 25) 32)],.abs 30 2] 31 (.need (.cmp .eql (.var 4) (.var 24)) (.ret 1 (sg 12 [bg 20 31,bv 19 27,bv 18 26,bv 17 29,bv 16 28,bg 15 20,bv 14 25,bg 13 23,bt 12 (r8 22)])))))))))))))))))))))))) .top))))))) (.both (.fresh 14 (.fresh 15 (.fresh 16 (.fresh 17 (.fresh 18 (.post 1 1 qoY 14 (.need (.cmp .leq (.lit 0) (.var 6)) (.pre 2 qkC (.both (.fresh 19 (.post 2 0 qkC 19 (.fresh 20 (.need (.cmp .leq (.lit 0) (.var 4)) (.inv 0 21 (sg 1000 [bg 1011 18,bv 1008 17,bt 1007 .dnil,bt 1006 (.lit 0),(1004,.nil),bt 1003 (r8 19),bv 1010 16,bt 1005 (.lit 0),bg 1002 20,bv 1009 15,bg 1001 14,bg 1000 12]) (.fresh 21 (.fresh 22 (.fresh 23 (.fresh 24 (.fresh 25 (.fresh 26 (.fresh 27 (.fresh 28 (.fresh 29 (.fresh 30 (.fresh 31 (.fresh 32 (.hyp 0 21 (.br (.cmp .lss (.var 26) (.var 4))
 (.need (.cmp .leq (.lit 0) (.var 26)) (.need (.cmp .lss (.var 26) (.dlen (.var 29))) (.fresh 33 (.both (.viewL (.vcell (.var 29) (.var 26) 1) [CK.int .u8] [32] 34 (.pre 3 qwr (.both (.fresh 37 (.post 3 0 qwr 37 (.both (.fresh 38 (.both (.need (.cmp .eql (.var 26) (.dlen (.var 28))) (.need (.cmp .leq (.tims (.lit 32) (.plus (.var 26) (.lit 1))) (.lit 140737488355328)) (.fresh 39 (.fresh 40 (.both (.both (.pack [.cells 38 24 [(x8 0 37),(x8 1 37),(x8 2 37),(x8 3 37),(x8 4 37),(x8 5 37),(x8 6 37),(x8 7 37),(x8 8 37),(x8 9 37),(x8 10 37),(x8 11 37),(x8 12 37),(x8 13 37),(x8 14 37),(x8 15 37),(x8 16 37),(x8 17 37),(x8 18 37),(x8 19 37),(x8 20 37),(x8 21 37),(x8 22 37),(x8 23 37),(x8 24 37),(x8 25 37),(x8 26 37),(x8 27 37),(x8 28 37),(x8 29 37),(x8 30 37),(x8 31 37)],.cells 33 86 [(.vint .i64 (.icell (.var 29) (.var 26) 0)),(.vcell (.var 29) (.var 26) 1)],.abs 32 2] 41 (.need (.cmp .eql (.arith .add .i64 (.var 26) (.lit 1)) (.plus (.var 26) (.lit 1))) (.back 0 21 (sg 1000 [bg 1011 41,bv 1008 29,bt 1007 (.dapp (.var 28) (r8 37)),bv 1006 40,bg 1004 39,bt 1003 (r8 24),bv 1010 31,bt 1005 (.arith .add .i64 (.var 26) (.lit 1)),bg 1002 23,bv 1009 30,bg 1001 22,bg 1000 21])))) .top) .top))))) .top)) .top))) .top))) .top))))
 (.pack [.cells 21 27 [(.vint .i64 (.var 2)),(.vint .i64 (.var 3)),(.vint .i64 (.var 4)),(.vint .i64 (.var 6)),(x8 0 24),(x8 1 24),(x8 2 24),(x8 3 24),(x8 4 24),(x8 5 24),(x8 6 24),(x8 7 24),(x8 8 24),(x8 9 24),(x8 10 24),(x8 11 24),(x8 12 24),(x8 13 24),(x8 14 24),(x8 15 24),(x8 16 24),(x8 17 24),(x8 18 24),(x8 19 24),(x8 20 24),(x8 21 24),(x8 22 24),(x8 23 24),(x8 24 24),(x8 25 24),(x8 26 24),(x8 27 24),(x8 28 24),(x8 29 24),(x8 30 24),(x8 31 24),(.vslice 25 (.lit 0) (.var 26) (.var 27) 32)],.cells 23 27 [(.vint .i64 (.var 2)),(.vint .i64 (.var 3)),(.vint .i64 (.var 4)),(.vint .i64 (.var 6)),(x8 0 24),(x8 1 24),(x8 2 24),(x8 3 24),(x8 4 24),(x8 5 24),(x8 6 24),(x8 7 24),(x8 8 24),(x8 9 24),(x8 10 24),(x8 11 24),(x8 12 24),(x8 13 24),(x8 14 24),(x8 15 24),(x8 16 24),(x8 17 24),(x8 18 24),(x8 19 24),(x8 20 24),(x8 21 24),(x8 22 24),(x8 23 24),(x8 24 24),(x8 25 24),(x8 26 24),(x8 27 24),(x8 28 24),(x8 29 24),(x8 30 24),(x8 31 24),(.vslice 25 (.lit 0) (.var 26) (.var 27) 32)],.abs 32 2] 33 (.need (.cmp .eql (.var 4) (.var 26)) (.ret 1 (sg 12 [bg 20 33,bv 19 29,bv 18 28,bv 17 31,bv 16 30,bg 15 22,bv 14 27,bg 13 25,bt 12 (r8 24)]))))))))))))))))))))))) .top))))))))) .top)))))) .top))))
theorem q2B:qj ⟨Tryz.prog,qgI,[qce,qcq,qah,qaB],[q2a]⟩ 100000 Tryz.f43 = qvd:=by kernel_rfl
theorem qs5 (hd:∀ c ∈ ([qce,qcq,qah,qaB]:List Ctr),c.ok Tryz.prog) (h:∀ ρ:Env,ρ.good->(qgI).pre ρ->qvd.den ⟨Tryz.prog,qgI,[qce,qcq,qah,qaB],[q2a]⟩ ρ):(qgI).ok Tryz.prog :=
 qf Tryz.func43 (fun a w=>Tryz.call43 a w) hd 100000 (fun ρ hg hp=>by rw [q2B]; exact h ρ hg hp)
end Go.Proofs

set_option linter.unusedSimpArgs false
set_option linter.unusedVariables false
set_option maxRecDepth 100000
namespace Go.Proofs
open Go Go.Eng

def qnd:Out:=(.br (.cmp .leq (.lit 1) (.var 0))
 (.br (.cmp .leq (.var 0) (.var 1))
 (.ret 0 (sg 2 [bt 2 (.cmp .leq (.var 1) (.lit 255))]))
 (.ret 0 (sg 2 [bt 2 (.bl false)])))
 (.ret 0 (sg 2 [bt 2 (.bl false)])))
theorem qv2:qj ⟨Tryz.prog,qam,[],[]⟩ 100000 Tryz.f109 = qnd:=by kernel_rfl
theorem q11 (hd:∀ c ∈ ([]:List Ctr),c.ok Tryz.prog) (h:∀ ρ:Env,ρ.good->(qam).pre ρ->qnd.den ⟨Tryz.prog,qam,[],[]⟩ ρ):(qam).ok Tryz.prog :=
 qf Tryz.func109 (fun a w=>Tryz.call109 a w) hd 100000 (fun ρ hg hp=>by rw [qv2]; exact h ρ hg hp)
def qnf:Out:=(.br (.cmp .lss (.var 0) (.lit 1))
 (.ret 0 (sg 2 [bt 3 (.lit 2),bt 2 (.lit 0)]))
 (.br (.cmp .gtr (.var 0) (.lit 255))
 (.ret 0 (sg 2 [bt 3 (.lit 2),bt 2 (.lit 0)]))
 (.br (.cmp .lss (.var 1) (.lit 0))
 (.ret 0 (sg 2 [bt 3 (.lit 2),bt 2 (.lit 0)]))
 (.br (.cmp .gtr (.var 1) (.lit 8192))
 (.ret 0 (sg 2 [bt 3 (.lit 2),bt 2 (.lit 0)]))
 (.need (.cmp .neq (.var 0) (.lit 0)) (.ret 0 (sg 2 [bt 3 (.lit 0),bt 2 (.arith .quo .i64 (.arith .sub .i64 (.arith .add .i64 (.var 1) (.var 0)) (.lit 1)) (.var 0))])))))))
theorem quF:qj ⟨Tryz.prog,qaC,[],[]⟩ 100000 Tryz.f99 = qnf:=by kernel_rfl
theorem q0s (hd:∀ c ∈ ([]:List Ctr),c.ok Tryz.prog) (h:∀ ρ:Env,ρ.good->(qaC).pre ρ->qnf.den ⟨Tryz.prog,qaC,[],[]⟩ ρ):(qaC).ok Tryz.prog :=
 qf Tryz.func99 (fun a w=>Tryz.call99 a w) hd 100000 (fun ρ hg hp=>by rw [quF]; exact h ρ hg hp)
def qpe:Out:=(.fresh 2 (.need (.cmp .leq (.lit 0) (.arith .mul .i64 (.var 0) (.var 1))) (.need (.cmp .leq (.tims (.lit 1) (.arith .mul .i64 (.var 0) (.var 1))) (.lit 281474976710656)) (.fresh 3 (.ret 0 (sg 2 [bt 5 (.drep (.arith .mul .i64 (.var 0) (.var 1)) (.rcons (.vint .u8 (.lit 0)) .rnil)),bt 4 (.arith .mul .i64 (.var 0) (.var 1)),bt 3 (.arith .mul .i64 (.var 0) (.var 1)),bg 2 3]))))))
theorem qxK:qj ⟨Tryz.prog,qay,[],[]⟩ 100000 Tryz.f165 = qpe:=by kernel_rfl
theorem q3J (hd:∀ c ∈ ([]:List Ctr),c.ok Tryz.prog) (h:∀ ρ:Env,ρ.good->(qay).pre ρ->qpe.den ⟨Tryz.prog,qay,[],[]⟩ ρ):(qay).ok Tryz.prog :=
 qf Tryz.func165 (fun a w=>Tryz.call165 a w) hd 100000 (fun ρ hg hp=>by rw [qxK]; exact h ρ hg hp)
def qsA:Out:=(.fresh 8 (.need (.cmp .leq (.lit 0) (.var 3)) (.need (.cmp .leq (.lit 0) (.var 4)) (.need (.cmp .leq (.lit 0) (.arith .mul .i64 (.var 7) (.var 1))) (.need (.cmp .leq (.arith .mul .i64 (.var 7) (.var 1)) (.arith .mul .i64 (.arith .add .i64 (.var 7) (.lit 1)) (.var 1))) (.need (.cmp .leq (.arith .mul .i64 (.arith .add .i64 (.var 7) (.lit 1)) (.var 1)) (.var 4)) (.ret 0 (sg 8 [bt 10 (.minus (.arith .mul .i64 (.arith .add .i64 (.var 7) (.lit 1)) (.var 1)) (.arith .mul .i64 (.var 7) (.var 1))),bt 9 (.minus (.arith .mul .i64 (.arith .add .i64 (.var 7) (.lit 1)) (.var 1)) (.arith .mul .i64 (.var 7) (.var 1))),bt 8 (.ife (.arith .mul .i64 (.arith .add .i64 (.var 7) (.lit 1)) (.var 1)) (.arith .mul .i64 (.var 7) (.var 1)) (.lit 0) (.arith .mul .i64 (.var 7) (.var 1)))]))))))))
theorem q0o:qj ⟨Tryz.prog,qak,[],[]⟩ 100000 Tryz.f123 = qsA:=by kernel_rfl
theorem q7w (hd:∀ c ∈ ([]:List Ctr),c.ok Tryz.prog) (h:∀ ρ:Env,ρ.good->(qak).pre ρ->qsA.den ⟨Tryz.prog,qak,[],[]⟩ ρ):(qak).ok Tryz.prog :=
 qf Tryz.func123 (fun a w=>Tryz.call123 a w) hd 100000 (fun ρ hg hp=>by rw [q0o]; exact h ρ hg hp)
def qmZ:Out:=(.fresh 7 (.br (.cmp .geq (.var 0) (.lit 1))
 (.br (.cmp .leq (.var 0) (.lit 255))
 (.br (.cmp .geq (.var 1) (.lit 1))
 (.br (.cmp .leq (.var 1) (.lit 255))
 (.need (.cmp .leq (.lit 0) (.var 3)) (.ret 0 (sg 7 [bt 7 (.cmp .eql (.var 3) (.arith .mul .i64 (.var 0) (.var 1)))])))
 (.ret 0 (sg 7 [bt 7 (.bl false)])))
 (.ret 0 (sg 7 [bt 7 (.bl false)])))
 (.ret 0 (sg 7 [bt 7 (.bl false)])))
 (.ret 0 (sg 7 [bt 7 (.bl false)]))))
theorem qxf:qj ⟨Tryz.prog,qa9,[],[]⟩ 100000 Tryz.f164 = qmZ:=by kernel_rfl
theorem q0R (hd:∀ c ∈ ([]:List Ctr),c.ok Tryz.prog) (h:∀ ρ:Env,ρ.good->(qa9).pre ρ->qmZ.den ⟨Tryz.prog,qa9,[],[]⟩ ρ):(qa9).ok Tryz.prog :=
 qf Tryz.func164 (fun a w=>Tryz.call164 a w) hd 100000 (fun ρ hg hp=>by rw [qxf]; exact h ρ hg hp)
def qlS:Out:=(.fresh 7 (.fresh 8 (.both (.fresh 9 (.both (.need (.cmp .leq (.lit 0) (.var 3)) (.need (.cmp .leq (.var 3) (.dlen (.var 5))) (.need (.cmp .leq (.tims (.lit 1) (.var 3)) (.lit 140737488355328)) (.fresh 10 (.fresh 11 (.both (.both (.ret 0 (sg 7 [bt 9 (.dtake (.var 5) (.var 3)),bv 8 11,bg 7 10])) .top) .top)))))) .top)) .top)))
theorem qxo:qj ⟨Tryz.prog,qe1,[],[]⟩ 100000 Tryz.f168 = qlS:=by kernel_rfl
theorem q1W (hd:∀ c ∈ ([]:List Ctr),c.ok Tryz.prog) (h:∀ ρ:Env,ρ.good->(qe1).pre ρ->qlS.den ⟨Tryz.prog,qe1,[],[]⟩ ρ):(qe1).ok Tryz.prog :=
 qf Tryz.func168 (fun a w=>Tryz.call168 a w) hd 100000 (fun ρ hg hp=>by rw [qxo]; exact h ρ hg hp)
def qsd:Out:=(.br (.cmp .eql (.var 14) (.lit 0))
 (.ret 0 (sg 15 [bv 16 6,bv 15 1]))
 (.need (.cmp .leq (.lit 0) (.var 10)) (.inv 0 15 (sg 1000 [bv 1002 6,bv 1001 1,bt 1000 (.lit 0)]) (.fresh 15 (.fresh 16 (.fresh 17 (.hyp 0 15 (.br (.cmp .lss (.var 15) (.var 10))
 (.need (.cmp .leq (.lit 0) (.var 15)) (.need (.cmp .leq (.lit 0) (.var 9)) (.need (.cmp .leq (.lit 0) (.plus (.var 9) (.var 15))) (.need (.cmp .lss (.plus (.var 9) (.var 15)) (.dlen (.var 12))) (.need (.cmp .lss (.var 15) (.var 4)) (.need (.cmp .leq (.lit 0) (.var 3)) (.need (.cmp .leq (.lit 0) (.plus (.var 3) (.var 15))) (.need (.cmp .lss (.plus (.var 3) (.var 15)) (.dlen (.var 17))) (.both (.pre 0 (sg 0 [bv 1 16,bt 3 (.icell (.var 12) (.plus (.var 9) (.var 15)) 0),bv 2 14,bg 0 0]) (.both (.fresh 18 (.fresh 19 (.post 0 0 (sg 0 [bv 1 16,bt 3 (.icell (.var 12) (.plus (.var 9) (.var 15)) 0),bv 2 14,bg 0 0]) 18 (.both (.back 0 15 (sg 1000 [bt 1002 (.dput (.var 17) (.plus (.var 3) (.var 15)) 0 (.rcons (.vint .u8 (.arith .xor .u8 (.icell (.var 17) (.plus (.var 3) (.var 15)) 0) (.var 18))) .rnil)),bv 1001 19,bt 1000 (.arith .add .i64 (.var 15) (.lit 1))])) .top)))) .top)) .top)))))))))
 (.ret 0 (sg 15 [bv 16 17,bv 15 16]))))))))))
theorem qzO:qj ⟨Tryz.prog,qaX,[qcA],[qx0]⟩ 100000 Tryz.f124 = qsd:=by kernel_rfl
theorem q5H (hd:∀ c ∈ ([qcA]:List Ctr),c.ok Tryz.prog) (h:∀ ρ:Env,ρ.good->(qaX).pre ρ->qsd.den ⟨Tryz.prog,qaX,[qcA],[qx0]⟩ ρ):(qaX).ok Tryz.prog :=
 qf Tryz.func124 (fun a w=>Tryz.call124 a w) hd 100000 (fun ρ hg hp=>by rw [qzO]; exact h ρ hg hp)
def qjz:Out:=(.br (.cmp .eql (.var 11) (.lit 0))
 (.ret 0 (sg 12 [bv 13 6,bv 12 1]))
 (.need (.cmp .leq (.lit 0) (.var 9)) (.inv 0 12 (sg 1000 [bv 1002 6,bv 1001 1,bt 1000 (.lit 0)]) (.fresh 12 (.fresh 13 (.fresh 14 (.hyp 0 12 (.br (.cmp .lss (.var 12) (.var 9))
 (.need (.cmp .leq (.lit 0) (.var 12)) (.need (.cmp .leq (.lit 0) (.var 8)) (.need (.cmp .leq (.lit 0) (.plus (.var 8) (.var 12))) (.need (.cmp .lss (.plus (.var 8) (.var 12)) (.dlen (.var 14))) (.need (.cmp .lss (.var 12) (.var 4)) (.need (.cmp .leq (.lit 0) (.var 3)) (.need (.cmp .leq (.lit 0) (.plus (.var 3) (.var 12))) (.need (.cmp .lss (.plus (.var 3) (.var 12)) (.dlen (.var 14))) (.both (.pre 0 (sg 0 [bv 1 13,bt 3 (.icell (.var 14) (.plus (.var 8) (.var 12)) 0),bv 2 11,bg 0 0]) (.both (.fresh 15 (.fresh 16 (.post 0 0 (sg 0 [bv 1 13,bt 3 (.icell (.var 14) (.plus (.var 8) (.var 12)) 0),bv 2 11,bg 0 0]) 15 (.both (.back 0 12 (sg 1000 [bt 1002 (.dput (.var 14) (.plus (.var 3) (.var 12)) 0 (.rcons (.vint .u8 (.arith .xor .u8 (.icell (.var 14) (.plus (.var 3) (.var 12)) 0) (.var 15))) .rnil)),bv 1001 16,bt 1000 (.arith .add .i64 (.var 12) (.lit 1))])) .top)))) .top)) .top)))))))))
 (.ret 0 (sg 12 [bv 13 14,bv 12 13]))))))))))
theorem qri:qj ⟨Tryz.prog,qeZ,[qcA],[qrZ]⟩ 100000 Tryz.f124 = qjz:=by kernel_rfl
theorem qux (hd:∀ c ∈ ([qcA]:List Ctr),c.ok Tryz.prog) (h:∀ ρ:Env,ρ.good->(qeZ).pre ρ->qjz.den ⟨Tryz.prog,qeZ,[qcA],[qrZ]⟩ ρ):(qeZ).ok Tryz.prog :=
 qf Tryz.func124 (fun a w=>Tryz.call124 a w) hd 100000 (fun ρ hg hp=>by rw [qri]; exact h ρ hg hp)
def qs1:Out:=(.need (.cmp .leq (.lit 0) (.var 4)) (.inv 0 9 (sg 1000 [bv 1002 6,bv 1001 1,bt 1000 (.lit 0)]) (.fresh 9 (.fresh 10 (.fresh 11 (.hyp 0 9 (.br (.cmp .lss (.var 9) (.var 4))
 (.need (.cmp .leq (.lit 0) (.var 9)) (.need (.cmp .leq (.lit 0) (.var 3)) (.need (.cmp .leq (.lit 0) (.plus (.var 3) (.var 9))) (.need (.cmp .lss (.plus (.var 3) (.var 9)) (.dlen (.var 11))) (.pre 0 (sg 0 [bv 1 10,bv 3 8,bt 2 (.icell (.var 11) (.plus (.var 3) (.var 9)) 0),bg 0 0]) (.both (.fresh 12 (.fresh 13 (.post 0 0 (sg 0 [bv 1 10,bv 3 8,bt 2 (.icell (.var 11) (.plus (.var 3) (.var 9)) 0),bg 0 0]) 12 (.back 0 9 (sg 1000 [bt 1002 (.dput (.var 11) (.plus (.var 3) (.var 9)) 0 (.rcons (.vint .u8 (.var 12)) .rnil)),bv 1001 13,bt 1000 (.arith .add .i64 (.var 9) (.lit 1))]))))) .top))))))
 (.ret 0 (sg 9 [bv 10 11,bv 9 10])))))))))
theorem q1Q:qj ⟨Tryz.prog,qfd,[qcA],[qwc]⟩ 100000 Tryz.f185 = qs1:=by kernel_rfl
theorem q6k (hd:∀ c ∈ ([qcA]:List Ctr),c.ok Tryz.prog) (h:∀ ρ:Env,ρ.good->(qfd).pre ρ->qs1.den ⟨Tryz.prog,qfd,[qcA],[qwc]⟩ ρ):(qfd).ok Tryz.prog :=
 qf Tryz.func185 (fun a w=>Tryz.call185 a w) hd 100000 (fun ρ hg hp=>by rw [q1Q]; exact h ρ hg hp)
def qrN:Out:=(.br (.and (.cmp .eql (.dlen (.var 1)) (.lit 0)) (.isnil 0))
 (.ret 0 (sg 3 [bv 5 1,bt 4 (.lit 1),bt 3 (.lit 0)]))
 (.br (.cmp .eql (.var 2) (.lit 0))
 (.ret 0 (sg 3 [bv 5 1,bt 4 (.lit 2),bt 3 (.lit 0)]))
 (.need (.cmp .lss (.lit 0) (.dlen (.var 1))) (.pre 0 (sg 0 [bv 1 1,bg 0 0]) (.both (.fresh 3 (.post 0 0 (sg 0 [bv 1 1,bg 0 0]) 3 (.need (.cmp .lss (.lit 0) (.dlen (.var 3))) (.need (.cmp .leq (.lit 0) (.var 2)) (.need (.cmp .lss (.var 2) (.lit 256)) (.need (.cmp .leq (.lit 0) (.arith .sub .i64 (.lit 255) (.c2 (.xint 513) (.var 3) (.var 2)))) (.need (.cmp .lss (.arith .sub .i64 (.lit 255) (.c2 (.xint 513) (.var 3) (.var 2))) (.lit 510)) (.ret 0 (sg 3 [bv 5 3,bt 4 (.lit 0),bt 3 (.c2 (.xint 3) (.var 3) (.arith .sub .i64 (.lit 255) (.c2 (.xint 513) (.var 3) (.var 2))))]))))))))) .top)))))
theorem q03:qj ⟨Tryz.prog,qfh,[qcn],[]⟩ 100000 Tryz.f184 = qrN:=by kernel_rfl
theorem q7t (hd:∀ c ∈ ([qcn]:List Ctr),c.ok Tryz.prog) (h:∀ ρ:Env,ρ.good->(qfh).pre ρ->qrN.den ⟨Tryz.prog,qfh,[qcn],[]⟩ ρ):(qfh).ok Tryz.prog :=
 qf Tryz.func184 (fun a w=>Tryz.call184 a w) hd 100000 (fun ρ hg hp=>by rw [q03]; exact h ρ hg hp)
@[simp] def qnc:T:=.arith .rem .i64 (.arith .mul .i64 (.c2 (.xint 513) (.var 4) (.var 2)) (.arith .rem .i64 (.var 3) (.lit 255))) (.lit 255)
def qs2:Out:=(.br (.and (.cmp .eql (.dlen (.var 1)) (.lit 0)) (.isnil 0))
 (.ret 0 (sg 4 [bv 5 1,bt 4 (.lit 0)]))
 (.br (.cmp .leq (.var 3) (.lit 0))
 (.ret 0 (sg 4 [bv 5 1,bt 4 (.lit 1)]))
 (.br (.cmp .eql (.var 2) (.lit 0))
 (.ret 0 (sg 4 [bv 5 1,bt 4 (.lit 0)]))
 (.need (.cmp .lss (.lit 0) (.dlen (.var 1))) (.pre 0 (sg 0 [bv 1 1,bg 0 0]) (.both (.fresh 4 (.post 0 0 (sg 0 [bv 1 1,bg 0 0]) 4 (.need (.cmp .lss (.lit 0) (.dlen (.var 4))) (.need (.cmp .leq (.lit 0) (.var 2)) (.need (.cmp .lss (.var 2) (.lit 256)) (.need (.cmp .leq (.lit 0) qnc) (.need (.cmp .lss qnc (.lit 510)) (.ret 0 (sg 4 [bv 5 4,bt 4 (.c2 (.xint 3) (.var 4) qnc)]))))))))) .top))))))
theorem q1p:qj ⟨Tryz.prog,qfi,[qcn],[]⟩ 100000 Tryz.f177 = qs2:=by kernel_rfl
theorem q6d (hd:∀ c ∈ ([qcn]:List Ctr),c.ok Tryz.prog) (h:∀ ρ:Env,ρ.good->(qfi).pre ρ->qs2.den ⟨Tryz.prog,qfi,[qcn],[]⟩ ρ):(qfi).ok Tryz.prog :=
 qf Tryz.func177 (fun a w=>Tryz.call177 a w) hd 100000 (fun ρ hg hp=>by rw [q1p]; exact h ρ hg hp)
end Go.Proofs

set_option linter.unusedSimpArgs false
set_option linter.unusedVariables false
set_option maxRecDepth 100000
namespace Go.Proofs
open Go Go.Eng

def qkt:Out:=(.fresh 0 (.ret 0 (sg 0 [bt 1 (.rcons (.vint .u32 (.lit 0)) (.rcons (.vint .i32 (.lit 0)) (.rcons (.vint .u32 (.lit 0)) (.rcons (.vint .u8 (.lit 0)) (.rcons (.vint .u8 (.lit 0)) (.rcons (.vint .u8 (.lit 0)) (.rcons (.vint .u8 (.lit 0)) (.rcons (.vint .u8 (.lit 0)) (.rcons (.vint .u8 (.lit 0)) (.rcons (.vint .u8 (.lit 0)) (.rcons (.vint .u8 (.lit 0)) (.rcons (.vint .u8 (.lit 0)) (.rcons (.vint .u8 (.lit 0)) (.rcons (.vint .u8 (.lit 0)) (.rcons (.vint .u8 (.lit 0)) (.rcons (.vint .u8 (.lit 0)) (.rcons (.vint .u8 (.lit 0)) (.rcons (.vint .u8 (.lit 0)) (.rcons (.vint .u8 (.lit 0)) (.rcons (.vint .u8 (.lit 0)) (.rcons (.vint .u8 (.lit 0)) (.rcons (.vint .u8 (.lit 0)) (.rcons (.vint .u8 (.lit 0)) (.rcons (.vint .u8 (.lit 0)) (.rcons (.vint .u8 (.lit 0)) (.rcons (.vint .u8 (.lit 0)) (.rcons (.vint .u8 (.lit 0)) (.rcons (.vint .u8 (.lit 0)) (.rcons (.vint .u8 (.lit 0)) (.rcons (.vint .u8 (.lit 0)) (.rcons (.vint .u8 (.lit 0)) (.rcons (.vint .u8 (.lit 0)) (.rcons (.vint .u8 (.lit 0)) (.rcons (.vint .u8 (.lit 0)) (.rcons (.vint .u8 (.lit 0)) (.rcons (.vint .u8 (.lit 0)) (.rcons (.vint .u8 (.lit 0)) (.rcons (.vint .u8 (.lit 0)) (.rcons (.vint .u8 (.lit 0)) (.rcons (.vint .u8 (.lit 0)) (.rcons (.vint .u8 (.lit 0)) (.rcons (.vint .u8 (.lit 0)) (.rcons (.vint .u8 (.lit 0)) (.rcons (.vint .u8 (.lit 0)) (.rcons (.vint .u8 (.lit 0)) (.rcons (.vint .u8 (.lit 0)) (.rcons (.vint .u8 (.lit 0)) (.rcons (.vint .u8 (.lit 0)) (.rcons (.vint .u8 (.lit 0)) (.rcons (.vint .u8 (.lit 0)) (.rcons (.vint .u8 (.lit 0)) (.rcons (.vint .u8 (.lit 0)) (.rcons (.vint .u8 (.lit 0)) (.rcons (.vint .u8 (.lit 0)) (.rcons (.vint .u8 (.lit 0)) (.rcons (.vint .u8 (.lit 0)) (.rcons (.vint .u8 (.lit 0)) (.rcons (.vint .u8 (.lit 0)) (.rcons (.vint .u8 (.lit 0)) (.rcons (.vint .u8 (.lit 0)) (.rcons (.vint .u8 (.lit 0)) (.rcons (.vint .u8 (.lit 0)) (.rcons (.vint .u8 (.lit 0)) (.rcons (.vint .u8 (.lit 0)) (.rcons (.vint .u8 (.lit 0)) (.rcons (.vint .u8 (.lit 0)) (.rcons (.vint .u8 (.lit 0)) (.rcons (.vint .u8 (.lit 0)) (.rcons (.vint .u8 (.lit 0)) (.rcons (.vint .u8 (.lit 0)) (.rcons (.vint .u8 (.lit 0)) (.rcons (.vint .u8 (.lit 0)) (.rcons (.vint .u8 (.lit 0)) (.rcons (.vint .u8 (.lit 0)) (.rcons (.vint .u8 (.lit 0)) (.rcons (.vint .u8 (.lit 0)) (.rcons (.vint .u8 (.lit 0)) (.rcons (.vint .u8 (.lit 0)) (.rcons (.vint .u8 (.lit 0)) (.rcons (.vint .u8 (.lit 0)) (.rcons (.vint .u8 (.lit 0)) (.rcons (.vint .u8 (.lit 0)) (.rcons (.vint .u8 (.lit 0)) (.rcons (.vint .u8 (.lit 0)) (.rcons (.vint .u8 (.lit 0)) (.rcons (.vint .u8 (.lit 0)) (.rcons (.vint .u8 (.lit 0)) (.rcons (.vint .u8 (.lit 0)) (.rcons (.vint .u8 (.lit 0)) (.rcons (.vint .u8 (.lit 0)) (.rcons (.vint .u8 (.lit 0)) (.rcons (.vint .u8 (.lit 0)) (.rcons (.vint .u8 (.lit 0)) (.rcons (.vint .u8 (.lit 0)) (.rcons (.vint .u8 (.lit 0)) (.rcons (.vint .u8 (.lit 0)) (.rcons (.vint .u8 (.lit 0)) (.rcons (.vint .u8 (.lit 0)) (.rcons (.vint .u8 (.lit 0)) (.rcons (.vint .u8 (.lit 0)) (.rcons (.vint .u8 (.lit 0)) (.rcons (.vint .u8 (.lit 0)) (.rcons (.vint .u8 (.lit 0)) (.rcons (.vint .u8 (.lit 0)) (.rcons (.vint .u8 (.lit 0)) (.rcons (.vint .u8 (.lit 0)) (.rcons (.vint .u8 (.lit 0)) (.rcons (.vint .u8 (.lit 0)) (.rcons (.vint .u8 (.lit 0)) (.rcons (.vint .u8 (.lit 0)) (.rcons (.vint .u8 (.lit 0)) (.rcons (.vint .u8 (.lit 0)) (.rcons (.vint .u8 (.lit 0)) (.rcons (.vint .u8 (.lit 0)) (.rcons (.vint .u8 (.lit 0)) (.rcons (.vint .u8 (.lit 0)) (.rcons (.vint .u8 (.lit 0)) (.rcons (.vint .u8 (.lit 0)) (.rcons (.vint .u8 (.lit 0)) (.rcons (.vint .u8 (.lit 0)) (.rcons (.vint .u8 (.lit 0)) (.rcons (.vint .u8 (.lit 0)) (.rcons (.vint .u8 (.lit 0)) (.rcons (.vint .u8 (.lit 0)) (.rcons (.vint .u8 (.lit 0)) (.rcons (.vint .u8 (.lit 0)) (.rcons (.vint .u8 (.lit 0)) (.rcons (.vint .u8 (.lit 0)) (.rcons (.vint .u8 (.lit 0)) (.rcons (.vint .u8 (.lit 0)) (.rcons (.vint .u8 (.lit 0)) (.rcons (.vint .u8 (.lit 0)) (.rcons (.vint .u8 (.lit 0)) (.rcons (.vint .u8 (.lit 0)) (.rcons (.vint .u8 (.lit 0)) (.rcons (.vint .u8 (.lit 0)) (.rcons (.vint .u8 (.lit 0)) (.rcons (.vint .u8 (.lit 0)) (.rcons (.vint .u8 (.lit 0)) (.rcons (.vint .u8 (.lit 0)) (.rcons (.vint .u8 (.lit 0)) (.rcons (.vint .u8 (.lit 0)) (.rcons (.vint .u8 (.lit 0)) (.rcons (.vint .u8 (.lit 0)) (.rcons (.vint .u8 (.lit 0)) (.rcons (.vint .u8 (.lit 0)) (.rcons (.vint .u8 (.lit 0)) (.rcons (.vint .u8 (.lit 0)) (.rcons (.vint .u8 (.lit 0)) (.rcons (.vint .u8 (.lit 0)) (.rcons (.vint .u8 (.lit 0)) (.rcons (.vint .u8 (.lit 0)) (.rcons (.vint .u8 (.lit 0)) (.rcons (.vint .u8 (.lit 0)) (.rcons (.vint .u8 (.lit 0)) (.rcons (.vint .u8 (.lit 0)) (.rcons (.vint .u8 (.lit 0)) (.rcons (.vint .u8 (.lit 0)) (.rcons (.vint .u8 (.lit 0)) (.rcons (.vint .u8 (.lit 0)) (.rcons (.vint .u8 (.lit 0)) (.rcons (.vint .u8 (.lit 0)) (.rcons (.vint .u8 (.lit 0)) (.rcons (.vint .u8 (.lit 0)) (.rcons (.vint .u8 (.lit 0)) (.rcons (.vint .u8 (.lit 0)) (.rcons (.vint .u8 (.lit 0)) (.rcons (.vint .u8 (.lit 0)) (.rcons (.vint .u8 (.lit 0)) (.rcons (.vint .u8 (.lit 0)) (.rcons (.vint .u8 (.lit 0)) (.rcons (.vint .u8 (.lit 0)) (.rcons (.vint .u8 (.lit 0)) (.rcons (.vint .u8 (.lit 0)) (.rcons (.vint .u8 (.lit 0)) (.rcons (.vint .u8 (.lit 0)) (.rcons (.vint .u8 (.lit 0)) (.rcons (.vint .u8 (.lit 0)) (.rcons (.vint .u8 (.lit 0)) (.rcons (.vint .u8 (.lit 0)) (.rcons (.vint .u8 (.lit 0)) (.rcons (.vint .u8 (.lit 0)) (.rcons (.vint .u8 (.lit 0)) (.rcons (.vint .u8 (.lit 0)) (.rcons (.vint .u8 (.lit 0)) (.rcons (.vint .u8 (.lit 0)) (.rcons (.vint .u8 (.lit 0)) (.rcons (.vint .u8 (.lit 0)) (.rcons (.vint .u8 (.lit 0)) (.rcons (.vint .u8 (.lit 0)) (.rcons (.vint .u8 (.lit 0)) (.rcons (.vint .u8 (.lit 0)) (.rcons (.vint .u8 (.lit 0)) (.rcons (.vint .u8 (.lit 0)) (.rcons (.vint .u8 (.lit 0)) (.rcons (.vint .u8 (.lit 0)) (.rcons (.vint .u8 (.lit 0)) (.rcons (.vint .u8 (.lit 0)) (.rcons (.vint .u8 (.lit 0)) (.rcons (.vint .u8 (.lit 0)) (.rcons (.vint .u8 (.lit 0)) (.rcons (.vint .u8 (.lit 0)) (.rcons (.vint .u8 (.lit 0)) (.rcons (.vint .u8 (.lit 0)) (.rcons (.vint .u8 (.lit 0)) (.rcons (.vint .u8 (.lit 0)) (.rcons (.vint .u8 (.lit 0)) (.rcons (.vint .u8 (.lit 0)) (.rcons (.vint .u8 (.lit 0)) (.rcons (.vint .u8 (.lit 0)) (.rcons (.vint .u8 (.lit 0)) (.rcons (.vint .u8 (.lit 0)) (.rcons (.vint .u8 (.lit 0)) (.rcons (.vint .u8 (.lit 0)) (.rcons (.vint .u8 (.lit 0)) (.rcons (.vint .u8 (.lit 0)) (.rcons (.vint .u8 (.lit 0)) (.rcons (.vint .u8 (.lit 0)) (.rcons (.vint .u8 (.lit 0)) (.rcons (.vint .u8 (.lit 0)) (.rcons (.vint .u8 (.lit 0)) (.rcons (.vint .u8 (.lit 0)) (.rcons (.vint .u8 (.lit 0)) (.rcons (.vint .u8 (.lit 0)) (.rcons (.vint .u8 (.lit 0)) (.rcons (.vint .u8 (.lit 0)) (.rcons (.vint .u8 (.lit 0)) (.rcons (.vint .u8 (.lit 0)) (.rcons (.vint .u8 (.lit 0)) (.rcons (.vint .u8 (.lit 0)) (.rcons (.vint .u8 (.lit 0)) (.rcons (.vint .u8 (.lit 0)) (.rcons (.vint .u8 (.lit 0)) (.rcons (.vint .u8 (.lit 0)) (.rcons (.vint .u8 (.lit 0)) (.rcons (.vint .u8 (.lit 0)) (.rcons (.vint .u8 (.lit 0)) (.rcons (.vint .u8 (.lit 0)) (.rcons (.vint .u8 (.lit 0)) (.rcons (.vint .u8 (.lit 0)) (.rcons (.vint .u8 (.lit 0)) (.rcons (.vint .u8 (.lit 0)) (.rcons (.vint .u8 (.lit 0)) (.rcons (.vint .u8 (.lit 0)) (.rcons (.vint .u8 (.lit 0)) (.rcons (.vint .u8 (.lit 0)) (.rcons (.vint .u8 (.lit 0)) (.rcons (.vint .u8 (.lit 0)) (.rcons (.vint .u8 (.lit 0)) (.rcons (.vint .u8 (.lit 0)) (.rcons (.vint .u8 (.lit 0)) (.rcons (.vint .u8 (.lit 0)) (.rcons (.vint .u8 (.lit 0)) (.rcons (.vint .u8 (.lit 0)) (.rcons (.vint .u8 (.lit 0)) (.rcons (.vint .u8 (.lit 0)) (.rcons (.vint .u8 (.lit 0)) (.rcons (.vint .u8 (.lit 0)) (.rcons (.vint .u8 (.lit 0)) (.rcons (.vint .u8 (.lit 0)) (.rcons (.vint .u8 (.lit 0)) (.rcons (.vint .u8 (.lit 0)) (.rcons (.vint .u8 (.lit 0)) (.rcons (.vint .u8 (.lit 0)) (.rcons (.vint .u8 (.lit 0)) (.rcons (.vint .u8 (.lit 0)) (.rcons (.vint .u8 (.lit 0)) (.rcons (.vint .u8 (.lit 0)) (.rcons (.vint .u8 (.lit 0)) (.rcons (.vint .u8 (.lit 0)) (.rcons (.vint .u8 (.lit 0)) (.rcons (.vint .u8 (.lit 0)) (.rcons (.vint .u8 (.lit 0)) (.rcons (.vint .u8 (.lit 0)) (.rcons (.vint .u8 (.lit 0)) (.rcons (.vint .u8 (.lit 0)) (.rcons (.vint .u8 (.lit 0)) (.rcons (.vint .u8 (.lit 0)) (.rcons (.vint .u8 (.lit 0)) (.rcons (.vint .u8 (.lit 0)) (.rcons (.vint .u8 (.lit 0)) (.rcons (.vint .u8 (.lit 0)) (.rcons (.vint .u8 (.lit 0)) (.rcons (.vint .u8 (.lit 0)) (.rcons (.vint .u8 (.lit 0)) (.rcons (.vint .u8 (.lit 0)) (.rcons (.vint .u8 (.lit 0)) (.rcons (.vint .u8 (.lit 0)) (.rcons (.vint .u8 (.lit 0)) (.rcons (.vint .u8 (.lit 0)) (.rcons (.vint .u8 (.lit 0)) (.rcons (.vint .u8 (.lit 0)) (.rcons (.vint .u8 (.lit 0)) (.rcons (.vint .u8 (.lit 0)) (.rcons (.vint .u8 (.lit 0)) (.rcons (.vint .u8 (.lit 0)) (.rcons (.vint .u8 (.lit 0)) (.rcons (.vint .u8 (.lit 0)) (.rcons (.vint .u8 (.lit 0)) (.rcons (.vint .u8 (.lit 0)) (.rcons (.vint .u8 (.lit 0)) (.rcons (.vint .u8 (.lit 0)) (.rcons (.vint .u8 (.lit 0)) (.rcons (.vint .u8 (.lit 0)) (.rcons (.vint .u8 (.lit 0)) (.rcons (.vint .u8 (.lit 0)) (.rcons (.vint .u8 (.lit 0)) (.rcons (.vint .u8 (.lit 0)) (.rcons (.vint .u8 (.lit 0)) (.rcons (.vint .u8 (.lit 0)) (.rcons (.vint .u8 (.lit 0)) (.rcons (.vint .u8 (.lit 0)) (.rcons (.vint .u8 (.lit 0)) (.rcons (.vint .u8 (.lit 0)) (.rcons (.vint .u8 (.lit 0)) (.rcons (.vint .u8 (.lit 0)) (.rcons (.vint .u8 (.lit 0)) (.rcons (.vint .u8 (.lit 0)) (.rcons (.vint .u8 (.lit 0)) (.rcons (.vint .u8 (.lit 0)) (.rcons (.vint .u8 (.lit 0)) (.rcons (.vint .u8 (.lit 0)) (.rcons (.vint .u8 (.lit 0)) (.rcons (.vint .u8 (.lit 0)) (.rcons (.vint .u8 (.lit 0)) (.rcons (.vint .u8 (.lit 0)) (.rcons (.vint .u8 (.lit 0)) (.rcons (.vint .u8 (.lit 0)) (.rcons (.vint .u8 (.lit 0)) (.rcons (.vint .u8 (.lit 0)) (.rcons (.vint .u8 (.lit 0)) (.rcons (.vint .u8 (.lit 0)) (.rcons (.vint .u8 (.lit 0)) (.rcons (.vint .u8 (.lit 0)) (.rcons (.vint .u8 (.lit 0)) (.rcons (.vint .u8 (.lit 0)) (.rcons (.vint .u8 (.lit 0)) (.rcons (.vint .u8 (.lit 0)) (.rcons (.vint .u8 (.lit 0)) (.rcons (.vint .u8 (.lit 0)) (.rcons (.vint .u8 (.lit 0)) (.rcons (.vint .u8 (.lit 0)) (.rcons (.vint .u8 (.lit 0)) (.rcons (.vint .u8 (.lit 0)) (.rcons (.vint .u8 (.lit 0)) (.rcons (.vint .u8 (.lit 0)) (.rcons (.vint .u8 (.lit 0)) (.rcons (.vint .u8 (.lit 0)) (.rcons (.vint .u8 (.lit 0)) (.rcons (.vint .u8 (.lit 0)) (.rcons (.vint .u8 (.lit 0)) (.rcons (.vint .u8 (.lit 0)) (.rcons (.vint .u8 (.lit 0)) (.rcons (.vint .u8 (.lit 0)) (.rcons (.vint .u8 (.lit 0)) (.rcons (.vint .u8 (.lit 0)) (.rcons (.vint .u8 (.lit 0)) (.rcons (.vint .u8 (.lit 0)) (.rcons (.vint .u8 (.lit 0)) (.rcons (.vint .u8 (.lit 0)) (.rcons (.vint .u8 (.lit 0)) (.rcons (.vint .u8 (.lit 0)) (.rcons (.vint .u8 (.lit 0)) (.rcons (.vint .u8 (.lit 0)) (.rcons (.vint .u8 (.lit 0)) (.rcons (.vint .u8 (.lit 0)) (.rcons (.vint .u8 (.lit 0)) (.rcons (.vint .u8 (.lit 0)) (.rcons (.vint .u8 (.lit 0)) (.rcons (.vint .u8 (.lit 0)) (.rcons (.vint .u8 (.lit 0)) (.rcons (.vint .u8 (.lit 0)) (.rcons (.vint .u8 (.lit 0)) (.rcons (.vint .u8 (.lit 0)) (.rcons (.vint .u8 (.lit 0)) (.rcons (.vint .u8 (.lit 0)) (.rcons (.vint .u8 (.lit 0)) (.rcons (.vint .u8 (.lit 0)) (.rcons (.vint .u8 (.lit 0)) (.rcons (.vint .u8 (.lit 0)) (.rcons (.vint .u8 (.lit 0)) (.rcons (.vint .u8 (.lit 0)) (.rcons (.vint .u8 (.lit 0)) (.rcons (.vint .u8 (.lit 0)) (.rcons (.vint .u8 (.lit 0)) (.rcons (.vint .u8 (.lit 0)) (.rcons (.vint .u8 (.lit 0)) (.rcons (.vint .u8 (.lit 0)) (.rcons (.vint .u8 (.lit 0)) (.rcons (.vint .u8 (.lit 0)) (.rcons (.vint .u8 (.lit 0)) (.rcons (.vint .u8 (.lit 0)) (.rcons (.vint .u8 (.lit 0)) (.rcons (.vint .u8 (.lit 0)) (.rcons (.vint .u8 (.lit 0)) (.rcons (.vint .u8 (.lit 0)) (.rcons (.vint .u8 (.lit 0)) (.rcons (.vint .u8 (.lit 0)) (.rcons (.vint .u8 (.lit 0)) (.rcons (.vint .u8 (.lit 0)) (.rcons (.vint .u8 (.lit 0)) (.rcons (.vint .u8 (.lit 0)) (.rcons (.vint .u8 (.lit 0)) (.rcons (.vint .u8 (.lit 0)) (.rcons (.vint .u8 (.lit 0)) (.rcons (.vint .u8 (.lit 0)) (.rcons (.vint .u8 (.lit 0)) (.rcons (.vint .u8 (.lit 0)) (.rcons (.vint .u8 (.lit 0)) (.rcons (.vint .u8 (.lit 0)) (.rcons (.vint .u8 (.lit 0)) (.rcons (.vint .u8 (.lit 0)) (.rcons (.vint .u8 (.lit 0)) (.rcons (.vint .u8 (.lit 0)) (.rcons (.vint .u8 (.lit 0)) (.rcons (.vint .u8 (.lit 0)) (.rcons (.vint .u8 (.lit 0)) (.rcons (.vint .u8 (.lit 0)) (.rcons (.vint .u8 (.lit 0)) (.rcons (.vint .u8 (.lit 0)) (.rcons (.vint .u8 (.lit 0)) (.rcons (.vint .u8 (.lit 0)) (.rcons (.vint .u8 (.lit 0)) (.rcons (.vint .u8 (.lit 0)) (.rcons (.vint .u8 (.lit 0)) (.rcons (.vint .u8 (.lit 0)) (.rcons (.vint .u8 (.lit 0)) (.rcons (.vint .u8 (.lit 0)) (.rcons (.vint .u8 (.lit 0)) (.rcons (.vint .u8 (.lit 0)) (.rcons (.vint .u8 (.lit 0)) (.rcons (.vint .u8 (.lit 0)) (.rcons (.vint .u8 (.lit 0)) (.rcons (.vint .u8 (.lit 0)) (.rcons (.vint .u8 (.lit 0)) (.rcons (.vint .u8 (.lit 0)) (.rcons (.vint .u8 (.lit 0)) (.rcons (.vint .u8 (.lit 0)) (.rcons (.vint .u8 (.lit 0)) (.rcons (.vint .u8 (.lit 0)) (.rcons (.vint .u8 (.lit 0)) (.rcons (.vint .u8 (.lit 0)) (.rcons (.vint .u8 (.lit 0)) (.rcons (.vint .u8 (.lit 0)) (.rcons (.vint .u8 (.lit 0)) (.rcons (.vint .u8 (.lit 0)) (.rcons (.vint .u8 (.lit 0)) (.rcons (.vint .u8 (.lit 0)) (.rcons (.vint .u8 (.lit 0)) (.rcons (.vint .u8 (.lit 0)) (.rcons (.vint .u8 (.lit 0)) (.rcons (.vint .u8 (.lit 0)) (.rcons (.vint .u8 (.lit 0)) (.rcons (.vint .u8 (.lit 0)) (.rcons (.vint .u8 (.lit 0)) (.rcons (.vint .u8 (.lit 0)) (.rcons (.vint .u8 (.lit 0)) (.rcons (.vint .u8 (.lit 0)) (.rcons (.vint .u8 (.lit 0)) (.rcons (.vint .u8 (.lit 0)) (.rcons (.vint .u8 (.lit 0)) (.rcons (.vint .u8 (.lit 0)) (.rcons (.vint .u8 (.lit 0)) (.rcons (.vint .u8 (.lit 0)) (.rcons (.vint .u8 (.lit 0)) (.rcons (.vint .u8 (.lit 0)) (.rcons (.vint .u8 (.lit 0)) (.rcons (.vint .u8 (.lit 0)) (.rcons (.vint .u8 (.lit 0)) (.rcons (.vint .u8 (.lit 0)) (.rcons (.vint .u8 (.lit 0)) (.rcons (.vint .u8 (.lit 0)) (.rcons (.vint .u8 (.lit 0)) (.rcons (.vint .u8 (.lit 0)) (.rcons (.vint .u8 (.lit 0)) (.rcons (.vint .u8 (.lit 0)) (.rcons (.vint .u8 (.lit 0)) (.rcons (.vint .u8 (.lit 0)) (.rcons (.vint .u8 (.lit 0)) (.rcons (.vint .u8 (.lit 0)) (.rcons (.vint .u8 (.lit 0)) (.rcons (.vint .u8 (.lit 0)) (.rcons (.vint .u8 (.lit 0)) (.rcons (.vint .u8 (.lit 0)) (.rcons (.vint .u8 (.lit 0)) (.rcons (.vint .u8 (.lit 0)) (.rcons (.vint .u8 (.lit 0)) (.rcons (.vint .u8 (.lit 0)) (.rcons (.vint .u8 (.lit 0)) (.rcons (.vint .u8 (.lit 0)) (.rcons (.vint .u8 (.lit 0)) (.rcons (.vint .u8 (.lit 0)) (.rcons (.vint .u8 (.lit 0)) (.rcons (.vint .u8 (.lit 0)) (.rcons (.vint .u8 (.lit 0)) (.rcons (.vint .u8 (.lit 0)) (.rcons (.vint .u8 (.lit 0)) (.rcons (.vint .u8 (.lit 0)) (.rcons (.vint .u8 (.lit 0)) (.rcons (.vint .u8 (.lit 0)) (.rcons (.vint .u8 (.lit 0)) (.rcons (.vint .u8 (.lit 0)) (.rcons (.vint .u8 (.lit 0)) (.rcons (.vint .u8 (.lit 0)) (.rcons (.vint .u8 (.lit 0)) (.rcons (.vint .u8 (.lit 0)) (.rcons (.vint .u8 (.lit 0)) (.rcons (.vint .u8 (.lit 0)) (.rcons (.vint .u8 (.lit 0)) (.rcons (.vint .u8 (.lit 0)) (.rcons (.vint .u8 (.lit 0)) (.rcons (.vint .u8 (.lit 0)) (.rcons (.vint .u8 (.lit 0)) (.rcons (.vint .i64 (.lit 0)) (.rcons (.vint .i64 (.lit 0)) (.rcons (.vint .i64 (.lit 0)) (.rcons (.vint .i64 (.lit 0)) (.rcons (.vint .i64 (.lit 0)) (.rcons (.vint .i64 (.lit 0)) (.rcons (.vint .i64 (.lit 0)) (.rcons (.vint .i64 (.lit 0)) (.rcons (.vint .i64 (.lit 0)) (.rcons (.vint .i64 (.lit 0)) (.rcons (.vint .i64 (.lit 0)) (.rcons (.vint .i64 (.lit 0)) (.rcons (.vint .i64 (.lit 0)) (.rcons (.vint .i64 (.lit 0)) (.rcons (.vint .i64 (.lit 0)) (.rcons (.vint .i64 (.lit 0)) (.rcons (.vint .i64 (.lit 0)) (.rcons (.vint .i64 (.lit 0)) (.rcons (.vint .i64 (.lit 0)) (.rcons (.vint .i64 (.lit 0)) (.rcons (.vint .i64 (.lit 0)) (.rcons (.vint .i64 (.lit 0)) (.rcons (.vint .i64 (.lit 0)) (.rcons (.vint .i64 (.lit 0)) (.rcons (.vint .i64 (.lit 0)) (.rcons (.vint .i64 (.lit 0)) (.rcons (.vint .i64 (.lit 0)) (.rcons (.vint .i64 (.lit 0)) (.rcons (.vint .i64 (.lit 0)) (.rcons (.vint .i64 (.lit 0)) (.rcons (.vint .i64 (.lit 0)) (.rcons (.vint .i64 (.lit 0)) (.rcons (.vint .i64 (.lit 0)) (.rcons (.vint .i64 (.lit 0)) (.rcons (.vint .i64 (.lit 0)) (.rcons (.vint .i64 (.lit 0)) (.rcons (.vint .i64 (.lit 0)) (.rcons (.vint .i64 (.lit 0)) (.rcons (.vint .i64 (.lit 0)) (.rcons (.vint .i64 (.lit 0)) (.rcons (.vint .i64 (.lit 0)) (.rcons (.vint .i64 (.lit 0)) (.rcons (.vint .i64 (.lit 0)) (.rcons (.vint .i64 (.lit 0)) (.rcons (.vint .i64 (.lit 0)) (.rcons (.vint .i64 (.lit 0)) (.rcons (.vint .i64 (.lit 0)) (.rcons (.vint .i64 (.lit 0)) (.rcons (.vint .i64 (.lit 0)) (.rcons (.vint .i64 (.lit 0)) (.rcons (.vint .i64 (.lit 0)) (.rcons (.vint .i64 (.lit 0)) (.rcons (.vint .i64 (.lit 0)) (.rcons (.vint .i64 (.lit 0)) (.rcons (.vint .i64 (.lit 0)) (.rcons (.vint .i64 (.lit 0)) (.rcons (.vint .i64 (.lit 0)) (.rcons (.vint .i64 (.lit 0)) (.rcons (.vint .i64 (.lit 0)) (.rcons (.vint .i64 (.lit 0)) (.rcons (.vint .i64 (.lit 0)) (.rcons (.vint .i64 (.lit 0)) (.rcons (.vint .i64 (.lit 0)) (.rcons (.vint .i64 (.lit 0)) (.rcons (.vint .i64 (.lit 0)) (.rcons (.vint .i64 (.lit 0)) (.rcons (.vint .i64 (.lit 0)) (.rcons (.vint .i64 (.lit 0)) (.rcons (.vint .i64 (.lit 0)) (.rcons (.vint .i64 (.lit 0)) (.rcons (.vint .i64 (.lit 0)) (.rcons (.vint .i64 (.lit 0)) (.rcons (.vint .i64 (.lit 0)) (.rcons (.vint .i64 (.lit 0)) (.rcons (.vint .i64 (.lit 0)) (.rcons (.vint .i64 (.lit 0)) (.rcons (.vint .i64 (.lit 0)) (.rcons (.vint .i64 (.lit 0)) (.rcons (.vint .i64 (.lit 0)) (.rcons (.vint .i64 (.lit 0)) (.rcons (.vint .i64 (.lit 0)) (.rcons (.vint .i64 (.lit 0)) (.rcons (.vint .i64 (.lit 0)) (.rcons (.vint .i64 (.lit 0)) (.rcons (.vint .i64 (.lit 0)) (.rcons (.vint .i64 (.lit 0)) (.rcons (.vint .i64 (.lit 0)) (.rcons (.vint .i64 (.lit 0)) (.rcons (.vint .i64 (.lit 0)) (.rcons (.vint .i64 (.lit 0)) (.rcons (.vint .i64 (.lit 0)) (.rcons (.vint .i64 (.lit 0)) (.rcons (.vint .i64 (.lit 0)) (.rcons (.vint .i64 (.lit 0)) (.rcons (.vint .i64 (.lit 0)) (.rcons (.vint .i64 (.lit 0)) (.rcons (.vint .i64 (.lit 0)) (.rcons (.vint .i64 (.lit 0)) (.rcons (.vint .i64 (.lit 0)) (.rcons (.vint .i64 (.lit 0)) (.rcons (.vint .i64 (.lit 0)) (.rcons (.vint .i64 (.lit 0)) (.rcons (.vint .i64 (.lit 0)) (.rcons (.vint .i64 (.lit 0)) (.rcons (.vint .i64 (.lit 0)) (.rcons (.vint .i64 (.lit 0)) (.rcons (.vint .i64 (.lit 0)) (.rcons (.vint .i64 (.lit 0)) (.rcons (.vint .i64 (.lit 0)) (.rcons (.vint .i64 (.lit 0)) (.rcons (.vint .i64 (.lit 0)) (.rcons (.vint .i64 (.lit 0)) (.rcons (.vint .i64 (.lit 0)) (.rcons (.vint .i64 (.lit 0)) (.rcons (.vint .i64 (.lit 0)) (.rcons (.vint .i64 (.lit 0)) (.rcons (.vint .i64 (.lit 0)) (.rcons (.vint .i64 (.lit 0)) (.rcons (.vint .i64 (.lit 0)) (.rcons (.vint .i64 (.lit 0)) (.rcons (.vint .i64 (.lit 0)) (.rcons (.vint .i64 (.lit 0)) (.rcons (.vint .i64 (.lit 0)) (.rcons (.vint .i64 (.lit 0)) (.rcons (.vint .i64 (.lit 0)) (.rcons (.vint .i64 (.lit 0)) (.rcons (.vint .i64 (.lit 0)) (.rcons (.vint .i64 (.lit 0)) (.rcons (.vint .i64 (.lit 0)) (.rcons (.vint .i64 (.lit 0)) (.rcons (.vint .i64 (.lit 0)) (.rcons (.vint .i64 (.lit 0)) (.rcons (.vint .i64 (.lit 0)) (.rcons (.vint .i64 (.lit 0)) (.rcons (.vint .i64 (.lit 0)) (.rcons (.vint .i64 (.lit 0)) (.rcons (.vint .i64 (.lit 0)) (.rcons (.vint .i64 (.lit 0)) (.rcons (.vint .i64 (.lit 0)) (.rcons (.vint .i64 (.lit 0)) (.rcons (.vint .i64 (.lit 0)) (.rcons (.vint .i64 (.lit 0)) (.rcons (.vint .i64 (.lit 0)) (.rcons (.vint .i64 (.lit 0)) (.rcons (.vint .i64 (.lit 0)) (.rcons (.vint .i64 (.lit 0)) (.rcons (.vint .i64 (.lit 0)) (.rcons (.vint .i64 (.lit 0)) (.rcons (.vint .i64 (.lit 0)) (.rcons (.vint .i64 (.lit 0)) (.rcons (.vint .i64 (.lit 0)) (.rcons (.vint .i64 (.lit 0)) (.rcons (.vint .i64 (.lit 0)) (.rcons (.vint .i64 (.lit 0)) (.rcons (.vint .i64 (.lit 0)) (.rcons (.vint .i64 (.lit 0)) (.rcons (.vint .i64 (.lit 0)) (.rcons (.vint .i64 (.lit 0)) (.rcons (.vint .i64 (.lit 0)) (.rcons (.vint .i64 (.lit 0)) (.rcons (.vint .i64 (.lit 0)) (.rcons (.vint .i64 (.lit 0)) (.rcons (.vint .i64 (.lit 0)) (.rcons (.vint .i64 (.lit 0)) (.rcons (.vint .i64 (.lit 0)) (.rcons (.vint .i64 (.lit 0)) (.rcons (.vint .i64 (.lit 0)) (.rcons (.vint .i64 (.lit 0)) (.rcons (.vint .i64 (.lit 0)) (.rcons (.vint .i64 (.lit 0)) (.rcons (.vint .i64 (.lit 0)) (.rcons (.vint .i64 (.lit 0)) (.rcons (.vint .i64 (.lit 0)) (.rcons (.vint .i64 (.lit 0)) (.rcons (.vint .i64 (.lit 0)) (.rcons (.vint .i64 (.lit 0)) (.rcons (.vint .i64 (.lit 0)) (.rcons (.vint .i64 (.lit 0)) (.rcons (.vint .i64 (.lit 0)) (.rcons (.vint .i64 (.lit 0)) (.rcons (.vint .i64 (.lit 0)) (.rcons (.vint .i64 (.lit 0)) (.rcons (.vint .i64 (.lit 0)) (.rcons (.vint .i64 (.lit 0)) (.rcons (.vint .i64 (.lit 0)) (.rcons (.vint .i64 (.lit 0)) (.rcons (.vint .i64 (.lit 0)) (.rcons (.vint .i64 (.lit 0)) (.rcons (.vint .i64 (.lit 0)) (.rcons (.vint .i64 (.lit 0)) (.rcons (.vint .i64 (.lit 0)) (.rcons (.vint .i64 (.lit 0)) (.rcons (.vint .i64 (.lit 0)) (.rcons (.vint .i64 (.lit 0)) (.rcons (.vint .i64 (.lit 0)) (.rcons (.vint .i64 (.lit 0)) (.rcons (.vint .i64 (.lit 0)) (.rcons (.vint .i64 (.lit 0)) (.rcons (.vint .i64 (.lit 0)) (.rcons (.vint .i64 (.lit 0)) (.rcons (.vint .i64 (.lit 0)) (.rcons (.vint .i64 (.lit 0)) (.rcons (.vint .i64 (.lit 0)) (.rcons (.vint .i64 (.lit 0)) (.rcons (.vint .i64 (.lit 0)) (.rcons (.vint .i64 (.lit 0)) (.rcons (.vint .i64 (.lit 0)) (.rcons (.vint .i64 (.lit 0)) (.rcons (.vint .i64 (.lit 0)) (.rcons (.vint .i64 (.lit 0)) (.rcons (.vint .i64 (.lit 0)) (.rcons (.vint .i64 (.lit 0)) (.rcons (.vint .i64 (.lit 0)) (.rcons (.vint .i64 (.lit 0)) (.rcons (.vint .i64 (.lit 0)) (.rcons (.vint .i64 (.lit 0)) (.rcons (.vint .i64 (.lit 0)) (.rcons (.vint .i64 (.lit 0)) (.rcons (.vint .i64 (.lit 0)) (.rcons (.vint .i64 (.lit 0)) (.rcons (.vint .i64 (.lit 0)) (.rcons (.vint .i64 (.lit 0)) (.rcons (.vint .i64 (.lit 0)) (.rcons (.vint .i64 (.lit 0)) (.rcons (.vint .i64 (.lit 0)) (.rcons (.vint .i64 (.lit 0)) (.rcons (.vint .i64 (.lit 0)) (.rcons (.vint .i64 (.lit 0)) (.rcons (.vint .i64 (.lit 0)) (.rcons (.vint .i64 (.lit 0)) (.rcons (.vint .i64 (.lit 0)) (.rcons (.vint .i64 (.lit 0)) (.rcons (.vint .i64 (.lit 0)) (.rcons (.vint .i64 (.lit 0)) (.rcons (.vint .i64 (.lit 0)) (.rcons (.vint .i64 (.lit 0)) (.rcons (.vint .i64 (.lit 0)) (.rcons (.vint .i64 (.lit 0)) (.rcons (.vint .i64 (.lit 0)) (.rcons (.vint .i64 (.lit 0)) (.rcons (.vint .i64 (.lit 0)) (.rcons (.vint .i64 (.lit 0)) (.rcons (.vint .i64 (.lit 0)) (.rcons (.vint .i64 (.lit 0)) (.rcons (.vint .i64 (.lit 0)) (.rcons (.vint .i64 (.lit 0)) (.rcons (.vint .i64 (.lit 0)) (.rcons (.vint .i64 (.lit 0)) (.rcons (.vint .i64 (.lit 0)) (.rcons (.vint .i64 (.lit 0)) (.rcons (.vint .i64 (.lit 0)) (.rcons (.vint .i64 (.lit 0)) (.rcons (.vint .i64 (.lit 0)) (.rcons (.vint .i64 (.lit 0)) (.rcons (.vint .i64 (.lit 0)) (.rcons (.vint .i64 (.lit 0)) .rnil))))))))))))))))))))))))))))))))))))))))))))))))))))))))))))))))))))))))))))))))))))))))))))))))))))))))))))))))))))))))))))))))))))))))))))))))))))))))))))))))))))))))))))))))))))))))))))))))))))))))))))))))))))))))))))))))))))))))))))))))))))))))))))))))))))))))))))))))))))))))))))))))))))))))))))))))))))))))))))))))))))))))))))))))))))))))))))))))))))))))))))))))))))))))))))))))))))))))))))))))))))))))))))))))))))))))))))))))))))))))))))))))))))))))))))))))))))))))))))))))))))))))))))))))))))))))))))))))))))))))))))))))))))))))))))))))))))))))))))))))))))))))))))))))))))))))))))))))))))))))))))))))))))))))))))))))))))))))))))))))))))))))))))))))))))))))))))))))))))))))))))))))))))))))))))))))))))))))))))))))))))))))))))))))))))))))))))))))))))))))))))))))),bg 0 0])))
theorem qtG:qj ⟨Tryz.prog,qaJ,[],[]⟩ 100000 Tryz.f20 = qkt:=by kernel_rfl
theorem qyF (hd:∀ c ∈ ([]:List Ctr),c.ok Tryz.prog) (h:∀ ρ:Env,ρ.good->(qaJ).pre ρ->qkt.den ⟨Tryz.prog,qaJ,[],[]⟩ ρ):(qaJ).ok Tryz.prog :=
 qf Tryz.func20 (fun a w=>Tryz.call20 a w) hd 100000 (fun ρ hg hp=>by rw [qtG]; exact h ρ hg hp)
@[simp] def qtl:T:=.c3 (.xput 513) (.c3 (.xput 3) (.c3 (.xput 3) (.var 4) (.var 3) (.vint .u8 (.conv .u8 (.var 2)))) (.arith .add .i64 (.var 3) (.lit 255)) (.vint .u8 (.conv .u8 (.var 2)))) (.var 2) (.vint .i64 (.var 3))
def qsj:Out:=(.inv 0 2 (sg 1000 [bv 1002 1,bt 1001 (.lit 0),bt 1000 (.lit 1)]) (.fresh 2 (.fresh 3 (.fresh 4 (.hyp 0 2 (.br (.cmp .lss (.var 3) (.lit 255))
 (.need (.cmp .lss (.lit 0) (.dlen (.var 4))) (.need (.cmp .leq (.lit 0) (.var 3)) (.need (.cmp .lss (.var 3) (.lit 510)) (.need (.cmp .leq (.lit 0) (.arith .add .i64 (.var 3) (.lit 255))) (.need (.cmp .lss (.arith .add .i64 (.var 3) (.lit 255)) (.lit 510)) (.need (.cmp .leq (.lit 0) (.var 2)) (.need (.cmp .lss (.var 2) (.lit 256)) (.br (.cmp .geq (.arith .shl .i64 (.var 2) (.lit 1)) (.lit 256))
 (.back 0 2 (sg 1000 [bt 1002 qtl,bt 1001 (.arith .add .i64 (.var 3) (.lit 1)),bt 1000 (.arith .xor .i64 (.arith .shl .i64 (.var 2) (.lit 1)) (.lit 285))]))
 (.back 0 2 (sg 1000 [bt 1002 qtl,bt 1001 (.arith .add .i64 (.var 3) (.lit 1)),bt 1000 (.arith .shl .i64 (.var 2) (.lit 1))]))))))))))
 (.ret 0 (sg 2 [bv 2 4]))))))))
theorem q01:qj ⟨Tryz.prog,qkh,[],[qwe]⟩ 100000 Tryz.f179 = qsj:=by kernel_rfl
theorem q6F (hd:∀ c ∈ ([]:List Ctr),c.ok Tryz.prog) (h:∀ ρ:Env,ρ.good->(qkh).pre ρ->qsj.den ⟨Tryz.prog,qkh,[],[qwe]⟩ ρ):(qkh).ok Tryz.prog :=
 qf Tryz.func179 (fun a w=>Tryz.call179 a w) hd 100000 (fun ρ hg hp=>by rw [q01]; exact h ρ hg hp)
@[simp] def qsD:T:=.arith .add .i64 (.c2 (.xint 513) (.var 4) (.var 2)) (.c2 (.xint 513) (.var 4) (.var 3))
def q2o:Out:=(.br (.and (.cmp .eql (.dlen (.var 1)) (.lit 0)) (.isnil 0))
 (.ret 0 (sg 4 [bv 5 1,bt 4 (.lit 0)]))
 (.br (.cmp .eql (.var 2) (.lit 0))
 (.ret 0 (sg 4 [bv 5 1,bt 4 (.lit 0)]))
 (.br (.cmp .eql (.var 3) (.lit 0))
 (.ret 0 (sg 4 [bv 5 1,bt 4 (.lit 0)]))
 (.need (.cmp .lss (.lit 0) (.dlen (.var 1))) (.pre 0 (sg 0 [bv 1 1,bg 0 0]) (.both (.fresh 4 (.post 0 0 (sg 0 [bv 1 1,bg 0 0]) 4 (.need (.cmp .lss (.lit 0) (.dlen (.var 4))) (.need (.cmp .leq (.lit 0) (.var 2)) (.need (.cmp .lss (.var 2) (.lit 256)) (.need (.cmp .leq (.lit 0) (.var 3)) (.need (.cmp .lss (.var 3) (.lit 256)) (.need (.cmp .leq (.lit 0) qsD) (.need (.cmp .lss qsD (.lit 510)) (.ret 0 (sg 4 [bv 5 4,bt 4 (.c2 (.xint 3) (.var 4) qsD)]))))))))))) .top))))))
theorem q6j:qj ⟨Tryz.prog,qcA,[qcn],[]⟩ 100000 Tryz.f152 = q2o:=by kernel_rfl
theorem q9W (hd:∀ c ∈ ([qcn]:List Ctr),c.ok Tryz.prog) (h:∀ ρ:Env,ρ.good->(qcA).pre ρ->q2o.den ⟨Tryz.prog,qcA,[qcn],[]⟩ ρ):(qcA).ok Tryz.prog :=
 qf Tryz.func152 (fun a w=>Tryz.call152 a w) hd 100000 (fun ρ hg hp=>by rw [q6j]; exact h ρ hg hp)
end Go.Proofs

set_option linter.unusedSimpArgs false
set_option linter.unusedVariables false
namespace Go.Proofs
open Go Go.Eng
set_option maxRecDepth 100000 in
theorem qnE:qaJ.ok Tryz.prog:=qyF (by simp) fun ρ hg hp=>by
 simp [qkt,qaJ]
 kernel_rfl
theorem qv1:∀ x:Fin 256,0 <= qiH (x.val:Int)/\qiH (x.val:Int) < 256:=by decide +kernel
theorem qxY {x:Int} (h0:0 <= x) (h1:x < 256):0 <= qiH x/\qiH x < 256:=by
 have:=qv1 ⟨x.toNat,by omega⟩
 simp only [Int.toNat_of_nonneg h0] at this
 exact this
theorem qhZ (d:qd):∀ n,0 <= (qbV d n).2/\(qbV d n).2 < 256
 | 0=>by simp [qbV]
 | n + 1=>qxY (qhZ d n).1 (qhZ d n).2
theorem q5g {d:qd} {i:Nat} {v:Value}:(qas d i v).length = d.length:=by cases d <;> simp [qas]
theorem qlo (d:qd):∀ n,(qbV d n).1.length = d.length
 | 0=>rfl
 | n + 1=>by simp only [qbV,qlG,q5g,qlo d n]
theorem q6p:qkh.ok Tryz.prog:=q6F (by simp) fun ρ hg hp=>by
 have hl:(ρ 1).d.length = 1:=hp
 simp [qsj,qkh,qwe]
 refine ⟨rfl,fun x _ i _ d _ i0 i1 hd=>⟨fun hi=>?_,fun hi=>?_⟩⟩
 ·obtain ⟨x0,x1⟩:=qhZ (ρ 1).d i.i.toNat
  have hlen:=qlo (ρ 1).d i.i.toNat
  rw [<- hd] at x0 x1 hlen
  simp only at x0 x1 hlen
  have w1:qe .add .i64 i.i 255 = i.i + 255:=by simp [qe,IntKind.wrap,IntKind.bits,IntKind.signed]; omega
  have w2:qe .add .i64 i.i 1 = i.i + 1:=by simp [qe,IntKind.wrap,IntKind.bits,IntKind.signed]; omega
  have w3:qe .shl .i64 x.i 1 = 2 * x.i:=by simp [qe,IntKind.wrap,IntKind.bits,IntKind.signed]; omega
  have w4:IntKind.u8.wrap x.i = x.i:=by simp [IntKind.wrap,IntKind.bits,IntKind.signed]; omega
  have hstep:∀ y,y = qiH x.i->(qas (qas (qas d.d (i.i.toNat + 3) (.int .u8 x.i)) ((i.i + 255).toNat + 3) (.int .u8 x.i)) (x.i.toNat + 513) (.int .i64 i.i),y) = qbV (ρ 1).d (i.i + 1).toNat:=fun y hy=>by
   rw [show (i.i + 1).toNat = i.i.toNat + 1 by omega,qbV,<- hd,qlG,hy]
   simp only
   rw [show (i.i + 255).toNat = i.i.toNat + 255 by omega,Int.toNat_of_nonneg i0]
  rw [w1,w2,w3,w4]
  refine ⟨by omega,i0,by omega,by omega,by omega,x0,x1,fun h=>⟨⟨by omega,by omega,hstep _ ?_⟩,by omega⟩,fun h=>⟨⟨by omega,by omega,hstep _ ?_⟩,by omega⟩⟩
  ·rw [qiH,if_pos h]
  ·rw [qiH,if_neg (by omega)]
 ·have:i.i.toNat = 255:=by omega
  rw [this] at hd
  rw [<- hd]
end Go.Proofs

set_option linter.unusedSimpArgs false
set_option linter.unusedVariables false
namespace Go.Proofs
open Go Go.Eng

theorem qmF (w:World):(callFunc 198 #[]).run Tryz.prog w = .ok (.value (.tuple #[])) w:=run_call_mark0 Tryz.func198 (by kernel_rfl) (by kernel_rfl) (by kernel_rfl) .disable (by kernel_rfl) w
theorem qnL (w:World):(callFunc 200 #[]).run Tryz.prog w = .ok (.value (.tuple #[])) w:=run_call_mark0 Tryz.func200 (by kernel_rfl) (by kernel_rfl) (by kernel_rfl) .enable (by kernel_rfl) w
theorem qvH (a:Addr) (w:World):(callFunc 201 #[.pointer (some a)]).run Tryz.prog w = .ok (.value (.tuple #[])) w:=run_call_marked Tryz.func201 (by kernel_rfl) (by kernel_rfl) (by kernel_rfl) .acquire (by kernel_rfl) a w
theorem quq (a:Addr) (w:World):(callFunc 203 #[.pointer (some a)]).run Tryz.prog w = .ok (.value (.tuple #[])) w:=run_call_marked Tryz.func203 (by kernel_rfl) (by kernel_rfl) (by kernel_rfl) .releaseMerge (by kernel_rfl) a w
theorem q0N (a:Addr) (x:Value) (u:FrameMode) (w:World) (hc:w.cell? a = some x) (hz:w.frozen? a = false) :
  CallsD Tryz.prog 193 #[.pointer (some a),.bool true] u w fun e u' w'=>u' = u/\(e = .returned (.tuple #[])/\w' = w.drew.setCell a (.int .u32 1)):=by
 have hc':w.drew.cell? a = some x:=by go_simp
 have hz':w.drew.frozen? a = false:=by go_simp
 have hst:=run_call_store (P:=Tryz.prog) Tryz.func196 (by kernel_rfl) (by kernel_rfl) (by kernel_rfl) (by kernel_rfl) (k:=.u32) (y:=1) hc' hz'
 go_enter_d Tryz.func193,Tryz.ntmps193
 go_wp2
 go_region_calls
 all_goals (go_end0; exact ⟨rfl,rfl⟩)
set_option maxRecDepth 100000 in
set_option maxHeartbeats 1600000 in
theorem quR (a:Addr) (w:World) (hc:w.cell? a = some (.int .i32 0)) (hz:w.frozen? a = false) :
  Calls Tryz.prog 194 #[.pointer (some a)] w fun e w'=>e = .returned (.tuple #[])/\w' = w.setCell a (.int .i32 1):=by
 have hd:=qmF
 have he:=qnL
 have ha:=qvH
 have hcas:=run_call_cas_hit (P:=Tryz.prog) Tryz.func199 (by kernel_rfl) (by kernel_rfl) (by kernel_rfl) .i32 (by kernel_rfl) (y:=1) hc hz
 have hc':(w.setCell a (.int .i32 1)).cell? a = some (.int .i32 1):=World.cell?_setCell_same w a _ hc
 have hcv:=run_convert_to_unsafe (P:=Tryz.prog) (src:=283) (dst := 287) Tryz.underlying283 Tryz.underlying287 (by kernel_rfl) hc'
 go_enter Tryz.func194,Tryz.ntmps194
 go_wp2
 first | go_end0 | (simp only [Exit.inBlock,Exit.then]; refine bodyPost_ret (results_none rfl _ _ _) rfl ?_) | refine bodyPost_ret (results_none rfl _ _ _) rfl ?_
 go_wp2
 all_goals (go_end0; exact ⟨rfl,rfl⟩)
set_option maxRecDepth 100000 in
set_option maxHeartbeats 1600000 in
theorem qsB (a:Addr) (w:World) (hc:w.cell? a = some (.int .i32 1)) (hz:w.frozen? a = false) :
  Calls Tryz.prog 195 #[.pointer (some a)] w fun e w'=>e = .returned (.tuple #[])/\w' = w.setCell a (.int .i32 0):=by
 have hd:=qmF
 have he:=qnL
 have hr:=quq
 have hadd:=run_call_add (P:=Tryz.prog) Tryz.func204 (by kernel_rfl) (by kernel_rfl) (by kernel_rfl) .i32 (by kernel_rfl) (y:=-1) (s:=0) hc hz (by simp [go_sem]; rfl)
 have hcv:=run_convert_to_unsafe (P:=Tryz.prog) (src:=283) (dst := 287) Tryz.underlying283 Tryz.underlying287 (by kernel_rfl) hc
 go_enter Tryz.func195,Tryz.ntmps195
 go_wp2
 all_goals (try go_end0)
 all_goals (try go_wp2)
 all_goals (try go_end0)
 all_goals (exact ⟨rfl,rfl⟩)
set_option maxRecDepth 100000 in
theorem q4o (b off:Nat) (w:World) (hc:w.cell? ⟨b,off,none⟩ = some (.int .i32 0)) (hz:w.frozen? ⟨b,off,none⟩ = false) :
  Calls Tryz.prog 191 #[.pointer (some ⟨b,off,none⟩)] w fun e w'=>e = .returned (.tuple #[])/\w' = w.setCell ⟨b,off,none⟩ (.int .i32 1):=by
 go_enter Tryz.func191,Tryz.ntmps191
 go_wp2_with (go_at_call 194; refine (quR ⟨b,off,none⟩ _ (by go_simp) (by go_simp)).mono ?_; rintro e w' ⟨rfl,rfl⟩)
 all_goals (go_end0; exact ⟨rfl,rfl⟩)
set_option maxRecDepth 100000 in
theorem qy0 (b off:Nat) (u:FrameMode) (w:World) (hc:w.cell? ⟨b,off,none⟩ = some (.int .i32 1)) (hz:w.frozen? ⟨b,off,none⟩ = false) :
  CallsD Tryz.prog 192 #[.pointer (some ⟨b,off,none⟩)] u w fun e u' w'=>u' = u/\(e = .returned (.tuple #[])/\w' = w.setCell ⟨b,off,none⟩ (.int .i32 0)):=by
 go_enter_d Tryz.func192,Tryz.ntmps192
 go_wp2_with (go_at_call 195; refine (qsB ⟨b,off,none⟩ _ (by go_simp) (by go_simp)).mono ?_; rintro e w' ⟨rfl,rfl⟩)
 all_goals (go_end0; exact ⟨rfl,rfl⟩)
end Go.Proofs

set_option linter.unusedSimpArgs false
set_option linter.unusedVariables false
namespace Go.Proofs
open Go Go.Eng


theorem qpN {k:CK} {v:Value} (h:CK.fits k v = true):v.oneCell' = true:=by
 cases k <;> cases v <;> simp_all [CK.fits,Value.oneCell']
def At (w:World) (b:Nat) (c:Array Value):Prop:=w.heap[b]? = some (.cells c 151 (0,0))
structure Else (w w':World) (b:Nat):Prop where
 blk:∀ b',b' ≠ b->∀ o,w.heap[b']? = some o->w'.heap[b']? = some o
 os:w'.os = w.os
 out:w'.output = w.output
theorem Else.trans {w1 w2 w3:World} {b:Nat} (h:Else w1 w2 b) (h':Else w2 w3 b):Else w1 w3 b :=
 ⟨fun b' hb o ho=>h'.blk b' hb o (h.blk b' hb o ho),h'.os.trans h.os,h'.out.trans h.out⟩
theorem At.set {w:World} {b:Nat} {c:Array Value} (h:At w b c) (k:Nat) (v:Value):At (w.setCell ⟨b,k,none⟩ v) b (c.setIfInBounds k v)/\Else w (w.setCell ⟨b,k,none⟩ v) b:=by
 refine ⟨?_,fun b' hb o ho=>?_,rfl,rfl⟩
 ·have h:w.heap[b]? = some (.cells c 151 (0,0)):=h
  simp only [At,World.setCell,Array.getElem?_modify,if_true,h,Option.map_some]
  simp
 ·simp only [World.setCell,Array.getElem?_modify]
  rw [if_neg (fun h=>hb h.symm)]; exact ho
theorem At.drew {w:World} {b:Nat} {c:Array Value} (h:At w b c):At w.drew b c/\Else w w.drew b:=⟨h,fun _ _ _ ho=>ho,rfl,rfl⟩
theorem At.cell {w:World} {b:Nat} {c:Array Value} (h:At w b c) {k:Nat} {v:Value} (hv:c[k]? = some v):w.cell? ⟨b,k,none⟩ = some v:=by rw [qbg h,hv]
theorem At.frozen {w:World} {b:Nat} {c:Array Value} (h:At w b c) (k:Nat):w.frozen? ⟨b,k,none⟩ = false:=by
 have h:w.heap[b]? = some (.cells c 151 (0,0)):=h
 simp [World.frozen?,h]
theorem qlc {c:Array Value} {k:Nat} {v:Value}:(c.setIfInBounds k v).toList = c.toList.set k v:=by simp

theorem qd8:qgi.length = 769:=by simp only [qgi,List.length_append,List.length_replicate,List.length_cons,List.length_nil]
set_option maxRecDepth 100000 in
theorem qym {w:World} {b:Nat} {c:Array Value} (hb:At w b c) (hf:qu qgi c.toList) :
  Calls Tryz.prog 179 #[.pointer (some ⟨b,0,none⟩)] w fun e w'=>e = .returned (.tuple #[])/\∃ c',At w' b c'/\[c'.toList] = (qbV [c.toList] 255).1/\Else w w' b:=by
 let us:List U:=[{ r:=some ⟨b,0,none⟩ },{ d:=[c.toList] }]
 have hgood:Env.good fun n=>us.getD n {}:=fun n=>by
  match n with
  | 0=>simp [us,U.good,Value.oneCell']
  | 1 =>
   refine ⟨rfl,fun row hr v hv=>?_⟩
   simp only [us,List.getD_cons_succ,List.getD_cons_zero,List.mem_singleton] at hr
   subst hr
   obtain ⟨k,hk⟩:=List.getElem?_of_mem hv
   have hlt:k < qgi.length:=by rw [<- hf.1]; exact (List.getElem?_eq_some_iff.1 hk).1
   exact qpN (hf.2 k _ v (List.getElem?_eq_getElem hlt) hk)
  | n + 2=>simp [us,U.good,Value.oneCell']
 have hsz:c.size = 769:=by have:=hf.1; rw [qd8] at this; simpa using this
 have h:=q6p.2 (fun n=>us.getD n {}) w ⟨fun b'=>if b' = b then none else w.heap[b']?,w.os,w.output⟩ (Hp.one b (.cells c 151 (0,0))) hgood
  (fun y=>by by_cases hy:y = b <;> simp [hy,Hp.one])
  ⟨fun y o hy=>by
   by_cases hyb:y = b
   ·subst hyb
    simp [Hp.union,Hp.one] at hy
    rw [<- hy]; exact hb
   ·simpa [Hp.union,Hp.one,hyb] using hy,rfl,rfl⟩
  ⟨Hp.one b (.cells c 151 (0,0)),Hp.emp,Hp.disj_emp _,by funext y; simp [Hp.union,Hp.emp],.inr ⟨b,c,rfl,by simp [Hp.one],by rw [qd8,hsz]; simp [T.den,O0.den],by simp [us,T.den,O0.den],fun i row hi=>by
   match i with
   | 0 =>
    simp only [T.den,us,List.getD_cons_succ,List.getD_cons_zero,List.getElem?_cons_zero,Option.some.injEq] at hi
    subst hi
    exact ⟨hf,fun k v hv=>by simpa using hv⟩
   | i + 1=>simp [T.den,us] at hi⟩,trivial⟩
  (fun x hx=>by cases hx) (show ([c.toList]:qd).length = 1 from rfl)
 refine h.mono fun e w' hq=>?_
 obtain ⟨ai,al,ρ',hal,hg',hag,he,hpost,hO',hd',hst',hsub',hwi'⟩:=hq
 match ai,hal with
 | 0,hal =>
  obtain rfl:=Option.some.inj hal
  refine ⟨he,?_⟩
  obtain ⟨h1,h2,hdj,hu,hden,_⟩:=hst'
  have r0:(ρ' 0).r = some ⟨b,0,none⟩:=by rw [hag 0 (by decide)]; rfl
  have d1:(ρ' 1).d = [c.toList]:=by rw [hag 1 (by decide)]; rfl
  have hp2:(ρ' 2).d = (qbV (ρ' 1).d 255).1:=hpost
  rw [d1] at hp2
  have hl2:(ρ' 2).d.length = 1:=by rw [hp2,qlo]; rfl
  rcases hden with ⟨hn,_,_⟩ | ⟨b',c',g1,g2,g3,g4,g5⟩
  ·rw [r0] at hn; cases hn
  ·rw [r0] at g1
   simp only [Option.some.injEq,Addr.mk.injEq] at g1
   obtain ⟨rfl,_⟩:=g1
   obtain ⟨row,hrow⟩:∃ row,(ρ' 2).d = [row]:=List.length_eq_one_iff.1 hl2
   obtain ⟨f1,f2⟩:=g5 0 row (by simp only [T.den]; rw [hrow]; rfl)
   have hs':c'.size = 769:=by rw [g3,qd8]; simp [T.den,O0.den]
   have hlr:row.length = 769:=by rw [f1.1,qd8]
   have hcl:c'.toList = row:=by
    apply List.ext_getElem?
    intro k
    by_cases hk:k < row.length
    ·have:=f2 k _ (List.getElem?_eq_getElem hk)
     rw [Array.getElem?_toList,List.getElem?_eq_getElem hk]
     simpa using this
    ·rw [List.getElem?_eq_none (by simp; omega),List.getElem?_eq_none (by omega)]
   refine ⟨c',hsub' b _ ?_,by rw [hcl,<- hrow,hp2],fun y hy o ho=>hsub' y o ?_,hwi'.1,hwi'.2⟩
   ·have:hO' b = some (.cells c' 151 (0,0)):=by rw [hu]; simp [Hp.union,g2]
    simp [Hp.union,this]
   ·simp [Hp.union,hy,ho]
 | n + 1,hal=>cases hal
end Go.Proofs

set_option linter.unusedSimpArgs false
set_option linter.unusedVariables false
namespace Go.Proofs
open Go Go.Eng
theorem qo4:∀ (x:Bool) (w:World),(Op.unary .not (.bool x)).run Tryz.prog w = .ok (.bool (!x)) w:=fun _ _=>rfl
set_option maxRecDepth 100000 in
theorem qlT (b:Nat) (x:Int) (w:World) (hc:w.cell? ⟨b,0,none⟩ = some (.int .u32 x)) :
  Calls Tryz.prog 187 #[.pointer (some ⟨b,0,none⟩)] w fun e w'=>e = .returned (.bool (x != 0))/\w' = w:=by
 have hl:=run_call_load (P:=Tryz.prog) Tryz.func190 (by kernel_rfl) (by kernel_rfl) (by kernel_rfl) .u32 (by kernel_rfl) hc
 go_enter Tryz.func187,Tryz.ntmps187
 go_wp2
 go_ret
 exact ⟨rfl,rfl⟩
set_option maxRecDepth 100000 in
theorem q3c (b:Nat) (d:Int) (hd:¬ d = 0) (fv:Value) (w:World) (h0:w.cell? ⟨b,0,none⟩ = some (.int .u32 d)) :
  Calls Tryz.prog 178 #[.pointer (some ⟨b,0,none⟩),fv] w fun e w'=>e = .returned (.tuple #[])/\w' = w:=by
 have hnot:=qo4
 have hd':(d != 0) = true:=by simp [hd]
 go_enter Tryz.func178,Tryz.ntmps178
 go_wp2_with (go_at_call 187; refine (qlT b d _ h0).mono ?_; rintro e w' ⟨rfl,rfl⟩)
 all_goals (try go_end0)
 all_goals (exact ⟨rfl,rfl⟩)
def qpY:List CK->List Value->Bool
 | [],[]=>true
 | k :: ks,v :: vs=>CK.fits k v && qpY ks vs
 | _,_=>false
theorem qiL:∀ {ks:List CK} {vs:List Value},qpY ks vs = true->qu ks vs
 | [],[],_=>⟨rfl,fun c k v hk=>by simp at hk⟩
 | k :: ks,v :: vs,h=>by
  simp only [qpY,Bool.and_eq_true] at h
  obtain ⟨h1,h2⟩:=qiL h.2
  refine ⟨by simp [h1],fun c k' v' hk hv=>?_⟩
  cases c with
  | zero=>simp at hk hv; subst hk; subst hv; exact h.1
  | succ c=>exact h2 c k' v' (by simpa using hk) (by simpa using hv)
 | [],_ :: _,h=>by simp [qpY] at h
 | _ :: _,[],h=>by simp [qpY] at h
theorem q2u:qu qgi (qb9.set 1 (.int .i32 1)):=qiL (by kernel_rfl)
theorem q1r:[(((qbV [qb9.set 1 (.int .i32 1)] 255).1.headD []).set 0 (.int .u32 1)).set 1 (.int .i32 0)] = qaR:=by kernel_rfl
theorem q7V:((qbV [qb9.set 1 (.int .i32 1)] 255).1.headD [])[1]? = some (.int .i32 1):=by kernel_rfl
theorem q8Y:((qbV [qb9.set 1 (.int .i32 1)] 255).1.headD [])[0]? = some (.int .u32 0):=by kernel_rfl
set_option maxRecDepth 100000 in
set_option maxHeartbeats 1600000 in
theorem q4m (b:Nat) (c:Array Value) (w:World) (hb:At w b c) (hc:c.toList = qb9) :
  Calls Tryz.prog 188 #[.pointer (some ⟨b,0,none⟩),.func (.func 179) #[.pointer (some ⟨b,0,none⟩)] #[]] w fun e w'=>e = .returned (.tuple #[])/\∃ c',At w' b c'/\[c'.toList] = qaR/\Else w w' b:=by
 have hnot:=qo4
 have hget:∀ k:Nat,c[k]? = qb9[k]?:=fun k=>by rw [<- hc]; simp
 have h1:w.cell? ⟨b,1,none⟩ = some (.int .i32 0):=hb.cell (by rw [hget]; rfl)
 have f1:w.frozen? ⟨b,1,none⟩ = false:=hb.frozen 1
 obtain ⟨a1,e1⟩:=hb.set 1 (.int .i32 1)
 have l1:(c.setIfInBounds 1 (.int .i32 1)).toList = qb9.set 1 (.int .i32 1):=by rw [qlc,hc]
 have h0:(w.setCell ⟨b,1,none⟩ (.int .i32 1)).cell? ⟨b,0,none⟩ = some (.int .u32 0):=a1.cell (by rw [<- Array.getElem?_toList,l1]; rfl)
 have hbuild:=qym a1 (by rw [l1]; exact q2u)
 rw [l1] at hbuild
 go_enter_defers Tryz.func188,Tryz.ntmps188
 go_wp2_with (first | (go_at_call 191; refine (q4o b 1 _ h1 f1).mono ?_; rintro e w' ⟨rfl,rfl⟩) | (go_at_call 187; refine (qlT b 0 _ h0).mono ?_; rintro e w' ⟨rfl,rfl⟩) | (go_at_call 179; refine hbuild.mono ?_; rintro e w' ⟨rfl,c2,a2,l2,e2⟩))
 have hrow:c2.toList = (qbV [qb9.set 1 (.int .i32 1)] 255).1.headD []:=by rw [<- l2]; rfl
 have k0:c2[0]? = some (.int .u32 0):=by rw [<- Array.getElem?_toList,hrow]; exact q8Y
 have k1:c2[1]? = some (.int .i32 1):=by rw [<- Array.getElem?_toList,hrow]; exact q7V
 obtain ⟨a3,e3⟩:=a2.drew
 obtain ⟨a4,e4⟩:=a3.set 0 (.int .u32 1)
 obtain ⟨a5,e5⟩:=a4.set 1 (.int .i32 0)
 refine leaves_cons (f := 193) (args:=#[.pointer (some ⟨b,0,none⟩),.bool true]) (by simp) (by simp [go_sem]) ?_
 refine (q0N ⟨b,0,none⟩ (.int .u32 0) .returning _ (a2.cell k0) (a2.frozen 0)).mono ?_
 rintro e u' w'' ⟨rfl,rfl,rfl⟩
 refine leaves_cons (f := 192) (args:=#[.pointer (some ⟨b,1,none⟩)]) (by simp [settle]) (by simp [go_sem]) ?_
 refine (qy0 b 1 _ _ (a4.cell (by simp [k1])) (a4.frozen 1)).mono ?_
 rintro e u' w'' ⟨rfl,rfl,rfl⟩
 have hfin:[((c2.setIfInBounds 0 (.int .u32 1)).setIfInBounds 1 (.int .i32 0)).toList] = qaR:=by
  rw [qlc,qlc,hrow]; exact q1r
 simp [Leaves,settle,results,Tryz.results188]
 exact ⟨_,a5,hfin,e1.trans (e2.trans (e3.trans (e4.trans e5)))⟩
set_option maxRecDepth 100000 in
theorem q1n (b:Nat) (c:Array Value) (w:World) (hb:At w b c) (hc:c.toList = qb9) :
  Calls Tryz.prog 178 #[.pointer (some ⟨b,0,none⟩),.func (.func 179) #[.pointer (some ⟨b,0,none⟩)] #[]] w fun e w'=>e = .returned (.tuple #[])/\∃ c',At w' b c'/\[c'.toList] = qaR/\Else w w' b:=by
 have hnot:=qo4
 have h0:w.cell? ⟨b,0,none⟩ = some (.int .u32 0):=hb.cell (by rw [<- Array.getElem?_toList,hc]; rfl)
 have hslow:=q4m b c w hb hc
 go_enter Tryz.func178,Tryz.ntmps178
 go_wp2_with (first | (go_at_call 187; refine (qlT b 0 _ h0).mono ?_; rintro e w' ⟨rfl,rfl⟩) | (go_at_call 188; refine hslow.mono ?_; rintro e w' ⟨rfl,c2,a2,l2,e2⟩))
 all_goals (try go_end0)
 exact ⟨rfl,c2,a2,l2,e2⟩
end Go.Proofs

set_option linter.unusedSimpArgs false
set_option linter.unusedVariables false
namespace Go.Proofs
open Go Go.Eng
theorem q9U:(qaR.headD [])[0]? = some (.int .u32 1):=by kernel_rfl
theorem qkL:qaR.length = 1:=by kernel_rfl
theorem qmT:qu qgi (qaR.headD []):=qiL (by kernel_rfl)
set_option maxRecDepth 100000 in
theorem qr2:qcn.ok Tryz.prog:=by
 refine ⟨fun args w=>Tryz.call178 args w,fun ρ w hF hO hg hd hsub hst hro hpre=>?_⟩
 obtain ⟨h1,h2,hdj,hu,hden,_⟩:=hst
 have hlen:(ρ 1).d.length = 1:=by
  rcases hpre with h | h
  ·rw [h]; rfl
  ·rw [h]; exact qkL
 rcases hden with ⟨hn,hnil,_⟩ | ⟨b,c,g1,g2,g3,g4,g5⟩
 ·have:(ρ 1).d = []:=hnil
  rw [this] at hlen; cases hlen
 obtain ⟨row,hrow⟩:∃ row,(ρ 1).d = [row]:=List.length_eq_one_iff.1 hlen
 obtain ⟨f1,f2⟩:=g5 0 row (by simp only [T.den]; rw [hrow]; rfl)
 have hs':c.size = 769:=by rw [g3,qd8]; simp [T.den,O0.den]
 have hlr:row.length = 769:=by rw [f1.1,qd8]
 have hcl:c.toList = row:=by
  apply List.ext_getElem?
  intro k
  by_cases hk:k < row.length
  ·have:=f2 k _ (List.getElem?_eq_getElem hk)
   rw [Array.getElem?_toList,List.getElem?_eq_getElem hk]
   simpa using this
  ·rw [List.getElem?_eq_none (by simp; omega),List.getElem?_eq_none (by omega)]
 have hOb:hO b = some (.cells c 151 (0,0)):=by rw [hu]; simp [Hp.union,g2]
 have hFb:hF b = none:=(hd b).resolve_right (by rw [hOb]; simp)
 have hb:At w b c:=hsub.1 b _ (by simp [Hp.union,hFb,hOb])
 have fin:∀ w',(∃ c',At w' b c'/\[c'.toList] = qaR/\Else w w' b)->∃ (ai:Nat) (al:Alt) (ρ':Env),qcn.alts[ai]? = some al/\ρ'.good/\(∀ n,n < qcn.nv->ρ' n = ρ n)/\(Ending.returned (.tuple #[]):Ending) = .returned (al.ret.den ρ')/\al.post (ρ'.upto (qcn.nv + al.k))/\qs ρ' hF al.heap w':=fun w' ⟨c',a',hl',he'⟩=>by
  have hgd:({ d:=qaR }:U).good:=by
   refine ⟨rfl,fun r hr v hv=>?_⟩
   have hr:r ∈ qaR:=hr
   rw [<- hl',List.mem_singleton] at hr
   subst hr
   have hh:qaR.headD [] = c'.toList:=by rw [<- hl']; rfl
   obtain ⟨k,hk⟩:=List.getElem?_of_mem hv
   have hfit:=qmT
   rw [hh] at hfit
   have hlt:k < qgi.length:=by rw [<- hfit.1]; exact (List.getElem?_eq_some_iff.1 hk).1
   exact qpN (hfit.2 k _ v (List.getElem?_eq_getElem hlt) hk)
  refine ⟨0,_,ρ.set 2 { d:=qaR },rfl,fun n=>?_,fun n hn=>Env.set_ne ρ _ (by have:qcn.nv = 2:=rfl; omega),rfl,?_,Hp.upd hO b (.cells c' 151 (0,0)),?_,?_,?_,he'.os.trans hsub.2.1,he'.out.trans hsub.2.2⟩
  ·by_cases hn:n = 2
   ·subst hn; rw [Env.set_same]; exact hgd
   ·rw [Env.set_ne ρ _ hn]; exact hg n
  ·show ((ρ.set 2 { d:=qaR }).upto 3 2).d = qaR
   simp [Env.upto,Env.set_same]
  ·intro y
   by_cases hy:y = b
   ·subst hy; exact .inl hFb
   ·rcases hd y with h | h
    ·exact .inl h
    ·exact .inr (by simp [Hp.upd,hy,h])
  ·refine ⟨Hp.upd hO b (.cells c' 151 (0,0)),Hp.emp,Hp.disj_emp _,by funext y; simp [Hp.union,Hp.emp],.inr ⟨b,c',?_,by simp [Hp.upd],?_,?_,?_⟩,trivial⟩
   ·rw [Env.set_ne ρ _ (by omega)]; exact g1
   ·have hfit:=qmT
    have hh:qaR.headD [] = c'.toList:=by rw [<- hl']; rfl
    rw [hh] at hfit
    have:=hfit.1
    rw [qd8] at this ⊢
    simp [T.den,O0.den] at this ⊢; omega
   ·simp only [T.den,Env.set_same,O0.den]; rw [qkL]; decide
   ·intro i r hi
    simp only [T.den,Env.set_same] at hi
    rw [<- hl'] at hi
    match i with
    | 0 =>
     simp only [List.getElem?_cons_zero,Option.some.injEq] at hi
     subst hi
     have hfit:=qmT
     have hh:qaR.headD [] = c'.toList:=by rw [<- hl']; rfl
     rw [hh] at hfit
     exact ⟨hfit,fun k v hv=>by simpa using hv⟩
    | i + 1=>simp at hi
  ·intro y o ho
   by_cases hy:y = b
   ·subst hy
    simp [Hp.union,hFb,Hp.upd] at ho
    rw [<- ho]; exact a'
   ·refine he'.blk y hy o (hsub.1 y o ?_)
    simpa [Hp.union,Hp.upd,hy] using ho
 have hargs:(qcn.args.map (SV.den ρ)).toArray = #[.pointer (some ⟨b,0,none⟩),.func (.func 179) #[.pointer (some ⟨b,0,none⟩)] #[]]:=by
  simp [qcn,qaD,SV.den,T.den,O0.den,O1.den,g1,qm,qc]
 rw [hargs]
 rcases hpre with h | h
 ·refine (q1n b c w hb ?_).mono fun e w' ⟨he,hh⟩=>?_
  ·rw [hcl]
   have:[row] = [qb9]:=hrow.symm.trans h
   exact (List.cons.inj this).1
  ·rw [he]; exact fin w' hh
 ·have hh:[row] = qaR:=hrow.symm.trans h
  have hr0:qaR.headD [] = row:=by rw [<- hh]; rfl
  have h0:=q9U
  rw [hr0] at h0
  refine (q3c b 1 (by decide) _ w (hb.cell (by rw [<- Array.getElem?_toList,hcl]; exact h0))).mono fun e w' ⟨he,hw⟩=>?_
  rw [he,hw]
  exact fin w ⟨c,hb,by rw [hcl]; exact hh,fun _ _ _ ho=>ho,rfl,rfl⟩
theorem qqr:qcA.ok Tryz.prog:=q9W (by simp [qr2]) fun ρ hg hp=>by
 obtain ⟨h1,a0,a1,b0,b1⟩:=hp
 simp [q2o,qcA,qcn]
 obtain ⟨l0,l1⟩:=qcF a0 a1
 obtain ⟨m0,m1⟩:=qcF b0 b1
 have hz:∀ h:(ρ 2).i = 0∨(ρ 3).i = 0,0 = qcW (ρ 2).i (ρ 3).i:=fun h=>by rw [qcW,if_pos h]
 have hne:¬ (ρ 1).d = []:=fun h=>by
  have hl:=qkL
  rcases h1 with h' | h' <;> rw [h'] at h
  ·cases h
  ·rw [h] at hl; cases hl
 refine ⟨fun h=>(hne h).elim,fun _=>⟨fun h=>⟨h1,hz (.inl h)⟩,fun n2=>⟨fun h=>⟨h1,hz (.inr h)⟩,fun n3=>⟨List.length_pos_iff.2 hne,h1,fun u _ hu=>?_⟩⟩⟩⟩
 rw [hu]
 have e1:qa qaR ((ρ 2).i.toNat + 513) = qby (ρ 2).i.toNat:=rfl
 have e2:qa qaR ((ρ 3).i.toNat + 513) = qby (ρ 3).i.toNat:=rfl
 rw [e1,e2]
 have w:qe .add .i64 (qby (ρ 2).i.toNat) (qby (ρ 3).i.toNat) = qby (ρ 2).i.toNat + qby (ρ 3).i.toNat:=by
  simp [qe,IntKind.wrap,IntKind.bits,IntKind.signed]; omega
 rw [w]
 refine ⟨by rw [qkL]; decide,a0,a1,b0,b1,by omega,by omega,.inr rfl,?_⟩
 rw [qcW,if_neg (by omega)]; rfl
end Go.Proofs

set_option linter.unusedSimpArgs false
set_option linter.unusedVariables false
namespace Go.Proofs
open Go Go.Eng
theorem qh2:qam.ok Tryz.prog:=q11 (by simp) fun ρ hg hp=>by
 simp [qnd,qam]
 refine ⟨fun h1=>⟨fun h2=>?_,fun h2=>?_⟩,fun h1=>?_⟩
 ·simp [qT,h1,h2,qH]
 ·simp [qT]; omega
 ·simp [qT]; omega
theorem qlp:qaC.ok Tryz.prog:=q0s (by simp) fun ρ hg hp=>by
 simp [qnf,qaC]
 unfold qdv
 refine ⟨fun h=>by omega,fun h1=>⟨fun h=>by omega,fun h2=>⟨fun h=>by omega,fun h3=>⟨fun h=>by omega,fun h4=>⟨by omega,by omega,fun _=>?_⟩⟩⟩⟩⟩
 rw [add64 (by omega) (by omega),qe9 (by omega) (by omega)]
 have hq:0 <= ((ρ 1).i + (ρ 0).i - 1).tdiv (ρ 0).i/\((ρ 1).i + (ρ 0).i - 1).tdiv (ρ 0).i <= 10000:=by
  rw [Int.tdiv_eq_ediv_of_nonneg (by omega)]
  refine ⟨Int.ediv_nonneg (by omega) (by omega),?_⟩
  have:=Int.ediv_le_self (a:=(ρ 1).i + (ρ 0).i - 1) (ρ 0).i (by omega)
  omega
 exact wrap64 (by omega) (by omega)
theorem qiX:qay.ok Tryz.prog:=q3J (by simp) fun ρ hg hp=>by
 obtain ⟨h1,h2,h3,h4⟩:=hp
 simp [qpe,qay]
 have hb:=qI h1 h2 h3 h4
 rw [qcP (by omega) (by omega)]
 omega
theorem qgt:qak.ok Tryz.prog:=q7w (by simp) fun ρ hg hp=>by
 obtain ⟨r0,r1,a0,a1,c0,c1,hl,hc,hd,hB⟩:=hp
 simp [qsA,qak]
 have hb:=qI (x:=(ρ 7).i) (y:=(ρ 1).i) r0 (show (ρ 7).i <= 255 by omega) c0 c1
 have hb2:=qI (x:=(ρ 7).i + 1) (y:=(ρ 1).i) (by omega) (show (ρ 7).i + 1 <= 255 by omega) c0 c1
 have he:((ρ 7).i + 1) * (ρ 1).i = (ρ 7).i * (ρ 1).i + (ρ 1).i:=by rw [Int.add_mul,Int.one_mul]
 have hle:((ρ 7).i + 1) * (ρ 1).i <= (ρ 0).i * (ρ 1).i:=Int.mul_le_mul_of_nonneg_right (by omega) c0
 rw [add64 (by omega) (by omega),qcP (by omega) (by omega),qcP (by omega) (by omega)]
 refine ⟨by omega,by omega,hb.1,by omega,by omega,?_,by omega⟩
 split
 ·have:(ρ 1).i = 0:=by omega
  rw [this,Int.mul_zero]
 ·rfl
theorem qlg:qa9.ok Tryz.prog:=q0R (by simp) fun ρ hg hp=>by
 have hp:0 <= (ρ 3).i:=hp
 simp [qmZ,qa9]
 refine ⟨fun h1=>⟨fun h2=>⟨fun h3=>⟨fun h4=>⟨by omega,?_⟩,fun _=>by omega⟩,fun _=>by omega⟩,fun _=>by omega⟩,fun _=>by omega⟩
 have hb:=qI (x:=(ρ 0).i) (y:=(ρ 1).i) (by omega) h2 (by omega) h4
 rw [qcP (by omega) (by omega)]
 omega
theorem qp7:qe1.ok Tryz.prog:=q1W (by simp) fun ρ hg hp=>by
 obtain ⟨h0,h1,h2⟩:=hp
 simp [qlS,qe1]
 unfold Go.Eng.big at h2
 exact ⟨by omega,by omega,by omega⟩
theorem qkl:qaX.ok Tryz.prog:=q5H (by simp [qqr]) fun ρ hg hp=>by
 obtain ⟨hf,⟨o0,o1,o2,o3⟩,⟨s0,s1,s2,s3⟩,hle,hB,hB2,c0,c1⟩:=hp
 unfold Go.Eng.big at o3 s3
 simp [qsd,qaX,qx0,qcA]
 refine ⟨fun hc=>⟨hf,hB,?_⟩,fun hc=>⟨s1,⟨s1,hf,hB,?_⟩,fun i _ fd _ dd _ i0 i1 hfd hl hBd hd=>⟨fun hi=>?_,fun hi=>?_⟩⟩⟩
 ·rw [hc,qj6 (allB_list hB)]
 ·rw [show seg (bI (ρ 12).d) (ρ 9).i.toNat 0 = [] by simp [seg],qk7]
 ·have hcell:=qch hB2 (i:=(ρ 9).i + i.i) (by omega) (by omega)
  refine ⟨i0,s0,by omega,by omega,by omega,o0,by omega,by omega,⟨hfd,c0,c1,hcell⟩,fun m _ fd2 _ hf2 hm=>?_⟩
  rw [add64 (by omega) (by omega)]
  have hy:=qfY (d:=(ρ 12).d) (i:=(ρ 9).i + i.i) (by omega) (by omega)
  rw [show ((ρ 9).i + i.i).toNat = (ρ 9).i.toNat + i.i.toNat by omega] at hy
  have hz:=qfY (d:=dd.d) (i:=(ρ 3).i + i.i) (by omega) (by omega)
  rw [show ((ρ 3).i + i.i).toNat = (ρ 3).i.toNat + i.i.toNat by omega,hd,qh7 (by right; rw [qe3 (by rw [bI_len]; omega)]; omega)] at hz
  refine ⟨⟨by omega,by omega,hf2,by rw [qcv,hl],qip hBd qgb.1 qgb.2,?_⟩,by omega⟩
  rw [qjR,hd,hm,show (i.i + 1).toNat = i.i.toNat + 1 by omega,qjl hz hy,show ((ρ 3).i + i.i).toNat = (ρ 3).i.toNat + i.i.toNat by omega]
  rfl
 ·have:i.i = (ρ 10).i:=by omega
  rw [this] at hd
  exact ⟨hfd,hl,hBd,hd⟩
theorem q4K:qeZ.ok Tryz.prog:=qux (by simp [qqr]) fun ρ hg hp=>by
 obtain ⟨hf,⟨o0,o1,o2,o3⟩,⟨s0,s1,s2,s3⟩,hle,hdis,hB,c0,c1⟩:=hp
 unfold Go.Eng.big at o3 s3
 simp [qjz,qeZ,qrZ,qcA]
 refine ⟨fun hc=>⟨hf,hB,?_⟩,fun hc=>⟨s1,⟨s1,hf,hB,?_⟩,fun i _ fd _ dd _ i0 i1 hfd hl hBd hd=>⟨fun hi=>?_,fun hi=>?_⟩⟩⟩
 ·rw [hc,qj6 (allB_list hB)]
 ·rw [show seg (bI (ρ 6).d) (ρ 8).i.toNat 0 = [] by simp [seg],qk7]
 ·have hcell:=qch hBd (i:=(ρ 8).i + i.i) (by omega) (by omega)
  have hsl:(seg (bI (ρ 6).d) (ρ 8).i.toNat i.i.toNat).length = i.i.toNat:=qe3 (by rw [bI_len]; omega)
  have hy:=qfY (d:=dd.d) (i:=(ρ 8).i + i.i) (by omega) (by omega)
  rw [show ((ρ 8).i + i.i).toNat = (ρ 8).i.toNat + i.i.toNat by omega,hd,qh7 (by rw [hsl]; omega)] at hy
  have hz:=qfY (d:=dd.d) (i:=(ρ 3).i + i.i) (by omega) (by omega)
  rw [show ((ρ 3).i + i.i).toNat = (ρ 3).i.toNat + i.i.toNat by omega,hd,qh7 (by rw [hsl]; omega)] at hz
  refine ⟨i0,s0,by omega,by omega,by omega,o0,by omega,by omega,⟨hfd,c0,c1,hcell⟩,fun m _ fd2 _ hf2 hm=>?_⟩
  rw [add64 (by omega) (by omega)]
  refine ⟨⟨by omega,by omega,hf2,by rw [qcv,hl],qip hBd qgb.1 qgb.2,?_⟩,by omega⟩
  rw [qjR,hd,hm,show (i.i + 1).toNat = i.i.toNat + 1 by omega,qjl hz hy,show ((ρ 3).i + i.i).toNat = (ρ 3).i.toNat + i.i.toNat by omega]
  rfl
 ·have:i.i = (ρ 9).i:=by omega
  rw [this] at hd
  exact ⟨hfd,hl,hBd,hd⟩
theorem q5X:qfd.ok Tryz.prog:=q6k (by simp [qqr]) fun ρ hg hp=>by
 obtain ⟨hf,⟨o0,o1,o2,o3⟩,hB,c0,c1⟩:=hp
 unfold Go.Eng.big at o3
 simp [qs1,qfd,qwc,qcA]
 refine ⟨o1,⟨o1,hf,hB,?_⟩,fun i _ fd _ dd _ i0 i1 hfd hl hBd hd=>⟨fun hi=>?_,fun hi=>?_⟩⟩
 ·rw [qyd]
 ·have hcell:=qch hBd (i:=(ρ 3).i + i.i) (by omega) (by omega)
  refine ⟨i0,o0,by omega,by omega,⟨hfd,hcell.1,hcell.2,c0,c1⟩,fun m _ fd2 _ hf2 hm=>?_⟩
  rw [add64 (by omega) (by omega)]
  have hz:=qfY (d:=dd.d) (i:=(ρ 3).i + i.i) (by omega) (by omega)
  rw [show ((ρ 3).i + i.i).toNat = (ρ 3).i.toNat + i.i.toNat by omega,hd,q0M (by omega)] at hz
  have hmr:=q0x hcell.1 hcell.2 c0 c1
  refine ⟨⟨by omega,by omega,hf2,by rw [qcv,hl],qip hBd (by rw [hm]; exact hmr.1) (by rw [hm]; exact hmr.2),?_⟩,by omega⟩
  rw [qjR,hd,hm,show (i.i + 1).toNat = i.i.toNat + 1 by omega,qyc hz,show ((ρ 3).i + i.i).toNat = (ρ 3).i.toNat + i.i.toNat by omega]
 ·have:i.i = (ρ 4).i:=by omega
  rw [this] at hd
  exact ⟨hfd,hl,hBd,hd⟩
theorem q5B:qfh.ok Tryz.prog:=q7t (by simp [qr2]) fun ρ hg hp=>by
 obtain ⟨hf,a0,a1⟩:=hp
 obtain ⟨hne,hpos⟩:=qbT hf
 simp [qrN,qfh,qcn]
 refine ⟨fun h=>(hne h).elim,fun _=>⟨fun h=>⟨hf,by rw [qgh,if_pos h],h⟩,fun h=>⟨hpos,hf,fun u _ hu=>?_⟩⟩⟩
 rw [hu]
 obtain ⟨l0,l1⟩:=qcF a0 a1
 have e1:qa qaR ((ρ 2).i.toNat + 513) = qby (ρ 2).i.toNat:=rfl
 rw [e1,qe9 (by omega) (by omega)]
 exact ⟨(qbT (.inr rfl)).2,a0,a1,by omega,by omega,.inr rfl,by rw [qgh,if_neg h]; rfl,h⟩
theorem q5Z:qfi.ok Tryz.prog:=q6d (by simp [qr2]) fun ρ hg hp=>by
 obtain ⟨hf,a0,a1,e1⟩:=hp
 obtain ⟨hne,hpos⟩:=qbT hf
 simp [qs2,qfi,qcn]
 refine ⟨fun h=>(hne h).elim,fun _=>⟨fun h=>⟨hf,by rw [qho,if_pos h]⟩,fun he=>⟨fun h=>⟨hf,by rw [qho,if_neg (by omega),if_pos h]⟩,fun h=>⟨hpos,hf,fun u _ hu=>?_⟩⟩⟩⟩
 rw [hu]
 obtain ⟨l0,l1⟩:=qcF a0 a1
 have e1:qa qaR ((ρ 2).i.toNat + 513) = qby (ρ 2).i.toNat:=rfl
 have hr:qe .rem .i64 (ρ 3).i 255 = (ρ 3).i.tmod 255:=rfl
 have hr0:0 <= (ρ 3).i.tmod 255:=Int.tmod_nonneg _ (by omega)
 have hr1:(ρ 3).i.tmod 255 < 255:=Int.tmod_lt_of_pos _ (by omega)
 have hb:=qI l0 (show qby (ρ 2).i.toNat <= 255 by omega) hr0 (show (ρ 3).i.tmod 255 <= 255 by omega)
 rw [e1,hr,qcP (by omega) (by omega)]
 have hr2:qe .rem .i64 (qby (ρ 2).i.toNat * (ρ 3).i.tmod 255) 255 = (qby (ρ 2).i.toNat * (ρ 3).i.tmod 255).tmod 255:=rfl
 have hr3:0 <= (qby (ρ 2).i.toNat * (ρ 3).i.tmod 255).tmod 255:=Int.tmod_nonneg _ hb.1
 have hr4:(qby (ρ 2).i.toNat * (ρ 3).i.tmod 255).tmod 255 < 255:=Int.tmod_lt_of_pos _ (by omega)
 rw [hr2]
 refine ⟨(qbT (.inr rfl)).2,a0,a1,hr3,by omega,.inr rfl,?_⟩
 rw [qho,if_neg (by omega),if_neg h]; rfl
end Go.Proofs

set_option linter.unusedSimpArgs false
set_option linter.unusedVariables false
set_option maxRecDepth 100000
namespace Go.Proofs
open Go Go.Eng

def qmW:Out:=(.fresh 1 (.br (.cmp .lss (.var 0) (.lit 1))
 (.ret 0 (sg 1 []))
 (.br (.cmp .gtr (.var 0) (.lit 255))
 (.ret 0 (sg 1 []))
 (.pre 0 (sg 0 [bv 1 0,bv 0 0]) (.both (.fresh 2 (.fresh 3 (.fresh 4 (.fresh 5 (.post 0 0 (sg 0 [bv 1 0,bv 0 0]) 2 (.fresh 6 (.inv 0 7 (sg 1000 [bv 1004 5,bv 1003 4,bv 1002 3,bg 1001 2,bt 1000 (.lit 0),bg 1005 6,bg 1006 1]) (.fresh 7 (.fresh 8 (.fresh 9 (.fresh 10 (.fresh 11 (.fresh 12 (.fresh 13 (.hyp 0 7 (.br (.cmp .lss (.var 7) (.var 0))
 (.need (.cmp .leq (.lit 0) (.arith .add .i64 (.arith .mul .i64 (.var 7) (.var 0)) (.var 7))) (.need (.cmp .lss (.arith .add .i64 (.arith .mul .i64 (.var 7) (.var 0)) (.var 7)) (.var 9)) (.need (.cmp .lss (.arith .add .i64 (.arith .mul .i64 (.var 7) (.var 0)) (.var 7)) (.dlen (.var 11))) (.back 0 7 (sg 1000 [bt 1004 (.dput (.var 11) (.arith .add .i64 (.arith .mul .i64 (.var 7) (.var 0)) (.var 7)) 0 (.rcons (.vint .u8 (.lit 1)) .rnil)),bv 1003 10,bv 1002 9,bg 1001 8,bt 1000 (.arith .add .i64 (.var 7) (.lit 1)),bg 1005 12,bg 1006 13])))))
 (.ret 1 (sg 1 [bv 4 11,bv 3 10,bv 2 9,bg 1 8])))))))))))))))))) .top)))))
theorem qwm:qj ⟨Tryz.prog,qd0,[qay],[qoV]⟩ 100000 Tryz.f166 = qmW:=by kernel_rfl
theorem q1l (hd:∀ c ∈ ([qay]:List Ctr),c.ok Tryz.prog) (h:∀ ρ:Env,ρ.good->(qd0).pre ρ->qmW.den ⟨Tryz.prog,qd0,[qay],[qoV]⟩ ρ):(qd0).ok Tryz.prog :=
 qf Tryz.func166 (fun a w=>Tryz.call166 a w) hd 100000 (fun ρ hg hp=>by rw [qwm]; exact h ρ hg hp)
def qk9:Out:=(.fresh 4 (.br (.and (.cmp .eql (.dlen (.var 1)) (.lit 0)) (.isnil 0))
 (.stuck 7 0 0)
 (.br (.cmp .lss (.var 2) (.lit 1))
 (.ret 0 (sg 4 [bv 4 1]))
 (.br (.cmp .gtr (.var 2) (.lit 255))
 (.ret 0 (sg 4 [bv 4 1]))
 (.br (.cmp .lss (.var 3) (.lit 1))
 (.ret 0 (sg 4 [bv 4 1]))
 (.br (.cmp .gtr (.var 3) (.lit 255))
 (.ret 0 (sg 4 [bv 4 1]))
 (.pre 0 (sg 0 [bv 1 3,bv 0 2]) (.both (.fresh 5 (.fresh 6 (.fresh 7 (.fresh 8 (.post 0 0 (sg 0 [bv 1 3,bv 0 2]) 5 (.fresh 9 (.inv 0 10 (sg 1000 [bv 1004 8,bv 1003 7,bv 1002 6,bg 1001 5,bv 1006 1,bt 1000 (.lit 0),bg 1005 9,bg 1007 4]) (.fresh 10 (.fresh 11 (.fresh 12 (.fresh 13 (.fresh 14 (.fresh 15 (.fresh 16 (.fresh 17 (.hyp 0 10 (.br (.cmp .lss (.var 10) (.var 2))
 (.inv 1 18 (sg 1000 [bv 1004 14,bv 1003 13,bv 1002 12,bg 1001 11,bv 1006 16,bt 1008 (.lit 0),bv 1000 10,bg 1005 15,bg 1007 17]) (.fresh 18 (.fresh 19 (.fresh 20 (.fresh 21 (.fresh 22 (.fresh 23 (.fresh 24 (.fresh 25 (.fresh 26 (.hyp 1 18 (.br (.cmp .lss (.var 26) (.var 3))
 (.both (.pre 1 (sg 0 [bv 1 24,bv 3 26,bt 2 (.conv .u8 (.var 18)),bg 0 0]) (.both (.fresh 27 (.fresh 28 (.post 1 0 (sg 0 [bv 1 24,bv 3 26,bt 2 (.conv .u8 (.var 18)),bg 0 0]) 27 (.need (.cmp .leq (.lit 0) (.arith .add .i64 (.arith .mul .i64 (.var 18) (.var 3)) (.var 26))) (.need (.cmp .lss (.arith .add .i64 (.arith .mul .i64 (.var 18) (.var 3)) (.var 26)) (.var 20)) (.need (.cmp .lss (.arith .add .i64 (.arith .mul .i64 (.var 18) (.var 3)) (.var 26)) (.dlen (.var 22))) (.both (.back 1 18 (sg 1000 [bt 1004 (.dput (.var 22) (.arith .add .i64 (.arith .mul .i64 (.var 18) (.var 3)) (.var 26)) 0 (.rcons (.vint .u8 (.var 27)) .rnil)),bv 1003 21,bv 1002 20,bg 1001 19,bv 1006 28,bt 1008 (.arith .add .i64 (.var 26) (.lit 1)),bv 1000 18,bg 1005 23,bg 1007 25])) .top))))))) .top)) .top)
 (.back 0 10 (sg 1000 [bv 1004 22,bv 1003 21,bv 1002 20,bg 1001 19,bv 1006 24,bt 1000 (.arith .add .i64 (.var 18) (.lit 1)),bg 1005 23,bg 1007 25]))))))))))))))
 (.ret 1 (sg 4 [bv 8 14,bv 7 16,bv 6 13,bv 5 12,bg 4 11]))))))))))))))))))) .top))))))))
theorem qtM:qj ⟨Tryz.prog,qcH,[qay,qfi],[qml,qmH]⟩ 100000 Tryz.f150 = qk9:=by kernel_rfl
theorem qyr (hd:∀ c ∈ ([qay,qfi]:List Ctr),c.ok Tryz.prog) (h:∀ ρ:Env,ρ.good->(qcH).pre ρ->qk9.den ⟨Tryz.prog,qcH,[qay,qfi],[qml,qmH]⟩ ρ):(qcH).ok Tryz.prog :=
 qf Tryz.func150 (fun a w=>Tryz.call150 a w) hd 100000 (fun ρ hg hp=>by rw [qtM]; exact h ρ hg hp)
@[simp] def qqn:Sg:=sg 0 [bv 13 15,bv 12 14,bv 7 42,bv 6 43,bv 1 45,bt 14 (.icell (.var 7) (.plus (.var 50) (.var 49)) 0),bv 11 58,bv 10 57,bv 9 56,bg 8 11,bv 5 55,bv 4 54,bv 3 53,bg 2 40,bg 0 0]
def qoP:Out:=(.fresh 16 (.fresh 17 (.fresh 18 (.br (.and (.cmp .eql (.dlen (.var 1)) (.lit 0)) (.isnil 0))
 (.stuck 7 0 0)
 (.pre 0 (sg 0 [bv 6 8,bv 5 7,bv 4 6,bv 3 5,bg 2 4,bv 1 3,bv 0 2]) (.both (.fresh 19 (.post 0 0 (sg 0 [bv 6 8,bv 5 7,bv 4 6,bv 3 5,bg 2 4,bv 1 3,bv 0 2]) 19 (.br (.not (.var 19))
 (.ret 0 (sg 16 [bv 16 1]))
 (.pre 0 (sg 0 [bv 6 15,bv 5 14,bv 4 13,bv 3 12,bg 2 11,bv 1 10,bv 0 9]) (.both (.fresh 20 (.post 0 0 (sg 0 [bv 6 15,bv 5 14,bv 4 13,bv 3 12,bg 2 11,bv 1 10,bv 0 9]) 20 (.br (.not (.var 20))
 (.ret 0 (sg 16 [bv 16 1]))
 (.br (.cmp .neq (.var 3) (.var 9))
 (.ret 1 (sg 16 [bv 16 1]))
 (.pre 1 (sg 0 [bv 1 10,bv 0 2]) (.both (.fresh 21 (.fresh 22 (.fresh 23 (.fresh 24 (.post 1 0 (sg 0 [bv 1 10,bv 0 2]) 21 (.fresh 25 (.inv 0 26 (sg 1000 [bv 1004 24,bv 1003 23,bv 1002 22,bg 1001 21,bv 1006 1,bt 1000 (.lit 0),bg 1005 25,bg 1008 17,bg 1007 16,bg 1009 18]) (.fresh 26 (.fresh 27 (.fresh 28 (.fresh 29 (.fresh 30 (.fresh 31 (.fresh 32 (.fresh 33 (.fresh 34 (.fresh 35 (.hyp 0 26 (.br (.cmp .lss (.var 26) (.var 2))
 (.pre 2 (sg 0 [bv 6 8,bv 5 7,bv 7 26,bv 4 6,bv 3 5,bg 2 4,bv 1 3,bv 0 2]) (.both (.fresh 36 (.fresh 37 (.fresh 38 (.post 2 0 (sg 0 [bv 6 8,bv 5 7,bv 7 26,bv 4 6,bv 3 5,bg 2 4,bv 1 3,bv 0 2]) 36 (.need (.cmp .leq (.lit 0) (.var 37)) (.inv 1 39 (sg 1000 [bv 1004 30,bv 1003 29,bv 1002 28,bg 1001 27,bv 1006 32,bt 1010 (.lit 0),bv 1013 38,bv 1012 37,bv 1011 36,bv 1000 26,bg 1005 31,bg 1008 34,bg 1007 33,bg 1009 35]) (.fresh 39 (.fresh 40 (.fresh 41 (.fresh 42 (.fresh 43 (.fresh 44 (.fresh 45 (.fresh 46 (.fresh 47 (.fresh 48 (.fresh 49 (.fresh 50 (.fresh 51 (.fresh 52 (.hyp 1 39 (.br (.cmp .lss (.var 49) (.var 51))
 (.need (.cmp .leq (.lit 0) (.var 49)) (.need (.cmp .leq (.lit 0) (.var 50)) (.need (.cmp .leq (.lit 0) (.plus (.var 50) (.var 49))) (.need (.cmp .lss (.plus (.var 50) (.var 49)) (.dlen (.var 7))) (.both (.pre 2 (sg 0 [bv 6 42,bv 5 43,bv 7 39,bv 4 42,bv 3 41,bg 2 40,bv 1 10,bv 0 2]) (.both (.fresh 53 (.fresh 54 (.fresh 55 (.post 2 0 (sg 0 [bv 6 42,bv 5 43,bv 7 39,bv 4 42,bv 3 41,bg 2 40,bv 1 10,bv 0 2]) 53 (.both (.pre 2 (sg 0 [bv 6 15,bv 5 14,bv 7 49,bv 4 13,bv 3 12,bg 2 11,bv 1 10,bv 0 9]) (.both (.fresh 56 (.fresh 57 (.fresh 58 (.post 2 0 (sg 0 [bv 6 15,bv 5 14,bv 7 49,bv 4 13,bv 3 12,bg 2 11,bv 1 10,bv 0 9]) 56 (.both (.pre 3 qqn (.both (.fresh 59 (.fresh 60 (.post 3 0 qqn 59 (.back 1 39 (sg 1000 [bv 1004 60,bv 1003 42,bv 1002 41,bg 1001 40,bv 1006 59,bt 1010 (.arith .add .i64 (.var 49) (.lit 1)),bv 1013 52,bv 1012 51,bv 1011 50,bv 1000 39,bg 1005 44,bg 1008 47,bg 1007 46,bg 1009 48]))))) .top)) .top))))) .top)) .top))))) .top)) .top)))))
 (.back 0 26 (sg 1000 [bv 1004 43,bv 1003 42,bv 1002 41,bg 1001 40,bv 1006 45,bt 1000 (.arith .add .i64 (.var 39) (.lit 1)),bg 1005 44,bg 1008 47,bg 1007 46,bg 1009 48])))))))))))))))))))))))) .top))
 (.ret 2 (sg 16 [bv 20 30,bv 19 32,bv 18 29,bv 17 28,bg 16 27]))))))))))))))))))))) .top)))))) .top))))) .top))))))
theorem qy3:qj ⟨Tryz.prog,qdH,[qa9,qay,qak,qaX],[qs0,qsh]⟩ 100000 Tryz.f151 = qoP:=by kernel_rfl
theorem q43 (hd:∀ c ∈ ([qa9,qay,qak,qaX]:List Ctr),c.ok Tryz.prog) (h:∀ ρ:Env,ρ.good->(qdH).pre ρ->qoP.den ⟨Tryz.prog,qdH,[qa9,qay,qak,qaX],[qs0,qsh]⟩ ρ):(qdH).ok Tryz.prog :=
 qf Tryz.func151 (fun a w=>Tryz.call151 a w) hd 100000 (fun ρ hg hp=>by rw [qy3]; exact h ρ hg hp)
end Go.Proofs

set_option linter.unusedSimpArgs false
set_option linter.unusedVariables false
namespace Go.Proofs
open Go Go.Eng

theorem qrb {f:Nat->Int} {len n:Nat}:(qc1 f len n).length = len:=by simp [qc1]
theorem qyu {f:Nat->Int} {len:Nat}:qc1 f len 0 = List.replicate len 0:=by
 apply List.ext_getElem?
 intro j
 by_cases hj:j < len
 ·simp [qc1,List.getElem?_replicate,hj]
 ·simp [qc1,List.getElem?_replicate,hj]
theorem qyb {f:Nat->Int} {len n:Nat} (h:n < len):qc1 f len (n + 1) = (qc1 f len n).set n (f n):=by
 apply List.ext_getElem?
 intro j
 rw [List.getElem?_set]
 by_cases hj:j < len
 ·by_cases hn:n = j
  ·subst hn; rw [if_pos rfl,if_pos (by rw [qrb]; exact h)]; simp [qc1,h]
  ·rw [if_neg hn]
   simp only [qc1,List.getElem?_map,List.getElem?_range hj,Option.map_some,Option.some.injEq]
   by_cases h1:j < n
   ·rw [if_pos (by omega),if_pos h1]
   ·rw [if_neg (by omega),if_neg h1]
 ·by_cases hn:n = j
  ·omega
  ·rw [if_neg hn]; simp [qc1,hj]
theorem qwW {n:Nat}:qa4 n 0 = List.replicate (n * n) 0:=by
 apply List.ext_getElem?
 intro j
 by_cases hj:j < n * n
 ·simp [qa4,List.getElem?_replicate,hj]
 ·simp [qa4,List.getElem?_replicate,hj]
theorem qsc {i n l:Nat} (h:l < n):(i * n + l) / n = i/\(i * n + l) % n = l:=by
 have hn:0 < n:=by omega
 refine ⟨?_,?_⟩
 ·rw [Nat.mul_comm,Nat.mul_add_div hn,Nat.div_eq_of_lt h,Nat.add_zero]
 ·rw [Nat.mul_comm,Nat.mul_add_mod,Nat.mod_eq_of_lt h]
theorem qAz {i r n l:Nat} (hi:i < r) (hl:l < n):i * n + l < r * n:=by
 have:=Nat.mul_le_mul_right n (show i + 1 <= r by omega)
 rw [Nat.add_mul] at this; omega
theorem qvo {n m:Nat} (h:m < n):qa4 n (m + 1) = (qa4 n m).set (m * n + m) 1:=by
 have hlt:=qAz h h
 obtain ⟨hd,hm⟩:=qsc (i:=m) h
 apply List.ext_getElem?
 intro j
 rw [List.getElem?_set]
 by_cases hj:j < n * n
 ·simp only [qa4,List.getElem?_map,List.getElem?_range hj,Option.map_some,List.length_map,List.length_range]
  by_cases hn:m * n + m = j
  ·subst hn
   rw [if_pos rfl,if_pos hlt,hd,hm,if_pos ⟨rfl,by omega⟩]
  ·rw [if_neg hn]
   congr 1
   by_cases h1:j / n = j % n/\j / n < m
   ·rw [if_pos h1,if_pos ⟨h1.1,by omega⟩]
   ·rw [if_neg h1,if_neg]
    rintro ⟨e1,e2⟩
    have:j / n = m:=by
     rcases Nat.lt_or_ge (j / n) m with h | h
     ·exact (h1 ⟨e1,h⟩).elim
     ·omega
    have hdm:=Nat.div_add_mod j n
    rw [<- e1,this,Nat.mul_comm] at hdm
    exact hn hdm
 ·rw [if_neg (by omega)]; simp [qa4,hj]
theorem q61 {l:List Int} {L o n:Nat} (h:o + n <= L):seg (l.take L) o n = seg l o n:=by
 apply List.ext_getElem?
 intro j
 rw [qf6,qf6]
 by_cases hj:j < n
 ·rw [if_pos hj,if_pos hj,List.getElem?_take,if_pos (by omega)]
 ·rw [if_neg hj,if_neg hj]
theorem q2g {a b:List Int} {ra ca cb i l:Nat} (h:l < ca):qc6 a b ra ca cb (i * ca + l + 1) = qD (qc6 a b ra ca cb (i * ca + l)) (i * cb) (seg b (l * cb) cb) (a.getD (i * ca + l) 0):=by
 obtain ⟨hd,hm⟩:=qsc (i:=i) h
 rw [qc6,hd,hm]
theorem qt4 {r c l cap:Int} {d:qd} {e:Int} {k:IntKind} {z:Int} (h:qea r c l cap d) (h0:0 <= z) (h1:z < 256):qea r c l cap (qbi d e 0 [.int k z]):=by
 obtain ⟨a1,a2,a3,a4,a5,a6,a7,a8⟩:=h
 exact ⟨a1,a2,a3,a4,a5,a6,by rw [qcv]; exact a7,qip a8 h0 h1⟩
theorem qzZ {a e:Int} (a0:0 <= a) (a1:a < 256):0 <= qho a e/\qho a e < 256:=by
 unfold qho
 split
 ·omega
 ·split
  ·omega
  ·obtain ⟨l0,l1⟩:=qcF a0 a1
   have hr0:0 <= e.tmod 255:=Int.tmod_nonneg _ (by omega)
   have hb:0 <= qby a.toNat * e.tmod 255:=Int.mul_nonneg l0 hr0
   have h3:0 <= (qby a.toNat * e.tmod 255).tmod 255:=Int.tmod_nonneg _ hb
   have h4:(qby a.toNat * e.tmod 255).tmod 255 < 255:=Int.tmod_lt_of_pos _ (by omega)
   have:=qlr (i:=((qby a.toNat * e.tmod 255).tmod 255).toNat) (by omega)
   omega
theorem q2d:qd0.ok Tryz.prog:=q1l (by simp [qiX]) fun ρ hg hp=>by
 simp [qmW,qd0,qoV,qay]
 refine ⟨fun h=>.inl h,fun h1=>⟨fun h=>.inr h,fun h2=>⟨⟨by omega,h2,by omega,h2⟩,fun l _ cp _ d _ hl hc hd=>⟨⟨h1,h2,by omega,?_⟩,fun i _ l' _ c' _ d' _ _ _ i0 i1 hM hL hB=>⟨fun hi=>?_,fun hi=>?_⟩⟩⟩⟩⟩
 ·have hb:=qI (x:=(ρ 0).i) (y:=(ρ 0).i) (by omega) h2 (by omega) h2
  refine ⟨⟨by omega,h2,by omega,h2,hl,by omega,by rw [hd,List.length_replicate]; omega,by rw [hd]; exact qds⟩,by rw [hd,List.length_replicate]; omega,?_⟩
  rw [hd,qiy,qwW,hl,Int.toNat_mul (by omega) (by omega)]
 ·have hM':=hM
  obtain ⟨a1,a2,a3,a4,a5,a6,a7,a8⟩:=hM
  have hb:=qI (x:=i.i) (y:=(ρ 0).i) i0 (show i.i <= 255 by omega) (by omega) h2
  have hlt:i.i * (ρ 0).i + i.i < (ρ 0).i * (ρ 0).i:=by
   have:=Int.mul_le_mul_of_nonneg_right (show i.i + 1 <= (ρ 0).i by omega) (show 0 <= (ρ 0).i by omega)
   rw [Int.add_mul,Int.one_mul] at this; omega
  rw [qcP (by omega) (by omega),add64 (by omega) (by omega),add64 (by omega) (by omega)]
  refine ⟨by omega,by omega,by omega,⟨h1,h2,by omega,by omega,qt4 hM' (by decide) (by decide),by rw [qcv]; exact hL,?_⟩,by omega⟩
  rw [qjR,hB,show (i.i + 1).toNat = i.i.toNat + 1 by omega,qvo (by omega)]
  congr 1
  rw [Int.toNat_add hb.1 i0,Int.toNat_mul i0 (by omega)]
 ·have:i.i = (ρ 0).i:=by omega
  rw [this] at hB
  exact ⟨h1,h2,hM,hL,hB⟩
theorem qyl:qcH.ok Tryz.prog:=qyr (by simp [qiX,q5Z]) fun ρ hg hp=>by
 have hf:qk (ρ 1).d:=hp
 simp [qk9,qcH,qml,qmH,qsC,qay,qfi]
 have hne:=(qbT hf).1
 refine ⟨fun h=>(hne h).elim,fun _=>⟨fun h=>⟨hf,.inl h⟩,fun r1=>⟨fun h=>⟨hf,.inr (.inl h)⟩,fun r2=>⟨fun h=>⟨hf,.inr (.inr (.inl h))⟩,fun c1=>⟨fun h=>⟨hf,.inr (.inr (.inr h))⟩,fun c2=>?_⟩⟩⟩⟩⟩
 have hnb:¬ qcQ (ρ 2).i (ρ 3).i:=by unfold qcQ; omega
 have hb:=qI (x:=(ρ 2).i) (y:=(ρ 3).i) (by omega) r2 (by omega) c2
 refine ⟨⟨by omega,r2,by omega,c2⟩,fun l _ cp _ d _ hl hc hd=>⟨⟨by omega,hnb,hf,?_⟩,fun i _ l' _ c' _ d' _ fd _ i0 i1 _ hfd hM hL hB=>⟨fun hi=>⟨⟨i0,hi,by omega,hnb,hfd,hM,hL,hB⟩,fun i' _ l2 _ cp2 _ d2 _ fd2 _ j _ i0' i1' j0 j1 _ hfd2 hM2 hL2 hB2 hii=>⟨fun hj=>?_,fun hj=>?_⟩⟩,fun hi=>?_⟩⟩⟩
 ·refine ⟨⟨by omega,r2,by omega,c2,hl,by omega,by rw [hd,List.length_replicate]; omega,by rw [hd]; exact qds⟩,by rw [hd,List.length_replicate]; omega,?_⟩
  rw [hd,qiy,qyu,hl,Int.toNat_mul (by omega) (by omega)]
 ·have hw:IntKind.u8.wrap i'.i = i'.i:=by simp [IntKind.wrap,IntKind.bits,IntKind.signed]; omega
  rw [hw]
  have hM2':=hM2
  obtain ⟨a1,a2,a3,a4,a5,a6,a7,a8⟩:=hM2
  have hb2:=qI (x:=i'.i) (y:=(ρ 3).i) i0' (show i'.i <= 255 by omega) (by omega) c2
  have hlt:i'.i * (ρ 3).i + j.i < (ρ 2).i * (ρ 3).i:=by
   have:=Int.mul_le_mul_of_nonneg_right (show i'.i + 1 <= (ρ 2).i by omega) (show 0 <= (ρ 3).i by omega)
   rw [Int.add_mul,Int.one_mul] at this; omega
  refine ⟨⟨hfd2,i0',by omega,by omega⟩,fun p _ fd3 _ hf3 hpw=>?_⟩
  rw [qcP (by omega) (by omega),add64 (by omega) (by omega),add64 (by omega) (by omega)]
  have hpr:=qzZ (e:=j.i) i0' (show i'.i < 256 by omega)
  refine ⟨by omega,by omega,by omega,⟨i0',i1',by omega,by omega,⟨hnb,hf3,qt4 hM2' (by rw [hpw]; exact hpr.1) (by rw [hpw]; exact hpr.2),by rw [qcv]; exact hL2,?_⟩,hii⟩,by omega⟩
  have ht:(i'.i * (ρ 3).i + j.i).toNat = i'.i.toNat * (ρ 3).i.toNat + j.i.toNat:=by rw [Int.toNat_add hb2.1 j0,Int.toNat_mul i0' (by omega)]
  rw [qjR,hB2,show (i'.i * (ρ 3).i + (j.i + 1)).toNat = (i'.i * (ρ 3).i + j.i).toNat + 1 by omega,qyb (by rw [<- Int.toNat_mul (by omega) (by omega)]; omega)]
  congr 1
  obtain ⟨e1,e2⟩:=qsc (i:=i'.i.toNat) (n:=(ρ 3).i.toNat) (l:=j.i.toNat) (by omega)
  rw [ht,qn4,e1,e2,hpw,Int.toNat_of_nonneg i0',Int.toNat_of_nonneg j0]
 ·have hj':j.i = (ρ 3).i:=by omega
  rw [add64 (by omega) (by omega)]
  rw [hj',show i'.i * (ρ 3).i + (ρ 3).i = (i'.i + 1) * (ρ 3).i by rw [Int.add_mul,Int.one_mul]] at hB2
  exact ⟨⟨by omega,by omega,hnb,hfd2,hM2,hL2,hB2⟩,by omega⟩
 ·have:i.i = (ρ 2).i:=by omega
  rw [this,Int.toNat_mul (by omega) (by omega)] at hB
  exact ⟨hfd,hnb,hM,hL,hB⟩
theorem q2Z:qdH.ok Tryz.prog:=q43 (by simp [qlg,qiX,qgt,qkl]) fun ρ hg hp=>by
 obtain ⟨hf,la0,la1,la2,hBa,lb0,lb1,lb2,hBb⟩:=hp
 have hne:=(qbT hf).1
 simp [qoP,qdH,qs0,qsh,qrh,qa9,qay,qak,qaX]
 refine ⟨fun h=>(hne h).elim,fun _=>⟨la0,fun v1 _ hv1=>⟨fun hb=>⟨hf,fun h=>?_⟩,fun hb=>⟨lb0,fun v2 _ hv2=>⟨fun hb2=>⟨hf,fun _ h=>?_⟩,fun hb2=>?_⟩⟩⟩⟩⟩
 ·have:=hv1.2 h
  rw [hb] at this; cases this
 ·have:=hv2.2 h
  rw [hb2] at this; cases this
 have vA:qaH (ρ 2).i (ρ 3).i (ρ 5).i:=hv1.1 hb
 have vB:qaH (ρ 9).i (ρ 10).i (ρ 12).i:=hv2.1 hb2
 refine ⟨fun h=>⟨hf,vA,vB,h⟩,fun hcr=>?_⟩
 obtain ⟨ra1,ra2,ca1,ca2,hla⟩:=vA
 obtain ⟨rb1,rb2,cb1,cb2,hlb⟩:=vB
 have mA:qea (ρ 2).i (ρ 3).i (ρ 5).i (ρ 6).i (ρ 7).d:=⟨by omega,ra2,by omega,ca2,hla,la1,la2,hBa⟩
 have mB:qea (ρ 9).i (ρ 10).i (ρ 12).i (ρ 13).i (ρ 14).d:=⟨by omega,rb2,by omega,cb2,hlb,lb1,lb2,hBb⟩
 have hbA:=qI (x:=(ρ 2).i) (y:=(ρ 3).i) (by omega) ra2 (by omega) ca2
 have hbP:=qI (x:=(ρ 2).i) (y:=(ρ 10).i) (by omega) ra2 (by omega) cb2
 refine ⟨⟨by omega,ra2,by omega,cb2⟩,fun l _ cp _ d _ hl hc hd=>⟨⟨by omega,hv1.1 hb,hv2.1 hb2,hcr,hf,?_⟩,fun i _ l' _ c' _ d' _ fd _ i0 i1 _ _ _ hfd hM hL hB=>⟨fun hi=>⟨⟨i0,hi,mA⟩,fun o1 _ n1 _ k1 _ ho1 hn1 hk1=>⟨by omega,⟨i0,hi,by omega,ho1,hn1,hv1.1 hb,hv2.1 hb2,hcr,hfd,hM,hL,hB⟩,?_⟩⟩,fun hi=>?_⟩⟩⟩
 ·refine ⟨⟨by omega,ra2,by omega,cb2,hl,by omega,by rw [hd,List.length_replicate]; omega,by rw [hd]; exact qds⟩,by rw [hd,List.length_replicate]; omega,?_⟩
  rw [hd,qiy,qc6,hl,Int.toNat_mul (by omega) (by omega)]
 ·intro i' _ l2 _ cp2 _ d2 _ fd2 _ j _ o2 _ n2 _ i0' i1' j0 j1 ho2 hn2 _ _ _ hfd2 hM2 hL2 hB2 hii
  refine ⟨fun hj=>?_,fun hj=>?_⟩
  ·have hjc:j.i < (ρ 3).i:=by omega
   have hbi:=qI (x:=i'.i) (y:=(ρ 3).i) i0' (show i'.i <= 255 by omega) (by omega) ca2
   have hbo:=qI (x:=i'.i) (y:=(ρ 10).i) i0' (show i'.i <= 255 by omega) (by omega) cb2
   have hbj:=qI (x:=j.i) (y:=(ρ 10).i) j0 (show j.i <= 255 by omega) (by omega) cb2
   have hltA:i'.i * (ρ 3).i + j.i < (ρ 2).i * (ρ 3).i:=by
    have:=Int.mul_le_mul_of_nonneg_right (show i'.i + 1 <= (ρ 2).i by omega) (show 0 <= (ρ 3).i by omega)
    rw [Int.add_mul,Int.one_mul] at this; omega
   have hltP:i'.i * (ρ 10).i + (ρ 10).i <= (ρ 2).i * (ρ 10).i:=by
    have:=Int.mul_le_mul_of_nonneg_right (show i'.i + 1 <= (ρ 2).i by omega) (show 0 <= (ρ 10).i by omega)
    rw [Int.add_mul,Int.one_mul] at this; omega
   have hltB:j.i * (ρ 10).i + (ρ 10).i <= (ρ 9).i * (ρ 10).i:=by
    have:=Int.mul_le_mul_of_nonneg_right (show j.i + 1 <= (ρ 9).i by omega) (show 0 <= (ρ 10).i by omega)
    rw [Int.add_mul,Int.one_mul] at this; omega
   have hM2':=hM2
   obtain ⟨a1,a2,a3,a4,a5,a6,a7,a8⟩:=hM2
   have hcell:=qch hBa (i:=i'.i * (ρ 3).i + j.i) (by omega) (by omega)
   rw [ho2]
   refine ⟨j0,by omega,by omega,by omega,⟨i0',i1',hM2'⟩,fun o3 _ n3 _ k3 _ ho3 hn3 hk3=>⟨⟨j0,by omega,mB⟩,fun o4 _ n4 _ k4 _ ho4 hn4 hk4=>⟨⟨hfd2,⟨by omega,by omega,by omega,by unfold Go.Eng.big; omega⟩,⟨by omega,by omega,by omega,by unfold Go.Eng.big; omega⟩,by omega,a8,hBb,hcell⟩,fun fd5 _ d5 _ hf5 hl5 hB5 he5=>?_⟩⟩⟩
   rw [add64 (by omega) (by omega)]
   refine ⟨⟨i0',i1',by omega,by omega,rfl,hn2,⟨hv1.1 hb,hv2.1 hb2,hcr,hf5,⟨a1,a2,a3,a4,a5,a6,by omega,hB5⟩,by omega,?_⟩,hii⟩,by omega⟩
   have ht:(i'.i * (ρ 3).i + j.i).toNat = i'.i.toNat * (ρ 3).i.toNat + j.i.toNat:=by rw [Int.toNat_add hbi.1 j0,Int.toNat_mul i0' (by omega)]
   have hget:=qfY (d:=(ρ 7).d) (i:=i'.i * (ρ 3).i + j.i) (by omega) (by omega)
   rw [he5,hB2,show (i'.i * (ρ 3).i + (j.i + 1)).toNat = (i'.i * (ρ 3).i + j.i).toNat + 1 by omega,ht,q2g (by omega)]
   have e1:o3.i.toNat = i'.i.toNat * (ρ 10).i.toNat:=by rw [ho3,Int.toNat_mul i0' (by omega)]
   have e2:o4.i.toNat = j.i.toNat * (ρ 10).i.toNat:=by rw [ho4,Int.toNat_mul j0 (by omega)]
   have e3:((bI (ρ 7).d).take (ρ 5).i.toNat).getD (i'.i.toNat * (ρ 3).i.toNat + j.i.toNat) 0 = qb (ρ 7).d (i'.i * (ρ 3).i + j.i) 0:=by
    rw [List.getD_eq_getElem?_getD,List.getElem?_take,if_pos (by rw [<- ht]; omega),<- ht,hget]; rfl
   rw [e3,e1,e2,hn4,q61 (by rw [<- e2]; omega)]
  ·have hj':j.i = (ρ 3).i:=by omega
   rw [add64 (by omega) (by omega)]
   rw [hj',show i'.i * (ρ 3).i + (ρ 3).i = (i'.i + 1) * (ρ 3).i by rw [Int.add_mul,Int.one_mul]] at hB2
   exact ⟨⟨by omega,by omega,hv1.1 hb,hv2.1 hb2,hcr,hfd2,hM2,hL2,hB2⟩,by omega⟩
 ·have:i.i = (ρ 2).i:=by omega
  rw [this,Int.toNat_mul (by omega) (by omega)] at hB
  exact ⟨hfd,hv1.1 hb,hv2.1 hb2,hcr,hM,hL,hB⟩
end Go.Proofs

set_option linter.unusedSimpArgs false
set_option linter.unusedVariables false
set_option maxRecDepth 100000
namespace Go.Proofs
open Go Go.Eng

@[simp] def qgV:Sg:=sg 0 [bv 6 8,bv 5 30,bv 7 25,bv 4 6,bv 3 5,bg 2 4,bv 1 3,bv 0 2]
@[simp] def qgL:Sg:=sg 0 [bv 6 15,bv 5 31,bv 7 25,bv 4 13,bv 3 12,bg 2 11,bv 1 10,bv 0 9]
@[simp] def qqk:Sg:=sg 0 [bv 1 27,bt 2 (.icell (.var 30) (.arith .add .i64 (.arith .mul .i64 (.var 25) (.var 3)) (.var 26)) 0),bg 0 0]
@[simp] def qp0:Sg:=sg 0 [bv 1 47,bt 2 (.icell (.var 40) (.arith .add .i64 (.arith .mul .i64 (.var 25) (.var 3)) (.var 26)) 0),bg 0 0]
@[simp] def qqL:Sg:=sg 0 [bv 7 8,bv 6 30,bv 1 27,bt 11 (.lit 1),bv 10 38,bv 9 37,bv 8 36,bv 5 35,bv 4 34,bv 3 33,bg 2 4,bg 0 0]
@[simp] def qq8:Sg:=sg 0 [bv 7 15,bv 6 31,bv 1 39,bt 11 (.lit 1),bv 10 46,bv 9 45,bv 8 44,bv 5 43,bv 4 42,bv 3 41,bg 2 11,bg 0 0]
@[simp] def qpo:Sg:=sg 0 [bv 7 8,bv 6 51,bv 1 48,bt 11 (.icell (.var 51) (.arith .add .i64 (.arith .mul .i64 (.var 53) (.var 3)) (.var 47)) 0),bv 10 59,bv 9 58,bv 8 57,bv 5 56,bv 4 55,bv 3 54,bg 2 4,bg 0 0]
@[simp] def qqv:Sg:=sg 0 [bv 7 8,bv 6 67,bv 1 64,bt 11 (.icell (.var 67) (.arith .add .i64 (.arith .mul .i64 (.var 69) (.var 3)) (.var 63)) 0),bv 10 75,bv 9 74,bv 8 73,bv 5 72,bv 4 71,bv 3 70,bg 2 4,bg 0 0]
@[simp] def qqw:Sg:=sg 0 [bv 7 15,bv 6 52,bv 1 60,bt 11 (.icell (.var 51) (.arith .add .i64 (.arith .mul .i64 (.var 53) (.var 3)) (.var 47)) 0),bv 10 67,bv 9 66,bv 8 65,bv 5 64,bv 4 63,bv 3 62,bg 2 11,bg 0 0]
@[simp] def qpA:Sg:=sg 0 [bv 7 15,bv 6 68,bv 1 76,bt 11 (.icell (.var 67) (.arith .add .i64 (.arith .mul .i64 (.var 69) (.var 3)) (.var 63)) 0),bv 10 83,bv 9 82,bv 8 81,bv 5 80,bv 4 79,bv 3 78,bg 2 11,bg 0 0]
@[simp] def qqT:Out:=.br (.cmp .eql (.var 32) (.var 2))
 (.back 0 18 (sg 1000 [bv 1006 31,bv 1005 30,bv 1002 27,bt 1001 (.arith .add .i64 (.var 26) (.lit 1)),bv 1000 25,bg 1004 29,bg 1003 28]))
 (.br (.cmp .neq (.var 32) (.var 25))
 (.both (.pre 0 qgV (.both (.fresh 33 (.fresh 34 (.fresh 35 (.post 0 0 qgV 33 (.both (.pre 0 (sg 0 [bv 6 8,bv 5 30,bv 7 32,bv 4 6,bv 3 5,bg 2 4,bv 1 3,bv 0 2]) (.both (.fresh 36 (.fresh 37 (.fresh 38 (.post 0 0 (sg 0 [bv 6 8,bv 5 30,bv 7 32,bv 4 6,bv 3 5,bg 2 4,bv 1 3,bv 0 2]) 36 (.both (.pre 2 qqL (.both (.fresh 39 (.fresh 40 (.post 2 0 qqL 39 (.both (.pre 0 qgL (.both (.fresh 41 (.fresh 42 (.fresh 43 (.post 0 0 qgL 41 (.both (.pre 0 (sg 0 [bv 6 15,bv 5 31,bv 7 32,bv 4 13,bv 3 12,bg 2 11,bv 1 10,bv 0 9]) (.both (.fresh 44 (.fresh 45 (.fresh 46 (.post 0 0 (sg 0 [bv 6 15,bv 5 31,bv 7 32,bv 4 13,bv 3 12,bg 2 11,bv 1 10,bv 0 9]) 44 (.both (.pre 2 qq8 (.both (.fresh 47 (.fresh 48 (.post 2 0 qq8 47 (.need (.cmp .leq (.lit 0) (.arith .add .i64 (.arith .mul .i64 (.var 25) (.var 3)) (.var 26))) (.need (.cmp .lss (.arith .add .i64 (.arith .mul .i64 (.var 25) (.var 3)) (.var 26)) (.var 5)) (.need (.cmp .lss (.arith .add .i64 (.arith .mul .i64 (.var 25) (.var 3)) (.var 26)) (.dlen (.var 40))) (.pre 3 qp0 (.both (.fresh 49 (.fresh 50 (.fresh 51 (.post 3 0 qp0 49 (.pre 0 (sg 0 [bv 6 8,bv 5 40,bv 7 25,bv 4 6,bv 3 5,bg 2 4,bv 1 3,bv 0 2]) (.both (.fresh 52 (.fresh 53 (.fresh 54 (.post 0 0 (sg 0 [bv 6 8,bv 5 40,bv 7 25,bv 4 6,bv 3 5,bg 2 4,bv 1 3,bv 0 2]) 52 (.pre 4 (sg 0 [bv 7 8,bv 6 40,bv 1 51,bv 8 49,bv 5 54,bv 4 53,bv 3 52,bg 2 4,bg 0 0]) (.both (.fresh 55 (.fresh 56 (.post 4 0 (sg 0 [bv 7 8,bv 6 40,bv 1 51,bv 8 49,bv 5 54,bv 4 53,bv 3 52,bg 2 4,bg 0 0]) 55 (.pre 0 (sg 0 [bv 6 15,bv 5 48,bv 7 25,bv 4 13,bv 3 12,bg 2 11,bv 1 10,bv 0 9]) (.both (.fresh 57 (.fresh 58 (.fresh 59 (.post 0 0 (sg 0 [bv 6 15,bv 5 48,bv 7 25,bv 4 13,bv 3 12,bg 2 11,bv 1 10,bv 0 9]) 57 (.pre 4 (sg 0 [bv 7 15,bv 6 48,bv 1 55,bv 8 49,bv 5 59,bv 4 58,bv 3 57,bg 2 11,bg 0 0]) (.both (.fresh 60 (.fresh 61 (.post 4 0 (sg 0 [bv 7 15,bv 6 48,bv 1 55,bv 8 49,bv 5 59,bv 4 58,bv 3 57,bg 2 11,bg 0 0]) 60 (.inv 2 62 (sg 1000 [bv 1006 61,bv 1005 56,bv 1002 60,bt 1007 (.lit 0),bv 1001 26,bv 1000 25,bg 1004 29,bg 1003 28]) (.fresh 62 (.fresh 63 (.fresh 64 (.fresh 65 (.fresh 66 (.fresh 67 (.fresh 68 (.fresh 69 (.hyp 2 62 (.br (.cmp .lss (.var 69) (.var 2))
 (.need (.cmp .leq (.lit 0) (.arith .add .i64 (.arith .mul .i64 (.var 69) (.var 3)) (.var 63))) (.need (.cmp .lss (.arith .add .i64 (.arith .mul .i64 (.var 69) (.var 3)) (.var 63)) (.var 5)) (.need (.cmp .lss (.arith .add .i64 (.arith .mul .i64 (.var 69) (.var 3)) (.var 63)) (.dlen (.var 67))) (.br (.cmp .neq (.var 69) (.var 62))
 (.both (.pre 0 (sg 0 [bv 6 8,bv 5 67,bv 7 69,bv 4 6,bv 3 5,bg 2 4,bv 1 3,bv 0 2]) (.both (.fresh 70 (.fresh 71 (.fresh 72 (.post 0 0 (sg 0 [bv 6 8,bv 5 67,bv 7 69,bv 4 6,bv 3 5,bg 2 4,bv 1 3,bv 0 2]) 70 (.both (.pre 0 (sg 0 [bv 6 8,bv 5 67,bv 7 62,bv 4 6,bv 3 5,bg 2 4,bv 1 3,bv 0 2]) (.both (.fresh 73 (.fresh 74 (.fresh 75 (.post 0 0 (sg 0 [bv 6 8,bv 5 67,bv 7 62,bv 4 6,bv 3 5,bg 2 4,bv 1 3,bv 0 2]) 73 (.both (.pre 2 qqv (.both (.fresh 76 (.fresh 77 (.post 2 0 qqv 76 (.both (.pre 0 (sg 0 [bv 6 15,bv 5 68,bv 7 69,bv 4 13,bv 3 12,bg 2 11,bv 1 10,bv 0 9]) (.both (.fresh 78 (.fresh 79 (.fresh 80 (.post 0 0 (sg 0 [bv 6 15,bv 5 68,bv 7 69,bv 4 13,bv 3 12,bg 2 11,bv 1 10,bv 0 9]) 78 (.both (.pre 0 (sg 0 [bv 6 15,bv 5 68,bv 7 62,bv 4 13,bv 3 12,bg 2 11,bv 1 10,bv 0 9]) (.both (.fresh 81 (.fresh 82 (.fresh 83 (.post 0 0 (sg 0 [bv 6 15,bv 5 68,bv 7 62,bv 4 13,bv 3 12,bg 2 11,bv 1 10,bv 0 9]) 81 (.both (.pre 2 qpA (.both (.fresh 84 (.fresh 85 (.post 2 0 qpA 84 (.back 2 62 (sg 1000 [bv 1006 85,bv 1005 77,bv 1002 84,bt 1007 (.arith .add .i64 (.var 69) (.lit 1)),bv 1001 63,bv 1000 62,bg 1004 66,bg 1003 65]))))) .top)) .top))))) .top)) .top))))) .top)) .top)))) .top)) .top))))) .top)) .top))))) .top)) .top)
 (.back 2 62 (sg 1000 [bv 1006 68,bv 1005 67,bv 1002 64,bt 1007 (.arith .add .i64 (.var 69) (.lit 1)),bv 1001 63,bv 1000 62,bg 1004 66,bg 1003 65]))))))
 (.back 0 18 (sg 1000 [bv 1006 68,bv 1005 67,bv 1002 64,bt 1001 (.arith .add .i64 (.var 63) (.lit 1)),bt 1000 (.arith .add .i64 (.var 62) (.lit 1)),bg 1004 66,bg 1003 65])))))))))))))))) .top)))))) .top))))) .top)))))) .top)))))) .top)))))))) .top)) .top))))) .top)) .top))))) .top)) .top)))) .top)) .top))))) .top)) .top))))) .top)) .top)
 (.need (.cmp .leq (.lit 0) (.arith .add .i64 (.arith .mul .i64 (.var 25) (.var 3)) (.var 26))) (.need (.cmp .lss (.arith .add .i64 (.arith .mul .i64 (.var 25) (.var 3)) (.var 26)) (.var 5)) (.need (.cmp .lss (.arith .add .i64 (.arith .mul .i64 (.var 25) (.var 3)) (.var 26)) (.dlen (.var 30))) (.pre 3 qqk (.both (.fresh 33 (.fresh 34 (.fresh 35 (.post 3 0 qqk 33 (.pre 0 qgV (.both (.fresh 36 (.fresh 37 (.fresh 38 (.post 0 0 qgV 36 (.pre 4 (sg 0 [bv 7 8,bv 6 30,bv 1 35,bv 8 33,bv 5 38,bv 4 37,bv 3 36,bg 2 4,bg 0 0]) (.both (.fresh 39 (.fresh 40 (.post 4 0 (sg 0 [bv 7 8,bv 6 30,bv 1 35,bv 8 33,bv 5 38,bv 4 37,bv 3 36,bg 2 4,bg 0 0]) 39 (.pre 0 qgL (.both (.fresh 41 (.fresh 42 (.fresh 43 (.post 0 0 qgL 41 (.pre 4 (sg 0 [bv 7 15,bv 6 31,bv 1 39,bv 8 33,bv 5 43,bv 4 42,bv 3 41,bg 2 11,bg 0 0]) (.both (.fresh 44 (.fresh 45 (.post 4 0 (sg 0 [bv 7 15,bv 6 31,bv 1 39,bv 8 33,bv 5 43,bv 4 42,bv 3 41,bg 2 11,bg 0 0]) 44 (.inv 2 46 (sg 1000 [bv 1006 45,bv 1005 40,bv 1002 44,bt 1007 (.lit 0),bv 1001 26,bv 1000 25,bg 1004 29,bg 1003 28]) (.fresh 46 (.fresh 47 (.fresh 48 (.fresh 49 (.fresh 50 (.fresh 51 (.fresh 52 (.fresh 53 (.hyp 2 46 (.br (.cmp .lss (.var 53) (.var 2))
 (.need (.cmp .leq (.lit 0) (.arith .add .i64 (.arith .mul .i64 (.var 53) (.var 3)) (.var 47))) (.need (.cmp .lss (.arith .add .i64 (.arith .mul .i64 (.var 53) (.var 3)) (.var 47)) (.var 5)) (.need (.cmp .lss (.arith .add .i64 (.arith .mul .i64 (.var 53) (.var 3)) (.var 47)) (.dlen (.var 51))) (.br (.cmp .neq (.var 53) (.var 46))
 (.both (.pre 0 (sg 0 [bv 6 8,bv 5 51,bv 7 53,bv 4 6,bv 3 5,bg 2 4,bv 1 3,bv 0 2]) (.both (.fresh 54 (.fresh 55 (.fresh 56 (.post 0 0 (sg 0 [bv 6 8,bv 5 51,bv 7 53,bv 4 6,bv 3 5,bg 2 4,bv 1 3,bv 0 2]) 54 (.both (.pre 0 (sg 0 [bv 6 8,bv 5 51,bv 7 46,bv 4 6,bv 3 5,bg 2 4,bv 1 3,bv 0 2]) (.both (.fresh 57 (.fresh 58 (.fresh 59 (.post 0 0 (sg 0 [bv 6 8,bv 5 51,bv 7 46,bv 4 6,bv 3 5,bg 2 4,bv 1 3,bv 0 2]) 57 (.both (.pre 2 qpo (.both (.fresh 60 (.fresh 61 (.post 2 0 qpo 60 (.both (.pre 0 (sg 0 [bv 6 15,bv 5 52,bv 7 53,bv 4 13,bv 3 12,bg 2 11,bv 1 10,bv 0 9]) (.both (.fresh 62 (.fresh 63 (.fresh 64 (.post 0 0 (sg 0 [bv 6 15,bv 5 52,bv 7 53,bv 4 13,bv 3 12,bg 2 11,bv 1 10,bv 0 9]) 62 (.both (.pre 0 (sg 0 [bv 6 15,bv 5 52,bv 7 46,bv 4 13,bv 3 12,bg 2 11,bv 1 10,bv 0 9]) (.both (.fresh 65 (.fresh 66 (.fresh 67 (.post 0 0 (sg 0 [bv 6 15,bv 5 52,bv 7 46,bv 4 13,bv 3 12,bg 2 11,bv 1 10,bv 0 9]) 65 (.both (.pre 2 qqw (.both (.fresh 68 (.fresh 69 (.post 2 0 qqw 68 (.back 2 46 (sg 1000 [bv 1006 69,bv 1005 61,bv 1002 68,bt 1007 (.arith .add .i64 (.var 53) (.lit 1)),bv 1001 47,bv 1000 46,bg 1004 50,bg 1003 49]))))) .top)) .top))))) .top)) .top))))) .top)) .top)))) .top)) .top))))) .top)) .top))))) .top)) .top)
 (.back 2 46 (sg 1000 [bv 1006 52,bv 1005 51,bv 1002 48,bt 1007 (.arith .add .i64 (.var 53) (.lit 1)),bv 1001 47,bv 1000 46,bg 1004 50,bg 1003 49]))))))
 (.back 0 18 (sg 1000 [bv 1006 52,bv 1005 51,bv 1002 48,bt 1001 (.arith .add .i64 (.var 47) (.lit 1)),bt 1000 (.arith .add .i64 (.var 46) (.lit 1)),bg 1004 50,bg 1003 49])))))))))))))))) .top)))))) .top))))) .top)))))) .top)))))) .top))))))
def qox:Out:=(.fresh 16 (.fresh 17 (.inv 0 18 (sg 1000 [bv 1006 14,bv 1005 7,bv 1002 1,bt 1001 (.lit 0),bt 1000 (.lit 0),bg 1004 17,bg 1003 16]) (.fresh 18 (.fresh 19 (.fresh 20 (.fresh 21 (.fresh 22 (.fresh 23 (.fresh 24 (.hyp 0 18 (.br (.cmp .lss (.var 19) (.var 3))
 (.br (.cmp .lss (.var 18) (.var 2))
 (.inv 1 25 (sg 1000 [bv 1006 24,bv 1005 23,bv 1002 20,bv 1007 18,bv 1001 19,bv 1000 18,bg 1004 22,bg 1003 21]) (.fresh 25 (.fresh 26 (.fresh 27 (.fresh 28 (.fresh 29 (.fresh 30 (.fresh 31 (.fresh 32 (.hyp 1 25 (.br (.cmp .lss (.var 32) (.var 2))
 (.need (.cmp .leq (.lit 0) (.arith .add .i64 (.arith .mul .i64 (.var 32) (.var 3)) (.var 26))) (.need (.cmp .lss (.arith .add .i64 (.arith .mul .i64 (.var 32) (.var 3)) (.var 26)) (.var 5)) (.need (.cmp .lss (.arith .add .i64 (.arith .mul .i64 (.var 32) (.var 3)) (.var 26)) (.dlen (.var 30))) (.br (.cmp .eql (.icell (.var 30) (.arith .add .i64 (.arith .mul .i64 (.var 32) (.var 3)) (.var 26)) 0) (.lit 0))
 (.back 1 25 (sg 1000 [bv 1006 31,bv 1005 30,bv 1002 27,bt 1007 (.arith .add .i64 (.var 32) (.lit 1)),bv 1001 26,bv 1000 25,bg 1004 29,bg 1003 28]))
 qqT))))
 qqT)))))))))))
 (.ret 0 (sg 16 [bv 19 24,bv 18 23,bv 17 20,bv 16 18])))
 (.ret 0 (sg 16 [bv 19 24,bv 18 23,bv 17 20,bv 16 18]))))))))))))))
theorem qyz:qj ⟨Tryz.prog,qdO,[qak,qaX,qeZ,qfh,qfd],[qrI,qsx,qsp]⟩ 100000 Tryz.f167 = qox:=by kernel_rfl
theorem q2G (hd:∀ c ∈ ([qak,qaX,qeZ,qfh,qfd]:List Ctr),c.ok Tryz.prog) (h:∀ ρ:Env,ρ.good->(qdO).pre ρ->qox.den ⟨Tryz.prog,qdO,[qak,qaX,qeZ,qfh,qfd],[qrI,qsx,qsp]⟩ ρ):(qdO).ok Tryz.prog :=
 qf Tryz.func167 (fun a w=>Tryz.call167 a w) hd 100000 (fun ρ hg hp=>by rw [qyz]; exact h ρ hg hp)
@[simp] def ql4:Sg:=sg 0 [bv 15 14,bv 14 15,bv 8 18,bv 7 19,bv 1 1,bv 13 14,bv 12 13,bg 11 12,bv 10 2,bv 9 2,bv 6 18,bv 5 5,bg 4 17,bv 3 3,bv 2 2,bg 0 0]
def qj0:Out:=(.fresh 9 (.fresh 10 (.br (.and (.cmp .eql (.dlen (.var 1)) (.lit 0)) (.isnil 0))
 (.ret 0 (sg 9 [bv 10 1,bt 9 (.lit 1)]))
 (.pre 0 (sg 0 [bv 6 8,bv 5 7,bv 4 6,bv 3 5,bg 2 4,bv 1 3,bv 0 2]) (.both (.fresh 11 (.post 0 0 (sg 0 [bv 6 8,bv 5 7,bv 4 6,bv 3 5,bg 2 4,bv 1 3,bv 0 2]) 11 (.br (.not (.var 11))
 (.ret 0 (sg 9 [bv 10 1,bt 9 (.lit 2)]))
 (.br (.cmp .neq (.var 2) (.var 3))
 (.ret 0 (sg 9 [bv 10 1,bt 9 (.lit 10)]))
 (.pre 1 (sg 0 [bv 0 2]) (.both (.fresh 12 (.fresh 13 (.fresh 14 (.fresh 15 (.post 1 0 (sg 0 [bv 0 2]) 12 (.fresh 16 (.both (.pre 2 (sg 0 [bv 6 8,bv 5 7,bv 4 6,bv 3 5,bg 2 4,bv 1 3,bv 0 2]) (.both (.fresh 17 (.fresh 18 (.fresh 19 (.post 2 0 (sg 0 [bv 6 8,bv 5 7,bv 4 6,bv 3 5,bg 2 4,bv 1 3,bv 0 2]) 17 (.both (.pre 3 ql4 (.both (.fresh 20 (.fresh 21 (.fresh 22 (.fresh 23 (.post 3 0 ql4 20 (.br (.cmp .lss (.var 20) (.var 2))
 (.ret 0 (sg 9 [bv 10 21,bt 9 (.lit 11)]))
 (.ret 1 (sg 9 [bv 13 23,bv 12 21,bv 11 14,bv 10 13,bg 9 12])))))))) .top)) .top))))) .top)) .top))))))) .top)))))) .top)))))
theorem qr4:qj ⟨Tryz.prog,qa2,[qa9,qjS,qjB,qdO],[]⟩ 100000 Tryz.f134 = qj0:=by kernel_rfl
theorem qvX (hd:∀ c ∈ ([qa9,qjS,qjB,qdO]:List Ctr),c.ok Tryz.prog) (h:∀ ρ:Env,ρ.good->(qa2).pre ρ->qj0.den ⟨Tryz.prog,qa2,[qa9,qjS,qjB,qdO],[]⟩ ρ):(qa2).ok Tryz.prog :=
 qf Tryz.func134 (fun a w=>Tryz.call134 a w) hd 100000 (fun ρ hg hp=>by rw [qr4]; exact h ρ hg hp)
@[simp] def qmd:Sg:=sg 0 [bv 8 8,bv 7 10,bv 1 9,bv 6 8,bt 5 (.arith .mul .i64 (.var 2) (.var 2)),bg 4 6,bv 3 2,bv 2 2,bg 0 0]
@[simp] def qi4:Sg:=sg 0 [bv 15 15,bv 14 17,bv 8 8,bv 7 10,bv 1 16,bv 13 15,bv 12 14,bg 11 13,bv 10 2,bv 9 2,bv 6 8,bv 5 7,bg 4 6,bv 3 2,bv 2 3,bg 0 0]
@[simp] def qiZ:Sg:=sg 0 [bt 15 (.lit 0),bt 14 .dnil,bv 8 8,bv 7 10,bv 1 14,bt 13 (.lit 0),bt 12 (.lit 0),(11,.nil),bt 10 (.lit 0),bt 9 (.lit 0),bv 6 8,bv 5 7,bg 4 6,bv 3 2,bv 2 3,bg 0 0]
def qsz:Out:=(.fresh 4 (.br (.and (.cmp .eql (.dlen (.var 1)) (.lit 0)) (.isnil 0))
 (.stuck 7 0 0)
 (.pre 0 (sg 0 [bv 1 3,bv 0 2]) (.both (.fresh 5 (.post 0 0 (sg 0 [bv 1 3,bv 0 2]) 5 (.br (.not (.var 5))
 (.ret 0 (sg 4 [bv 4 1]))
 (.pre 1 (sg 0 [bv 1 1,bv 3 2,bv 2 3,bg 0 0]) (.both (.fresh 6 (.fresh 7 (.fresh 8 (.fresh 9 (.fresh 10 (.post 1 0 (sg 0 [bv 1 1,bv 3 2,bv 2 3,bg 0 0]) 6 (.fresh 11 (.know (.cmp .leq (.dlen (.var 10)) (.var 8)) (.need (.cmp .leq (.lit 0) (.var 7)) (.need (.cmp .leq (.lit 0) (.var 8)) (.need (.cmp .leq (.lit 0) (.arith .mul .i64 (.var 2) (.var 2))) (.need (.cmp .leq (.arith .mul .i64 (.var 2) (.var 2)) (.var 8)) (.fresh 12 (.pre 2 qmd (.both (.fresh 13 (.fresh 14 (.post 2 0 qmd 13 (.fresh 15 (.pre 3 qiZ (.both (.fresh 16 (.post 3 0 qiZ 16 (.ret 0 (sg 4 [bv 4 16])))) (.both (.fresh 16 (.post 3 1 qiZ 16 (.stuck 7 0 0))) (.both (.fresh 16 (.fresh 17 (.fresh 18 (.fresh 19 (.fresh 20 (.post 3 2 qiZ 16 (.pack [.cells 15 200 [(.vint .i64 (.lit 0)),(.vint .i64 (.lit 0)),.vnils],.cells 12 200 [(.vint .i64 (.var 2)),(.vint .i64 (.var 2)),(.vslice 6 (.lit 0) (.arith .mul .i64 (.var 2) (.var 2)) (.var 8) 1)],.cells 11 200 [(.vint .i64 (.var 3)),(.vint .i64 (.var 2)),(.vslice 6 (.lit 0) (.var 7) (.var 8) 1)],.arr 6 5 [CK.int .u8] (.var 10) (.var 8),.cells 4 200 [(.vint .i64 (.var 3)),(.vint .i64 (.lit 0)),(.vslice 16 (.lit 0) (.var 17) (.var 18) 1)]] 21 (.need (.cmp .eql (.var 2) (.lit 0)) (.ret 1 (sg 4 [bg 9 21,bv 8 20,bv 7 19,bv 6 18,bv 5 17,bg 4 16])))))))))) .top)))))))) (.both (.fresh 13 (.fresh 14 (.fresh 15 (.fresh 16 (.fresh 17 (.post 2 1 qmd 13 (.fresh 18 (.pre 3 qi4 (.both (.fresh 19 (.post 3 0 qi4 19 (.ret 0 (sg 4 [bv 4 19])))) (.both (.fresh 19 (.post 3 1 qi4 19 (.stuck 7 0 0))) (.both (.fresh 19 (.fresh 20 (.fresh 21 (.fresh 22 (.fresh 23 (.post 3 2 qi4 19 (.pack [.cells 18 200 [(.vint .i64 (.var 2)),(.vint .i64 (.var 2)),(.vslice 13 (.lit 0) (.var 14) (.var 15) 1)],.arr 13 5 [CK.int .u8] (.var 17) (.var 15),.cells 12 200 [(.vint .i64 (.var 2)),(.vint .i64 (.var 2)),(.vslice 6 (.lit 0) (.arith .mul .i64 (.var 2) (.var 2)) (.var 8) 1)],.cells 11 200 [(.vint .i64 (.var 3)),(.vint .i64 (.var 2)),(.vslice 6 (.lit 0) (.var 7) (.var 8) 1)],.arr 6 5 [CK.int .u8] (.var 10) (.var 8),.cells 4 200 [(.vint .i64 (.var 3)),(.vint .i64 (.var 2)),(.vslice 19 (.lit 0) (.var 20) (.var 21) 1)]] 24 (.ret 1 (sg 4 [bg 9 24,bv 8 23,bv 7 22,bv 6 21,bv 5 20,bg 4 19]))))))))) .top))))))))))) .top)))))))))))))))) .top))))) .top))))
theorem q2q:qj ⟨Tryz.prog,qdA,[qam,qhQ,qa2,qdH],[]⟩ 100000 Tryz.f122 = qsz:=by kernel_rfl
theorem q5Y (hd:∀ c ∈ ([qam,qhQ,qa2,qdH]:List Ctr),c.ok Tryz.prog) (h:∀ ρ:Env,ρ.good->(qdA).pre ρ->qsz.den ⟨Tryz.prog,qdA,[qam,qhQ,qa2,qdH],[]⟩ ρ):(qdA).ok Tryz.prog :=
 qf Tryz.func122 (fun a w=>Tryz.call122 a w) hd 100000 (fun ρ hg hp=>by rw [q2q]; exact h ρ hg hp)
end Go.Proofs

set_option linter.unusedSimpArgs false
set_option linter.unusedVariables false
namespace Go.Proofs
open Go Go.Eng

theorem idx {r n i c:Int} (hr:r <= 255) (hn:n <= 255) (i0:0 <= i) (i1:i < r) (c0:0 <= c) (c1:c < n) :
  qe .add .i64 (qe .mul .i64 i n) c = i * n + c/\0 <= i * n + c/\i * n + c < r * n/\(i * n + c).toNat = i.toNat * n.toNat + c.toNat:=by
 have hb:=qI (x:=i) (y:=n) i0 (show i <= 255 by omega) (by omega) hn
 have hlt:i * n + n <= r * n:=by
  have:=Int.mul_le_mul_of_nonneg_right (show i + 1 <= r by omega) (show 0 <= n by omega)
  rw [Int.add_mul,Int.one_mul] at this; omega
 refine ⟨by rw [qcP (by omega) (by omega),add64 (by omega) (by omega)],by omega,by omega,?_⟩
 rw [Int.toNat_add hb.1 c0,Int.toNat_mul i0 (by omega)]
theorem qfW {r n i:Int} (i0:0 <= i) (i1:i < r) (n0:0 <= n):0 <= i * n/\i * n + n <= r * n/\(i * n).toNat = i.toNat * n.toNat:=by
 have hlt:i * n + n <= r * n:=by
  have:=Int.mul_le_mul_of_nonneg_right (show i + 1 <= r by omega) n0
  rw [Int.add_mul,Int.one_mul] at this; omega
 exact ⟨Int.mul_nonneg i0 n0,hlt,Int.toNat_mul i0 n0⟩
theorem qjQ {n i j:Int} (h:¬ i = j) (n0:0 <= n):j * n + n <= i * n∨i * n + n <= j * n:=by
 rcases Int.lt_or_gt_of_ne h with h | h
 ·right
  have:=Int.mul_le_mul_of_nonneg_right (show i + 1 <= j by omega) n0
  rw [Int.add_mul,Int.one_mul] at this; omega
 ·left
  have:=Int.mul_le_mul_of_nonneg_right (show j + 1 <= i by omega) n0
  rw [Int.add_mul,Int.one_mul] at this; omega
theorem qem {d:qd} {e:Int} (h0:0 <= e) (h1:e < d.length):(bI d).getD e.toNat 0 = qb d e 0:=by
 rw [List.getD_eq_getElem?_getD,qfY h0 h1]; rfl
theorem qK.seg {r c l cap:Int} {d:qd} (h:qK r c l cap d) {i o n:Int} (i0:0 <= i) (i1:i < r) (ho:o = i * c) (hn:n = c):qn6 d o n:=by
 obtain ⟨⟨a1,a2,a3,a4,a5,a6,a7,a8⟩,a9⟩:=h
 obtain ⟨b1,b2,_⟩:=qfW i0 i1 a3
 exact ⟨by omega,by omega,by omega,by unfold Go.Eng.big; omega⟩
theorem qK.next {r c l cap:Int} {d d':qd} (h:qK r c l cap d) (hl:d'.length = d.length) (hB:qn d'):qK r c l cap d':=by
 obtain ⟨⟨a1,a2,a3,a4,a5,a6,a7,a8⟩,a9⟩:=h
 exact ⟨⟨a1,a2,a3,a4,a5,a6,by omega,hB⟩,by omega⟩
theorem qpq {rows ca cb:Nat} {a b:List Int} {c:Nat} (h:rows <= (qcl rows ca cb a b c).2.2):∀ k,qcl rows ca cb a b (c + k) = qcl rows ca cb a b c
 | 0=>rfl
 | k + 1=>by
  rw [<- Nat.add_assoc,qcl,qpq h k,qcS,if_pos h]
theorem q2W {a:List Int} {ca c p n:Nat} (h:¬ a.getD (p * ca + c) 0 = 0):qdl a ca c p n = p:=by
 cases n with
 | zero=>rfl
 | succ n=>rw [qdl,if_neg h]
section
variable {r ca cb l1 c1 l2 c2 rank c p i:Int} {f da db a0 b0:qd}
theorem qcK.start (hf:qk f) (hA:qK r ca l1 c1 da) (hB:qK r cb l2 c2 db):qcK r ca cb l1 c1 l2 c2 0 0 f da db da db :=
 ⟨⟨hf,hA,hB,by omega,hA.1.1,by omega,hA.1.2.2.1⟩,rfl⟩
theorem qe6.start (h:qcK r ca cb l1 c1 l2 c2 rank c f da db a0 b0) (hr:rank < r) (hc:c < ca):qe6 r ca cb l1 c1 l2 c2 rank c rank f da db a0 b0 :=
 ⟨h,hr,hc,by omega,by omega,rfl⟩
theorem qe6.next (h:qe6 r ca cb l1 c1 l2 c2 rank c p f da db a0 b0) (hp:p < r) (hz:qb da (p * ca + c) 0 = 0):qe6 r ca cb l1 c1 l2 c2 rank c (p + 1) f da db a0 b0:=by
 obtain ⟨h1,h2,h3,h4,h5,h6⟩:=h
 refine ⟨h1,h2,h3,by omega,by omega,?_⟩
 obtain ⟨⟨_,hA,hB,w1,w2,w3,w4⟩,_⟩:=h1
 obtain ⟨⟨a1,a2,a3,a4,a5,a6,a7,a8⟩,a9⟩:=hA
 obtain ⟨_,e1,e2,e3⟩:=idx (i:=p) a2 a4 (by omega) hp w3 h3
 have hg:=qem (d:=da) e1 (by omega)
 rw [e3] at hg
 rw [<- h6,show r.toNat - p.toNat = (r.toNat - (p + 1).toNat) + 1 by omega,qdl,if_pos (by rw [hg]; exact hz),show (p + 1).toNat = p.toNat + 1 by omega]
theorem qcK.skip (h:qe6 r ca cb l1 c1 l2 c2 rank c p f da db a0 b0) (hp:p = r):qcK r ca cb l1 c1 l2 c2 rank (c + 1) f da db a0 b0:=by
 obtain ⟨⟨⟨hf,hA,hB,w1,w2,w3,w4⟩,he⟩,h2,h3,h4,h5,h6⟩:=h
 refine ⟨⟨hf,hA,hB,w1,w2,by omega,by omega⟩,?_⟩
 rw [show (c + 1).toNat = c.toNat + 1 by omega,qcl,<- he,qcS]
 simp only
 rw [if_neg (by omega),if_pos]
 rw [<- h6,hp,Nat.sub_self,qdl]
theorem qe6.piv (h:qe6 r ca cb l1 c1 l2 c2 rank c p f da db a0 b0) (hp:p < r) (hz:¬ qb da (p * ca + c) 0 = 0):qdl (bI da) ca.toNat c.toNat rank.toNat (r.toNat - rank.toNat) = p.toNat:=by
 obtain ⟨⟨⟨hf,hA,hB,w1,w2,w3,w4⟩,he⟩,h2,h3,h4,h5,h6⟩:=h
 obtain ⟨⟨a1,a2,a3,a4,a5,a6,a7,a8⟩,a9⟩:=hA
 obtain ⟨_,e1,e2,e3⟩:=idx (i:=p) a2 a4 (by omega) hp w3 h3
 have hg:=qem (d:=da) e1 (by omega)
 rw [e3] at hg
 rw [<- h6,q2W (by rw [hg]; exact hz)]
theorem qde.start {da1 db1 da2 db2 f2:qd} {o1 n1 o2 n2 x:Int} (h:qe6 r ca cb l1 c1 l2 c2 rank c p f da db a0 b0) (hp:p < r) (hz:¬ qb da (p * ca + c) 0 = 0)
  (hs:(bI da1,bI db1) = qbO ca.toNat cb.toNat rank.toNat p.toNat (bI da) (bI db)) (hl1:da1.length = da.length) (hl2:db1.length = db.length)
  (hx:x = qgh (qb da1 (rank * ca + c) 0)) (hA2:bI da2 = qbt (bI da1) o1.toNat n1.toNat x) (hB2:bI db2 = qbt (bI db1) o2.toNat n2.toNat x) (ho1:o1 = rank * ca) (hn1:n1 = ca) (ho2:o2 = rank * cb) (hn2:n2 = cb)
  (hl3:da2.length = da1.length) (hl4:db2.length = db1.length) (hb1:qn da2) (hb2:qn db2) (hf2:qk f2):qde r ca cb l1 c1 l2 c2 rank c 0 f2 da2 db2 a0 b0:=by
 have hpiv:=qe6.piv h hp hz
 obtain ⟨⟨⟨hf,hA,hB,w1,w2,w3,w4⟩,he⟩,h2,h3,h4,h5,h6⟩:=h
 refine ⟨⟨hf2,qK.next hA (by omega) hb1,qK.next hB (by omega) hb2,w1,w2,w3,w4⟩,h2,h3,by omega,by omega,_,he,rfl,by simp only; rw [hpiv]; omega,?_⟩
 obtain ⟨⟨a1,a2,a3,a4,a5,a6,a7,a8⟩,a9⟩:=hA
 obtain ⟨⟨d1,d2,d3,d4,d5,d6,d7,d8⟩,d9⟩:=hB
 obtain ⟨_,e1,e2,e3⟩:=idx (i:=rank) a2 a4 w1 h2 w3 h3
 have hg:=qem (d:=da1) e1 (by omega)
 rw [e3] at hg
 have hr1:=(qfW (n:=ca) w1 h2 a3).2.2
 have hr2:=(qfW (n:=cb) w1 h2 d3).2.2
 simp only [qgq,Int.toNat_zero,qaA]
 rw [hpiv,<- hs]
 simp only [qhc]
 rw [hg,<- hx,hA2,hB2,ho1,ho2,hn1,hn2,hr1,hr2]
theorem qde.same (h:qde r ca cb l1 c1 l2 c2 rank c i f da db a0 b0) (hi:i < r) (he:i = rank):qde r ca cb l1 c1 l2 c2 rank c (i + 1) f da db a0 b0:=by
 obtain ⟨hw,h2,h3,h4,h5,s,hs,hs2,hs3,hs4⟩:=h
 refine ⟨hw,h2,h3,by omega,by omega,s,hs,hs2,hs3,?_⟩
 rw [show (i + 1).toNat = i.toNat + 1 by omega,qaA]
 rw [if_pos (by omega)]; exact hs4
theorem qde.next {da2 db2 f2:qd} {o1 o2 p1 m1 p2 m2:Int} (h:qde r ca cb l1 c1 l2 c2 rank c i f da db a0 b0) (hi:i < r) (hne:¬ i = rank)
  (hA2:bI da2 = qD (bI da) o1.toNat (seg (bI da) p1.toNat m1.toNat) (qb da (i * ca + c) 0)) (hB2:bI db2 = qD (bI db) o2.toNat (seg (bI db) p2.toNat m2.toNat) (qb da (i * ca + c) 0))
  (ho1:o1 = i * ca) (hp1:p1 = rank * ca) (hm1:m1 = ca) (ho2:o2 = i * cb) (hp2:p2 = rank * cb) (hm2:m2 = cb)
  (hl3:da2.length = da.length) (hl4:db2.length = db.length) (hb1:qn da2) (hb2:qn db2) (hf2:qk f2):qde r ca cb l1 c1 l2 c2 rank c (i + 1) f2 da2 db2 a0 b0:=by
 obtain ⟨⟨hf,hA,hB,w1,w2,w3,w4⟩,h2,h3,h4,h5,s,hs,hs2,hs3,hs4⟩:=h
 refine ⟨⟨hf2,qK.next hA hl3 hb1,qK.next hB hl4 hb2,w1,w2,w3,w4⟩,h2,h3,by omega,by omega,s,hs,hs2,hs3,?_⟩
 obtain ⟨⟨a1,a2,a3,a4,a5,a6,a7,a8⟩,a9⟩:=hA
 obtain ⟨⟨d1,d2,d3,d4,d5,d6,d7,d8⟩,d9⟩:=hB
 obtain ⟨_,e1,e2,e3⟩:=idx (i:=i) a2 a4 h4 hi w3 h3
 have hg:=qem (d:=da) e1 (by omega)
 rw [e3] at hg
 rw [show (i + 1).toNat = i.toNat + 1 by omega,qaA]
 rw [if_neg (by omega),<- hs4]
 simp only
 rw [hg,hA2,hB2,ho1,ho2,hp1,hp2,hm1,hm2,(qfW (n:=ca) h4 hi a3).2.2,(qfW (n:=cb) h4 hi d3).2.2,(qfW (n:=ca) w1 h2 a3).2.2,(qfW (n:=cb) w1 h2 d3).2.2]
theorem qcK.after (h:qde r ca cb l1 c1 l2 c2 rank c i f da db a0 b0) (hi:i = r):qcK r ca cb l1 c1 l2 c2 (rank + 1) (c + 1) f da db a0 b0:=by
 obtain ⟨⟨hf,hA,hB,w1,w2,w3,w4⟩,h2,h3,h4,h5,s,hs,hs2,hs3,hs4⟩:=h
 refine ⟨⟨hf,hA,hB,by omega,by omega,by omega,by omega⟩,?_⟩
 rw [show (c + 1).toNat = c.toNat + 1 by omega,qcl,<- hs,qcS,hs2,if_neg (by omega),if_neg hs3]
 simp only
 rw [hi] at hs4
 rw [<- hs4]
 simp only
 rw [show (rank + 1).toNat = rank.toNat + 1 by omega]
theorem qcK.fin (h:qcK r ca cb l1 c1 l2 c2 rank c f da db a0 b0) (hd:r <= rank∨ca <= c):(bI da,bI db,rank.toNat) = qcl r.toNat ca.toNat cb.toNat (bI a0) (bI b0) ca.toNat:=by
 obtain ⟨⟨hf,hA,hB,w1,w2,w3,w4⟩,he⟩:=h
 rcases hd with hd | hd
 ·have:=qpq (rows:=r.toNat) (ca:=ca.toNat) (cb:=cb.toNat) (a:=bI a0) (b:=bI b0) (c:=c.toNat) (by rw [<- he]; simp only; omega) (ca.toNat - c.toNat)
  rw [show c.toNat + (ca.toNat - c.toNat) = ca.toNat by omega] at this
  rw [this,he]
 ·rw [he,show c.toNat = ca.toNat by omega]
end
theorem q6r {ca cb rank p:Nat} {a b:List Int} (h:¬ p = rank):qbO ca cb rank p a b = (qD a (rank * ca) (seg a (p * ca) ca) 1,qD b (rank * cb) (seg b (p * cb) cb) 1):=by rw [qbO,if_neg h]
set_option maxRecDepth 100000 in
set_option maxHeartbeats 4000000 in
theorem q3N:qdO.ok Tryz.prog:=q2G (by simp [qgt,qkl,q4K,q5B,q5X]) fun ρ hg hp=>by
 obtain ⟨hf,hA,hB,hr⟩:=hp
 simp (config:={ maxSteps:=4000000 }) [qox,qdO,qrI,qsx,qsp,qak,qaX,qeZ,qfh,qfd]
 have hA':=hA
 have hB':=hB
 obtain ⟨⟨a1,a2,a3,a4,a5,a6,a7,a8⟩,a9⟩:=hA'
 rw [hr] at hB
 have hB2:=hB
 obtain ⟨⟨d1,d2,d3,d4,d5,d6,d7,d8⟩,d9⟩:=hB2
 rw [hr]
 refine ⟨qcK.start hf hA hB,fun rk _ c _ f _ da _ db _ hO=>⟨fun hc=>⟨fun hrk=>⟨qe6.start hO hrk hc,?_⟩,fun hrk=>?_⟩,fun hc=>?_⟩⟩
 rotate_left
 ·have hfin:=qcK.fin hO (.inl hrk)
  obtain ⟨⟨h1,h2,h3,h4,h5,h6,h7⟩,he⟩:=hO
  exact ⟨h1,h2,h3,h4,h5,hfin⟩
 ·have hfin:=qcK.fin hO (.inr hc)
  obtain ⟨⟨h1,h2,h3,h4,h5,h6,h7⟩,he⟩:=hO
  exact ⟨h1,h2,h3,h4,h5,hfin⟩
 intro rk _ c' _ f _ da _ db _ p _ hP hcc
 have hP':=hP
 obtain ⟨⟨⟨hfd,hAd,hBd,w1,w2,w3,w4⟩,hE⟩,hrk,hcc',hp0,hp1,hpv⟩:=hP
 have hlA:=hAd.2
 refine ⟨fun hp=>?_,fun hp=>⟨fun he=>?_,fun hne=>by omega⟩⟩
 ·obtain ⟨x0,x1,x2,x3⟩:=idx (i:=p.i) a2 a4 (by omega) hp w3 hcc'
  rw [x0,add64 (x:=p.i) (by omega) (by omega)]
  refine ⟨x1,by omega,by omega,fun hz=>⟨⟨qe6.next hP' hp hz,hcc⟩,by omega⟩,fun hz=>⟨fun he=>by omega,fun _=>⟨fun hpr=>?_,fun hpr=>?_⟩⟩⟩
  ·refine ⟨⟨w1,hrk,hAd.1⟩,fun o1 _ n1 _ k1 _ ho1 hn1 hk1=>⟨⟨by omega,hp,hAd.1⟩,fun o2 _ n2 _ k2 _ ho2 hn2 hk2=>⟨⟨hfd,qK.seg hAd w1 hrk ho1 hn1,qK.seg hAd (by omega) hp ho2 hn2,by omega,by rw [ho1,hn1,ho2,hn2]; exact qjQ (fun h=>hpr h.symm) a3,hAd.1.2.2.2.2.2.2.2⟩,fun f1 _ da1 _ hf1 hl1 hb1 hA1=>⟨⟨w1,hrk,hBd.1⟩,fun o3 _ n3 _ k3 _ ho3 hn3 hk3=>⟨⟨by omega,hp,hBd.1⟩,fun o4 _ n4 _ k4 _ ho4 hn4 hk4=>⟨⟨hf1,qK.seg hBd w1 hrk ho3 hn3,qK.seg hBd (by omega) hp ho4 hn4,by omega,by rw [ho3,hn3,ho4,hn4]; exact qjQ (fun h=>hpr h.symm) d3,hBd.1.2.2.2.2.2.2.2⟩,fun f2 _ db1 _ hf2 hl2 hb2 hB1=>?_⟩⟩⟩⟩⟩⟩
   have hsw:(bI da1.d,bI db1.d) = qbO (ρ 3).i.toNat (ρ 10).i.toNat rk.i.toNat p.i.toNat (bI da.d) (bI db.d):=by
    rw [q6r (by omega),hA1,hB1,ho1,ho2,ho3,ho4,hn2,hn4,(qfW (n:=(ρ 3).i) w1 hrk a3).2.2,(qfW (n:=(ρ 3).i) (by omega) hp a3).2.2,(qfW (n:=(ρ 10).i) w1 hrk d3).2.2,(qfW (n:=(ρ 10).i) (by omega) hp d3).2.2]
   have fA1:qK (ρ 2).i (ρ 3).i (ρ 5).i (ρ 6).i da1.d:=qK.next hAd hl1 hb1
   have fB1:qK (ρ 2).i (ρ 10).i (ρ 12).i (ρ 13).i db1.d:=qK.next hBd hl2 hb2
   obtain ⟨y0,y1,y2,y3⟩:=idx (i:=rk.i) a2 a4 w1 hrk w3 hcc'
   rw [y0]
   have hcell:=qch fA1.1.2.2.2.2.2.2.2 (i:=rk.i * (ρ 3).i + c'.i) y1 (by have:=fA1.2; omega)
   have hlA:=fA1.2
   refine ⟨y1,by omega,by omega,⟨hf2,hcell⟩,fun x _ er _ f3 _ hf3 hx _=>⟨⟨w1,hrk,fA1.1⟩,fun o5 _ n5 _ k5 _ ho5 hn5 hk5=>⟨⟨hf3,qK.seg fA1 w1 hrk ho5 hn5,fA1.1.2.2.2.2.2.2.2,by rw [hx]; exact (qcO hcell.1 hcell.2).1,by rw [hx]; exact (qcO hcell.1 hcell.2).2⟩,fun f4 _ da2 _ hf4 hl4 hb4 hA4=>⟨⟨w1,hrk,fB1.1⟩,fun o6 _ n6 _ k6 _ ho6 hn6 hk6=>⟨⟨hf4,qK.seg fB1 w1 hrk ho6 hn6,fB1.1.2.2.2.2.2.2.2,by rw [hx]; exact (qcO hcell.1 hcell.2).1,by rw [hx]; exact (qcO hcell.1 hcell.2).2⟩,fun f5 _ db2 _ hf5 hl5 hb5 hB5=>⟨⟨qde.start hP' hp hz hsw hl1 hl2 hx hA4 hB5 ho5 hn5 ho6 hn6 hl4 hl5 hb4 hb5 hf5,hcc⟩,?_⟩⟩⟩⟩⟩⟩
   intro rk2 _ c2 _ f6 _ da3 _ db3 _ i _ hQ hc2
   refine ⟨fun hi=>?_,fun hi=>?_⟩
   ·have hQ':=hQ
    obtain ⟨⟨hfq,hAq,hBq,v1,v2,v3,v4⟩,q1,q2,q3,q4,_⟩:=hQ'
    have hlq:=hAq.2
    obtain ⟨z0,z1,z2,z3⟩:=idx (i:=i.i) a2 a4 q3 hi v3 q2
    rw [z0,add64 (by omega) (by omega)]
    have hcq:=qch hAq.1.2.2.2.2.2.2.2 (i:=i.i * (ρ 3).i + c2.i) z1 (by omega)
    refine ⟨z1,by omega,by omega,fun hne=>⟨⟨q3,hi,hAq.1⟩,fun r1 _ r2 _ r3 _ hr1 hr2 hr3=>⟨⟨v1,q1,hAq.1⟩,fun t1 _ t2 _ t3 _ ht1 ht2 ht3=>⟨⟨hfq,qK.seg hAq q3 hi hr1 hr2,qK.seg hAq v1 q1 ht1 ht2,by omega,by rw [hr1,hr2,ht1,ht2]; exact qjQ hne a3,hAq.1.2.2.2.2.2.2.2,hcq⟩,fun f7 _ da4 _ hf7 hl7 hb7 hA7=>⟨⟨q3,hi,hBq.1⟩,fun r4 _ r5 _ r6 _ hr4 hr5 hr6=>⟨⟨v1,q1,hBq.1⟩,fun t4 _ t5 _ t6 _ ht4 ht5 ht6=>⟨⟨hf7,qK.seg hBq q3 hi hr4 hr5,qK.seg hBq v1 q1 ht4 ht5,by omega,by rw [hr4,hr5,ht4,ht5]; exact qjQ hne d3,hBq.1.2.2.2.2.2.2.2,hcq⟩,fun f8 _ db4 _ hf8 hl8 hb8 hB8=>⟨⟨qde.next hQ hi hne hA7 hB8 hr1 ht1 ht2 hr4 ht4 ht5 hl7 hl8 hb7 hb8 hf8,hc2⟩,by omega⟩⟩⟩⟩⟩⟩⟩,fun hieq=>⟨⟨qde.same hQ hi hieq,hc2⟩,by omega⟩⟩
   ·have hQ':=hQ
    obtain ⟨⟨hfq,hAq,hBq,v1,v2,v3,v4⟩,q1,q2,q3,q4,_⟩:=hQ'
    rw [add64 (by omega) (by omega),add64 (by omega) (by omega)]
    exact ⟨qcK.after hQ (by omega),by omega⟩
  ·have hsw:(bI da.d,bI db.d) = qbO (ρ 3).i.toNat (ρ 10).i.toNat rk.i.toNat p.i.toNat (bI da.d) (bI db.d):=by
    rw [qbO,if_pos (by omega)]
   have fA1:qK (ρ 2).i (ρ 3).i (ρ 5).i (ρ 6).i da.d:=hAd
   have fB1:qK (ρ 2).i (ρ 10).i (ρ 12).i (ρ 13).i db.d:=hBd
   obtain ⟨y0,y1,y2,y3⟩:=idx (i:=rk.i) a2 a4 w1 hrk w3 hcc'
   rw [y0]
   have hcell:=qch fA1.1.2.2.2.2.2.2.2 (i:=rk.i * (ρ 3).i + c'.i) y1 (by have:=fA1.2; omega)
   have hlA:=fA1.2
   refine ⟨y1,by omega,by omega,⟨hfd,hcell⟩,fun x _ er _ f3 _ hf3 hx _=>⟨⟨w1,hrk,fA1.1⟩,fun o5 _ n5 _ k5 _ ho5 hn5 hk5=>⟨⟨hf3,qK.seg fA1 w1 hrk ho5 hn5,fA1.1.2.2.2.2.2.2.2,by rw [hx]; exact (qcO hcell.1 hcell.2).1,by rw [hx]; exact (qcO hcell.1 hcell.2).2⟩,fun f4 _ da2 _ hf4 hl4 hb4 hA4=>⟨⟨w1,hrk,fB1.1⟩,fun o6 _ n6 _ k6 _ ho6 hn6 hk6=>⟨⟨hf4,qK.seg fB1 w1 hrk ho6 hn6,fB1.1.2.2.2.2.2.2.2,by rw [hx]; exact (qcO hcell.1 hcell.2).1,by rw [hx]; exact (qcO hcell.1 hcell.2).2⟩,fun f5 _ db2 _ hf5 hl5 hb5 hB5=>⟨⟨qde.start hP' hp hz hsw rfl rfl hx hA4 hB5 ho5 hn5 ho6 hn6 hl4 hl5 hb4 hb5 hf5,hcc⟩,?_⟩⟩⟩⟩⟩⟩
   intro rk2 _ c2 _ f6 _ da3 _ db3 _ i _ hQ hc2
   refine ⟨fun hi=>?_,fun hi=>?_⟩
   ·have hQ':=hQ
    obtain ⟨⟨hfq,hAq,hBq,v1,v2,v3,v4⟩,q1,q2,q3,q4,_⟩:=hQ'
    have hlq:=hAq.2
    obtain ⟨z0,z1,z2,z3⟩:=idx (i:=i.i) a2 a4 q3 hi v3 q2
    rw [z0,add64 (by omega) (by omega)]
    have hcq:=qch hAq.1.2.2.2.2.2.2.2 (i:=i.i * (ρ 3).i + c2.i) z1 (by omega)
    refine ⟨z1,by omega,by omega,fun hne=>⟨⟨q3,hi,hAq.1⟩,fun r1 _ r2 _ r3 _ hr1 hr2 hr3=>⟨⟨v1,q1,hAq.1⟩,fun t1 _ t2 _ t3 _ ht1 ht2 ht3=>⟨⟨hfq,qK.seg hAq q3 hi hr1 hr2,qK.seg hAq v1 q1 ht1 ht2,by omega,by rw [hr1,hr2,ht1,ht2]; exact qjQ hne a3,hAq.1.2.2.2.2.2.2.2,hcq⟩,fun f7 _ da4 _ hf7 hl7 hb7 hA7=>⟨⟨q3,hi,hBq.1⟩,fun r4 _ r5 _ r6 _ hr4 hr5 hr6=>⟨⟨v1,q1,hBq.1⟩,fun t4 _ t5 _ t6 _ ht4 ht5 ht6=>⟨⟨hf7,qK.seg hBq q3 hi hr4 hr5,qK.seg hBq v1 q1 ht4 ht5,by omega,by rw [hr4,hr5,ht4,ht5]; exact qjQ hne d3,hBq.1.2.2.2.2.2.2.2,hcq⟩,fun f8 _ db4 _ hf8 hl8 hb8 hB8=>⟨⟨qde.next hQ hi hne hA7 hB8 hr1 ht1 ht2 hr4 ht4 ht5 hl7 hl8 hb7 hb8 hf8,hc2⟩,by omega⟩⟩⟩⟩⟩⟩⟩,fun hieq=>⟨⟨qde.same hQ hi hieq,hc2⟩,by omega⟩⟩
   ·have hQ':=hQ
    obtain ⟨⟨hfq,hAq,hBq,v1,v2,v3,v4⟩,q1,q2,q3,q4,_⟩:=hQ'
    rw [add64 (by omega) (by omega),add64 (by omega) (by omega)]
    exact ⟨qcK.after hQ (by omega),by omega⟩
 ·rw [add64 (by omega) (by omega)]
  exact ⟨qcK.skip hP' he,by omega⟩
end Go.Proofs

set_option linter.unusedSimpArgs false
set_option linter.unusedVariables false
namespace Go.Proofs
open Go Go.Eng
theorem q23:qjS.ok Tryz.prog:=Ctr.ok_less q2d rfl rfl rfl rfl rfl (fun _ _=>trivial) fun ρ ρ' ai al hp hag hal hpost=>by
 match ai,hal with
 | 0,hal =>
  exfalso
  obtain rfl:=Option.some.inj hal
  have h2:((ρ'.upto 1) 0).i < 1∨255 < ((ρ'.upto 1) 0).i:=hpost
  have e:(ρ'.upto 1) 0 = ρ 0:=by rw [Env.upto,if_pos (by omega)]; exact hag 0 (by decide)
  rw [e] at h2
  have h3:1 <= (ρ 0).i/\(ρ 0).i <= 255:=hp
  omega
 | 1,hal=>exact ⟨0,hal⟩
 | n + 2,hal=>cases hal
theorem q09:qhQ.ok Tryz.prog:=Ctr.ok_less qyl rfl rfl rfl rfl rfl (fun _ h=>h.1) fun ρ ρ' ai al hp hag hal hpost=>by
 match ai,hal with
 | 0,hal =>
  exfalso
  obtain rfl:=Option.some.inj hal
  have h2:qcQ ((ρ'.upto 5) 2).i ((ρ'.upto 5) 3).i:=hpost.2
  have e2:(ρ'.upto 5) 2 = ρ 2:=by rw [Env.upto,if_pos (by omega)]; exact hag 2 (by decide)
  have e3:(ρ'.upto 5) 3 = ρ 3:=by rw [Env.upto,if_pos (by omega)]; exact hag 3 (by decide)
  rw [e2,e3] at h2
  exact hp.2 h2
 | 1,hal=>exact ⟨0,hal⟩
 | n + 2,hal=>cases hal
theorem q4p:qjB.ok Tryz.prog:=by
 refine ⟨qp7.1,fun ρ w hF hO hg hd hsub hst hro hpre=>(qp7.2 ρ w hF hO hg hd hsub hst hro hpre).mono fun e w' hq=>?_⟩
 obtain ⟨ai,al,ρ',hal,hg',hag,he,hpost,hheap⟩:=hq
 match ai,hal with
 | 0,hal =>
  obtain rfl:=Option.some.inj hal
  refine ⟨0,_,ρ',rfl,hg',hag,he,⟨hpost,?_⟩,hheap⟩
  obtain ⟨hO',hd',⟨h1,h2,hdj,hu,hden,_⟩,hsub',hwi'⟩:=hheap
  show (((ρ'.upto 10) 9).d.length:Int) <= ((ρ'.upto 10) 8).i
  rw [show (ρ'.upto 10) 9 = ρ' 9 from rfl,show (ρ'.upto 10) 8 = ρ' 8 from rfl]
  rcases hden with ⟨_,hn,hc⟩ | ⟨b,c,g1,g2,g3,g4,g5⟩
  ·have hn:(ρ' 9).d = []:=hn
   have hc:(ρ' 8).i = 0:=hc
   rw [hn,hc]; simp
  ·exact g4
 | n + 1,hal=>cases hal
theorem qtt {d:qd} {n:Nat} (h:qn d):qn (d.take n):=fun r hr=>h r (List.mem_of_mem_take hr)
theorem qn8 {d:qd} {n:Nat}:bI (d.take n) = (bI d).take n:=by simp [bI,List.map_take]
theorem qmn:qa2.ok Tryz.prog:=qvX (by simp [qlg,q23,q4p,q3N]) fun ρ hg hp=>by
 obtain ⟨hf,l0,l1,l2,hB⟩:=hp
 have hne:=(qbT hf).1
 simp [qj0,qa2,qa9,qjS,qd0,qjB,qe1,qdO]
 refine ⟨fun h=>(hne h).elim,fun _=>⟨l0,fun v _ hv=>⟨fun hb=>⟨hf,fun h=>?_⟩,fun hb=>⟨fun h=>⟨hf,hv.1 hb,h⟩,fun hrc=>?_⟩⟩⟩⟩
 ·have:=hv.2 h
  rw [hb] at this; cases this
 obtain ⟨r1,r2,c1,c2,hl⟩:=hv.1 hb
 have vA:qaH (ρ 2).i (ρ 3).i (ρ 5).i:=hv.1 hb
 have hbd:=qI (x:=(ρ 2).i) (y:=(ρ 3).i) (by omega) r2 (by omega) c2
 refine ⟨⟨r1,r2⟩,fun l _ cp _ d _ _ _ hM hL hI=>⟨⟨l0,l2,by unfold Go.Eng.big; omega⟩,fun cc _ dd _ hdd hcap=>?_⟩⟩
 have hlen:dd.d.length = (ρ 5).i.toNat:=by rw [hdd,List.length_take]; omega
 refine ⟨⟨hf,⟨⟨by omega,r2,by omega,c2,hl,by omega,by omega,by rw [hdd]; exact qtt hB⟩,by omega⟩,hM,hL⟩,fun rk _ f2 _ d2 _ b2 _ hf2 hA2 hB2 k0 k1 he=>?_⟩
 have hE:qcl (ρ 2).i.toNat (ρ 3).i.toNat (ρ 2).i.toNat (bI dd.d) (bI d.d) (ρ 3).i.toNat = qe0 ((bI (ρ 7).d).take (ρ 5).i.toNat) (ρ 2).i.toNat:=by
  rw [qe0,hdd,qn8,hI,hrc]
 rw [hE] at he
 rw [<- he]
 exact ⟨fun h=>⟨hf2,vA,hrc,by simp only; omega⟩,fun h=>⟨hf2,vA,hrc,hB2,by simp only; omega,rfl⟩⟩
theorem qbH {k t:Int}:qT k t = true↔1 <= k/\k <= t/\t <= 255:=by simp [qT,and_assoc]
theorem quU:qdA.ok Tryz.prog:=q5Y (by simp [qh2,q09,qmn,q2Z]) fun ρ hg hp=>by
 have hf:qk (ρ 1).d:=hp
 have hne:=(qbT hf).1
 simp [qsz,qdA,qam,qhQ,qcH,qa2,qdH]
 intro u0 _
 refine ⟨fun h=>(hne h).elim,fun _ u1 _ hs=>⟨fun hb=>⟨hf,fun h=>?_⟩,fun hb=>?_⟩⟩
 ·rw [h] at hs; rw [hb] at hs; cases hs
 have hsz:qT (ρ 2).i (ρ 3).i = true:=by rw [<- hs]; exact hb
 obtain ⟨k1,k2,k3⟩:=qbH.1 hsz
 have hvb:¬ qcQ (ρ 3).i (ρ 2).i:=by unfold qcQ; omega
 have hkk:=qI (x:=(ρ 2).i) (y:=(ρ 2).i) (by omega) (show (ρ 2).i <= 255 by omega) (by omega) (show (ρ 2).i <= 255 by omega)
 have hlek:(ρ 2).i * (ρ 2).i <= (ρ 3).i * (ρ 2).i:=Int.mul_le_mul_of_nonneg_right k2 (by omega)
 refine ⟨⟨hf,hvb⟩,fun u2 _ l _ cp _ f1 _ d _ hf1 _ hM hL hV u7 _ hcap=>?_⟩
 obtain ⟨a1,a2,a3,a4,a5,a6,a7,a8⟩:=hM
 have vV:qaH (ρ 3).i (ρ 2).i l.i:=⟨by omega,by omega,by omega,by omega,a5⟩
 rw [qcP (by omega) (by omega)]
 have hkn:((ρ 2).i * (ρ 2).i).toNat = (ρ 2).i.toNat * (ρ 2).i.toNat:=Int.toNat_mul (by omega) (by omega)
 have hTop:qe0 ((bI d.d).take ((ρ 2).i * (ρ 2).i).toNat) (ρ 2).i.toNat = qcm (ρ 2).i.toNat (ρ 3).i.toNat:=by rw [qcm,hV,hkn]
 rw [hTop]
 have vT:qaH (ρ 2).i (ρ 2).i ((ρ 2).i * (ρ 2).i):=⟨by omega,by omega,by omega,by omega,rfl⟩
 have hno:¬ qaH 0 0 0:=by unfold qaH; omega
 refine ⟨by omega,by omega,hkk.1,by omega,fun u8 _=>⟨⟨hf1,hkk.1,by omega,by omega,a8⟩,fun e _ f2 _ hf2 hor u11 _=>⟨⟨hf2,by omega,by omega,by omega,a8,fun r hr=>by cases hr⟩,fun f3 _ hf3 _=>⟨hf3,fun _=>?_⟩,fun _ _ _ _ h=>(hno h).elim,?_⟩,?_⟩⟩
 ·rcases hor with ⟨h,_⟩ | ⟨_,h,_⟩
  ·exact (h vT).elim
  ·exact h
 ·intro _ _ _ _ _ _ _ _ _ _ _ _ h
  exact (hno h).elim
 ·intro u9 _ li _ ci _ f4 _ di _ hf4 _ hMi hrk hInv u14 _
  obtain ⟨⟨b1,b2,b3,b4,b5,b6,b7,b8⟩,b9⟩:=hMi
  have vI:qaH (ρ 2).i (ρ 2).i li.i:=⟨by omega,by omega,by omega,by omega,b5⟩
  refine ⟨⟨hf4,by omega,by omega,by omega,a8,by omega,b6,by omega,b8⟩,fun f5 _ hf5 h=>(h vV vI).elim,?_⟩
  intro u15 _ lp _ cq _ f6 _ dp _ hf6 _ _ hMp hLp hP u20 _ _
  refine ⟨hf6,hsz,⟨hMp,hLp⟩,hrk,?_⟩
  rw [hP,hInv,qc8,hV,List.take_of_length_le (by rw [qb4,qrb,a5,Int.toNat_mul (by omega) (by omega)]; exact Nat.le_refl _),List.take_of_length_le (by rw [<- hInv,bI_len]; omega)]
end Go.Proofs

set_option linter.unusedSimpArgs false
set_option linter.unusedVariables false
set_option maxRecDepth 100000
namespace Go.Proofs
open Go Go.Eng

@[simp] def qlJ:Sg:=sg 0 [bv 13 45,bv 12 55,bv 7 59,bv 6 60,bv 1 50,bt 14 (.icell (.var 54) (.plus (.var 61) (.var 64)) 0),bt 11 (.minus (.var 45) (.arith .mul .i64 (.var 64) (.var 42))),bt 10 (.minus (.arith .mul .i64 (.arith .add .i64 (.var 64) (.lit 1)) (.var 42)) (.arith .mul .i64 (.var 64) (.var 42))),bt 9 (.ife (.var 45) (.arith .mul .i64 (.var 64) (.var 42)) (.lit 0) (.arith .mul .i64 (.var 64) (.var 42))),bg 8 43,bv 5 59,bv 4 42,bt 3 (.lit 0),bg 2 58,bg 0 0]
def qkE:Out:=(.br (.and (.cmp .eql (.dlen (.var 1)) (.lit 0)) (.isnil 0))
 (.ret 0 (sg 9 [bv 10 1,bt 9 (.lit 1)]))
 (.pre 0 (sg 0 [bv 1 3,bv 0 2]) (.both (.fresh 9 (.post 0 0 (sg 0 [bv 1 3,bv 0 2]) 9 (.br (.not (.var 9))
 (.ret 0 (sg 9 [bv 10 1,bt 9 (.lit 2)]))
 (.need (.cmp .leq (.lit 0) (.var 5)) (.br (.cmp .gtr (.var 5) (.lit 8192))
 (.ret 0 (sg 9 [bv 10 1,bt 9 (.lit 3)]))
 (.pre 1 (sg 0 [bv 1 5,bv 0 2]) (.both (.fresh 10 (.fresh 11 (.post 1 0 (sg 0 [bv 1 5,bv 0 2]) 10 (.need (.cmp .leq (.lit 0) (.arith .mul .i64 (.var 2) (.var 10))) (.need (.cmp .leq (.tims (.lit 1) (.arith .mul .i64 (.var 2) (.var 10))) (.lit 281474976710656)) (.fresh 12 (.need (.cmp .leq (.arith .mul .i64 (.var 2) (.var 10)) (.dlen (.drep (.arith .mul .i64 (.var 2) (.var 10)) (.rcons (.vint .u8 (.lit 0)) .rnil)))) (.need (.cmp .leq (.var 5) (.dlen (.var 7))) (.fresh 13 (.pre 2 (sg 0 [bv 1 1,bv 3 3,bv 2 2,bg 0 0]) (.both (.fresh 14 (.fresh 15 (.fresh 16 (.fresh 17 (.fresh 18 (.fresh 19 (.post 2 0 (sg 0 [bv 1 1,bv 3 3,bv 2 2,bg 0 0]) 14 (.fresh 20 (.need (.cmp .leq (.lit 0) (.var 3)) (.need (.cmp .leq (.tims (.lit 32) (.var 3)) (.lit 281474976710656)) (.fresh 21 (.inv 0 22 (sg 1000 [bg 1015 19,bt 1014 (.drep (.var 3) (.rcons (.vint .i64 (.lit 0)) (.rcons .vnils .rnil))),bt 1013 (.c3 .dsplice (.drep (.arith .mul .i64 (.var 2) (.var 10)) (.rcons (.vint .u8 (.lit 0)) .rnil)) (.lit 0) (.dtake (.dtake (.var 7) (.var 5)) (.imin (.arith .mul .i64 (.var 2) (.var 10)) (.var 5)))),bv 1012 18,bv 1011 16,bv 1010 15,bg 1009 14,bv 1008 17,bt 1007 (.lit 0),bv 1006 3,bg 1005 21,bg 1004 20,bt 1003 (.arith .mul .i64 (.var 2) (.var 10)),bt 1002 (.arith .mul .i64 (.var 2) (.var 10)),bg 1001 12,bv 1000 10]) (.fresh 22 (.fresh 23 (.fresh 24 (.fresh 25 (.fresh 26 (.fresh 27 (.fresh 28 (.fresh 29 (.fresh 30 (.fresh 31 (.fresh 32 (.fresh 33 (.fresh 34 (.fresh 35 (.fresh 36 (.fresh 37 (.hyp 0 22 (.br (.cmp .lss (.var 29) (.var 3))
 (.need (.cmp .leq (.lit 0) (.var 22)) (.need (.cmp .leq (.tims (.lit 1) (.var 22)) (.lit 281474976710656)) (.fresh 38 (.pre 3 (sg 0 [bv 6 33,bv 5 34,bv 7 29,bv 4 33,bv 3 32,bg 2 31,bv 1 2,bv 0 3]) (.both (.fresh 39 (.fresh 40 (.fresh 41 (.post 3 0 (sg 0 [bv 6 33,bv 5 34,bv 7 29,bv 4 33,bv 3 32,bg 2 31,bv 1 2,bv 0 3]) 39 (.need (.cmp .leq (.lit 0) (.var 40)) (.inv 1 42 (sg 1000 [bg 1015 37,bt 1018 (.drep (.var 22) (.rcons (.vint .u8 (.lit 0)) .rnil)),bv 1014 36,bv 1013 35,bv 1012 34,bv 1011 33,bv 1010 32,bv 1008 30,bt 1022 (.lit 0),bv 1021 41,bv 1020 40,bv 1019 39,bg 1009 31,bv 1017 22,bg 1016 38,bv 1007 29,bv 1006 28,bg 1005 27,bg 1004 26,bv 1003 25,bv 1002 24,bg 1001 23,bv 1000 22]) (.fresh 42 (.fresh 43 (.fresh 44 (.fresh 45 (.fresh 46 (.fresh 47 (.fresh 48 (.fresh 49 (.fresh 50 (.fresh 51 (.fresh 52 (.fresh 53 (.fresh 54 (.fresh 55 (.fresh 56 (.fresh 57 (.fresh 58 (.fresh 59 (.fresh 60 (.fresh 61 (.fresh 62 (.fresh 63 (.fresh 64 (.hyp 1 42 (.br (.cmp .lss (.var 64) (.var 62))
 (.need (.cmp .leq (.lit 0) (.var 64)) (.need (.cmp .leq (.lit 0) (.var 61)) (.need (.cmp .leq (.lit 0) (.plus (.var 61) (.var 64))) (.need (.cmp .lss (.plus (.var 61) (.var 64)) (.dlen (.var 54))) (.know (.cmp .leq (.dlen (.var 55)) (.var 45)) (.need (.cmp .leq (.lit 0) (.var 44)) (.need (.cmp .leq (.lit 0) (.var 45)) (.need (.cmp .leq (.lit 0) (.arith .mul .i64 (.var 64) (.var 42))) (.need (.cmp .leq (.arith .mul .i64 (.var 64) (.var 42)) (.arith .mul .i64 (.arith .add .i64 (.var 64) (.lit 1)) (.var 42))) (.need (.cmp .leq (.arith .mul .i64 (.arith .add .i64 (.var 64) (.lit 1)) (.var 42)) (.var 45)) (.pre 4 qlJ (.both (.fresh 65 (.fresh 66 (.post 4 0 qlJ 65 (.back 1 42 (sg 1000 [bg 1015 57,bv 1018 66,bv 1014 56,bv 1013 55,bv 1012 54,bv 1011 53,bv 1010 52,bv 1008 65,bt 1022 (.arith .add .i64 (.var 64) (.lit 1)),bv 1021 63,bv 1020 62,bv 1019 61,bg 1009 51,bv 1017 59,bg 1016 58,bv 1007 49,bv 1006 48,bg 1005 47,bg 1004 46,bv 1003 45,bv 1002 44,bg 1001 43,bv 1000 42]))))) .top))))))))))))
 (.need (.cmp .leq (.lit 0) (.var 49)) (.need (.cmp .lss (.var 49) (.var 3)) (.need (.cmp .lss (.var 49) (.dlen (.var 56))) (.pack [.arr 58 5 [CK.int .u8] (.var 60) (.var 59),.abs 57 2] 65 (.back 0 22 (sg 1000 [bg 1015 65,bt 1014 (.dput (.var 56) (.var 49) 0 (.rcons (.vint .i64 (.var 49)) (.rcons (.vslice 58 (.lit 0) (.var 42) (.var 59) 1) .rnil))),bv 1013 55,bv 1012 54,bv 1011 53,bv 1010 52,bg 1009 51,bv 1008 50,bt 1007 (.arith .add .i64 (.var 49) (.lit 1)),bv 1006 48,bg 1005 47,bg 1004 46,bv 1003 45,bv 1002 44,bg 1001 43,bv 1000 42]))))))))))))))))))))))))))))))))))))) .top)))))
 (.pack [.cells 26 200 [(.vint .i64 (.var 3)),(.vint .i64 (.var 2)),(.vslice 31 (.lit 0) (.var 32) (.var 33) 1)],.arr 31 5 [CK.int .u8] (.var 34) (.var 33),.arr 23 5 [CK.int .u8] (.var 35) (.var 25),.abs 37 2] 38 (.ret 1 (sg 9 [bg 13 38,bv 12 36,bv 11 30,bv 10 28,bg 9 27]))))))))))))))))))))))))))))))))) .top))))))))))) .top))))))) .top)))
theorem qtF:qj ⟨Tryz.prog,qcq,[qam,qaC,qpx,qak,qaX],[qlQ,qmY]⟩ 100000 Tryz.f87 = qkE:=by kernel_rfl
theorem qyv (hd:∀ c ∈ ([qam,qaC,qpx,qak,qaX]:List Ctr),c.ok Tryz.prog) (h:∀ ρ:Env,ρ.good->(qcq).pre ρ->qkE.den ⟨Tryz.prog,qcq,[qam,qaC,qpx,qak,qaX],[qlQ,qmY]⟩ ρ):(qcq).ok Tryz.prog :=
 qf Tryz.func87 (fun a w=>Tryz.call87 a w) hd 100000 (fun ρ hg hp=>by rw [qtF]; exact h ρ hg hp)
end Go.Proofs
