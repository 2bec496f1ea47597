/- Texts QG, QH, QJ, QK, QL, QO, QP, QS, QT, QU, QV, QW, QY, QZ. -/
import Derived.Test.YtelcnkclppkicaaGreatDoorG8
import Derived.Test.YtelcnkclppkicaaGreatDoorProg
import Derived.Test.YtelcnkclppkicaaGreatDoorG7
import Derived.Test.YtelcnkclppkicaaGreatDoorG5
set_option linter.unusedSimpArgs false
set_option linter.unusedVariables false
set_option maxRecDepth 100000
namespace Go.Proofs
open Go Go.Eng

def qqD:Out:=(.fresh 1 (.fresh 2 (.ret 0 (sg 1 [bg 1 2]))))
theorem qyg:ql ⟨Tryz.prog,qdO,[],[]⟩ 100000 Tryz.f45 = qqD:=by kernel_rfl
theorem q3Z (hd:∀ c ∈ ([]:List Ctr),c.ok Tryz.prog) (h:∀ ρ:Env,ρ.good->(qdO).pre ρ->qqD.den ⟨Tryz.prog,qdO,[],[]⟩ ρ):(qdO).ok Tryz.prog :=
 qe Tryz.func45 (fun a w=>Tryz.call45 a w) hd 100000 (fun ρ hg hp=>by rw [qyg]; exact h ρ hg hp)
def qpD:Out:=(.br (.not (.and (.cmp .eql (.dlen (.var 3)) (.lit 0)) (.isnil 2)))
 (.need (.cmp .leq (.lit 0) (.var 6)) (.need (.cmp .lss (.lit 0) (.dlen (.var 3))) (.ret 0 (sg 10 [bt 10 (.cmp .geq (.var 6) (.icell (.var 3) (.lit 0) 0))]))))
 (.ret 0 (sg 10 [bt 10 (.bl false)])))
theorem qz6:ql ⟨Tryz.prog,qcc,[],[]⟩ 100000 Tryz.f47 = qpD:=by kernel_rfl
theorem q3B (hd:∀ c ∈ ([]:List Ctr),c.ok Tryz.prog) (h:∀ ρ:Env,ρ.good->(qcc).pre ρ->qpD.den ⟨Tryz.prog,qcc,[],[]⟩ ρ):(qcc).ok Tryz.prog :=
 qe Tryz.func47 (fun a w=>Tryz.call47 a w) hd 100000 (fun ρ hg hp=>by rw [qz6]; exact h ρ hg hp)
def quD:Out:=(.fresh 10 (.need (.cmp .leq (.lit 0) (.var 6)) (.inv 0 11 (sg 1000 [bt 1003 .dnil,bt 1004 (.lit 0),bt 1002 (.lit 0),bt 1001 (.lit 0),bg 1000 10]) (.fresh 11 (.fresh 12 (.fresh 13 (.fresh 14 (.fresh 15 (.hyp 0 11 (.br (.cmp .lss (.var 15) (.var 6))
 (.need (.cmp .leq (.lit 0) (.var 15)) (.need (.cmp .lss (.var 15) (.dlen (.var 8))) (.fresh 16 (.fresh 17 (.need (.cmp .eql (.var 12) (.dlen (.var 14))) (.need (.cmp .leq (.tims (.lit 8) (.plus (.var 12) (.lit 1))) (.lit 140737488355328)) (.fresh 18 (.fresh 19 (.back 0 11 (sg 1000 [bt 1003 (.dapp (.var 14) (.rcons (.vint .i64 (.icell (.var 8) (.var 15) 0)) .rnil)),bt 1004 (.arith .add .i64 (.var 15) (.lit 1)),bv 1002 19,bt 1001 (.plus (.var 12) (.lit 1)),bg 1000 18]))))))))))
 (.ret 0 (sg 10 [bv 13 14,bv 12 13,bv 11 12,bg 10 11]))))))))))))
theorem qzE:ql ⟨Tryz.prog,qdg,[],[qwU]⟩ 100000 Tryz.f55 = quD:=by kernel_rfl
theorem q4E (hd:∀ c ∈ ([]:List Ctr),c.ok Tryz.prog) (h:∀ ρ:Env,ρ.good->(qdg).pre ρ->quD.den ⟨Tryz.prog,qdg,[],[qwU]⟩ ρ):(qdg).ok Tryz.prog :=
 qe Tryz.func55 (fun a w=>Tryz.call55 a w) hd 100000 (fun ρ hg hp=>by rw [qzE]; exact h ρ hg hp)
def qnl:Out:=(.br (.and (.cmp .eql (.dlen (.var 3)) (.lit 0)) (.isnil 0))
 (.need (.cmp .eql (.var 1) (.lit 0)) (.ret 0 (sg 5 [bt 7 .dnil,bt 6 (.lit 0),(5,.nil)])))
 (.fresh 5 (.need (.cmp .leq (.lit 0) (.var 1)) (.need (.cmp .leq (.var 1) (.dlen (.var 3))) (.need (.cmp .leq (.tims (.lit 32) (.var 1)) (.lit 140737488355328)) (.fresh 6 (.fresh 7 (.ret 0 (sg 5 [bt 7 (.dtake (.var 3) (.var 1)),bv 6 7,bg 5 6])))))))))
theorem qvf:ql ⟨Tryz.prog,qdv,[],[]⟩ 100000 Tryz.f90 = qnl:=by kernel_rfl
theorem q0q (hd:∀ c ∈ ([]:List Ctr),c.ok Tryz.prog) (h:∀ ρ:Env,ρ.good->(qdv).pre ρ->qnl.den ⟨Tryz.prog,qdv,[],[]⟩ ρ):(qdv).ok Tryz.prog :=
 qe Tryz.func90 (fun a w=>Tryz.call90 a w) hd 100000 (fun ρ hg hp=>by rw [qvf]; exact h ρ hg hp)
@[simp] def qhV:Sg:=sg 0 [bg 9 9,bv 8 8,bv 4 4,bv 3 3,bv 7 7,bv 6 6,bg 5 5,bg 2 2,bt 1 (r8 1),bg 0 0]
@[simp] def qrd:Sg:=sg 0 [bv 11 27,bv 9 19,bv 8 18,bv 7 17,bv 6 16,bg 5 15,bv 3 13,bv 2 12,bv 1 11,bv 0 10,bt 4 (r8 14),bg 10 26]
@[simp] def qrg:Sg:=sg 0 [bv 17 27,bv 15 25,bv 14 24,bv 9 19,bv 8 18,bv 13 23,bv 12 22,bg 11 21,bv 10 20,bv 7 17,bv 6 16,bg 5 15,bv 3 13,bv 2 12,bv 1 11,bv 0 10,bt 4 (r8 14),bg 16 26]
def qqz:Out:=(.fresh 28 (.fresh 29 (.pre 0 qrd (.both (.fresh 30 (.fresh 31 (.post 0 0 qrd 30 (.fresh 32 (.br (.cmp .neq (.var 31) (.lit 0))
 (.pack [.cells 32 24 [(x8 0 30),(x8 1 30),(x8 2 30),(x8 3 30),(x8 4 30),(x8 5 30),(x8 6 30),(x8 7 30),(x8 8 30),(x8 9 30),(x8 10 30),(x8 11 30),(x8 12 30),(x8 13 30),(x8 14 30),(x8 15 30),(x8 16 30),(x8 17 30),(x8 18 30),(x8 19 30),(x8 20 30),(x8 21 30),(x8 22 30),(x8 23 30),(x8 24 30),(x8 25 30),(x8 26 30),(x8 27 30),(x8 28 30),(x8 29 30),(x8 30 30),(x8 31 30)],.cells 29 86 [(.vint .i64 (.var 20)),(.vslice 21 (.lit 0) (.var 22) (.var 23) 1)],.cells 28 27 [(.vint .i64 (.var 10)),(.vint .i64 (.var 11)),(.vint .i64 (.var 12)),(.vint .i64 (.var 13)),(x8 0 14),(x8 1 14),(x8 2 14),(x8 3 14),(x8 4 14),(x8 5 14),(x8 6 14),(x8 7 14),(x8 8 14),(x8 9 14),(x8 10 14),(x8 11 14),(x8 12 14),(x8 13 14),(x8 14 14),(x8 15 14),(x8 16 14),(x8 17 14),(x8 18 14),(x8 19 14),(x8 20 14),(x8 21 14),(x8 22 14),(x8 23 14),(x8 24 14),(x8 25 14),(x8 26 14),(x8 27 14),(x8 28 14),(x8 29 14),(x8 30 14),(x8 31 14),(.vslice 15 (.lit 0) (.var 16) (.var 17) 32)],.abs 9 20] 33 (.ret 0 (sg 28 [bg 35 33,bv 34 8,bv 30 4,bv 29 3,bv 33 7,bv 32 6,bg 31 5,bg 28 2,bv 36 31])))
 (.br (.not (.c2 .req (r8 30) (r8 1)))
 (.pack [.cells 32 24 [(x8 0 30),(x8 1 30),(x8 2 30),(x8 3 30),(x8 4 30),(x8 5 30),(x8 6 30),(x8 7 30),(x8 8 30),(x8 9 30),(x8 10 30),(x8 11 30),(x8 12 30),(x8 13 30),(x8 14 30),(x8 15 30),(x8 16 30),(x8 17 30),(x8 18 30),(x8 19 30),(x8 20 30),(x8 21 30),(x8 22 30),(x8 23 30),(x8 24 30),(x8 25 30),(x8 26 30),(x8 27 30),(x8 28 30),(x8 29 30),(x8 30 30),(x8 31 30)],.cells 29 86 [(.vint .i64 (.var 20)),(.vslice 21 (.lit 0) (.var 22) (.var 23) 1)],.cells 28 27 [(.vint .i64 (.var 10)),(.vint .i64 (.var 11)),(.vint .i64 (.var 12)),(.vint .i64 (.var 13)),(x8 0 14),(x8 1 14),(x8 2 14),(x8 3 14),(x8 4 14),(x8 5 14),(x8 6 14),(x8 7 14),(x8 8 14),(x8 9 14),(x8 10 14),(x8 11 14),(x8 12 14),(x8 13 14),(x8 14 14),(x8 15 14),(x8 16 14),(x8 17 14),(x8 18 14),(x8 19 14),(x8 20 14),(x8 21 14),(x8 22 14),(x8 23 14),(x8 24 14),(x8 25 14),(x8 26 14),(x8 27 14),(x8 28 14),(x8 29 14),(x8 30 14),(x8 31 14),(.vslice 15 (.lit 0) (.var 16) (.var 17) 32)],.abs 9 20] 33 (.ret 0 (sg 28 [bg 35 33,bv 34 8,bv 30 4,bv 29 3,bv 33 7,bv 32 6,bg 31 5,bg 28 2,bt 36 (.lit 20)])))
 (.pre 1 qrg (.both (.fresh 33 (.post 1 0 qrg 33 (.br (.cmp .neq (.var 33) (.lit 0))
 (.pack [.cells 32 24 [(x8 0 30),(x8 1 30),(x8 2 30),(x8 3 30),(x8 4 30),(x8 5 30),(x8 6 30),(x8 7 30),(x8 8 30),(x8 9 30),(x8 10 30),(x8 11 30),(x8 12 30),(x8 13 30),(x8 14 30),(x8 15 30),(x8 16 30),(x8 17 30),(x8 18 30),(x8 19 30),(x8 20 30),(x8 21 30),(x8 22 30),(x8 23 30),(x8 24 30),(x8 25 30),(x8 26 30),(x8 27 30),(x8 28 30),(x8 29 30),(x8 30 30),(x8 31 30)],.cells 29 86 [(.vint .i64 (.var 20)),(.vslice 21 (.lit 0) (.var 22) (.var 23) 1)],.cells 28 27 [(.vint .i64 (.var 10)),(.vint .i64 (.var 11)),(.vint .i64 (.var 12)),(.vint .i64 (.var 13)),(x8 0 14),(x8 1 14),(x8 2 14),(x8 3 14),(x8 4 14),(x8 5 14),(x8 6 14),(x8 7 14),(x8 8 14),(x8 9 14),(x8 10 14),(x8 11 14),(x8 12 14),(x8 13 14),(x8 14 14),(x8 15 14),(x8 16 14),(x8 17 14),(x8 18 14),(x8 19 14),(x8 20 14),(x8 21 14),(x8 22 14),(x8 23 14),(x8 24 14),(x8 25 14),(x8 26 14),(x8 27 14),(x8 28 14),(x8 29 14),(x8 30 14),(x8 31 14),(.vslice 15 (.lit 0) (.var 16) (.var 17) 32)],.abs 9 20] 34 (.ret 0 (sg 28 [bg 35 34,bv 34 8,bv 30 4,bv 29 3,bv 33 7,bv 32 6,bg 31 5,bg 28 2,bv 36 33])))
 (.both (.pre 2 qhV (.both (.fresh 34 (.fresh 35 (.fresh 36 (.fresh 37 (.post 2 0 qhV 34 (.both (.pre 3 (sg 0 [bv 4 36,bv 3 37,bv 5 20,bv 2 36,bv 1 35,bg 0 34]) (.both (.fresh 38 (.post 3 0 (sg 0 [bv 4 36,bv 3 37,bv 5 20,bv 2 36,bv 1 35,bg 0 34]) 38 (.br (.var 38)
 (.pack [.arr 34 3 [CK.int .i64] (.var 37) (.var 36),.cells 32 24 [(x8 0 30),(x8 1 30),(x8 2 30),(x8 3 30),(x8 4 30),(x8 5 30),(x8 6 30),(x8 7 30),(x8 8 30),(x8 9 30),(x8 10 30),(x8 11 30),(x8 12 30),(x8 13 30),(x8 14 30),(x8 15 30),(x8 16 30),(x8 17 30),(x8 18 30),(x8 19 30),(x8 20 30),(x8 21 30),(x8 22 30),(x8 23 30),(x8 24 30),(x8 25 30),(x8 26 30),(x8 27 30),(x8 28 30),(x8 29 30),(x8 30 30),(x8 31 30)],.cells 29 86 [(.vint .i64 (.var 20)),(.vslice 21 (.lit 0) (.var 22) (.var 23) 1)],.cells 28 27 [(.vint .i64 (.var 10)),(.vint .i64 (.var 11)),(.vint .i64 (.var 12)),(.vint .i64 (.var 13)),(x8 0 14),(x8 1 14),(x8 2 14),(x8 3 14),(x8 4 14),(x8 5 14),(x8 6 14),(x8 7 14),(x8 8 14),(x8 9 14),(x8 10 14),(x8 11 14),(x8 12 14),(x8 13 14),(x8 14 14),(x8 15 14),(x8 16 14),(x8 17 14),(x8 18 14),(x8 19 14),(x8 20 14),(x8 21 14),(x8 22 14),(x8 23 14),(x8 24 14),(x8 25 14),(x8 26 14),(x8 27 14),(x8 28 14),(x8 29 14),(x8 30 14),(x8 31 14),(.vslice 15 (.lit 0) (.var 16) (.var 17) 32)],.abs 9 20] 39 (.ret 0 (sg 28 [bg 35 39,bv 34 8,bv 30 4,bv 29 3,bv 33 7,bv 32 6,bg 31 5,bg 28 2,bt 36 (.lit 7)])))
 (.pre 4 qhV (.both (.fresh 39 (.post 4 0 qhV 39 (.br (.var 39)
 (.pack [.arr 34 3 [CK.int .i64] (.var 37) (.var 36),.cells 32 24 [(x8 0 30),(x8 1 30),(x8 2 30),(x8 3 30),(x8 4 30),(x8 5 30),(x8 6 30),(x8 7 30),(x8 8 30),(x8 9 30),(x8 10 30),(x8 11 30),(x8 12 30),(x8 13 30),(x8 14 30),(x8 15 30),(x8 16 30),(x8 17 30),(x8 18 30),(x8 19 30),(x8 20 30),(x8 21 30),(x8 22 30),(x8 23 30),(x8 24 30),(x8 25 30),(x8 26 30),(x8 27 30),(x8 28 30),(x8 29 30),(x8 30 30),(x8 31 30)],.cells 29 86 [(.vint .i64 (.var 20)),(.vslice 21 (.lit 0) (.var 22) (.var 23) 1)],.cells 28 27 [(.vint .i64 (.var 10)),(.vint .i64 (.var 11)),(.vint .i64 (.var 12)),(.vint .i64 (.var 13)),(x8 0 14),(x8 1 14),(x8 2 14),(x8 3 14),(x8 4 14),(x8 5 14),(x8 6 14),(x8 7 14),(x8 8 14),(x8 9 14),(x8 10 14),(x8 11 14),(x8 12 14),(x8 13 14),(x8 14 14),(x8 15 14),(x8 16 14),(x8 17 14),(x8 18 14),(x8 19 14),(x8 20 14),(x8 21 14),(x8 22 14),(x8 23 14),(x8 24 14),(x8 25 14),(x8 26 14),(x8 27 14),(x8 28 14),(x8 29 14),(x8 30 14),(x8 31 14),(.vslice 15 (.lit 0) (.var 16) (.var 17) 32)],.abs 9 20] 40 (.ret 0 (sg 28 [bg 35 40,bv 34 8,bv 30 4,bv 29 3,bv 33 7,bv 32 6,bg 31 5,bg 28 2,bt 36 (.lit 8)])))
 (.pre 5 (sg 0 [bv 4 19,bv 3 18,bv 2 17,bv 1 16,bg 0 15]) (.both (.fresh 40 (.fresh 41 (.fresh 42 (.post 5 0 (sg 0 [bv 4 19,bv 3 18,bv 2 17,bv 1 16,bg 0 15]) 40 (.both (.pre 6 (sg 0 [bv 4 25,bv 3 24,bv 2 23,bv 1 22,bg 0 21]) (.both (.fresh 43 (.fresh 44 (.fresh 45 (.post 6 0 (sg 0 [bv 4 25,bv 3 24,bv 2 23,bv 1 22,bg 0 21]) 43 (.both (.both (.fresh 46 (.both (.need (.cmp .eql (.var 6) (.dlen (.var 8))) (.need (.cmp .leq (.tims (.lit 32) (.plus (.var 6) (.lit 1))) (.lit 140737488355328)) (.fresh 47 (.fresh 48 (.both (.both (.both (.pack [.cells 46 86 [(.vint .i64 (.var 20)),(.vslice 43 (.lit 0) (.var 22) (.var 44) 1)],.arr 43 5 [CK.int .u8] (.var 45) (.var 44),.arr 40 24 [CK.int .u8,CK.int .u8,CK.int .u8,CK.int .u8,CK.int .u8,CK.int .u8,CK.int .u8,CK.int .u8,CK.int .u8,CK.int .u8,CK.int .u8,CK.int .u8,CK.int .u8,CK.int .u8,CK.int .u8,CK.int .u8,CK.int .u8,CK.int .u8,CK.int .u8,CK.int .u8,CK.int .u8,CK.int .u8,CK.int .u8,CK.int .u8,CK.int .u8,CK.int .u8,CK.int .u8,CK.int .u8,CK.int .u8,CK.int .u8,CK.int .u8,CK.int .u8] (.var 42) (.var 41),.arr 34 3 [CK.int .i64] (.var 37) (.var 36),.cells 32 24 [(x8 0 30),(x8 1 30),(x8 2 30),(x8 3 30),(x8 4 30),(x8 5 30),(x8 6 30),(x8 7 30),(x8 8 30),(x8 9 30),(x8 10 30),(x8 11 30),(x8 12 30),(x8 13 30),(x8 14 30),(x8 15 30),(x8 16 30),(x8 17 30),(x8 18 30),(x8 19 30),(x8 20 30),(x8 21 30),(x8 22 30),(x8 23 30),(x8 24 30),(x8 25 30),(x8 26 30),(x8 27 30),(x8 28 30),(x8 29 30),(x8 30 30),(x8 31 30)],.cells 29 86 [(.vint .i64 (.var 20)),(.vslice 21 (.lit 0) (.var 22) (.var 23) 1)],.arr 2 27 [CK.int .i64,CK.int .i64,CK.int .i64,CK.int .i64,CK.int .u8,CK.int .u8,CK.int .u8,CK.int .u8,CK.int .u8,CK.int .u8,CK.int .u8,CK.int .u8,CK.int .u8,CK.int .u8,CK.int .u8,CK.int .u8,CK.int .u8,CK.int .u8,CK.int .u8,CK.int .u8,CK.int .u8,CK.int .u8,CK.int .u8,CK.int .u8,CK.int .u8,CK.int .u8,CK.int .u8,CK.int .u8,CK.int .u8,CK.int .u8,CK.int .u8,CK.int .u8,CK.int .u8,CK.int .u8,CK.int .u8,CK.int .u8,CK.any] (.var 3) (.var 4),.abs 9 20] 49 (.ret 0 (sg 28 [bg 35 49,bt 34 (.dapp (.var 8) (.rcons (.vint .i64 (.var 20)) (.rcons (.vslice 43 (.lit 0) (.var 22) (.var 44) 1) .rnil))),bt 30 (.lit 1),bt 29 (.rcons (.vint .i64 (.var 10)) (.rcons (.vint .i64 (.var 11)) (.rcons (.vint .i64 (.var 12)) (.rcons (.vint .i64 (.var 13)) (.rcons (x8 0 14) (.rcons (x8 1 14) (.rcons (x8 2 14) (.rcons (x8 3 14) (.rcons (x8 4 14) (.rcons (x8 5 14) (.rcons (x8 6 14) (.rcons (x8 7 14) (.rcons (x8 8 14) (.rcons (x8 9 14) (.rcons (x8 10 14) (.rcons (x8 11 14) (.rcons (x8 12 14) (.rcons (x8 13 14) (.rcons (x8 14 14) (.rcons (x8 15 14) (.rcons (x8 16 14) (.rcons (x8 17 14) (.rcons (x8 18 14) (.rcons (x8 19 14) (.rcons (x8 20 14) (.rcons (x8 21 14) (.rcons (x8 22 14) (.rcons (x8 23 14) (.rcons (x8 24 14) (.rcons (x8 25 14) (.rcons (x8 26 14) (.rcons (x8 27 14) (.rcons (x8 28 14) (.rcons (x8 29 14) (.rcons (x8 30 14) (.rcons (x8 31 14) (.rcons (.vslice 40 (.lit 0) (.var 16) (.var 41) 32) .rnil))))))))))))))))))))))))))))))))))))),bv 33 48,bt 32 (.plus (.var 6) (.lit 1)),bg 31 47,bg 28 28,bt 36 (.lit 0)]))) .top) .top) .top))))) .top)) .top) .top))))) .top)) .top))))) .top))))) .top))))) .top)) .top)))))) .top)) .top)))) .top)))))))) .top))))
theorem qwX:ql ⟨Tryz.prog,qdN,[idC,qdy,qdg,qaL,qcc,qdv,qbO],[]⟩ 100000 Tryz.f48 = qqz:=by kernel_rfl
theorem q31 (hd:∀ c ∈ ([idC,qdy,qdg,qaL,qcc,qdv,qbO]:List Ctr),c.ok Tryz.prog) (h:∀ ρ:Env,ρ.good->(qdN).pre ρ->qqz.den ⟨Tryz.prog,qdN,[idC,qdy,qdg,qaL,qcc,qdv,qbO],[]⟩ ρ):(qdN).ok Tryz.prog :=
 qe Tryz.func48 (fun a w=>Tryz.call48 a w) hd 100000 (fun ρ hg hp=>by rw [qwX]; exact h ρ hg hp)
end Go.Proofs

set_option linter.unusedSimpArgs false
set_option linter.unusedVariables false
namespace Go.Proofs
open Go Go.Eng
set_option maxRecDepth 20000
theorem q2X:qdO.ok Tryz.prog:=q3Z (by simp) fun ρ hg hp=>by
 simp (config:={ maxSteps:=4000000 }) [qqD,qdO]
theorem q0P:qdv.ok Tryz.prog:=q0q (by simp) fun ρ hg hp=>by
 obtain ⟨h0,hl,h1⟩:=hp
 simp (config:={ maxSteps:=4000000 }) [qnl,qdv,hl]
 exact ⟨fun h _=>h,fun _=>by omega⟩
section
variable {h:Hp} {r:Option Addr} {d P:qc} {c n:Int} {M M':Option ManV} {L L':PcL}
theorem q1S (h1:qoo h P L) (h2:qoo h P L'):L = L':=by
 refine List.ext_getElem? fun j=>?_
 by_cases hj:j < P.length
 ·have e:=(h1.2.2 j hj).symm.trans (h2.2.2 j hj)
  rw [List.getD_eq_getElem?_getD,List.getD_eq_getElem?_getD,List.getElem?_eq_getElem (by have:=h1.1; omega),List.getElem?_eq_getElem (by have:=h2.1; omega)] at e
  rw [List.getElem?_eq_getElem (by have:=h1.1; omega),List.getElem?_eq_getElem (by have:=h2.1; omega)]
  exact congrArg some e
 ·rw [List.getElem?_eq_none (by have:=h1.1; omega),List.getElem?_eq_none (by have:=h2.1; omega)]
theorem q3R {m m':ManV} (h1:qhF h d m) (h2:qhF h d m'):m = m':=by
 obtain ⟨row,D,e,hf,hr,hD,a1,a2,a3,a4,a5,a6,_,_⟩:=h1
 obtain ⟨row',D',e',hf',hr',hD',b1,b2,b3,b4,b5,b6,_,_⟩:=h2
 rw [e] at e'
 simp only [List.cons.injEq,and_true] at e'
 subst e'
 obtain rfl:=qqT hr hr'
 obtain ⟨k,n,t,s,o,D1⟩:=m
 obtain ⟨k',n',t',s',o',D1'⟩:=m'
 simp only at a1 a2 a3 a4 a5 a6 b1 b2 b3 b4 b5 b6
 simp only [ManV.mk.injEq]
 exact ⟨by rw [<- a2,<- b2],by rw [<- a3,<- b3],by rw [<- a4,<- b4],by rw [<- a5,<- b5],by rw [<- a6,<- b6],by rw [<- a1,<- b1]⟩
theorem qqa (h1:qbP h r d c n P M L) (h2:qbP h r d c n P M' L'):M' = M/\L' = L:=by
 obtain ⟨_,p1,_,_,q1⟩:=h1
 obtain ⟨_,p2,_,_,q2⟩:=h2
 refine ⟨?_,(q1S p1 p2).symm⟩
 rcases q1 with ⟨rfl,_,c0,_⟩ | ⟨m,rfl,c1,hm,_⟩ <;> rcases q2 with ⟨rfl,_,c0',_⟩ | ⟨m',rfl,c1',hm',_⟩
 ·rfl
 ·omega
 ·omega
 ·rw [q3R hm hm']
theorem q6Z (h1:qbP h r d c n P M L):qgH P P.length = L.map Prod.fst:=by
 obtain ⟨_,p1,_⟩:=h1
 refine List.ext_getElem? fun j=>?_
 by_cases hj:j < P.length
 ·have e:=congrArg Prod.fst (p1.2.2 j hj)
  rw [List.getD_eq_getElem?_getD,List.getElem?_eq_getElem (by have:=p1.1; omega)] at e
  rw [qgH,List.getElem?_map,List.getElem?_range hj,List.getElem?_map,List.getElem?_eq_getElem (by have:=p1.1; omega)]
  exact congrArg some e
 ·rw [List.getElem?_eq_none (by simp [qgH]; omega),List.getElem?_eq_none (by rw [List.length_map]; have:=p1.1; omega)]
theorem q4e {i:Nat}:qgH P (i + 1) = qgH P i ++ [pcI P i]:=by
 unfold qgH
 rw [List.range_succ,List.map_append]; rfl
end
theorem qu2:qcc.ok Tryz.prog:=q3B (by simp) fun ρ hg hp=>by
 obtain ⟨M,L,h⟩:=hp
 simp (config:={ maxSteps:=4000000 }) [qpD,qcc,gaB]
 have h0:qbP (ρ 9).h (ρ 2).r (ρ 3).d (ρ 4).i (ρ 6).i (ρ 8).d M L:=h
 obtain ⟨hn,hp,_,_,hc⟩:=h
 rcases hc with ⟨rfl,hr,c0,hd,hL⟩ | ⟨m,rfl,c1,hm,hL⟩
 ·refine ⟨fun hcon=>?_,fun _ _ M' L' h'=>?_⟩
  ·rw [hd,hr] at hcon; simp at hcon
  ·obtain ⟨rfl,rfl⟩:=qqa h0 h'; rfl
 ·obtain ⟨row,D,e,hf,hrd,hD,a1,a2,_⟩:=hm
  have e:(ρ 3).d = [row]:=e
  refine ⟨fun _=>⟨by have hn':(ρ 6).i = ((ρ 8).d.length:Int):=hn; omega,by rw [e]; exact Nat.one_pos,fun M' L' h'=>?_⟩,fun hd _=>by rw [e] at hd; cases hd⟩
  obtain ⟨rfl,rfl⟩:=qqa h0 h'
  have hk:qg (ρ 3).d 0 0 = m.k:=by rw [<- a2,e]; rfl
  have hn':(ρ 6).i = ((ρ 8).d.length:Int):=hn
  have hp1:(ρ 8).d.length = L'.length:=hp.1
  rw [hk,hn',hp1]; rfl
theorem qwI:qdg.ok Tryz.prog:=q4E (by simp) fun ρ hg hp=>by
 obtain ⟨M,L,h⟩:=hp
 have h0:qbP (ρ 9).h (ρ 2).r (ρ 3).d (ρ 4).i (ρ 6).i (ρ 8).d M L:=h
 obtain ⟨hn,hp,_,h255,hc⟩:=h
 have hpl:=hp.1
 simp (config:={ maxSteps:=4000000 }) [quD,qdg,qwU,qt,gaB]
 have hn:(ρ 6).i = ((ρ 8).d.length:Int):=hn
 have hpl:(ρ 8).d.length = L.length:=hpl
 refine ⟨by omega,⟨by omega,rfl⟩,fun a _ D _ i _ i0 i1 ha hD hr=>⟨fun hi=>?_,fun hi M' L' h'=>?_⟩⟩
 ·have hDl:D.d.length = i.i.toNat:=by
   have:=congrArg List.length hD
   rw [qan] at this
   simpa [qgH] using this
  have hnx:(qd .add .i64 i.i 1).toNat = i.i.toNat + 1:=by rw [qbU i0 (by omega)]; omega
  refine ⟨i0,by omega,ha,by omega,⟨by rw [qbU i0 (by omega)]; omega,by rw [qbU i0 (by omega)]; omega,ha,?_,fun row h=>qp2 h hr⟩,by rw [qbU i0 (by omega)]; omega⟩
  rw [hnx,q4e,qii,hD]
  unfold pcI
  rw [Int.toNat_of_nonneg i0]
 ·obtain ⟨rfl,rfl⟩:=qqa h0 h'
  refine ⟨ha,?_,hr⟩
  rw [hD,<- q6Z h0,show i.i.toNat = (ρ 8).d.length by omega]
section
variable {h h':Hp} {r:Option Addr} {d P:qc} {c n e i:Int} {M:Option ManV} {L:PcL} {o b:List Int} {m:ManV}
theorem q2N (h1:qoo h P L) (hl:Hp.le h h'):qoo h' P L:=by
 refine ⟨h1.1,fun j hj=>?_,fun j hj=>?_⟩
 ·obtain ⟨i,v,d,e1,e2,e3⟩:=h1.2.1 j hj
  exact ⟨i,v,d,e1,qiJ e2 hl,e3⟩
 ·rw [<- h1.2.2 j hj]
  obtain ⟨i,v,d,e1,e2,e3⟩:=h1.2.1 j hj
  have hv:qao P j 1 = v:=by simp only [qao,Int.toNat_natCast,e1,Option.getD_some]; rfl
  unfold pcD
  rw [hv,qiK e2,qiK (qiJ e2 hl)]
theorem q3q (h1:qhF h d m) (hl:Hp.le h h'):qhF h' d m:=by
 obtain ⟨row,D,e,hf,hr,hx⟩:=h1
 exact ⟨row,D,e,hf,qiJ hr hl,hx⟩
theorem qpW (h1:qbP h r d c n P M L) (hl:Hp.le h h'):qbP h' r d c n P M L:=by
 obtain ⟨a1,a2,a3,a4,a5⟩:=h1
 refine ⟨a1,q2N a2 hl,a3,a4,?_⟩
 rcases a5 with a5 | ⟨m,b1,b3,b4,b5⟩
 ·exact .inl a5
 ·exact .inr ⟨m,b1,b3,q3q b4 hl,b5⟩
theorem q61 (h1:qbP h r d c n P M L) (hl:Hp.le h h') (hne:¬ e = 0):qbP h' r d c n P (if e = 0 then some m else M) (if e = 0 then L ++ [(i,b)] else L):=by
 rw [if_neg hne,if_neg hne]; exact qpW h1 hl
section
variable {k n' t s l u:Int} {O R S z:List Int} {D J:qc} {x y:Bool}
theorem qja (hl:l = (D.length:Int)):ManV.ok ⟨k,n',t,s,O,dgs D⟩ = qH k n' t s l:=by
 unfold ManV.ok
 rw [hl]; simp [dgs]
theorem q7z (hl:l = (D.length:Int)) (hid:(qH k n' t s l = false/\e = 2/\R = z)∨(qH k n' t s l = true/\e = 0/\R = S)) (hne:¬ e = 0):e = qfQ o M L ⟨k,n',t,s,O,dgs D⟩ i b:=by
 rcases hid with ⟨h1,h2,_⟩ | ⟨_,h2,_⟩
 ·unfold qfQ; rw [qja hl,if_pos h1,h2]
 ·exact absurd h2 hne
theorem qo8 (hid:(qH k n' t s l = false/\e = 2/\R = z)∨(qH k n' t s l = true/\e = 0/\R = S)) (he:e = 0):qH k n' t s l = true/\R = S:=by
 rcases hid with ⟨_,h2,_⟩ | ⟨h1,_,h3⟩
 ·omega
 ·exact ⟨h1,h3⟩
theorem q6E (hl:l = (D.length:Int)) (hid:(qH k n' t s l = false/\e = 2/\R = z)∨(qH k n' t s l = true/\e = 0/\R = sha (qaI k n' t s O ++ (dgs D).flatten))) (he:e = 0) (hR:¬ R = o):20 = qfQ o M L ⟨k,n',t,s,O,dgs D⟩ i b:=by
 obtain ⟨h1,h2⟩:=qo8 hid he
 unfold qfQ
 rw [qja hl,if_neg (by rw [h1]; simp),if_pos (by show sha (qaI k n' t s O ++ (dgs D).flatten) ≠ o; rw [<- h2]; exact hR)]
theorem q71 (hl:l = (D.length:Int)) (hid:(qH k n' t s l = false/\e = 2/\R = z)∨(qH k n' t s l = true/\e = 0/\R = sha (qaI k n' t s O ++ (dgs D).flatten))) (he:e = 0) (hR:R = o) (hc:u = qci k n' t s l (dgs D) i b) (hne:¬ u = 0):u = qfQ o M L ⟨k,n',t,s,O,dgs D⟩ i b:=by
 obtain ⟨h1,h2⟩:=qo8 hid he
 have hl':(((dgs D).length:Nat):Int) = l:=by rw [hl]; simp [dgs]
 unfold qfQ
 simp only [hl']
 rw [qja hl,if_neg (by rw [h1]; simp),if_neg (fun h=>h (by rw [<- hR,h2]; rfl)),if_pos (by rw [<- hc]; exact hne),hc]
theorem qtG (hl:l = (D.length:Int)) (hid:(qH k n' t s l = false/\e = 2/\R = z)∨(qH k n' t s l = true/\e = 0/\R = sha (qaI k n' t s O ++ (dgs D).flatten))) (he:e = 0) (hR:R = o) (hc:u = qci k n' t s l (dgs D) i b) (hu:u = 0):qfQ o M L ⟨k,n',t,s,O,dgs D⟩ i b = if i ∈ L.map Prod.fst then 7 else if qg1 M L then 8 else 0:=by
 obtain ⟨h1,h2⟩:=qo8 hid he
 have hl':(((dgs D).length:Nat):Int) = l:=by rw [hl]; simp [dgs]
 unfold qfQ
 simp only [hl']
 rw [qja hl,if_neg (by rw [h1]; simp),if_neg (fun h=>h (by rw [<- hR,h2]; rfl)),if_neg (by rw [<- hc,hu]; simp)]
theorem qnj (hq:∀ (M:Option ManV) (L:PcL),qbP h r d c n P M L->u = (J.length:Int)/\qj J = L.map Prod.fst/\∀ row,row ∈ J->row.length = 1) (h1:qbP h r d c n P M L):u = (J.length:Int)/\u <= 1000/\qj J = L.map Prod.fst/\∀ row,row ∈ J->row.length = 1:=by
 obtain ⟨a,b,e⟩:=hq M L h1
 refine ⟨a,?_,b,e⟩
 have h2:=congrArg List.length b
 rw [qan,List.length_map] at h2
 have:=h1.2.2.2.1
 omega
theorem q7I (hl:l = (D.length:Int)) (hid:(qH k n' t s l = false/\e = 2/\R = z)∨(qH k n' t s l = true/\e = 0/\R = sha (qaI k n' t s O ++ (dgs D).flatten))) (he:e = 0) (hR:R = o) (hc:u = qci k n' t s l (dgs D) i b) (hu:u = 0) {u':Int}
  (hq:∀ (M:Option ManV) (L:PcL),qbP h r d c n P M L->u' = (J.length:Int)/\qj J = L.map Prod.fst/\∀ row,row ∈ J->row.length = 1) (h1:qbP h r d c n P M L) (hx:x = decide (i ∈ qj J)) (ht:x = true):7 = qfQ o M L ⟨k,n',t,s,O,dgs D⟩ i b:=by
 rw [qtG hl hid he hR hc hu,if_pos]
 rw [<- (hq M L h1).2.1]; exact q7G hx ht
theorem q7N (hl:l = (D.length:Int)) (hid:(qH k n' t s l = false/\e = 2/\R = z)∨(qH k n' t s l = true/\e = 0/\R = sha (qaI k n' t s O ++ (dgs D).flatten))) (he:e = 0) (hR:R = o) (hc:u = qci k n' t s l (dgs D) i b) (hu:u = 0) {u':Int}
  (hq:∀ (M:Option ManV) (L:PcL),qbP h r d c n P M L->u' = (J.length:Int)/\qj J = L.map Prod.fst/\∀ row,row ∈ J->row.length = 1) (h1:qbP h r d c n P M L) (hx:x = decide (i ∈ qj J)) (ht:x = false) (hr:∀ (M:Option ManV) (L:PcL),qbP h r d c n P M L->y = qg1 M L):qfQ o M L ⟨k,n',t,s,O,dgs D⟩ i b = if y then 8 else 0:=by
 rw [qtG hl hid he hR hc hu,if_neg,<- hr M L h1]
 rw [<- (hq M L h1).2.1]; exact qyS hx ht
theorem q5m {v:Value} (hv:v.oneCell' = true) (hRd:Rd h k32 v D) (hD:qf8 D) (hO:qS (qf J 32)) (hok:qH k n' t s l = true) (hl:l = (D.length:Int)) :
  qhF h [[Value.int .i64 k,Value.int .i64 n',Value.int .i64 t,Value.int .i64 s] ++ ((qf J 32).map (Value.int .u8) ++ [v])] ⟨k,n',t,s,qf J 32,dgs D⟩:=by
 refine ⟨_,D,rfl,⟨by simp [qu3,qf],fun c kk w hk hw=>?_⟩,hRd,hD,rfl,rfl,rfl,rfl,rfl,rfl,hO,by rw [qja hl]; exact hok⟩
 unfold qu3 at hk
 rcases Nat.lt_or_ge c 4 with h4 | h4
 ·rw [List.getElem?_append_left (by simpa using h4),List.getElem?_replicate,if_pos h4] at hk
  rw [List.getElem?_append_left (by simpa using h4)] at hw
  obtain rfl:=(Option.some.inj hk).symm
  match c,h4 with
  | 0,_=>obtain rfl:=(Option.some.inj hw).symm; rfl
  | 1,_=>obtain rfl:=(Option.some.inj hw).symm; rfl
  | 2,_=>obtain rfl:=(Option.some.inj hw).symm; rfl
  | 3,_=>obtain rfl:=(Option.some.inj hw).symm; rfl
 ·rw [List.getElem?_append_right (by simpa using h4)] at hk
  rw [List.getElem?_append_right (by simpa using h4)] at hw
  simp only [List.length_replicate,List.length_cons,List.length_nil] at hk hw
  rcases Nat.lt_or_ge (c - 4) 32 with h5 | h5
  ·rw [List.getElem?_append_left (by simpa using h5),List.getElem?_replicate,if_pos h5] at hk
   rw [List.getElem?_append_left (by simp [qf]; omega),List.getElem?_map] at hw
   obtain rfl:=(Option.some.inj hk).symm
   obtain ⟨q,_,rfl⟩:=Option.map_eq_some_iff.1 hw
   rfl
  ·rw [List.getElem?_append_right (by simpa using h5)] at hk
   rw [List.getElem?_append_right (by simp [qf]; omega)] at hw
   simp only [List.length_replicate,List.length_map] at hk hw
   rw [show (qf J 32).length = 32 by simp [qf]] at hw
   match hc:c - 4 - 32,hk with
   | 0,hk =>
    rw [hc] at hw
    obtain rfl:=(Option.some.inj hk).symm
    obtain rfl:=(Option.some.inj hw).symm
    unfold CK.fits; exact hv
   | q + 1,hk=>simp at hk
theorem q6v {v:Value} {B d':qc} {r':Option Addr} {m:ManV} (h1:qbP h r d c n P M L) (hl:Hp.le h h') (hRd:Rd h' kB v B) (hB:qB B) (hb9:(B.length:Int) <= 9000) (hm:qhF h' d' m) (hy:qg1 M L = false):qbP h' r' d' 1 (n + 1) (P ++ [[.int .i64 i,v]]) (some m) (L ++ [(i,bI B)]):=by
 have h2:=qpW h1 hl
 obtain ⟨a1,a2,a3,a4,a5⟩:=h2
 have hlen:L.length < 255:=by
  rcases a5 with ⟨_,_,_,_,rfl⟩ | ⟨m0,rfl,_,hm0,_⟩
  ·decide
  ·obtain ⟨_,_,_,_,_,_,_,_,_,_,_,_,_,hok⟩:=hm0
   unfold qg1 at hy
   have hk:=of_decide_eq_false hy
   have hk2:m0.k <= 255:=by
    unfold ManV.ok qH qbl at hok
    simp at hok
    omega
   omega
 have hPl:=a2.1
 refine ⟨by rw [List.length_append,List.length_singleton]; omega,⟨by rw [List.length_append,List.length_append,hPl]; rfl,fun j hj=>?_,fun j hj=>?_⟩,fun x hx=>?_,by rw [List.length_append,List.length_singleton]; omega,.inr ⟨m,rfl,rfl,hm,by simp⟩⟩
 ·rw [List.length_append,List.length_singleton] at hj
  rcases Nat.lt_or_ge j P.length with hjP | hjP
  ·obtain ⟨i0,v0,d0,e1,e2⟩:=a2.2.1 j hjP
   exact ⟨i0,v0,d0,by rw [List.getElem?_append_left hjP]; exact e1,e2⟩
  ·have:j = P.length:=by omega
   subst this
   exact ⟨i,v,B,by rw [List.getElem?_append_right (Nat.le_refl _),Nat.sub_self]; rfl,hRd,hB⟩
 ·rw [List.length_append,List.length_singleton] at hj
  rcases Nat.lt_or_ge j P.length with hjP | hjP
  ·have h3:=a2.2.2 j hjP
   have e1:pcI (P ++ [[.int .i64 i,v]]) j = pcI P j:=by unfold pcI qg qao; rw [Int.toNat_natCast,List.getElem?_append_left hjP]
   have e2:pcD h' (P ++ [[.int .i64 i,v]]) j = pcD h' P j:=by unfold pcD qao; rw [Int.toNat_natCast,List.getElem?_append_left hjP]
   rw [e1,e2,h3,List.getD_eq_getElem?_getD,List.getD_eq_getElem?_getD,List.getElem?_append_left (by omega)]
  ·have:j = P.length:=by omega
   subst this
   have e1:pcI (P ++ [[.int .i64 i,v]]) P.length = i:=by unfold pcI qg qao; rw [Int.toNat_natCast,List.getElem?_append_right (Nat.le_refl _),Nat.sub_self]; rfl
   have e2:pcD h' (P ++ [[.int .i64 i,v]]) P.length = bI B:=by
    unfold pcD qao
    rw [Int.toNat_natCast,List.getElem?_append_right (Nat.le_refl _),Nat.sub_self]
    exact qiK hRd
   rw [e1,e2,hPl,List.getD_eq_getElem?_getD,List.getElem?_append_right (Nat.le_refl _),Nat.sub_self]; rfl
 ·rcases List.mem_append.1 hx with hx | hx
  ·exact a3 x hx
  ·rw [List.mem_singleton.1 hx,bI_len]; exact hb9
end
end
theorem q5D {h h':Hp} {r r':Option Addr} {d P:qc} {c n e i:Int} {M:Option ManV} {L:PcL} {k n' t s l:Int} {R S z:List Int} {D D' B B' J:qc} {y:Bool} {a a':Option Addr} {x x' q q':Nat} (h1:qbP h r d c n P M L) (hl:Hp.le h h')
  (hid:(qH k n' t s l = false/\e = 2/\R = z)∨(qH k n' t s l = true/\e = 0/\R = S)) (he:e = 0) (hy:∀ (M:Option ManV) (L:PcL),qbP h r d c n P M L->y = qg1 M L) (hyf:y = false) (hRb:Rd h' kB (.slice a B'.length q) B') (eB:B' = B) (hRd:Rd h' k32 (.slice a' D'.length q') D') (eD:D' = D)
  (hx:x = B.length) (hx':x' = D.length) (hB:qB B) (hb9:(B.length:Int) <= 9000) (hD:qf8 D) (hO:qS (qf J 32)) (hml:l = (D.length:Int)) :
  qbP h' r' [[Value.int .i64 k,Value.int .i64 n',Value.int .i64 t,Value.int .i64 s] ++ ((qf J 32).map (Value.int .u8) ++ [.slice a' x' q'])] 1 (n + 1) (P ++ [[.int .i64 i,.slice a x q]]) (some ⟨k,n',t,s,qf J 32,dgs D⟩) (L ++ [(i,bI B)]):=by
 subst eB eD hx hx'
 exact q6v h1 hl hRb hB hb9 (q5m rfl hRd hD hO (qo8 hid he).1 hml) (by rw [<- hy M L h1]; exact hyf)
theorem qw2 {ρ:Env} {l:List SH} {H:Hp} (r ty d c:Nat) (pat:List CK) (hs:qY ρ l H) (hm:SH.arr r ty pat (.var d) (.var c) ∈ l):Rd H pat (.slice (qm (ρ r).r 0) (ρ d).d.length (ρ c).i.toNat) (ρ d).d:=by
 obtain ⟨hx,hl,hd⟩:=qjo hs hm
 exact q12 hd hl rfl rfl
set_option maxHeartbeats 4000000 in
theorem q3r:qdN.ok Tryz.prog:=q31 (by simp [q4s,q0s,qwI,qmz,qu2,q0P,qrz]) fun ρ hg hp=>by
 obtain ⟨⟨⟨M,L,h⟩,hO,hMan,hi64,hpa,h9⟩,hGr,hGd⟩:=hp
 have h0:qbP (ρ 9).h (ρ 2).r (ρ 3).d (ρ 4).i (ρ 6).i (ρ 8).d M L:=h
 obtain ⟨q0,q1,q2,q3,hOm,hml,hml2,hD⟩:=hMan
 obtain ⟨p0,p1,p2,p3⟩:=hpa
 simp only [Nat.reduceAdd] at q0 q1 q2 q3 hOm hml hml2 hD p0 p1 p2 p3
 obtain ⟨hn0,hp0,_,h255,_⟩:=id h0
 have hpl0:=hp0.1
 simp (config:={ maxSteps:=4000000 }) [qqz,qdN,idC,qoZ,qwV,qdy,qpu,q01,qdg,qaL,qcc,qdv,qbO,gaB,qcf,qbb,qt,qjT,qgZ,qxd,qtO,qyK,qix,qbc,gOk,hGr,hGd]
 repeat' (first | with_reducible apply And.intro | with_reducible intro _)
 all_goals first
  | assumption
  | omega
  | exact ⟨M,L,h0⟩
  | exact q7z (by assumption) (by assumption) (by assumption)
  | exact q6E (by assumption) (by assumption) (by assumption) (by assumption)
  | exact q7I (by assumption) (by assumption) (by assumption) (by assumption) (by assumption) (by assumption) (by assumption) (by assumption) (by assumption) (by assumption)
  | (rw [q7N (by assumption) (by assumption) (by assumption) (by assumption) (by assumption) (by assumption) (by assumption) (by assumption) (by assumption) (by assumption) (by assumption)]; simp [*]; done)
  | exact (qnj (by assumption) h0).1
  | exact Int.le_trans (qnj (by assumption) h0).2.1 (by decide)
  | exact (qnj (by assumption) h0).2.2.2 _ (by assumption)
  | exact q71 (by assumption) (by assumption) (by assumption) (by assumption) (by assumption) (by assumption)
  | exact q61 (by assumption) (by have h:=qeP 9 20 (by assumption) (by simp); simpa using h) (by assumption)
  | exact qpW (by assumption) (by have h:=qeP 9 20 (by assumption) (by simp); simpa using h)
  | skip
 rename_i hst M1 L1 h1
 have hle:=qeP 9 20 hst (by simp)
 have hRb:=qw2 43 5 45 44 kB hst (by simp [kB])
 have hRd:=qw2 40 24 42 41 k32 hst (by simp [k32])
 simp at hRb hRd hle
 exact q5D (J:=(ρ 14).d) h1 hle (by assumption) (by assumption) (by assumption) (by assumption) hRb (by assumption) hRd (by assumption) (by omega) (by omega) p3 (by omega) hD hOm hml
end Go.Proofs

set_option linter.unusedSimpArgs false
set_option linter.unusedVariables false
set_option maxRecDepth 100000
namespace Go.Proofs
open Go Go.Eng

@[simp] def qbA:T:=.rcons (.vint .u8 (.lit 1)) (.rcons o8 (.rcons o8 (.rcons o8 (.rcons o8 (.rcons o8 (.rcons o8 (.rcons o8 (.rcons o8 (.rcons o8 (.rcons o8 (.rcons o8 (.rcons o8 (.rcons o8 (.rcons o8 (.rcons o8 (.rcons o8 (.rcons o8 (.rcons o8 (.rcons o8 (.rcons o8 (.rcons o8 (.rcons o8 (.rcons o8 (.rcons o8 (.rcons o8 (.rcons o8 (.rcons o8 (.rcons o8 (.rcons o8 (.rcons o8 (.rcons o8 .rnil)))))))))))))))))))))))))))))))
@[simp] def qgj:Sg:=sg 0 [bg 9 68,bv 8 67,bv 4 63,bv 3 62,bv 7 66,bv 6 65,bg 5 64,bg 2 61,bt 1 (s8 40),bg 0 39]
@[simp] def qmp:Sg:=sg 0 [bv 11 1,bv 9 28,bv 8 32,bv 7 28,bt 6 (.lit 1),bg 5 27,bt 3 (.lit 1),bt 2 (.lit 1),bt 1 (.lit 1),bt 0 (.lit 1),bt 4 (r8 26),bg 10 0]
@[simp] def qmH:Sg:=sg 0 [bv 11 1,bt 9 (.lit 1),bt 8 (.rcons (.vint .u8 (.lit 120)) .rnil),bv 1 23,bt 7 (.lit 1),bt 6 (.lit 1),bg 5 24,bt 4 (.lit 1),bt 3 (.lit 1),bt 2 (.lit 1),bg 0 22,bg 10 0]
@[simp] def qmr:Sg:=sg 0 [bv 27 1,bv 25 59,bv 24 60,bv 19 52,bv 18 53,bg 9 48,bv 8 47,bv 4 43,bv 3 42,bv 7 46,bv 6 45,bg 5 44,bg 2 41,bt 1 (r8 40),bv 23 59,bt 22 (.dlen (.var 60)),bg 21 58,bt 20 (.icell (.var 56) (.lit 0) 0),bv 17 52,bt 16 (.lit 1),bg 15 51,bt 13 (.lit 1),bt 12 (.lit 1),bt 11 (.lit 1),bt 10 (.lit 1),bt 14 (r8 50),bg 0 39,bg 26 0]
@[simp] def qok:Sg:=sg 0 [bv 3 1,bt 1 (.lit 1),bt 0 qbA,bg 2 0]
@[simp] def qnH:Sg:=sg 0 [bv 3 1,bt 1 (.lit 0),bt 0 qbA,bg 2 0]
@[simp] def qnV:Sg:=sg 0 [bv 3 1,bt 1 (.lit 3),bt 0 qbA,bg 2 0]
@[simp] def qnW:Sg:=sg 0 [bg 5 13,bv 4 12,bt 3 (.lit 5),bt 2 (.icell (.var 6) (.lit 0) 0),bt 1 qbA,bg 0 11]
@[simp] def qnP:Sg:=sg 0 [bv 9 1,bv 7 5,bv 6 6,bv 5 5,bt 4 (.lit 2),bg 3 3,bt 2 (.lit 2),bt 1 (.icell (.var 6) (.lit 2) 0),bt 0 qbA,bg 8 0]
@[simp] def qo1:Sg:=sg 0 [bv 17 1,bt 15 (.lit 0),bt 14 .dnil,bv 10 5,bv 9 6,bg 5 16,bv 4 12,bt 13 (.lit 0),bt 12 (.lit 0),(11,.nil),bv 8 5,bv 7 4,bg 6 3,bt 3 (.lit 17),bt 2 (.icell (.var 6) (.lit 1) 0),bt 1 qbA,bg 0 11,bg 16 0]
@[simp] def qoR:Sg:=sg 0 [bv 17 1,bt 15 (.lit 0),bt 14 .dnil,bv 10 5,bv 9 6,bg 5 14,bv 4 12,bt 13 (.lit 0),bt 12 (.lit 0),(11,.nil),bv 8 5,bv 7 4,bg 6 3,bt 3 (.lit 16),bt 2 (.icell (.var 6) (.lit 1) 0),bt 1 qbA,bg 0 11,bg 16 0]
@[simp] def qnF:Sg:=sg 0 [bv 11 1,bt 6 (.lit 3),bt 5 (.dapp (.rcons (.vint .i64 (.lit 0)) .rnil) (.dapp (.rcons (.vint .i64 (.lit 1)) .rnil) (.rcons (.vint .i64 (.lit 2)) .rnil))),bt 9 (.bl false),bt 8 (.bl true),bt 7 (.lit 3),bt 4 (.lit 3),bt 3 (.lit 3),bg 2 9,bt 1 (.lit 3),bt 0 qbA,bg 10 0]
@[simp] def qo4:Sg:=sg 0 [bv 11 1,bt 6 (.lit 3),bt 5 (.dapp (.rcons (.vint .i64 (.lit 0)) .rnil) (.dapp (.rcons (.vint .i64 (.lit 1)) .rnil) (.rcons (.vint .i64 (.lit 2)) .rnil))),bt 9 (.bl false),bt 8 (.bl false),bt 7 (.lit 3),bt 4 (.lit 3),bt 3 (.lit 3),bg 2 7,bt 1 (.lit 1),bt 0 qbA,bg 10 0]
def qmV:Out:=(.fresh 2 (.pre 0 qnV (.both (.fresh 3 (.fresh 4 (.fresh 5 (.fresh 6 (.post 0 0 qnV 3 (.need (.cmp .leq (.lit 0) (.var 4)) (.br (.cmp .neq (.var 4) (.lit 3))
 (.stuck 7 0 0)
 (.fresh 7 (.pre 1 qo4 (.both (.fresh 8 (.post 1 0 qo4 8 (.br (.cmp .neq (.var 8) (.lit 1))
 (.stuck 7 0 0)
 (.fresh 9 (.pre 1 qnF (.both (.fresh 10 (.post 1 0 qnF 10 (.br (.cmp .neq (.var 10) (.lit 2))
 (.stuck 7 0 0)
 (.pre 2 (sg 0 []) (.both (.fresh 11 (.fresh 12 (.fresh 13 (.post 2 0 (sg 0 []) 11 (.need (.cmp .lss (.lit 0) (.var 4)) (.need (.cmp .lss (.lit 0) (.dlen (.var 6))) (.both (.pre 3 qnW (.both (.fresh 14 (.post 3 0 qnW 14 (.need (.cmp .lss (.lit 1) (.var 4)) (.need (.cmp .lss (.lit 1) (.dlen (.var 6))) (.both (.pre 4 qoR (.both (.fresh 15 (.fresh 16 (.post 4 0 qoR 15 (.br (.not (.var 15))
 (.both (.both (.both (.both (.stuck 7 0 0) .top) .top) .top) .top)
 (.both (.pre 4 qo1 (.both (.fresh 17 (.fresh 18 (.post 4 0 qo1 17 (.br (.var 17)
 (.both (.both (.both (.stuck 7 0 0) .top) .top) .top)
 (.need (.cmp .lss (.lit 2) (.var 4)) (.need (.cmp .lss (.lit 2) (.dlen (.var 6))) (.know (.cmp .leq (.dlen (.var 6)) (.var 5)) (.need (.cmp .leq (.lit 0) (.var 5)) (.need (.cmp .leq (.lit 2) (.var 5)) (.both (.pre 5 qnP (.both (.fresh 19 (.post 5 0 qnP 19 (.br (.not (.var 19))
 (.both (.both (.stuck 7 0 0) .top) .top)
 (.both (.pre 6 qnH (.both (.fresh 20 (.post 6 0 qnH 20 (.both (.pre 6 qok (.both (.fresh 21 (.post 6 0 qok 21 (.br (.c2 .req (r8 20) (r8 21))
 (.stuck 7 0 0)
 (.pre 7 (sg 0 []) (.both (.fresh 22 (.fresh 23 (.post 7 0 (sg 0 []) 22 (.fresh 24 (.fresh 25 (.pre 8 qmH (.both (.fresh 26 (.fresh 27 (.fresh 28 (.fresh 29 (.fresh 30 (.fresh 31 (.fresh 32 (.fresh 33 (.fresh 34 (.post 8 0 qmH 26 (.fresh 35 (.pre 9 qmp (.both (.fresh 36 (.fresh 37 (.post 9 0 qmp 36 (.fresh 38 (.both (.pre 10 (sg 0 [bt 0 (r8 36)]) (.both (.fresh 39 (.post 10 0 (sg 0 [bt 0 (r8 36)]) 39 (.pack [.cells 38 24 [(x8 0 36),(x8 1 36),(x8 2 36),(x8 3 36),(x8 4 36),(x8 5 36),(x8 6 36),(x8 7 36),(x8 8 36),(x8 9 36),(x8 10 36),(x8 11 36),(x8 12 36),(x8 13 36),(x8 14 36),(x8 15 36),(x8 16 36),(x8 17 36),(x8 18 36),(x8 19 36),(x8 20 36),(x8 21 36),(x8 22 36),(x8 23 36),(x8 24 36),(x8 25 36),(x8 26 36),(x8 27 36),(x8 28 36),(x8 29 36),(x8 30 36),(x8 31 36)],.arr 22 151 [CK.int .u32,CK.int .i32,CK.int .u32,CK.int .u8,CK.int .u8,CK.int .u8,CK.int .u8,CK.int .u8,CK.int .u8,CK.int .u8,CK.int .u8,CK.int .u8,CK.int .u8,CK.int .u8,CK.int .u8,CK.int .u8,CK.int .u8,CK.int .u8,CK.int .u8,CK.int .u8,CK.int .u8,CK.int .u8,CK.int .u8,CK.int .u8,CK.int .u8,CK.int .u8,CK.int .u8,CK.int .u8,CK.int .u8,CK.int .u8,CK.int .u8,CK.int .u8,CK.int .u8,CK.int .u8,CK.int .u8,CK.int .u8,CK.int .u8,CK.int .u8,CK.int .u8,CK.int .u8,CK.int .u8,CK.int .u8,CK.int .u8,CK.int .u8,CK.int .u8,CK.int .u8,CK.int .u8,CK.int .u8,CK.int .u8,CK.int .u8,CK.int .u8,CK.int .u8,CK.int .u8,CK.int .u8,CK.int .u8,CK.int .u8,CK.int .u8,CK.int .u8,CK.int .u8,CK.int .u8,CK.int .u8,CK.int .u8,CK.int .u8,CK.int .u8,CK.int .u8,CK.int .u8,CK.int .u8,CK.int .u8,CK.int .u8,CK.int .u8,CK.int .u8,CK.int .u8,CK.int .u8,CK.int .u8,CK.int .u8,CK.int .u8,CK.int .u8,CK.int .u8,CK.int .u8,CK.int .u8,CK.int .u8,CK.int .u8,CK.int .u8,CK.int .u8,CK.int .u8,CK.int .u8,CK.int .u8,CK.int .u8,CK.int .u8,CK.int .u8,CK.int .u8,CK.int .u8,CK.int .u8,CK.int .u8,CK.int .u8,CK.int .u8,CK.int .u8,CK.int .u8,CK.int .u8,CK.int .u8,CK.int .u8,CK.int .u8,CK.int .u8,CK.int .u8,CK.int .u8,CK.int .u8,CK.int .u8,CK.int .u8,CK.int .u8,CK.int .u8,CK.int .u8,CK.int .u8,CK.int .u8,CK.int .u8,CK.int .u8,CK.int .u8,CK.int .u8,CK.int .u8,CK.int .u8,CK.int .u8,CK.int .u8,CK.int .u8,CK.int .u8,CK.int .u8,CK.int .u8,CK.int .u8,CK.int .u8,CK.int .u8,CK.int .u8,CK.int .u8,CK.int .u8,CK.int .u8,CK.int .u8,CK.int .u8,CK.int .u8,CK.int .u8,CK.int .u8,CK.int .u8,CK.int .u8,CK.int .u8,CK.int .u8,CK.int .u8,CK.int .u8,CK.int .u8,CK.int .u8,CK.int .u8,CK.int .u8,CK.int .u8,CK.int .u8,CK.int .u8,CK.int .u8,CK.int .u8,CK.int .u8,CK.int .u8,CK.int .u8,CK.int .u8,CK.int .u8,CK.int .u8,CK.int .u8,CK.int .u8,CK.int .u8,CK.int .u8,CK.int .u8,CK.int .u8,CK.int .u8,CK.int .u8,CK.int .u8,CK.int .u8,CK.int .u8,CK.int .u8,CK.int .u8,CK.int .u8,CK.int .u8,CK.int .u8,CK.int .u8,CK.int .u8,CK.int .u8,CK.int .u8,CK.int .u8,CK.int .u8,CK.int .u8,CK.int .u8,CK.int .u8,CK.int .u8,CK.int .u8,CK.int .u8,CK.int .u8,CK.int .u8,CK.int .u8,CK.int .u8,CK.int .u8,CK.int .u8,CK.int .u8,CK.int .u8,CK.int .u8,CK.int .u8,CK.int .u8,CK.int .u8,CK.int .u8,CK.int .u8,CK.int .u8,CK.int .u8,CK.int .u8,CK.int .u8,CK.int .u8,CK.int .u8,CK.int .u8,CK.int .u8,CK.int .u8,CK.int .u8,CK.int .u8,CK.int .u8,CK.int .u8,CK.int .u8,CK.int .u8,CK.int .u8,CK.int .u8,CK.int .u8,CK.int .u8,CK.int .u8,CK.int .u8,CK.int .u8,CK.int .u8,CK.int .u8,CK.int .u8,CK.int .u8,CK.int .u8,CK.int .u8,CK.int .u8,CK.int .u8,CK.int .u8,CK.int .u8,CK.int .u8,CK.int .u8,CK.int .u8,CK.int .u8,CK.int .u8,CK.int .u8,CK.int .u8,CK.int .u8,CK.int .u8,CK.int .u8,CK.int .u8,CK.int .u8,CK.int .u8,CK.int .u8,CK.int .u8,CK.int .u8,CK.int .u8,CK.int .u8,CK.int .u8,CK.int .u8,CK.int .u8,CK.int .u8,CK.int .u8,CK.int .u8,CK.int .u8,CK.int .u8,CK.int .u8,CK.int .u8,CK.int .u8,CK.int .u8,CK.int .u8,CK.int .u8,CK.int .u8,CK.int .u8,CK.int .u8,CK.int .u8,CK.int .u8,CK.int .u8,CK.int .u8,CK.int .u8,CK.int .u8,CK.int .u8,CK.int .u8,CK.int .u8,CK.int .u8,CK.int .u8,CK.int .u8,CK.int .u8,CK.int .u8,CK.int .u8,CK.int .u8,CK.int .u8,CK.int .u8,CK.int .u8,CK.int .u8,CK.int .u8,CK.int .u8,CK.int .u8,CK.int .u8,CK.int .u8,CK.int .u8,CK.int .u8,CK.int .u8,CK.int .u8,CK.int .u8,CK.int .u8,CK.int .u8,CK.int .u8,CK.int .u8,CK.int .u8,CK.int .u8,CK.int .u8,CK.int .u8,CK.int .u8,CK.int .u8,CK.int .u8,CK.int .u8,CK.int .u8,CK.int .u8,CK.int .u8,CK.int .u8,CK.int .u8,CK.int .u8,CK.int .u8,CK.int .u8,CK.int .u8,CK.int .u8,CK.int .u8,CK.int .u8,CK.int .u8,CK.int .u8,CK.int .u8,CK.int .u8,CK.int .u8,CK.int .u8,CK.int .u8,CK.int .u8,CK.int .u8,CK.int .u8,CK.int .u8,CK.int .u8,CK.int .u8,CK.int .u8,CK.int .u8,CK.int .u8,CK.int .u8,CK.int .u8,CK.int .u8,CK.int .u8,CK.int .u8,CK.int .u8,CK.int .u8,CK.int .u8,CK.int .u8,CK.int .u8,CK.int .u8,CK.int .u8,CK.int .u8,CK.int .u8,CK.int .u8,CK.int .u8,CK.int .u8,CK.int .u8,CK.int .u8,CK.int .u8,CK.int .u8,CK.int .u8,CK.int .u8,CK.int .u8,CK.int .u8,CK.int .u8,CK.int .u8,CK.int .u8,CK.int .u8,CK.int .u8,CK.int .u8,CK.int .u8,CK.int .u8,CK.int .u8,CK.int .u8,CK.int .u8,CK.int .u8,CK.int .u8,CK.int .u8,CK.int .u8,CK.int .u8,CK.int .u8,CK.int .u8,CK.int .u8,CK.int .u8,CK.int .u8,CK.int .u8,CK.int .u8,CK.int .u8,CK.int .u8,CK.int .u8,CK.int .u8,CK.int .u8,CK.int .u8,CK.int .u8,CK.int .u8,CK.int .u8,CK.int .u8,CK.int .u8,CK.int .u8,CK.int .u8,CK.int .u8,CK.int .u8,CK.int .u8,CK.int .u8,CK.int .u8,CK.int .u8,CK.int .u8,CK.int .u8,CK.int .u8,CK.int .u8,CK.int .u8,CK.int .u8,CK.int .u8,CK.int .u8,CK.int .u8,CK.int .u8,CK.int .u8,CK.int .u8,CK.int .u8,CK.int .u8,CK.int .u8,CK.int .u8,CK.int .u8,CK.int .u8,CK.int .u8,CK.int .u8,CK.int .u8,CK.int .u8,CK.int .u8,CK.int .u8,CK.int .u8,CK.int .u8,CK.int .u8,CK.int .u8,CK.int .u8,CK.int .u8,CK.int .u8,CK.int .u8,CK.int .u8,CK.int .u8,CK.int .u8,CK.int .u8,CK.int .u8,CK.int .u8,CK.int .u8,CK.int .u8,CK.int .u8,CK.int .u8,CK.int .u8,CK.int .u8,CK.int .u8,CK.int .u8,CK.int .u8,CK.int .u8,CK.int .u8,CK.int .u8,CK.int .u8,CK.int .u8,CK.int .u8,CK.int .u8,CK.int .u8,CK.int .u8,CK.int .u8,CK.int .u8,CK.int .u8,CK.int .u8,CK.int .u8,CK.int .u8,CK.int .u8,CK.int .u8,CK.int .u8,CK.int .u8,CK.int .u8,CK.int .u8,CK.int .u8,CK.int .u8,CK.int .u8,CK.int .u8,CK.int .u8,CK.int .u8,CK.int .u8,CK.int .u8,CK.int .u8,CK.int .u8,CK.int .u8,CK.int .u8,CK.int .u8,CK.int .u8,CK.int .u8,CK.int .u8,CK.int .u8,CK.int .u8,CK.int .u8,CK.int .u8,CK.int .u8,CK.int .u8,CK.int .u8,CK.int .u8,CK.int .u8,CK.int .u8,CK.int .u8,CK.int .u8,CK.int .u8,CK.int .u8,CK.int .u8,CK.int .u8,CK.int .u8,CK.int .u8,CK.int .u8,CK.int .u8,CK.int .u8,CK.int .u8,CK.int .u8,CK.int .u8,CK.int .u8,CK.int .i64,CK.int .i64,CK.int .i64,CK.int .i64,CK.int .i64,CK.int .i64,CK.int .i64,CK.int .i64,CK.int .i64,CK.int .i64,CK.int .i64,CK.int .i64,CK.int .i64,CK.int .i64,CK.int .i64,CK.int .i64,CK.int .i64,CK.int .i64,CK.int .i64,CK.int .i64,CK.int .i64,CK.int .i64,CK.int .i64,CK.int .i64,CK.int .i64,CK.int .i64,CK.int .i64,CK.int .i64,CK.int .i64,CK.int .i64,CK.int .i64,CK.int .i64,CK.int .i64,CK.int .i64,CK.int .i64,CK.int .i64,CK.int .i64,CK.int .i64,CK.int .i64,CK.int .i64,CK.int .i64,CK.int .i64,CK.int .i64,CK.int .i64,CK.int .i64,CK.int .i64,CK.int .i64,CK.int .i64,CK.int .i64,CK.int .i64,CK.int .i64,CK.int .i64,CK.int .i64,CK.int .i64,CK.int .i64,CK.int .i64,CK.int .i64,CK.int .i64,CK.int .i64,CK.int .i64,CK.int .i64,CK.int .i64,CK.int .i64,CK.int .i64,CK.int .i64,CK.int .i64,CK.int .i64,CK.int .i64,CK.int .i64,CK.int .i64,CK.int .i64,CK.int .i64,CK.int .i64,CK.int .i64,CK.int .i64,CK.int .i64,CK.int .i64,CK.int .i64,CK.int .i64,CK.int .i64,CK.int .i64,CK.int .i64,CK.int .i64,CK.int .i64,CK.int .i64,CK.int .i64,CK.int .i64,CK.int .i64,CK.int .i64,CK.int .i64,CK.int .i64,CK.int .i64,CK.int .i64,CK.int .i64,CK.int .i64,CK.int .i64,CK.int .i64,CK.int .i64,CK.int .i64,CK.int .i64,CK.int .i64,CK.int .i64,CK.int .i64,CK.int .i64,CK.int .i64,CK.int .i64,CK.int .i64,CK.int .i64,CK.int .i64,CK.int .i64,CK.int .i64,CK.int .i64,CK.int .i64,CK.int .i64,CK.int .i64,CK.int .i64,CK.int .i64,CK.int .i64,CK.int .i64,CK.int .i64,CK.int .i64,CK.int .i64,CK.int .i64,CK.int .i64,CK.int .i64,CK.int .i64,CK.int .i64,CK.int .i64,CK.int .i64,CK.int .i64,CK.int .i64,CK.int .i64,CK.int .i64,CK.int .i64,CK.int .i64,CK.int .i64,CK.int .i64,CK.int .i64,CK.int .i64,CK.int .i64,CK.int .i64,CK.int .i64,CK.int .i64,CK.int .i64,CK.int .i64,CK.int .i64,CK.int .i64,CK.int .i64,CK.int .i64,CK.int .i64,CK.int .i64,CK.int .i64,CK.int .i64,CK.int .i64,CK.int .i64,CK.int .i64,CK.int .i64,CK.int .i64,CK.int .i64,CK.int .i64,CK.int .i64,CK.int .i64,CK.int .i64,CK.int .i64,CK.int .i64,CK.int .i64,CK.int .i64,CK.int .i64,CK.int .i64,CK.int .i64,CK.int .i64,CK.int .i64,CK.int .i64,CK.int .i64,CK.int .i64,CK.int .i64,CK.int .i64,CK.int .i64,CK.int .i64,CK.int .i64,CK.int .i64,CK.int .i64,CK.int .i64,CK.int .i64,CK.int .i64,CK.int .i64,CK.int .i64,CK.int .i64,CK.int .i64,CK.int .i64,CK.int .i64,CK.int .i64,CK.int .i64,CK.int .i64,CK.int .i64,CK.int .i64,CK.int .i64,CK.int .i64,CK.int .i64,CK.int .i64,CK.int .i64,CK.int .i64,CK.int .i64,CK.int .i64,CK.int .i64,CK.int .i64,CK.int .i64,CK.int .i64,CK.int .i64,CK.int .i64,CK.int .i64,CK.int .i64,CK.int .i64,CK.int .i64,CK.int .i64,CK.int .i64,CK.int .i64,CK.int .i64,CK.int .i64,CK.int .i64,CK.int .i64,CK.int .i64,CK.int .i64,CK.int .i64,CK.int .i64,CK.int .i64,CK.int .i64,CK.int .i64,CK.int .i64,CK.int .i64,CK.int .i64,CK.int .i64,CK.int .i64,CK.int .i64,CK.int .i64,CK.int .i64,CK.int .i64,CK.int .i64,CK.int .i64,CK.int .i64,CK.int .i64,CK.int .i64,CK.int .i64,CK.int .i64,CK.int .i64,CK.int .i64,CK.int .i64,CK.int .i64,CK.int .i64,CK.int .i64,CK.int .i64,CK.int .i64,CK.int .i64,CK.int .i64,CK.int .i64,CK.int .i64] (.var 31) (.lit 1),.cells 11 179 [(.var 12)],.cells 9 3 [(.vint .i64 (.lit 0)),(.vint .i64 (.lit 1)),(.vint .i64 (.lit 2))],.cells 7 3 [(.vint .i64 (.lit 0)),(.vint .i64 (.lit 1)),(.vint .i64 (.lit 2))],.arr 3 3 [CK.int .i64] (.var 6) (.var 5),.cells 2 24 [(.vint .u8 (.lit 1)),o8,o8,o8,o8,o8,o8,o8,o8,o8,o8,o8,o8,o8,o8,o8,o8,o8,o8,o8,o8,o8,o8,o8,o8,o8,o8,o8,o8,o8,o8,o8]] 40 (.cut 0 39 (sg 1000 [bg 1018 34,bv 1017 33,bv 1014 32,bv 1013 28,bg 1012 27,bt 1011 (r8 26),bg 1009 40,bt 1008 .dnil,bt 1004 (.lit 0),bt 1003 .dnil,bt 1007 (.lit 0),bt 1006 (.lit 0),(1005,.nil),(1002,.nil),bt 1001 (s8 36),bg 1000 39,bv 1016 30,bg 1015 29,bg 1010 35]))))) .top)) (.fresh 39 (.fresh 40 (.fresh 41 (.fresh 42 (.fresh 43 (.fresh 44 (.fresh 45 (.fresh 46 (.fresh 47 (.fresh 48 (.fresh 49 (.fresh 50 (.fresh 51 (.fresh 52 (.fresh 53 (.fresh 54 (.fresh 55 (.fresh 56 (.fresh 57 (.hyp 0 39 (.need (.cmp .lss (.lit 0) (.dlen (.var 56))) (.both (.viewL (.vcell (.var 56) (.lit 0) 1) [CK.int .u8] [57] 58 (.pre 11 qmr (.both (.fresh 61 (.fresh 62 (.fresh 63 (.fresh 64 (.fresh 65 (.fresh 66 (.fresh 67 (.fresh 68 (.fresh 69 (.post 11 0 qmr 61 (.both (.both (.both (.br (.cmp .eql (.var 69) (.lit 0))
 (.both (.both (.pre 12 qgj (.both (.fresh 70 (.post 12 0 qgj 70 (.both (.both (.br (.var 70)
 (.both (.both (.pre 13 qgj (.both (.fresh 71 (.fresh 72 (.fresh 73 (.fresh 74 (.post 13 0 qgj 71 (.both (.need (.cmp .leq (.lit 0) (.var 72)) (.both (.both (.both (.need (.beq (.bl true) (.cmp .eql (.var 72) (.lit 1))) (.ret 0 (sg 2 []))) .top) .top) .top)) .top)))))) .top)) .top) .top)
 (.both (.both (.both (.both (.both (.both (.stuck 7 0 0) .top) .top) .top) .top) .top) .top)) .top) .top))) .top)) .top) .top)
 (.both (.both (.both (.both (.both (.both (.both (.both (.both (.both (.stuck 7 0 0) .top) .top) .top) .top) .top) .top) .top) .top) .top) .top)) .top) .top) .top))))))))))) .top))) .top))))))))))))))))))))))))))) .top))))))))))))) .top))))))) .top))))) .top)) .top))) .top)) .top)))) .top)) .top)))))))))) .top)) .top))))) .top)) .top))))) .top)) .top))))))) .top))))) .top)))))) .top)))))))))) .top)))
theorem qvL:ql ⟨Tryz.prog,qcR,[qcj,qfu,qdK,qf4,qce,qf0,qcm,qbE,qje,idC,qdO,qdN,qcc,qdg],[qpI]⟩ 100000 Tryz.f31 = qmV:=by kernel_rfl
theorem q0H (hd:∀ c ∈ ([qcj,qfu,qdK,qf4,qce,qf0,qcm,qbE,qje,idC,qdO,qdN,qcc,qdg]:List Ctr),c.ok Tryz.prog) (h:∀ ρ:Env,ρ.good->(qcR).pre ρ->qmV.den ⟨Tryz.prog,qcR,[qcj,qfu,qdK,qf4,qce,qf0,qcm,qbE,qje,idC,qdO,qdN,qcc,qdg],[qpI]⟩ ρ):(qcR).ok Tryz.prog :=
 qe Tryz.func31 (fun a w=>Tryz.call31 a w) hd 100000 (fun ρ hg hp=>by rw [qvL]; exact h ρ hg hp)
end Go.Proofs

set_option linter.unusedSimpArgs false
set_option linter.unusedVariables false
namespace Go.Proofs
open Go Go.Eng
def d1:List Int:=1 :: List.replicate 31 0
theorem quS:qP d1 0 1 = true:=by decide +kernel
theorem qsO:qP d1 0 2 = true:=by decide +kernel
theorem qsq:qP d1 1 2 = true:=by decide +kernel
theorem q2q:¬ qM d1 0 = qM d1 1:=by decide +kernel
theorem qwK:qab d1 [0,1,2] = [0,1,2]:=by
 symm
 refine qoW ⟨List.Perm.refl _,?_⟩ (by decide)
 simp [quS,qsO,qsq]
theorem qtu:qav [0,1,2] = [0,1,2]:=by decide
theorem q4T:qjN d1 3 = [0,1,2]:=by
 have h:qfZ 3 = [0,1,2]:=by decide
 rw [qjN,h,qn,qtu,qwK]; rfl
theorem qrc:qn d1 [0,1,2] 3 = [0,1,2]:=by
 rw [qn,qtu,qwK]; rfl
theorem q2s:qgp d1 1 [0,1,2] 3 false false = 1:=by simp [qgp,qrc]
theorem q3f:qgp d1 3 [0,1,2] 3 true false = 2:=by simp [qgp,qrc]
theorem q6p:qkM d1 2 2 [0,1] = true:=by
 have h:qav [0,1] = [0,1]:=by decide
 rw [qkM,h]; simp [qsO,qsq]
def cl1:Cl:=qem (fun _ _=>none) d1 0 5
theorem qzo:qdC cl1 d1 1 16 [0,1,2] [] = true:=by
 rw [qdC,List.any_eq_true]
 refine ⟨0,by simp,?_⟩
 have h:cl1 d1 ((0:Nat):Int) = some 5:=by simp [cl1,qem]
 rw [h]
 simp [quS,qkj]
theorem qyz:qdC cl1 d1 1 17 [0,1,2] [] = false:=by
 rw [qdC,List.any_eq_false]
 intro i _
 by_cases hi:i = 0
 ·subst hi
  have h:cl1 d1 ((0:Nat):Int) = some 5:=by simp [cl1,qem]
  rw [h]; simp [qkj]
 ·have h:cl1 d1 ((i:Nat):Int) = none:=by simp [cl1,qem,hi]
  rw [h]; simp
end Go.Proofs

set_option linter.unusedSimpArgs false
set_option linter.unusedVariables false
namespace Go.Proofs
open Go Go.Eng
theorem q50:qf [[Value.int .u8 1,.int .u8 0,.int .u8 0,.int .u8 0,.int .u8 0,.int .u8 0,.int .u8 0,.int .u8 0,.int .u8 0,.int .u8 0,.int .u8 0,.int .u8 0,.int .u8 0,.int .u8 0,.int .u8 0,.int .u8 0,.int .u8 0,.int .u8 0,.int .u8 0,.int .u8 0,.int .u8 0,.int .u8 0,.int .u8 0,.int .u8 0,.int .u8 0,.int .u8 0,.int .u8 0,.int .u8 0,.int .u8 0,.int .u8 0,.int .u8 0,.int .u8 0]] 32 = d1:=by rfl
theorem q4A:qS d1:=by intro x hx; simp [d1] at hx; rcases hx with rfl | rfl <;> decide
theorem q4c {h:Hp}:qbP h none [] 0 0 [] none []:=by
 refine ⟨rfl,⟨rfl,?_,?_⟩,?_,by decide,.inl ⟨rfl,rfl,rfl,rfl,rfl⟩⟩
 ·intro j hj; exact absurd hj (Nat.not_lt_zero j)
 ·intro j hj; exact absurd hj (Nat.not_lt_zero j)
 ·intro x hx; cases hx
theorem q7y:(qcn 1 1).2.2 = 1:=by kernel_rfl
theorem q3C:qB [[Value.int .u8 120]]:=by intro row hr; simp at hr; subst hr; decide
set_option pp.funBinderTypes false
set_option format.width 2000
set_option format.indent 1
set_option maxRecDepth 20000 in
set_option maxHeartbeats 4000000 in
theorem qtg (hd:∀ c ∈ ([qcj,qfu,qdK,qf4,qce,qf0,qcm,qbE,qje,idC,qdO,qdN,qcc,qdg]:List Ctr),c.ok Tryz.prog):qcR.ok Tryz.prog:=q0H hd fun ρ hg hp=>by
 obtain ⟨hGr,hGd⟩:=hp
 simp (config:={ maxSteps:=4000000 }) [qmV,qcR,qpI,qcj,qfu,q4u,qdK,qf4,qce,q43,qf0,q3X,qmc,qcm,qbE,qje,qgl,idC,qoZ,qwV,qdO,qdN,q0p,qcc,qdg,qtO,qyK,qix,qbc,q4n,q4r,qjT,qgZ,qpB,qxd,qiv,qbb,qcf,gaB,gOk,hGr,hGd,q50,q4A]
 have e012:qj [[Value.int IntKind.i64 0],[Value.int IntKind.i64 1],[Value.int IntKind.i64 2]] = [0,1,2]:=rfl
 intro _ _ l0 _ n _ c _ D _ hl
 obtain ⟨hn,hD,hrow⟩:=hl
 rw [q4T] at hD
 have hDl:D.d.length = 3:=by have:=congrArg List.length hD; simpa [qj] using this
 refine ⟨by omega,by omega,fun _ _ _ x5 _ h5=>?_⟩
 rw [e012,q2s] at h5
 refine ⟨h5,fun _ _ _ x6 _ h6=>?_⟩
 rw [e012,q3f] at h6
 refine ⟨h6,fun _ _ _ v _ H0 _ hc0=>⟨by omega,by omega,⟨_,hc0⟩,fun H1 _ hc1=>?_⟩⟩
 have g0:qg D.d 0 0 = 0:=by rw [qaH (d:=D.d) (by omega) (by omega),hD]; rfl
 have g1:qg D.d 1 0 = 1:=by rw [qaH (d:=D.d) (by omega) (by omega),hD]; rfl
 have g2:qg D.d 2 0 = 2:=by rw [qaH (d:=D.d) (by omega) (by omega),hD]; rfl
 have hcl:=hc1 _ hc0
 rw [g0] at hcl
 refine ⟨by omega,by omega,⟨⟨_,hcl⟩,by omega,by omega,hrow⟩,fun b1 _ H2 _ hb1=>?_⟩
 obtain ⟨hcl2,hb1⟩:=hb1 _ hcl
 rw [g1,hD] at hb1
 have hb1':b1.b = true:=hb1.trans qzo
 refine ⟨hb1',fun _=>⟨⟨⟨_,hcl2⟩,by omega,by omega,hrow⟩,fun b2 _ H3 _ hb2=>?_⟩⟩
 obtain ⟨hcl3,hb2⟩:=hb2 _ hcl2
 rw [g1,hD] at hb2
 have hb2':b2.b = false:=hb2.trans qyz
 refine ⟨hb2',fun _=>⟨by omega,by omega,fun hcap=>⟨by omega,by omega,⟨by omega,hrow⟩,fun b3 _ hb3=>?_⟩⟩⟩
 rw [g2,hD] at hb3
 have hb3':b3.b = true:=hb3.trans q6p
 refine ⟨hb3',fun _ s0 _ hs0 s1 _ hs1=>?_⟩
 rw [hs0,hs1]
 refine ⟨q2q,fun _ _ _ fl _ hfl _ _ _ _=>⟨⟨⟨.inl hfl,q3C,fun _=>q7y⟩,by decide⟩,?_⟩⟩
 intro o _ _ _ f _ _ _ _ _ _ _ Ds _ P _ Hp _ _ _ hPl hE ho hDs hdg _ _
 have hDl1:Ds.d.length = 1:=by
  have:=congrArg List.length hdg
  rw [qye] at this; simpa [dgs] using this
 have hoM:qS (qf o.d 32):=by rw [ho]; exact qfO _
 have hm1:qH 1 1 1 1 1 = true:=by decide
 refine ⟨⟨by omega,hoM,hDs⟩,fun ID _ e _ hid gn _=>⟨fun _ _ _ _ _=>?_,?_⟩⟩
 ·obtain ⟨q1,q2⟩:=q6x hE
  refine ⟨q4c,hoM,hDs,hDl1,hPl,q1,(q2 0 (by decide)).1,?_,?_⟩
  ·exact q2U (data:=[120]) hm1 (by intro x hx; simp at hx; subst hx; exact ⟨by decide,by decide⟩) rfl hdg (by decide) (by decide) (q2 0 (by decide)).2
  ·rcases hid with ⟨h,_⟩ | ⟨_,_,h⟩
   ·exact absurd h (by decide)
   ·exact h
 intro ar _ id _ mr _ mp _ mc _ pr _ pl _ pq _ pd _ gh _ bm _ om _ dr _ dq _ dd _ br _ bq _ bp _ bh _ hga hom hdd hdl hbl hpk hpi hck hid2
 obtain ⟨v0,B0,eP,hv,hRd,hB,hpd⟩:=q75 hpk (j:=0) (by decide)
 obtain ⟨_,_,_,hlen,hsum⟩:=q0F hck
 have hB1:B0.length = 1:=by rw [hpd,bI_len] at hlen; rw [show qeb 1 1 = 1 from rfl] at hlen; omega
 have hci:qg bp.d 0 0 = 0:=hpi
 have hidM:qS (qf id.d 32):=by rw [hid2]; exact qfO _
 have hck':qci 1 1 1 1 1 (dgs dd.d) 0 (bI B0) = 0:=by rw [<- hpd]; exact hck
 have hddl:(dgs dd.d).length = 1:=by simpa [dgs] using hdl
 have hoff:qfQ (qf id.d 32) none [] { k:=1,n:=1,t:=1,s:=1,o:=qf om.d 32,D:=dgs dd.d } 0 (bI B0) = 0:=by
  have hok:ManV.ok { k:=1,n:=1,t:=1,s:=1,o:=qf om.d 32,D:=dgs dd.d } = true:=by simp only [ManV.ok,hddl]; decide
  have hbt:sha (ManV.bytes { k:=1,n:=1,t:=1,s:=1,o:=qf om.d 32,D:=dgs dd.d }) = qf id.d 32:=hid2.symm
  rw [qfQ,if_neg (by rw [hok]; decide),if_neg (fun h=>h hbt)]
  simp [hddl,hck',qg1]
 refine ⟨by omega,B0,by rw [show (0:Int) = ((0:Nat):Int) from rfl,hv]; exact hRd,?_⟩
 rw [hci]
 intro vr _ vc _ _ hcap
 refine ⟨⟨⟨_,_,hga⟩,hidM,⟨hom,by omega,hdd⟩,by decide,⟨by omega,by omega,hB⟩,by omega⟩,?_⟩
 intro _ _ _ _ _ _ _ _ _ _ _ _ _ _ _ _ oe _ hofr
 obtain ⟨he0,hga2⟩:=hofr _ _ hga
 rw [hoff] at he0
 rw [if_pos he0,if_pos he0] at hga2
 refine ⟨fun _=>⟨⟨_,_,hga2⟩,fun rb _ hrb=>?_⟩,he0⟩
 have hr1:=hrb _ _ hga2
 have hr2:rb.b = true:=by rw [hr1]; rfl
 refine ⟨fun _=>⟨⟨_,_,hga2⟩,fun _ _ il _ _ _ di _ hi=>?_⟩,hr2⟩
 obtain ⟨hi1,hi2,_⟩:=hi _ _ hga2
 have hdi:di.d.length = 1:=by
  have:=congrArg List.length hi2
  rw [qan] at this; simpa using this
 exact ⟨by omega,by omega,trivial⟩
theorem qj8:qaz.ok Tryz.prog:=q13 q5q
theorem q1m:qcR.ok Tryz.prog:=qtg (by simp [qyB qj8,q56 qj8,q2J,q5n,qys,q4L,qsu,qv3,q2n,q4s,q2X,q3r,qu2,qwI])
end Go.Proofs

set_option linter.unusedSimpArgs false
set_option linter.unusedVariables false
set_option maxRecDepth 100000
namespace Go.Proofs
open Go Go.Eng

end Go.Proofs

set_option linter.unusedSimpArgs false
set_option linter.unusedVariables false
namespace Go.Proofs
open Go Go.Eng
end Go.Proofs

set_option linter.unusedSimpArgs false
set_option linter.unusedVariables false
set_option maxRecDepth 100000
namespace Go.Proofs
open Go Go.Eng

end Go.Proofs

set_option linter.unusedSimpArgs false
set_option linter.unusedVariables false
namespace Go.Proofs
open Go Go.Eng
theorem qqO {o L:List Int} {k:Int} {D:qc} {n:Int} (h:qt D n (qn o L k)):n = D.length/\n <= 1000000000000/\∀ row ∈ D,row.length = 1:=by
 obtain ⟨h1,h2,h3⟩:=h
 have:=qis h2
 exact ⟨h1,by omega,h3⟩
theorem q3u {D:qc} {n:Int} {l:List Int} {row:List Value} (hm:row ∈ D) (h:qt D n l):row.length = 1:=h.2.2 row hm
theorem q0y {x:Int} {D D':qc} (h:D = D') (h2:x = D'.length):x = D.length:=by rw [h]; exact h2
theorem q6a {D D':qc} {row:List Value} (hm:row ∈ D) (h:D = D') (h3:∀ row ∈ D',row.length = 1):row.length = 1:=h3 row (by rw [<- h]; exact hm)
theorem same_eq {b:Bool} {D D':qc} (h:b = decide (qj D = qj D')) (e:D = D'):b = true:=by rw [h,e]; simp
end Go.Proofs

set_option linter.unusedSimpArgs false
set_option linter.unusedVariables false
namespace Go.Eng
open Go Go.Proofs
end Go.Eng

set_option linter.unusedSimpArgs false
set_option linter.unusedVariables false
set_option maxRecDepth 100000
namespace Go.Proofs
open Go Go.Eng

end Go.Proofs

set_option linter.unusedSimpArgs false
set_option linter.unusedVariables false
namespace Go.Proofs
open Go Go.Eng
theorem q5v {ρ:Env}:qmd.post ρ:=True.intro
end Go.Proofs

set_option linter.unusedSimpArgs false
set_option linter.unusedVariables false
set_option maxRecDepth 100000
namespace Go.Proofs
open Go Go.Eng

@[simp] def qfX:Out:=.pre 4 (sg 0 [bv 1 9,bg 0 8]) (.both (.post 4 0 (sg 0 [bv 1 9,bg 0 8]) 12 (.ret 0 (sg 10 []))) .top)
@[simp] def qiL:Sg:=sg 0 [bv 8 9,bv 5 63,bt 4 (.dapp (.var 51) (.dtake (.var 4) (.var 2))),bv 6 6,bv 3 63,bt 2 (.plus (.var 49) (.var 2)),bg 1 62,bt 0 (r8 0),bg 7 8]
@[simp] def qiG:Sg:=sg 0 [bv 8 9,bv 5 64,bt 4 (.dapp (.var 51) (.dtake (.var 4) (.var 2))),bv 6 6,bv 3 64,bt 2 (.plus (.var 49) (.var 2)),bg 1 63,bt 0 (r8 0),bg 7 8]
@[simp] def qiS:Out:=.back 1 33 (sg 1000 [bv 1012 45,bv 1008 41,bv 1004 37,bt 1013 (.arith .add .i64 (.var 46) (.lit 1)),bv 1011 44,bv 1010 43,bg 1009 42,bv 1007 40,bv 1006 39,bg 1005 38,bv 1003 36,bv 1002 35,bg 1001 34,bg 1000 33])
def qhq:Out:=(.fresh 10 (.both (.fresh 11 (.both (.need (.cmp .leq (.lit 0) (.var 2)) (.br (.cmp .gtr (.var 2) (.lit 16))
 qfX
 (.br (.cmp .lss (.var 6) (.lit 0))
 qfX
 (.br (.cmp .gtr (.var 6) (.lit 16))
 qfX
 (.fresh 12 (.inv 0 13 (sg 1000 [bt 1004 .dnil,bt 1005 (.lit 0),bt 1003 (.lit 0),bt 1002 (.lit 0),bg 1001 12,bg 1000 11]) (.fresh 13 (.fresh 14 (.fresh 15 (.fresh 16 (.fresh 17 (.fresh 18 (.hyp 0 13 (.br (.cmp .lss (.var 18) (.var 2))
 (.need (.cmp .leq (.lit 0) (.var 18)) (.need (.cmp .lss (.var 18) (.dlen (.var 4))) (.br (.cmp .neq (.icell (.var 4) (.var 18) 0) (.var 7))
 (.fresh 19 (.need (.cmp .eql (.var 15) (.dlen (.var 17))) (.need (.cmp .leq (.tims (.lit 8) (.plus (.var 15) (.lit 1))) (.lit 140737488355328)) (.fresh 20 (.fresh 21 (.back 0 13 (sg 1000 [bt 1004 (.dapp (.var 17) (.rcons (.vint .i64 (.icell (.var 4) (.var 18) 0)) .rnil)),bt 1005 (.arith .add .i64 (.var 18) (.lit 1)),bv 1003 21,bt 1002 (.plus (.var 15) (.lit 1)),bg 1001 20,bg 1000 13])))))))
 (.back 0 13 (sg 1000 [bv 1004 17,bt 1005 (.arith .add .i64 (.var 18) (.lit 1)),bv 1003 16,bv 1002 15,bg 1001 14,bg 1000 13])))))
 (.both (.pre 0 (sg 0 [bv 4 5,bv 3 4,bv 2 3,bv 1 2,bg 0 1]) (.both (.fresh 19 (.fresh 20 (.fresh 21 (.post 0 0 (sg 0 [bv 4 5,bv 3 4,bv 2 3,bv 1 2,bg 0 1]) 19 (.both (.pre 1 (sg 0 [bv 8 9,bv 5 20,bv 4 21,bv 6 6,bv 3 20,bv 2 2,bg 1 19,bt 0 (r8 0),bg 7 8]) (.both (.fresh 22 (.fresh 23 (.fresh 24 (.fresh 25 (.post 1 0 (sg 0 [bv 8 9,bv 5 20,bv 4 21,bv 6 6,bv 3 20,bv 2 2,bg 1 19,bt 0 (r8 0),bg 7 8]) 22 (.both (.pre 0 (sg 0 [bv 4 16,bv 3 17,bv 2 16,bv 1 15,bg 0 14]) (.both (.fresh 26 (.fresh 27 (.fresh 28 (.post 0 0 (sg 0 [bv 4 16,bv 3 17,bv 2 16,bv 1 15,bg 0 14]) 26 (.both (.pre 1 (sg 0 [bv 8 9,bv 5 27,bv 4 28,bv 6 6,bv 3 27,bv 2 15,bg 1 26,bt 0 (r8 0),bg 7 8]) (.both (.fresh 29 (.fresh 30 (.fresh 31 (.fresh 32 (.post 1 0 (sg 0 [bv 8 9,bv 5 27,bv 4 28,bv 6 6,bv 3 27,bv 2 15,bg 1 26,bt 0 (r8 0),bg 7 8]) 29 (.inv 1 33 (sg 1000 [bv 1012 32,bv 1008 25,bv 1004 17,bt 1013 (.lit 0),bv 1011 31,bv 1010 30,bg 1009 29,bv 1007 24,bv 1006 23,bg 1005 22,bv 1003 16,bv 1002 15,bg 1001 14,bg 1000 13]) (.fresh 33 (.fresh 34 (.fresh 35 (.fresh 36 (.fresh 37 (.fresh 38 (.fresh 39 (.fresh 40 (.fresh 41 (.fresh 42 (.fresh 43 (.fresh 44 (.fresh 45 (.fresh 46 (.hyp 1 33 (.need (.cmp .leq (.lit 0) (.var 39)) (.br (.cmp .lss (.var 46) (.var 39))
 (.need (.cmp .leq (.lit 0) (.var 46)) (.need (.cmp .lss (.var 46) (.dlen (.var 41))) (.br (.cmp .neq (.icell (.var 41) (.var 46) 0) (.var 7))
 (.pre 2 (sg 0 [bv 4 44,bv 3 45,bt 5 (.icell (.var 41) (.var 46) 0),bv 2 44,bv 1 43,bg 0 42]) (.both (.fresh 47 (.post 2 0 (sg 0 [bv 4 44,bv 3 45,bt 5 (.icell (.var 41) (.var 46) 0),bv 2 44,bv 1 43,bg 0 42]) 47 (.br (.not (.var 47))
 (.stuck 7 0 0)
 qiS))) .top))
 qiS)))
 (.inv 2 47 (sg 1000 [bv 1012 45,bv 1008 41,bv 1004 37,bt 1013 (.lit 0),bt 1014 (.lit 0),bv 1011 44,bv 1010 43,bg 1009 42,bv 1007 40,bv 1006 39,bg 1005 38,bv 1003 36,bv 1002 35,bg 1001 34,bg 1000 33]) (.fresh 47 (.fresh 48 (.fresh 49 (.fresh 50 (.fresh 51 (.fresh 52 (.fresh 53 (.fresh 54 (.fresh 55 (.fresh 56 (.fresh 57 (.fresh 58 (.fresh 59 (.fresh 60 (.fresh 61 (.hyp 2 47 (.need (.cmp .leq (.lit 0) (.var 57)) (.br (.cmp .lss (.var 60) (.var 57))
 (.need (.cmp .leq (.lit 0) (.var 60)) (.need (.cmp .lss (.var 60) (.dlen (.var 59))) (.pre 2 (sg 0 [bv 4 5,bv 3 4,bt 5 (.icell (.var 59) (.var 60) 0),bv 2 3,bv 1 2,bg 0 1]) (.both (.fresh 62 (.post 2 0 (sg 0 [bv 4 5,bv 3 4,bt 5 (.icell (.var 59) (.var 60) 0),bv 2 3,bv 1 2,bg 0 1]) 62 (.br (.not (.var 62))
 (.stuck 7 0 0)
 (.br (.cmp .eql (.icell (.var 59) (.var 60) 0) (.var 7))
 (.stuck 7 0 0)
 (.pre 2 (sg 0 [bv 4 54,bv 3 55,bt 5 (.icell (.var 59) (.var 60) 0),bv 2 54,bv 1 53,bg 0 52]) (.both (.fresh 63 (.post 2 0 (sg 0 [bv 4 54,bv 3 55,bt 5 (.icell (.var 59) (.var 60) 0),bv 2 54,bv 1 53,bg 0 52]) 63 (.br (.not (.var 63))
 (.back 2 47 (sg 1000 [bv 1012 59,bv 1008 55,bv 1004 51,bt 1013 (.arith .add .i64 (.var 60) (.lit 1)),bt 1014 (.arith .add .i64 (.var 61) (.lit 1)),bv 1011 58,bv 1010 57,bg 1009 56,bv 1007 54,bv 1006 53,bg 1005 52,bv 1003 50,bv 1002 49,bg 1001 48,bg 1000 47]))
 (.back 2 47 (sg 1000 [bv 1012 59,bv 1008 55,bv 1004 51,bt 1013 (.arith .add .i64 (.var 60) (.lit 1)),bv 1014 61,bv 1011 58,bv 1010 57,bg 1009 56,bv 1007 54,bv 1006 53,bg 1005 52,bv 1003 50,bv 1002 49,bg 1001 48,bg 1000 47]))))) .top)))))) .top))))
 (.br (.cmp .gtr (.var 61) (.lit 1))
 (.stuck 7 0 0)
 (.br (.cmp .eql (.var 61) (.lit 1))
 (.pre 2 (sg 0 [bv 4 54,bv 3 55,bv 5 7,bv 2 54,bv 1 53,bg 0 52]) (.both (.fresh 62 (.post 2 0 (sg 0 [bv 4 54,bv 3 55,bv 5 7,bv 2 54,bv 1 53,bg 0 52]) 62 (.br (.not (.var 62))
 (.stuck 7 0 0)
 (.both (.need (.cmp .eql (.var 49) (.dlen (.var 51))) (.need (.cmp .leq (.var 2) (.dlen (.var 4))) (.need (.cmp .leq (.tims (.lit 8) (.plus (.var 49) (.var 2))) (.lit 140737488355328)) (.fresh 63 (.fresh 64 (.both (.pre 1 qiG (.both (.fresh 65 (.fresh 66 (.fresh 67 (.fresh 68 (.post 1 0 qiG 65 (.both (.pre 3 (sg 0 [bv 9 54,bv 8 55,bv 4 67,bv 3 68,bv 7 54,bv 6 53,bg 5 52,bv 2 67,bv 1 66,bg 0 65]) (.both (.fresh 69 (.post 3 0 (sg 0 [bv 9 54,bv 8 55,bv 4 67,bv 3 68,bv 7 54,bv 6 53,bg 5 52,bv 2 67,bv 1 66,bg 0 65]) 69 (.br (.var 69)
 (.both (.pre 4 (sg 0 [bv 1 9,bg 0 8]) (.both (.post 4 0 (sg 0 [bv 1 9,bg 0 8]) 70 (.ret 0 (sg 10 []))) .top)) .top)
 (.both (.stuck 7 0 0) .top)))) .top)) .top)))))) .top)) .top)))))) .top)))) .top))
 (.both (.need (.cmp .eql (.var 49) (.dlen (.var 51))) (.need (.cmp .leq (.var 2) (.dlen (.var 4))) (.need (.cmp .leq (.tims (.lit 8) (.plus (.var 49) (.var 2))) (.lit 140737488355328)) (.fresh 62 (.fresh 63 (.both (.pre 1 qiL (.both (.fresh 64 (.fresh 65 (.fresh 66 (.fresh 67 (.post 1 0 qiL 64 (.both (.pre 3 (sg 0 [bv 9 54,bv 8 55,bv 4 66,bv 3 67,bv 7 54,bv 6 53,bg 5 52,bv 2 66,bv 1 65,bg 0 64]) (.both (.fresh 68 (.post 3 0 (sg 0 [bv 9 54,bv 8 55,bv 4 66,bv 3 67,bv 7 54,bv 6 53,bg 5 52,bv 2 66,bv 1 65,bg 0 64]) 68 (.br (.var 68)
 (.both (.pre 4 (sg 0 [bv 1 9,bg 0 8]) (.both (.post 4 0 (sg 0 [bv 1 9,bg 0 8]) 69 (.ret 0 (sg 10 []))) .top)) .top)
 (.both (.stuck 7 0 0) .top)))) .top)) .top)))))) .top)) .top)))))) .top))))))))))))))))))))))))))))))))))))))))))))) .top)) .top))))) .top)) .top)))))) .top)) .top))))) .top)) .top))))))))))))))) .top)) .top))
theorem qnZ:ql ⟨Tryz.prog,qbh,[qgf,qaz,qi3,qe6,qcR],[qxy,qyP,qyf]⟩ 100000 Tryz.f6 = qhq:=by kernel_rfl
theorem qsb (hd:∀ c ∈ ([qgf,qaz,qi3,qe6,qcR]:List Ctr),c.ok Tryz.prog) (h:∀ ρ:Env,ρ.good->(qbh).pre ρ->qhq.den ⟨Tryz.prog,qbh,[qgf,qaz,qi3,qe6,qcR],[qxy,qyP,qyf]⟩ ρ):(qbh).ok Tryz.prog :=
 qe Tryz.func6 (fun a w=>Tryz.call6 a w) hd 100000 (fun ρ hg hp=>by rw [qnZ]; exact h ρ hg hp)
end Go.Proofs

set_option linter.unusedSimpArgs false
set_option linter.unusedVariables false
namespace Go.Proofs
open Go Go.Eng
theorem qzz {L:List Int} {g:Int}:qav (q9 L g) = q9 (qav L) g:=by
 unfold qav q9
 rw [List.filter_filter]
 refine List.filter_congr fun x _=>?_
 simp [List.mem_filter,Bool.and_comm]
theorem qxs {o l:List Int} {g:Int} (hn:l.Nodup):qab o (q9 l g) = q9 (qab o l) g:=by
 have h:=ql3 (o:=o) hn
 refine (qoW ⟨h.1.filter _,h.2.filter _⟩ (hn.filter _)).symm
theorem ql0 {L:List Int}:(qav L).Nodup:=qrD
theorem qiq {o L:List Int} {g n:Int}:qn o (q9 L g) n = (q9 (qab o (qav L)) g).take n.toNat:=by
 rw [qn,qzz,qxs ql0]
theorem qxW {o L:List Int}:(qab o (qav L)).Nodup:=qfy.nodup_iff.2 ql0
theorem qr8 {R:List Int} {g:Int} {n:Nat}:q9 (R.take n) g <+: (q9 R g).take n:=by
 have h:q9 (R.take n) g <+: q9 R g:=by
  conv=>rhs; rw [<- List.take_append_drop n R]
  unfold q9; rw [List.filter_append]; exact List.prefix_append _ _
 have hl:(q9 (R.take n) g).length <= n:=by
  unfold q9
  exact Nat.le_trans (List.length_filter_le _ _) (by rw [List.length_take]; omega)
 obtain ⟨t,ht⟩:=h
 rw [<- ht,List.take_append]
 rw [List.take_of_length_le hl]
 exact List.prefix_append _ _
theorem q6u {o L:List Int} {g n x:Int} (h:x ∈ qn o L n) (hx:¬ x = g):x ∈ qn o (q9 L g) n:=by
 rw [qiq]
 refine qr8.subset ?_
 unfold q9
 rw [List.mem_filter]
 exact ⟨h,by simp [hx]⟩
theorem qsr {o L:List Int} {g n x:Int} (h:x ∈ qn o (q9 L g) n):x ∈ L/\¬ x = g:=by
 rw [qiq] at h
 have h1:=List.mem_of_mem_take h
 unfold q9 at h1
 rw [List.mem_filter,qqR,qxk] at h1
 exact ⟨h1.1.2.2,by simpa using h1.2⟩
theorem qyn {l:List Int} {g:Int} (hn:l.Nodup):q9 l g = l.erase g:=by
 rw [hn.erase_eq_filter]; unfold q9
 refine List.filter_congr fun x _=>?_
 by_cases h:x = g <;> simp [h]
theorem q1X {l:List Int} {g:Int} (hn:l.Nodup):(q9 l g).length = if g ∈ l then l.length - 1 else l.length:=by
 rw [qyn hn]
 by_cases h:g ∈ l
 ·rw [if_pos h,List.length_erase_of_mem h]
 ·rw [if_neg h,List.erase_of_not_mem h]
theorem q3O {R:List Int} {g:Int} {n:Nat} (hn:R.Nodup):(((q9 R g).take n).filter fun x=>!decide (x ∈ R.take n)).length <= (if g ∈ R.take n then 1 else 0):=by
 have hnt:(R.take n).Nodup:=hn.sublist (List.take_sublist n R)
 have hP:=q1X (g:=g) hnt
 obtain ⟨t,ht⟩:=qr8 (R:=R) (g:=g) (n:=n)
 have hlen:((q9 R g).take n).length <= n:=by rw [List.length_take]; omega
 rw [<- ht,List.length_append] at hlen
 rw [<- ht,List.filter_append]
 have h0:(q9 (R.take n) g).filter (fun x=>!decide (x ∈ R.take n)) = []:=by
  rw [List.filter_eq_nil_iff]
  intro x hx
  unfold q9 at hx
  have:=(List.mem_filter.1 hx).1
  simp [this]
 rw [h0,List.nil_append]
 by_cases hR:R.length <= n
 ·have hB:R.take n = R:=List.take_of_length_le hR
  have:t.filter (fun x=>!decide (x ∈ R.take n)) = []:=by
   rw [List.filter_eq_nil_iff]
   intro x hx
   have h1:x ∈ (q9 R g).take n:=by rw [<- ht]; exact List.mem_append_right _ hx
   have h2:=List.mem_of_mem_take h1
   unfold q9 at h2
   have h3:=(List.mem_filter.1 h2).1
   rw [hB]; simp [h3]
  rw [this]; exact Nat.zero_le _
 ·have hl:(R.take n).length = n:=by rw [List.length_take]; omega
  have:=List.length_filter_le (fun x=>!decide (x ∈ R.take n)) t
  rw [hl] at hP
  have hnpos:0 < n∨n = 0:=by omega
  by_cases hg:g ∈ R.take n
  ·rw [if_pos hg] at hP ⊢; omega
  ·rw [if_neg hg] at hP ⊢; omega
theorem q5c {o L:List Int} {g n:Int}:qaU (qn o (q9 L g) n) (qn o L n) (qn o (q9 L g) n).length <= if g ∈ qn o L n then 1 else 0:=by
 unfold qaU
 rw [List.take_length,qiq]
 have h:=q3O (R:=qab o (qav L)) (g:=g) (n:=n.toNat) qxW
 unfold qn
 by_cases hg:g ∈ (qab o (qav L)).take n.toNat
 ·rw [if_pos hg] at h ⊢; omega
 ·rw [if_neg hg] at h ⊢; omega
theorem q0d {L:List Int} {g:Int}:qav (q9 L g ++ L) = qav L:=by
 unfold qav
 refine List.filter_congr fun x _=>?_
 have:x ∈ q9 L g ++ L↔x ∈ L:=by
  rw [List.mem_append]
  exact ⟨fun h=>h.elim (fun h=>(List.mem_filter.1 h).1) id,.inr⟩
 simp [this]
theorem qyZ {o L:List Int} {g n:Int}:qn o (q9 L g ++ L) n = qn o L n:=by unfold qn; rw [q0d]
theorem q7Q {g:Int}:qt [] 0 (q9 [] g):=⟨rfl,rfl,fun r h=>by cases h⟩
theorem quX {D:qc} {n:Int} {l:List Int} (h:qt D n l):n = D.length:=h.1
theorem q5x {l:List Int} {g:Int}:(q9 l g).length <= l.length:=List.length_filter_le _ _
theorem q6J {D:qc} {n i g:Int} {l:List Int} (h:qt D n (q9 (l.take i.toNat) g)) (h0:0 <= i):n <= i:=by
 obtain ⟨h1,h2,_⟩:=h
 have h3:=congrArg List.length h2
 rw [qan] at h3
 have:=q5x (l:=l.take i.toNat) (g:=g)
 rw [List.length_take] at this
 omega
theorem qmZ {l:List Int} {i:Nat} (h:i < l.length):l.take (i + 1) = l.take i ++ [l.getD i 0]:=by
 rw [List.take_add_one,List.getElem?_eq_getElem h,List.getD_eq_getElem?_getD,List.getElem?_eq_getElem h]; rfl
theorem q22 {D L:qc} {n i g k:Int} (h:qt D n (q9 ((qj L).take i.toNat) g)) (h0:0 <= i) (h1:i < L.length) (hb:i < 1000000) (hk:k = qg L i 0) (hne:¬ k = g):qt (D ++ [[.int .i64 k]]) (n + 1) (q9 ((qj L).take (qd .add .i64 i 1).toNat) g):=by
 obtain ⟨e1,e2,e3⟩:=h
 rw [qaH h0 h1] at hk
 rw [qbU h0 (by omega),show (i + 1).toNat = i.toNat + 1 by omega,qmZ (by rw [qan]; omega),<- hk]
 refine ⟨by rw [List.length_append,List.length_singleton]; omega,?_,fun row hr=>?_⟩
 ·rw [qii,e2]; unfold q9; rw [List.filter_append]; simp [hne]
 ·rcases List.mem_append.1 hr with hr | hr
  ·exact e3 row hr
  ·rw [List.mem_singleton.1 hr]; rfl
theorem qzF {D L:qc} {n i g:Int} (h:qt D n (q9 ((qj L).take i.toNat) g)) (h0:0 <= i) (h1:i < L.length) (hb:i < 1000000) (he:qg L i 0 = g):qt D n (q9 ((qj L).take (qd .add .i64 i 1).toNat) g):=by
 obtain ⟨e1,e2,e3⟩:=h
 rw [qaH h0 h1] at he
 rw [qbU h0 (by omega),show (i + 1).toNat = i.toNat + 1 by omega,qmZ (by rw [qan]; omega),he]
 refine ⟨e1,?_,e3⟩
 rw [e2]; unfold q9; rw [List.filter_append]; simp
theorem qts {D L:qc} {n i g:Int} (h:qt D n (q9 ((qj L).take i.toNat) g)) (h1:(L.length:Int) <= i):qt D n (q9 (qj L) g):=by
 rw [List.take_of_length_le (by rw [qan]; omega)] at h; exact h
theorem q7u {o:List Int} {b D D':qc} {n k:Int} (h:qt b n (qn o (qj D) k)) (e:D = D'):qt b n (qn o (qj D') k):=e ▸ h
theorem q6U {o:List Int} {b D D' L:qc} {n k nl i g:Int} (h:qt b n (qn o (qj D) k)) (e:D = D') (hl:qt D' nl (q9 ((qj L).take i.toNat) g)) (h1:(L.length:Int) <= i):qt b n (qn o (q9 (qj L) g) k):=by
 have:=(qts hl h1).2.1
 rw [e,this] at h; exact h
theorem qyo {l:List Int} {B:qc} {n i:Int} (h:qt B n l) (h0:0 <= i) (h1:i < n):qg B i 0 ∈ l:=by
 obtain ⟨e1,e2,_⟩:=h
 have hl:i.toNat < (qj B).length:=by rw [qan]; omega
 rw [qaH h0 (by omega),List.getD_eq_getElem?_getD,List.getElem?_eq_getElem hl,<- e2]
 exact List.getElem_mem hl
theorem q7t {o:List Int} {A B:qc} {na nb k g i:Int} {L:List Int} {x:Bool} (hu:x = decide (qg B i 0 ∈ qj A)) (hB:qt B nb (qn o L k)) (hA:qt A na (qn o (q9 L g) k)) (h0:0 <= i) (h1:i < nb) (hne:¬ qg B i 0 = g):x = true:=by
 rw [hu,hA.2.1,decide_eq_true_eq]
 exact q6u (qyo hB h0 h1) hne
theorem q5V {o:List Int} {A D:qc} {na k g i:Int} {x:Bool} (hu:x = decide (qg A i 0 ∈ qj D)) (hA:qt A na (qn o (q9 (qj D) g) k)) (h0:0 <= i) (h1:i < na):x = true:=by
 rw [hu,decide_eq_true_eq]
 exact (qsr (qyo hA h0 h1)).1
theorem q6o {o L:List Int} {A:qc} {na k g i:Int} (hA:qt A na (qn o (q9 L g) k)) (h0:0 <= i) (h1:i < na):¬ qg A i 0 = g:=(qsr (qyo hA h0 h1)).2
theorem q6W {A B:List Int}:0 = qaU A B 0:=by simp [qaU]
theorem q5U {D:qc} {n:Int} {l:List Int} (h:qt D n l):0 <= n:=by have:=h.1; omega
theorem q5F {D D':qc} {n:Int} {l:List Int} {row:List Value} (hm:row ∈ D) (h:D = D') (hi:qt D' n l):row.length = 1:=hi.2.2 row (by rw [<- h]; exact hm)
theorem q7H {D:qc} {n i:Int} {l:List Int} (h:qt D n l) (h1:i < n):i < (D.length:Int):=by rw [<- h.1]; exact h1
theorem qro {A:qc} {B:List Int} {na i:Int} {l:List Int} (hA:qt A na l) (h0:0 <= i) (h1:i < na) (hb:na <= 1000):qaU (qj A) B (qd .add .i64 i 1).toNat = qaU (qj A) B i.toNat + (if qg A i 0 ∈ B then 0 else 1):=by
 have hl:=hA.1
 rw [qbU h0 (by omega),show (i + 1).toNat = i.toNat + 1 by omega,qaU,qmZ (by rw [qan]; omega),List.filter_append,<- qaH h0 (by omega),qaU]
 by_cases h:qg A i 0 ∈ B
 ·simp [h]
 ·simp [h]
theorem q6A {A B:List Int} {i:Nat}:0 <= qaU A B i/\qaU A B i <= A.length:=by
 unfold qaU
 have h1:=List.length_filter_le (fun x=>!decide (x ∈ B)) (A.take i)
 rw [List.length_take] at h1
 omega
theorem qo3 {o L:List Int} {D:qc} {n k:Int} (h:qt D n (qn o L k)):n <= 16:=by
 have h1:=h.1
 have:=qis h.2.1
 omega
theorem q7x {A B:qc} {na i k c:Int} {o L:List Int} {b:Bool} (hu:b = decide (qg A i 0 ∈ qj B)) (hf:b = false) (hA:qt A na (qn o L k)) (h0:0 <= i) (h1:i < na) (hc:c = qaU (qj A) (qj B) i.toNat):qd .add .i64 c 1 = qaU (qj A) (qj B) (qd .add .i64 i 1).toNat:=by
 have h16:=qo3 hA
 have hb:=q6A (A:=qj A) (B:=qj B) (i:=i.toNat)
 have hl:=hA.1
 rw [qan] at hb
 rw [qro hA h0 h1 (by omega),if_neg (by rw [hf] at hu; exact of_decide_eq_false hu.symm),qbU (by omega) (by omega),hc]
theorem q77 {A B:qc} {na i k c:Int} {o L:List Int} {b:Bool} (hu:b = decide (qg A i 0 ∈ qj B)) (hf:b = true) (hA:qt A na (qn o L k)) (h0:0 <= i) (h1:i < na) (hc:c = qaU (qj A) (qj B) i.toNat):c = qaU (qj A) (qj B) (qd .add .i64 i 1).toNat:=by
 have h16:=qo3 hA
 rw [qro hA h0 h1 (by omega),if_pos (by rw [hf] at hu; exact of_decide_eq_true hu.symm),hc,Int.add_zero]
theorem qws {A B:qc} {na nb i g k c:Int} {o L:List Int} (hc:c = qaU (qj A) (qj B) i.toNat) (hA:qt A na (qn o (q9 L g) k)) (hB:qt B nb (qn o L k)) (h1:na <= i):c <= if g ∈ qj B then 1 else 0:=by
 have hl:=hA.1
 have h:=q5c (o:=o) (L:=L) (g:=g) (n:=k)
 rw [<- hA.2.1,<- hB.2.1,qaU,List.take_length] at h
 rw [hc,qaU,List.take_of_length_le (by rw [qan]; omega)]
 exact h
theorem q79 {A B:qc} {na nb i g k c:Int} {o L:List Int} (hc:c = qaU (qj A) (qj B) i.toNat) (hA:qt A na (qn o (q9 L g) k)) (hB:qt B nb (qn o L k)) (h1:na <= i):c <= 1:=by
 have:=qws hc hA hB h1
 by_cases h:g ∈ qj B
 ·rw [if_pos h] at this; exact this
 ·rw [if_neg h] at this; omega
theorem q7J {A B:qc} {na nb i g k c:Int} {o L:List Int} {x:Bool} (hu:x = decide (g ∈ qj B)) (hc:c = qaU (qj A) (qj B) i.toNat) (hA:qt A na (qn o (q9 L g) k)) (hB:qt B nb (qn o L k)) (h1:na <= i) (he:c = 1):x = true:=by
 have:=qws hc hA hB h1
 by_cases h:g ∈ qj B
 ·rw [hu]; exact decide_eq_true h
 ·rw [if_neg h] at this; omega
theorem q7r {A B l L:qc} {na nb nl k g n:Int} {o:List Int} {x:Bool} (hu:x = decide (qj A = qj B)) (hA:qt A na (qn o (qj (l ++ L.take n.toNat)) k)) (hB:qt B nb (qn o (qj L) k)) (hl:qt l nl (q9 (qj L) g)) (hn:n = L.length):x = true:=by
 have h1:=hA.2.1
 rw [List.take_of_length_le (by omega),show qj (l ++ L) = qj l ++ qj L from List.map_append,hl.2.1,qyZ] at h1
 rw [hu,h1,hB.2.1]; simp
theorem q7O {l L:qc} {nl n:Int} {m:List Int} (hl:qt l nl m) (hn:n = L.length):nl + n = l.length + (min n.toNat L.length:Nat):=by
 rw [hl.1]; omega
theorem q4U {l L:qc} {nl:Int} {m:List Int} {n:Nat} {row:List Value} (hr:row ∈ l ++ L.take n) (hl:qt l nl m) (hL:∀ row,row ∈ L->row.length = 1):row.length = 1:=by
 rcases List.mem_append.1 hr with h | h
 ·exact hl.2.2 row h
 ·exact hL row (List.mem_of_mem_take h)
theorem q7U {D:qc} {n i k:Int} {o L:List Int} (h0:0 <= i) (h1:i < n) (h:qt D n (qn o L k)):0 <= qd .add .i64 i 1:=by
 have:=qo3 h
 rw [qbU h0 (by omega)]; omega
theorem q8f {D:qc} {n i k:Int} {o L:List Int} (h:qt D n (qn o L k)) (h0:0 <= i) (h1:i < n):qd .add .i64 i 1 <= n:=by
 have:=qo3 h
 rw [qbU h0 (by omega)]; omega
theorem q8i {D:qc} {n i k:Int} {o L:List Int} (h:qt D n (qn o L k)) (h0:0 <= i) (h1:i < n):max (n - qd .add .i64 i 1) 0 < n - i:=by
 have:=qo3 h
 rw [qbU h0 (by omega)]; omega
theorem q3a {l L:qc} {nl:Int} {m:List Int} {n:Nat} {row:List Value} (hr:row ∈ l∨row ∈ L.take n) (hl:qt l nl m) (hL:∀ row,row ∈ L->row.length = 1):row.length = 1:=hr.elim (hl.2.2 row) fun h=>hL row (List.mem_of_mem_take h)
set_option maxHeartbeats 1000000 in
set_option maxRecDepth 20000 in
theorem qrY:qbh.ok Tryz.prog:=qsb (by simp [q54,qj8,q6f,q2H,q1m]) fun ρ hg hp=>by
 obtain ⟨hO,⟨l1,l2,l3⟩,hRr,hRd⟩:=hp
 simp only [Nat.reduceAdd] at l1 l2 l3
 simp (config:={ maxSteps:=4000000 }) [qhq,qbh,qlx,qxy,qyP,qyf,qsf,qyW,q2L,qgf,qaz,qoQ,qi3,qe6,qcR,qbb,qcf,gOk,hO,hRr,hRd]
 repeat' (first | with_reducible apply And.intro | with_reducible intro _)
 all_goals first
  | assumption
  | omega
  | with_reducible exact q5v
  | with_reducible exact l3 _ (by assumption)
  | with_reducible exact q6a (by assumption) (by assumption) (by assumption)
  | with_reducible exact q3u (by assumption) (by assumption)
  | with_reducible exact q7Q
  | with_reducible exact q6W
  | with_reducible exact quX (by assumption)
  | with_reducible exact q5U (by assumption)
  | with_reducible exact q0y (by assumption) (by assumption)
  | with_reducible exact q0y (by assumption) (quX (by assumption))
  | with_reducible exact (qqO (by assumption)).2.1
  | (have hb:=q6J (by assumption) (by assumption); omega)
  | (refine q22 (by assumption) (by assumption) (by omega) (by omega) rfl (by assumption); done)
  | (refine qzF (by assumption) (by assumption) (by omega) (by omega) (by assumption); done)
  | (refine qts (by assumption) (by omega); done)
  | (refine q7u (by assumption) (by assumption); done)
  | (refine q6U (by assumption) (by assumption) (by assumption) (by omega); done)
  | with_reducible exact q7t (by assumption) (by assumption) (by assumption) (by assumption) (by assumption) (by assumption)
  | with_reducible exact q5V (by assumption) (by assumption) (by assumption) (by assumption)
  | with_reducible exact q6o (by assumption) (by assumption) (by assumption)
  | (have hn:=quX (by assumption); omega)
  | (have hn:=(qqO (by assumption)).2.1; rw [qbU (by omega) (by omega)]; omega)
  | with_reducible exact q5F (by assumption) (by assumption) (by assumption)
  | with_reducible exact q7H (by assumption) (by assumption)
  | with_reducible exact q79 (by assumption) (by assumption) (by assumption) (by assumption)
  | with_reducible exact q7J (by assumption) (by assumption) (by assumption) (by assumption) (by assumption) (by assumption)
  | (refine q7x (by assumption) (by assumption) (by assumption) (by assumption) (by assumption) (by assumption); done)
  | (refine q77 (by assumption) (by assumption) (by assumption) (by assumption) (by assumption) (by assumption); done)
  | (refine q7r (by assumption) (by assumption) (by assumption) (by assumption) (by assumption); done)
  | (refine q7O (by assumption) (by assumption); done)
  | (refine q4U (by assumption) (by assumption) (by assumption); done)
  | (rw [qbU (by omega) (by omega)]; omega)
  | with_reducible exact q7U (by assumption) (by assumption) (by assumption)
  | with_reducible exact q8f (by assumption) (by assumption) (by assumption)
  | with_reducible exact q8i (by assumption) (by assumption) (by assumption)
  | (refine q3a (by assumption) (by assumption) (by assumption); done)
end Go.Proofs
