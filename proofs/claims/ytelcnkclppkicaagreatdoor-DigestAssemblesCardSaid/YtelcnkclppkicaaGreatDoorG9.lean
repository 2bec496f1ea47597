/- Texts VU, WF, VV, WA, WE, VX, VY, WG, WH, WI, WN, CV, CX, WO, WQ, CY, E13, E14, PA, PB, PC, PD, PE. -/
import Derived.Test.YtelcnkclppkicaaGreatDoorG8
import Derived.Test.YtelcnkclppkicaaGreatDoorProg
import Derived.Test.YtelcnkclppkicaaGreatDoorG7
import Derived.Test.YtelcnkclppkicaaGreatDoorG6
import Derived.Test.YtelcnkclppkicaaGreatDoorG4
import Derived.WalkKit
import Derived.ProofKit
import Derived.OpenShut
import Derived.Carry
import Derived.SizedLaws
set_option linter.unusedSimpArgs false
set_option linter.unusedVariables false
set_option maxRecDepth 100000
namespace Go.Proofs
open Go Go.Eng

@[simp] def o_check88_1:Out:=.back 0 10 (sg 1000 [bt 1002 (.c3 (.xput 0) (.var 12) (.icell (.var 6) (.var 10) 0) (.vbool (.bl true))),bt 1000 (.arith .add .i64 (.var 10) (.lit 1)),bg 1001 11])
def o_check88:Out:=(.fresh 9 (.need (.cmp .leq (.lit 0) (.var 4)) (.inv 0 10 (sg 1000 [bt 1002 (.rcons (.vbool (.bl false)) (.rcons (.vbool (.bl false)) (.rcons (.vbool (.bl false)) (.rcons (.vbool (.bl false)) (.rcons (.vbool (.bl false)) (.rcons (.vbool (.bl false)) (.rcons (.vbool (.bl false)) (.rcons (.vbool (.bl false)) (.rcons (.vbool (.bl false)) (.rcons (.vbool (.bl false)) (.rcons (.vbool (.bl false)) (.rcons (.vbool (.bl false)) (.rcons (.vbool (.bl false)) (.rcons (.vbool (.bl false)) (.rcons (.vbool (.bl false)) (.rcons (.vbool (.bl false)) (.rcons (.vbool (.bl false)) (.rcons (.vbool (.bl false)) (.rcons (.vbool (.bl false)) (.rcons (.vbool (.bl false)) (.rcons (.vbool (.bl false)) (.rcons (.vbool (.bl false)) (.rcons (.vbool (.bl false)) (.rcons (.vbool (.bl false)) (.rcons (.vbool (.bl false)) (.rcons (.vbool (.bl false)) (.rcons (.vbool (.bl false)) (.rcons (.vbool (.bl false)) (.rcons (.vbool (.bl false)) (.rcons (.vbool (.bl false)) (.rcons (.vbool (.bl false)) (.rcons (.vbool (.bl false)) (.rcons (.vbool (.bl false)) (.rcons (.vbool (.bl false)) (.rcons (.vbool (.bl false)) (.rcons (.vbool (.bl false)) (.rcons (.vbool (.bl false)) (.rcons (.vbool (.bl false)) (.rcons (.vbool (.bl false)) (.rcons (.vbool (.bl false)) (.rcons (.vbool (.bl false)) (.rcons (.vbool (.bl false)) (.rcons (.vbool (.bl false)) (.rcons (.vbool (.bl false)) (.rcons (.vbool (.bl false)) (.rcons (.vbool (.bl false)) (.rcons (.vbool (.bl false)) (.rcons (.vbool (.bl false)) (.rcons (.vbool (.bl false)) (.rcons (.vbool (.bl false)) (.rcons (.vbool (.bl false)) (.rcons (.vbool (.bl false)) (.rcons (.vbool (.bl false)) (.rcons (.vbool (.bl false)) (.rcons (.vbool (.bl false)) (.rcons (.vbool (.bl false)) (.rcons (.vbool (.bl false)) (.rcons (.vbool (.bl false)) (.rcons (.vbool (.bl false)) (.rcons (.vbool (.bl false)) (.rcons (.vbool (.bl false)) (.rcons (.vbool (.bl false)) (.rcons (.vbool (.bl false)) (.rcons (.vbool (.bl false)) (.rcons (.vbool (.bl false)) (.rcons (.vbool (.bl false)) (.rcons (.vbool (.bl false)) (.rcons (.vbool (.bl false)) (.rcons (.vbool (.bl false)) (.rcons (.vbool (.bl false)) (.rcons (.vbool (.bl false)) (.rcons (.vbool (.bl false)) (.rcons (.vbool (.bl false)) (.rcons (.vbool (.bl false)) (.rcons (.vbool (.bl false)) (.rcons (.vbool (.bl false)) (.rcons (.vbool (.bl false)) (.rcons (.vbool (.bl false)) (.rcons (.vbool (.bl false)) (.rcons (.vbool (.bl false)) (.rcons (.vbool (.bl false)) (.rcons (.vbool (.bl false)) (.rcons (.vbool (.bl false)) (.rcons (.vbool (.bl false)) (.rcons (.vbool (.bl false)) (.rcons (.vbool (.bl false)) (.rcons (.vbool (.bl false)) (.rcons (.vbool (.bl false)) (.rcons (.vbool (.bl false)) (.rcons (.vbool (.bl false)) (.rcons (.vbool (.bl false)) (.rcons (.vbool (.bl false)) (.rcons (.vbool (.bl false)) (.rcons (.vbool (.bl false)) (.rcons (.vbool (.bl false)) (.rcons (.vbool (.bl false)) (.rcons (.vbool (.bl false)) (.rcons (.vbool (.bl false)) (.rcons (.vbool (.bl false)) (.rcons (.vbool (.bl false)) (.rcons (.vbool (.bl false)) (.rcons (.vbool (.bl false)) (.rcons (.vbool (.bl false)) (.rcons (.vbool (.bl false)) (.rcons (.vbool (.bl false)) (.rcons (.vbool (.bl false)) (.rcons (.vbool (.bl false)) (.rcons (.vbool (.bl false)) (.rcons (.vbool (.bl false)) (.rcons (.vbool (.bl false)) (.rcons (.vbool (.bl false)) (.rcons (.vbool (.bl false)) (.rcons (.vbool (.bl false)) (.rcons (.vbool (.bl false)) (.rcons (.vbool (.bl false)) (.rcons (.vbool (.bl false)) (.rcons (.vbool (.bl false)) (.rcons (.vbool (.bl false)) (.rcons (.vbool (.bl false)) (.rcons (.vbool (.bl false)) (.rcons (.vbool (.bl false)) (.rcons (.vbool (.bl false)) (.rcons (.vbool (.bl false)) (.rcons (.vbool (.bl false)) (.rcons (.vbool (.bl false)) (.rcons (.vbool (.bl false)) (.rcons (.vbool (.bl false)) (.rcons (.vbool (.bl false)) (.rcons (.vbool (.bl false)) (.rcons (.vbool (.bl false)) (.rcons (.vbool (.bl false)) (.rcons (.vbool (.bl false)) (.rcons (.vbool (.bl false)) (.rcons (.vbool (.bl false)) (.rcons (.vbool (.bl false)) (.rcons (.vbool (.bl false)) (.rcons (.vbool (.bl false)) (.rcons (.vbool (.bl false)) (.rcons (.vbool (.bl false)) (.rcons (.vbool (.bl false)) (.rcons (.vbool (.bl false)) (.rcons (.vbool (.bl false)) (.rcons (.vbool (.bl false)) (.rcons (.vbool (.bl false)) (.rcons (.vbool (.bl false)) (.rcons (.vbool (.bl false)) (.rcons (.vbool (.bl false)) (.rcons (.vbool (.bl false)) (.rcons (.vbool (.bl false)) (.rcons (.vbool (.bl false)) (.rcons (.vbool (.bl false)) (.rcons (.vbool (.bl false)) (.rcons (.vbool (.bl false)) (.rcons (.vbool (.bl false)) (.rcons (.vbool (.bl false)) (.rcons (.vbool (.bl false)) (.rcons (.vbool (.bl false)) (.rcons (.vbool (.bl false)) (.rcons (.vbool (.bl false)) (.rcons (.vbool (.bl false)) (.rcons (.vbool (.bl false)) (.rcons (.vbool (.bl false)) (.rcons (.vbool (.bl false)) (.rcons (.vbool (.bl false)) (.rcons (.vbool (.bl false)) (.rcons (.vbool (.bl false)) (.rcons (.vbool (.bl false)) (.rcons (.vbool (.bl false)) (.rcons (.vbool (.bl false)) (.rcons (.vbool (.bl false)) (.rcons (.vbool (.bl false)) (.rcons (.vbool (.bl false)) (.rcons (.vbool (.bl false)) (.rcons (.vbool (.bl false)) (.rcons (.vbool (.bl false)) (.rcons (.vbool (.bl false)) (.rcons (.vbool (.bl false)) (.rcons (.vbool (.bl false)) (.rcons (.vbool (.bl false)) (.rcons (.vbool (.bl false)) (.rcons (.vbool (.bl false)) (.rcons (.vbool (.bl false)) (.rcons (.vbool (.bl false)) (.rcons (.vbool (.bl false)) (.rcons (.vbool (.bl false)) (.rcons (.vbool (.bl false)) (.rcons (.vbool (.bl false)) (.rcons (.vbool (.bl false)) (.rcons (.vbool (.bl false)) (.rcons (.vbool (.bl false)) (.rcons (.vbool (.bl false)) (.rcons (.vbool (.bl false)) (.rcons (.vbool (.bl false)) (.rcons (.vbool (.bl false)) (.rcons (.vbool (.bl false)) (.rcons (.vbool (.bl false)) (.rcons (.vbool (.bl false)) (.rcons (.vbool (.bl false)) (.rcons (.vbool (.bl false)) (.rcons (.vbool (.bl false)) (.rcons (.vbool (.bl false)) (.rcons (.vbool (.bl false)) (.rcons (.vbool (.bl false)) (.rcons (.vbool (.bl false)) (.rcons (.vbool (.bl false)) (.rcons (.vbool (.bl false)) (.rcons (.vbool (.bl false)) (.rcons (.vbool (.bl false)) (.rcons (.vbool (.bl false)) (.rcons (.vbool (.bl false)) (.rcons (.vbool (.bl false)) (.rcons (.vbool (.bl false)) (.rcons (.vbool (.bl false)) (.rcons (.vbool (.bl false)) (.rcons (.vbool (.bl false)) (.rcons (.vbool (.bl false)) (.rcons (.vbool (.bl false)) (.rcons (.vbool (.bl false)) (.rcons (.vbool (.bl false)) (.rcons (.vbool (.bl false)) (.rcons (.vbool (.bl false)) (.rcons (.vbool (.bl false)) (.rcons (.vbool (.bl false)) (.rcons (.vbool (.bl false)) (.rcons (.vbool (.bl false)) (.rcons (.vbool (.bl false)) (.rcons (.vbool (.bl false)) (.rcons (.vbool (.bl false)) (.rcons (.vbool (.bl false)) (.rcons (.vbool (.bl false)) (.rcons (.vbool (.bl false)) (.rcons (.vbool (.bl false)) (.rcons (.vbool (.bl false)) (.rcons (.vbool (.bl false)) (.rcons (.vbool (.bl false)) (.rcons (.vbool (.bl false)) (.rcons (.vbool (.bl false)) (.rcons (.vbool (.bl false)) (.rcons (.vbool (.bl false)) (.rcons (.vbool (.bl false)) (.rcons (.vbool (.bl false)) (.rcons (.vbool (.bl false)) (.rcons (.vbool (.bl false)) (.rcons (.vbool (.bl false)) (.rcons (.vbool (.bl false)) (.rcons (.vbool (.bl false)) (.rcons (.vbool (.bl false)) (.rcons (.vbool (.bl false)) (.rcons (.vbool (.bl false)) (.rcons (.vbool (.bl false)) (.rcons (.vbool (.bl false)) (.rcons (.vbool (.bl false)) (.rcons (.vbool (.bl false)) (.rcons (.vbool (.bl false)) (.rcons (.vbool (.bl false)) .rnil))))))))))))))))))))))))))))))))))))))))))))))))))))))))))))))))))))))))))))))))))))))))))))))))))))))))))))))))))))))))))))))))))))))))))))))))))))))))))))))))))))))))))))))))))))))))))))))))))))))))))))))))))))))))))))))))))))))))))))))))))))))))))))))),bt 1000 (.lit 0),bg 1001 9]) (.fresh 10 (.fresh 11 (.fresh 12 (.hyp 0 10 (.br (.cmp .lss (.var 10) (.var 4))
 (.need (.cmp .leq (.lit 0) (.var 10)) (.need (.cmp .lss (.var 10) (.dlen (.var 6))) (.fresh 13 (.br (.cmp .lss (.icell (.var 6) (.var 10) 0) (.lit 0))
 (.ret 0 (sg 9 [bt 9 (.lit 2)]))
 (.br (.cmp .geq (.icell (.var 6) (.var 10) 0) (.var 1))
 (.ret 0 (sg 9 [bt 9 (.lit 2)]))
 (.need (.cmp .leq (.lit 0) (.icell (.var 6) (.var 10) 0)) (.need (.cmp .lss (.icell (.var 6) (.var 10) 0) (.lit 255)) (.need (.cmp .lss (.lit 0) (.dlen (.var 12))) (.br (.c2 (.xbool 0) (.var 12) (.icell (.var 6) (.var 10) 0))
 (.ret 0 (sg 9 [bt 9 (.lit 7)]))
 (.br (.cmp .lss (.var 2) (.lit 0))
 (.view (.vcell (.var 6) (.var 10) 1) [CK.int .u8] [8] 14 (.br (.cmp .gtr (.dlen (.var 16)) (.lit 8192))
 (.ret 0 (sg 9 [bt 9 (.lit 3)]))
 (.need (.cmp .lss (.lit 0) (.var 4)) (.need (.cmp .lss (.lit 0) (.dlen (.var 6))) (.view (.vcell (.var 6) (.lit 0) 1) [CK.int .u8] [8] 17 (.view (.vcell (.var 6) (.var 10) 1) [CK.int .u8] [8] 20 (.br (.cmp .neq (.dlen (.var 22)) (.dlen (.var 19)))
 (.ret 0 (sg 9 [bt 9 (.lit 10)]))
 o_check88_1)))))))
 (.view (.vcell (.var 6) (.var 10) 1) [CK.int .u8] [8] 14 (.br (.cmp .neq (.dlen (.var 16)) (.var 2))
 (.ret 0 (sg 9 [bt 9 (.lit 10)]))
 o_check88_1))))))))))))
 (.br (.cmp .lss (.var 4) (.var 0))
 (.ret 0 (sg 9 [bt 9 (.lit 12)]))
 (.ret 0 (sg 9 [bt 9 (.lit 0)])))))))))))
theorem o_check88_eq:treeOf ⟨Tryz.prog,check88C,[],[check88I]⟩ 100000 Tryz.f110 = o_check88:=by kernel_rfl
theorem check88_of (hd:∀ c ∈ ([]:List Ctr),c.ok Tryz.prog) (h:∀ ρ:Env,ρ.good→(check88C).pre ρ→o_check88.den ⟨Tryz.prog,check88C,[],[check88I]⟩ ρ):(check88C).ok Tryz.prog :=
 ok_of_tree Tryz.func110 (fun a w=>Tryz.call110 a w) hd 100000 (fun ρ hg hp=>by rw [o_check88_eq]; exact h ρ hg hp)
def o_check93:Out:=(.inv 0 9 (sg 1000 [bt 1000 (.lit 0)]) (.fresh 9 (.hyp 0 9 (.need (.cmp .leq (.lit 0) (.var 4)) (.br (.cmp .lss (.var 9) (.var 4))
 (.need (.cmp .leq (.lit 0) (.var 9)) (.need (.cmp .lss (.var 9) (.dlen (.var 6))) (.fresh 10 (.br (.cmp .lss (.icell (.var 6) (.var 9) 0) (.lit 0))
 (.ret 0 (sg 9 [bt 9 (.lit 2)]))
 (.br (.cmp .geq (.icell (.var 6) (.var 9) 0) (.var 1))
 (.ret 0 (sg 9 [bt 9 (.lit 2)]))
 (.inv 1 11 (sg 1000 [bt 1003 (.vcell (.var 6) (.var 9) 1),bt 1002 (.icell (.var 6) (.var 9) 0),bt 1004 (.lit 0),bg 1001 10,bv 1000 9]) (.fresh 11 (.fresh 12 (.fresh 13 (.fresh 14 (.fresh 15 (.hyp 1 11 (.br (.cmp .lss (.var 15) (.var 11))
 (.need (.cmp .leq (.lit 0) (.var 15)) (.need (.cmp .lss (.var 15) (.var 4)) (.need (.cmp .lss (.var 15) (.dlen (.var 6))) (.br (.cmp .eql (.icell (.var 6) (.var 15) 0) (.var 13))
 (.ret 0 (sg 9 [bt 9 (.lit 7)]))
 (.back 1 11 (sg 1000 [bv 1003 14,bv 1002 13,bt 1004 (.arith .add .i64 (.var 15) (.lit 1)),bg 1001 12,bv 1000 11]))))))
 (.br (.cmp .lss (.var 2) (.lit 0))
 (.view (.var 14) [CK.int .u8] [8] 16 (.br (.cmp .gtr (.dlen (.var 18)) (.lit 8192))
 (.ret 0 (sg 9 [bt 9 (.lit 3)]))
 (.br (.cmp .geq (.var 2) (.lit 0))
 (.both (.view (.var 14) [CK.int .u8] [8] 19 (.br (.cmp .neq (.dlen (.var 21)) (.var 2))
 (.ret 0 (sg 9 [bt 9 (.lit 10)]))
 (.need (.cmp .lss (.lit 0) (.var 4)) (.need (.cmp .lss (.lit 0) (.dlen (.var 6))) (.both (.view (.var 14) [CK.int .u8] [8] 22 (.both (.view (.vcell (.var 6) (.lit 0) 1) [CK.int .u8] [8] 25 (.br (.cmp .neq (.dlen (.var 24)) (.dlen (.var 27)))
 (.ret 0 (sg 9 [bt 9 (.lit 10)]))
 (.back 0 9 (sg 1000 [bt 1000 (.arith .add .i64 (.var 11) (.lit 1))])))) .top)) (.both (.view (.vcell (.var 6) (.lit 0) 1) [CK.int .u8] [8] 22 (.both (.view (.var 14) [CK.int .u8] [8] 25 (.br (.cmp .neq (.dlen (.var 27)) (.dlen (.var 24)))
 (.ret 0 (sg 9 [bt 9 (.lit 10)]))
 (.back 0 9 (sg 1000 [bt 1000 (.arith .add .i64 (.var 11) (.lit 1))])))) .top)) .top)))))) .top)
 (.need (.cmp .lss (.lit 0) (.var 4)) (.need (.cmp .lss (.lit 0) (.dlen (.var 6))) (.both (.view (.var 14) [CK.int .u8] [8] 19 (.both (.view (.vcell (.var 6) (.lit 0) 1) [CK.int .u8] [8] 22 (.br (.cmp .neq (.dlen (.var 21)) (.dlen (.var 24)))
 (.ret 0 (sg 9 [bt 9 (.lit 10)]))
 (.back 0 9 (sg 1000 [bt 1000 (.arith .add .i64 (.var 11) (.lit 1))])))) .top)) (.both (.view (.vcell (.var 6) (.lit 0) 1) [CK.int .u8] [8] 19 (.both (.view (.var 14) [CK.int .u8] [8] 22 (.br (.cmp .neq (.dlen (.var 24)) (.dlen (.var 21)))
 (.ret 0 (sg 9 [bt 9 (.lit 10)]))
 (.back 0 9 (sg 1000 [bt 1000 (.arith .add .i64 (.var 11) (.lit 1))])))) .top)) .top)))))))
 (.br (.cmp .geq (.var 2) (.lit 0))
 (.both (.view (.var 14) [CK.int .u8] [8] 16 (.br (.cmp .neq (.dlen (.var 18)) (.var 2))
 (.ret 0 (sg 9 [bt 9 (.lit 10)]))
 (.back 0 9 (sg 1000 [bt 1000 (.arith .add .i64 (.var 11) (.lit 1))])))) .top)
 (.back 0 9 (sg 1000 [bt 1000 (.arith .add .i64 (.var 11) (.lit 1))])))))))))))))))))
 (.br (.cmp .lss (.var 4) (.var 0))
 (.ret 0 (sg 9 [bt 9 (.lit 12)]))
 (.ret 0 (sg 9 [bt 9 (.lit 0)]))))))))
theorem o_check93_eq:treeOf ⟨Tryz.prog,check93C,[],[check93I,check93J 9]⟩ 100000 Tryz.f115 = o_check93:=by kernel_rfl
theorem check93_of (hd:∀ c ∈ ([]:List Ctr),c.ok Tryz.prog) (h:∀ ρ:Env,ρ.good→(check93C).pre ρ→o_check93.den ⟨Tryz.prog,check93C,[],[check93I,check93J 9]⟩ ρ):(check93C).ok Tryz.prog :=
 ok_of_tree Tryz.func115 (fun a w=>Tryz.call115 a w) hd 100000 (fun ρ hg hp=>by rw [o_check93_eq]; exact h ρ hg hp)
def o_addToT:Out:=(.br (.cmp .eql (.var 4) (.lit 0))
 (.ret 0 (sg 7 [bg 8 5,bv 7 1]))
 (.viewL (.var 3) [CK.int .u8] [6] 7 (.inv 0 10 (sg 1000 [bg 1003 5,bv 1001 1,bt 1000 (.lit 0),bt 1002 (.dlen (.var 9)),bt 1004 (.vslice 7 (.lit 0) (.dlen (.var 9)) (.var 8) 1)]) (.fresh 10 (.fresh 11 (.fresh 12 (.fresh 13 (.fresh 14 (.hyp 0 10 (.br (.cmp .lss (.var 10) (.var 12))
 (.viewL (.var 14) [CK.int .u8] [6] 15 (.need (.cmp .leq (.lit 0) (.var 10)) (.need (.cmp .lss (.var 10) (.dlen (.var 17))) (.both (.viewL (.var 2) [CK.int .u8] [13] 18 (.need (.cmp .lss (.var 10) (.dlen (.var 20))) (.both (.pre 0 (sg 0 [bv 1 11,bt 3 (.icell (.var 17) (.var 10) 0),bv 2 4,bg 0 0]) (.both (.fresh 21 (.fresh 22 (.post 0 0 (sg 0 [bv 1 11,bt 3 (.icell (.var 17) (.var 10) 0),bv 2 4,bg 0 0]) 21 (.both (.put 13 18 [CK.int .u8] (.var 20) (.var 10) 0 [(.vint .u8 (.arith .xor .u8 (.icell (.var 20) (.var 10) 0) (.var 21)))] 23 (.back 0 10 (sg 1000 [bg 1003 23,bv 1001 22,bt 1000 (.arith .add .i64 (.var 10) (.lit 1)),bv 1002 12,bt 1004 (.vslice 15 (.lit 0) (.dlen (.var 17)) (.var 16) 1)]))) .top)))) .top)) .top))) (.both (.pre 0 (sg 0 [bv 1 11,bt 3 (.icell (.var 17) (.var 10) 0),bv 2 4,bg 0 0]) (.both (.fresh 18 (.fresh 19 (.post 0 0 (sg 0 [bv 1 11,bt 3 (.icell (.var 17) (.var 10) 0),bv 2 4,bg 0 0]) 18 (.both (.viewL (.var 2) [CK.int .u8] [13] 20 (.need (.cmp .lss (.var 10) (.dlen (.var 22))) (.both (.put 13 20 [CK.int .u8] (.var 22) (.var 10) 0 [(.vint .u8 (.arith .xor .u8 (.icell (.var 22) (.var 10) 0) (.var 18)))] 23 (.back 0 10 (sg 1000 [bg 1003 23,bv 1001 19,bt 1000 (.arith .add .i64 (.var 10) (.lit 1)),bv 1002 12,bt 1004 (.vslice 15 (.lit 0) (.dlen (.var 17)) (.var 16) 1)]))) .top))) .top)))) .top)) .top)))))
 (.ret 0 (sg 7 [bg 8 13,bv 7 11]))))))))))))
theorem o_addToT_eq:treeOf ⟨Tryz.prog,addToT,[mulC],[addToTI]⟩ 100000 Tryz.f124 = o_addToT:=by kernel_rfl
theorem addToT_of (hd:∀ c ∈ ([mulC]:List Ctr),c.ok Tryz.prog) (h:∀ ρ:Env,ρ.good→(addToT).pre ρ→o_addToT.den ⟨Tryz.prog,addToT,[mulC],[addToTI]⟩ ρ):(addToT).ok Tryz.prog :=
 ok_of_tree Tryz.func124 (fun a w=>Tryz.call124 a w) hd 100000 (fun ρ hg hp=>by rw [o_addToT_eq]; exact h ρ hg hp)
@[simp] def o_value94_2:Sg:=sg 0 [bg 11 7,bv 9 18,bv 8 19,bv 4 5,bv 3 4,bt 10 (.dlen (.var 16)),bv 7 18,bv 6 10,bg 5 17,bv 2 3,bv 1 0,bg 0 1]
@[simp] def o_value94_1:Sg:=sg 0 [bg 11 7,bv 9 15,bv 8 16,bv 4 5,bv 3 4,bt 10 (.dlen (.var 19)),bv 7 15,bv 6 10,bg 5 14,bv 2 3,bv 1 0,bg 0 1]
def o_value94:Out:=(.fresh 8 (.inv 0 9 (sg 1000 [bt 1003 .dnil,bt 1004 (.lit 0),bt 1002 (.lit 0),bt 1001 (.lit 0),bg 1000 8]) (.fresh 9 (.fresh 10 (.fresh 11 (.fresh 12 (.fresh 13 (.hyp 0 9 (.br (.cmp .lss (.var 13) (.var 0))
 (.need (.cmp .leq (.lit 0) (.var 13)) (.need (.cmp .lss (.var 13) (.var 2)) (.need (.cmp .lss (.var 13) (.dlen (.var 4))) (.fresh 14 (.need (.cmp .eql (.var 10) (.dlen (.var 12))) (.need (.cmp .leq (.tims (.lit 1) (.plus (.var 10) (.lit 1))) (.lit 140737488355328)) (.fresh 15 (.fresh 16 (.back 0 9 (sg 1000 [bt 1003 (.dapp (.var 12) (.rcons (.vint .u8 (.conv .u8 (.icell (.var 4) (.var 13) 0))) .rnil)),bt 1004 (.arith .add .i64 (.var 13) (.lit 1)),bv 1002 16,bt 1001 (.plus (.var 10) (.lit 1)),bg 1000 15]))))))))))
 (.need (.cmp .leq (.lit 0) (.var 2)) (.need (.cmp .leq (.lit 0) (.var 3)) (.need (.cmp .leq (.lit 0) (.var 0)) (.need (.cmp .leq (.var 0) (.var 3)) (.need (.cmp .lss (.lit 0) (.var 2)) (.need (.cmp .lss (.lit 0) (.dlen (.var 4))) (.both (.pre 0 (sg 0 [bv 4 11,bv 3 12,bv 5 6,bv 2 11,bv 1 10,bg 0 9]) (.both (.fresh 14 (.fresh 15 (.fresh 16 (.post 0 0 (sg 0 [bv 4 11,bv 3 12,bv 5 6,bv 2 11,bv 1 10,bg 0 9]) 14 (.both (.view (.vcell (.var 4) (.lit 0) 1) [CK.int .u8] [7] 17 (.both (.pre 1 o_value94_1 (.both (.fresh 20 (.fresh 21 (.fresh 22 (.post 1 0 o_value94_1 20 (.ret 0 (sg 8 [bv 11 22,bv 10 21,bt 9 (.dlen (.var 19)),bg 8 20])))))) .top)) .top)) .top))))) .top)) (.both (.view (.vcell (.var 4) (.lit 0) 1) [CK.int .u8] [7] 14 (.both (.pre 0 (sg 0 [bv 4 11,bv 3 12,bv 5 6,bv 2 11,bv 1 10,bg 0 9]) (.both (.fresh 17 (.fresh 18 (.fresh 19 (.post 0 0 (sg 0 [bv 4 11,bv 3 12,bv 5 6,bv 2 11,bv 1 10,bg 0 9]) 17 (.both (.pre 1 o_value94_2 (.both (.fresh 20 (.fresh 21 (.fresh 22 (.post 1 0 o_value94_2 20 (.ret 0 (sg 8 [bv 11 22,bv 10 21,bt 9 (.dlen (.var 16)),bg 8 20])))))) .top)) .top))))) .top)) .top)) .top)))))))))))))))))
theorem o_value94_eq:treeOf ⟨Tryz.prog,value94C,[wgt78C,mix77R],[value94I]⟩ 100000 Tryz.f116 = o_value94:=by kernel_rfl
theorem value94_of (hd:∀ c ∈ ([wgt78C,mix77R]:List Ctr),c.ok Tryz.prog) (h:∀ ρ:Env,ρ.good→(value94C).pre ρ→o_value94.den ⟨Tryz.prog,value94C,[wgt78C,mix77R],[value94I]⟩ ρ):(value94C).ok Tryz.prog :=
 ok_of_tree Tryz.func116 (fun a w=>Tryz.call116 a w) hd 100000 (fun ρ hg hp=>by rw [o_value94_eq]; exact h ρ hg hp)
@[simp] def o_solve89_1:Sg:=sg 0 [bg 6 9,bg 5 88,bv 1 73,bt 4 (.icell (.var 85) (.plus (.var 90) (.var 89)) 0),bt 3 (.vcell (.var 7) (.var 89) 1),bt 2 (.vcell (.var 87) (.var 72) 0),bg 0 0]
def o_solve89:Out:=(.fresh 10 (.pre 0 (sg 0 [bv 1 1,bv 3 3,bv 2 2,bg 0 0]) (.both (.fresh 11 (.fresh 12 (.fresh 13 (.fresh 14 (.fresh 15 (.fresh 16 (.post 0 0 (sg 0 [bv 1 1,bv 3 3,bv 2 2,bg 0 0]) 11 (.fresh 17 (.need (.cmp .leq (.lit 0) (.var 2)) (.need (.cmp .leq (.tims (.lit 8) (.var 2)) (.lit 281474976710656)) (.fresh 18 (.inv 0 19 (sg 1000 [bt 1001 (.drep (.var 2) (.rcons (.vint .i64 (.lit 0)) .rnil)),bv 1008 15,bv 1007 13,bv 1006 12,bg 1005 11,bv 1003 14,bt 1002 (.lit 0),bg 1000 18,bg 1004 17,bg 1010 10]) (.fresh 19 (.fresh 20 (.fresh 21 (.fresh 22 (.fresh 23 (.fresh 24 (.fresh 25 (.fresh 26 (.fresh 27 (.fresh 28 (.fresh 29 (.hyp 0 19 (.br (.cmp .lss (.var 21) (.var 2))
 (.need (.cmp .leq (.lit 0) (.var 21)) (.need (.cmp .lss (.var 21) (.var 5)) (.need (.cmp .lss (.var 21) (.dlen (.var 7))) (.need (.cmp .lss (.var 21) (.dlen (.var 20))) (.back 0 19 (sg 1000 [bt 1001 (.dput (.var 20) (.var 21) 0 (.rcons (.vint .i64 (.icell (.var 7) (.var 21) 0)) .rnil)),bv 1008 27,bv 1007 26,bv 1006 25,bg 1005 24,bv 1003 22,bt 1002 (.arith .add .i64 (.var 21) (.lit 1)),bg 1000 19,bg 1004 23,bg 1010 29]))))))
 (.pre 1 (sg 0 [bv 11 2,bv 10 20,bv 6 26,bv 5 27,bv 9 2,bv 8 2,bg 7 19,bv 4 26,bv 3 25,bg 2 24,bv 1 2,bv 0 3]) (.both (.fresh 30 (.fresh 31 (.fresh 32 (.fresh 33 (.post 1 0 (sg 0 [bv 11 2,bv 10 20,bv 6 26,bv 5 27,bv 9 2,bv 8 2,bg 7 19,bv 4 26,bv 3 25,bg 2 24,bv 1 2,bv 0 3]) 30 (.fresh 34 (.pre 2 (sg 0 [bv 8 32,bv 7 33,bv 1 22,bv 6 32,bv 5 31,bg 4 30,bv 3 2,bv 2 2,bg 0 0]) (.both (.fresh 35 (.fresh 36 (.fresh 37 (.fresh 38 (.fresh 39 (.post 2 0 (sg 0 [bv 8 32,bv 7 33,bv 1 22,bv 6 32,bv 5 31,bg 4 30,bv 3 2,bv 2 2,bg 0 0]) 35 (.fresh 40 (.need (.cmp .leq (.tims (.lit 24) (.var 2)) (.lit 281474976710656)) (.fresh 41 (.pack [.cells 34 200 [(.vint .i64 (.var 2)),(.vint .i64 (.var 2)),(.vslice 30 (.lit 0) (.var 31) (.var 32) 1)],.arr 30 5 [CK.int .u8] (.var 33) (.var 32),.arr 19 3 [CK.int .i64] (.var 20) (.var 2)] 42 (.inv 1 43 (sg 1000 [bg 1018 42,bt 1017 (.drep (.var 2) (.rcons .vnils .rnil)),bv 1015 39,bv 1014 37,bv 1013 36,bg 1012 35,bv 1008 27,bv 1007 26,bv 1006 25,bg 1005 24,bv 1003 38,bt 1002 (.lit 0),bg 1016 41,bg 1011 40,bg 1004 23,bg 1010 29]) (.fresh 43 (.fresh 44 (.fresh 45 (.fresh 46 (.fresh 47 (.fresh 48 (.fresh 49 (.fresh 50 (.fresh 51 (.fresh 52 (.fresh 53 (.fresh 54 (.fresh 55 (.fresh 56 (.fresh 57 (.fresh 58 (.fresh 59 (.fresh 60 (.fresh 61 (.hyp 1 43 (.br (.cmp .lss (.var 45) (.var 2))
 (.need (.cmp .lss (.lit 0) (.var 5)) (.need (.cmp .lss (.lit 0) (.dlen (.var 7))) (.view (.vcell (.var 7) (.lit 0) 1) [CK.int .u8] [61,9] 62 (.need (.cmp .leq (.tims (.lit 1) (.dlen (.var 64))) (.lit 281474976710656)) (.fresh 65 (.need (.cmp .leq (.lit 0) (.var 45)) (.need (.cmp .lss (.var 45) (.dlen (.var 60))) (.pre 3 (sg 0 [bv 6 57,bv 5 58,bv 7 45,bv 4 57,bv 3 56,bg 2 55,bv 1 2,bv 0 2]) (.both (.fresh 66 (.fresh 67 (.fresh 68 (.post 3 0 (sg 0 [bv 6 57,bv 5 58,bv 7 45,bv 4 57,bv 3 56,bg 2 55,bv 1 2,bv 0 2]) 66 (.need (.cmp .leq (.lit 0) (.var 67)) (.pack [.arr 65 5 [CK.int .u8] (.drep (.dlen (.var 64)) (.rcons (.vint .u8 (.lit 0)) .rnil)) (.dlen (.var 64)),.abs 61 2] 69 (.inv 2 70 (sg 1000 [bg 1018 69,bt 1017 (.dput (.var 60) (.var 45) 0 (.rcons (.vslice 65 (.lit 0) (.dlen (.var 64)) (.dlen (.var 64)) 1) .rnil)),bv 1015 58,bv 1014 57,bv 1013 56,bv 1008 51,bv 1007 50,bv 1006 49,bg 1005 48,bv 1003 46,bt 1019 (.lit 0),bv 1022 68,bv 1021 67,bv 1020 66,bg 1012 55,bv 1002 45,bg 1016 59,bg 1011 54,bg 1004 47,bg 1010 53]) (.fresh 70 (.fresh 71 (.fresh 72 (.fresh 73 (.fresh 74 (.fresh 75 (.fresh 76 (.fresh 77 (.fresh 78 (.fresh 79 (.fresh 80 (.fresh 81 (.fresh 82 (.fresh 83 (.fresh 84 (.fresh 85 (.fresh 86 (.fresh 87 (.fresh 88 (.fresh 89 (.fresh 90 (.fresh 91 (.fresh 92 (.hyp 2 70 (.br (.cmp .lss (.var 89) (.var 91))
 (.need (.cmp .leq (.lit 0) (.var 89)) (.need (.cmp .leq (.lit 0) (.var 90)) (.need (.cmp .leq (.lit 0) (.plus (.var 90) (.var 89))) (.need (.cmp .lss (.plus (.var 90) (.var 89)) (.dlen (.var 85))) (.need (.cmp .leq (.lit 0) (.var 72)) (.need (.cmp .lss (.var 72) (.var 2)) (.need (.cmp .lss (.var 72) (.dlen (.var 87))) (.need (.cmp .lss (.var 89) (.var 5)) (.need (.cmp .lss (.var 89) (.dlen (.var 7))) (.both (.pre 4 o_solve89_1 (.both (.fresh 93 (.fresh 94 (.post 4 0 o_solve89_1 93 (.back 2 70 (sg 1000 [bg 1018 94,bv 1017 87,bv 1015 85,bv 1014 84,bv 1013 83,bv 1008 78,bv 1007 77,bv 1006 76,bg 1005 75,bv 1003 93,bt 1019 (.arith .add .i64 (.var 89) (.lit 1)),bv 1022 92,bv 1021 91,bv 1020 90,bg 1012 82,bv 1002 72,bg 1016 86,bg 1011 81,bg 1004 74,bg 1010 80]))))) .top)) .top))))))))))
 (.back 1 43 (sg 1000 [bg 1018 88,bv 1017 87,bv 1015 85,bv 1014 84,bv 1013 83,bg 1012 82,bv 1008 78,bv 1007 77,bv 1006 76,bg 1005 75,bv 1003 73,bt 1002 (.arith .add .i64 (.var 72) (.lit 1)),bg 1016 86,bg 1011 81,bg 1004 74,bg 1010 80])))))))))))))))))))))))))))))))))) .top)))))))))
 (.both (.pack [.cells 53 200 [(.vint .i64 (.var 3)),(.vint .i64 (.var 2)),(.vslice 48 (.lit 0) (.var 49) (.var 50) 1)],.cells 47 200 [(.vint .i64 (.var 3)),(.vint .i64 (.var 2)),(.vslice 48 (.lit 0) (.var 49) (.var 50) 1)],.cells 54 200 [(.vint .i64 (.var 2)),(.vint .i64 (.var 2)),(.vslice 55 (.lit 0) (.var 56) (.var 57) 1)],.arr 55 5 [CK.int .u8] (.var 58) (.var 57),.abs 61 2] 62 (.ret 0 (sg 10 [bv 17 51,bg 16 62,bv 15 60,bv 14 46,bv 13 50,bv 12 49,bg 11 48,bg 10 59]))) .top))))))))))))))))))))))))))))))))) .top)))))))) .top))))))))))))))))))))))))))) .top)))
theorem o_solve89_eq:treeOf ⟨Tryz.prog,solve89C,[genKC,selGC,invGC,row75C,addToT],[solve89A,solve89B,solve89D 45]⟩ 100000 Tryz.f111 = o_solve89:=by kernel_rfl
theorem solve89_of (hd:∀ c ∈ ([genKC,selGC,invGC,row75C,addToT]:List Ctr),c.ok Tryz.prog) (h:∀ ρ:Env,ρ.good→(solve89C).pre ρ→o_solve89.den ⟨Tryz.prog,solve89C,[genKC,selGC,invGC,row75C,addToT],[solve89A,solve89B,solve89D 45]⟩ ρ):(solve89C).ok Tryz.prog :=
 ok_of_tree Tryz.func111 (fun a w=>Tryz.call111 a w) hd 100000 (fun ρ hg hp=>by rw [o_solve89_eq]; exact h ρ hg hp)
end Go.Proofs

set_option linter.unusedSimpArgs false
set_option linter.unusedVariables false
namespace Go.Proofs
open Go Go.Eng
variable {k total len e e':Int} {n i:Nat} {I I':Nat→Int} {L L':Nat→Nat}
theorem ok_zero:okTo total len I L 0:=fun j hj=>by omega
theorem ok_step (h:okTo total len I L i) (h1:0 ≤ I i∧I i < total) (h2:∀ j,j < i→I j ≠ I i) (h3:¬ (len < 0∧8192 < L i)) (h4:(L i:Int) = wantL len L):okTo total len I L (i + 1):=fun j hj=>by
 by_cases hji:j = i
 ·subst hji
  exact ⟨h1,h2,fun h=>by omega,h4⟩
 ·exact h j (by omega)
theorem bad_ok (hi:i < n) (h:okTo total len I L n) (hb:badAt total len I L i e):False:=by
 obtain ⟨a,b,c,d⟩:=h i hi
 rcases hb with ⟨h1,_⟩ | ⟨_,⟨j,h1,h2⟩,_⟩ | ⟨_,_,⟨h1,h2⟩,_⟩ | ⟨_,_,_,h1,_⟩
 ·exact h1 a
 ·exact b j h1 h2
 ·have:=c h1; omega
 ·exact h1 d
theorem bad_eq (h:badAt total len I L i e) (h':badAt total len I L i e'):e = e':=by
 rcases h with ⟨a,b⟩ | ⟨a,⟨j,b1,b2⟩,c⟩ | ⟨a,b,c,d⟩ | ⟨a,b,c,d,f⟩ <;> rcases h' with ⟨a',b'⟩ | ⟨a',⟨j',b1',b2'⟩,c'⟩ | ⟨a',b',c',d'⟩ | ⟨a',b',c',d',f'⟩ <;>
  first | omega | exact (a a').elim | exact (a' a).elim | exact (b' _ b1 b2).elim | exact (b _ b1' b2').elim | exact (c' c).elim | exact (c c').elim
theorem chk_eq (h:chkP k total len n I L e) (h':chkP k total len n I L e'):e = e':=by
 rcases h with ⟨i,hi,ho,hb⟩ | ⟨ho,hk⟩ <;> rcases h' with ⟨j,hj,ho',hb'⟩ | ⟨ho',hk'⟩
 ·rcases Nat.lt_trichotomy i j with h | h | h
  ·exact (bad_ok h ho' hb).elim
  ·subst h; exact bad_eq hb hb'
  ·exact (bad_ok h ho hb').elim
 ·exact (bad_ok hi ho' hb).elim
 ·exact (bad_ok hj ho hb').elim
 ·omega
theorem chk_ok (h:chkP k total len n I L 0):okTo total len I L n∧k ≤ (n:Int):=by
 rcases h with ⟨i,hi,ho,hb⟩ | ⟨ho,⟨_,h⟩ | ⟨h,_⟩⟩
 ·rcases hb with ⟨_,h⟩ | ⟨_,_,h⟩ | ⟨_,_,_,h⟩ | ⟨_,_,_,_,h⟩ <;> omega
 ·omega
 ·exact ⟨ho,h⟩
theorem idx_get {D:Rows'} {m j:Nat} (hj:j < m):(idxL D m).getD j 0 = pcI D j:=by
 unfold idxL
 rw [List.getD_eq_getElem?_getD,List.getElem?_map,List.getElem?_range hj]; rfl
theorem idx_len {D:Rows'} {m:Nat}:(idxL D m).length = m:=by simp [idxL]
theorem nodup_map {f:Nat→Int}:∀ {m:Nat},(∀ j,j < m→∀ j',j' < j→f j' ≠ f j)→((List.range m).map f).Nodup:=fun {m} h=>by
 rw [List.nodup_iff_pairwise_ne,List.pairwise_map]
 refine List.Pairwise.imp_of_mem (R:=fun a b=>a < b) (fun {a b} ha hb hlt=>?_) List.pairwise_lt_range
 exact h b (List.mem_range.1 hb) a hlt
theorem choose_of_ok {D:Rows'} {L:Nat→Nat} {m:Nat} (h:okTo total len (pcI D) L n) (hm:m ≤ n):chooseOk m total.toNat (idxL D m):=by
 refine ⟨idx_len,nodup_map fun j hj j' hj'=>(h j (by omega)).2.1 j' hj',fun x hx=>?_⟩
 obtain ⟨j,hj,rfl⟩:=List.mem_map.1 hx
 have:=(h j (by rw [List.mem_range] at hj; omega)).1
 exact ⟨this.1,by omega⟩
end Go.Proofs

set_option linter.unusedSimpArgs false
set_option linter.unusedVariables false
namespace Go.Proofs
open Go Go.Eng
set_option maxRecDepth 100000
theorem mix77R_ok:mix77R.ok Tryz.prog:=⟨mix77_ok.1,fun ρ w hF hO hg hd hsub hst hro hpre=>mix77_ok.2 ρ w hF hO hg hd hsub hst (fun x hx=>by
  rcases List.mem_cons.1 hx with rfl | hx
  ·exact hro _ (List.mem_cons_self ..)
  ·rcases List.mem_cons.1 hx with rfl | hx
   ·exact hro _ (List.mem_cons_of_mem _ (List.mem_cons_self ..))
   ·rcases List.mem_cons.1 hx with rfl | hx
    ·exact hro (.abs 11 6) (List.mem_cons_of_mem _ (List.mem_cons_of_mem _ (List.mem_cons_self ..)))
    ·cases hx) hpre⟩
theorem pc_atN {h:Hp} {D:Rows'} {n j:Int} (hp:pcOk h D n.toNat) (h0:0 ≤ j) (h1:j < n):j < (D.length:Int)∧cellI D j 0 = pcI D j.toNat∧∃ d,Rd h kB (cellV D j 1) d∧allB d∧pcD h D j.toNat = bI d∧pcN h D j.toNat = d.length:=by
 obtain ⟨a,b,d,c,e,f⟩:=pc_atI hp h0 h1
 exact ⟨a,b,d,c,e,f,by rw [pcN,f,bI_len]⟩
theorem seenI_zero {I:Nat→Int}:seenI [List.replicate 255 (.bool false)] I 0:=by
 refine ⟨⟨_,rfl,List.length_replicate ..⟩,fun x h0 h1=>⟨fun h=>?_,fun ⟨j,hj,_⟩=>by omega⟩⟩
 exfalso
 have h2:cellXB [List.replicate 255 (Value.bool false)] x.toNat = false:=by
  unfold cellXB
  rw [List.headD_cons,List.getElem?_replicate,if_pos (by omega)]; rfl
 rw [h2] at h; cases h
theorem seenI_step {s:Rows'} {I:Nat→Int} {i:Nat} (h:seenI s I i) (h0:0 ≤ I i) (h1:I i < 255):seenI (putX s (I i).toNat (.bool true)) I (i + 1):=by
 obtain ⟨⟨row,rfl,hr⟩,h2⟩:=h
 refine ⟨⟨_,rfl,by rw [List.length_set]; exact hr⟩,fun x x0 x1=>?_⟩
 have hc:cellXB (putX [row] (I i).toNat (.bool true)) x.toNat = if x = I i then true else cellXB [row] x.toNat:=by
  unfold cellXB putX
  rw [List.headD_cons,List.headD_cons,List.getElem?_set]
  by_cases hxe:x = I i
  ·rw [if_pos (by rw [hxe]),if_pos (by omega),if_pos hxe]; rfl
  ·rw [if_neg (fun e=>hxe (by omega)),if_neg hxe]
 rw [hc]
 by_cases hxe:x = I i
 ·rw [if_pos hxe]
  exact ⟨fun _=>⟨i,by omega,hxe.symm⟩,fun _=>rfl⟩
 ·rw [if_neg hxe,h2 x x0 x1]
  constructor
  ·rintro ⟨j,hj,he⟩; exact ⟨j,by omega,he⟩
  ·rintro ⟨j,hj,he⟩
   refine ⟨j,?_,he⟩
   by_cases hji:j = i
   ·exact (hxe (by rw [← he,hji])).elim
   ·omega
theorem check88_ok:check88C.ok Tryz.prog:=check88_of (by simp) fun ρ hg hp=>by
 obtain ⟨p1,p2,p3,hpc⟩:=hp
 simp (config:={ maxSteps:=4000000 }) [o_check88,check88C,chkOf,check88I,okR]
 refine ⟨p2,⟨p2,ok_zero,seenI_zero⟩,fun i _ s _ i0 i1 ho hs=>⟨fun hi=>?_,fun hi=>?_⟩⟩
 ·obtain ⟨hl,hI,d,hr,_,_,hL⟩:=pc_atN hpc i0 hi
  have bad:∀ e,badAt (ρ 1).i (ρ 2).i (pcI (ρ 6).d) (pcN (ρ 8).h (ρ 6).d) i.i.toNat e→chkP (ρ 0).i (ρ 1).i (ρ 2).i (ρ 4).i.toNat (pcI (ρ 6).d) (pcN (ρ 8).h (ρ 6).d) e:=fun e hb=>.inl ⟨i.i.toNat,by omega,ho,hb⟩
  rw [hI]
  refine ⟨i0,by omega,fun h=>bad _ (.inl ⟨by omega,rfl⟩),fun h0=>⟨fun h=>bad _ (.inl ⟨by omega,rfl⟩),fun h1=>?_⟩⟩
  have hsx:=hs.2 _ h0 (by omega)
  refine ⟨h0,by omega,by obtain ⟨⟨row,e,_⟩,_⟩:=hs; rw [e]; exact Nat.one_pos,fun hx=>bad _ (.inr (.inl ⟨⟨h0,h1⟩,hsx.1 hx,rfl⟩)),fun hx=>?_⟩
  have hno:∀ j,j < i.i.toNat→pcI (ρ 6).d j ≠ pcI (ρ 6).d i.i.toNat:=fun j hj he=>by
   rw [hsx.2 ⟨j,hj,he⟩] at hx; cases hx
  have next:¬ ((ρ 2).i < 0∧8192 < pcN (ρ 8).h (ρ 6).d i.i.toNat)→(pcN (ρ 8).h (ρ 6).d i.i.toNat:Int) = wantL (ρ 2).i (pcN (ρ 8).h (ρ 6).d) →
    (0 ≤ arithOf .add .i64 i.i 1∧arithOf .add .i64 i.i 1 ≤ (ρ 4).i∧okTo (ρ 1).i (ρ 2).i (pcI (ρ 6).d) (pcN (ρ 8).h (ρ 6).d) (arithOf .add .i64 i.i 1).toNat∧seenI (putX s.d (pcI (ρ 6).d i.i.toNat).toNat (.bool true)) (pcI (ρ 6).d) (arithOf .add .i64 i.i 1).toNat)∧max ((ρ 4).i - arithOf .add .i64 i.i 1) 0 < (ρ 4).i - i.i:=fun h3 h4=>by
   rw [add64 (by omega) (by omega),show (i.i + 1).toNat = i.i.toNat + 1 by omega]
   exact ⟨⟨by omega,by omega,ok_step ho ⟨h0,h1⟩ hno h3 h4,seenI_step hs h0 (by omega)⟩,by omega⟩
  refine ⟨fun hneg=>⟨d,hr,fun h=>bad _ (.inr (.inr (.inl ⟨⟨h0,h1⟩,hno,⟨hneg,by omega⟩,rfl⟩))),fun h=>?_⟩,fun hpos=>⟨d,hr,fun h=>bad _ (.inr (.inr (.inr ⟨⟨h0,h1⟩,hno,fun h=>by omega,?_,rfl⟩))),fun h=>next (fun h=>by omega) ?_⟩⟩
  ·obtain ⟨hl0,_,d0,hr0,_,_,hL0⟩:=pc_atN hpc (j:=0) (by omega) (by omega)
   have hw:wantL (ρ 2).i (pcN (ρ 8).h (ρ 6).d) = (d0.length:Int):=by
    unfold wantL
    rw [if_pos hneg]
    exact congrArg Nat.cast hL0
   refine ⟨by omega,by omega,d0,hr0,d,hr,fun hne=>bad _ (.inr (.inr (.inr ⟨⟨h0,h1⟩,hno,fun h=>by omega,?_,rfl⟩))),fun he=>next (fun h=>by omega) ?_⟩
   ·rw [hw,hL]; exact hne
   ·rw [hw,hL]; exact he
  ·unfold wantL
   rw [if_neg (by omega),hL]; exact h
  ·unfold wantL
   rw [if_neg (by omega),hL]; exact h
 ·rw [show i.i.toNat = (ρ 4).i.toNat by omega] at ho
  exact ⟨fun h=>.inr ⟨ho,.inl ⟨by omega,rfl⟩⟩,fun h=>.inr ⟨ho,.inr ⟨by omega,rfl⟩⟩⟩
theorem check93_ok:check93C.ok Tryz.prog:=check93_of (by simp) fun ρ hg hp=>by
 obtain ⟨p1,p2,p3,hpc⟩:=hp
 simp (config:={ maxSteps:=4000000 }) [o_check93,check93C,chkOf,check93I,check93J,okR]
 refine ⟨⟨p2,ok_zero⟩,fun i _ i0 i1 ho=>⟨p2,fun hi=>?_,fun hi=>?_⟩⟩
 ·obtain ⟨hl,hI,d,hr,_,_,hL⟩:=pc_atN hpc i0 hi
  have bad:∀ e,badAt (ρ 1).i (ρ 2).i (pcI (ρ 6).d) (pcN (ρ 8).h (ρ 6).d) i.i.toNat e→chkP (ρ 0).i (ρ 1).i (ρ 2).i (ρ 4).i.toNat (pcI (ρ 6).d) (pcN (ρ 8).h (ρ 6).d) e:=fun e hb=>.inl ⟨i.i.toNat,by omega,ho,hb⟩
  rw [hI]
  refine ⟨i0,by omega,fun h=>bad _ (.inl ⟨by omega,rfl⟩),fun h0=>⟨fun h=>bad _ (.inl ⟨by omega,rfl⟩),fun h1=>⟨⟨i0,hi,ho,⟨h0,h1⟩,i0,fun j hj=>by omega⟩,?_⟩⟩⟩
  intro i' _ x _ v _ j _ i0' i1' hii _ x0 x1 hx hv j0 j1 hno
  have hie:i'.i = i.i:=hii
  rw [hie] at hx hv i1' j1
  rw [hie]
  rw [hI] at hx
  refine ⟨fun hj=>?_,fun hj=>?_⟩
  ·obtain ⟨hlj,hIj,_⟩:=pc_atN hpc j0 (by omega)
   rw [hIj]
   refine ⟨j0,by omega,by omega,fun h=>bad _ (.inr (.inl ⟨⟨h0,h1⟩,⟨j.i.toNat,by omega,by rw [h,hx]⟩,rfl⟩)),fun h=>⟨⟨i0,hi,rfl,ho,⟨x0,x1⟩,by rw [hI]; exact hx,hv,?_⟩,?_⟩⟩
   ·rw [add64 (by omega) (by omega)]
    exact ⟨by omega,by omega,fun j' hj'=>by
     by_cases he:j' = j.i.toNat
     ·rw [he]; exact h
     ·exact hno j' (by omega)⟩
   ·rw [add64 (by omega) (by omega)]; omega
  ·rw [hv]
   have hno:∀ j',j' < i.i.toNat→pcI (ρ 6).d j' ≠ pcI (ρ 6).d i.i.toNat:=fun j' hj'=>by rw [← hx]; exact hno j' (by omega)
   have next:¬ ((ρ 2).i < 0∧8192 < pcN (ρ 8).h (ρ 6).d i.i.toNat)→(pcN (ρ 8).h (ρ 6).d i.i.toNat:Int) = wantL (ρ 2).i (pcN (ρ 8).h (ρ 6).d) →
     (0 ≤ arithOf .add .i64 i.i 1∧arithOf .add .i64 i.i 1 ≤ (ρ 4).i∧okTo (ρ 1).i (ρ 2).i (pcI (ρ 6).d) (pcN (ρ 8).h (ρ 6).d) (arithOf .add .i64 i.i 1).toNat)∧max ((ρ 4).i - arithOf .add .i64 i.i 1) 0 < (ρ 4).i - i.i:=fun h3 h4=>by
    rw [add64 (by omega) (by omega),show (i.i + 1).toNat = i.i.toNat + 1 by omega]
    exact ⟨⟨by omega,by omega,ok_step ho ⟨h0,h1⟩ hno h3 h4⟩,by omega⟩
   obtain ⟨hl0,_,d0,hr0,_,_,hL0⟩:=pc_atN hpc (j:=0) (by omega) (by omega)
   have hwn:(ρ 2).i < 0→wantL (ρ 2).i (pcN (ρ 8).h (ρ 6).d) = (d0.length:Int):=fun hneg=>by
    unfold wantL
    rw [if_pos hneg]
    exact congrArg Nat.cast hL0
   have hwp:0 ≤ (ρ 2).i→wantL (ρ 2).i (pcN (ρ 8).h (ρ 6).d) = (ρ 2).i:=fun hpos=>by
    unfold wantL
    rw [if_neg (by omega)]
   have b10:¬ ((ρ 2).i < 0∧8192 < pcN (ρ 8).h (ρ 6).d i.i.toNat)→(pcN (ρ 8).h (ρ 6).d i.i.toNat:Int) ≠ wantL (ρ 2).i (pcN (ρ 8).h (ρ 6).d)→chkP (ρ 0).i (ρ 1).i (ρ 2).i (ρ 4).i.toNat (pcI (ρ 6).d) (pcN (ρ 8).h (ρ 6).d) 10:=fun h3 h4=>bad _ (.inr (.inr (.inr ⟨⟨h0,h1⟩,hno,h3,h4,rfl⟩)))
   have e10:∀ hneg:(ρ 2).i < 0,(d.length:Int) ≤ 8192→¬ (d.length:Int) = (d0.length:Int)→chkP (ρ 0).i (ρ 1).i (ρ 2).i (ρ 4).i.toNat (pcI (ρ 6).d) (pcN (ρ 8).h (ρ 6).d) 10:=fun hneg h8 hne=>b10 (fun h=>by omega) (by rw [hwn hneg,hL]; exact hne)
   have n10:∀ hneg:(ρ 2).i < 0,(d.length:Int) ≤ 8192→(d.length:Int) = (d0.length:Int)→_:=fun hneg h8 he=>next (fun h=>by omega) (by rw [hwn hneg,hL]; exact he)
   have p10:∀ hpos:0 ≤ (ρ 2).i,¬ (d.length:Int) = (ρ 2).i→chkP (ρ 0).i (ρ 1).i (ρ 2).i (ρ 4).i.toNat (pcI (ρ 6).d) (pcN (ρ 8).h (ρ 6).d) 10:=fun hpos hne=>b10 (fun h=>by omega) (by rw [hwp hpos,hL]; exact hne)
   have q10:∀ hpos:0 ≤ (ρ 2).i,(d.length:Int) = (ρ 2).i→_:=fun hpos he=>next (fun h=>by omega) (by rw [hwp hpos,hL]; exact he)
   refine ⟨fun hneg=>⟨d,hr,fun h=>bad _ (.inr (.inr (.inl ⟨⟨h0,h1⟩,hno,⟨hneg,by omega⟩,rfl⟩))),fun h8=>⟨fun h=>by omega,fun _=>⟨by omega,by omega,⟨d,hr,d0,hr0,e10 hneg h8,n10 hneg h8⟩,d0,hr0,d,hr,e10 hneg h8,n10 hneg h8⟩⟩⟩,fun hpos=>⟨fun _=>⟨d,hr,p10 hpos,q10 hpos⟩,fun h=>by omega⟩⟩
 ·rw [show i.i.toNat = (ρ 4).i.toNat by omega] at ho
  exact ⟨fun h=>.inr ⟨ho,.inl ⟨by omega,rfl⟩⟩,fun h=>.inr ⟨ho,.inr ⟨by omega,rfl⟩⟩⟩
theorem rdB_L {h:Hp} {v:Value} (hb:rdB h v):∃ d,Rd h kB v d∧allB d∧rdL h v = bI d:=by
 obtain ⟨d,hr,hB⟩:=hb
 exact ⟨d,hr,hB,rdL_eq hr⟩
theorem tabTo_zero {h:Hp} {v:Value} {g:List Int→List Int} (hg:∀ l,bytesL l→g l = l):tabTo h h v g:=fun vs n M i ht hi hv =>
 tab_congr ht (fun _ _=>rfl) fun j hj=>by
  by_cases hji:j = i
  ·rw [if_pos hji,hji,hg _ (tab_bytes ht hi)]
  ·rw [if_neg hji]
theorem tabTo_at {h h':Hp} {v:Value} {g:List Int→List Int} {l:Nat} (ht:tabHas h v l) (hT:tabTo h h' v g) (hg:∀ x,(g x).length = x.length):∃ d,Rd h' kB v d∧allB d∧l ≤ d.length:=by
 obtain ⟨vs,n,M,i,ht,hi,hv,hl⟩:=ht
 obtain ⟨d,hr,hd,hB⟩:=tab_at (hT vs n M i ht hi hv) hi
 rw [hv] at hr
 rw [if_pos rfl] at hd
 exact ⟨d,hr,hB,by rw [← bI_len,hd,hg]; exact hl⟩
theorem tabTo_step {h h1 h2:Hp} {v:Value} {s:List Int} {w:Int} {k:Nat} {r:Option Addr} {d:Rows'} {cap:Nat} {x:Int} (hT:tabTo h h1 v fun l=>addToL l 0 (seg s 0 k) w) (hP:Put h1 h2 r kB d k [.int .u8 x]) (hv:v = .slice (addrOf r 0) d.length cap) (hr:Rd h1 kB v d) (hk:k < d.length) (hks:k < s.length)
  (hx:x = xorB (cellI d k 0) (mulF w (s.getD k 0))):tabTo h h2 v fun l=>addToL l 0 (seg s 0 (k + 1)) w:=fun vs n M i ht hi hvi=>by
 have t:=hT vs n M i ht hi hvi
 have hri:Rd h1 kB (vs i) d:=by rw [hvi]; exact hr
 obtain ⟨d',r',e',_⟩:=tab_at t hi
 obtain rfl:=Rd_unique r' hri
 rw [if_pos rfl] at e'
 have hlen:d'.length = (M i).length:=by rw [← bI_len,e',addToL_len]
 have hc:(M i)[0 + k]? = some (cellI d' k 0):=by
  have h0:=bI_get (d:=d') (i:=(k:Int)) (by omega) (by omega)
  rw [Int.toNat_natCast,e',addToL_out (by right; rw [seg_len (by omega)]; omega)] at h0
  rw [Nat.zero_add]; exact h0
 have hy:s[0 + k]? = some (s.getD k 0):=by
  rw [Nat.zero_add,List.getElem?_eq_getElem hks,List.getD_eq_getElem?_getD,List.getElem?_eq_getElem hks]; rfl
 refine tab_congr (tab_put t hi hP (by rw [hvi]; exact hv) hri hk (by rw [hx]; exact xorB_range)) (fun _ _=>rfl) fun j _=>?_
 by_cases hji:j = i
 ·subst hji
  rw [if_pos rfl,if_pos rfl,if_pos rfl,hx]
  show addToL (M j) 0 (seg s 0 (k + 1)) w = (addToL (M j) 0 (seg s 0 k) w).set k _
  have h:=addToL_step (i:=k) (c:=w) hc hy
  simp only [Nat.zero_add] at h
  exact h
 ·rw [if_neg hji,if_neg hji,if_neg hji]
theorem addToT_ok:addToT.ok Tryz.prog:=addToT_of (by simp [mul_ok]) fun ρ hg hp=>by
 obtain ⟨hf,hb,hl,hh,hw⟩:=hp
 simp (config:={ maxSteps:=4000000 }) [o_addToT,addToT,addToTI,mulC]
 obtain ⟨s,hrs,hsB,hs⟩:=rdB_L hb
 have hsl:(rdL (ρ 6).h (ρ 3).v).length = s.length:=by rw [hs,bI_len]
 refine ⟨fun h0=>⟨hf,tabTo_zero fun l hl=>by rw [h0]; exact addToL_zero hl⟩,fun h0=>⟨s,hrs,fun u0 _ u1 _ e0 _=>⟨⟨hf,by rw [hsl],e0.symm,tabTo_zero fun l hl=>by rw [show seg (rdL (ρ 6).h (ρ 3).v) 0 0 = [] by simp [seg],addToL_nil]⟩,?_⟩⟩⟩
 intro i _ f _ n _ H _ v _ hf i0 i1 hn hv hT
 have hlen:∀ (k:Nat) (x:List Int),(addToL x 0 (seg (rdL (ρ 6).h (ρ 3).v) 0 k) (ρ 4).i).length = x.length:=fun k x=>addToL_len
 refine ⟨fun hi=>⟨s,by rw [hv]; exact hrs,fun u2 _ u3 _ e1 _=>⟨i0,by omega,?_⟩⟩,fun hi=>⟨hf,?_⟩⟩
 ·obtain ⟨d,hrd,hdB,hld⟩:=tabTo_at hh hT (hlen _)
  have hsb:=allB_get hsB i0 (by omega:i.i < s.length)
  rw [add64 (x:=i.i) (by omega) (by omega)]
  have hsi:(rdL (ρ 6).h (ρ 3).v).getD i.i.toNat 0 = cellI s i.i 0:=by rw [hs,cell_getD i0 (by omega)]
  have core:∀ (a b m H':U),(ρ 2).v = .slice (addrOf a.r 0) d.length b.i.toNat→m.i = mulF (ρ 4).i (cellI s i.i 0)→Put H.h H'.h a.r kB d i.i.toNat [.int .u8 (arithOf .xor .u8 (cellI d i.i 0) m.i)] →
    tabTo (ρ 5).h H'.h (ρ 2).v fun l=>addToL l 0 (seg (rdL (ρ 6).h (ρ 3).v) 0 (i.i + 1).toNat) (ρ 4).i:=fun a b m H' ea hm hP=>by
   rw [show (i.i + 1).toNat = i.i.toNat + 1 by omega]
   exact tabTo_step hT hP ea hrd (by omega) (by omega) (by rw [hsi,hm,Int.toNat_of_nonneg i0]; rfl)
  refine ⟨⟨d,hrd,fun a _ b _ ea _=>⟨by omega,⟨hf,hw.1,hw.2,hsb⟩,fun m _ f' _ hf' hm H' _ hP=>?_⟩⟩,⟨hf,hw.1,hw.2,hsb⟩,fun m _ f' _ hf' hm=>⟨d,hrd,fun a _ b _ ea _=>⟨by omega,fun H' _ hP=>?_⟩⟩⟩
  all_goals exact ⟨⟨hf',by omega,by omega,hn,by rw [← e1]; exact hv,core a b m H' ea hm hP⟩,by omega⟩
 ·have:seg (rdL (ρ 6).h (ρ 3).v) 0 i.i.toNat = rdL (ρ 6).h (ρ 3).v:=by
   unfold seg
   rw [List.drop_zero,List.take_of_length_le (by omega)]
  rw [this] at hT
  exact hT
end Go.Proofs

set_option linter.unusedSimpArgs false
set_option linter.unusedVariables false
namespace Go.Proofs
open Go Go.Eng
def byF (r:F) (y:Nat→F):Nat→F:=fun l=>(if l = 0 then 0 else y (l - 1)) ^^^ fmul r (y l)
theorem pval_one {y:Nat→F} {x:F}:pval 1 y x = y 0:=by
 show (0:F) ^^^ fmul (y 0) (fpow x 0) = y 0
 rw [zero_xor',show fpow x 0 = 1 from rfl,fmul_one]
theorem byF_val' {r x:F} {y:Nat→F}:∀ n,pval (n + 1) (byF r y) x = fmul (x ^^^ r) (pval n y x) ^^^ fmul (fmul r (y n)) (fpow x n)
 | 0=>by rw [pval_one,byF,if_pos rfl,zero_xor',show pval 0 y x = 0 from rfl,fmul_zero,zero_xor',show fpow x 0 = 1 from rfl,fmul_one]
 | n + 1=>by
  have ih:=byF_val' (r:=r) (x:=x) (y:=y) n
  have h1:pval (n + 2) (byF r y) x = pval (n + 1) (byF r y) x ^^^ fmul (byF r y (n + 1)) (fpow x (n + 1)):=rfl
  have h2:pval (n + 1) y x = pval n y x ^^^ fmul (y n) (fpow x n):=rfl
  rw [h1,ih,h2,byF,if_neg (by omega),Nat.add_sub_cancel,xor_fmul,fmul_xor (x:=y n)]
  have h3:fmul (x ^^^ r) (fmul (y n) (fpow x n)) = fmul (y n) (fpow x (n + 1)) ^^^ fmul (fmul r (y n)) (fpow x n):=by
   rw [fmul_xor,fpow]
   congr 1
   ·rw [← fmul_assoc,fmul_comm (x:=x),fmul_assoc]
    try rw [fmul_comm (x:=x)]
   ·rw [fmul_assoc]
  rw [h3]
  generalize fmul (x ^^^ r) (pval n y x) = a
  generalize fmul (fmul r (y n)) (fpow x n) = b
  generalize fmul (y n) (fpow x (n + 1)) = c
  generalize fmul (fmul r (y (n + 1))) (fpow x (n + 1)) = d
  rw [BitVec.xor_assoc,BitVec.xor_assoc,BitVec.xor_assoc]
  congr 1
  rw [← BitVec.xor_assoc,← BitVec.xor_assoc,BitVec.xor_comm b c]
theorem byF_val {r x:F} {y:Nat→F} {n:Nat} (h:y n = 0):pval (n + 1) (byF r y) x = fmul (x ^^^ r) (pval n y x):=by
 rw [byF_val',h,fmul_zero,zero_fmul,xor_zero']
theorem pval_more {y:Nat→F} {x:F} {n:Nat} (h:∀ l,n ≤ l→y l = 0):∀ m,pval (n + m) y x = pval n y x
 | 0=>rfl
 | m + 1=>by
  show pval (n + m) y x ^^^ fmul (y (n + m)) (fpow x (n + m)) = _
  rw [pval_more h m,h _ (by omega),zero_fmul,xor_zero']
theorem pval_xor {y z:Nat→F} {x:F} {n:Nat}:pval n (fun l=>y l ^^^ z l) x = pval n y x ^^^ pval n z x:=by
 simp only [pval]
 rw [← fsum_xor]
 exact fsum_congr fun j _=>fmul_xor
theorem pval_mul {y:Nat→F} {x c:F} {n:Nat}:pval n (fun l=>fmul c (y l)) x = fmul c (pval n y x):=by
 simp only [pval]
 rw [← fsum_mul]
 exact fsum_congr fun j _=>fmul_assoc
def ddF (xs ys:Nat→F):Nat→Nat→F
 | s,0=>ys s
 | s,j + 1=>fmul (ddF xs ys (s + 1) j ^^^ ddF xs ys s j) (finv (xs (s + j + 1) ^^^ xs s))
theorem newton_top {n:Nat} {xs ys:Nat→F} (hd:distinct n xs):∀ j s,s + j < n→∃ y:Nat→F,(∀ l,j < l→y l = 0)∧(∀ i,i ≤ j→pval (j + 1) y (xs (s + i)) = ys (s + i))∧y j = ddF xs ys s j
 | 0,s,hs=>⟨fun l=>if l = 0 then ys s else 0,fun l hl=>if_neg (by omega),fun i hi=>by
   obtain rfl:i = 0:=by omega
   rw [pval_one,if_pos rfl,Nat.add_zero],rfl⟩
 | j + 1,s,hs=>by
  obtain ⟨y1,a1,b1,c1⟩:=newton_top (ys:=ys) hd j (s + 1) (by omega)
  obtain ⟨y0,a0,b0,c0⟩:=newton_top (ys:=ys) hd j s (by omega)
  have hne:xs (s + j + 1) ^^^ xs s ≠ 0:=fun h=>by have:=hd _ _ (by omega) (by omega) (xor_eq_zero.1 h); omega
  let w:F:=finv (xs (s + j + 1) ^^^ xs s)
  have hv:∀ x,pval (j + 2) (fun l=>fmul w (byF (xs s) y1 l ^^^ byF (xs (s + j + 1)) y0 l)) x = fmul w (fmul (x ^^^ xs s) (pval (j + 1) y1 x) ^^^ fmul (x ^^^ xs (s + j + 1)) (pval (j + 1) y0 x)):=fun x=>by
   rw [pval_mul,pval_xor,byF_val (a1 _ (by omega)),byF_val (a0 _ (by omega))]
  refine ⟨fun l=>fmul w (byF (xs s) y1 l ^^^ byF (xs (s + j + 1)) y0 l),fun l hl=>?_,fun i hi=>?_,?_⟩
  ·simp only [byF]
   rw [if_neg (by omega),if_neg (by omega),a1 l (by omega),a0 l (by omega),a1 (l - 1) (by omega),a0 (l - 1) (by omega),fmul_zero,fmul_zero,xor_self',fmul_zero]
  ·rw [hv]
   have hw:∀ z,fmul w (fmul (xs (s + j + 1) ^^^ xs s) z) = z:=fun z=>by
    rw [← fmul_assoc,fmul_comm (x:=w),fmul_finv hne,one_fmul]
   by_cases h0:i = 0
   ·subst h0
    have hb0:=b0 0 (by omega)
    simp only [Nat.add_zero] at hb0
    rw [Nat.add_zero,xor_self',zero_fmul,zero_xor',hb0,BitVec.xor_comm,hw]
   ·by_cases h1:i = j + 1
    ·subst h1
     have:=b1 j (Nat.le_refl _)
     rw [show s + 1 + j = s + (j + 1) by omega] at this
     rw [this,← Nat.add_assoc,xor_self',zero_fmul,xor_zero',hw]
    ·have h2:=b1 (i - 1) (by omega)
     rw [show s + 1 + (i - 1) = s + i by omega] at h2
     rw [h2,b0 i (by omega),← fmul_xor,xor_swap,xor_self',zero_xor',BitVec.xor_comm,hw]
  ·simp only [byF]
   rw [if_neg (by omega),if_neg (by omega),a1 (j + 1) (by omega),a0 (j + 1) (by omega),fmul_zero,fmul_zero,xor_zero',xor_zero',Nat.add_sub_cancel,c1,c0,fmul_comm]
   rfl
def monF (xs:Nat→F):Nat→Nat→F
 | 0=>fun l=>if l = 0 then 1 else 0
 | m + 1=>byF (xs m) (monF xs m)
theorem mon_facts {xs:Nat→F}:∀ m,(∀ l,m < l→monF xs m l = 0)∧monF xs m m = 1∧∀ x,pval (m + 1) (monF xs m) x = fprod (fun u=>x ^^^ xs u) m
 | 0=>⟨fun l hl=>if_neg (by omega),rfl,fun x=>by rw [pval_one]; rfl⟩
 | m + 1=>by
  obtain ⟨h1,h2,h3⟩:=mon_facts (xs:=xs) m
  refine ⟨fun l hl=>?_,?_,fun x=>?_⟩
  ·simp only [monF,byF]
   rw [if_neg (by omega),h1 (l - 1) (by omega),h1 l (by omega),fmul_zero,xor_zero']
  ·simp only [monF,byF]
   rw [if_neg (by omega),Nat.add_sub_cancel,h2,h1 (m + 1) (by omega),fmul_zero,xor_zero']
  ·rw [monF,byF_val (h1 _ (by omega)),h3,fprod,fmul_comm]
def newtF (xs ys:Nat→F) (x:F) (m:Nat):F:=fsum (fun t=>fmul (ddF xs ys 0 t) (fprod (fun u=>x ^^^ xs u) t)) m
theorem newton_at {n:Nat} {xs ys:Nat→F} (hd:distinct n xs):∀ m,m < n→∃ y:Nat→F,(∀ l,m < l→y l = 0)∧(∀ i,i ≤ m→pval (m + 1) y (xs i) = ys i)∧∀ x,pval (m + 1) y x = newtF xs ys x (m + 1)
 | 0,hm=>by
  obtain ⟨y,a,b,c⟩:=newton_top (ys:=ys) hd 0 0 (by omega)
  refine ⟨y,a,fun i hi=>by have:=b i hi; simp only [Nat.zero_add] at this ⊢; exact this,fun x=>?_⟩
  rw [pval_one,c]
  show ys 0 = (0:F) ^^^ fmul (ys 0) 1
  rw [zero_xor',fmul_one]
 | m + 1,hm=>by
  obtain ⟨y0,a0,b0,c0⟩:=newton_at (ys:=ys) hd m (by omega)
  obtain ⟨y,a,b,c⟩:=newton_top (ys:=ys) hd (m + 1) 0 (by omega)
  obtain ⟨p1,p2,p3⟩:=mon_facts (xs:=xs) (m + 1)
  refine ⟨y,a,fun i hi=>by have:=b i hi; rwa [Nat.zero_add] at this,fun x=>?_⟩
  let R:Nat→F:=fun l=>(y l ^^^ y0 l) ^^^ fmul (ddF xs ys 0 (m + 1)) (monF xs (m + 1) l)
  have hRv:∀ x,pval (m + 2) R x = (pval (m + 2) y x ^^^ pval (m + 1) y0 x) ^^^ fmul (ddF xs ys 0 (m + 1)) (fprod (fun u=>x ^^^ xs u) (m + 1)):=fun x=>by
   rw [← p3,← pval_mul,← pval_more (y:=y0) (n:=m + 1) (fun l hl=>a0 l (by omega)) 1,← pval_xor,← pval_xor]
  have hRt:R (m + 1) = 0:=by
   simp only [R]
   rw [c,a0 (m + 1) (by omega),p2,fmul_one,xor_zero',xor_self']
  have hRe:∀ x,pval (m + 1) R x = pval (m + 2) R x:=fun x=>by
   show _ = pval (m + 1) R x ^^^ fmul (R (m + 1)) (fpow x (m + 1))
   rw [hRt,zero_fmul,xor_zero']
  have h0:=pval_roots (n:=m + 1) (y:=R) (xs:=xs) (fun i j hi hj=>hd i j (by omega) (by omega)) fun i hi=>by
   rw [hRe,hRv,b0 i (by omega)]
   have:=b i (by omega)
   rw [Nat.zero_add] at this
   rw [this,xor_self',zero_xor',fprod_zero (k:=i) hi xor_self',fmul_zero]
  have hz:pval (m + 1) R x = 0:=fsum_zero fun l hl=>by rw [h0 l hl,zero_fmul]
  rw [hRe,hRv] at hz
  have h1:newtF xs ys x (m + 2) = newtF xs ys x (m + 1) ^^^ fmul (ddF xs ys 0 (m + 1)) (fprod (fun u=>x ^^^ xs u) (m + 1)):=rfl
  rw [h1,← c0 x]
  have h2:=xor_eq_zero.1 hz
  rw [← h2,← BitVec.xor_assoc,BitVec.xor_comm,← BitVec.xor_assoc,xor_self',zero_xor']
end Go.Proofs

set_option linter.unusedSimpArgs false
set_option linter.unusedVariables false
namespace Go.Proofs
open Go Go.Eng
theorem mixN_facts {f:Nat→List Int} {w:List Int} {l:Nat} (hw:bytesL w):∀ k,(∀ j,j < k→(f j).length = l∧bytesL (f j))→(mixN f w l k).length = l∧bytesL (mixN f w l k)∧∀ c,c < l→toF ((mixN f w l k).getD c 0) = fsum (fun m=>fmul (toF (w.getD m 0)) (toF ((f m).getD c 0))) k
 | 0,_=>⟨by simp [mixN],fun x hx=>by rw [mixN] at hx; rw [List.eq_of_mem_replicate hx]; exact ⟨by omega,by omega⟩,fun c hc=>by
   rw [mixN,List.getD_eq_getElem?_getD,List.getElem?_replicate,if_pos hc]; rfl⟩
 | k + 1,h=>by
  obtain ⟨h1,h2,h3⟩:=mixN_facts hw k fun j hj=>h j (by omega)
  obtain ⟨f1,f2⟩:=h k (by omega)
  have hsl:seg (f k) 0 l = f k:=by rw [← f1]; simp [seg]
  rw [mixN,hsl]
  refine ⟨by rw [addToL_len,h1],addToL_bytes h2,fun c hc=>?_⟩
  rw [List.getD_eq_getElem?_getD,addToL_get,List.getElem?_eq_getElem (by omega),Option.map_some,Option.getD_some,if_pos ⟨by omega,by omega⟩,Nat.sub_zero,toF_xorB,toF_mulF (bytesL_get hw _) (bytesL_get f2 _),fsum,← h3 c hc,List.getD_eq_getElem?_getD (l:=mixN f w l k),List.getElem?_eq_getElem (by omega),Option.getD_some]
theorem mix_eq {f g:Nat→List Int} {w v:List Int} {l k:Nat} (hw:bytesL w) (hv:bytesL v) (hf:∀ j,j < k→(f j).length = l∧bytesL (f j)) (hg:∀ j,j < k→(g j).length = l∧bytesL (g j))
  (h:∀ c,c < l→fsum (fun m=>fmul (toF (w.getD m 0)) (toF ((f m).getD c 0))) k = fsum (fun m=>fmul (toF (v.getD m 0)) (toF ((g m).getD c 0))) k):mixN f w l k = mixN g v l k:=by
 obtain ⟨a1,a2,a3⟩:=mixN_facts hw k hf
 obtain ⟨b1,b2,b3⟩:=mixN_facts hv k hg
 refine list_ext_getD (by omega) fun c hc=>toF_inj (bytesL_get a2 c) (bytesL_get b2 c) ?_
 rw [a3 c (by omega),b3 c (by omega),h c (by omega)]
theorem wgt_at {rs:List Int} {x:Int} {j:Nat} (hj:j < rs.length):toF ((wgtL rs x).getD j 0) = lagF rs.length (fun m=>toF (rs.getD m 0)) (toF x) j:=by
 unfold wgtL
 rw [List.getD_eq_getElem?_getD,List.getElem?_map,List.getElem?_range hj,Option.map_some,Option.getD_some,toF_ofF]
theorem wgt_byte {xs:List Int} {x:Int}:bytesL (wgtL xs x):=fun y hy=>by
 obtain ⟨m,_,rfl⟩:=List.mem_map.1 hy
 exact ofF_isB
variable {k total:Nat} {rs:List Int}
theorem chosen_xs (hc:chooseOk k total rs) {j:Nat} (hj:j < k):toF (rs.getD j 0) = xsF (rs.getD j 0).toNat:=by
 have h1:=hc.1
 have h2:=hc.2.2 (rs.getD j 0) (getD_mem (by omega))
 unfold xsF
 rw [Int.toNat_of_nonneg h2.1]
theorem chosen_dist (hc:chooseOk k total rs) (ht:total ≤ 255):distinct k fun m=>toF (rs.getD m 0):=fun i j hi hj he=>by
 refine chosen_distinct hc ht i j hi hj ?_
 simp only [chosen_xs hc hi,chosen_xs hc hj] at he
 exact he
theorem poly_thru {xs v:Nat→F} (h1:1 ≤ k) (hd:distinct k xs):∃ y:Nat→F,(∀ i,i < k→pval k y (xs i) = v i)∧∀ x,pval k y x = fsum (fun j=>fmul (lagF k xs x j) (v j)) k:=by
 obtain ⟨y,_,hy,_⟩:=newton_at (ys:=v) hd (k - 1) (by omega)
 rw [show k - 1 + 1 = k by omega] at hy
 refine ⟨y,fun i hi=>hy i (by omega),fun x=>?_⟩
 rw [lagrange hd]
 exact fsum_congr fun j hj=>by rw [hy j (by omega)]
theorem inv_apply (hc:chooseOk k total rs) (h1:1 ≤ k) (hk:k ≤ total) (ht:total ≤ 255) (v:Nat→F) {i:Nat} (hi:i < k) :
    fsum (fun j=>fmul (matL k (invL total k rs) i j) (v j)) k = fsum (fun j=>fmul (lagF k (fun m=>toF (rs.getD m 0)) (xsF i) j) (v j)) k:=by
  obtain ⟨y,hy,hL⟩:=poly_thru (v:=v) h1 (chosen_dist hc ht)
  obtain ⟨g1,g2,_,g4⟩:=gen_facts h1 hk ht
  have hlen:=sel_len' hc g1
  have hr:=rows_gen hc h1 hk ht
  obtain ⟨t2,he⟩:=inv_ech hlen (sel_bytes g2)
  rw [hr] at he
  obtain ⟨m1,_⟩:=inv_mul he
  have hS:∀ j,j < k→∀ m,m < k→matL k (selL (genL k total) k rs) j m = lagF k xsF (toF (rs.getD j 0)) m:=fun j hj m hm=>by
    have hrj:=hc.2.2 (rs.getD j 0) (getD_mem (by rw [hc.1]; exact hj))
    unfold matL
    rw [sel_get g1 hc.2.2 (by rw [hc.1]; exact hj) hm,chosen_xs hc hj,← g4 (rs.getD j 0).toNat m (by omega) hm]
    rfl
  have hx:distinct k xsF:=xs_distinct (by omega)
  rw [← hL]
  calc fsum (fun j=>fmul (matL k (invL total k rs) i j) (v j)) k
      = fsum (fun j=>fsum (fun m=>fmul (fmul (matL k (invL total k rs) i j) (matL k (selL (genL k total) k rs) j m)) (pval k y (xsF m))) k) k:=by
        refine fsum_congr fun j hj=>?_
        rw [← hy j hj,lagrange hx (x:=toF (rs.getD j 0)),← fsum_mul]
        exact fsum_congr fun m hm=>by rw [hS j hj m hm,fmul_assoc]
    _ = fsum (fun m=>fmul (del m i) (pval k y (xsF m))) k:=by
        rw [fsum_swap]
        refine fsum_congr fun m hm=>?_
        rw [fsum_mul',del_symm]
        congr 1
        exact m1 i m hi hm
    _ = pval k y (xsF i):=fsum_del (f:=fun m=>pval k y (xsF m)) hi
theorem seg_row {m:List Int} {i j:Nat} (hj:j < k):toF ((seg m (i * k) k).getD j 0) = matL k m i j:=by
 unfold matL seg
 rw [List.getD_eq_getElem?_getD,List.getElem?_take,if_pos hj,List.getElem?_drop,List.getD_eq_getElem?_getD]
theorem inv_bytes (hc:chooseOk k total rs) (h1:1 ≤ k) (hk:k ≤ total) (ht:total ≤ 255):(invL total k rs).length = k * k∧bytesL (invL total k rs):=by
 obtain ⟨g1,g2,_,_⟩:=gen_facts h1 hk ht
 obtain ⟨t2,_⟩:=inv_ech (sel_len' hc g1) (sel_bytes g2)
 exact ⟨t2.lb,t2.bb⟩
theorem seg_byte {l:List Int} {o n:Nat} (h:bytesL l):bytesL (seg l o n):=fun x hx=>h x (List.mem_of_mem_drop (List.mem_of_mem_take hx))
theorem col_val (hc:chooseOk k total rs) (h1:1 ≤ k) (hk:k ≤ total) (ht:total ≤ 255) {f:Nat→List Int} {l i:Nat} (hf:∀ j,j < k→(f j).length = l∧bytesL (f j)) (hi:i < k) :
  mixN f (seg (invL total k rs) (i * k) k) l k = mixN f (wgtL rs (i:Int)) l k:=by
 refine mix_eq (seg_byte (inv_bytes hc h1 hk ht).2) wgt_byte hf hf fun c hcl=>?_
 rw [fsum_congr fun m hm=>by rw [seg_row hm],inv_apply hc h1 hk ht _ hi]
 exact fsum_congr fun m hm=>by rw [wgt_at (by rw [hc.1]; exact hm),hc.1]; rfl
theorem comb_val (hc:chooseOk k total rs) (h1:1 ≤ k) (hk:k ≤ total) (ht:total ≤ 255) {f:Nat→List Int} {l r:Nat} (hf:∀ j,j < k→(f j).length = l∧bytesL (f j)) (hr:r < total) {g:Nat→List Int} (hg:∀ i,i < k→g i = mixN f (wgtL rs (i:Int)) l k) :
  mixN g (seg (genL k total) (r * k) k) l k = mixN f (wgtL rs (r:Int)) l k:=by
 obtain ⟨g1,g2,_,g4⟩:=gen_facts h1 hk ht
 have hgf:∀ i,i < k→(g i).length = l∧bytesL (g i):=fun i hi=>by
  obtain ⟨a,b,_⟩:=mixN_facts (wgt_byte (xs:=rs) (x:=(i:Int))) k hf
  rw [hg i hi]; exact ⟨a,b⟩
 refine mix_eq (seg_byte g2) wgt_byte hgf hf fun c hcl=>?_
 obtain ⟨y,hy,hL⟩:=poly_thru (v:=fun j=>toF ((f j).getD c 0)) h1 (chosen_dist hc ht)
 have hx:distinct k xsF:=xs_distinct (by omega)
 have hv:∀ x:Int,fsum (fun m=>fmul (toF ((wgtL rs x).getD m 0)) (toF ((f m).getD c 0))) k = pval k y (toF x):=fun x=>by
  rw [hL]
  exact fsum_congr fun m hm=>by rw [wgt_at (by rw [hc.1]; exact hm),hc.1]
 rw [hv,show toF ((r:Nat):Int) = xsF r from rfl,lagrange hx]
 refine fsum_congr fun m hm=>?_
 rw [seg_row hm,g4 r m hr hm,hg m hm,(mixN_facts wgt_byte k hf).2.2 c hcl,hv]
 rfl
end Go.Proofs

set_option linter.unusedSimpArgs false
set_option linter.unusedVariables false
namespace Go.Proofs
open Go Go.Eng
set_option maxRecDepth 100000
theorem idx_snoc {D:Rows'} {m:Nat}:idxL D (m + 1) = idxL D m ++ [pcI D m]:=by
 unfold idxL
 rw [List.range_succ,List.map_append]; rfl
theorem bI_snoc {d:Rows'} {k:IntKind} {x:Int}:bI (d ++ [[.int k x]]) = bI d ++ [x]:=by simp [bI,rowI,vInt]
theorem wrapB_in {x:Int} (h0:0 ≤ x) (h1:x < 256):IntKind.u8.wrap x = x:=by
 simp [IntKind.wrap,IntKind.bits,IntKind.signed]; omega
theorem idx_dist {D:Rows'} {m:Nat} (h:∀ j,j < m→0 ≤ pcI D j∧pcI D j < 256) (hn:(idxL D m).Nodup):distL (idxL D m):=by
 unfold distL
 rw [idx_len]
 intro i j hi hj he
 simp only at he
 rw [idx_get hi,idx_get hj] at he
 have he':pcI D i = pcI D j:=toF_inj (h i hi) (h j hj) he
 have h1:(idxL D m)[i]'(by rw [idx_len]; exact hi) = (idxL D m)[j]'(by rw [idx_len]; exact hj):=by simp [idxL,he']
 exact (List.getElem_inj (h₀:=by rw [idx_len]; exact hi) (h₁:=by rw [idx_len]; exact hj) hn).1 h1
set_option maxHeartbeats 1000000 in
theorem value94_ok:value94C.ok Tryz.prog:=value94_of (by simp [wgt78_ok,mix77R_ok]) fun ρ hg hp=>by
 obtain ⟨k1,k2,kn,ncap,n2,hpc,hI,hnd,l9,hL,hx⟩:=hp
 simp (config:={ maxSteps:=4000000 }) [o_value94,value94C,value94I,wgt78C,mix77R,mix77Of]
 refine ⟨⟨by omega,(fun r hr=>by cases hr),rfl⟩,fun n _ d _ i _ i0 i1 hn hB hd=>⟨fun hi=>?_,fun hi=>?_⟩⟩
 ·obtain ⟨hl,hIi,_⟩:=pc_atN hpc i0 hi
  have hb:=hI i.i.toNat (by omega)
  rw [hIi,wrapB_in hb.1 hb.2,add64 (by omega) (by omega),show (i.i + 1).toNat = i.i.toNat + 1 by omega]
  have hdl:d.d.length = i.i.toNat:=by rw [← bI_len,hd,idx_len]
  refine ⟨i0,by omega,hl,hn,by omega,⟨by omega,by omega,hn,fun row hrow=>?_,by rw [bI_snoc,hd,idx_snoc]⟩,by omega⟩
  rcases List.mem_append.1 hrow with h | h
  ·exact hB row h
  ·rw [List.mem_singleton.1 h]
   simp only [rowI,List.getElem?_cons_zero,Option.getD_some,vInt]
   exact hb
 ·have hik:i.i = (ρ 0).i:=by omega
  rw [hik] at hd
  have hdl:d.d.length = (ρ 0).i.toNat:=by rw [← bI_len,hd,idx_len]
  obtain ⟨hl0,_,e,hre,heB,_,heL⟩:=pc_atN hpc (j:=0) (by omega) (by omega)
  have hel:e.length = pcN (ρ 7).h (ρ 4).d 0:=heL.symm
  have hdist:distL (bI d.d):=by rw [hd]; exact idx_dist hI hnd
  have hwl:∀ (cw:U) (wd:U),bI wd.d = wgtL (bI d.d) (ρ 6).i→wd.d.length = (ρ 0).i.toNat∧allB wd.d:=fun cw wd hw=>by
   refine ⟨by rw [← bI_len,hw,wgtL_len,bI_len,hdl],allB_of (by rw [hw]; exact wgt_byte)⟩
  have hside:0 ≤ n.i∧n.i ≤ 256∧n.i = (d.d.length:Int)∧allB d.d∧byteP (ρ 6).i∧distL (bI d.d):=⟨by omega,by omega,hn,hB,hx,hdist⟩
  have hmix:∀ (cw wd:U),bI wd.d = wgtL (bI d.d) (ρ 6).i→0 ≤ (ρ 0).i∧(ρ 0).i ≤ 255∧(e.length:Int) ≤ 9000∧n.i = (ρ 0).i∧n.i ≤ (wd.d.length:Int)∧allB wd.d∧pcOk (ρ 7).h (ρ 4).d (ρ 0).i.toNat∧∀ j:Nat,(j:Int) < (ρ 0).i→e.length ≤ (pcD (ρ 7).h (ρ 4).d j).length:=fun cw wd hw=>by
   obtain ⟨h1,h2⟩:=hwl cw wd hw
   refine ⟨by omega,k2,by omega,by omega,by omega,h2,hpc,fun j hj=>?_⟩
   have:=hL j (by omega)
   unfold pcN at this hel
   omega
  have hfin:∀ (wd u:U),bI wd.d = wgtL (bI d.d) (ρ 6).i→u.d.length = e.length→allB u.d→bI u.d = mixN (pcD (ρ 7).h (ρ 4).d) (bI wd.d) e.length (ρ 0).i.toNat →
    (e.length:Int) = (u.d.length:Int)∧u.d.length = pcN (ρ 7).h (ρ 4).d 0∧allB u.d∧bI u.d = mixN (pcD (ρ 7).h (ρ 4).d) (wgtL (idxL (ρ 4).d (ρ 0).i.toNat) (ρ 6).i) (pcN (ρ 7).h (ρ 4).d 0) (ρ 0).i.toNat:=fun wd u hw hul huB hue=>by
   refine ⟨by omega,by omega,huB,?_⟩
   rw [hue,hw,hd,hel]
  refine ⟨by omega,by omega,by omega,by omega,by omega,by omega,⟨hside,fun cw _ wd _ _ hw=>⟨e,hre,hmix cw wd hw,fun u _ a b c=>hfin wd u hw a b c⟩⟩,e,hre,hside,fun cw _ wd _ _ hw=>⟨hmix cw wd hw,fun u _ a b c=>hfin wd u hw a b c⟩⟩
theorem col_at {h:Hp} {D:Rows'} {j:Int} (hb:rdB h (tvs D j.toNat)) (j0:0 ≤ j):∃ d,Rd h kB (cellV D j 0) d∧allB d∧colF h D j.toNat = bI d:=by
 rw [tvs_at j0] at hb
 obtain ⟨d,hr,hB,he⟩:=rdB_L hb
 exact ⟨d,hr,hB,by rw [colF,tvs_at j0,he]⟩
end Go.Proofs

set_option linter.unusedSimpArgs false
set_option linter.unusedVariables false
namespace Go.Proofs
open Go Go.Eng
set_option maxRecDepth 100000
theorem cellI_put {d:Rows'} {i j x:Int} {k:IntKind} (i0:0 ≤ i) (i1:i < d.length) (j0:0 ≤ j):cellI (putD d i 0 [.int k x]) j 0 = if j = i then x else cellI d j 0:=by
 unfold cellI cellV putD
 rw [List.getElem?_set]
 by_cases h:j = i
 ·subst h
  rw [if_pos rfl,if_pos (by omega),if_pos rfl]
  simp [splice,vInt]
 ·rw [if_neg (by omega),if_neg h]
set_option maxHeartbeats 4000000 in
theorem solve89_ok:solve89C.ok Tryz.prog:=solve89_of (by simp [genK_ok,selG_ok,invG_ok,row75_ok,addToT_ok]) fun ρ hg hp=>by
 obtain ⟨hf,hsz,hkn,hn2,hpc,hch,h8,hLeq⟩:=hp
 obtain ⟨k1,k2,k3⟩:=sizesB_iff.1 hsz
 have s1:∀ {x:Int},-1 ≤ x→x ≤ 1000→arithOf .add .i64 x 1 = x + 1:=fun h1 h2=>add64 (by omega) (by omega)
 simp (config:={ maxSteps:=4000000 }) [o_solve89,solve89C,solve89A,solve89B,solve89D,solW,solR,genW,genKC,gen35C,selGC,sel62C,invGC,inverse55C,row75C,addToT]
 intro n10 _
 refine ⟨⟨hf,hsz⟩,fun g _ lg _ cg _ f1 _ dg _ ab _ hf1 _ hMg _ hGg u7 _=>⟨by omega,by omega,fun u8 _=>⟨⟨hf1,⟨hMg,hGg⟩,by omega,fun j h1 h2=>by omega⟩,?_⟩⟩⟩
 clear hMg hGg hf1
 intro _ _ R _ i _ f _ _ _ _ _ lg _ cg _ dg _ _ _ _ _ hf1 hMg hGg i0 i1 hRl hR
 refine ⟨fun hi=>?_,fun hi=>?_⟩
 ·obtain ⟨hl,_⟩:=pc_atN hpc i0 (by omega)
  rw [s1 (by omega) (by omega)]
  refine ⟨i0,by omega,hl,by omega,⟨hf1,⟨hMg,hGg⟩,by omega,by omega,by rw [putD_len]; exact hRl,fun j j0 j1=>?_⟩,by omega⟩
  rw [cellI_put i0 (by omega) j0]
  by_cases hji:j = i.i
  ·rw [if_pos hji,hji]
  ·rw [if_neg hji]; exact hR j j0 (by omega)
 have hidx:iI R.d = idxL (ρ 7).d (ρ 2).i.toNat:=by
  refine list_ext_getD (by rw [iI_len,idx_len]; exact hRl) fun j hj=>?_
  rw [iI_len] at hj
  rw [idx_get (by omega)]
  have h1:=iI_get (d:=R.d) (i:=(j:Int)) (by omega) (by omega)
  rw [Int.toNat_natCast] at h1
  rw [h1,hR _ (by omega) (by omega)]
  rfl
 have hMg':=hMg
 obtain ⟨⟨g1,g2,g3,g4,g5,g6,g7,g8⟩,g9⟩:=hMg'
 have hb:=mul_bound (x:=(ρ 2).i) (y:=(ρ 2).i) (by omega) (show (ρ 2).i ≤ 255 by omega) (by omega) (show (ρ 2).i ≤ 255 by omega)
 have hrk:=rows_gen hch (by omega) (by omega) (by omega)
 refine ⟨⟨⟨by omega,g6,g7,g8,by omega,by omega⟩,selBad_not ⟨⟨by omega,g2,k1,by omega,g5⟩,k1,by omega⟩ fun x hx=>by
  rw [hidx] at hx
  have:=hch.2.2 x hx
  omega⟩,fun sr _ ls _ cs _ ds _ _ hMs hLs hSs u24 _=>?_⟩
 obtain ⟨s2,s3,s4,s5,s6,s7,s8,s9⟩:=hMs
 have hte:(bI ds.d).take ls.i.toNat = bI ds.d:=List.take_of_length_le (by rw [bI_len]; omega)
 have hS:bI ds.d = selL (genL (ρ 2).i.toNat (ρ 3).i.toNat) (ρ 2).i.toNat (idxL (ρ 7).d (ρ 2).i.toNat):=by rw [hSs,hGg,hidx]
 rw [hte,hS]
 refine ⟨⟨⟨hf1,by omega,s7,s8,s9⟩,⟨k1,by omega,k1,by omega,s6⟩,hrk⟩,fun iv _ li _ ci _ f2 _ di _ hf2 _ hMi _ hIi u30 _=>⟨by omega,fun u31 _ H _ _=>⟨⟨⟨hf2,⟨hMg,hGg⟩,hMi,hIi,by omega⟩,⟨fun j hj=>by omega,fun i j hi=>by omega⟩⟩,?_⟩⟩⟩
 clear hMg hGg hf1 hf2 hMi hIi hSs hS hte hLs s2 s3 s4 s5 s6 s7 s8 s9 g1 g2 g3 g4 g5 g6 g7 g8 g9 hidx hR hRl hi i0 i1
 have hINV:=inv_bytes hch (by omega:1 ≤ (ρ 2).i.toNat) (by omega) (by omega)
 intro _ _ _ _ i _ f _ _ _ _ _ lg _ cg _ dg _ _ _ _ _ _ _ _ _ li _ ci _ di _ _ _ C _ H _ hf1 hMg hGg hMi hIi hCl hCr i0 i1 ht
 refine ⟨fun hi=>?_,fun hi u52 _ hst=>?_⟩
 ·obtain ⟨hl0,_,d0,hrd0,_,_,hN0⟩:=pc_atN hpc (j:=0) (by omega) (by omega)
  have hN0:pcN (ρ 9).h (ρ 7).d 0 = d0.length:=hN0
  refine ⟨by omega,by omega,d0,.inr hrd0,fun u0 _ u1 _=>⟨by omega,fun nr _=>⟨i0,by omega,⟨i0,hi,hMi.1⟩,fun o _ n _ c _ ho hn hc=>⟨by omega,fun H' _ hst=>⟨⟨⟨hf1,⟨hMg,hGg⟩,hMi,hIi,by rw [putD_len]; exact hCl,rows_put hCr i0 (by omega),i0,i1⟩,hi,ho,hn,by omega,?_⟩,?_⟩⟩⟩⟩⟩
  ·obtain ⟨hx,hy,hdis,lx,ly,dx,dy⟩:=star_two (l1:=[]) hst (y:=SH.abs 61 2) (by simp)
   have hrd:=arr_Rd (n:=d0.length) (k:=d0.length) dx (Hp.le_refl _) (by simp) (by simp)
   have hrd:Rd hx kB (.slice (addrOf nr.r 0) d0.length d0.length) (List.replicate d0.length [.int .u8 0]):=by simpa [kB] using hrd
   have hab:Hp.le H.h hy∧Hp.free H.h:=by simpa [SH.den] using dy
   refine tab_new ht (Hp.le_trans hab.1 ly) hrd lx (disj_le hdis hab.1) allB_rep (fun j hj=>by rw [tvs_put hCr i0 (by omega),if_neg (by omega)]) (by rw [tvs_put hCr i0 (by omega),if_pos rfl]) (fun j hj=>if_neg (by omega)) ?_
   rw [if_pos rfl,bI_rep,hN0]; rfl
  clear hMg hGg hf1 hMi hIi hCl hCr ht
  intro i' _ f _ lg _ cg _ dg _ li _ ci _ di _ C _ H _ j _ o _ n _ hf1 hMg hGg hMi hIi hCl hCr i0' i1' hi' hii ho hn j0 j1 ht
  have hbo:=mul_bound (x:=i'.i) (y:=(ρ 2).i) i0' (by omega) (by omega) (show (ρ 2).i ≤ 255 by omega)
  have hMi':=hMi
  obtain ⟨⟨m1,m2,m3,m4,m5,m6,m7,m8⟩,m9⟩:=hMi'
  refine ⟨fun hj=>?_,fun hj=>?_⟩
  ·obtain ⟨hlj,_,d,hrd,hdB,hdD,hdN⟩:=pc_atN hpc j0 (show j.i < (ρ 5).i by omega)
   have hlen:d.length = pcN (ρ 9).h (ρ 7).d 0:=by rw [← hdN]; exact hLeq _ (by omega)
   have hrl:rdL (ρ 9).h (cellV (ρ 7).d j.i 1) = bI d:=rdL_eq hrd
   have hltG:i'.i * (ρ 2).i + j.i < (ρ 2).i * (ρ 2).i:=by
    have:=Int.mul_le_mul_of_nonneg_right (show i'.i + 1 ≤ (ρ 2).i by omega) (show 0 ≤ (ρ 2).i by omega)
    rw [Int.add_mul,Int.one_mul] at this; omega
   have hcb:=allB_get m8 (i:=o.i + j.i) (by omega) (by omega)
   rw [s1 (by omega) (by omega),hrl]
   refine ⟨j0,by omega,by omega,by omega,i0',hi',by omega,by omega,hlj,⟨hf1,⟨d,hrd,hdB⟩,by rw [bI_len]; omega,⟨tvs C.d,_,_,i'.i.toNat,ht,by omega,tvs_at i0',?_⟩,hcb⟩,fun f' _ H' _ hf' hT=>⟨⟨⟨hf',⟨hMg,hGg⟩,hMi,hIi,hCl,hCr,i0',i1'⟩,hi',hii,ho,hn,by omega,by omega,?_⟩,by omega⟩⟩
   ·simp only [if_pos]
    rw [bI_len,mixN_len]; omega
   ·refine tab_congr (hT (tvs C.d) _ _ i'.i.toNat ht (by omega) (tvs_at i0')) (fun _ _=>rfl) fun r hr=>?_
    by_cases hri:r = i'.i.toNat
    ·subst hri
     rw [if_pos rfl,if_pos rfl]
     show _ = addToL _ 0 _ _
     rw [if_pos rfl,show (j.i + 1).toNat = j.i.toNat + 1 by omega,mixN]
     have e1:seg (pcD (ρ 9).h (ρ 7).d j.i.toNat) 0 (pcN (ρ 9).h (ρ 7).d 0) = bI d:=by
      rw [hdD,← hlen,← bI_len (d:=d)]; simp [seg]
     have e2:(seg (invL (ρ 3).i.toNat (ρ 2).i.toNat (idxL (ρ 7).d (ρ 2).i.toNat)) (i'.i.toNat * (ρ 2).i.toNat) (ρ 2).i.toNat).getD j.i.toNat 0 = cellI di.d (o.i + j.i) 0:=by
      rw [seg_getD (by omega),← hIi,← cell_getD (by omega) (by omega),ho,Int.toNat_add hbo.1 j0,Int.toNat_mul i0' (by omega)]
     rw [e1,e2]
    ·rw [if_neg hri,if_neg hri,if_neg hri]
  ·rw [s1 (by omega) (by omega),show (i'.i + 1).toNat = i'.i.toNat + 1 by omega]
   refine ⟨⟨⟨hf1,⟨hMg,hGg⟩,hMi,hIi,hCl,hCr,by omega,by omega⟩,tab_congr ht (fun _ _=>rfl) fun r hr=>?_⟩,by omega⟩
   by_cases hri:r = i'.i.toNat
   ·subst hri
    rw [if_pos rfl,show j.i.toNat = (ρ 2).i.toNat by omega]; rfl
   ·rw [if_neg hri]
 ·obtain ⟨hb2,lb2,db2⟩:=star_mem_abs hst (n:=61) (t:=2) (by simp)
  rw [show i.i.toNat = (ρ 2).i.toNat by omega] at ht
  exact ⟨hf1,hCl,hCr,tab_mono ht (Hp.le_trans (by simpa using db2) lb2),hMg,hGg⟩
end Go.Proofs

set_option linter.unusedSimpArgs false
set_option linter.unusedVariables false
set_option maxRecDepth 100000
namespace Go.Proofs
open Go Go.Eng

end Go.Proofs

set_option linter.unusedSimpArgs false
set_option linter.unusedVariables false
namespace Go.Proofs
open Go Go.Eng
set_option maxRecDepth 100000
theorem field_some {d:Rows'} (h:fieldD d):d ≠ []:=(fieldD_ne h).1
structure PcIn (h:Hp) (D:Rows') (k total n:Int):Prop where
 k1:1 ≤ k
 k2:k ≤ total
 k3:total ≤ 255
 kn:k ≤ n
 sol:solPre h D k total n
 idx:∀ j,j < n.toNat→0 ≤ pcI D j∧pcI D j < total
 len:∀ j,j < n.toNat→pcN h D j = pcN h D 0
 fs:∀ j,j < n.toNat→(pcD h D j).length = pcN h D 0∧bytesL (pcD h D j)
variable {h:Hp} {D:Rows'} {k total n:Int}
theorem PcIn.f (p:PcIn h D k total n):∀ j,j < k.toNat→(pcD h D j).length = pcN h D 0∧bytesL (pcD h D j):=fun j hj=>p.fs j (by have:=p.kn; omega)
theorem PcIn.cols (p:PcIn h D k total n) {hc:Hp} {C:Rows'} (ht:tabV hc (tvs C) k.toNat (solM h D total.toNat k.toNat)) :
  (∀ j,j < k.toNat→rdB hc (tvs C j)∧(colF hc C j).length = (colF hc C 0).length)∧(colF hc C 0).length = pcN h D 0∧∀ r:Int,0 ≤ r→r < total→mixN (colF hc C) (seg (genL k.toNat total.toNat) (r.toNat * k.toNat) k.toNat) (colF hc C 0).length k.toNat = valLr h D k.toNat r:=by
 have h1:=p.k1
 have h2:=p.k2
 have h3:=p.k3
 have hch:=p.sol.2.2.2.2.1
 have hcol:∀ j,j < k.toNat→rdB hc (tvs C j)∧colF hc C j = solM h D total.toNat k.toNat j:=fun j hj=>by
  obtain ⟨d,hr,hd,hB⟩:=tab_at ht hj
  exact ⟨⟨d,hr,hB⟩,by rw [colF,rdL_eq hr,hd]⟩
 have hl:∀ j,j < k.toNat→(colF hc C j).length = pcN h D 0:=fun j hj=>by
  rw [(hcol j hj).2,solM,mixN_len]
 refine ⟨fun j hj=>⟨(hcol j hj).1,by rw [hl j hj,hl 0 (by omega)]⟩,hl 0 (by omega),fun r r0 r1=>?_⟩
 rw [hl 0 (by omega),comb_val hch (by omega) (by omega) (by omega) (f:=pcD h D) p.f (by omega) (r:=r.toNat) (fun i hi=>by
  rw [(hcol i hi).2,solM,col_val hch (by omega) (by omega) (by omega) p.f hi]),Int.toNat_of_nonneg r0]
 rfl
theorem PcIn.value (p:PcIn h D k total n):(∀ j:Nat,(j:Int) < k→0 ≤ pcI D j∧pcI D j < 256)∧(idxL D k.toNat).Nodup∧pcN h D 0 ≤ 9000∧(∀ j:Nat,(j:Int) < k→pcN h D j = pcN h D 0)∧pcOk h D k.toNat:=by
 have h1:=p.k1
 have h2:=p.k2
 have h3:=p.k3
 have h4:=p.kn
 have h5:=p.sol.2.2.2.2.2.1
 refine ⟨fun j hj=>?_,p.sol.2.2.2.2.1.2.1,by omega,fun j hj=>p.len j (by omega),fun j hj=>p.sol.2.2.2.1 j (by omega)⟩
 have:=p.idx j (by omega)
 omega
end Go.Proofs

set_option linter.unusedSimpArgs false
set_option linter.unusedVariables false
namespace Go.Proofs
open Go Go.Eng
set_option maxRecDepth 100000
variable {h h':Hp} {D D':Rows'} {k total n index len e e':Int} {b b':Bool}
end Go.Proofs

set_option linter.unusedSimpArgs false
set_option linter.unusedVariables false
namespace Go.Proofs
open Go Go.Eng
theorem catN_len {f:Nat→List Int} {l:Nat}:∀ {n:Nat},(∀ j,j < n→(f j).length = l)→(catN f n).length = n * l
 | 0,_=>by simp [catN]
 | n + 1,h=>by
  rw [catN,List.length_append,catN_len fun j hj=>h j (by omega),h n (by omega),Nat.add_mul,Nat.one_mul]
theorem catN_le {f:Nat→List Int} {l:Nat}:∀ {n:Nat},(∀ j,j < n→(f j).length ≤ l)→(catN f n).length ≤ n * l
 | 0,_=>by simp [catN]
 | n + 1,h=>by
  have h1:=catN_le (n:=n) fun j hj=>h j (by omega)
  have h2:=h n (by omega)
  rw [catN,List.length_append,Nat.add_mul,Nat.one_mul]; omega
theorem catN_congr {f g:Nat→List Int}:∀ {n:Nat},(∀ j,j < n→f j = g j)→catN f n = catN g n
 | 0,_=>rfl
 | n + 1,h=>by rw [catN,catN,catN_congr fun j hj=>h j (by omega),h n (by omega)]
theorem pcInD {h:Hp} {D:Rows'} {k total n size:Int} (hp:pcPre h D n) (hd:decK h D k total size n):PcIn h D k total n∧pcN h D 0 = pieceLen k.toNat size.toNat:=by
 obtain ⟨hs,s0,s1,hc⟩:=hd
 obtain ⟨k1,k2,k3⟩:=sizesB_iff.1 hs
 obtain ⟨n0,n1,hpc⟩:=hp
 obtain ⟨ho,hk⟩:=chk_ok hc
 have hw:wantL (plI k size) (pcN h D) = plI k size:=if_neg (by unfold plI; omega)
 have hL:∀ j,j < n.toNat→pcN h D j = pieceLen k.toNat size.toNat:=fun j hj=>by
  have:=(ho j hj).2.2.2
  rw [hw] at this; unfold plI at this; omega
 have hpl:=pieceLen_le (k:=k.toNat) (n:=size.toNat) (by omega)
 have h0:=hL 0 (by omega)
 refine ⟨⟨k1,k2,k3,by omega,⟨hs,by omega,n1,hpc,choose_of_ok ho (by omega),by omega,fun j hj=>by rw [hL j (by omega),h0]⟩,fun j hj=>(ho j hj).1,fun j hj=>by rw [hL j hj,h0],fun j hj=>?_⟩,h0⟩
 obtain ⟨v,d,_,_,_,hB,hd⟩:=pc_at hpc hj
 exact ⟨by rw [h0,← hL j hj]; rfl,by rw [hd]; exact allB_list hB⟩
theorem val_len {h:Hp} {D:Rows'} {k:Nat} {x:Int}:(valLr h D k x).length = pcN h D 0:=mixN_len _
theorem PcIn.cat {h:Hp} {D:Rows'} {k total n:Int} (p:PcIn h D k total n) {hc:Hp} {C:Rows'} (ht:tabV hc (tvs C) k.toNat (solM h D total.toNat k.toNat)) :
  (∀ j,j < k.toNat→rdB hc (tvs C j)∧(colF hc C j).length = pcN h D 0)∧catN (colF hc C) k.toNat = decL h D k.toNat∧(decL h D k.toNat).length = k.toNat * pcN h D 0:=by
 have h1:=p.k1
 have h2:=p.k2
 have h3:=p.k3
 have hch:=p.sol.2.2.2.2.1
 have hcol:∀ j,j < k.toNat→rdB hc (tvs C j)∧colF hc C j = valLr h D k.toNat (j:Int):=fun j hj=>by
  obtain ⟨d,hr,hd,hB⟩:=tab_at ht hj
  refine ⟨⟨d,hr,hB⟩,?_⟩
  rw [colF,rdL_eq hr,hd,solM,col_val hch (by omega) (by omega) (by omega) p.f hj]
  rfl
 refine ⟨fun j hj=>⟨(hcol j hj).1,by rw [(hcol j hj).2,val_len]⟩,catN_congr fun j hj=>(hcol j hj).2,catN_len fun j hj=>val_len⟩
end Go.Proofs

set_option linter.unusedSimpArgs false
set_option linter.unusedVariables false
namespace Go.Proofs
open Go Go.Eng
theorem chkE_zero {k n t s l i:Int} {D:List (List Int)} {m:List Int} (h:chkE k n t s l D i m = 0):manOk k n t s l = true∧0 ≤ i∧i < t∧(m.length:Int) = plenI k s∧sha (pieceIn i ++ m) = D.getD i.toNat []:=by
 unfold chkE at h
 by_cases h1:manOk k n t s l = false
 ·rw [if_pos h1] at h; omega
 rw [if_neg h1] at h
 by_cases h2:i < 0∨t ≤ i
 ·rw [if_pos h2] at h; omega
 rw [if_neg h2] at h
 by_cases h3:(m.length:Int) ≠ plenI k s
 ·rw [if_pos h3] at h; omega
 rw [if_neg h3] at h
 by_cases h4:sha (pieceIn i ++ m) ≠ D.getD i.toNat []
 ·rw [if_pos h4] at h; omega
 exact ⟨by simpa using h1,by omega,by omega,by omega,by simpa using h4⟩
theorem manOk_iff {k n t s l:Int}:manOk k n t s l = true↔1 ≤ k∧k ≤ n∧n ≤ t∧t ≤ 255∧0 ≤ s∧s ≤ 8192∧l = t:=by
 simp [manOk,sizes3,and_assoc]
theorem plenI_eq {k s:Int} (hk:1 ≤ k) (hs:0 ≤ s):plenI k s = plI k s:=by
 obtain ⟨k,rfl⟩:=Int.eq_ofNat_of_zero_le (show 0 ≤ k by omega)
 obtain ⟨s,rfl⟩:=Int.eq_ofNat_of_zero_le hs
 have e:((s:Int) + (k:Int) - 1) = ((s + k - 1:Nat):Int):=by omega
 unfold plenI plI pieceLen
 rw [e,Int.ofNat_tdiv]
 simp
theorem chks_order {k n t s l:Int} {D:List (List Int)} {h:Hp} {P:Rows'} (hc:chksP (chkF k n t s l D h P) (pcI P) P.length k 0) (hm:manOk k n t s l = true) (len:Int) (hl:len = -1∨len = plI k s) :
  okTo t len (pcI P) (pcN h P) P.length∧k ≤ (P.length:Int)∧∀ j,j < P.length→(pcN h P j:Int) = plI k s:=by
 obtain ⟨k1,k2,k3,k4,s0,s1,_⟩:=manOk_iff.1 hm
 obtain ⟨h1,h2⟩:=chks_zero hc
 have hp:plenI k s = plI k s:=plenI_eq (by omega) s0
 have hL:∀ j,j < P.length→(pcN h P j:Int) = plI k s:=fun j hj=>by
  rw [← hp]; exact (chkE_zero (h1 j hj).1).2.2.2.1
 have hs:plI k s ≤ 8192:=by
  have:=pieceLen_le (k:=k.toNat) (n:=s.toNat) (by omega)
  unfold plI; omega
 have hpos:0 ≤ plI k s:=by unfold plI; omega
 have h0:=hL 0 (by omega)
 have hw:wantL len (pcN h P) = plI k s:=by
  unfold wantL
  by_cases hn:len < 0
  ·rw [if_pos hn,h0]
  ·rw [if_neg hn]; omega
 refine ⟨fun j hj=>⟨⟨(chkE_zero (h1 j hj).1).2.1,(chkE_zero (h1 j hj).1).2.2.1⟩,(h1 j hj).2,fun _=>by have:=hL j hj; omega,by rw [hw,hL j hj]⟩,h2,hL⟩
theorem sizesB_of {k n t s l:Int} (hm:manOk k n t s l = true):sizesB k t = true:=by
 obtain ⟨k1,k2,k3,k4,s0,s1,_⟩:=manOk_iff.1 hm
 exact sizesB_iff.2 ⟨k1,by omega,k4⟩
theorem chks_dec {k n t s l m:Int} {D:List (List Int)} {h:Hp} {P:Rows'} (hc:chksP (chkF k n t s l D h P) (pcI P) P.length k 0) (hm:manOk k n t s l = true) (hn:m = P.length):decK h P k t s m:=by
 subst hn
 obtain ⟨a,b,_⟩:=chks_order hc hm (plI k s) (.inr rfl)
 obtain ⟨k1,k2,k3,k4,s0,s1,_⟩:=manOk_iff.1 hm
 exact ⟨sizesB_of hm,s0,s1,.inr ⟨a,.inr ⟨by simpa using b,rfl⟩⟩⟩
theorem dec_bad {h:Hp} {D:Rows'} {k t s n e:Int} (a:decK h D k t s n) (b:decEr h D k t s n e):False:=by
 obtain ⟨a1,a2,a3,a4⟩:=a
 rcases b with ⟨b1,_⟩ | ⟨_,_,_,b4,b5⟩
 ·rcases b1 with b1 | b1 | b1
  ·rw [a1] at b1; cases b1
  ·omega
  ·omega
 ·exact b5 (chk_eq b4 a4)
end Go.Proofs

set_option linter.unusedSimpArgs false
set_option linter.unusedVariables false
set_option maxRecDepth 100000
namespace Go.Proofs
open Go Go.Eng

@[simp] def o_chks_1:Sg:=sg 0 [bv 17 17,bv 15 27,bv 14 28,bv 9 9,bv 8 8,bv 13 27,bt 12 (.dlen (.var 28)),bg 11 26,bt 10 (.icell (.var 13) (.var 24) 0),bv 7 7,bv 6 6,bg 5 5,bv 3 3,bv 2 2,bv 1 1,bv 0 0,bt 4 (r8 4),bg 16 16]
def o_chks:Out:=(.fresh 18 (.mop .new 19 (.need (.cmp .leq (.lit 0) (.var 11)) (.inv 0 21 (sg 1000 [bg 1000 19,bt 1003 (.lit 0),bv 1001 20,bg 1002 18]) (.fresh 21 (.fresh 22 (.fresh 23 (.fresh 24 (.hyp 0 21 (.br (.cmp .lss (.var 24) (.var 11))
 (.need (.cmp .leq (.lit 0) (.var 24)) (.need (.cmp .lss (.var 24) (.dlen (.var 13))) (.fresh 25 (.viewL (.vcell (.var 13) (.var 24) 1) [CK.int .u8] [15] 26 (.pre 0 o_chks_1 (.both (.fresh 29 (.post 0 0 o_chks_1 29 (.br (.cmp .neq (.var 29) (.lit 0))
 (.ret 0 (sg 18 [bv 18 29]))
 (.mop (.get (.var 22) [(.icell (.var 13) (.var 24) 0)] ⟨false,[.i64],false,[CK.bool],[(.vbool (.bl false))]⟩ [21]) 30 (.br (.c2 (.xbool 0) (.var 30) (.lit 0))
 (.ret 0 (sg 18 [bt 18 (.lit 7)]))
 (.mop (.put 21 (.var 22) [(.icell (.var 13) (.var 24) 0)] [(.vbool (.bl true))] ⟨false,[.i64],false,[CK.bool],[(.vbool (.bl false))]⟩) 31 (.back 0 21 (sg 1000 [bg 1000 31,bt 1003 (.arith .add .i64 (.var 24) (.lit 1)),bv 1001 22,bg 1002 23])) .top)) .top)))) .top))))))
 (.br (.cmp .lss (.var 11) (.var 0))
 (.ret 0 (sg 18 [bt 18 (.lit 12)]))
 (.ret 0 (sg 18 [bt 18 (.lit 0)]))))))))))) .top))
theorem o_chks_eq:treeOf ⟨Tryz.prog,chksC,[checkPC],[chksI]⟩ 100000 Tryz.f75 = o_chks:=by kernel_rfl
theorem chks_of (hd:∀ c ∈ ([checkPC]:List Ctr),c.ok Tryz.prog) (h:∀ ρ:Env,ρ.good→(chksC).pre ρ→o_chks.den ⟨Tryz.prog,chksC,[checkPC],[chksI]⟩ ρ):(chksC).ok Tryz.prog :=
 ok_of_tree Tryz.func75 (fun a w=>Tryz.call75 a w) hd 100000 (fun ρ hg hp=>by rw [o_chks_eq]; exact h ρ hg hp)
@[simp] def o_chksR_1:Sg:=sg 0 [bv 17 17,bv 15 22,bv 14 23,bv 9 9,bv 8 8,bv 13 22,bt 12 (.dlen (.var 23)),bg 11 21,bt 10 (.icell (.var 13) (.var 20) 0),bv 7 7,bv 6 6,bg 5 5,bv 3 3,bv 2 2,bv 1 1,bv 0 0,bt 4 (r8 4),bg 16 16]
def o_chksR:Out:=(.fresh 18 (.inv 0 19 (sg 1000 [bt 1001 (.lit 0),bg 1000 18]) (.fresh 19 (.fresh 20 (.hyp 0 19 (.need (.cmp .leq (.lit 0) (.var 11)) (.br (.cmp .lss (.var 20) (.var 11))
 (.need (.cmp .leq (.lit 0) (.var 20)) (.need (.cmp .lss (.var 20) (.dlen (.var 13))) (.both (.viewL (.vcell (.var 13) (.var 20) 1) [CK.int .u8] [15] 21 (.pre 0 o_chksR_1 (.both (.fresh 24 (.post 0 0 o_chksR_1 24 (.br (.cmp .neq (.var 24) (.lit 0))
 (.ret 0 (sg 18 [bv 18 24]))
 (.inv 1 25 (sg 1000 [bt 1001 (.lit 0),bg 1000 19]) (.fresh 25 (.fresh 26 (.hyp 1 25 (.br (.cmp .lss (.var 26) (.var 20))
 (.need (.cmp .leq (.lit 0) (.var 26)) (.need (.cmp .lss (.var 26) (.var 11)) (.need (.cmp .lss (.var 26) (.dlen (.var 13))) (.br (.cmp .eql (.icell (.var 13) (.var 26) 0) (.icell (.var 13) (.var 20) 0))
 (.ret 0 (sg 18 [bt 18 (.lit 7)]))
 (.back 1 25 (sg 1000 [bt 1001 (.arith .add .i64 (.var 26) (.lit 1)),bg 1000 25]))))))
 (.back 0 19 (sg 1000 [bt 1001 (.arith .add .i64 (.var 20) (.lit 1)),bg 1000 25])))))))))) .top))) .top)))
 (.br (.cmp .lss (.var 11) (.var 0))
 (.ret 0 (sg 18 [bt 18 (.lit 12)]))
 (.ret 0 (sg 18 [bt 18 (.lit 0)]))))))))))
theorem o_chksR_eq:treeOf ⟨Tryz.prog,chksRC,[checkRC],[chksRI,chksRJ]⟩ 100000 Tryz.f77 = o_chksR:=by kernel_rfl
theorem chksR_of (hd:∀ c ∈ ([checkRC]:List Ctr),c.ok Tryz.prog) (h:∀ ρ:Env,ρ.good→(chksRC).pre ρ→o_chksR.den ⟨Tryz.prog,chksRC,[checkRC],[chksRI,chksRJ]⟩ ρ):(chksRC).ok Tryz.prog :=
 ok_of_tree Tryz.func77 (fun a w=>Tryz.call77 a w) hd 100000 (fun ρ hg hp=>by rw [o_chksR_eq]; exact h ρ hg hp)
@[simp] def o_asm_4:Sg:=sg 0 [bg 10 17,bv 9 16,bv 8 15,bv 1 1,bv 7 14,bv 6 13,bg 5 12,bv 4 5,bv 3 4,bv 2 2,bg 0 0]
@[simp] def o_asm_3:Sg:=sg 0 [bv 7 19,bt 5 (.lit 0),bt 4 .dnil,bt 3 (.lit 0),bt 2 (.lit 0),bt 1 (.lit 0),(0,.nil),bg 6 18]
@[simp] def o_asm_2:Out:=.ret 0 (sg 20 [bt 22 (.lit 0),bt 23 .dnil,bv 25 24,bt 24 (.lit 20),bt 26 (.lit 0),bt 21 (.lit 0),(20,.nil)])
@[simp] def o_asm_1:Sg:=sg 0 [bv 17 19,bg 15 17,bv 14 16,bv 13 15,bv 9 11,bv 8 10,bv 12 14,bv 11 13,bg 10 12,bv 7 9,bv 6 8,bg 5 7,bv 3 5,bv 2 4,bv 1 3,bv 0 2,bt 4 (r8 6),bg 16 18]
def o_asm:Out:=(.fresh 20 (.br (.and (.cmp .eql (.dlen (.var 1)) (.lit 0)) (.isnil 0))
 (.ret 0 (sg 20 [bt 22 (.lit 0),bt 23 .dnil,bv 25 1,bt 24 (.lit 1),bt 26 (.lit 0),bt 21 (.lit 0),(20,.nil)]))
 (.pre 0 (sg 0 [bv 9 11,bv 8 10,bv 7 9,bv 6 8,bg 5 7,bv 3 5,bv 2 4,bv 1 3,bv 0 2,bt 4 (r8 6)]) (.both (.fresh 21 (.post 0 0 (sg 0 [bv 9 11,bv 8 10,bv 7 9,bv 6 8,bg 5 7,bv 3 5,bv 2 4,bv 1 3,bv 0 2,bt 4 (r8 6)]) 21 (.br (.cmp .neq (.var 21) (.lit 0))
 (.ret 0 (sg 20 [bt 22 (.lit 0),bt 23 .dnil,bv 25 1,bv 24 21,bt 26 (.lit 0),bt 21 (.lit 0),(20,.nil)]))
 (.pre 1 o_asm_1 (.both (.fresh 22 (.post 1 0 o_asm_1 22 (.br (.cmp .neq (.var 22) (.lit 0))
 (.ret 0 (sg 20 [bt 22 (.lit 0),bt 23 .dnil,bv 25 1,bv 24 22,bt 26 (.lit 0),bt 21 (.lit 0),(20,.nil)]))
 (.pre 2 o_asm_4 (.both (.fresh 23 (.fresh 24 (.post 2 0 o_asm_4 23 (.br (.cmp .neq (.var 23) (.lit 0))
 (.ret 0 (sg 20 [bt 22 (.lit 0),bt 23 .dnil,bv 25 24,bv 24 23,bt 26 (.lit 0),bt 21 (.lit 0),(20,.nil)]))
 (.both (.pre 3 o_asm_3 (.both (.fresh 25 (.post 3 0 o_asm_3 25 (.br (.not (.c2 .req (r8 25) (r8 6)))
 o_asm_2
 (.ret 0 (sg 20 [bt 22 (.lit 0),bt 23 .dnil,bv 25 24,bt 24 (.lit 0),bt 26 (.lit 0),bt 21 (.lit 0),(20,.nil)]))))) .top)) .top))))) (.both (.fresh 23 (.fresh 24 (.fresh 25 (.fresh 26 (.post 2 1 o_asm_4 23 (.both (.know (.cmp .leq (.dlen (.var 25)) (.var 26)) (.pre 3 (sg 0 [bv 7 19,bv 5 26,bv 4 25,bv 3 5,bv 2 5,bt 1 (.lit 0),bg 0 23,bg 6 18]) (.both (.fresh 27 (.post 3 0 (sg 0 [bv 7 19,bv 5 26,bv 4 25,bv 3 5,bv 2 5,bt 1 (.lit 0),bg 0 23,bg 6 18]) 27 (.br (.not (.c2 .req (r8 27) (r8 6)))
 o_asm_2
 (.ret 0 (sg 20 [bv 22 26,bv 23 25,bv 25 24,bt 24 (.lit 0),bv 26 5,bv 21 5,bg 20 23]))))) .top))) .top)))))) .top)))))) .top))))) .top))))
theorem o_asm_eq:treeOf ⟨Tryz.prog,asmC,[checkMC,chksC,decode69C,sha256C],[]⟩ 100000 Tryz.f19 = o_asm:=by kernel_rfl
theorem asm_of (hd:∀ c ∈ ([checkMC,chksC,decode69C,sha256C]:List Ctr),c.ok Tryz.prog) (h:∀ ρ:Env,ρ.good→(asmC).pre ρ→o_asm.den ⟨Tryz.prog,asmC,[checkMC,chksC,decode69C,sha256C],[]⟩ ρ):(asmC).ok Tryz.prog :=
 ok_of_tree Tryz.func19 (fun a w=>Tryz.call19 a w) hd 100000 (fun ρ hg hp=>by rw [o_asm_eq]; exact h ρ hg hp)
def o_mine:Out:=(.fresh 6 (.pack [] 7 (.inv 0 8 (sg 1000 [bg 1004 7,bt 1003 .dnil,bt 1002 (.lit 0),bt 1001 (.lit 0),bg 1000 6]) (.fresh 8 (.fresh 9 (.fresh 10 (.fresh 11 (.fresh 12 (.fresh 13 (.hyp 0 8 (.need (.cmp .leq (.lit 0) (.var 1)) (.br (.cmp .lss (.var 9) (.var 1))
 (.need (.cmp .leq (.lit 0) (.var 9)) (.need (.cmp .lss (.var 9) (.dlen (.var 3))) (.both (.fresh 14 (.both (.view (.vcell (.var 3) (.var 9) 1) [CK.int .u8] [12,5] 15 (.need (.cmp .leq (.tims (.lit 1) (.dlen (.var 17))) (.lit 140737488355328)) (.fresh 18 (.fresh 19 (.both (.both (.fresh 20 (.both (.need (.cmp .eql (.var 9) (.dlen (.var 11))) (.need (.cmp .leq (.tims (.lit 32) (.plus (.var 9) (.lit 1))) (.lit 140737488355328)) (.fresh 21 (.fresh 22 (.both (.pack [.cells 20 86 [(.vint .i64 (.icell (.var 3) (.var 9) 0)),(.vslice 18 (.lit 0) (.dlen (.var 17)) (.var 19) 1)],.arr 18 5 [CK.int .u8] (.var 17) (.var 19),.abs 12 4] 23 (.need (.cmp .eql (.plus (.var 9) (.lit 1)) (.arith .add .i64 (.var 9) (.lit 1))) (.back 0 8 (sg 1000 [bg 1004 23,bt 1003 (.dapp (.var 11) (.rcons (.vint .i64 (.icell (.var 3) (.var 9) 0)) (.rcons (.vslice 18 (.lit 0) (.dlen (.var 17)) (.var 19) 1) .rnil))),bv 1002 22,bt 1001 (.plus (.var 9) (.lit 1)),bg 1000 21])))) .top))))) .top)) .top) .top))))) .top)) .top)))
 (.need (.cmp .eql (.var 1) (.var 9)) (.ret 0 (sg 6 [bg 9 12,bv 8 11,bv 7 10,bg 6 8])))))))))))))))
theorem o_mine_eq:treeOf ⟨Tryz.prog,mineC,[],[mineI]⟩ 100000 Tryz.f22 = o_mine:=by kernel_rfl
theorem mine_of (hd:∀ c ∈ ([]:List Ctr),c.ok Tryz.prog) (h:∀ ρ:Env,ρ.good→(mineC).pre ρ→o_mine.den ⟨Tryz.prog,mineC,[],[mineI]⟩ ρ):(mineC).ok Tryz.prog :=
 ok_of_tree Tryz.func22 (fun a w=>Tryz.call22 a w) hd 100000 (fun ρ hg hp=>by rw [o_mine_eq]; exact h ρ hg hp)
end Go.Proofs

set_option linter.unusedSimpArgs false
set_option linter.unusedVariables false
set_option maxRecDepth 100000
namespace Go.Proofs
open Go Go.Eng

def o_grow98:Out:=(.br (.cmp .lss (.var 0) (.lit 0))
 (.stuck 15 0 0)
 (.br (.cmp .gtr (.arith .sub .i64 (.var 0) (.lit 0)) (.lit 0))
 (.need (.cmp .leq (.lit 0) (.arith .sub .i64 (.var 0) (.lit 0))) (.need (.cmp .leq (.tims (.lit 1) (.arith .sub .i64 (.var 0) (.lit 0))) (.lit 140737488355328)) (.fresh 1 (.fresh 2 (.know (.cmp .leq (.dlen (.drep (.arith .sub .i64 (.var 0) (.lit 0)) (.rcons (.vint .u8 (.lit 0)) .rnil))) (.var 2)) (.need (.cmp .leq (.lit 0) (.var 2)) (.ret 0 (sg 1 [bt 2 (.drep (.arith .sub .i64 (.var 0) (.lit 0)) (.rcons (.vint .u8 (.lit 0)) .rnil)),bv 3 2,bg 1 1]))))))))
 (.ret 0 (sg 1 [bt 2 .dnil,bt 3 (.lit 0),(1,.nil)]))))
theorem o_grow98_eq:treeOf ⟨Tryz.prog,grow98C,[],[]⟩ 100000 Tryz.f135 = o_grow98:=by kernel_rfl
theorem grow98_of (hd:∀ c ∈ ([]:List Ctr),c.ok Tryz.prog) (h:∀ ρ:Env,ρ.good→(grow98C).pre ρ→o_grow98.den ⟨Tryz.prog,grow98C,[],[]⟩ ρ):(grow98C).ok Tryz.prog :=
 ok_of_tree Tryz.func135 (fun a w=>Tryz.call135 a w) hd 100000 (fun ρ hg hp=>by rw [o_grow98_eq]; exact h ρ hg hp)
def o_concat92:Out:=(.need (.cmp .leq (.lit 0) (.var 1)) (.inv 0 6 (sg 1000 [bt 1000 (.lit 0),bt 1001 (.lit 0)]) (.fresh 6 (.fresh 7 (.hyp 0 6 (.br (.cmp .lss (.var 6) (.var 1))
 (.need (.cmp .leq (.lit 0) (.var 6)) (.need (.cmp .lss (.var 6) (.dlen (.var 3))) (.view (.vcell (.var 3) (.var 6) 0) [CK.int .u8] [5] 8 (.br (.cmp .lss (.arith .add .i64 (.var 7) (.dlen (.var 10))) (.lit 0))
 (.stuck 15 0 0)
 (.back 0 6 (sg 1000 [bt 1000 (.arith .add .i64 (.var 6) (.lit 1)),bt 1001 (.arith .add .i64 (.var 7) (.dlen (.var 10)))]))))))
 (.pre 0 (sg 0 [bv 0 7]) (.both (.fresh 8 (.fresh 9 (.fresh 10 (.post 0 0 (sg 0 [bv 0 7]) 8 (.inv 1 11 (sg 1000 [bv 1003 9,bt 1004 (.lit 0),bv 1002 10,bt 1001 (.lit 0),bg 1000 8]) (.fresh 11 (.fresh 12 (.fresh 13 (.fresh 14 (.fresh 15 (.hyp 1 11 (.br (.cmp .lss (.var 15) (.var 1))
 (.need (.cmp .leq (.lit 0) (.var 15)) (.need (.cmp .lss (.var 15) (.dlen (.var 3))) (.view (.vcell (.var 3) (.var 15) 0) [CK.int .u8] [5] 16 (.need (.cmp .eql (.var 12) (.dlen (.dtake (.var 14) (.var 12)))) (.need (.cmp .leq (.tims (.lit 1) (.plus (.var 12) (.dlen (.var 18)))) (.lit 140737488355328)) (.fresh 19 (.fresh 20 (.back 1 11 (sg 1000 [bt 1003 (.dapp (.dtake (.var 14) (.var 12)) (.var 18)),bt 1004 (.arith .add .i64 (.var 15) (.lit 1)),bv 1002 20,bt 1001 (.plus (.var 12) (.dlen (.var 18))),bg 1000 19])))))))))
 (.ret 0 (sg 6 [bv 9 14,bv 8 13,bv 7 12,bg 6 11])))))))))))))) .top))))))))
theorem o_concat92_eq:treeOf ⟨Tryz.prog,concat92C,[grow98C],[concat92I,concat92J]⟩ 100000 Tryz.f112 = o_concat92:=by kernel_rfl
theorem concat92_of (hd:∀ c ∈ ([grow98C]:List Ctr),c.ok Tryz.prog) (h:∀ ρ:Env,ρ.good→(concat92C).pre ρ→o_concat92.den ⟨Tryz.prog,concat92C,[grow98C],[concat92I,concat92J]⟩ ρ):(concat92C).ok Tryz.prog :=
 ok_of_tree Tryz.func112 (fun a w=>Tryz.call112 a w) hd 100000 (fun ρ hg hp=>by rw [o_concat92_eq]; exact h ρ hg hp)
def o_decode69:Out:=(.br (.and (.cmp .eql (.dlen (.var 1)) (.lit 0)) (.isnil 0))
 (.ret 0 (sg 11 [bv 12 1,bt 11 (.lit 1)]))
 (.pre 0 (sg 0 [bv 1 3,bv 0 2]) (.both (.fresh 11 (.post 0 0 (sg 0 [bv 1 3,bv 0 2]) 11 (.br (.not (.var 11))
 (.ret 0 (sg 11 [bv 12 1,bt 11 (.lit 2)]))
 (.br (.cmp .lss (.var 4) (.lit 0))
 (.ret 0 (sg 11 [bv 12 1,bt 11 (.lit 2)]))
 (.br (.cmp .gtr (.var 4) (.lit 8192))
 (.ret 0 (sg 11 [bv 12 1,bt 11 (.lit 2)]))
 (.pre 1 (sg 0 [bv 1 4,bv 0 2]) (.both (.fresh 12 (.fresh 13 (.post 1 0 (sg 0 [bv 1 4,bv 0 2]) 12 (.pre 2 (sg 0 [bg 8 10,bv 7 9,bv 6 8,bv 5 7,bv 4 6,bg 3 5,bv 2 12,bv 1 3,bv 0 2]) (.both (.fresh 14 (.post 2 0 (sg 0 [bg 8 10,bv 7 9,bv 6 8,bv 5 7,bv 4 6,bg 3 5,bv 2 12,bv 1 3,bv 0 2]) 14 (.br (.cmp .neq (.var 14) (.lit 0))
 (.ret 0 (sg 11 [bv 12 1,bv 11 14]))
 (.pre 3 (sg 0 [bg 9 10,bv 8 9,bv 7 8,bv 1 1,bv 6 7,bv 5 6,bg 4 5,bv 3 3,bv 2 2,bg 0 0]) (.both (.fresh 15 (.fresh 16 (.fresh 17 (.fresh 18 (.fresh 19 (.fresh 20 (.fresh 21 (.fresh 22 (.post 3 0 (sg 0 [bg 9 10,bv 8 9,bv 7 8,bv 1 1,bv 6 7,bv 5 6,bg 4 5,bv 3 3,bv 2 2,bg 0 0]) 15 (.fresh 23 (.pre 4 (sg 0 [bg 5 21,bv 4 2,bv 3 20,bv 2 2,bv 1 2,bg 0 15]) (.both (.fresh 24 (.fresh 25 (.fresh 26 (.fresh 27 (.post 4 0 (sg 0 [bg 5 21,bv 4 2,bv 3 20,bv 2 2,bv 1 2,bg 0 15]) 24 (.know (.cmp .leq (.dlen (.var 27)) (.var 26)) (.need (.cmp .leq (.lit 0) (.var 25)) (.need (.cmp .leq (.lit 0) (.var 26)) (.need (.cmp .leq (.lit 0) (.var 4)) (.need (.cmp .leq (.var 4) (.var 26)) (.ret 1 (sg 11 [bv 14 26,bv 13 27,bv 12 19,bg 11 24])))))))))))) .top)))))))))))) .top))))) .top))))) .top))))))) .top)))
theorem o_decode69_eq:treeOf ⟨Tryz.prog,decode69C,[sizes74C,piece26C,check88C,solve89C,concat92C],[]⟩ 100000 Tryz.f76 = o_decode69:=by kernel_rfl
theorem decode69_of (hd:∀ c ∈ ([sizes74C,piece26C,check88C,solve89C,concat92C]:List Ctr),c.ok Tryz.prog) (h:∀ ρ:Env,ρ.good→(decode69C).pre ρ→o_decode69.den ⟨Tryz.prog,decode69C,[sizes74C,piece26C,check88C,solve89C,concat92C],[]⟩ ρ):(decode69C).ok Tryz.prog :=
 ok_of_tree Tryz.func76 (fun a w=>Tryz.call76 a w) hd 100000 (fun ρ hg hp=>by rw [o_decode69_eq]; exact h ρ hg hp)
end Go.Proofs

set_option linter.unusedSimpArgs false
set_option linter.unusedVariables false
namespace Go.Proofs
open Go Go.Eng
set_option maxRecDepth 100000
theorem grow98_ok:grow98C.ok Tryz.prog:=grow98_of (by simp) fun ρ hg hp=>by
 obtain ⟨n0,n1⟩:=hp
 simp (config:={ maxSteps:=4000000 }) [o_grow98,grow98C]
 rw [sub64 (by omega) (by omega)]
 exact ⟨n0,fun _=>⟨fun _=>⟨by omega,by omega,fun u _ h=>⟨by omega,allB_rep⟩⟩,fun _ r hr=>(by cases hr)⟩⟩
theorem concat92_ok:concat92C.ok Tryz.prog:=concat92_of (by simp [grow98_ok]) fun ρ hg hp=>by
 obtain ⟨n0,n1,nd,hr1,hcol⟩:=hp
 simp (config:={ maxSteps:=4000000 }) [o_concat92,concat92C,concat92I,concat92J,grow98C]
 have hle:∀ i:Nat,(i:Int) ≤ (ρ 1).i→(catN (colF (ρ 5).h (ρ 3).d) i).length ≤ i * 9000:=fun i hi=>catN_le fun j hj=>(hcol j (by omega)).2
 have hat:∀ i:Int,0 ≤ i→i < (ρ 1).i→∃ d,Rd (ρ 5).h kB (cellV (ρ 3).d i 0) d∧allB d∧colF (ρ 5).h (ρ 3).d i.toNat = bI d∧d.length ≤ 9000:=fun i i0 i1=>by
  obtain ⟨d,h1,h2,h3⟩:=col_at (hcol i.toNat (by omega)).1 i0
  refine ⟨d,h1,h2,h3,?_⟩
  have:=(hcol i.toNat (by omega)).2
  rwa [h3,bI_len] at this
 have hnext:∀ i:Int,0 ≤ i→catN (colF (ρ 5).h (ρ 3).d) (i + 1).toNat = catN (colF (ρ 5).h (ρ 3).d) i.toNat ++ colF (ρ 5).h (ρ 3).d i.toNat:=fun i i0=>by
  rw [show (i + 1).toNat = i.toNat + 1 by omega]; rfl
 refine ⟨n0,⟨n0,rfl⟩,fun i _ t _ i0 i1 ht=>⟨fun hi=>?_,fun hi=>?_⟩⟩
 ·obtain ⟨d,h1,h2,h3,h4⟩:=hat i.i i0 hi
  have h5:=hle i.i.toNat (by omega)
  have e1:arithOf .add .i64 t.i (d.length:Int) = t.i + d.length:=add64 (by omega) (by omega)
  have e2:arithOf .add .i64 i.i 1 = i.i + 1:=add64 (by omega) (by omega)
  refine ⟨i0,by omega,d,h1,?_⟩
  rw [e1,e2]
  exact ⟨by omega,fun _=>⟨⟨by omega,by omega,by rw [hnext _ i0,List.length_append,h3,bI_len]; omega⟩,by omega⟩⟩
 ·have h5:=hle i.i.toNat (by omega)
  refine ⟨⟨by omega,by omega⟩,fun u _ hGB=>⟨⟨n0,rfl,fun r hr=>(by cases hr),rfl,hGB⟩,fun l _ D _ j _ j0 j1 hl hlD hB hb hBB=>⟨fun hj=>?_,fun hj=>?_⟩⟩⟩
  ·obtain ⟨d,h1,h2,h3,h4⟩:=hat j.i j0 hj
   have h6:=hle j.i.toNat (by omega)
   have hmin:min l.i.toNat D.d.length = l.i.toNat:=Nat.min_eq_left (by omega)
   rw [hmin]
   have e2:arithOf .add .i64 j.i 1 = j.i + 1:=add64 (by omega) (by omega)
   rw [e2]
   have htk:(D.d.take l.i.toNat ++ d).take (l.i + (d.length:Int)).toNat = D.d.take l.i.toNat ++ d:=List.take_of_length_le (by rw [List.length_append,List.length_take,hmin]; omega)
   refine ⟨j0,by omega,d,h1,?_⟩
   rw [htk]
   exact ⟨by omega,by omega,⟨by omega,by omega,by rw [hnext _ j0,List.length_append,h3,bI_len]; omega,by omega,allB_app hB h2,by rw [bI_app,hb,hnext _ j0,h3],allB_app hB h2⟩,by omega⟩
  ·have he:j.i = (ρ 1).i:=by omega
   rw [he] at hl hb
   exact ⟨hl,hlD,hB,hb,hBB⟩
theorem dec_len {h:Hp} {D:Rows'} {k total n size:Int} (hp:pcPre h D n) (hd:decK h D k total size n) (h0:0 ≤ size):size.toNat ≤ k.toNat * pcN h D 0∧pcN h D 0 ≤ 8192∧1 ≤ k∧k ≤ 255:=by
 obtain ⟨P,hl⟩:=pcInD hp hd
 have h1:=P.k1
 have h2:=P.k2
 have h3:=P.k3
 have h8:=P.sol.2.2.2.2.2.1
 refine ⟨?_,h8,h1,by omega⟩
 rw [hl]
 exact pieceLen_ge (by omega)
theorem piece_pl {k size:Int} {a b:Int} (k1:1 ≤ k) (k2:k ≤ 255) (s0:0 ≤ size) (s1:size ≤ 8192) (h:¬ pieceBad k size→a = (size + k - 1).tdiv k∧b = 0):a = plI k size∧b = 0:=by
 obtain ⟨h1,h2⟩:=h (by unfold pieceBad; omega)
 refine ⟨?_,h2⟩
 have hd:=pieceLen_tdiv (k:=k) (n:=size.toNat) k1
 rw [Int.toNat_of_nonneg s0] at hd
 rw [h1,hd]; rfl
theorem decode69_ok:decode69C.ok Tryz.prog:=decode69_of (by simp [sizes74_ok,piece26_ok,check88_ok,solve89_ok,concat92_ok]) fun ρ hg hp=>by
 obtain ⟨hf,hpre⟩:=hp
 have hpre':=hpre
 obtain ⟨n0,n1,hpc⟩:=hpre'
 simp (config:={ maxSteps:=4000000 }) [o_decode69,decode69C,sizes74C,piece26C,check88C,chkOf,solve89C,genW,concat92C]
 refine ⟨fun h=>(field_some hf h).elim,fun _ b _ hb=>⟨fun h=>⟨hf,.inl ⟨.inl (by rw [← hb,h]),rfl⟩⟩,fun h=>⟨fun hi=>⟨hf,.inl ⟨.inr (.inl hi),rfl⟩⟩,fun s0=>⟨fun hi=>⟨hf,.inl ⟨.inr (.inr hi),rfl⟩⟩,fun s1 l _ e0 _ _ hl=>?_⟩⟩⟩⟩
 have hs:sizesB (ρ 2).i (ρ 3).i = true:=by rw [← hb,h]
 obtain ⟨k1,k2,k3⟩:=sizesB_iff.1 hs
 obtain ⟨hl,_⟩:=piece_pl k1 (by omega) s0 s1 hl
 rw [hl]
 refine ⟨⟨k3,n0,n1,hpc⟩,fun e _ he=>⟨fun hne=>⟨hf,.inr ⟨hs,s0,s1,he,hne⟩⟩,fun he0=>?_⟩⟩
 rw [he0] at he
 have hK:decK (ρ 10).h (ρ 8).d (ρ 2).i (ρ 3).i (ρ 4).i (ρ 6).i:=⟨hs,s0,s1,he⟩
 obtain ⟨P,hN⟩:=pcInD hpre hK
 obtain ⟨hd1,hd2,_,_⟩:=dec_len hpre hK s0
 refine ⟨⟨hf,P.sol⟩,fun _ _ _ _ f1 _ C _ H _ _ _ hf1 hCl hCr ht _ _=>?_⟩
 obtain ⟨c1,c2,c3⟩:=P.cat ht
 refine ⟨⟨by omega,by omega,by omega,hCr,fun j hj=>⟨(c1 j (by omega)).1,by rw [(c1 j (by omega)).2]; omega⟩⟩,fun m _ cp _ d _ hm hmd hB hb hBB hcp=>?_⟩
 rw [c2] at hm hb
 rw [c3] at hm
 have htk:(d.d.take (ρ 4).i.toNat) = (d.d.take m.i.toNat).take (ρ 4).i.toNat:=by rw [List.take_take,Nat.min_eq_left (by omega)]
 exact ⟨by omega,by omega,s0,by omega,hf1,hK,by omega,by rw [htk]; exact allB_take hB,by rw [htk,bI_take,hb],hBB⟩
end Go.Proofs

set_option linter.unusedSimpArgs false
set_option linter.unusedVariables false
namespace Go.Proofs
open Go Go.Eng
set_option maxRecDepth 20000
theorem mine_ok:mineC.ok Tryz.prog:=mine_of (by simp) fun ρ hg hp=>by
 obtain ⟨⟨p0,p1,hpc⟩,hn,h1,h9⟩:=hp
 simp (config:={ maxSteps:=4000000 }) [o_mine,mineC,mineI]
 intro u _ u1 _ hst
 refine ⟨⟨p0,fun j hj=>by omega,rfl,fun j hj=>by omega⟩,?_⟩
 intro a _ n _ c _ D _ h _ u7 _ n0 n1 hnl hpD hsD
 refine ⟨p0,fun hi=>⟨n0,by omega,fun u8 _=>?_⟩,fun hi=>⟨by omega,by omega,?_,?_⟩⟩
 ·obtain ⟨hj,hI,d,hr,hB,hDd⟩:=pc_atI hpc n0 hi
  have hdl:d.length ≤ 9000:=by
   have:=h9 n.i.toNat (by omega)
   rwa [hDd,bI_len] at this
  refine ⟨d,.inr hr,fun v18 _ v19 _=>⟨by omega,fun u9 _ u10 _ u11 _=>⟨hnl,by omega,fun u12 _ u13 _ u14 _ hs=>?_⟩⟩⟩
  obtain ⟨ha,la,da⟩:=star_mem hs (List.mem_cons_of_mem _ (List.mem_cons_self ..))
  obtain ⟨hb,lb,db⟩:=star_mem_abs hs (n:=12) (t:=4) (by simp)
  have hrd:=arr_Rd (n:=d.length) (k:=u10.i.toNat) da la (by simp) (by simp)
  obtain ⟨q1,q2⟩:=pc_snoc (d:=d) (x:=cellI (ρ 3).d n.i 0) hpD hsD (by omega) (Hp.le_trans (by simpa using db) lb) (by simpa [kB] using hrd) hB hI hDd.symm
  rw [add64 (x:=n.i) (by omega) (by omega),show (n.i + 1).toNat = n.i.toNat + 1 by omega]
  exact ⟨rfl,⟨by omega,by omega,hnl,q1,q2⟩,by omega⟩
 ·rw [← show n.i.toNat = (ρ 3).d.length by omega]; exact hpD
 ·rw [← show n.i.toNat = (ρ 3).d.length by omega]; exact hsD
set_option maxHeartbeats 1000000 in
theorem chks_ok:chksC.ok Tryz.prog:=chks_of (by simp [checkP_ok]) fun ρ hg hp=>by
 obtain ⟨⟨⟨m0,m1,m2,m3,hl,hD⟩,⟨p0,p1,hpc⟩,hn,h9⟩,hGr,hGd⟩:=hp
 simp only [Nat.reduceAdd] at m0 m1 m2 m3 hl hD p0 p1 hpc hn h9
 simp (config:={ maxSteps:=4000000 }) [o_chks,chksC,chksI,chksAlts,checkPC,chkAlts,chkPre,pieceArgIn,gOk,manV,manT,cellsT,pieceArg,MK.sem,mF,hGr,hGd,hD,hl,m0,m3]
 intro u _ u1 _ v hv x hx hm
 refine ⟨p0,⟨p0,fun j hj=>by omega,seen_new hx hm⟩,?_⟩
 intro H _ M _ u4 _ i _ i0 i1 hall hseen
 refine ⟨fun hi=>⟨i0,by omega,fun u6 _=>?_⟩,fun hi=>⟨fun hk=>?_,fun hk=>?_⟩⟩
 ·obtain ⟨hj,hI,d,hr,hB,hDd⟩:=pc_atI hpc i0 hi
  have hdl:d.length ≤ 9000:=by
   have:=h9 i.i.toNat (by omega)
   rwa [hDd,bI_len] at this
  refine ⟨d,hr,fun r _ c _ hv hc=>⟨⟨hc,by omega,hB⟩,fun e _ he=>?_⟩⟩
  rw [hI,← hDd] at he
  refine ⟨fun hne=>chks_bad i0 hj hall he hne,fun h0=>?_⟩
  obtain ⟨b,l,ck,hM,hmap,ht,hs⟩:=hseen
  refine ⟨l,.inr ⟨b,hM,ck,hmap⟩,?_⟩
  have hz:∀ (ρ:Env) (b:Bool),denVs ρ [.vbool (.bl b)] = [.bool b]:=fun _ _=>rfl
  have hcx:∀ b:Bool,cellXB [[Value.bool b]] 0 = b:=fun _=>rfl
  rw [h0] at he
  simp only [hz,getM_true ht,hI,hcx]
  refine ⟨fun h7=>chks_twice i0 hj hall he.symm ((hs _).1 h7),fun hno=>⟨b,hM,l,ck,hmap,fun u' _ hu'=>?_⟩⟩
  rw [add64 (x:=i.i) (by omega) (by omega)]
  refine ⟨⟨by omega,by omega,chks_next i0 hall he.symm fun l' hl' h=>?_,?_⟩,by omega⟩
  ·rw [(hs _).2 ⟨l',hl',h⟩] at hno; cases hno
  ·rw [show (i.i + 1).toNat = i.i.toNat + 1 by omega]
   exact seen_put hM hmap ht hs rfl hu'
 ·exact chks_end (by omega) hall (.inl ⟨by omega,rfl⟩)
 ·exact chks_end (by omega) hall (.inr ⟨by omega,rfl⟩)
set_option maxHeartbeats 1000000 in
theorem chksR_ok:chksRC.ok Tryz.prog:=chksR_of (by simp [checkR_ok]) fun ρ hg hp=>by
 obtain ⟨⟨⟨m0,m1,m2,m3,hl,hD⟩,⟨p0,p1,hpc⟩,hn,h9⟩,hGr,hGd⟩:=hp
 simp only [Nat.reduceAdd] at m0 m1 m2 m3 hl hD p0 p1 hpc hn h9
 simp (config:={ maxSteps:=4000000 }) [o_chksR,chksRC,chksRI,chksRJ,chksAlts,checkRC,chkAlts,chkPre,pieceArgIn,gOk,manV,manT,cellsT,pieceArg,mF,hGr,hGd,hD,hl,m0,m3]
 refine ⟨⟨p0,fun j hj=>by omega⟩,fun i _ i0 i1 hall=>⟨p0,fun hi=>⟨i0,by omega,?_⟩,fun hi=>⟨fun hk=>chks_end (by omega) hall (.inl ⟨by omega,rfl⟩),fun hk=>chks_end (by omega) hall (.inr ⟨by omega,rfl⟩)⟩⟩⟩
 obtain ⟨hj,hI,d,hr,hB,hDd⟩:=pc_atI hpc i0 hi
 have hdl:d.length ≤ 9000:=by
  have:=h9 i.i.toNat (by omega)
  rwa [hDd,bI_len] at this
 refine ⟨d,hr,fun r _ c _ hv hc=>⟨⟨hc,by omega,hB⟩,fun e _ he=>?_⟩⟩
 rw [hI,← hDd] at he
 refine ⟨fun hne=>chks_bad i0 hj hall he hne,fun h0=>?_⟩
 rw [h0] at he
 have hcI:∀ x:Int,0 ≤ x→x < (ρ 11).i→cellI (ρ 13).d x 0 = pcI (ρ 13).d x.toNat:=fun x x0 x1=>(pc_atI hpc x0 x1).2.1
 refine ⟨⟨i0,fun l hl=>by omega⟩,fun u _ u0 u1 hno=>⟨fun hlt=>⟨u0,by omega,by omega,fun he2=>?_,fun hne=>?_⟩,fun hge=>?_⟩⟩
 ·rw [hcI _ u0 (by omega),hI] at he2
  exact chks_twice i0 hj hall he.symm ⟨u.i.toNat,by omega,he2⟩
 ·rw [hcI _ u0 (by omega),hI] at hne
  rw [add64 (x:=u.i) (by omega) (by omega)]
  refine ⟨⟨by omega,by omega,fun l hl=>?_⟩,by omega⟩
  by_cases hlu:(l:Int) = u.i
  ·obtain rfl:l = u.i.toNat:=by omega
   exact hne
  ·exact hno l (by omega)
 ·rw [add64 (x:=i.i) (by omega) (by omega)]
  exact ⟨⟨by omega,by omega,chks_next i0 hall he.symm fun l hl=>hno l (by omega)⟩,by omega⟩
set_option maxHeartbeats 1000000 in
theorem asm_ok:asmC.ok Tryz.prog:=asm_of (by simp [checkM_ok,chks_ok,decode69_ok,sha256_ok]) fun ρ hg hp=>by
 obtain ⟨hf,⟨m0,m1,m2,m3,hl,hD⟩,hO,⟨⟨p0,p1,hpc⟩,hn,h9⟩,⟨hGr,hGd⟩⟩:=hp
 simp only [Nat.reduceAdd] at m0 m1 m2 m3 hl hD p0 p1 hpc hn h9
 have hne:=field_some hf
 simp (config:={ maxSteps:=4000000 }) [o_asm,asmC,checkMC,chksC,chksAlts,chksPre,manP,psP,decode69C,sha256C,bytesIn,pcPre,manV,manT,cellsT,gOk,mF,mChk,mOk,asmD,hf,hne,hGr,hGd,hD,hl,hO,m0,m1,m2,m3,p0,p1,hpc]
 cases hM:manOk (ρ 2).i (ρ 3).i (ρ 4).i (ρ 5).i ((ρ 10).d.length:Int)
 ·intro u2 _ hu2
  simp only [Bool.false_eq_true,if_false] at hu2
  exact ⟨fun hne=>asmS_e (by rw [hu2]; exact outR_man rfl) hne,fun h=>by omega⟩
 ·intro u2 _ hu2
  simp only [if_true] at hu2
  refine ⟨fun h=>absurd hu2 h,fun _=>⟨⟨hn,h9⟩,fun u3 _ hC=>⟨fun hne=>asmS_e (outR_chk rfl hC hne) hne,fun h0=>?_⟩⟩⟩
  rw [h0] at hC
  have hK:=chks_dec hC hM hn
  obtain ⟨k1,k2,k3,k4,s0,s1,htl⟩:=manOk_iff.1 hM
  refine ⟨fun u4 _ u5 _ _ hE=>(dec_bad hK hE).elim,fun f2 _ d _ c _ hf2 _ hsz hB hb hBB hcap=>⟨⟨s0,by omega,hsz,hBB⟩,fun u10 _ hs=>?_⟩⟩
  have hsg:segB d.d 0 (ρ 5).i = bI (d.d.take (ρ 5).i.toNat):=by rw [bI_take]; rfl
  rw [hs,hsg,hb]
  exact ⟨fun h=>⟨hf2,asmS_e (outR_sum rfl hC h) (by decide)⟩,fun h=>⟨hf2,asmS_ok (outR_ok rfl hC h) s0 hsz hBB hb⟩⟩
end Go.Proofs

set_option linter.unusedSimpArgs false
set_option linter.unusedVariables false
namespace Go.Eng
open Go Go.ChangeShapes Go.WideShapes Go.ChangeAt Go.RowKit

structure Grew (W w':World):Prop where
 os:w'.os = W.os
 out:w'.output = W.output
 blk:∀ (b:Nat) (o:Obj),W.heap[b]? = some o→w'.heap[b]? = some o

theorem Grew.block {W w':World} (h:Grew W w') {i:Nat} (hi:i < W.heap.size):w'.heap[i]? = W.heap[i]?:=by
 rw [Array.getElem?_eq_getElem hi]; exact h.blk i _ (Array.getElem?_eq_getElem hi)

theorem Grew.kept {W w':World} (h:Grew W w') (may:MemPlace→Prop):W.keptBut w' may:=by
 refine ⟨h.os,h.out,fun i hi=>?_⟩
 rw [h.block hi,Array.getElem?_eq_getElem hi]
 cases W.heap[i] <;> simp

theorem Grew.trodAll {H:Type} {enc:TypeId × Value→H} {P:Program} {W W':World} (hg:Grew W W') (hl:laidOutB P = true) {sp:Nat→Bool}:∀ {ts:List TypeId} {vs:List Value} {ds:List (DataW H)} {ps:List MemPlace},
  (∀ t ∈ ts,P.readableRec t = true∧t < P.types.size)→DataW.TrodAll enc P W 0 (fun _=>true) true ts vs ds ps→(∀ p ∈ ps,p.block < W.heap.size)→(∀ p ∈ ps,sp p.block = true) →
  DataW.TrodAll enc P W' 0 sp true ts vs ds ps
 | [],[],[],_,_,h,_,_=>h
 | _ :: _,_ :: _,_ :: _,_,hT,⟨p,q,h1,h2,e⟩,hlt,hs=>by
  subst e
  refine ⟨p,q,?_,Grew.trodAll hg hl (fun t ht=>hT t (List.mem_cons_of_mem _ ht)) h2 (fun x hx=>hlt x (List.mem_append_right _ hx)) (fun x hx=>hs x (List.mem_append_right _ hx)),rfl⟩
  have hr:=hT _ (List.mem_cons_self ..)
  refine WideElems.Trod_stays hl hr.1 hr.2 h1 (fun x hx=>?_) (fun x hx=>hs x (List.mem_append_left _ hx))
  have hb:=hg.block (hlt x (List.mem_append_left _ hx))
  cases x with
  | cell b o=>exact World.cell?_of_block (w:=W) hb
  | map b=>exact hb

theorem law_calls {P:Program} {c:Ctr} (hok:c.ok P) (hheap:c.heap = []) (halts:∀ al ∈ c.alts,al.ret = .one (.vbool (.bl true))) {ρ:Env} (hg:ρ.good) (W:World)
  (hro:∀ x ∈ c.ro,x.roden ρ (fun b=>W.heap[b]?)) (hpre:c.pre ρ) :
  Calls P c.fn (c.args.map (SV.den ρ)).toArray W fun e W'=>e = .returned (.bool true)∧Grew W W':=by
 have h:=hok.2 ρ W ⟨fun b=>W.heap[b]?,W.os,W.output⟩ Hp.emp hg (Hp.disj_emp _)
  ⟨fun b o hb=>by simpa [Hp.union,Hp.emp] using hb,rfl,rfl⟩ (by rw [hheap]; trivial) hro hpre
 refine h.mono fun e w' hq=>?_
 obtain ⟨ai,al,ρ',hal,_,_,rfl,_,hO,_,_,hsub,hwi⟩:=hq
 refine ⟨by rw [halts al (List.mem_of_getElem? hal)]; rfl,⟨hwi.1,hwi.2,fun b o hb=>hsub b o ?_⟩⟩
 simp [Hp.union,hb]

theorem law_post {H:Type} {enc:TypeId × Value→H} {P:Program} {f:Func} {s:ChangeSpec} {W W':World} {args:Array Value} {ds gs:List (DataW H)} {before:List MemPlace} {bt:TypeId}
  (hl:laidOutB P = true) (hT:∀ t ∈ f.params.toList,P.readableRec t = true∧t < P.types.size) (hvars:s.vars = []) (hrt:f.resultTypes = #[bt]) (hbt:P.underlying bt = some .bool)
  (hfn:∀ ds':List (DataW H),ds'.length = f.params.size→s.fn H ds' = { results:=[.lit (.bool true)],args:=ds' })
  (hW:DataW.Whole enc P f.params.toList s.vars false W args.toList ds gs before) (hg:Grew W W'):s.post enc P f false true false false W args (.bool true) W':=by
 have hlt:=hW.lt
 have hW0:=hW
 obtain ⟨p,q,hA,hV,hpq,hz,hn⟩:=hW
 rw [hvars] at hV
 obtain ⟨rfl,rfl⟩:=trodVars_none hV
 have hlen:ds.length = f.params.size:=by
  have:∀ {ts:List TypeId} {vs:List Value} {ds:List (DataW H)} {ps:List MemPlace},DataW.TrodAll enc P W 0 (fun _=>true) true ts vs ds ps→ds.length = ts.length:=by
   intro ts
   induction ts with
   | nil=>intro vs ds ps h; cases vs <;> cases ds <;> simp_all [DataW.TrodAll]
   | cons t ts ih =>
    intro vs ds ps h
    cases vs <;> cases ds <;> simp_all [DataW.TrodAll]
    obtain ⟨p,q,_,h2,_⟩:=h
    exact ih h2
  simpa using this hA
 have hlt':∀ x ∈ p,x.block < W.heap.size:=fun x hx=>hlt x (by rw [hpq]; exact List.mem_append_left _ hx)
 refine ⟨ds,[],before,[],p,[],hW0,?_,?_,?_,hg.kept _,fun h=>by cases h⟩
 ·rw [List.append_nil,hfn ds hlen,hrt]
  exact ⟨[],[],⟨1,by simp [DataW.trod,hbt,Value.cells]⟩,rfl,rfl⟩
 ·rw [List.append_nil,hfn ds hlen]
  exact hg.trodAll hl hT hA hlt' (fun x hx=>by simpa using hlt' x hx)
 ·rw [List.append_nil,hfn ds hlen,hvars]
  rfl

theorem law_call {H:Type} {enc:TypeId × Value→H} {P:Program} {f:Func} {s:ChangeSpec} {c:Ctr} {W:World} {args:Array Value} {ds gs:List (DataW H)} {before:List MemPlace} {bt:TypeId} {ρ:Env}
  (hok:c.ok P) (hheap:c.heap = []) (halts:∀ al ∈ c.alts,al.ret = .one (.vbool (.bl true)))
  (hl:laidOutB P = true) (hT:∀ t ∈ f.params.toList,P.readableRec t = true∧t < P.types.size) (hvars:s.vars = []) (hrt:f.resultTypes = #[bt]) (hbt:P.underlying bt = some .bool)
  (hfn:∀ ds':List (DataW H),ds'.length = f.params.size→s.fn H ds' = { results:=[.lit (.bool true)],args:=ds' })
  (hW:DataW.Whole enc P f.params.toList s.vars false W args.toList ds gs before)
  (hg:ρ.good) (hargs:args = (c.args.map (SV.den ρ)).toArray) (hro:∀ x ∈ c.ro,x.roden ρ (fun b=>W.heap[b]?)) (hpre:c.pre ρ) :
  Calls P c.fn args W fun e W'=>∃ v,e = .returned v∧s.post enc P f false true false false W args v W':=by
 rw [hargs]
 refine (law_calls hok hheap halts hg W hro hpre).mono fun e W' ⟨he,hgr⟩=>⟨_,he,?_⟩
 rw [← hargs]
 exact law_post hl hT hvars hrt hbt hfn hW hgr
end Go.Eng

set_option linter.unusedSimpArgs false
set_option linter.unusedVariables false
namespace Go.Eng
open Go Go.ChangeShapes Go.WideShapes Go.ChangeAt Go.RowKit

def patFs (P:Program) (f:TypeId→Option (List CK)):List Field→Nat→Option (List CK)
 | [],_=>some []
 | x :: fs,off =>
  if Nat.beq x.offset off then
   match f x.type with
   | some p=>if Nat.beq p.length (P.cellsOf x.type) then (patFs P f fs (off + p.length)).map (p ++ ·) else none
   | none=>none
  else none
def patArr (p:List CK):Nat→List CK
 | 0=>[]
 | n + 1=>p ++ patArr p n
def patP (P:Program):Nat→TypeId→Option (List CK)
 | 0,_=>none
 | n + 1,t =>
  match P.underlying t with
  | some (.int k)=>some [.int k]
  | some .bool=>some [.bool]
  | some .string=>some [.any]
  | some (.slice _)=>some [.any]
  | some (.pointer _)=>some [.any]
  | some (.struct fs)=>match patFs P (patP P n) fs.toList 0 with
   | some p=>if Nat.beq p.length (P.cellsOf t) then some p else none
   | none=>none
  | some (.array m e)=>match patP P n e with
   | some p=>if Nat.beq p.length (P.cellsOf e) && Nat.beq (P.cellsOf t) (m * P.cellsOf e) then some (patArr p m) else none
   | none=>none
  | _=>none

theorem fitsRow_append {p q:List CK} {cs:List Value} (h1:fitsRow p (cs.take p.length)) (h2:fitsRow q (cs.drop p.length)):fitsRow (p ++ q) cs:=by
 obtain ⟨a1,a2⟩:=h1
 obtain ⟨b1,b2⟩:=h2
 have hle:p.length ≤ cs.length:=by simp at a1; omega
 refine ⟨by simp at a1 b1 ⊢; omega,fun c k v hk hv=>?_⟩
 by_cases hc:c < p.length
 ·rw [List.getElem?_append_left hc] at hk
  exact a2 c k v hk (by rw [List.getElem?_take,if_pos hc]; exact hv)
 ·rw [List.getElem?_append_right (by omega)] at hk
  exact b2 (c - p.length) k v hk (by rw [List.getElem?_drop,show p.length + (c - p.length) = c by omega]; exact hv)

section
variable {H:Type} {enc:TypeId × Value→H} {P:Program} {w:World} {base:Nat} {spare:Nat→Bool} {held:Bool}

theorem fits_one_any {v:Value} (h:v.oneCell' = true):fitsRow [.any] [v]:=⟨rfl,fun c k v' hk hv=>by
 cases c with
 | zero=>simp at hk hv; subst hk; subst hv; exact h
 | succ c=>simp at hk⟩

theorem patFs_fits {f:TypeId→Option (List CK)} {cs:List Value} (hf:∀ t p,f t = some p→∀ cs',(∃ fuel x,DataW.trod enc P w base spare held fuel t cs' = some x)→fitsRow p cs') :
  ∀ {fs:List Field} {off:Nat} {p:List CK},patFs P f fs off = some p→(∀ x ∈ fs,∃ fuel y,DataW.trod enc P w base spare held fuel x.type ((cs.drop x.offset).take (P.cellsOf x.type)) = some y)→off + p.length = cs.length→fitsRow p (cs.drop off)
 | [],off,p,h,_,hl=>by
  simp only [patFs,Option.some.injEq] at h; subst h
  simp at hl
  refine ⟨by simp; omega,fun c k v hk=>by simp at hk⟩
 | x :: fs,off,p,h,ht,hl=>by
  simp only [patFs] at h
  split at h
  ·rename_i ho
   have ho:=Nat.eq_of_beq_eq_true ho
   split at h
   ·rename_i p1 hp1
    split at h
    ·rename_i hc
     have hc:=Nat.eq_of_beq_eq_true hc
     simp only [Option.map_eq_some_iff] at h
     obtain ⟨p2,hp2,rfl⟩:=h
     simp only [List.length_append] at hl
     have h1:=hf x.type p1 hp1 _ (ht x (List.mem_cons_self ..))
     rw [ho,← hc] at h1
     have h2:=patFs_fits hf hp2 (fun y hy=>ht y (List.mem_cons_of_mem _ hy)) (by omega)
     exact fitsRow_append h1 (by rw [List.drop_drop]; exact h2)
    ·simp at h
   ·simp at h
  ·simp at h

theorem patArr_fits {p:List CK}:∀ {m:Nat} {cs:List Value},cs.length = m * p.length→(∀ i,i < m→fitsRow p ((cs.drop (i * p.length)).take p.length))→fitsRow (patArr p m) cs
 | 0,cs,hl,_=>by
  simp at hl; subst hl
  exact ⟨rfl,fun c k v hk=>by simp [patArr] at hk⟩
 | m + 1,cs,hl,h=>by
  simp only [patArr]
  refine fitsRow_append (by simpa using h 0 (by omega)) (patArr_fits (by rw [List.length_drop,hl,Nat.add_mul]; omega) fun i hi=>?_)
  rw [List.drop_drop,show p.length + i * p.length = (i + 1) * p.length by rw [Nat.add_mul]; omega]
  exact h (i + 1) (by omega)

theorem trod_fits:∀ (n:Nat) {t:TypeId} {pat:List CK},patP P n t = some pat→∀ cs,(∃ fuel x,DataW.trod enc P w base spare held fuel t cs = some x)→fitsRow pat cs
 | 0,t,pat,h,_,_=>by simp [patP] at h
 | n + 1,t,pat,h,cs,⟨fuel,x,hx⟩=>by
  simp only [patP] at h
  split at h
  ·rename_i k hu
   simp only [Option.some.injEq] at h; subst h
   obtain ⟨z,rfl,_,_⟩:=DataW.trod_int hu hx
   refine ⟨rfl,fun c k' v hk hv=>?_⟩
   cases c with
   | zero=>simp at hk hv; subst hk; subst hv; simp [CK.fits]
   | succ c=>simp at hk
  ·rename_i hu
   simp only [Option.some.injEq] at h; subst h
   cases fuel with
   | zero=>simp [DataW.trod] at hx
   | succ m =>
    unfold DataW.trod at hx
    rw [hu] at hx
    split at hx <;> simp_all
    refine ⟨rfl,fun c k' v hk hv=>?_⟩
    cases c with
    | zero=>simp at hk hv; subst hk; subst hv; simp [CK.fits]
    | succ c=>simp at hk
  ·rename_i hu
   simp only [Option.some.injEq] at h; subst h
   cases fuel with
   | zero=>simp [DataW.trod] at hx
   | succ m =>
    unfold DataW.trod at hx
    rw [hu] at hx
    split at hx <;> simp_all
    exact fits_one_any rfl
  ·rename_i e hu
   simp only [Option.some.injEq] at h; subst h
   rcases DataW.trod_slice hu hx with ⟨rfl,_⟩ | ⟨a,len,cap,elems,rest,m,_,rfl,_⟩
   ·exact fits_one_any rfl
   ·exact fits_one_any rfl
  ·rename_i e hu
   simp only [Option.some.injEq] at h; subst h
   cases fuel with
   | zero=>simp [DataW.trod] at hx
   | succ m =>
    unfold DataW.trod at hx
    rw [hu] at hx
    split at hx <;> simp_all
    all_goals exact fits_one_any rfl
  ·rename_i fs hu
   split at h
   ·rename_i p hp
    split at h
    ·rename_i hc
     have hc:=Nat.eq_of_beq_eq_true hc
     simp only [Option.some.injEq] at h; subst h
     obtain ⟨xs,m,_,_,hl,hxl,hall⟩:=DataW.trod_struct hu hx
     have:=patFs_fits (cs:=cs) (f:=patP P n) (fun t p hp cs' hh=>trod_fits n hp cs' hh) hp (fun y hy=>by
      obtain ⟨i,hi⟩:=List.getElem?_of_mem hy
      have hi':fs[i]? = some y:=by simpa using hi
      have h1:=hall i y hi'
      have hlt:i < xs.length:=by
       rw [hxl]; exact (Array.getElem?_eq_some_iff.1 hi').1
      exact ⟨m,xs[i],by rw [h1]; simp [hlt]⟩) (by omega)
     simpa using this
    ·simp at h
   ·simp at h
  ·rename_i m e hu
   split at h
   ·rename_i p hp
    split at h
    ·rename_i hc
     simp only [Bool.and_eq_true] at hc
     have hc1:=Nat.eq_of_beq_eq_true hc.1
     have hc2:=Nat.eq_of_beq_eq_true hc.2
     simp only [Option.some.injEq] at h; subst h
     obtain ⟨xs,k,_,_,hl,hxl,hall⟩:=DataW.trod_array hu hx
     refine patArr_fits (by rw [hl,hc2,hc1]) fun i hi=>?_
     have h1:=hall i hi
     rw [← hc1] at h1
     exact trod_fits n hp _ ⟨k,xs[i]'(by omega),by rw [h1]; simp [hxl,hi]⟩
    ·simp at h
   ·simp at h
  ·simp at h

theorem cells?_get {a:Addr} {n:Nat} {cs:List Value} (h:w.cells? base a n = some cs):cs.length = n∧∀ i,i < n→w.cell? (a.add i) = cs[i]?:=by
 unfold World.cells? at h
 split at h
 ·exact ⟨by simpa using mapM_some_length h,fun i hi=>by simpa using mapM_some_get h i i (by simp [hi])⟩
 ·simp at h

theorem open_rows {t e:TypeId} {pat:List CK} {n:Nat} {v:Value} {d:DataW H} {ps:List MemPlace} (ht:P.underlying t = some (.slice e)) (hpat:patP P n e = some pat) (hce:P.cellsOf e = pat.length) (hpos:0 < pat.length)
  {fuel:Nat} (hsp:∀ b,spare b = true) (hf:DataW.trod enc P w base spare held fuel t [v] = some (d,ps)) :
  ∃ rows:List (List Value),Rd (fun b=>w.heap[b]?) pat v rows∧(∀ row ∈ rows,∃ fuel x,DataW.trod enc P w base spare held fuel e row = some x) ∧
   ((d = .nil∧rows = [])∨∃ elems sp,d = .slice elems sp∧elems.length = rows.length∧∀ (i:Nat) (row:List Value),rows[i]? = some row→∃ fuel x,DataW.trod enc P w base spare held fuel e row = some x∧elems[i]? = some x.1):=by
 rcases DataW.trod_slice ht hf with ⟨h1,h2⟩ | ⟨a,len,cap,elems,rest,m,_,h1,h2,hb,hlc,hcm,hel,hall,hrest,_⟩
 ·simp at h1 h2
  exact ⟨[],.inl ⟨_,h1,rfl⟩,by simp,.inl ⟨h2.1,rfl⟩⟩
 ·simp at h1 h2
  subst h1
  have hrow:∀ i,i < len→∃ cs x,w.cells? base (a.add (i * P.cellsOf e)) (P.cellsOf e) = some cs∧DataW.trod enc P w base spare held m e cs = some x∧elems[i]? = some x:=fun i hi=>by
   have:=hall i hi
   rw [List.getElem?_eq_getElem (by omega)] at this
   obtain ⟨cs,g1,g2⟩:=Option.bind_eq_some_iff.1 this
   exact ⟨cs,_,g1,g2,List.getElem?_eq_getElem _⟩
  let rows:List (List Value):=(List.range len).map fun i=>((w.cells? base (a.add (i * P.cellsOf e)) (P.cellsOf e)).getD [])
  have hget:∀ i row,rows[i]? = some row→i < len∧w.cells? base (a.add (i * P.cellsOf e)) (P.cellsOf e) = some row:=fun i row hr=>by
   simp only [rows,List.getElem?_map,Option.map_eq_some_iff] at hr
   obtain ⟨j,hj,rfl⟩:=hr
   have hlt:i < len:=by
    have:=(List.getElem?_eq_some_iff.1 hj).1; simpa using this
   rw [List.getElem?_range hlt] at hj
   simp only [Option.some.injEq] at hj; subst hj
   obtain ⟨cs,x,g1,_,_⟩:=hrow i hlt
   exact ⟨hlt,by rw [g1]; rfl⟩
  have hrl:rows.length = len:=by simp [rows]
  have htr:∀ row ∈ rows,∃ fuel x,DataW.trod enc P w base spare held fuel e row = some x:=fun row hr=>by
   obtain ⟨i,hi⟩:=List.getElem?_of_mem hr
   obtain ⟨hlt,hc⟩:=hget i row hi
   obtain ⟨cs,x,g1,g2,_⟩:=hrow i hlt
   rw [hc] at g1
   simp only [Option.some.injEq] at g1; subst g1
   exact ⟨m,x,g2⟩
  refine ⟨rows,?_,htr,.inr ⟨_,_,h2.1,by simp [hel,hrl],fun i row hi=>?_⟩⟩
  rotate_left
  ·obtain ⟨hlt,hc⟩:=hget i row hi
   obtain ⟨cs,x,g1,g2,g3⟩:=hrow i hlt
   rw [hc] at g1
   simp only [Option.some.injEq] at g1; subst g1
   exact ⟨m,x,g2,by simp [g3]⟩
  by_cases hcap:cap = 0
  ·have hl0:len = 0:=by omega
   have:rows = []:=by apply List.eq_nil_of_length_eq_zero; omega
   exact .inl ⟨some a,by rw [hl0,hcap],this⟩
  have hfirst:∃ cs,w.cells? base (a.add 0) (P.cellsOf e) = some cs:=by
   by_cases hl:0 < len
   ·obtain ⟨cs,_,g1,_,_⟩:=hrow 0 hl
    rw [Nat.zero_mul] at g1
    exact ⟨cs,g1⟩
   ·obtain ⟨r1,r2⟩:=hrest (hsp _)
    have:=r2 0 (by omega)
    rw [show (len + 0) * P.cellsOf e = 0 by rw [show len + 0 = 0 by omega]; simp,List.getElem?_eq_getElem (by omega)] at this
    obtain ⟨cs,g1,_⟩:=Option.bind_eq_some_iff.1 this
    exact ⟨cs,g1⟩
  obtain ⟨cs0,hc0⟩:=hfirst
  obtain ⟨hl0,hg0⟩:=cells?_get hc0
  have h00:=hg0 0 (by omega)
  rw [show (a.add 0).add 0 = a from rfl,List.getElem?_eq_getElem (by omega)] at h00
  obtain ⟨ab,ao,asp⟩:=a
  have hblk0:=h00
  unfold World.cell? at hblk0
  split at hblk0
  ·rename_i c ty fr hblk
   simp only at hblk
   have hsp0:asp = none:=by
    cases asp with
    | none=>rfl
    | some s=>simp at hblk0
   subst hsp0
   refine .inr ⟨ab,ao,cap,c,ty,fr,by rw [hrl],by omega,hblk,fun i row hi=>?_⟩
   obtain ⟨hlt,hc⟩:=hget i row hi
   refine ⟨trod_fits n hpat row (htr row (List.mem_of_getElem? hi)),fun k x hk=>?_⟩
   obtain ⟨hl1,hg⟩:=cells?_get hc
   have hkl:k < P.cellsOf e:=by
    rw [← hl1]; exact (List.getElem?_eq_some_iff.1 hk).1
   have:=hg k hkl
   rw [hk,hce] at this
   rw [Go.Eng.addr_add,Go.Eng.addr_add,cell_of_heap hblk] at this
   exact this
  ·simp at hblk0
end

end Go.Eng

set_option linter.unusedSimpArgs false
set_option linter.unusedVariables false
set_option maxRecDepth 100000
namespace Go.Proofs
open Go Go.Eng

def o_join70:Out:=(.pre 0 (sg 0 [bv 1 1,bv 0 0]) (.both (.fresh 9 (.post 0 0 (sg 0 [bv 1 1,bv 0 0]) 9 (.br (.not (.var 9))
 (.ret 0 (sg 9 [bt 9 (.lit 2)]))
 (.br (.cmp .lss (.var 2) (.lit 0))
 (.ret 0 (sg 9 [bt 9 (.lit 2)]))
 (.br (.cmp .gtr (.var 2) (.lit 8192))
 (.ret 0 (sg 9 [bt 9 (.lit 2)]))
 (.pre 1 (sg 0 [bv 1 2,bv 0 0]) (.both (.fresh 10 (.fresh 11 (.post 1 0 (sg 0 [bv 1 2,bv 0 0]) 10 (.pre 2 (sg 0 [bg 8 8,bv 7 7,bv 6 6,bv 5 5,bv 4 4,bg 3 3,bv 2 10,bv 1 1,bv 0 0]) (.both (.fresh 12 (.post 2 0 (sg 0 [bg 8 8,bv 7 7,bv 6 6,bv 5 5,bv 4 4,bg 3 3,bv 2 10,bv 1 1,bv 0 0]) 12 (.br (.cmp .neq (.var 12) (.lit 0))
 (.ret 0 (sg 9 [bv 9 12]))
 (.fresh 13 (.inv 0 14 (sg 1000 [bt 1003 .dnil,bt 1004 (.lit 0),bt 1002 (.lit 0),bt 1001 (.lit 0),bg 1000 13]) (.fresh 14 (.fresh 15 (.fresh 16 (.fresh 17 (.fresh 18 (.hyp 0 14 (.br (.cmp .lss (.var 18) (.var 0))
 (.pre 3 (sg 0 [bg 7 8,bv 5 7,bv 4 6,bt 6 (.conv .u8 (.var 18)),bv 3 5,bv 2 4,bg 1 3,bv 0 0]) (.both (.fresh 19 (.fresh 20 (.fresh 21 (.fresh 22 (.post 3 0 (sg 0 [bg 7 8,bv 5 7,bv 4 6,bt 6 (.conv .u8 (.var 18)),bv 3 5,bv 2 4,bg 1 3,bv 0 0]) 19 (.need (.cmp .eql (.var 15) (.dlen (.var 17))) (.need (.cmp .leq (.lit 0) (.var 20)) (.need (.cmp .leq (.var 20) (.dlen (.var 22))) (.need (.cmp .leq (.tims (.lit 1) (.plus (.var 15) (.var 20))) (.lit 140737488355328)) (.fresh 23 (.fresh 24 (.back 0 14 (sg 1000 [bt 1003 (.dapp (.var 17) (.dtake (.var 22) (.var 20))),bt 1004 (.arith .add .i64 (.var 18) (.lit 1)),bv 1002 24,bt 1001 (.plus (.var 15) (.var 20)),bg 1000 23]))))))))))))) .top))
 (.know (.cmp .leq (.dlen (.var 17)) (.var 16)) (.need (.cmp .leq (.lit 0) (.var 15)) (.need (.cmp .leq (.lit 0) (.var 16)) (.need (.cmp .leq (.lit 0) (.var 2)) (.need (.cmp .leq (.var 2) (.var 16)) (.ret 1 (sg 9 [bv 11 17,bv 10 16,bg 9 14]))))))))))))))))))) .top))))) .top))))))) .top))
theorem o_join70_eq:treeOf ⟨Tryz.prog,join70C,[sizes29C,len27C,check93C,value94C],[join70I]⟩ 100000 Tryz.f78 = o_join70:=by kernel_rfl
theorem join70_of (hd:∀ c ∈ ([sizes29C,len27C,check93C,value94C]:List Ctr),c.ok Tryz.prog) (h:∀ ρ:Env,ρ.good→(join70C).pre ρ→o_join70.den ⟨Tryz.prog,join70C,[sizes29C,len27C,check93C,value94C],[join70I]⟩ ρ):(join70C).ok Tryz.prog :=
 ok_of_tree Tryz.func78 (fun a w=>Tryz.call78 a w) hd 100000 (fun ρ hg hp=>by rw [o_join70_eq]; exact h ρ hg hp)
end Go.Proofs

set_option linter.unusedSimpArgs false
set_option linter.unusedVariables false
namespace Go.Proofs
open Go Go.Eng
set_option maxRecDepth 100000
theorem join70_ok:join70C.ok Tryz.prog:=join70_of (by simp [sizes29_ok,len27_ok,check93_ok,value94_ok]) fun ρ hg hp=>by
 obtain ⟨hpre,hcap⟩:=hp
 have hpre':=hpre
 obtain ⟨n0,n1,hpc⟩:=hpre'
 simp (config:={ maxSteps:=4000000 }) [o_join70,join70C,join70I,sizes29C,sizes74C,len27C,piece26C,check93C,chkOf,value94C]
 refine fun b _ hb=>⟨fun h=>.inl ⟨.inl (by rw [← hb,h]),rfl⟩,fun h=>⟨fun hi=>.inl ⟨.inr (.inl hi),rfl⟩,fun s0=>⟨fun hi=>.inl ⟨.inr (.inr hi),rfl⟩,fun s1 l _ e0 _ _ hl=>?_⟩⟩⟩
 have hs:sizesB (ρ 0).i (ρ 1).i = true:=by rw [← hb,h]
 obtain ⟨k1,k2,k3⟩:=sizesB_iff.1 hs
 obtain ⟨hl,_⟩:=piece_pl k1 (by omega) s0 s1 hl
 rw [hl]
 refine ⟨⟨k3,n0,n1,hpc⟩,fun e _ he=>⟨fun hne=>.inr ⟨hs,s0,s1,he,hne⟩,fun he0=>?_⟩⟩
 rw [he0] at he
 have hK:decK (ρ 8).h (ρ 6).d (ρ 0).i (ρ 1).i (ρ 2).i (ρ 4).i:=⟨hs,s0,s1,he⟩
 obtain ⟨P,hN⟩:=pcInD hpre hK
 obtain ⟨hd1,hd2,_,_⟩:=dec_len hpre hK s0
 obtain ⟨v1,v2,v3,v4,v5⟩:=P.value
 have hkn:=P.kn
 refine ⟨⟨hK,by omega,fun r hr=>(by cases hr),rfl⟩,fun m _ cp _ d _ i _ _ i0 i1 hm hB hb=>⟨fun hi=>?_,fun hi hcp=>?_⟩⟩
 ·rw [wrapB_in i0 (by omega)]
  refine ⟨⟨k1,by omega,hkn,hcap,n1,v5,v1,v2,v3,v4,⟨i0,by omega⟩⟩,fun a _ x _ ha hx hxB hxe=>?_⟩
  have hdl:d.d.length = i.i.toNat * pcN (ρ 8).h (ρ 6).d 0:=by rw [← bI_len,hb]; exact catN_len fun j _=>val_len
  have hdb:i.i.toNat * pcN (ρ 8).h (ρ 6).d 0 ≤ 255 * 8192:=Nat.mul_le_mul (by omega) hd2
  have e2:arithOf .add .i64 i.i 1 = i.i + 1:=add64 (by omega) (by omega)
  have htk:x.d.take a.i.toNat = x.d:=List.take_of_length_le (by omega)
  rw [e2,htk]
  refine ⟨hm,by omega,by omega,by omega,⟨hK,by omega,by omega,by omega,allB_app hB hxB,?_⟩,by omega⟩
  rw [bI_app,hb,hxe,show (i.i + 1).toNat = i.i.toNat + 1 by omega,catN]
  congr 1
  rw [Int.toNat_of_nonneg i0]
  rfl
 ·have he:i.i = (ρ 0).i:=by omega
  rw [he] at hb
  have hdl:d.d.length = (ρ 0).i.toNat * pcN (ρ 8).h (ρ 6).d 0:=by rw [← bI_len,hb]; exact catN_len fun j _=>val_len
  exact ⟨by omega,by omega,s0,by omega,hK,by omega,allB_take hB,(by rw [bI_take,hb]; rfl),hB⟩
end Go.Proofs

set_option linter.unusedSimpArgs false
set_option linter.unusedVariables false
namespace Go.Eng
open Go Go.Proofs
def sumTC:Ctr:={ sumRC with pre:=fun ρ=>0 ≤ (ρ 1).i∧(ρ 1).i ≤ (ρ 3).d.length∧(ρ 1).i ≤ 1000000000000∧allB (ρ 3).d∧gOk ρ 5 6 gS,alts:=[{ k:=1,ret:=dgV 7,heap:=[],post:=fun ρ=>rowL (ρ 7).d 32 = sha (segB (ρ 3).d 0 (ρ 1).i) }] }
def asmRC:Ctr:={ fn := 23,nv:=18,ip:=[gIs 16],args:=[manV,pcS 10 11 12],heap:=[],ro:=[dgsHp 5 8 9,pcHp 10 13 14,.abs 15 6,gHp 16 17],pre:=fun ρ=>manP ρ 0∧psP (ρ 11).i (ρ 13).d (ρ 15).h∧(ρ 11).i ≤ (ρ 12).i∧gOk ρ 16 17 gS,alts:=[
 { k:=6,ret:=.tup [(false,[.vslice 18 (.lit 0) (.var 19) (.var 20) 1]),eRet (.var 22)],heap:=[bHp 18 21 23],post:=fun ρ=>asmS (mOk ρ 0) (mChk ρ 0 13 15) (ρ 3).i (ρ 22).i (ρ 19).i (asmD ρ 0 13 15) (rowL (ρ 4).d 32) (ρ 21).d }] }
def lawAssemblesC:Ctr:={ fn := 3,nv:=34,ip:=[gIs 30,gIp 32,(1005,7),(1001,9),(1002,9)],args:=[caseArg],heap:=[],ro:=caseRo ++ [gHp 30 31,gHp 32 33],pre:=fun ρ=>caseIn ρ∧gOk ρ 30 31 gS∧gOk ρ 32 33 gR,alts:=[lawTrue] }
end Go.Eng

set_option linter.unusedSimpArgs false
set_option linter.unusedVariables false
set_option maxRecDepth 100000
namespace Go.Proofs
open Go Go.Eng

@[simp] def o_asmR_2:Sg:=sg 0 [bg 8 15,bv 7 14,bv 6 13,bv 5 12,bv 4 11,bg 3 10,bv 2 3,bv 1 2,bv 0 0]
@[simp] def o_asmR_1:Sg:=sg 0 [bv 17 17,bg 15 15,bv 14 14,bv 13 13,bv 9 9,bv 8 8,bv 12 12,bv 11 11,bg 10 10,bv 7 7,bv 6 6,bg 5 5,bv 3 3,bv 2 2,bv 1 1,bv 0 0,bt 4 (r8 4),bg 16 16]
def o_asmR:Out:=(.fresh 18 (.pre 0 (sg 0 [bv 9 9,bv 8 8,bv 7 7,bv 6 6,bg 5 5,bv 3 3,bv 2 2,bv 1 1,bv 0 0,bt 4 (r8 4)]) (.both (.fresh 19 (.post 0 0 (sg 0 [bv 9 9,bv 8 8,bv 7 7,bv 6 6,bg 5 5,bv 3 3,bv 2 2,bv 1 1,bv 0 0,bt 4 (r8 4)]) 19 (.br (.not (.var 19))
 (.ret 0 (sg 18 [bt 23 (.lit 0),bt 21 .dnil,bt 22 (.lit 2),bt 20 (.lit 0),bt 19 (.lit 0),(18,.nil)]))
 (.pre 1 o_asmR_1 (.both (.fresh 20 (.post 1 0 o_asmR_1 20 (.br (.cmp .neq (.var 20) (.lit 0))
 (.ret 0 (sg 18 [bt 23 (.lit 0),bt 21 .dnil,bv 22 20,bt 20 (.lit 0),bt 19 (.lit 0),(18,.nil)]))
 (.pre 2 o_asmR_2 (.both (.fresh 21 (.post 2 0 o_asmR_2 21 (.both (.pre 3 (sg 0 [bv 6 17,bt 4 (.lit 0),bt 3 .dnil,bt 2 (.lit 0),bt 1 (.lit 0),(0,.nil),bg 5 16]) (.both (.fresh 22 (.post 3 0 (sg 0 [bv 6 17,bt 4 (.lit 0),bt 3 .dnil,bt 2 (.lit 0),bt 1 (.lit 0),(0,.nil),bg 5 16]) 22 (.br (.not (.c2 .req (r8 22) (r8 4)))
 (.ret 0 (sg 18 [bt 23 (.lit 0),bt 21 .dnil,bt 22 (.lit 20),bt 20 (.lit 0),bt 19 (.lit 0),(18,.nil)]))
 (.ret 0 (sg 18 [bt 23 (.lit 0),bt 21 .dnil,bt 22 (.lit 0),bt 20 (.lit 0),bt 19 (.lit 0),(18,.nil)]))))) .top)) .top))) (.both (.fresh 21 (.fresh 22 (.fresh 23 (.post 2 1 o_asmR_2 21 (.both (.pre 3 (sg 0 [bv 6 17,bv 4 22,bv 3 23,bv 2 22,bv 1 3,bg 0 21,bg 5 16]) (.both (.fresh 24 (.post 3 0 (sg 0 [bv 6 17,bv 4 22,bv 3 23,bv 2 22,bv 1 3,bg 0 21,bg 5 16]) 24 (.br (.not (.c2 .req (r8 24) (r8 4)))
 (.ret 0 (sg 18 [bt 23 (.lit 0),bt 21 .dnil,bt 22 (.lit 20),bt 20 (.lit 0),bt 19 (.lit 0),(18,.nil)]))
 (.ret 0 (sg 18 [bv 23 22,bv 21 23,bt 22 (.lit 0),bv 20 22,bv 19 3,bg 18 21]))))) .top)) .top))))) .top)))))) .top))))) .top)))
theorem o_asmR_eq:treeOf ⟨Tryz.prog,asmRC,[validC,chksRC,join70C,sumTC],[]⟩ 100000 Tryz.f23 = o_asmR:=by kernel_rfl
theorem asmR_of (hd:∀ c ∈ ([validC,chksRC,join70C,sumTC]:List Ctr),c.ok Tryz.prog) (h:∀ ρ:Env,ρ.good→(asmRC).pre ρ→o_asmR.den ⟨Tryz.prog,asmRC,[validC,chksRC,join70C,sumTC],[]⟩ ρ):(asmRC).ok Tryz.prog :=
 ok_of_tree Tryz.func23 (fun a w=>Tryz.call23 a w) hd 100000 (fun ρ hg hp=>by rw [o_asmR_eq]; exact h ρ hg hp)
@[simp] def o_lawAssembles_5:Sg:=sg 0 [bv 9 24,bv 8 23,bv 7 14,bv 6 13,bg 5 12,bv 3 10,bv 2 9,bv 1 8,bv 0 7,bt 4 (r8 11)]
@[simp] def o_lawAssembles_4:Sg:=sg 0 [bv 17 31,bg 15 29,bv 14 26,bv 13 25,bv 9 24,bv 8 23,bv 12 17,bv 11 16,bg 10 15,bv 7 14,bv 6 13,bg 5 12,bv 3 10,bv 2 9,bv 1 8,bv 0 7,bt 4 (r8 11),bg 16 30]
@[simp] def o_lawAssembles_3:Sg:=sg 0 [bv 19 33,bg 17 44,bv 16 42,bv 15 43,bv 11 39,bv 10 40,bv 1 37,bv 14 42,bv 13 16,bg 12 41,bv 9 39,bv 8 13,bg 7 38,bv 5 10,bv 4 9,bv 3 8,bv 2 7,bt 6 (s8 11),bg 0 36,bg 18 32]
@[simp] def o_lawAssembles_2:Sg:=sg 0 [bv 19 33,bg 17 45,bv 16 43,bv 15 44,bv 11 40,bv 10 41,bv 1 38,bv 14 43,bv 13 16,bg 12 42,bv 9 40,bv 8 13,bg 7 39,bv 5 10,bv 4 9,bv 3 8,bv 2 7,bt 6 (s8 11),bg 0 37,bg 18 32]
@[simp] def o_lawAssembles_1:Sg:=sg 0 [bg 29 29,bv 28 28,bv 27 27,bv 26 26,bv 25 25,bv 24 24,bv 23 23,bv 22 22,bv 21 21,bv 20 20,bv 19 19,bg 18 18,bv 17 17,bv 16 16,bg 15 15,bv 14 14,bv 13 13,bg 12 12,bv 10 10,bv 9 9,bv 8 8,bv 7 7,bv 6 6,bv 5 5,bg 4 4,bv 3 3,bv 2 2,bv 1 1,bv 0 0,bt 11 (r8 11)]
def o_lawAssembles:Out:=(.fresh 34 (.pre 1 o_lawAssembles_1 (.both (.fresh 35 (.post 1 0 o_lawAssembles_1 35 (.br (.var 35)
 (.pre 0 (sg 0 [bv 1 33,bg 0 32]) (.both (.post 0 0 (sg 0 [bv 1 33,bg 0 32]) 36 (.ret 0 (sg 34 []))) .top))
 (.br (.cmp .gtr (.var 7) (.lit 60))
 (.pre 2 o_lawAssembles_5 (.both (.fresh 36 (.post 2 0 o_lawAssembles_5 36 (.br (.var 36)
 (.pre 0 (sg 0 [bv 1 33,bg 0 32]) (.both (.post 0 0 (sg 0 [bv 1 33,bg 0 32]) 37 (.ret 0 (sg 34 []))) .top))
 (.both (.pre 3 (sg 0 []) (.both (.fresh 37 (.fresh 38 (.post 3 0 (sg 0 []) 37 (.both (.pre 4 o_lawAssembles_5 (.both (.fresh 39 (.fresh 40 (.fresh 41 (.post 4 0 o_lawAssembles_5 39 (.both (.pre 5 (sg 0 [bg 5 29,bv 4 26,bv 3 25,bv 2 17,bv 1 16,bg 0 15]) (.both (.fresh 42 (.fresh 43 (.fresh 44 (.fresh 45 (.post 5 0 (sg 0 [bg 5 29,bv 4 26,bv 3 25,bv 2 17,bv 1 16,bg 0 15]) 42 (.both (.know (.cmp .leq (.dlen (.var 41)) (.var 40)) (.know (.cmp .leq (.dlen (.var 44)) (.var 43)) (.pre 6 o_lawAssembles_2 (.both (.fresh 46 (.fresh 47 (.fresh 48 (.fresh 49 (.fresh 50 (.fresh 51 (.fresh 52 (.post 6 0 o_lawAssembles_2 46 (.pre 7 o_lawAssembles_4 (.both (.fresh 53 (.fresh 54 (.fresh 55 (.fresh 56 (.fresh 57 (.fresh 58 (.post 7 0 o_lawAssembles_4 53 (.br (.cmp .eql (.var 50) (.var 57))
 (.need (.cmp .leq (.lit 0) (.var 47)) (.need (.cmp .leq (.var 47) (.dlen (.var 49))) (.need (.cmp .leq (.lit 0) (.var 54)) (.need (.cmp .leq (.var 54) (.dlen (.var 56))) (.br (.c2 .veq (.c1 .vbytes (.dtake (.var 49) (.var 47))) (.c1 .vbytes (.dtake (.var 56) (.var 54))))
 (.pre 0 (sg 0 [bv 1 33,bg 0 32]) (.both (.post 0 0 (sg 0 [bv 1 33,bg 0 32]) 59 (.ret 0 (sg 34 []))) .top))
 (.stuck 7 0 0))))))
 (.stuck 7 0 0))))))))) .top)))))))))) .top)))) .top)))))) .top)) .top))))) .top)) .top)))) .top)) .top)))) .top))
 (.both (.pre 3 (sg 0 []) (.both (.fresh 36 (.fresh 37 (.post 3 0 (sg 0 []) 36 (.both (.pre 4 o_lawAssembles_5 (.both (.fresh 38 (.fresh 39 (.fresh 40 (.post 4 0 o_lawAssembles_5 38 (.both (.pre 5 (sg 0 [bg 5 29,bv 4 26,bv 3 25,bv 2 17,bv 1 16,bg 0 15]) (.both (.fresh 41 (.fresh 42 (.fresh 43 (.fresh 44 (.post 5 0 (sg 0 [bg 5 29,bv 4 26,bv 3 25,bv 2 17,bv 1 16,bg 0 15]) 41 (.both (.know (.cmp .leq (.dlen (.var 40)) (.var 39)) (.know (.cmp .leq (.dlen (.var 43)) (.var 42)) (.pre 6 o_lawAssembles_3 (.both (.fresh 45 (.fresh 46 (.fresh 47 (.fresh 48 (.fresh 49 (.fresh 50 (.fresh 51 (.post 6 0 o_lawAssembles_3 45 (.pre 7 o_lawAssembles_4 (.both (.fresh 52 (.fresh 53 (.fresh 54 (.fresh 55 (.fresh 56 (.fresh 57 (.post 7 0 o_lawAssembles_4 52 (.br (.cmp .eql (.var 49) (.var 56))
 (.need (.cmp .leq (.lit 0) (.var 46)) (.need (.cmp .leq (.var 46) (.dlen (.var 48))) (.need (.cmp .leq (.lit 0) (.var 53)) (.need (.cmp .leq (.var 53) (.dlen (.var 55))) (.br (.c2 .veq (.c1 .vbytes (.dtake (.var 48) (.var 46))) (.c1 .vbytes (.dtake (.var 55) (.var 53))))
 (.pre 0 (sg 0 [bv 1 33,bg 0 32]) (.both (.post 0 0 (sg 0 [bv 1 33,bg 0 32]) 58 (.ret 0 (sg 34 []))) .top))
 (.stuck 7 0 0))))))
 (.stuck 7 0 0))))))))) .top)))))))))) .top)))) .top)))))) .top)) .top))))) .top)) .top)))) .top)) .top))))) .top)))
theorem o_lawAssembles_eq:treeOf ⟨Tryz.prog,lawAssemblesC,[knownC,largeC,validC,newFieldC,ownC,mineC,asmC,asmRC],[]⟩ 100000 Tryz.f3 = o_lawAssembles:=by kernel_rfl
theorem lawAssembles_of (hd:∀ c ∈ ([knownC,largeC,validC,newFieldC,ownC,mineC,asmC,asmRC]:List Ctr),c.ok Tryz.prog) (h:∀ ρ:Env,ρ.good→(lawAssemblesC).pre ρ→o_lawAssembles.den ⟨Tryz.prog,lawAssemblesC,[knownC,largeC,validC,newFieldC,ownC,mineC,asmC,asmRC],[]⟩ ρ):(lawAssemblesC).ok Tryz.prog :=
 ok_of_tree Tryz.func3 (fun a w=>Tryz.call3 a w) hd 100000 (fun ρ hg hp=>by rw [o_lawAssembles_eq]; exact h ρ hg hp)
end Go.Proofs

set_option linter.unusedSimpArgs false
set_option linter.unusedVariables false
namespace Go.Proofs
open Go Go.Eng
theorem rows_take {c:Array Value} {o n:Nat} {pat:List CK} {d:Rows'} (h:rowsAt c o pat d):rowsAt c o pat (d.take n):=fun i row hi=>by
 rw [List.getElem?_take] at hi
 split at hi
 ·exact h i row hi
 ·cases hi
theorem sumT_ok:sumTC.ok Tryz.prog:=by
 refine ⟨sumR_ok.1,fun ρ w hF hO hg hd hw hs hro hp=>?_⟩
 obtain ⟨n0,n1,n2,hB,hG⟩:=hp
 let u:U:={ ρ 3 with d:=(ρ 3).d.take (ρ 1).i.toNat }
 have hu:∀ n,n ≠ 3→(ρ.set 3 u) n = ρ n:=fun n hn=>Env.set_ne ρ u hn
 have h3:(ρ.set 3 u) 3 = u:=Env.set_same ρ 3 u
 have hl:((ρ 3).d.take (ρ 1).i.toNat).length = (ρ 1).i.toNat:=by rw [List.length_take]; omega
 have hgood:(ρ.set 3 u).good:=fun n=>by
  by_cases hn:n = 3
  ·subst hn; rw [h3]; exact ⟨(hg 3).1,fun row hr=>(hg 3).2 row (List.mem_of_mem_take hr)⟩
  ·rw [hu n hn]; exact hg n
 have hro':∀ x ∈ sumRC.ro,x.roden (ρ.set 3 u) hF:=by
  intro x hx
  simp only [sumRC,bSHp,bHp,gHp,List.mem_cons,List.not_mem_nil,or_false] at hx
  rcases hx with rfl | rfl
  ·rcases hro _ (show SH.arr 0 _ kB (.var 3) (.var 4) ∈ sumTC.ro from List.mem_cons_self ..) with h | ⟨b,o,c,ty,fr,h1,h2,h3'⟩
   ·left
    show u.d = []
    have h:(ρ 3).d = []:=h
    show (ρ 3).d.take _ = []
    rw [h,List.take_nil]
   ·exact .inr ⟨b,o,c,ty,fr,h1,h2,rows_take h3'⟩
  ·exact hro _ (List.mem_cons_of_mem _ (List.mem_cons_self ..))
 have hd1:(sumRC.args.map (SV.den (ρ.set 3 u))).toArray = (sumTC.args.map (SV.den ρ)).toArray:=rfl
 have hp':sumRC.pre (ρ.set 3 u):=⟨by show (ρ 1).i = (((ρ 3).d.take (ρ 1).i.toNat).length:Int); rw [hl]; omega,n2,allB_take hB,hG⟩
 have hm:=sumR_ok.2 (ρ.set 3 u) w hF hO hgood hd hw hs hro' hp'
 rw [hd1] at hm
 refine hm.mono fun e w' h=>?_
 obtain ⟨ai,al,ρ',h1,h2,h4,h5,h6,h7⟩:=h
 match ai,h1 with
 | 0,h1 =>
  obtain rfl:=(Option.some.inj h1).symm
  have e3:ρ' 3 = u:=(h4 3 (by decide)).trans h3
  have en:∀ n,n ≠ 3→(ρ'.set 3 (ρ 3)) n = ρ' n:=fun n hn=>Env.set_ne ρ' (ρ 3) hn
  refine ⟨0,_,ρ'.set 3 (ρ 3),rfl,fun n=>?_,fun n hn=>?_,?_,?_,h7⟩
  ·by_cases hn:n = 3
   ·subst hn; rw [Env.set_same]; exact hg 3
   ·rw [en n hn]; exact h2 n
  ·by_cases hn3:n = 3
   ·subst hn3; exact Env.set_same ..
   ·rw [en n hn3,h4 n hn,hu n hn3]
  ·rw [h5]
   congr 1
  ·have h6:rowL (ρ' 7).d 32 = sha (bI (ρ' 3).d):=h6
   show rowL (ρ' 7).d 32 = sha (segB (ρ 3).d 0 (ρ' 1).i)
   rw [h6,e3,h4 1 (by decide),hu 1 (by decide)]
   show sha (bI ((ρ 3).d.take (ρ 1).i.toNat)) = _
   rw [bI_take]; rfl
 | ai + 1,h1=>simp [sumRC] at h1
set_option maxRecDepth 20000
set_option maxHeartbeats 1000000 in
theorem asmR_ok:asmRC.ok Tryz.prog:=asmR_of (by simp [valid_ok,chksR_ok,join70_ok,sumT_ok]) fun ρ hg hp=>by
 obtain ⟨⟨m0,m1,m2,m3,hl,hD⟩,⟨⟨p0,p1,hpc⟩,hn,h9⟩,hc,⟨hGr,hGd⟩⟩:=hp
 simp only [Nat.reduceAdd] at m0 m1 m2 m3 hl hD p0 p1 hpc hn h9
 simp (config:={ maxSteps:=4000000 }) [o_asmR,asmRC,validC,chksRC,chksAlts,chksPre,manP,psP,join70C,sumTC,sumRC,pcPre,manV,manT,manO,cellsT,gOk,mF,mChk,mOk,asmD,hGr,hGd,hD,hl,m0,m1,m2,m3,p0,p1,hpc,hc]
 cases hM:manOk (ρ 0).i (ρ 1).i (ρ 2).i (ρ 3).i ((ρ 8).d.length:Int)
 ·intro u2 _ hu2
  exact ⟨fun _=>asmS_e (outR_man rfl) (by decide),fun h=>(by rw [hu2] at h; cases h)⟩
 ·intro u2 _ hu2
  refine ⟨fun h=>(by rw [hu2] at h; cases h),fun _=>⟨⟨hn,h9⟩,fun u3 _ hC=>⟨fun hne=>asmS_e (outR_chk rfl hC hne) hne,fun h0=>?_⟩⟩⟩
  rw [h0] at hC
  have hK:=chks_dec hC hM hn
  obtain ⟨k1,k2,k3,k4,s0,s1,htl⟩:=manOk_iff.1 hM
  refine ⟨fun u4 _ hE=>(dec_bad hK hE).elim,fun d _ _ hsz hB hb hBB=>⟨⟨s0,hsz,by omega,hBB⟩,fun u10 _ hs=>?_⟩⟩
  have hsg:segB d.d 0 (ρ 3).i = bI (d.d.take (ρ 3).i.toNat):=by rw [bI_take]; rfl
  rw [hs,hsg,hb]
  exact ⟨fun h=>asmS_e (outR_sum rfl hC h) (by decide),fun h=>asmS_ok (outR_ok rfl hC h) s0 hsz hBB hb⟩
theorem decL_congr {h h':Hp} {D D':Rows'} {k:Nat} (H:∀ j,j < k→pcI D j = pcI D' j∧pcD h D j = pcD h' D' j):decL h D k = decL h' D' k :=
 catN_congr fun j hj=>valLr_congr (by omega) H
theorem asm_same {k n t s l e m e' m':Int} {h h0:Hp} {P P0 G G0 R R':Rows'} {O:List Int} {N N':Nat}
  (a:asmS (manOk k n t s l) (chksP (chkF k n t s l (dgs G) h P) (pcI P) P.length k) s e m ((decL h P k.toNat).take s.toNat) O R)
  (b:asmS (manOk k n t s l) (chksP (chkF k n t s l (dgs G0) h0 P0) (pcI P0) P0.length k) s e' m' ((decL h0 P0 k.toNat).take s.toNat) O R')
  (hG:G = G0) (hs:samePc h h0 P P0 N N') (hN:N = P0.length) (hl:P.length = P0.length):e = e'∧bytesOf (R.take m.toNat) = bytesOf (R'.take m'.toNat):=by
 subst hG
 subst hN
 rw [hl] at a
 have hc:∀ j,j < P0.length→chkF k n t s l (dgs G) h P j = chkF k n t s l (dgs G) h0 P0 j∧pcI P j = pcI P0 j:=fun j hj=>⟨chkF_congr (hs.2 j hj),(hs.2 j hj).1⟩
 have hd:chksP (chkF k n t s l (dgs G) h P) (pcI P) P0.length k 0→decL h P k.toNat = decL h0 P0 k.toNat:=fun h0'=>by
  have:=(chks_zero h0').2
  exact decL_congr fun j hj=>hs.2 j (by omega)
 have he:=outR_uniq (fun _ _ c1 c2=>chks_uniq (chks_congr hc c1) c2) (fun _ h0'=>by rw [hd h0']) a.1 b.1
 refine ⟨he,?_⟩
 obtain ⟨a0,⟨a1,a2,a3⟩ | ⟨a1,a2,a3,a4,a5,a6⟩⟩:=a <;> obtain ⟨_,⟨b1,b2,b3⟩ | ⟨b1,b2,b3,b4,b5,b6⟩⟩:=b
 ·rw [a3,b3]; simp
 ·omega
 ·omega
 ·subst a1
  rw [bytesOf_eq,bytesOf_eq,a6,b6,hd (outR_zero a0).2.1]
set_option maxRecDepth 100000
set_option maxHeartbeats 4000000 in
theorem lawAssembles_ok:lawAssemblesC.ok Tryz.prog:=lawAssembles_of (by simp [known_ok,large_ok,valid_ok,newField_ok,own_ok,mine_ok,asm_ok,asmR_ok]) fun ρ hg hp=>by
 obtain ⟨⟨ik,i1,i2,i3,mk,m1,m2,m3,⟨dl,dl1,dB,dc⟩,hO,⟨ml,ml1,mD,mc⟩,⟨pl,pl1,pc,pok⟩,bl,bl1⟩,⟨hSr,hSd⟩,hGr,hGd⟩:=hp
 simp (config:={ maxSteps:=4000000 }) [o_lawAssembles,lawAssemblesC,lawTrue,knownC,largeC,validC,newFieldC,ownC,mineC,asmC,asmRC,manP,psP,pcPre,manV,manT,cellsT,gOk,mOk,mChk,mF,asmD,smallCase,caseIn,manO,vStr_mk,hSr,hSd,hGr,hGd,dl,dB,hO]
 have pk:pcOk (ρ 29).h (ρ 25).d (ρ 16).i.toNat:=by rw [pl]; simpa using pok
 refine ⟨⟨ik,i1,i2,i3,mk,m1,m2,m3,⟨rfl,dl ▸ dl1,dB,dl ▸ dc⟩,hO,⟨ml,ml1,mD,mc⟩,⟨pl,pl1,pc,pok⟩,bl,bl1⟩,fun u _ hsm hb=>?_⟩
 obtain ⟨s1,s2,s3,s4,s5⟩:=hsm hb
 repeat' (first | with_reducible apply And.intro | with_reducible intro _)
 all_goals first
  | assumption
  | omega
  | exact .inl (by assumption)
  | exact (asmS_n (by assumption)).1
  | exact (asmS_n (by assumption)).2.1
  | exact (asm_same (by assumption) (by assumption) (by assumption) (by assumption) rfl (by assumption)).1
  | exact (asm_same (by assumption) (by assumption) (by assumption) (by assumption) rfl (by assumption)).2
  | exact len_eq ml (by assumption)
  | exact dgs_eq mD (by assumption)
  | exact pc_len9 (by assumption) s5 (by assumption) rfl (by assumption)
  | exact (by rw [show (ρ 16).i.toNat = (ρ 25).d.length by omega]; assumption)
  | exact s5 _ (by assumption)
end Go.Proofs
