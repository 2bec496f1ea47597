/- Texts VU, WF, VV, WA, WE, VX, VY, WG, WH, WI, WN, CV, CX, WO, WQ, CY, E13, E14, FB, FC, FD, FE, FF, FG, PF, PH, PL, PO, PR, PS, QA, QF, PG, PI, PJ. -/
import Derived.Test.YtelcnkclppkicaaGreatDoorG7
import Derived.Test.YtelcnkclppkicaaGreatDoorProg
import Derived.Test.YtelcnkclppkicaaGreatDoorG5
import Derived.Test.YtelcnkclppkicaaGreatDoorG4
import Derived.WalkKit
import Derived.ProofKit
import Derived.OpenShut
import Derived.Carry
import Derived.SizedLaws
import Derived.WalkCall
import Derived.Laws.Externs
import Derived.Lib.Bytealg
import Derived.Lib.BytesEntry
set_option linter.unusedSimpArgs false
set_option linter.unusedVariables false
set_option maxRecDepth 100000
namespace Go.Proofs
open Go Go.Eng

@[simp] def qnO:Out:=.back 0 10 (sg 1000 [bt 1002 (.c3 (.xput 0) (.var 12) (.icell (.var 6) (.var 10) 0) (.vbool (.bl true))),bt 1000 (.arith .add .i64 (.var 10) (.lit 1)),bg 1001 11])
def qmj:Out:=(.fresh 9 (.need (.cmp .leq (.lit 0) (.var 4)) (.inv 0 10 (sg 1000 [bt 1002 (.rcons (.vbool (.bl false)) (.rcons (.vbool (.bl false)) (.rcons (.vbool (.bl false)) (.rcons (.vbool (.bl false)) (.rcons (.vbool (.bl false)) (.rcons (.vbool (.bl false)) (.rcons (.vbool (.bl false)) (.rcons (.vbool (.bl false)) (.rcons (.vbool (.bl false)) (.rcons (.vbool (.bl false)) (.rcons (.vbool (.bl false)) (.rcons (.vbool (.bl false)) (.rcons (.vbool (.bl false)) (.rcons (.vbool (.bl false)) (.rcons (.vbool (.bl false)) (.rcons (.vbool (.bl false)) (.rcons (.vbool (.bl false)) (.rcons (.vbool (.bl false)) (.rcons (.vbool (.bl false)) (.rcons (.vbool (.bl false)) (.rcons (.vbool (.bl false)) (.rcons (.vbool (.bl false)) (.rcons (.vbool (.bl false)) (.rcons (.vbool (.bl false)) (.rcons (.vbool (.bl false)) (.rcons (.vbool (.bl false)) (.rcons (.vbool (.bl false)) (.rcons (.vbool (.bl false)) (.rcons (.vbool (.bl false)) (.rcons (.vbool (.bl false)) (.rcons (.vbool (.bl false)) (.rcons (.vbool (.bl false)) (.rcons (.vbool (.bl false)) (.rcons (.vbool (.bl false)) (.rcons (.vbool (.bl false)) (.rcons (.vbool (.bl false)) (.rcons (.vbool (.bl false)) (.rcons (.vbool (.bl false)) (.rcons (.vbool (.bl false)) (.rcons (.vbool (.bl false)) (.rcons (.vbool (.bl false)) (.rcons (.vbool (.bl false)) (.rcons (.vbool (.bl false)) (.rcons (.vbool (.bl false)) (.rcons (.vbool (.bl false)) (.rcons (.vbool (.bl false)) (.rcons (.vbool (.bl false)) (.rcons (.vbool (.bl false)) (.rcons (.vbool (.bl false)) (.rcons (.vbool (.bl false)) (.rcons (.vbool (.bl false)) (.rcons (.vbool (.bl false)) (.rcons (.vbool (.bl false)) (.rcons (.vbool (.bl false)) (.rcons (.vbool (.bl false)) (.rcons (.vbool (.bl false)) (.rcons (.vbool (.bl false)) (.rcons (.vbool (.bl false)) (.rcons (.vbool (.bl false)) (.rcons (.vbool (.bl false)) (.rcons (.vbool (.bl false)) (.rcons (.vbool (.bl false)) (.rcons (.vbool (.bl false)) (.rcons (.vbool (.bl false)) (.rcons (.vbool (.bl false)) (.rcons (.vbool (.bl false)) (.rcons (.vbool (.bl false)) (.rcons (.vbool (.bl false)) (.rcons (.vbool (.bl false)) (.rcons (.vbool (.bl false)) (.rcons (.vbool (.bl false)) (.rcons (.vbool (.bl false)) (.rcons (.vbool (.bl false)) (.rcons (.vbool (.bl false)) (.rcons (.vbool (.bl false)) (.rcons (.vbool (.bl false)) (.rcons (.vbool (.bl false)) (.rcons (.vbool (.bl false)) (.rcons (.vbool (.bl false)) (.rcons (.vbool (.bl false)) (.rcons (.vbool (.bl false)) (.rcons (.vbool (.bl false)) (.rcons (.vbool (.bl false)) (.rcons (.vbool (.bl false)) (.rcons (.vbool (.bl false)) (.rcons (.vbool (.bl false)) (.rcons (.vbool (.bl false)) (.rcons (.vbool (.bl false)) (.rcons (.vbool (.bl false)) (.rcons (.vbool (.bl false)) (.rcons (.vbool (.bl false)) (.rcons (.vbool (.bl false)) (.rcons (.vbool (.bl false)) (.rcons (.vbool (.bl false)) (.rcons (.vbool (.bl false)) (.rcons (.vbool (.bl false)) (.rcons (.vbool (.bl false)) (.rcons (.vbool (.bl false)) (.rcons (.vbool (.bl false)) (.rcons (.vbool (.bl false)) (.rcons (.vbool (.bl false)) (.rcons (.vbool (.bl false)) (.rcons (.vbool (.bl false)) (.rcons (.vbool (.bl false)) (.rcons (.vbool (.bl false)) (.rcons (.vbool (.bl false)) (.rcons (.vbool (.bl false)) (.rcons (.vbool (.bl false)) (.rcons (.vbool (.bl false)) (.rcons (.vbool (.bl false)) (.rcons (.vbool (.bl false)) (.rcons (.vbool (.bl false)) (.rcons (.vbool (.bl false)) (.rcons (.vbool (.bl false)) (.rcons (.vbool (.bl false)) (.rcons (.vbool (.bl false)) (.rcons (.vbool (.bl false)) (.rcons (.vbool (.bl false)) (.rcons (.vbool (.bl false)) (.rcons (.vbool (.bl false)) (.rcons (.vbool (.bl false)) (.rcons (.vbool (.bl false)) (.rcons (.vbool (.bl false)) (.rcons (.vbool (.bl false)) (.rcons (.vbool (.bl false)) (.rcons (.vbool (.bl false)) (.rcons (.vbool (.bl false)) (.rcons (.vbool (.bl false)) (.rcons (.vbool (.bl false)) (.rcons (.vbool (.bl false)) (.rcons (.vbool (.bl false)) (.rcons (.vbool (.bl false)) (.rcons (.vbool (.bl false)) (.rcons (.vbool (.bl false)) (.rcons (.vbool (.bl false)) (.rcons (.vbool (.bl false)) (.rcons (.vbool (.bl false)) (.rcons (.vbool (.bl false)) (.rcons (.vbool (.bl false)) (.rcons (.vbool (.bl false)) (.rcons (.vbool (.bl false)) (.rcons (.vbool (.bl false)) (.rcons (.vbool (.bl false)) (.rcons (.vbool (.bl false)) (.rcons (.vbool (.bl false)) (.rcons (.vbool (.bl false)) (.rcons (.vbool (.bl false)) (.rcons (.vbool (.bl false)) (.rcons (.vbool (.bl false)) (.rcons (.vbool (.bl false)) (.rcons (.vbool (.bl false)) (.rcons (.vbool (.bl false)) (.rcons (.vbool (.bl false)) (.rcons (.vbool (.bl false)) (.rcons (.vbool (.bl false)) (.rcons (.vbool (.bl false)) (.rcons (.vbool (.bl false)) (.rcons (.vbool (.bl false)) (.rcons (.vbool (.bl false)) (.rcons (.vbool (.bl false)) (.rcons (.vbool (.bl false)) (.rcons (.vbool (.bl false)) (.rcons (.vbool (.bl false)) (.rcons (.vbool (.bl false)) (.rcons (.vbool (.bl false)) (.rcons (.vbool (.bl false)) (.rcons (.vbool (.bl false)) (.rcons (.vbool (.bl false)) (.rcons (.vbool (.bl false)) (.rcons (.vbool (.bl false)) (.rcons (.vbool (.bl false)) (.rcons (.vbool (.bl false)) (.rcons (.vbool (.bl false)) (.rcons (.vbool (.bl false)) (.rcons (.vbool (.bl false)) (.rcons (.vbool (.bl false)) (.rcons (.vbool (.bl false)) (.rcons (.vbool (.bl false)) (.rcons (.vbool (.bl false)) (.rcons (.vbool (.bl false)) (.rcons (.vbool (.bl false)) (.rcons (.vbool (.bl false)) (.rcons (.vbool (.bl false)) (.rcons (.vbool (.bl false)) (.rcons (.vbool (.bl false)) (.rcons (.vbool (.bl false)) (.rcons (.vbool (.bl false)) (.rcons (.vbool (.bl false)) (.rcons (.vbool (.bl false)) (.rcons (.vbool (.bl false)) (.rcons (.vbool (.bl false)) (.rcons (.vbool (.bl false)) (.rcons (.vbool (.bl false)) (.rcons (.vbool (.bl false)) (.rcons (.vbool (.bl false)) (.rcons (.vbool (.bl false)) (.rcons (.vbool (.bl false)) (.rcons (.vbool (.bl false)) (.rcons (.vbool (.bl false)) (.rcons (.vbool (.bl false)) (.rcons (.vbool (.bl false)) (.rcons (.vbool (.bl false)) (.rcons (.vbool (.bl false)) (.rcons (.vbool (.bl false)) (.rcons (.vbool (.bl false)) (.rcons (.vbool (.bl false)) (.rcons (.vbool (.bl false)) (.rcons (.vbool (.bl false)) (.rcons (.vbool (.bl false)) (.rcons (.vbool (.bl false)) (.rcons (.vbool (.bl false)) (.rcons (.vbool (.bl false)) (.rcons (.vbool (.bl false)) (.rcons (.vbool (.bl false)) (.rcons (.vbool (.bl false)) (.rcons (.vbool (.bl false)) (.rcons (.vbool (.bl false)) (.rcons (.vbool (.bl false)) (.rcons (.vbool (.bl false)) (.rcons (.vbool (.bl false)) (.rcons (.vbool (.bl false)) (.rcons (.vbool (.bl false)) (.rcons (.vbool (.bl false)) (.rcons (.vbool (.bl false)) (.rcons (.vbool (.bl false)) (.rcons (.vbool (.bl false)) (.rcons (.vbool (.bl false)) (.rcons (.vbool (.bl false)) (.rcons (.vbool (.bl false)) (.rcons (.vbool (.bl false)) (.rcons (.vbool (.bl false)) (.rcons (.vbool (.bl false)) (.rcons (.vbool (.bl false)) (.rcons (.vbool (.bl false)) (.rcons (.vbool (.bl false)) (.rcons (.vbool (.bl false)) (.rcons (.vbool (.bl false)) (.rcons (.vbool (.bl false)) (.rcons (.vbool (.bl false)) (.rcons (.vbool (.bl false)) (.rcons (.vbool (.bl false)) (.rcons (.vbool (.bl false)) (.rcons (.vbool (.bl false)) (.rcons (.vbool (.bl false)) (.rcons (.vbool (.bl false)) (.rcons (.vbool (.bl false)) (.rcons (.vbool (.bl false)) (.rcons (.vbool (.bl false)) (.rcons (.vbool (.bl false)) (.rcons (.vbool (.bl false)) (.rcons (.vbool (.bl false)) (.rcons (.vbool (.bl false)) (.rcons (.vbool (.bl false)) (.rcons (.vbool (.bl false)) (.rcons (.vbool (.bl false)) .rnil))))))))))))))))))))))))))))))))))))))))))))))))))))))))))))))))))))))))))))))))))))))))))))))))))))))))))))))))))))))))))))))))))))))))))))))))))))))))))))))))))))))))))))))))))))))))))))))))))))))))))))))))))))))))))))))))))))))))))))))))))))))))))))))),bt 1000 (.lit 0),bg 1001 9]) (.fresh 10 (.fresh 11 (.fresh 12 (.hyp 0 10 (.br (.cmp .lss (.var 10) (.var 4))
 (.need (.cmp .leq (.lit 0) (.var 10)) (.need (.cmp .lss (.var 10) (.dlen (.var 6))) (.fresh 13 (.br (.cmp .lss (.icell (.var 6) (.var 10) 0) (.lit 0))
 (.ret 0 (sg 9 [bt 9 (.lit 2)]))
 (.br (.cmp .geq (.icell (.var 6) (.var 10) 0) (.var 1))
 (.ret 0 (sg 9 [bt 9 (.lit 2)]))
 (.need (.cmp .leq (.lit 0) (.icell (.var 6) (.var 10) 0)) (.need (.cmp .lss (.icell (.var 6) (.var 10) 0) (.lit 255)) (.need (.cmp .lss (.lit 0) (.dlen (.var 12))) (.br (.c2 (.xbool 0) (.var 12) (.icell (.var 6) (.var 10) 0))
 (.ret 0 (sg 9 [bt 9 (.lit 7)]))
 (.br (.cmp .lss (.var 2) (.lit 0))
 (.view (.vcell (.var 6) (.var 10) 1) [CK.int .u8] [8] 14 (.br (.cmp .gtr (.dlen (.var 16)) (.lit 8192))
 (.ret 0 (sg 9 [bt 9 (.lit 3)]))
 (.need (.cmp .lss (.lit 0) (.var 4)) (.need (.cmp .lss (.lit 0) (.dlen (.var 6))) (.view (.vcell (.var 6) (.lit 0) 1) [CK.int .u8] [8] 17 (.view (.vcell (.var 6) (.var 10) 1) [CK.int .u8] [8] 20 (.br (.cmp .neq (.dlen (.var 22)) (.dlen (.var 19)))
 (.ret 0 (sg 9 [bt 9 (.lit 10)]))
 qnO)))))))
 (.view (.vcell (.var 6) (.var 10) 1) [CK.int .u8] [8] 14 (.br (.cmp .neq (.dlen (.var 16)) (.var 2))
 (.ret 0 (sg 9 [bt 9 (.lit 10)]))
 qnO))))))))))))
 (.br (.cmp .lss (.var 4) (.var 0))
 (.ret 0 (sg 9 [bt 9 (.lit 12)]))
 (.ret 0 (sg 9 [bt 9 (.lit 0)])))))))))))
theorem qvZ:qj ⟨Tryz.prog,qb3,[],[qoX]⟩ 100000 Tryz.f110 = qmj:=by kernel_rfl
theorem q06 (hd:∀ c ∈ ([]:List Ctr),c.ok Tryz.prog) (h:∀ ρ:Env,ρ.good->(qb3).pre ρ->qmj.den ⟨Tryz.prog,qb3,[],[qoX]⟩ ρ):(qb3).ok Tryz.prog :=
 qf Tryz.func110 (fun a w=>Tryz.call110 a w) hd 100000 (fun ρ hg hp=>by rw [qvZ]; exact h ρ hg hp)
def qou:Out:=(.br (.cmp .eql (.var 4) (.lit 0))
 (.ret 0 (sg 7 [bg 8 5,bv 7 1]))
 (.viewL (.var 3) [CK.int .u8] [6] 7 (.inv 0 10 (sg 1000 [bg 1003 5,bv 1001 1,bt 1000 (.lit 0),bt 1002 (.dlen (.var 9)),bt 1004 (.vslice 7 (.lit 0) (.dlen (.var 9)) (.var 8) 1)]) (.fresh 10 (.fresh 11 (.fresh 12 (.fresh 13 (.fresh 14 (.hyp 0 10 (.br (.cmp .lss (.var 10) (.var 12))
 (.viewL (.var 14) [CK.int .u8] [6] 15 (.need (.cmp .leq (.lit 0) (.var 10)) (.need (.cmp .lss (.var 10) (.dlen (.var 17))) (.both (.viewL (.var 2) [CK.int .u8] [13] 18 (.need (.cmp .lss (.var 10) (.dlen (.var 20))) (.both (.pre 0 (sg 0 [bv 1 11,bt 3 (.icell (.var 17) (.var 10) 0),bv 2 4,bg 0 0]) (.both (.fresh 21 (.fresh 22 (.post 0 0 (sg 0 [bv 1 11,bt 3 (.icell (.var 17) (.var 10) 0),bv 2 4,bg 0 0]) 21 (.both (.put 13 18 [CK.int .u8] (.var 20) (.var 10) 0 [(.vint .u8 (.arith .xor .u8 (.icell (.var 20) (.var 10) 0) (.var 21)))] 23 (.back 0 10 (sg 1000 [bg 1003 23,bv 1001 22,bt 1000 (.arith .add .i64 (.var 10) (.lit 1)),bv 1002 12,bt 1004 (.vslice 15 (.lit 0) (.dlen (.var 17)) (.var 16) 1)]))) .top)))) .top)) .top))) (.both (.pre 0 (sg 0 [bv 1 11,bt 3 (.icell (.var 17) (.var 10) 0),bv 2 4,bg 0 0]) (.both (.fresh 18 (.fresh 19 (.post 0 0 (sg 0 [bv 1 11,bt 3 (.icell (.var 17) (.var 10) 0),bv 2 4,bg 0 0]) 18 (.both (.viewL (.var 2) [CK.int .u8] [13] 20 (.need (.cmp .lss (.var 10) (.dlen (.var 22))) (.both (.put 13 20 [CK.int .u8] (.var 22) (.var 10) 0 [(.vint .u8 (.arith .xor .u8 (.icell (.var 22) (.var 10) 0) (.var 18)))] 23 (.back 0 10 (sg 1000 [bg 1003 23,bv 1001 19,bt 1000 (.arith .add .i64 (.var 10) (.lit 1)),bv 1002 12,bt 1004 (.vslice 15 (.lit 0) (.dlen (.var 17)) (.var 16) 1)]))) .top))) .top)))) .top)) .top)))))
 (.ret 0 (sg 7 [bg 8 13,bv 7 11]))))))))))))
theorem qyt:qj ⟨Tryz.prog,qfq,[qcA],[qsl]⟩ 100000 Tryz.f124 = qou:=by kernel_rfl
theorem q3D (hd:∀ c ∈ ([qcA]:List Ctr),c.ok Tryz.prog) (h:∀ ρ:Env,ρ.good->(qfq).pre ρ->qou.den ⟨Tryz.prog,qfq,[qcA],[qsl]⟩ ρ):(qfq).ok Tryz.prog :=
 qf Tryz.func124 (fun a w=>Tryz.call124 a w) hd 100000 (fun ρ hg hp=>by rw [qyt]; exact h ρ hg hp)
@[simp] def qlx:Sg:=sg 0 [bv 13 25,bv 12 26,bv 7 20,bv 6 21,bv 1 23,bt 14 (.icell (.var 11) (.plus (.var 8) (.var 22)) 0),bv 11 25,bt 10 (.dlen (.var 26)),bt 9 (.lit 0),bg 8 24,bv 5 20,bv 4 19,bt 3 (.lit 0),bg 2 18,bg 0 0]
def qj1:Out:=(.need (.cmp .lss (.lit 0) (.var 3)) (.need (.cmp .lss (.lit 0) (.dlen (.var 5))) (.view (.vcell (.var 5) (.lit 0) 0) [CK.int .u8] [13] 14 (.need (.cmp .leq (.tims (.lit 1) (.dlen (.var 16))) (.lit 281474976710656)) (.fresh 17 (.need (.cmp .leq (.lit 0) (.var 9)) (.inv 0 18 (sg 1000 [bt 1003 (.drep (.dlen (.var 16)) (.rcons (.vint .u8 (.lit 0)) .rnil)),bv 1005 1,bt 1004 (.lit 0),bt 1002 (.dlen (.var 16)),bt 1001 (.dlen (.var 16)),bg 1000 17]) (.fresh 18 (.fresh 19 (.fresh 20 (.fresh 21 (.fresh 22 (.fresh 23 (.hyp 0 18 (.br (.cmp .lss (.var 22) (.var 9))
 (.need (.cmp .leq (.lit 0) (.var 22)) (.need (.cmp .leq (.lit 0) (.var 8)) (.need (.cmp .leq (.lit 0) (.plus (.var 8) (.var 22))) (.need (.cmp .lss (.plus (.var 8) (.var 22)) (.dlen (.var 11))) (.need (.cmp .lss (.var 22) (.var 3)) (.need (.cmp .lss (.var 22) (.dlen (.var 5))) (.view (.vcell (.var 5) (.var 22) 0) [CK.int .u8] [13] 24 (.pre 0 qlx (.both (.fresh 27 (.fresh 28 (.post 0 0 qlx 27 (.back 0 18 (sg 1000 [bv 1003 28,bv 1005 27,bt 1004 (.arith .add .i64 (.var 22) (.lit 1)),bv 1002 20,bv 1001 19,bg 1000 18]))))) .top)))))))))
 (.ret 0 (sg 14 [bv 18 21,bv 17 23,bv 16 20,bv 15 19,bg 14 18])))))))))))))))))
theorem qs6:qj ⟨Tryz.prog,qbK,[qaX],[qkM]⟩ 100000 Tryz.f153 = qj1:=by kernel_rfl
theorem qwh (hd:∀ c ∈ ([qaX]:List Ctr),c.ok Tryz.prog) (h:∀ ρ:Env,ρ.good->(qbK).pre ρ->qj1.den ⟨Tryz.prog,qbK,[qaX],[qkM]⟩ ρ):(qbK).ok Tryz.prog :=
 qf Tryz.func153 (fun a w=>Tryz.call153 a w) hd 100000 (fun ρ hg hp=>by rw [qs6]; exact h ρ hg hp)
@[simp] def qok:Sg:=sg 0 [bg 6 9,bg 5 88,bv 1 73,bt 4 (.icell (.var 85) (.plus (.var 90) (.var 89)) 0),bt 3 (.vcell (.var 7) (.var 89) 1),bt 2 (.vcell (.var 87) (.var 72) 0),bg 0 0]
def qlX:Out:=(.fresh 10 (.pre 0 (sg 0 [bv 1 1,bv 3 3,bv 2 2,bg 0 0]) (.both (.fresh 11 (.fresh 12 (.fresh 13 (.fresh 14 (.fresh 15 (.fresh 16 (.post 0 0 (sg 0 [bv 1 1,bv 3 3,bv 2 2,bg 0 0]) 11 (.fresh 17 (.need (.cmp .leq (.lit 0) (.var 2)) (.need (.cmp .leq (.tims (.lit 8) (.var 2)) (.lit 281474976710656)) (.fresh 18 (.inv 0 19 (sg 1000 [bt 1001 (.drep (.var 2) (.rcons (.vint .i64 (.lit 0)) .rnil)),bv 1008 15,bv 1007 13,bv 1006 12,bg 1005 11,bv 1003 14,bt 1002 (.lit 0),bg 1000 18,bg 1004 17,bg 1010 10]) (.fresh 19 (.fresh 20 (.fresh 21 (.fresh 22 (.fresh 23 (.fresh 24 (.fresh 25 (.fresh 26 (.fresh 27 (.fresh 28 (.fresh 29 (.hyp 0 19 (.br (.cmp .lss (.var 21) (.var 2))
 (.need (.cmp .leq (.lit 0) (.var 21)) (.need (.cmp .lss (.var 21) (.var 5)) (.need (.cmp .lss (.var 21) (.dlen (.var 7))) (.need (.cmp .lss (.var 21) (.dlen (.var 20))) (.back 0 19 (sg 1000 [bt 1001 (.dput (.var 20) (.var 21) 0 (.rcons (.vint .i64 (.icell (.var 7) (.var 21) 0)) .rnil)),bv 1008 27,bv 1007 26,bv 1006 25,bg 1005 24,bv 1003 22,bt 1002 (.arith .add .i64 (.var 21) (.lit 1)),bg 1000 19,bg 1004 23,bg 1010 29]))))))
 (.pre 1 (sg 0 [bv 11 2,bv 10 20,bv 6 26,bv 5 27,bv 9 2,bv 8 2,bg 7 19,bv 4 26,bv 3 25,bg 2 24,bv 1 2,bv 0 3]) (.both (.fresh 30 (.fresh 31 (.fresh 32 (.fresh 33 (.post 1 0 (sg 0 [bv 11 2,bv 10 20,bv 6 26,bv 5 27,bv 9 2,bv 8 2,bg 7 19,bv 4 26,bv 3 25,bg 2 24,bv 1 2,bv 0 3]) 30 (.fresh 34 (.pre 2 (sg 0 [bv 8 32,bv 7 33,bv 1 22,bv 6 32,bv 5 31,bg 4 30,bv 3 2,bv 2 2,bg 0 0]) (.both (.fresh 35 (.fresh 36 (.fresh 37 (.fresh 38 (.fresh 39 (.post 2 0 (sg 0 [bv 8 32,bv 7 33,bv 1 22,bv 6 32,bv 5 31,bg 4 30,bv 3 2,bv 2 2,bg 0 0]) 35 (.fresh 40 (.need (.cmp .leq (.tims (.lit 24) (.var 2)) (.lit 281474976710656)) (.fresh 41 (.pack [.cells 34 200 [(.vint .i64 (.var 2)),(.vint .i64 (.var 2)),(.vslice 30 (.lit 0) (.var 31) (.var 32) 1)],.arr 30 5 [CK.int .u8] (.var 33) (.var 32),.arr 19 3 [CK.int .i64] (.var 20) (.var 2)] 42 (.inv 1 43 (sg 1000 [bg 1018 42,bt 1017 (.drep (.var 2) (.rcons .vnils .rnil)),bv 1015 39,bv 1014 37,bv 1013 36,bg 1012 35,bv 1008 27,bv 1007 26,bv 1006 25,bg 1005 24,bv 1003 38,bt 1002 (.lit 0),bg 1016 41,bg 1011 40,bg 1004 23,bg 1010 29]) (.fresh 43 (.fresh 44 (.fresh 45 (.fresh 46 (.fresh 47 (.fresh 48 (.fresh 49 (.fresh 50 (.fresh 51 (.fresh 52 (.fresh 53 (.fresh 54 (.fresh 55 (.fresh 56 (.fresh 57 (.fresh 58 (.fresh 59 (.fresh 60 (.fresh 61 (.hyp 1 43 (.br (.cmp .lss (.var 45) (.var 2))
 (.need (.cmp .lss (.lit 0) (.var 5)) (.need (.cmp .lss (.lit 0) (.dlen (.var 7))) (.view (.vcell (.var 7) (.lit 0) 1) [CK.int .u8] [61,9] 62 (.need (.cmp .leq (.tims (.lit 1) (.dlen (.var 64))) (.lit 281474976710656)) (.fresh 65 (.need (.cmp .leq (.lit 0) (.var 45)) (.need (.cmp .lss (.var 45) (.dlen (.var 60))) (.pre 3 (sg 0 [bv 6 57,bv 5 58,bv 7 45,bv 4 57,bv 3 56,bg 2 55,bv 1 2,bv 0 2]) (.both (.fresh 66 (.fresh 67 (.fresh 68 (.post 3 0 (sg 0 [bv 6 57,bv 5 58,bv 7 45,bv 4 57,bv 3 56,bg 2 55,bv 1 2,bv 0 2]) 66 (.need (.cmp .leq (.lit 0) (.var 67)) (.pack [.arr 65 5 [CK.int .u8] (.drep (.dlen (.var 64)) (.rcons (.vint .u8 (.lit 0)) .rnil)) (.dlen (.var 64)),.abs 61 2] 69 (.inv 2 70 (sg 1000 [bg 1018 69,bt 1017 (.dput (.var 60) (.var 45) 0 (.rcons (.vslice 65 (.lit 0) (.dlen (.var 64)) (.dlen (.var 64)) 1) .rnil)),bv 1015 58,bv 1014 57,bv 1013 56,bv 1008 51,bv 1007 50,bv 1006 49,bg 1005 48,bv 1003 46,bt 1019 (.lit 0),bv 1022 68,bv 1021 67,bv 1020 66,bg 1012 55,bv 1002 45,bg 1016 59,bg 1011 54,bg 1004 47,bg 1010 53]) (.fresh 70 (.fresh 71 (.fresh 72 (.fresh 73 (.fresh 74 (.fresh 75 (.fresh 76 (.fresh 77 (.fresh 78 (.fresh 79 (.fresh 80 (.fresh 81 (.fresh 82 (.fresh 83 (.fresh 84 (.fresh 85 (.fresh 86 (.fresh 87 (.fresh 88 (.fresh 89 (.fresh 90 (.fresh 91 (.fresh 92 (.hyp 2 70 (.br (.cmp .lss (.var 89) (.var 91))
 (.need (.cmp .leq (.lit 0) (.var 89)) (.need (.cmp .leq (.lit 0) (.var 90)) (.need (.cmp .leq (.lit 0) (.plus (.var 90) (.var 89))) (.need (.cmp .lss (.plus (.var 90) (.var 89)) (.dlen (.var 85))) (.need (.cmp .leq (.lit 0) (.var 72)) (.need (.cmp .lss (.var 72) (.var 2)) (.need (.cmp .lss (.var 72) (.dlen (.var 87))) (.need (.cmp .lss (.var 89) (.var 5)) (.need (.cmp .lss (.var 89) (.dlen (.var 7))) (.both (.pre 4 qok (.both (.fresh 93 (.fresh 94 (.post 4 0 qok 93 (.back 2 70 (sg 1000 [bg 1018 94,bv 1017 87,bv 1015 85,bv 1014 84,bv 1013 83,bv 1008 78,bv 1007 77,bv 1006 76,bg 1005 75,bv 1003 93,bt 1019 (.arith .add .i64 (.var 89) (.lit 1)),bv 1022 92,bv 1021 91,bv 1020 90,bg 1012 82,bv 1002 72,bg 1016 86,bg 1011 81,bg 1004 74,bg 1010 80]))))) .top)) .top))))))))))
 (.back 1 43 (sg 1000 [bg 1018 88,bv 1017 87,bv 1015 85,bv 1014 84,bv 1013 83,bg 1012 82,bv 1008 78,bv 1007 77,bv 1006 76,bg 1005 75,bv 1003 73,bt 1002 (.arith .add .i64 (.var 72) (.lit 1)),bg 1016 86,bg 1011 81,bg 1004 74,bg 1010 80])))))))))))))))))))))))))))))))))) .top)))))))))
 (.both (.pack [.cells 53 200 [(.vint .i64 (.var 3)),(.vint .i64 (.var 2)),(.vslice 48 (.lit 0) (.var 49) (.var 50) 1)],.cells 47 200 [(.vint .i64 (.var 3)),(.vint .i64 (.var 2)),(.vslice 48 (.lit 0) (.var 49) (.var 50) 1)],.cells 54 200 [(.vint .i64 (.var 2)),(.vint .i64 (.var 2)),(.vslice 55 (.lit 0) (.var 56) (.var 57) 1)],.arr 55 5 [CK.int .u8] (.var 58) (.var 57),.abs 61 2] 62 (.ret 0 (sg 10 [bv 17 51,bg 16 62,bv 15 60,bv 14 46,bv 13 50,bv 12 49,bg 11 48,bg 10 59]))) .top))))))))))))))))))))))))))))))))) .top)))))))) .top))))))))))))))))))))))))))) .top)))
theorem qvU:qj ⟨Tryz.prog,qb0,[qp8,qqf,qq3,qak,qfq],[qo0,qoN,qo6 45]⟩ 100000 Tryz.f111 = qlX:=by kernel_rfl
theorem q0p (hd:∀ c ∈ ([qp8,qqf,qq3,qak,qfq]:List Ctr),c.ok Tryz.prog) (h:∀ ρ:Env,ρ.good->(qb0).pre ρ->qlX.den ⟨Tryz.prog,qb0,[qp8,qqf,qq3,qak,qfq],[qo0,qoN,qo6 45]⟩ ρ):(qb0).ok Tryz.prog :=
 qf Tryz.func111 (fun a w=>Tryz.call111 a w) hd 100000 (fun ρ hg hp=>by rw [qvU]; exact h ρ hg hp)
end Go.Proofs

set_option linter.unusedSimpArgs false
set_option linter.unusedVariables false
namespace Go.Proofs
open Go Go.Eng
variable {k total len e e':Int} {n i:Nat} {I I':Nat->Int} {L L':Nat->Nat}
theorem q89:qhO total len I L 0:=fun j hj=>by omega
theorem q9t (h:qhO total len I L i) (h1:0 <= I i/\I i < total) (h2:∀ j,j < i->I j ≠ I i) (h3:¬ (len < 0/\8192 < L i)) (h4:(L i:Int) = qfv len L):qhO total len I L (i + 1):=fun j hj=>by
 by_cases hji:j = i
 ·subst hji
  exact ⟨h1,h2,fun h=>by omega,h4⟩
 ·exact h j (by omega)
theorem qqs (hi:i < n) (h:qhO total len I L n) (hb:qp1 total len I L i e):False:=by
 obtain ⟨a,b,c,d⟩:=h i hi
 rcases hb with ⟨h1,_⟩ | ⟨_,⟨j,h1,h2⟩,_⟩ | ⟨_,_,⟨h1,h2⟩,_⟩ | ⟨_,_,_,h1,_⟩
 ·exact h1 a
 ·exact b j h1 h2
 ·have:=c h1; omega
 ·exact h1 d
theorem qAb (h:qp1 total len I L i e) (h':qp1 total len I L i e'):e = e':=by
 rcases h with ⟨a,b⟩ | ⟨a,⟨j,b1,b2⟩,c⟩ | ⟨a,b,c,d⟩ | ⟨a,b,c,d,f⟩ <;> rcases h' with ⟨a',b'⟩ | ⟨a',⟨j',b1',b2'⟩,c'⟩ | ⟨a',b',c',d'⟩ | ⟨a',b',c',d',f'⟩ <;>
  first | omega | exact (a a').elim | exact (a' a).elim | exact (b' _ b1 b2).elim | exact (b _ b1' b2').elim | exact (c' c).elim | exact (c c').elim
theorem q4M (h:qr8 k total len n I L e) (h':qr8 k total len n I L e'):e = e':=by
 rcases h with ⟨i,hi,ho,hb⟩ | ⟨ho,hk⟩ <;> rcases h' with ⟨j,hj,ho',hb'⟩ | ⟨ho',hk'⟩
 ·rcases Nat.lt_trichotomy i j with h | h | h
  ·exact (qqs h ho' hb).elim
  ·subst h; exact qAb hb hb'
  ·exact (qqs h ho hb').elim
 ·exact (qqs hi ho' hb).elim
 ·exact (qqs hj ho hb').elim
 ·omega
theorem q4c (h:qr8 k total len n I L 0):qhO total len I L n/\k <= (n:Int):=by
 rcases h with ⟨i,hi,ho,hb⟩ | ⟨ho,⟨_,h⟩ | ⟨h,_⟩⟩
 ·rcases hb with ⟨_,h⟩ | ⟨_,_,h⟩ | ⟨_,_,_,h⟩ | ⟨_,_,_,_,h⟩ <;> omega
 ·omega
 ·exact ⟨ho,h⟩
theorem q8D {D:qd} {m j:Nat} (hj:j < m):(qc9 D m).getD j 0 = pcI D j:=by
 unfold qc9
 rw [List.getD_eq_getElem?_getD,List.getElem?_map,List.getElem?_range hj]; rfl
theorem qyR {D:qd} {m:Nat}:(qc9 D m).length = m:=by simp [qc9]
theorem q4x {f:Nat->Int}:∀ {m:Nat},(∀ j,j < m->∀ j',j' < j->f j' ≠ f j)->((List.range m).map f).Nodup:=fun {m} h=>by
 rw [List.nodup_iff_pairwise_ne,List.pairwise_map]
 refine List.Pairwise.imp_of_mem (R:=fun a b=>a < b) (fun {a b} ha hb hlt=>?_) List.pairwise_lt_range
 exact h b (List.mem_range.1 hb) a hlt
theorem qme {D:qd} {L:Nat->Nat} {m:Nat} (h:qhO total len (pcI D) L n) (hm:m <= n):qcf m total.toNat (qc9 D m):=by
 refine ⟨qyR,q4x fun j hj j' hj'=>(h j (by omega)).2.1 j' hj',fun x hx=>?_⟩
 obtain ⟨j,hj,rfl⟩:=List.mem_map.1 hx
 have:=(h j (by rw [List.mem_range] at hj; omega)).1
 exact ⟨this.1,by omega⟩
end Go.Proofs

set_option linter.unusedSimpArgs false
set_option linter.unusedVariables false
namespace Go.Proofs
open Go Go.Eng
set_option maxRecDepth 100000
theorem qm4 {h:Hp} {D:qd} {n j:Int} (hp:qjw h D n.toNat) (h0:0 <= j) (h1:j < n):j < (D.length:Int)/\qb D j 0 = pcI D j.toNat/\∃ d,Rd h kB (qF D j 1) d/\qn d/\pcD h D j.toNat = bI d/\pcN h D j.toNat = d.length:=by
 obtain ⟨a,b,d,c,e,f⟩:=q4j hp h0 h1
 exact ⟨a,b,d,c,e,f,by rw [pcN,f,bI_len]⟩
theorem q1F {I:Nat->Int}:qpI [List.replicate 255 (.bool false)] I 0:=by
 refine ⟨⟨_,rfl,List.length_replicate ..⟩,fun x h0 h1=>⟨fun h=>?_,fun ⟨j,hj,_⟩=>by omega⟩⟩
 exfalso
 have h2:qap [List.replicate 255 (Value.bool false)] x.toNat = false:=by
  unfold qap
  rw [List.headD_cons,List.getElem?_replicate,if_pos (by omega)]; rfl
 rw [h2] at h; cases h
theorem q0m {s:qd} {I:Nat->Int} {i:Nat} (h:qpI s I i) (h0:0 <= I i) (h1:I i < 255):qpI (qas s (I i).toNat (.bool true)) I (i + 1):=by
 obtain ⟨⟨row,rfl,hr⟩,h2⟩:=h
 refine ⟨⟨_,rfl,by rw [List.length_set]; exact hr⟩,fun x x0 x1=>?_⟩
 have hc:qap (qas [row] (I i).toNat (.bool true)) x.toNat = if x = I i then true else qap [row] x.toNat:=by
  unfold qap qas
  rw [List.headD_cons,List.headD_cons,List.getElem?_set]
  by_cases hxe:x = I i
  ·rw [if_pos (by rw [hxe]),if_pos (by omega),if_pos hxe]; rfl
  ·rw [if_neg (fun e=>hxe (by omega)),if_neg hxe]
 rw [hc]
 by_cases hxe:x = I i
 ·rw [if_pos hxe]
  exact ⟨fun _=>⟨i,by omega,hxe.symm⟩,fun _=>rfl⟩
 ·rw [if_neg hxe,h2 x x0 x1]
  constructor
  ·rintro ⟨j,hj,he⟩; exact ⟨j,by omega,he⟩
  ·rintro ⟨j,hj,he⟩
   refine ⟨j,?_,he⟩
   by_cases hji:j = i
   ·exact (hxe (by rw [<- he,hji])).elim
   ·omega
theorem qqX:qb3.ok Tryz.prog:=q06 (by simp) fun ρ hg hp=>by
 obtain ⟨p1,p2,p3,hpc⟩:=hp
 simp (config:={ maxSteps:=4000000 }) [qmj,qb3,qud,qoX,okR]
 refine ⟨p2,⟨p2,q89,q1F⟩,fun i _ s _ i0 i1 ho hs=>⟨fun hi=>?_,fun hi=>?_⟩⟩
 ·obtain ⟨hl,hI,d,hr,_,_,hL⟩:=qm4 hpc i0 hi
  have bad:∀ e,qp1 (ρ 1).i (ρ 2).i (pcI (ρ 6).d) (pcN (ρ 8).h (ρ 6).d) i.i.toNat e->qr8 (ρ 0).i (ρ 1).i (ρ 2).i (ρ 4).i.toNat (pcI (ρ 6).d) (pcN (ρ 8).h (ρ 6).d) e:=fun e hb=>.inl ⟨i.i.toNat,by omega,ho,hb⟩
  rw [hI]
  refine ⟨i0,by omega,fun h=>bad _ (.inl ⟨by omega,rfl⟩),fun h0=>⟨fun h=>bad _ (.inl ⟨by omega,rfl⟩),fun h1=>?_⟩⟩
  have hsx:=hs.2 _ h0 (by omega)
  refine ⟨h0,by omega,by obtain ⟨⟨row,e,_⟩,_⟩:=hs; rw [e]; exact Nat.one_pos,fun hx=>bad _ (.inr (.inl ⟨⟨h0,h1⟩,hsx.1 hx,rfl⟩)),fun hx=>?_⟩
  have hno:∀ j,j < i.i.toNat->pcI (ρ 6).d j ≠ pcI (ρ 6).d i.i.toNat:=fun j hj he=>by
   rw [hsx.2 ⟨j,hj,he⟩] at hx; cases hx
  have next:¬ ((ρ 2).i < 0/\8192 < pcN (ρ 8).h (ρ 6).d i.i.toNat)->(pcN (ρ 8).h (ρ 6).d i.i.toNat:Int) = qfv (ρ 2).i (pcN (ρ 8).h (ρ 6).d) ->
    (0 <= qe .add .i64 i.i 1/\qe .add .i64 i.i 1 <= (ρ 4).i/\qhO (ρ 1).i (ρ 2).i (pcI (ρ 6).d) (pcN (ρ 8).h (ρ 6).d) (qe .add .i64 i.i 1).toNat/\qpI (qas s.d (pcI (ρ 6).d i.i.toNat).toNat (.bool true)) (pcI (ρ 6).d) (qe .add .i64 i.i 1).toNat)/\max ((ρ 4).i - qe .add .i64 i.i 1) 0 < (ρ 4).i - i.i:=fun h3 h4=>by
   rw [add64 (by omega) (by omega),show (i.i + 1).toNat = i.i.toNat + 1 by omega]
   exact ⟨⟨by omega,by omega,q9t ho ⟨h0,h1⟩ hno h3 h4,q0m hs h0 (by omega)⟩,by omega⟩
  refine ⟨fun hneg=>⟨d,hr,fun h=>bad _ (.inr (.inr (.inl ⟨⟨h0,h1⟩,hno,⟨hneg,by omega⟩,rfl⟩))),fun h=>?_⟩,fun hpos=>⟨d,hr,fun h=>bad _ (.inr (.inr (.inr ⟨⟨h0,h1⟩,hno,fun h=>by omega,?_,rfl⟩))),fun h=>next (fun h=>by omega) ?_⟩⟩
  ·obtain ⟨hl0,_,d0,hr0,_,_,hL0⟩:=qm4 hpc (j:=0) (by omega) (by omega)
   have hw:qfv (ρ 2).i (pcN (ρ 8).h (ρ 6).d) = (d0.length:Int):=by
    unfold qfv
    rw [if_pos hneg]
    exact congrArg Nat.cast hL0
   refine ⟨by omega,by omega,d0,hr0,d,hr,fun hne=>bad _ (.inr (.inr (.inr ⟨⟨h0,h1⟩,hno,fun h=>by omega,?_,rfl⟩))),fun he=>next (fun h=>by omega) ?_⟩
   ·rw [hw,hL]; exact hne
   ·rw [hw,hL]; exact he
  ·unfold qfv
   rw [if_neg (by omega),hL]; exact h
  ·unfold qfv
   rw [if_neg (by omega),hL]; exact h
 ·rw [show i.i.toNat = (ρ 4).i.toNat by omega] at ho
  exact ⟨fun h=>.inr ⟨ho,.inl ⟨by omega,rfl⟩⟩,fun h=>.inr ⟨ho,.inr ⟨by omega,rfl⟩⟩⟩
theorem q7L {h:Hp} {v:Value} (hb:rdB h v):∃ d,Rd h kB v d/\qn d/\rdL h v = bI d:=by
 obtain ⟨d,hr,hB⟩:=hb
 exact ⟨d,hr,hB,qfM hr⟩
theorem qq9 {h:Hp} {v:Value} {g:List Int->List Int} (hg:∀ l,qw l->g l = l):qlk h h v g:=fun vs n M i ht hi hv =>
 qi9 ht (fun _ _=>rfl) fun j hj=>by
  by_cases hji:j = i
  ·rw [if_pos hji,hji,hg _ (q3X ht hi)]
  ·rw [if_neg hji]
theorem q6s {h h':Hp} {v:Value} {g:List Int->List Int} {l:Nat} (ht:q2I h v l) (hT:qlk h h' v g) (hg:∀ x,(g x).length = x.length):∃ d,Rd h' kB v d/\qn d/\l <= d.length:=by
 obtain ⟨vs,n,M,i,ht,hi,hv,hl⟩:=ht
 obtain ⟨d,hr,hd,hB⟩:=qpr (hT vs n M i ht hi hv) hi
 rw [hv] at hr
 rw [if_pos rfl] at hd
 exact ⟨d,hr,hB,by rw [<- bI_len,hd,hg]; exact hl⟩
theorem q1H {h h1 h2:Hp} {v:Value} {s:List Int} {w:Int} {k:Nat} {r:Option Addr} {d:qd} {cap:Nat} {x:Int} (hT:qlk h h1 v fun l=>qD l 0 (seg s 0 k) w) (hP:Put h1 h2 r kB d k [.int .u8 x]) (hv:v = .slice (qm r 0) d.length cap) (hr:Rd h1 kB v d) (hk:k < d.length) (hks:k < s.length)
  (hx:x = qhu (qb d k 0) (qcW w (s.getD k 0))):qlk h h2 v fun l=>qD l 0 (seg s 0 (k + 1)) w:=fun vs n M i ht hi hvi=>by
 have t:=hT vs n M i ht hi hvi
 have hri:Rd h1 kB (vs i) d:=by rw [hvi]; exact hr
 obtain ⟨d',r',e',_⟩:=qpr t hi
 obtain rfl:=qiY r' hri
 rw [if_pos rfl] at e'
 have hlen:d'.length = (M i).length:=by rw [<- bI_len,e',qbP]
 have hc:(M i)[0 + k]? = some (qb d' k 0):=by
  have h0:=qfY (d:=d') (i:=(k:Int)) (by omega) (by omega)
  rw [Int.toNat_natCast,e',qh7 (by right; rw [qe3 (by omega)]; omega)] at h0
  rw [Nat.zero_add]; exact h0
 have hy:s[0 + k]? = some (s.getD k 0):=by
  rw [Nat.zero_add,List.getElem?_eq_getElem hks,List.getD_eq_getElem?_getD,List.getElem?_eq_getElem hks]; rfl
 refine qi9 (q8J t hi hP (by rw [hvi]; exact hv) hri hk (by rw [hx]; exact qgb)) (fun _ _=>rfl) fun j _=>?_
 by_cases hji:j = i
 ·subst hji
  rw [if_pos rfl,if_pos rfl,if_pos rfl,hx]
  show qD (M j) 0 (seg s 0 (k + 1)) w = (qD (M j) 0 (seg s 0 k) w).set k _
  have h:=qjl (i:=k) (c:=w) hc hy
  simp only [Nat.zero_add] at h
  exact h
 ·rw [if_neg hji,if_neg hji,if_neg hji]
theorem q3U:qfq.ok Tryz.prog:=q3D (by simp [qqr]) fun ρ hg hp=>by
 obtain ⟨hf,hb,hl,hh,hw⟩:=hp
 simp (config:={ maxSteps:=4000000 }) [qou,qfq,qsl,qcA]
 obtain ⟨s,hrs,hsB,hs⟩:=q7L hb
 have hsl:(rdL (ρ 6).h (ρ 3).v).length = s.length:=by rw [hs,bI_len]
 refine ⟨fun h0=>⟨hf,qq9 fun l hl=>by rw [h0]; exact qj6 hl⟩,fun h0=>⟨s,hrs,fun u0 _ u1 _ e0 _=>⟨⟨hf,by rw [hsl],e0.symm,qq9 fun l hl=>by rw [show seg (rdL (ρ 6).h (ρ 3).v) 0 0 = [] by simp [seg],qk7]⟩,?_⟩⟩⟩
 intro i _ f _ n _ H _ v _ hf i0 i1 hn hv hT
 have hlen:∀ (k:Nat) (x:List Int),(qD x 0 (seg (rdL (ρ 6).h (ρ 3).v) 0 k) (ρ 4).i).length = x.length:=fun k x=>qbP
 refine ⟨fun hi=>⟨s,by rw [hv]; exact hrs,fun u2 _ u3 _ e1 _=>⟨i0,by omega,?_⟩⟩,fun hi=>⟨hf,?_⟩⟩
 ·obtain ⟨d,hrd,hdB,hld⟩:=q6s hh hT (hlen _)
  have hsb:=qch hsB i0 (by omega:i.i < s.length)
  rw [add64 (x:=i.i) (by omega) (by omega)]
  have hsi:(rdL (ρ 6).h (ρ 3).v).getD i.i.toNat 0 = qb s i.i 0:=by rw [hs,qem i0 (by omega)]
  have core:∀ (a b m H':U),(ρ 2).v = .slice (qm a.r 0) d.length b.i.toNat->m.i = qcW (ρ 4).i (qb s i.i 0)->Put H.h H'.h a.r kB d i.i.toNat [.int .u8 (qe .xor .u8 (qb d i.i 0) m.i)] ->
    qlk (ρ 5).h H'.h (ρ 2).v fun l=>qD l 0 (seg (rdL (ρ 6).h (ρ 3).v) 0 (i.i + 1).toNat) (ρ 4).i:=fun a b m H' ea hm hP=>by
   rw [show (i.i + 1).toNat = i.i.toNat + 1 by omega]
   exact q1H hT hP ea hrd (by omega) (by omega) (by rw [hsi,hm,Int.toNat_of_nonneg i0]; rfl)
  refine ⟨⟨d,hrd,fun a _ b _ ea _=>⟨by omega,⟨hf,hw.1,hw.2,hsb⟩,fun m _ f' _ hf' hm H' _ hP=>?_⟩⟩,⟨hf,hw.1,hw.2,hsb⟩,fun m _ f' _ hf' hm=>⟨d,hrd,fun a _ b _ ea _=>⟨by omega,fun H' _ hP=>?_⟩⟩⟩
  all_goals exact ⟨⟨hf',by omega,by omega,hn,by rw [<- e1]; exact hv,core a b m H' ea hm hP⟩,by omega⟩
 ·have:seg (rdL (ρ 6).h (ρ 3).v) 0 i.i.toNat = rdL (ρ 6).h (ρ 3).v:=by
   unfold seg
   rw [List.drop_zero,List.take_of_length_le (by omega)]
  rw [this] at hT
  exact hT
end Go.Proofs

set_option linter.unusedSimpArgs false
set_option linter.unusedVariables false
namespace Go.Proofs
open Go Go.Eng
def byF (r:F) (y:Nat->F):Nat->F:=fun l=>(if l = 0 then 0 else y (l - 1)) ^^^ qh r (y l)
theorem qkW {y:Nat->F} {x:F}:q9 1 y x = y 0:=by
 show (0:F) ^^^ qh (y 0) (qaN x 0) = y 0
 rw [qat,show qaN x 0 = 1 from rfl,qbn]
theorem quz {r x:F} {y:Nat->F}:∀ n,q9 (n + 1) (byF r y) x = qh (x ^^^ r) (q9 n y x) ^^^ qh (qh r (y n)) (qaN x n)
 | 0=>by rw [qkW,byF,if_pos rfl,qat,show q9 0 y x = 0 from rfl,q6,qat,show qaN x 0 = 1 from rfl,qbn]
 | n + 1=>by
  have ih:=quz (r:=r) (x:=x) (y:=y) n
  have h1:q9 (n + 2) (byF r y) x = q9 (n + 1) (byF r y) x ^^^ qh (byF r y (n + 1)) (qaN x (n + 1)):=rfl
  have h2:q9 (n + 1) y x = q9 n y x ^^^ qh (y n) (qaN x n):=rfl
  rw [h1,ih,h2,byF,if_neg (by omega),Nat.add_sub_cancel,qio,qc0 (x:=y n)]
  have h3:qh (x ^^^ r) (qh (y n) (qaN x n)) = qh (y n) (qaN x (n + 1)) ^^^ qh (qh r (y n)) (qaN x n):=by
   rw [qc0,qaN]
   congr 1
   ·rw [<- qP,qad (x:=x),qP]
    try rw [qad (x:=x)]
   ·rw [qP]
  rw [h3]
  generalize qh (x ^^^ r) (q9 n y x) = a
  generalize qh (qh r (y n)) (qaN x n) = b
  generalize qh (y n) (qaN x (n + 1)) = c
  generalize qh (qh r (y (n + 1))) (qaN x (n + 1)) = d
  rw [BitVec.xor_assoc,BitVec.xor_assoc,BitVec.xor_assoc]
  congr 1
  rw [<- BitVec.xor_assoc,<- BitVec.xor_assoc,BitVec.xor_comm b c]
theorem qrF {r x:F} {y:Nat->F} {n:Nat} (h:y n = 0):q9 (n + 1) (byF r y) x = qh (x ^^^ r) (q9 n y x):=by
 rw [quz,h,q6,qB,qae]
theorem qsG {y:Nat->F} {x:F} {n:Nat} (h:∀ l,n <= l->y l = 0):∀ m,q9 (n + m) y x = q9 n y x
 | 0=>rfl
 | m + 1=>by
  show q9 (n + m) y x ^^^ qh (y (n + m)) (qaN x (n + m)) = _
  rw [qsG h m,h _ (by omega),qB,qae]
theorem qoR {y z:Nat->F} {x:F} {n:Nat}:q9 n (fun l=>y l ^^^ z l) x = q9 n y x ^^^ q9 n z x:=by
 simp only [q9]
 rw [<- qg2]
 exact ql fun j _=>qc0
theorem qww {y:Nat->F} {x c:F} {n:Nat}:q9 n (fun l=>qh c (y l)) x = qh c (q9 n y x):=by
 simp only [q9]
 rw [<- qd7]
 exact ql fun j _=>qP
def ddF (xs ys:Nat->F):Nat->Nat->F
 | s,0=>ys s
 | s,j + 1=>qh (ddF xs ys (s + 1) j ^^^ ddF xs ys s j) (qeV (xs (s + j + 1) ^^^ xs s))
theorem qh0 {n:Nat} {xs ys:Nat->F} (hd:qbA n xs):∀ j s,s + j < n->∃ y:Nat->F,(∀ l,j < l->y l = 0)/\(∀ i,i <= j->q9 (j + 1) y (xs (s + i)) = ys (s + i))/\y j = ddF xs ys s j
 | 0,s,hs=>⟨fun l=>if l = 0 then ys s else 0,fun l hl=>if_neg (by omega),fun i hi=>by
   obtain rfl:i = 0:=by omega
   rw [qkW,if_pos rfl,Nat.add_zero],rfl⟩
 | j + 1,s,hs=>by
  obtain ⟨y1,a1,b1,c1⟩:=qh0 (ys:=ys) hd j (s + 1) (by omega)
  obtain ⟨y0,a0,b0,c0⟩:=qh0 (ys:=ys) hd j s (by omega)
  have hne:xs (s + j + 1) ^^^ xs s ≠ 0:=fun h=>by have:=hd _ _ (by omega) (by omega) (qfe.1 h); omega
  let w:F:=qeV (xs (s + j + 1) ^^^ xs s)
  have hv:∀ x,q9 (j + 2) (fun l=>qh w (byF (xs s) y1 l ^^^ byF (xs (s + j + 1)) y0 l)) x = qh w (qh (x ^^^ xs s) (q9 (j + 1) y1 x) ^^^ qh (x ^^^ xs (s + j + 1)) (q9 (j + 1) y0 x)):=fun x=>by
   rw [qww,qoR,qrF (a1 _ (by omega)),qrF (a0 _ (by omega))]
  refine ⟨fun l=>qh w (byF (xs s) y1 l ^^^ byF (xs (s + j + 1)) y0 l),fun l hl=>?_,fun i hi=>?_,?_⟩
  ·simp only [byF]
   rw [if_neg (by omega),if_neg (by omega),a1 l (by omega),a0 l (by omega),a1 (l - 1) (by omega),a0 (l - 1) (by omega),q6,q6,qa7,q6]
  ·rw [hv]
   have hw:∀ z,qh w (qh (xs (s + j + 1) ^^^ xs s) z) = z:=fun z=>by
    rw [<- qP,qad (x:=w),qiT hne,qiu]
   by_cases h0:i = 0
   ·subst h0
    have hb0:=b0 0 (by omega)
    simp only [Nat.add_zero] at hb0
    rw [Nat.add_zero,qa7,qB,qat,hb0,BitVec.xor_comm,hw]
   ·by_cases h1:i = j + 1
    ·subst h1
     have:=b1 j (Nat.le_refl _)
     rw [show s + 1 + j = s + (j + 1) by omega] at this
     rw [this,<- Nat.add_assoc,qa7,qB,qae,hw]
    ·have h2:=b1 (i - 1) (by omega)
     rw [show s + 1 + (i - 1) = s + i by omega] at h2
     rw [h2,b0 i (by omega),<- qc0,qpd,qa7,qat,BitVec.xor_comm,hw]
  ·simp only [byF]
   rw [if_neg (by omega),if_neg (by omega),a1 (j + 1) (by omega),a0 (j + 1) (by omega),q6,q6,qae,qae,Nat.add_sub_cancel,c1,c0,qad]
   rfl
def qmy (xs:Nat->F):Nat->Nat->F
 | 0=>fun l=>if l = 0 then 1 else 0
 | m + 1=>byF (xs m) (qmy xs m)
theorem qt8 {xs:Nat->F}:∀ m,(∀ l,m < l->qmy xs m l = 0)/\qmy xs m m = 1/\∀ x,q9 (m + 1) (qmy xs m) x = qdf (fun u=>x ^^^ xs u) m
 | 0=>⟨fun l hl=>if_neg (by omega),rfl,fun x=>by rw [qkW]; rfl⟩
 | m + 1=>by
  obtain ⟨h1,h2,h3⟩:=qt8 (xs:=xs) m
  refine ⟨fun l hl=>?_,?_,fun x=>?_⟩
  ·simp only [qmy,byF]
   rw [if_neg (by omega),h1 (l - 1) (by omega),h1 l (by omega),q6,qae]
  ·simp only [qmy,byF]
   rw [if_neg (by omega),Nat.add_sub_cancel,h2,h1 (m + 1) (by omega),q6,qae]
  ·rw [qmy,qrF (h1 _ (by omega)),h3,qdf,qad]
def q1P (xs ys:Nat->F) (x:F) (m:Nat):F:=qy (fun t=>qh (ddF xs ys 0 t) (qdf (fun u=>x ^^^ xs u) t)) m
theorem qto {n:Nat} {xs ys:Nat->F} (hd:qbA n xs):∀ m,m < n->∃ y:Nat->F,(∀ l,m < l->y l = 0)/\(∀ i,i <= m->q9 (m + 1) y (xs i) = ys i)/\∀ x,q9 (m + 1) y x = q1P xs ys x (m + 1)
 | 0,hm=>by
  obtain ⟨y,a,b,c⟩:=qh0 (ys:=ys) hd 0 0 (by omega)
  refine ⟨y,a,fun i hi=>by have:=b i hi; simp only [Nat.zero_add] at this ⊢; exact this,fun x=>?_⟩
  rw [qkW,c]
  show ys 0 = (0:F) ^^^ qh (ys 0) 1
  rw [qat,qbn]
 | m + 1,hm=>by
  obtain ⟨y0,a0,b0,c0⟩:=qto (ys:=ys) hd m (by omega)
  obtain ⟨y,a,b,c⟩:=qh0 (ys:=ys) hd (m + 1) 0 (by omega)
  obtain ⟨p1,p2,p3⟩:=qt8 (xs:=xs) (m + 1)
  refine ⟨y,a,fun i hi=>by have:=b i hi; rwa [Nat.zero_add] at this,fun x=>?_⟩
  let R:Nat->F:=fun l=>(y l ^^^ y0 l) ^^^ qh (ddF xs ys 0 (m + 1)) (qmy xs (m + 1) l)
  have hRv:∀ x,q9 (m + 2) R x = (q9 (m + 2) y x ^^^ q9 (m + 1) y0 x) ^^^ qh (ddF xs ys 0 (m + 1)) (qdf (fun u=>x ^^^ xs u) (m + 1)):=fun x=>by
   rw [<- p3,<- qww,<- qsG (y:=y0) (n:=m + 1) (fun l hl=>a0 l (by omega)) 1,<- qoR,<- qoR]
  have hRt:R (m + 1) = 0:=by
   simp only [R]
   rw [c,a0 (m + 1) (by omega),p2,qbn,qae,qa7]
  have hRe:∀ x,q9 (m + 1) R x = q9 (m + 2) R x:=fun x=>by
   show _ = q9 (m + 1) R x ^^^ qh (R (m + 1)) (qaN x (m + 1))
   rw [hRt,qB,qae]
  have h0:=qkY (n:=m + 1) (y:=R) (xs:=xs) (fun i j hi hj=>hd i j (by omega) (by omega)) fun i hi=>by
   rw [hRe,hRv,b0 i (by omega)]
   have:=b i (by omega)
   rw [Nat.zero_add] at this
   rw [this,qa7,qat,qpK (k:=i) hi qa7,q6]
  have hz:q9 (m + 1) R x = 0:=qcE fun l hl=>by rw [h0 l hl,qB]
  rw [hRe,hRv] at hz
  have h1:q1P xs ys x (m + 2) = q1P xs ys x (m + 1) ^^^ qh (ddF xs ys 0 (m + 1)) (qdf (fun u=>x ^^^ xs u) (m + 1)):=rfl
  rw [h1,<- c0 x]
  have h2:=qfe.1 hz
  rw [<- h2,<- BitVec.xor_assoc,BitVec.xor_comm,<- BitVec.xor_assoc,qa7,qat]
end Go.Proofs

set_option linter.unusedSimpArgs false
set_option linter.unusedVariables false
namespace Go.Proofs
open Go Go.Eng
theorem qfU {f:Nat->List Int} {w:List Int} {l:Nat} (hw:qw w):∀ k,(∀ j,j < k->(f j).length = l/\qw (f j))->(qbC f w l k).length = l/\qw (qbC f w l k)/\∀ c,c < l->toF ((qbC f w l k).getD c 0) = qy (fun m=>qh (toF (w.getD m 0)) (toF ((f m).getD c 0))) k
 | 0,_=>⟨by simp [qbC],fun x hx=>by rw [qbC] at hx; rw [List.eq_of_mem_replicate hx]; exact ⟨by omega,by omega⟩,fun c hc=>by
   rw [qbC,List.getD_eq_getElem?_getD,List.getElem?_replicate,if_pos hc]; rfl⟩
 | k + 1,h=>by
  obtain ⟨h1,h2,h3⟩:=qfU hw k fun j hj=>h j (by omega)
  obtain ⟨f1,f2⟩:=h k (by omega)
  have hsl:seg (f k) 0 l = f k:=by rw [<- f1]; simp [seg]
  rw [qbC,hsl]
  refine ⟨by rw [qbP,h1],qeh h2,fun c hc=>?_⟩
  rw [List.getD_eq_getElem?_getD,qbL,List.getElem?_eq_getElem (by omega),Option.map_some,Option.getD_some,if_pos ⟨by omega,by omega⟩,Nat.sub_zero,qk5,qis (qaT hw _) (qaT f2 _),qy,<- h3 c hc,List.getD_eq_getElem?_getD (l:=qbC f w l k),List.getElem?_eq_getElem (by omega),Option.getD_some]
theorem q40 {f g:Nat->List Int} {w v:List Int} {l k:Nat} (hw:qw w) (hv:qw v) (hf:∀ j,j < k->(f j).length = l/\qw (f j)) (hg:∀ j,j < k->(g j).length = l/\qw (g j))
  (h:∀ c,c < l->qy (fun m=>qh (toF (w.getD m 0)) (toF ((f m).getD c 0))) k = qy (fun m=>qh (toF (v.getD m 0)) (toF ((g m).getD c 0))) k):qbC f w l k = qbC g v l k:=by
 obtain ⟨a1,a2,a3⟩:=qfU hw k hf
 obtain ⟨b1,b2,b3⟩:=qfU hv k hg
 refine qlD (by omega) fun c hc=>qrW (qaT a2 c) (qaT b2 c) ?_
 rw [a3 c (by omega),b3 c (by omega),h c (by omega)]
theorem q2E {rs:List Int} {x:Int} {j:Nat} (hj:j < rs.length):toF ((qma rs x).getD j 0) = qga rs.length (fun m=>toF (rs.getD m 0)) (toF x) j:=by
 unfold qma
 rw [List.getD_eq_getElem?_getD,List.getElem?_map,List.getElem?_range hj,Option.map_some,Option.getD_some,qkj]
theorem qkq {xs:List Int} {x:Int}:qw (qma xs x):=fun y hy=>by
 obtain ⟨m,_,rfl⟩:=List.mem_map.1 hy
 exact qjK
variable {k total:Nat} {rs:List Int}
theorem qno (hc:qcf k total rs) {j:Nat} (hj:j < k):toF (rs.getD j 0) = xsF (rs.getD j 0).toNat:=by
 have h1:=hc.1
 have h2:=hc.2.2 (rs.getD j 0) (qhN (by omega))
 unfold xsF
 rw [Int.toNat_of_nonneg h2.1]
theorem qoa (hc:qcf k total rs) (ht:total <= 255):qbA k fun m=>toF (rs.getD m 0):=fun i j hi hj he=>by
 refine qja hc ht i j hi hj ?_
 simp only [qno hc hi,qno hc hj] at he
 exact he
theorem qsM {xs v:Nat->F} (h1:1 <= k) (hd:qbA k xs):∃ y:Nat->F,(∀ i,i < k->q9 k y (xs i) = v i)/\∀ x,q9 k y x = qy (fun j=>qh (qga k xs x j) (v j)) k:=by
 obtain ⟨y,_,hy,_⟩:=qto (ys:=v) hd (k - 1) (by omega)
 rw [show k - 1 + 1 = k by omega] at hy
 refine ⟨y,fun i hi=>hy i (by omega),fun x=>?_⟩
 rw [qll hd]
 exact ql fun j hj=>by rw [hy j (by omega)]
theorem q35 (hc:qcf k total rs) (h1:1 <= k) (hk:k <= total) (ht:total <= 255) (v:Nat->F) {i:Nat} (hi:i < k) :
    qy (fun j=>qh (q7 k (qj8 total k rs) i j) (v j)) k = qy (fun j=>qh (qga k (fun m=>toF (rs.getD m 0)) (xsF i) j) (v j)) k:=by
  obtain ⟨y,hy,hL⟩:=qsM (v:=v) h1 (qoa hc ht)
  obtain ⟨g1,g2,_,g4⟩:=qfJ h1 hk ht
  have hlen:=qoM hc g1
  have hr:=qw5 hc h1 hk ht
  obtain ⟨t2,he⟩:=qnB hlen (qmr g2)
  rw [hr] at he
  obtain ⟨m1,_⟩:=qsy he
  have hS:∀ j,j < k->∀ m,m < k->q7 k (qdn (qc8 k total) k rs) j m = qga k xsF (toF (rs.getD j 0)) m:=fun j hj m hm=>by
    have hrj:=hc.2.2 (rs.getD j 0) (qhN (by rw [hc.1]; exact hj))
    unfold q7
    rw [qrs g1 hc.2.2 (by rw [hc.1]; exact hj) hm,qno hc hj,<- g4 (rs.getD j 0).toNat m (by omega) hm]
    rfl
  have hx:qbA k xsF:=qeY (by omega)
  rw [<- hL]
  calc qy (fun j=>qh (q7 k (qj8 total k rs) i j) (v j)) k
      = qy (fun j=>qy (fun m=>qh (qh (q7 k (qj8 total k rs) i j) (q7 k (qdn (qc8 k total) k rs) j m)) (q9 k y (xsF m))) k) k:=by
        refine ql fun j hj=>?_
        rw [<- hy j hj,qll hx (x:=toF (rs.getD j 0)),<- qd7]
        exact ql fun m hm=>by rw [hS j hj m hm,qP]
    _ = qy (fun m=>qh (del m i) (q9 k y (xsF m))) k:=by
        rw [qfD]
        refine ql fun m hm=>?_
        rw [qex,quW]
        congr 1
        exact m1 i m hi hm
    _ = q9 k y (xsF i):=qo2 (f:=fun m=>q9 k y (xsF m)) hi
theorem qzm {m:List Int} {i j:Nat} (hj:j < k):toF ((seg m (i * k) k).getD j 0) = q7 k m i j:=by
 unfold q7 seg
 rw [List.getD_eq_getElem?_getD,List.getElem?_take,if_pos hj,List.getElem?_drop,List.getD_eq_getElem?_getD]
theorem qt5 (hc:qcf k total rs) (h1:1 <= k) (hk:k <= total) (ht:total <= 255):(qj8 total k rs).length = k * k/\qw (qj8 total k rs):=by
 obtain ⟨g1,g2,_,_⟩:=qfJ h1 hk ht
 obtain ⟨t2,_⟩:=qnB (qoM hc g1) (qmr g2)
 exact ⟨t2.lb,t2.bb⟩
theorem quX {l:List Int} {o n:Nat} (h:qw l):qw (seg l o n):=fun x hx=>h x (List.mem_of_mem_drop (List.mem_of_mem_take hx))
theorem qzt (hc:qcf k total rs) (h1:1 <= k) (hk:k <= total) (ht:total <= 255) {f:Nat->List Int} {l i:Nat} (hf:∀ j,j < k->(f j).length = l/\qw (f j)) (hi:i < k) :
  qbC f (seg (qj8 total k rs) (i * k) k) l k = qbC f (qma rs (i:Int)) l k:=by
 refine q40 (quX (qt5 hc h1 hk ht).2) qkq hf hf fun c hcl=>?_
 rw [ql fun m hm=>by rw [qzm hm],q35 hc h1 hk ht _ hi]
 exact ql fun m hm=>by rw [q2E (by rw [hc.1]; exact hm),hc.1]; rfl
theorem q6x (hc:qcf k total rs) (h1:1 <= k) (hk:k <= total) (ht:total <= 255) {f:Nat->List Int} {l r:Nat} (hf:∀ j,j < k->(f j).length = l/\qw (f j)) (hr:r < total) {g:Nat->List Int} (hg:∀ i,i < k->g i = qbC f (qma rs (i:Int)) l k) :
  qbC g (seg (qc8 k total) (r * k) k) l k = qbC f (qma rs (r:Int)) l k:=by
 obtain ⟨g1,g2,_,g4⟩:=qfJ h1 hk ht
 have hgf:∀ i,i < k->(g i).length = l/\qw (g i):=fun i hi=>by
  obtain ⟨a,b,_⟩:=qfU (qkq (xs:=rs) (x:=(i:Int))) k hf
  rw [hg i hi]; exact ⟨a,b⟩
 refine q40 (quX g2) qkq hgf hf fun c hcl=>?_
 obtain ⟨y,hy,hL⟩:=qsM (v:=fun j=>toF ((f j).getD c 0)) h1 (qoa hc ht)
 have hx:qbA k xsF:=qeY (by omega)
 have hv:∀ x:Int,qy (fun m=>qh (toF ((qma rs x).getD m 0)) (toF ((f m).getD c 0))) k = q9 k y (toF x):=fun x=>by
  rw [hL]
  exact ql fun m hm=>by rw [q2E (by rw [hc.1]; exact hm),hc.1]
 rw [hv,show toF ((r:Nat):Int) = xsF r from rfl,qll hx]
 refine ql fun m hm=>?_
 rw [qzm hm,g4 r m hr hm,hg m hm,(qfU qkq k hf).2.2 c hcl,hv]
 rfl
end Go.Proofs

set_option linter.unusedSimpArgs false
set_option linter.unusedVariables false
namespace Go.Proofs
open Go Go.Eng
set_option maxRecDepth 100000
theorem qvD {h:Hp} {D:qd} {j:Int} (hb:rdB h (tvs D j.toNat)) (j0:0 <= j):∃ d,Rd h kB (qF D j 0) d/\qn d/\qa3 h D j.toNat = bI d:=by
 rw [qqp j0] at hb
 obtain ⟨d,hr,hB,he⟩:=q7L hb
 exact ⟨d,hr,hB,by rw [qa3,qqp j0,he]⟩
set_option maxHeartbeats 1000000 in
theorem qvP:qbK.ok Tryz.prog:=qwh (by simp [qkl]) fun ρ hg hp=>by
 obtain ⟨hf,k1,k2,kd,hr1,h9,w0,w1,wB,hcol,l9⟩:=hp
 simp (config:={ maxSteps:=4000000 }) [qj1,qbK,qkM,qaX]
 obtain ⟨d0,hrd0,hdB0,hc0⟩:=qvD (hcol 0 (by omega)).1 (j:=0) (by omega)
 have hc0:qa3 (ρ 13).h (ρ 5).d 0 = bI d0:=hc0
 have hl0:(qa3 (ρ 13).h (ρ 5).d 0).length = d0.length:=by rw [hc0,bI_len]
 refine ⟨by omega,by omega,d0,hrd0,by omega,by omega,⟨hf,by omega,hl0.symm,qds,by rw [qiy,hl0]; rfl⟩,fun n _ d _ i _ f _ hf' i0 i1 hn hdl hB hd=>⟨fun hi=>?_,fun hi=>⟨hf',hn,hdl,hB,by rw [hd,show i.i.toNat = (ρ 3).i.toNat by omega]⟩⟩⟩
 obtain ⟨e,hre,heB,hce⟩:=qvD (hcol i.i.toNat (by omega)).1 (j:=i.i) i0
 have hle:e.length = d0.length:=by
  have:=(hcol i.i.toNat (by omega)).2
  rw [hce,bI_len,hl0] at this
  exact this
 have hcb:=qch wB (i:=(ρ 8).i + i.i) (by omega) (by omega)
 rw [add64 (x:=i.i) (by omega) (by omega)]
 refine ⟨i0,w0,by omega,by omega,by omega,by omega,e,hre,⟨hf',⟨by omega,by omega,by omega,by unfold Go.Eng.big; omega⟩,⟨by omega,by omega,by omega,by unfold Go.Eng.big; omega⟩,by omega,hB,heB,hcb⟩,fun f2 _ d2 _ hf2 hl2 hB2 he2=>⟨⟨hf2,by omega,by omega,by omega,by omega,hB2,?_⟩,by omega⟩⟩
 have hsg:seg (bI e) 0 e.length = seg (qa3 (ρ 13).h (ρ 5).d i.i.toNat) 0 (qa3 (ρ 13).h (ρ 5).d 0).length:=by rw [hce,hl0,hle]
 have hwt:(seg (bI (ρ 11).d) (ρ 8).i.toNat (ρ 3).i.toNat).getD i.i.toNat 0 = qb (ρ 11).d ((ρ 8).i + i.i) 0:=by
  rw [qwt (by omega),<- qem (by omega) (by omega),Int.toNat_add w0 i0]
 rw [he2,hd,hsg,show (i.i + 1).toNat = i.i.toNat + 1 by omega,qbC,hwt]
end Go.Proofs

set_option linter.unusedSimpArgs false
set_option linter.unusedVariables false
namespace Go.Proofs
open Go Go.Eng
set_option maxRecDepth 100000
theorem q3Z {d:qd} {i j x:Int} {k:IntKind} (i0:0 <= i) (i1:i < d.length) (j0:0 <= j):qb (qbi d i 0 [.int k x]) j 0 = if j = i then x else qb d j 0:=by
 unfold qb qF qbi
 rw [List.getElem?_set]
 by_cases h:j = i
 ·subst h
  rw [if_pos rfl,if_pos (by omega),if_pos rfl]
  simp [qaq,qag]
 ·rw [if_neg (by omega),if_neg h]
set_option maxHeartbeats 4000000 in
theorem qpQ:qb0.ok Tryz.prog:=q0p (by simp [q81,q85,q8O,qgt,q3U]) fun ρ hg hp=>by
 obtain ⟨hf,hsz,hkn,hn2,hpc,hch,h8,hLeq⟩:=hp
 obtain ⟨k1,k2,k3⟩:=qbH.1 hsz
 have s1:∀ {x:Int},-1 <= x->x <= 1000->qe .add .i64 x 1 = x + 1:=fun h1 h2=>add64 (by omega) (by omega)
 simp (config:={ maxSteps:=4000000 }) [qlX,qb0,qo0,qoN,qo6,q7p,q60,qsr,qp8,qdA,qqf,qeX,qq3,qa2,qak,qfq]
 intro n10 _
 refine ⟨⟨hf,hsz⟩,fun g _ lg _ cg _ f1 _ dg _ ab _ hf1 _ hMg _ hGg u7 _=>⟨by omega,by omega,fun u8 _=>⟨⟨hf1,⟨hMg,hGg⟩,by omega,fun j h1 h2=>by omega⟩,?_⟩⟩⟩
 clear hMg hGg hf1
 intro _ _ R _ i _ f _ _ _ _ _ lg _ cg _ dg _ _ _ _ _ hf1 hMg hGg i0 i1 hRl hR
 refine ⟨fun hi=>?_,fun hi=>?_⟩
 ·obtain ⟨hl,_⟩:=qm4 hpc i0 (by omega)
  rw [s1 (by omega) (by omega)]
  refine ⟨i0,by omega,hl,by omega,⟨hf1,⟨hMg,hGg⟩,by omega,by omega,by rw [qcv]; exact hRl,fun j j0 j1=>?_⟩,by omega⟩
  rw [q3Z i0 (by omega) j0]
  by_cases hji:j = i.i
  ·rw [if_pos hji,hji]
  ·rw [if_neg hji]; exact hR j j0 (by omega)
 have hidx:iI R.d = qc9 (ρ 7).d (ρ 2).i.toNat:=by
  refine qlD (by rw [qw1,qyR]; exact hRl) fun j hj=>?_
  rw [qw1] at hj
  rw [q8D (by omega)]
  have h1:=qjD (d:=R.d) (i:=(j:Int)) (by omega) (by omega)
  rw [Int.toNat_natCast] at h1
  rw [h1,hR _ (by omega) (by omega)]
  rfl
 have hMg':=hMg
 obtain ⟨⟨g1,g2,g3,g4,g5,g6,g7,g8⟩,g9⟩:=hMg'
 have hb:=qI (x:=(ρ 2).i) (y:=(ρ 2).i) (by omega) (show (ρ 2).i <= 255 by omega) (by omega) (show (ρ 2).i <= 255 by omega)
 have hrk:=qw5 hch (by omega) (by omega) (by omega)
 refine ⟨⟨⟨by omega,g6,g7,g8,by omega,by omega⟩,qqb ⟨⟨by omega,g2,k1,by omega,g5⟩,k1,by omega⟩ fun x hx=>by
  rw [hidx] at hx
  have:=hch.2.2 x hx
  omega⟩,fun sr _ ls _ cs _ ds _ _ hMs hLs hSs u24 _=>?_⟩
 obtain ⟨s2,s3,s4,s5,s6,s7,s8,s9⟩:=hMs
 have hte:(bI ds.d).take ls.i.toNat = bI ds.d:=List.take_of_length_le (by rw [bI_len]; omega)
 have hS:bI ds.d = qdn (qc8 (ρ 2).i.toNat (ρ 3).i.toNat) (ρ 2).i.toNat (qc9 (ρ 7).d (ρ 2).i.toNat):=by rw [hSs,hGg,hidx]
 rw [hte,hS]
 refine ⟨⟨⟨hf1,by omega,s7,s8,s9⟩,⟨k1,by omega,k1,by omega,s6⟩,hrk⟩,fun iv _ li _ ci _ f2 _ di _ hf2 _ hMi _ hIi u30 _=>⟨by omega,fun u31 _ H _ _=>⟨⟨⟨hf2,⟨hMg,hGg⟩,hMi,hIi,by omega⟩,⟨fun j hj=>by omega,fun i j hi=>by omega⟩⟩,?_⟩⟩⟩
 clear hMg hGg hf1 hf2 hMi hIi hSs hS hte hLs s2 s3 s4 s5 s6 s7 s8 s9 g1 g2 g3 g4 g5 g6 g7 g8 g9 hidx hR hRl hi i0 i1
 have hINV:=qt5 hch (by omega:1 <= (ρ 2).i.toNat) (by omega) (by omega)
 intro _ _ _ _ i _ f _ _ _ _ _ lg _ cg _ dg _ _ _ _ _ _ _ _ _ li _ ci _ di _ _ _ C _ H _ hf1 hMg hGg hMi hIi hCl hCr i0 i1 ht
 refine ⟨fun hi=>?_,fun hi u52 _ hst=>?_⟩
 ·obtain ⟨hl0,_,d0,hrd0,_,_,hN0⟩:=qm4 hpc (j:=0) (by omega) (by omega)
  have hN0:pcN (ρ 9).h (ρ 7).d 0 = d0.length:=hN0
  refine ⟨by omega,by omega,d0,.inr hrd0,fun u0 _ u1 _=>⟨by omega,fun nr _=>⟨i0,by omega,⟨i0,hi,hMi.1⟩,fun o _ n _ c _ ho hn hc=>⟨by omega,fun H' _ hst=>⟨⟨⟨hf1,⟨hMg,hGg⟩,hMi,hIi,by rw [qcv]; exact hCl,q5r hCr i0 (by omega),i0,i1⟩,hi,ho,hn,by omega,?_⟩,?_⟩⟩⟩⟩⟩
  ·obtain ⟨hx,hy,hdis,lx,ly,dx,dy⟩:=qvS (l1:=[]) hst (y:=SH.abs 61 2) (by simp)
   have hrd:=qv4 (n:=d0.length) (k:=d0.length) dx (Hp.le_refl _) (by simp) (by simp)
   have hrd:Rd hx kB (.slice (qm nr.r 0) d0.length d0.length) (List.replicate d0.length [.int .u8 0]):=by simpa [kB] using hrd
   have hab:Hp.le H.h hy/\Hp.free H.h:=by simpa [SH.den] using dy
   refine q8u ht (Hp.le_trans hab.1 ly) hrd lx (q8j hdis hab.1) qds (fun j hj=>by rw [qza hCr i0 (by omega),if_neg (by omega)]) (by rw [qza hCr i0 (by omega),if_pos rfl]) (fun j hj=>if_neg (by omega)) ?_
   rw [if_pos rfl,qiy,hN0]; rfl
  clear hMg hGg hf1 hMi hIi hCl hCr ht
  intro i' _ f _ lg _ cg _ dg _ li _ ci _ di _ C _ H _ j _ o _ n _ hf1 hMg hGg hMi hIi hCl hCr i0' i1' hi' hii ho hn j0 j1 ht
  have hbo:=qI (x:=i'.i) (y:=(ρ 2).i) i0' (by omega) (by omega) (show (ρ 2).i <= 255 by omega)
  have hMi':=hMi
  obtain ⟨⟨m1,m2,m3,m4,m5,m6,m7,m8⟩,m9⟩:=hMi'
  refine ⟨fun hj=>?_,fun hj=>?_⟩
  ·obtain ⟨hlj,_,d,hrd,hdB,hdD,hdN⟩:=qm4 hpc j0 (show j.i < (ρ 5).i by omega)
   have hlen:d.length = pcN (ρ 9).h (ρ 7).d 0:=by rw [<- hdN]; exact hLeq _ (by omega)
   have hrl:rdL (ρ 9).h (qF (ρ 7).d j.i 1) = bI d:=qfM hrd
   have hltG:i'.i * (ρ 2).i + j.i < (ρ 2).i * (ρ 2).i:=by
    have:=Int.mul_le_mul_of_nonneg_right (show i'.i + 1 <= (ρ 2).i by omega) (show 0 <= (ρ 2).i by omega)
    rw [Int.add_mul,Int.one_mul] at this; omega
   have hcb:=qch m8 (i:=o.i + j.i) (by omega) (by omega)
   rw [s1 (by omega) (by omega),hrl]
   refine ⟨j0,by omega,by omega,by omega,i0',hi',by omega,by omega,hlj,⟨hf1,⟨d,hrd,hdB⟩,by rw [bI_len]; omega,⟨tvs C.d,_,_,i'.i.toNat,ht,by omega,qqp i0',?_⟩,hcb⟩,fun f' _ H' _ hf' hT=>⟨⟨⟨hf',⟨hMg,hGg⟩,hMi,hIi,hCl,hCr,i0',i1'⟩,hi',hii,ho,hn,by omega,by omega,?_⟩,by omega⟩⟩
   ·simp only [if_pos]
    rw [bI_len,qkw]; omega
   ·refine qi9 (hT (tvs C.d) _ _ i'.i.toNat ht (by omega) (qqp i0')) (fun _ _=>rfl) fun r hr=>?_
    by_cases hri:r = i'.i.toNat
    ·subst hri
     rw [if_pos rfl,if_pos rfl]
     show _ = qD _ 0 _ _
     rw [if_pos rfl,show (j.i + 1).toNat = j.i.toNat + 1 by omega,qbC]
     have e1:seg (pcD (ρ 9).h (ρ 7).d j.i.toNat) 0 (pcN (ρ 9).h (ρ 7).d 0) = bI d:=by
      rw [hdD,<- hlen,<- bI_len (d:=d)]; simp [seg]
     have e2:(seg (qj8 (ρ 3).i.toNat (ρ 2).i.toNat (qc9 (ρ 7).d (ρ 2).i.toNat)) (i'.i.toNat * (ρ 2).i.toNat) (ρ 2).i.toNat).getD j.i.toNat 0 = qb di.d (o.i + j.i) 0:=by
      rw [qwt (by omega),<- hIi,<- qem (by omega) (by omega),ho,Int.toNat_add hbo.1 j0,Int.toNat_mul i0' (by omega)]
     rw [e1,e2]
    ·rw [if_neg hri,if_neg hri,if_neg hri]
  ·rw [s1 (by omega) (by omega),show (i'.i + 1).toNat = i'.i.toNat + 1 by omega]
   refine ⟨⟨⟨hf1,⟨hMg,hGg⟩,hMi,hIi,hCl,hCr,by omega,by omega⟩,qi9 ht (fun _ _=>rfl) fun r hr=>?_⟩,by omega⟩
   by_cases hri:r = i'.i.toNat
   ·subst hri
    rw [if_pos rfl,show j.i.toNat = (ρ 2).i.toNat by omega]; rfl
   ·rw [if_neg hri]
 ·obtain ⟨hb2,lb2,db2⟩:=qbQ hst (n:=61) (t:=2) (by simp)
  rw [show i.i.toNat = (ρ 2).i.toNat by omega] at ht
  exact ⟨hf1,hCl,hCr,q5N ht (Hp.le_trans (by simpa using db2) lb2),hMg,hGg⟩
end Go.Proofs

set_option linter.unusedSimpArgs false
set_option linter.unusedVariables false
set_option maxRecDepth 100000
namespace Go.Proofs
open Go Go.Eng

@[simp] def qlz:Sg:=sg 0 [bg 13 20,bv 12 17,bv 11 21,bv 6 2,bv 5 19,bv 1 18,bv 10 25,bv 9 24,bv 8 23,bg 7 15,bv 4 2,bv 3 2,bg 2 14,bg 0 0]
def qjr:Out:=(.fresh 11 (.br (.and (.cmp .eql (.dlen (.var 1)) (.lit 0)) (.isnil 0))
 (.ret 0 (sg 11 [bv 12 1,bt 11 (.lit 1)]))
 (.pre 0 (sg 0 [bv 1 3,bv 0 2]) (.both (.fresh 12 (.post 0 0 (sg 0 [bv 1 3,bv 0 2]) 12 (.br (.not (.var 12))
 (.ret 0 (sg 11 [bv 12 1,bt 11 (.lit 2)]))
 (.br (.cmp .lss (.var 7) (.lit 0))
 (.ret 0 (sg 11 [bv 12 1,bt 11 (.lit 2)]))
 (.br (.cmp .geq (.var 7) (.var 3))
 (.ret 0 (sg 11 [bv 12 1,bt 11 (.lit 2)]))
 (.pre 1 (sg 0 [bg 8 10,bv 7 9,bv 6 8,bv 5 6,bv 4 5,bg 3 4,bt 2 (.lit (-1)),bv 1 3,bv 0 2]) (.both (.fresh 13 (.post 1 0 (sg 0 [bg 8 10,bv 7 9,bv 6 8,bv 5 6,bv 4 5,bg 3 4,bt 2 (.lit (-1)),bv 1 3,bv 0 2]) 13 (.br (.cmp .neq (.var 13) (.lit 0))
 (.ret 0 (sg 11 [bv 12 1,bv 11 13]))
 (.pre 2 (sg 0 [bg 9 10,bv 8 9,bv 7 8,bv 1 1,bv 6 6,bv 5 5,bg 4 4,bv 3 3,bv 2 2,bg 0 0]) (.both (.fresh 14 (.fresh 15 (.fresh 16 (.fresh 17 (.fresh 18 (.fresh 19 (.fresh 20 (.fresh 21 (.post 2 0 (sg 0 [bg 9 10,bv 8 9,bv 7 8,bv 1 1,bv 6 6,bv 5 5,bg 4 4,bv 3 3,bv 2 2,bg 0 0]) 14 (.fresh 22 (.pre 3 (sg 0 [bv 6 17,bv 5 21,bv 7 7,bv 4 17,bv 3 16,bg 2 15,bv 1 2,bv 0 3]) (.both (.fresh 23 (.fresh 24 (.fresh 25 (.post 3 0 (sg 0 [bv 6 17,bv 5 21,bv 7 7,bv 4 17,bv 3 16,bg 2 15,bv 1 2,bv 0 3]) 23 (.pre 4 qlz (.both (.fresh 26 (.fresh 27 (.fresh 28 (.fresh 29 (.fresh 30 (.post 4 0 qlz 26 (.ret 1 (sg 11 [bv 15 30,bv 14 29,bv 13 28,bv 12 27,bg 11 26])))))))) .top)))))) .top)))))))))))) .top))))) .top))))))) .top))))
theorem qsi:qj ⟨Tryz.prog,qbJ,[qam,qb3,qb0,qak,qbK],[]⟩ 100000 Tryz.f125 = qjr:=by kernel_rfl
theorem quM (hd:∀ c ∈ ([qam,qb3,qb0,qak,qbK]:List Ctr),c.ok Tryz.prog) (h:∀ ρ:Env,ρ.good->(qbJ).pre ρ->qjr.den ⟨Tryz.prog,qbJ,[qam,qb3,qb0,qak,qbK],[]⟩ ρ):(qbJ).ok Tryz.prog :=
 qf Tryz.func125 (fun a w=>Tryz.call125 a w) hd 100000 (fun ρ hg hp=>by rw [qsi]; exact h ρ hg hp)
end Go.Proofs

set_option linter.unusedSimpArgs false
set_option linter.unusedVariables false
namespace Go.Proofs
open Go Go.Eng
set_option maxRecDepth 100000
theorem qh3 {d:qd} (h:qk d):d ≠ []:=(qbT h).1
structure PcIn (h:Hp) (D:qd) (k total n:Int):Prop where
 k1:1 <= k
 k2:k <= total
 k3:total <= 255
 kn:k <= n
 sol:q3E h D k total n
 idx:∀ j,j < n.toNat->0 <= pcI D j/\pcI D j < total
 len:∀ j,j < n.toNat->pcN h D j = pcN h D 0
 fs:∀ j,j < n.toNat->(pcD h D j).length = pcN h D 0/\qw (pcD h D j)
theorem qBG {h:Hp} {D:qd} {k total n:Int} (hs:qT k total = true) (hp:qhC h D n) (hc:qv6 h D k total (-1) n 0):PcIn h D k total n:=by
 obtain ⟨k1,k2,k3⟩:=qbH.1 hs
 obtain ⟨n0,n1,hpc⟩:=hp
 obtain ⟨ho,hk⟩:=q4c hc
 have hw:qfv (-1) (pcN h D) = (pcN h D 0:Int):=if_pos (by omega)
 have hL:∀ j,j < n.toNat->pcN h D j = pcN h D 0:=fun j hj=>by
  have:=(ho j hj).2.2.2
  rw [hw] at this; omega
 exact ⟨k1,k2,k3,by omega,⟨hs,by omega,n1,hpc,qme ho (by omega),(ho 0 (by omega)).2.2.1 (by omega),fun j hj=>hL j (by omega)⟩,fun j hj=>(ho j hj).1,hL,fun j hj=>by
  obtain ⟨v,d,_,_,_,hB,hd⟩:=quf hpc hj
  exact ⟨hL j hj,by rw [hd]; exact allB_list hB⟩⟩
variable {h:Hp} {D:qd} {k total n:Int}
theorem PcIn.f (p:PcIn h D k total n):∀ j,j < k.toNat->(pcD h D j).length = pcN h D 0/\qw (pcD h D j):=fun j hj=>p.fs j (by have:=p.kn; omega)
theorem PcIn.cols (p:PcIn h D k total n) {hc:Hp} {C:qd} (ht:qdR hc (tvs C) k.toNat (qnj h D total.toNat k.toNat)) :
  (∀ j,j < k.toNat->rdB hc (tvs C j)/\(qa3 hc C j).length = (qa3 hc C 0).length)/\(qa3 hc C 0).length = pcN h D 0/\∀ r:Int,0 <= r->r < total->qbC (qa3 hc C) (seg (qc8 k.toNat total.toNat) (r.toNat * k.toNat) k.toNat) (qa3 hc C 0).length k.toNat = qgF h D k.toNat r:=by
 have h1:=p.k1
 have h2:=p.k2
 have h3:=p.k3
 have hch:=p.sol.2.2.2.2.1
 have hcol:∀ j,j < k.toNat->rdB hc (tvs C j)/\qa3 hc C j = qnj h D total.toNat k.toNat j:=fun j hj=>by
  obtain ⟨d,hr,hd,hB⟩:=qpr ht hj
  exact ⟨⟨d,hr,hB⟩,by rw [qa3,qfM hr,hd]⟩
 have hl:∀ j,j < k.toNat->(qa3 hc C j).length = pcN h D 0:=fun j hj=>by
  rw [(hcol j hj).2,qnj,qkw]
 refine ⟨fun j hj=>⟨(hcol j hj).1,by rw [hl j hj,hl 0 (by omega)]⟩,hl 0 (by omega),fun r r0 r1=>?_⟩
 rw [hl 0 (by omega),q6x hch (by omega) (by omega) (by omega) (f:=pcD h D) p.f (by omega) (r:=r.toNat) (fun i hi=>by
  rw [(hcol i hi).2,qnj,qzt hch (by omega) (by omega) (by omega) p.f hi]),Int.toNat_of_nonneg r0]
 rfl
theorem PcIn.value (p:PcIn h D k total n):(∀ j:Nat,(j:Int) < k->0 <= pcI D j/\pcI D j < 256)/\(qc9 D k.toNat).Nodup/\pcN h D 0 <= 9000/\(∀ j:Nat,(j:Int) < k->pcN h D j = pcN h D 0)/\qjw h D k.toNat:=by
 have h1:=p.k1
 have h2:=p.k2
 have h3:=p.k3
 have h4:=p.kn
 have h5:=p.sol.2.2.2.2.2.1
 refine ⟨fun j hj=>?_,p.sol.2.2.2.2.1.2.1,by omega,fun j hj=>p.len j (by omega),fun j hj=>p.sol.2.2.2.1 j (by omega)⟩
 have:=p.idx j (by omega)
 omega
set_option maxHeartbeats 1000000 in
theorem qwv:qbJ.ok Tryz.prog:=quM (by simp [qh2,qqX,qpQ,qgt,qvP]) fun ρ hg hp=>by
 obtain ⟨hf,hpre⟩:=hp
 have hpre':=hpre
 obtain ⟨n0,n1,hpc⟩:=hpre'
 simp (config:={ maxSteps:=4000000 }) [qjr,qbJ,qam,qb3,qud,qb0,qsr,qak,qbK]
 refine ⟨fun h=>(qh3 hf h).elim,fun _ b _ hb=>⟨fun h=>⟨hf,.inl ⟨.inl (by rw [<- hb,h]),rfl⟩⟩,fun h=>⟨fun hi=>⟨hf,.inl ⟨.inr (.inl hi),rfl⟩⟩,fun i0=>⟨fun hi=>⟨hf,.inl ⟨.inr (.inr hi),rfl⟩⟩,fun i1=>?_⟩⟩⟩⟩
 have hs:qT (ρ 2).i (ρ 3).i = true:=by rw [<- hb,h]
 obtain ⟨k1,k2,k3⟩:=qbH.1 hs
 refine ⟨⟨k3,n0,n1,hpc⟩,fun e _ he=>⟨fun hne=>⟨hf,.inr ⟨hs,i0,i1,he,hne⟩⟩,fun he0=>?_⟩⟩
 rw [he0] at he
 have P:PcIn (ρ 10).h (ρ 8).d (ρ 2).i (ρ 3).i (ρ 5).i:=qBG hs hpre he
 refine ⟨⟨hf,P.sol⟩,fun lg _ cg _ f1 _ C _ H _ dg _ hf1 hCl hCr ht hMg hGg=>⟨⟨i0,i1,hMg.1⟩,fun o _ m _ c _ ho hm hc=>?_⟩⟩
 obtain ⟨c1,c2,c3⟩:=P.cols ht
 obtain ⟨⟨g1,g2,g3,g4,g5,g6,g7,g8⟩,g9⟩:=hMg
 have hbo:=qI (x:=(ρ 7).i) (y:=(ρ 2).i) (a:=255) i0 (by omega) (by omega) (show (ρ 2).i <= 255 by omega)
 have hrow:=Int.mul_le_mul_of_nonneg_right (show (ρ 7).i + 1 <= (ρ 3).i by omega) (show 0 <= (ρ 2).i by omega)
 rw [Int.add_mul,Int.one_mul] at hrow
 have h8:=P.sol.2.2.2.2.2.1
 refine ⟨⟨hf1,k1,by omega,by omega,hCr,hm,by omega,by omega,g8,fun j hj=>c1 j (by omega),by omega⟩,fun n _ f2 _ d _ hf2 hn hl hB hd=>⟨hf2,⟨hs,i0,i1,he⟩,hn,by omega,hB,?_⟩⟩
 rw [hd,hGg,ho,Int.toNat_mul i0 (by omega),c3 _ i0 i1]
end Go.Proofs

set_option linter.unusedSimpArgs false
set_option linter.unusedVariables false
namespace Go.Proofs
open Go Go.Eng
set_option maxRecDepth 100000
variable {h h':Hp} {D D':qd} {k total n index len e e':Int} {b b':Bool}
end Go.Proofs

set_option linter.unusedSimpArgs false
set_option linter.unusedVariables false
namespace Go.Proofs
open Go Go.Eng
theorem qw3 {f:Nat->List Int} {l:Nat}:∀ {n:Nat},(∀ j,j < n->(f j).length = l)->(qda f n).length = n * l
 | 0,_=>by simp [qda]
 | n + 1,h=>by
  rw [qda,List.length_append,qw3 fun j hj=>h j (by omega),h n (by omega),Nat.add_mul,Nat.one_mul]
theorem qzr {f:Nat->List Int} {l:Nat}:∀ {n:Nat},(∀ j,j < n->(f j).length <= l)->(qda f n).length <= n * l
 | 0,_=>by simp [qda]
 | n + 1,h=>by
  have h1:=qzr (n:=n) fun j hj=>h j (by omega)
  have h2:=h n (by omega)
  rw [qda,List.length_append,Nat.add_mul,Nat.one_mul]; omega
theorem qqy {f g:Nat->List Int}:∀ {n:Nat},(∀ j,j < n->f j = g j)->qda f n = qda g n
 | 0,_=>rfl
 | n + 1,h=>by rw [qda,qda,qqy fun j hj=>h j (by omega),h n (by omega)]
theorem q7G {h:Hp} {D:qd} {k total n size:Int} (hp:qhC h D n) (hd:qrr h D k total size n):PcIn h D k total n/\pcN h D 0 = qA k.toNat size.toNat:=by
 obtain ⟨hs,s0,s1,hc⟩:=hd
 obtain ⟨k1,k2,k3⟩:=qbH.1 hs
 obtain ⟨n0,n1,hpc⟩:=hp
 obtain ⟨ho,hk⟩:=q4c hc
 have hw:qfv (plI k size) (pcN h D) = plI k size:=if_neg (by unfold plI; omega)
 have hL:∀ j,j < n.toNat->pcN h D j = qA k.toNat size.toNat:=fun j hj=>by
  have:=(ho j hj).2.2.2
  rw [hw] at this; unfold plI at this; omega
 have hpl:=qgS (k:=k.toNat) (n:=size.toNat) (by omega)
 have h0:=hL 0 (by omega)
 refine ⟨⟨k1,k2,k3,by omega,⟨hs,by omega,n1,hpc,qme ho (by omega),by omega,fun j hj=>by rw [hL j (by omega),h0]⟩,fun j hj=>(ho j hj).1,fun j hj=>by rw [hL j hj,h0],fun j hj=>?_⟩,h0⟩
 obtain ⟨v,d,_,_,_,hB,hd⟩:=quf hpc hj
 exact ⟨by rw [h0,<- hL j hj]; rfl,by rw [hd]; exact allB_list hB⟩
theorem qrp {h:Hp} {D:qd} {k:Nat} {x:Int}:(qgF h D k x).length = pcN h D 0:=qkw _
theorem PcIn.cat {h:Hp} {D:qd} {k total n:Int} (p:PcIn h D k total n) {hc:Hp} {C:qd} (ht:qdR hc (tvs C) k.toNat (qnj h D total.toNat k.toNat)) :
  (∀ j,j < k.toNat->rdB hc (tvs C j)/\(qa3 hc C j).length = pcN h D 0)/\qda (qa3 hc C) k.toNat = qwi h D k.toNat/\(qwi h D k.toNat).length = k.toNat * pcN h D 0:=by
 have h1:=p.k1
 have h2:=p.k2
 have h3:=p.k3
 have hch:=p.sol.2.2.2.2.1
 have hcol:∀ j,j < k.toNat->rdB hc (tvs C j)/\qa3 hc C j = qgF h D k.toNat (j:Int):=fun j hj=>by
  obtain ⟨d,hr,hd,hB⟩:=qpr ht hj
  refine ⟨⟨d,hr,hB⟩,?_⟩
  rw [qa3,qfM hr,hd,qnj,qzt hch (by omega) (by omega) (by omega) p.f hj]
  rfl
 refine ⟨fun j hj=>⟨(hcol j hj).1,by rw [(hcol j hj).2,qrp]⟩,qqy fun j hj=>(hcol j hj).2,qw3 fun j hj=>qrp⟩
end Go.Proofs

set_option linter.unusedSimpArgs false
set_option linter.unusedVariables false
namespace Go.Proofs
open Go Go.Eng
theorem qi5 {k n t s l i:Int} {D:List (List Int)} {m:List Int} (h:qcg k n t s l D i m = 0):qz k n t s l = true/\0 <= i/\i < t/\(m.length:Int) = qdi k s/\sha (qba i ++ m) = D.getD i.toNat []:=by
 unfold qcg at h
 by_cases h1:qz k n t s l = false
 ·rw [if_pos h1] at h; omega
 rw [if_neg h1] at h
 by_cases h2:i < 0∨t <= i
 ·rw [if_pos h2] at h; omega
 rw [if_neg h2] at h
 by_cases h3:(m.length:Int) ≠ qdi k s
 ·rw [if_pos h3] at h; omega
 rw [if_neg h3] at h
 by_cases h4:sha (qba i ++ m) ≠ D.getD i.toNat []
 ·rw [if_pos h4] at h; omega
 exact ⟨by simpa using h1,by omega,by omega,by omega,by simpa using h4⟩
theorem qdq {k n t s l:Int}:qz k n t s l = true↔1 <= k/\k <= n/\n <= t/\t <= 255/\0 <= s/\s <= 8192/\l = t:=by
 simp [qz,qbe,and_assoc]
theorem qo3 {k s:Int} (hk:1 <= k) (hs:0 <= s):qdi k s = plI k s:=by
 obtain ⟨k,rfl⟩:=Int.eq_ofNat_of_zero_le (show 0 <= k by omega)
 obtain ⟨s,rfl⟩:=Int.eq_ofNat_of_zero_le hs
 have e:((s:Int) + (k:Int) - 1) = ((s + k - 1:Nat):Int):=by omega
 unfold qdi plI qA
 rw [e,Int.ofNat_tdiv]
 simp
theorem qle {k n t s l:Int} {D:List (List Int)} {h:Hp} {P:qd} (hc:qee (qk2 k n t s l D h P) (pcI P) P.length k 0) (hm:qz k n t s l = true) (len:Int) (hl:len = -1∨len = plI k s) :
  qhO t len (pcI P) (pcN h P) P.length/\k <= (P.length:Int)/\∀ j,j < P.length->(pcN h P j:Int) = plI k s:=by
 obtain ⟨k1,k2,k3,k4,s0,s1,_⟩:=qdq.1 hm
 obtain ⟨h1,h2⟩:=qsT hc
 have hp:qdi k s = plI k s:=qo3 (by omega) s0
 have hL:∀ j,j < P.length->(pcN h P j:Int) = plI k s:=fun j hj=>by
  rw [<- hp]; exact (qi5 (h1 j hj).1).2.2.2.1
 have hs:plI k s <= 8192:=by
  have:=qgS (k:=k.toNat) (n:=s.toNat) (by omega)
  unfold plI; omega
 have hpos:0 <= plI k s:=by unfold plI; omega
 have h0:=hL 0 (by omega)
 have hw:qfv len (pcN h P) = plI k s:=by
  unfold qfv
  by_cases hn:len < 0
  ·rw [if_pos hn,h0]
  ·rw [if_neg hn]; omega
 refine ⟨fun j hj=>⟨⟨(qi5 (h1 j hj).1).2.1,(qi5 (h1 j hj).1).2.2.1⟩,(h1 j hj).2,fun _=>by have:=hL j hj; omega,by rw [hw,hL j hj]⟩,h2,hL⟩
theorem qtr {k n t s l:Int} (hm:qz k n t s l = true):qT k t = true:=by
 obtain ⟨k1,k2,k3,k4,s0,s1,_⟩:=qdq.1 hm
 exact qbH.2 ⟨k1,by omega,k4⟩
theorem q5l {k n t s l x m:Int} {D:List (List Int)} {h:Hp} {P:qd} (hc:qee (qk2 k n t s l D h P) (pcI P) P.length k 0) (hm:qz k n t s l = true) (hn:m = P.length) (h0:0 <= x) (h1:x < t):q5d h P k t m x:=by
 subst hn
 obtain ⟨a,b,_⟩:=qle hc hm (-1) (.inl rfl)
 exact ⟨qtr hm,h0,h1,.inr ⟨a,.inr ⟨by simpa using b,rfl⟩⟩⟩
theorem q5v {k n t s l m:Int} {D:List (List Int)} {h:Hp} {P:qd} (hc:qee (qk2 k n t s l D h P) (pcI P) P.length k 0) (hm:qz k n t s l = true) (hn:m = P.length):qrr h P k t s m:=by
 subst hn
 obtain ⟨a,b,_⟩:=qle hc hm (plI k s) (.inr rfl)
 obtain ⟨k1,k2,k3,k4,s0,s1,_⟩:=qdq.1 hm
 exact ⟨qtr hm,s0,s1,.inr ⟨a,.inr ⟨by simpa using b,rfl⟩⟩⟩
theorem q9h {h:Hp} {D:qd} {k t n x e:Int} (a:q5d h D k t n x) (b:q9S h D k t n x e):False:=by
 obtain ⟨a1,a2,a3,a4⟩:=a
 rcases b with ⟨b1,_⟩ | ⟨_,_,_,b4,b5⟩
 ·rcases b1 with b1 | b1 | b1
  ·rw [a1] at b1; cases b1
  ·omega
  ·omega
 ·exact b5 (q4M b4 a4)
theorem q8X {h:Hp} {D:qd} {k t s n e:Int} (a:qrr h D k t s n) (b:q75 h D k t s n e):False:=by
 obtain ⟨a1,a2,a3,a4⟩:=a
 rcases b with ⟨b1,_⟩ | ⟨_,_,_,b4,b5⟩
 ·rcases b1 with b1 | b1 | b1
  ·rw [a1] at b1; cases b1
  ·omega
  ·omega
 ·exact b5 (q4M b4 a4)
end Go.Proofs

set_option linter.unusedSimpArgs false
set_option linter.unusedVariables false
set_option maxRecDepth 100000
namespace Go.Proofs
open Go Go.Eng

@[simp] def qwf:Sg:=sg 0 [bv 17 17,bv 15 27,bv 14 28,bv 9 9,bv 8 8,bv 13 27,bt 12 (.dlen (.var 28)),bg 11 26,bt 10 (.icell (.var 13) (.var 24) 0),bv 7 7,bv 6 6,bg 5 5,bv 3 3,bv 2 2,bv 1 1,bv 0 0,bt 4 (r8 4),bg 16 16]
def qu9:Out:=(.fresh 18 (.mop .new 19 (.need (.cmp .leq (.lit 0) (.var 11)) (.inv 0 21 (sg 1000 [bg 1000 19,bt 1003 (.lit 0),bv 1001 20,bg 1002 18]) (.fresh 21 (.fresh 22 (.fresh 23 (.fresh 24 (.hyp 0 21 (.br (.cmp .lss (.var 24) (.var 11))
 (.need (.cmp .leq (.lit 0) (.var 24)) (.need (.cmp .lss (.var 24) (.dlen (.var 13))) (.fresh 25 (.viewL (.vcell (.var 13) (.var 24) 1) [CK.int .u8] [15] 26 (.pre 0 qwf (.both (.fresh 29 (.post 0 0 qwf 29 (.br (.cmp .neq (.var 29) (.lit 0))
 (.ret 0 (sg 18 [bv 18 29]))
 (.mop (.get (.var 22) [(.icell (.var 13) (.var 24) 0)] ⟨false,[.i64],false,[CK.bool],[(.vbool (.bl false))]⟩ [21]) 30 (.br (.c2 (.xbool 0) (.var 30) (.lit 0))
 (.ret 0 (sg 18 [bt 18 (.lit 7)]))
 (.mop (.put 21 (.var 22) [(.icell (.var 13) (.var 24) 0)] [(.vbool (.bl true))] ⟨false,[.i64],false,[CK.bool],[(.vbool (.bl false))]⟩) 31 (.back 0 21 (sg 1000 [bg 1000 31,bt 1003 (.arith .add .i64 (.var 24) (.lit 1)),bv 1001 22,bg 1002 23])) .top)) .top)))) .top))))))
 (.br (.cmp .lss (.var 11) (.var 0))
 (.ret 0 (sg 18 [bt 18 (.lit 12)]))
 (.ret 0 (sg 18 [bt 18 (.lit 0)]))))))))))) .top))
theorem q4Q:qj ⟨Tryz.prog,qdX,[qbb],[q2e]⟩ 100000 Tryz.f75 = qu9:=by kernel_rfl
theorem q91 (hd:∀ c ∈ ([qbb]:List Ctr),c.ok Tryz.prog) (h:∀ ρ:Env,ρ.good->(qdX).pre ρ->qu9.den ⟨Tryz.prog,qdX,[qbb],[q2e]⟩ ρ):(qdX).ok Tryz.prog :=
 qf Tryz.func75 (fun a w=>Tryz.call75 a w) hd 100000 (fun ρ hg hp=>by rw [q4Q]; exact h ρ hg hp)
@[simp] def qry:Sg:=sg 0 [bg 10 17,bv 9 16,bv 8 15,bv 1 1,bv 7 14,bv 6 13,bg 5 12,bv 4 5,bv 3 4,bv 2 2,bg 0 0]
@[simp] def qzk:Sg:=sg 0 [bv 7 19,bt 5 (.lit 0),bt 4 .dnil,bt 3 (.lit 0),bt 2 (.lit 0),bt 1 (.lit 0),(0,.nil),bg 6 18]
@[simp] def qyV:Out:=.ret 0 (sg 20 [bt 22 (.lit 0),bt 23 .dnil,bv 25 24,bt 24 (.lit 20),bt 26 (.lit 0),bt 21 (.lit 0),(20,.nil)])
@[simp] def qzx:Sg:=sg 0 [bv 17 19,bg 15 17,bv 14 16,bv 13 15,bv 9 11,bv 8 10,bv 12 14,bv 11 13,bg 10 12,bv 7 9,bv 6 8,bg 5 7,bv 3 5,bv 2 4,bv 1 3,bv 0 2,bt 4 (r8 6),bg 16 18]
def q0X:Out:=(.fresh 20 (.br (.and (.cmp .eql (.dlen (.var 1)) (.lit 0)) (.isnil 0))
 (.ret 0 (sg 20 [bt 22 (.lit 0),bt 23 .dnil,bv 25 1,bt 24 (.lit 1),bt 26 (.lit 0),bt 21 (.lit 0),(20,.nil)]))
 (.pre 0 (sg 0 [bv 9 11,bv 8 10,bv 7 9,bv 6 8,bg 5 7,bv 3 5,bv 2 4,bv 1 3,bv 0 2,bt 4 (r8 6)]) (.both (.fresh 21 (.post 0 0 (sg 0 [bv 9 11,bv 8 10,bv 7 9,bv 6 8,bg 5 7,bv 3 5,bv 2 4,bv 1 3,bv 0 2,bt 4 (r8 6)]) 21 (.br (.cmp .neq (.var 21) (.lit 0))
 (.ret 0 (sg 20 [bt 22 (.lit 0),bt 23 .dnil,bv 25 1,bv 24 21,bt 26 (.lit 0),bt 21 (.lit 0),(20,.nil)]))
 (.pre 1 qzx (.both (.fresh 22 (.post 1 0 qzx 22 (.br (.cmp .neq (.var 22) (.lit 0))
 (.ret 0 (sg 20 [bt 22 (.lit 0),bt 23 .dnil,bv 25 1,bv 24 22,bt 26 (.lit 0),bt 21 (.lit 0),(20,.nil)]))
 (.pre 2 qry (.both (.fresh 23 (.fresh 24 (.post 2 0 qry 23 (.br (.cmp .neq (.var 23) (.lit 0))
 (.ret 0 (sg 20 [bt 22 (.lit 0),bt 23 .dnil,bv 25 24,bv 24 23,bt 26 (.lit 0),bt 21 (.lit 0),(20,.nil)]))
 (.both (.pre 3 qzk (.both (.fresh 25 (.post 3 0 qzk 25 (.br (.not (.c2 .req (r8 25) (r8 6)))
 qyV
 (.ret 0 (sg 20 [bt 22 (.lit 0),bt 23 .dnil,bv 25 24,bt 24 (.lit 0),bt 26 (.lit 0),bt 21 (.lit 0),(20,.nil)]))))) .top)) .top))))) (.both (.fresh 23 (.fresh 24 (.fresh 25 (.fresh 26 (.post 2 1 qry 23 (.both (.know (.cmp .leq (.dlen (.var 25)) (.var 26)) (.pre 3 (sg 0 [bv 7 19,bv 5 26,bv 4 25,bv 3 5,bv 2 5,bt 1 (.lit 0),bg 0 23,bg 6 18]) (.both (.fresh 27 (.post 3 0 (sg 0 [bv 7 19,bv 5 26,bv 4 25,bv 3 5,bv 2 5,bt 1 (.lit 0),bg 0 23,bg 6 18]) 27 (.br (.not (.c2 .req (r8 27) (r8 6)))
 qyV
 (.ret 0 (sg 20 [bv 22 26,bv 23 25,bv 25 24,bt 24 (.lit 0),bv 26 5,bv 21 5,bg 20 23]))))) .top))) .top)))))) .top)))))) .top))))) .top))))
theorem q7v:qj ⟨Tryz.prog,qkv,[qaz,qdX,qcp,qah],[]⟩ 100000 Tryz.f19 = q0X:=by kernel_rfl
theorem qAl (hd:∀ c ∈ ([qaz,qdX,qcp,qah]:List Ctr),c.ok Tryz.prog) (h:∀ ρ:Env,ρ.good->(qkv).pre ρ->q0X.den ⟨Tryz.prog,qkv,[qaz,qdX,qcp,qah],[]⟩ ρ):(qkv).ok Tryz.prog :=
 qf Tryz.func19 (fun a w=>Tryz.call19 a w) hd 100000 (fun ρ hg hp=>by rw [q7v]; exact h ρ hg hp)
@[simp] def qrg:Sg:=sg 0 [bg 10 17,bv 9 16,bv 8 15,bv 1 1,bv 7 20,bv 6 14,bv 5 13,bg 4 12,bv 3 4,bv 2 2,bg 0 0]
@[simp] def qzC:Out:=.ret 0 (sg 21 [bt 25 .dnil,bv 27 1,bt 26 (.lit 2),bt 24 (.lit 0),bt 23 (.lit 0),(22,.nil),bt 21 (.lit 0)])
@[simp] def qyQ:Sg:=sg 0 [bv 8 19,bt 6 (.lit 0),bt 5 .dnil,bt 4 (.lit 0),bt 3 (.lit 0),bt 2 (.lit 0),(1,.nil),bv 0 20,bg 7 18]
@[simp] def qzh:Sg:=sg 0 [bv 17 19,bg 15 17,bv 14 16,bv 13 15,bv 9 11,bv 8 10,bv 12 14,bv 11 13,bg 10 12,bv 7 9,bv 6 8,bg 5 7,bv 3 5,bv 2 4,bv 1 3,bv 0 2,bt 4 (r8 6),bg 16 18]
@[simp] def qzn:T:=.rcons (i8 10 20 0) (.rcons (i8 10 20 1) (.rcons (i8 10 20 2) (.rcons (i8 10 20 3) (.rcons (i8 10 20 4) (.rcons (i8 10 20 5) (.rcons (i8 10 20 6) (.rcons (i8 10 20 7) (.rcons (i8 10 20 8) (.rcons (i8 10 20 9) (.rcons (i8 10 20 10) (.rcons (i8 10 20 11) (.rcons (i8 10 20 12) (.rcons (i8 10 20 13) (.rcons (i8 10 20 14) (.rcons (i8 10 20 15) (.rcons (i8 10 20 16) (.rcons (i8 10 20 17) (.rcons (i8 10 20 18) (.rcons (i8 10 20 19) (.rcons (i8 10 20 20) (.rcons (i8 10 20 21) (.rcons (i8 10 20 22) (.rcons (i8 10 20 23) (.rcons (i8 10 20 24) (.rcons (i8 10 20 25) (.rcons (i8 10 20 26) (.rcons (i8 10 20 27) (.rcons (i8 10 20 28) (.rcons (i8 10 20 29) (.rcons (i8 10 20 30) (.rcons (i8 10 20 31) .rnil)))))))))))))))))))))))))))))))
def q2x:Out:=(.fresh 21 (.fresh 22 (.br (.and (.cmp .eql (.dlen (.var 1)) (.lit 0)) (.isnil 0))
 (.ret 0 (sg 21 [bt 25 .dnil,bv 27 1,bt 26 (.lit 1),bt 24 (.lit 0),bt 23 (.lit 0),(22,.nil),bt 21 (.lit 0)]))
 (.pre 0 (sg 0 [bv 9 11,bv 8 10,bv 7 9,bv 6 8,bg 5 7,bv 3 5,bv 2 4,bv 1 3,bv 0 2,bt 4 (r8 6)]) (.both (.fresh 23 (.post 0 0 (sg 0 [bv 9 11,bv 8 10,bv 7 9,bv 6 8,bg 5 7,bv 3 5,bv 2 4,bv 1 3,bv 0 2,bt 4 (r8 6)]) 23 (.br (.cmp .neq (.var 23) (.lit 0))
 (.ret 0 (sg 21 [bt 25 .dnil,bv 27 1,bv 26 23,bt 24 (.lit 0),bt 23 (.lit 0),(22,.nil),bt 21 (.lit 0)]))
 (.br (.cmp .lss (.var 20) (.lit 0))
 qzC
 (.br (.cmp .geq (.var 20) (.var 4))
 qzC
 (.pre 1 qzh (.both (.fresh 24 (.post 1 0 qzh 24 (.br (.cmp .neq (.var 24) (.lit 0))
 (.ret 0 (sg 21 [bt 25 .dnil,bv 27 1,bv 26 24,bt 24 (.lit 0),bt 23 (.lit 0),(22,.nil),bt 21 (.lit 0)]))
 (.pre 2 qrg (.both (.fresh 25 (.fresh 26 (.post 2 0 qrg 25 (.fresh 27 (.br (.cmp .neq (.var 25) (.lit 0))
 (.ret 0 (sg 21 [bt 25 .dnil,bv 27 26,bv 26 25,bt 24 (.lit 0),bt 23 (.lit 0),(22,.nil),bt 21 (.lit 0)]))
 (.need (.cmp .leq (.lit 0) (.var 20)) (.need (.cmp .lss (.var 20) (.var 8)) (.need (.cmp .lss (.var 20) (.dlen (.var 10))) (.both (.pre 3 qyQ (.both (.fresh 28 (.post 3 0 qyQ 28 (.br (.not (.c2 .req (r8 28) qzn))
 (.ret 0 (sg 21 [bt 25 .dnil,bv 27 26,bt 26 (.lit 20),bt 24 (.lit 0),bt 23 (.lit 0),(22,.nil),bt 21 (.lit 0)]))
 (.ret 0 (sg 21 [bt 25 .dnil,bv 27 26,bt 26 (.lit 0),bt 24 (.lit 0),bt 23 (.lit 0),(22,.nil),bt 21 (.lit 0)]))))) .top)) .top))))))))) (.both (.fresh 25 (.fresh 26 (.fresh 27 (.fresh 28 (.fresh 29 (.post 2 1 qrg 25 (.fresh 30 (.need (.cmp .leq (.lit 0) (.var 20)) (.need (.cmp .lss (.var 20) (.var 8)) (.need (.cmp .lss (.var 20) (.dlen (.var 10))) (.both (.know (.cmp .leq (.dlen (.var 29)) (.var 27)) (.pre 3 (sg 0 [bv 8 19,bv 6 27,bv 5 29,bv 4 27,bv 3 26,bt 2 (.lit 0),bg 1 25,bv 0 20,bg 7 18]) (.both (.fresh 31 (.post 3 0 (sg 0 [bv 8 19,bv 6 27,bv 5 29,bv 4 27,bv 3 26,bt 2 (.lit 0),bg 1 25,bv 0 20,bg 7 18]) 31 (.br (.not (.c2 .req (r8 31) qzn))
 (.ret 0 (sg 21 [bt 25 .dnil,bv 27 28,bt 26 (.lit 20),bt 24 (.lit 0),bt 23 (.lit 0),(22,.nil),bt 21 (.lit 0)]))
 (.ret 0 (sg 21 [bv 25 29,bv 27 28,bt 26 (.lit 0),bv 24 27,bv 23 26,bg 22 25,bv 21 20]))))) .top))) .top))))))))))) .top)))))) .top))))))) .top)))))
theorem q5f:qj ⟨Tryz.prog,qkD,[qaz,qdX,qbJ,qaB],[]⟩ 100000 Tryz.f92 = q2x:=by kernel_rfl
theorem qAp (hd:∀ c ∈ ([qaz,qdX,qbJ,qaB]:List Ctr),c.ok Tryz.prog) (h:∀ ρ:Env,ρ.good->(qkD).pre ρ->q2x.den ⟨Tryz.prog,qkD,[qaz,qdX,qbJ,qaB],[]⟩ ρ):(qkD).ok Tryz.prog :=
 qf Tryz.func92 (fun a w=>Tryz.call92 a w) hd 100000 (fun ρ hg hp=>by rw [q5f]; exact h ρ hg hp)
end Go.Proofs

set_option linter.unusedSimpArgs false
set_option linter.unusedVariables false
set_option maxRecDepth 100000
namespace Go.Proofs
open Go Go.Eng

def qoB:Out:=(.br (.cmp .lss (.var 0) (.lit 0))
 (.stuck 15 0 0)
 (.br (.cmp .gtr (.arith .sub .i64 (.var 0) (.lit 0)) (.lit 0))
 (.need (.cmp .leq (.lit 0) (.arith .sub .i64 (.var 0) (.lit 0))) (.need (.cmp .leq (.tims (.lit 1) (.arith .sub .i64 (.var 0) (.lit 0))) (.lit 140737488355328)) (.fresh 1 (.fresh 2 (.know (.cmp .leq (.dlen (.drep (.arith .sub .i64 (.var 0) (.lit 0)) (.rcons (.vint .u8 (.lit 0)) .rnil))) (.var 2)) (.need (.cmp .leq (.lit 0) (.var 2)) (.ret 0 (sg 1 [bt 2 (.drep (.arith .sub .i64 (.var 0) (.lit 0)) (.rcons (.vint .u8 (.lit 0)) .rnil)),bv 3 2,bg 1 1]))))))))
 (.ret 0 (sg 1 [bt 2 .dnil,bt 3 (.lit 0),(1,.nil)]))))
theorem qx8:qj ⟨Tryz.prog,qdP,[],[]⟩ 100000 Tryz.f135 = qoB:=by kernel_rfl
theorem q4J (hd:∀ c ∈ ([]:List Ctr),c.ok Tryz.prog) (h:∀ ρ:Env,ρ.good->(qdP).pre ρ->qoB.den ⟨Tryz.prog,qdP,[],[]⟩ ρ):(qdP).ok Tryz.prog :=
 qf Tryz.func135 (fun a w=>Tryz.call135 a w) hd 100000 (fun ρ hg hp=>by rw [qx8]; exact h ρ hg hp)
def qlt:Out:=(.need (.cmp .leq (.lit 0) (.var 1)) (.inv 0 6 (sg 1000 [bt 1000 (.lit 0),bt 1001 (.lit 0)]) (.fresh 6 (.fresh 7 (.hyp 0 6 (.br (.cmp .lss (.var 6) (.var 1))
 (.need (.cmp .leq (.lit 0) (.var 6)) (.need (.cmp .lss (.var 6) (.dlen (.var 3))) (.view (.vcell (.var 3) (.var 6) 0) [CK.int .u8] [5] 8 (.br (.cmp .lss (.arith .add .i64 (.var 7) (.dlen (.var 10))) (.lit 0))
 (.stuck 15 0 0)
 (.back 0 6 (sg 1000 [bt 1000 (.arith .add .i64 (.var 6) (.lit 1)),bt 1001 (.arith .add .i64 (.var 7) (.dlen (.var 10)))]))))))
 (.pre 0 (sg 0 [bv 0 7]) (.both (.fresh 8 (.fresh 9 (.fresh 10 (.post 0 0 (sg 0 [bv 0 7]) 8 (.inv 1 11 (sg 1000 [bv 1003 9,bt 1004 (.lit 0),bv 1002 10,bt 1001 (.lit 0),bg 1000 8]) (.fresh 11 (.fresh 12 (.fresh 13 (.fresh 14 (.fresh 15 (.hyp 1 11 (.br (.cmp .lss (.var 15) (.var 1))
 (.need (.cmp .leq (.lit 0) (.var 15)) (.need (.cmp .lss (.var 15) (.dlen (.var 3))) (.view (.vcell (.var 3) (.var 15) 0) [CK.int .u8] [5] 16 (.need (.cmp .eql (.var 12) (.dlen (.dtake (.var 14) (.var 12)))) (.need (.cmp .leq (.tims (.lit 1) (.plus (.var 12) (.dlen (.var 18)))) (.lit 140737488355328)) (.fresh 19 (.fresh 20 (.back 1 11 (sg 1000 [bt 1003 (.dapp (.dtake (.var 14) (.var 12)) (.var 18)),bt 1004 (.arith .add .i64 (.var 15) (.lit 1)),bv 1002 20,bt 1001 (.plus (.var 12) (.dlen (.var 18))),bg 1000 19])))))))))
 (.ret 0 (sg 6 [bv 9 14,bv 8 13,bv 7 12,bg 6 11])))))))))))))) .top))))))))
theorem qtU:qj ⟨Tryz.prog,qco,[qdP],[qnk,qmb]⟩ 100000 Tryz.f112 = qlt:=by kernel_rfl
theorem qyH (hd:∀ c ∈ ([qdP]:List Ctr),c.ok Tryz.prog) (h:∀ ρ:Env,ρ.good->(qco).pre ρ->qlt.den ⟨Tryz.prog,qco,[qdP],[qnk,qmb]⟩ ρ):(qco).ok Tryz.prog :=
 qf Tryz.func112 (fun a w=>Tryz.call112 a w) hd 100000 (fun ρ hg hp=>by rw [qtU]; exact h ρ hg hp)
def qkJ:Out:=(.br (.and (.cmp .eql (.dlen (.var 1)) (.lit 0)) (.isnil 0))
 (.ret 0 (sg 11 [bv 12 1,bt 11 (.lit 1)]))
 (.pre 0 (sg 0 [bv 1 3,bv 0 2]) (.both (.fresh 11 (.post 0 0 (sg 0 [bv 1 3,bv 0 2]) 11 (.br (.not (.var 11))
 (.ret 0 (sg 11 [bv 12 1,bt 11 (.lit 2)]))
 (.br (.cmp .lss (.var 4) (.lit 0))
 (.ret 0 (sg 11 [bv 12 1,bt 11 (.lit 2)]))
 (.br (.cmp .gtr (.var 4) (.lit 8192))
 (.ret 0 (sg 11 [bv 12 1,bt 11 (.lit 2)]))
 (.pre 1 (sg 0 [bv 1 4,bv 0 2]) (.both (.fresh 12 (.fresh 13 (.post 1 0 (sg 0 [bv 1 4,bv 0 2]) 12 (.pre 2 (sg 0 [bg 8 10,bv 7 9,bv 6 8,bv 5 7,bv 4 6,bg 3 5,bv 2 12,bv 1 3,bv 0 2]) (.both (.fresh 14 (.post 2 0 (sg 0 [bg 8 10,bv 7 9,bv 6 8,bv 5 7,bv 4 6,bg 3 5,bv 2 12,bv 1 3,bv 0 2]) 14 (.br (.cmp .neq (.var 14) (.lit 0))
 (.ret 0 (sg 11 [bv 12 1,bv 11 14]))
 (.pre 3 (sg 0 [bg 9 10,bv 8 9,bv 7 8,bv 1 1,bv 6 7,bv 5 6,bg 4 5,bv 3 3,bv 2 2,bg 0 0]) (.both (.fresh 15 (.fresh 16 (.fresh 17 (.fresh 18 (.fresh 19 (.fresh 20 (.fresh 21 (.fresh 22 (.post 3 0 (sg 0 [bg 9 10,bv 8 9,bv 7 8,bv 1 1,bv 6 7,bv 5 6,bg 4 5,bv 3 3,bv 2 2,bg 0 0]) 15 (.fresh 23 (.pre 4 (sg 0 [bg 5 21,bv 4 2,bv 3 20,bv 2 2,bv 1 2,bg 0 15]) (.both (.fresh 24 (.fresh 25 (.fresh 26 (.fresh 27 (.post 4 0 (sg 0 [bg 5 21,bv 4 2,bv 3 20,bv 2 2,bv 1 2,bg 0 15]) 24 (.know (.cmp .leq (.dlen (.var 27)) (.var 26)) (.need (.cmp .leq (.lit 0) (.var 25)) (.need (.cmp .leq (.lit 0) (.var 26)) (.need (.cmp .leq (.lit 0) (.var 4)) (.need (.cmp .leq (.var 4) (.var 26)) (.ret 1 (sg 11 [bv 14 26,bv 13 27,bv 12 19,bg 11 24])))))))))))) .top)))))))))))) .top))))) .top))))) .top))))))) .top)))
theorem qtZ:qj ⟨Tryz.prog,qcp,[qam,qaC,qb3,qb0,qco],[]⟩ 100000 Tryz.f76 = qkJ:=by kernel_rfl
theorem qxE (hd:∀ c ∈ ([qam,qaC,qb3,qb0,qco]:List Ctr),c.ok Tryz.prog) (h:∀ ρ:Env,ρ.good->(qcp).pre ρ->qkJ.den ⟨Tryz.prog,qcp,[qam,qaC,qb3,qb0,qco],[]⟩ ρ):(qcp).ok Tryz.prog :=
 qf Tryz.func76 (fun a w=>Tryz.call76 a w) hd 100000 (fun ρ hg hp=>by rw [qtZ]; exact h ρ hg hp)
end Go.Proofs

set_option linter.unusedSimpArgs false
set_option linter.unusedVariables false
namespace Go.Proofs
open Go Go.Eng
set_option maxRecDepth 100000
theorem q2L:qdP.ok Tryz.prog:=q4J (by simp) fun ρ hg hp=>by
 obtain ⟨n0,n1⟩:=hp
 simp (config:={ maxSteps:=4000000 }) [qoB,qdP]
 rw [qe9 (by omega) (by omega)]
 exact ⟨n0,fun _=>⟨fun _=>⟨by omega,by omega,fun u _ h=>⟨by omega,qds⟩⟩,fun _ r hr=>(by cases hr)⟩⟩
theorem qxD:qco.ok Tryz.prog:=qyH (by simp [q2L]) fun ρ hg hp=>by
 obtain ⟨n0,n1,nd,hr1,hcol⟩:=hp
 simp (config:={ maxSteps:=4000000 }) [qlt,qco,qnk,qmb,qdP]
 have hle:∀ i:Nat,(i:Int) <= (ρ 1).i->(qda (qa3 (ρ 5).h (ρ 3).d) i).length <= i * 9000:=fun i hi=>qzr fun j hj=>(hcol j (by omega)).2
 have hat:∀ i:Int,0 <= i->i < (ρ 1).i->∃ d,Rd (ρ 5).h kB (qF (ρ 3).d i 0) d/\qn d/\qa3 (ρ 5).h (ρ 3).d i.toNat = bI d/\d.length <= 9000:=fun i i0 i1=>by
  obtain ⟨d,h1,h2,h3⟩:=qvD (hcol i.toNat (by omega)).1 i0
  refine ⟨d,h1,h2,h3,?_⟩
  have:=(hcol i.toNat (by omega)).2
  rwa [h3,bI_len] at this
 have hnext:∀ i:Int,0 <= i->qda (qa3 (ρ 5).h (ρ 3).d) (i + 1).toNat = qda (qa3 (ρ 5).h (ρ 3).d) i.toNat ++ qa3 (ρ 5).h (ρ 3).d i.toNat:=fun i i0=>by
  rw [show (i + 1).toNat = i.toNat + 1 by omega]; rfl
 refine ⟨n0,⟨n0,rfl⟩,fun i _ t _ i0 i1 ht=>⟨fun hi=>?_,fun hi=>?_⟩⟩
 ·obtain ⟨d,h1,h2,h3,h4⟩:=hat i.i i0 hi
  have h5:=hle i.i.toNat (by omega)
  have e1:qe .add .i64 t.i (d.length:Int) = t.i + d.length:=add64 (by omega) (by omega)
  have e2:qe .add .i64 i.i 1 = i.i + 1:=add64 (by omega) (by omega)
  refine ⟨i0,by omega,d,h1,?_⟩
  rw [e1,e2]
  exact ⟨by omega,fun _=>⟨⟨by omega,by omega,by rw [hnext _ i0,List.length_append,h3,bI_len]; omega⟩,by omega⟩⟩
 ·have h5:=hle i.i.toNat (by omega)
  refine ⟨⟨by omega,by omega⟩,fun u _ hGB=>⟨⟨n0,rfl,fun r hr=>(by cases hr),rfl,hGB⟩,fun l _ D _ j _ j0 j1 hl hlD hB hb hBB=>⟨fun hj=>?_,fun hj=>?_⟩⟩⟩
  ·obtain ⟨d,h1,h2,h3,h4⟩:=hat j.i j0 hj
   have h6:=hle j.i.toNat (by omega)
   have hmin:min l.i.toNat D.d.length = l.i.toNat:=Nat.min_eq_left (by omega)
   rw [hmin]
   have e2:qe .add .i64 j.i 1 = j.i + 1:=add64 (by omega) (by omega)
   rw [e2]
   have htk:(D.d.take l.i.toNat ++ d).take (l.i + (d.length:Int)).toNat = D.d.take l.i.toNat ++ d:=List.take_of_length_le (by rw [List.length_append,List.length_take,hmin]; omega)
   refine ⟨j0,by omega,d,h1,?_⟩
   rw [htk]
   exact ⟨by omega,by omega,⟨by omega,by omega,by rw [hnext _ j0,List.length_append,h3,bI_len]; omega,by omega,qld hB h2,by rw [qqa,hb,hnext _ j0,h3],qld hB h2⟩,by omega⟩
  ·have he:j.i = (ρ 1).i:=by omega
   rw [he] at hl hb
   exact ⟨hl,hlD,hB,hb,hBB⟩
theorem q8P {h:Hp} {D:qd} {k total n size:Int} (hp:qhC h D n) (hd:qrr h D k total size n) (h0:0 <= size):size.toNat <= k.toNat * pcN h D 0/\pcN h D 0 <= 8192/\1 <= k/\k <= 255:=by
 obtain ⟨P,hl⟩:=q7G hp hd
 have h1:=P.k1
 have h2:=P.k2
 have h3:=P.k3
 have h8:=P.sol.2.2.2.2.2.1
 refine ⟨?_,h8,h1,by omega⟩
 rw [hl]
 exact qjt (by omega)
theorem q6N {k size:Int} {a b:Int} (k1:1 <= k) (k2:k <= 255) (s0:0 <= size) (s1:size <= 8192) (h:¬ qdv k size->a = (size + k - 1).tdiv k/\b = 0):a = plI k size/\b = 0:=by
 obtain ⟨h1,h2⟩:=h (by unfold qdv; omega)
 refine ⟨?_,h2⟩
 have hd:=ql8 (k:=k) (n:=size.toNat) k1
 rw [Int.toNat_of_nonneg s0] at hd
 rw [h1,hd]; rfl
theorem qyC:qcp.ok Tryz.prog:=qxE (by simp [qh2,qlp,qqX,qpQ,qxD]) fun ρ hg hp=>by
 obtain ⟨hf,hpre⟩:=hp
 have hpre':=hpre
 obtain ⟨n0,n1,hpc⟩:=hpre'
 simp (config:={ maxSteps:=4000000 }) [qkJ,qcp,qam,qaC,qb3,qud,qb0,qsr,qco]
 refine ⟨fun h=>(qh3 hf h).elim,fun _ b _ hb=>⟨fun h=>⟨hf,.inl ⟨.inl (by rw [<- hb,h]),rfl⟩⟩,fun h=>⟨fun hi=>⟨hf,.inl ⟨.inr (.inl hi),rfl⟩⟩,fun s0=>⟨fun hi=>⟨hf,.inl ⟨.inr (.inr hi),rfl⟩⟩,fun s1 l _ e0 _ _ hl=>?_⟩⟩⟩⟩
 have hs:qT (ρ 2).i (ρ 3).i = true:=by rw [<- hb,h]
 obtain ⟨k1,k2,k3⟩:=qbH.1 hs
 obtain ⟨hl,_⟩:=q6N k1 (by omega) s0 s1 hl
 rw [hl]
 refine ⟨⟨k3,n0,n1,hpc⟩,fun e _ he=>⟨fun hne=>⟨hf,.inr ⟨hs,s0,s1,he,hne⟩⟩,fun he0=>?_⟩⟩
 rw [he0] at he
 have hK:qrr (ρ 10).h (ρ 8).d (ρ 2).i (ρ 3).i (ρ 4).i (ρ 6).i:=⟨hs,s0,s1,he⟩
 obtain ⟨P,hN⟩:=q7G hpre hK
 obtain ⟨hd1,hd2,_,_⟩:=q8P hpre hK s0
 refine ⟨⟨hf,P.sol⟩,fun _ _ _ _ f1 _ C _ H _ _ _ hf1 hCl hCr ht _ _=>?_⟩
 obtain ⟨c1,c2,c3⟩:=P.cat ht
 refine ⟨⟨by omega,by omega,by omega,hCr,fun j hj=>⟨(c1 j (by omega)).1,by rw [(c1 j (by omega)).2]; omega⟩⟩,fun m _ cp _ d _ hm hmd hB hb hBB hcp=>?_⟩
 rw [c2] at hm hb
 rw [c3] at hm
 have htk:(d.d.take (ρ 4).i.toNat) = (d.d.take m.i.toNat).take (ρ 4).i.toNat:=by rw [List.take_take,Nat.min_eq_left (by omega)]
 exact ⟨by omega,by omega,s0,by omega,hf1,hK,by omega,by rw [htk]; exact qtt hB,by rw [htk,qn8,hb],hBB⟩
end Go.Proofs

set_option linter.unusedSimpArgs false
set_option linter.unusedVariables false
namespace Go.Proofs
open Go Go.Eng
set_option maxRecDepth 20000
set_option maxHeartbeats 1000000 in
theorem qzF:qdX.ok Tryz.prog:=q91 (by simp [qlV]) fun ρ hg hp=>by
 obtain ⟨⟨⟨m0,m1,m2,m3,hl,hD⟩,⟨p0,p1,hpc⟩,hn,h9⟩,hGr,hGd⟩:=hp
 simp only [Nat.reduceAdd] at m0 m1 m2 m3 hl hD p0 p1 hpc hn h9
 simp (config:={ maxSteps:=4000000 }) [qu9,qdX,q2e,qla,qbb,qkg,qqM,qeO,gOk,qi2,qdT,qaG,qfz,MK.sem,mF,hGr,hGd,hD,hl,m0,m3]
 intro u _ u1 _ v hv x hx hm
 refine ⟨p0,⟨p0,fun j hj=>by omega,q5h hx hm⟩,?_⟩
 intro H _ M _ u4 _ i _ i0 i1 hall hseen
 refine ⟨fun hi=>⟨i0,by omega,fun u6 _=>?_⟩,fun hi=>⟨fun hk=>?_,fun hk=>?_⟩⟩
 ·obtain ⟨hj,hI,d,hr,hB,hDd⟩:=q4j hpc i0 hi
  have hdl:d.length <= 9000:=by
   have:=h9 i.i.toNat (by omega)
   rwa [hDd,bI_len] at this
  refine ⟨d,hr,fun r _ c _ hv hc=>⟨⟨hc,by omega,hB⟩,fun e _ he=>?_⟩⟩
  rw [hI,<- hDd] at he
  refine ⟨fun hne=>q6E i0 hj hall he hne,fun h0=>?_⟩
  obtain ⟨b,l,ck,hM,hmap,ht,hs⟩:=hseen
  refine ⟨l,.inr ⟨b,hM,ck,hmap⟩,?_⟩
  have hz:∀ (ρ:Env) (b:Bool),qc ρ [.vbool (.bl b)] = [.bool b]:=fun _ _=>rfl
  have hcx:∀ b:Bool,qap [[Value.bool b]] 0 = b:=fun _=>rfl
  rw [h0] at he
  simp only [hz,q4v ht,hI,hcx]
  refine ⟨fun h7=>q0B i0 hj hall he.symm ((hs _).1 h7),fun hno=>⟨b,hM,l,ck,hmap,fun u' _ hu'=>?_⟩⟩
  rw [add64 (x:=i.i) (by omega) (by omega)]
  refine ⟨⟨by omega,by omega,q3z i0 hall he.symm fun l' hl' h=>?_,?_⟩,by omega⟩
  ·rw [(hs _).2 ⟨l',hl',h⟩] at hno; cases hno
  ·rw [show (i.i + 1).toNat = i.i.toNat + 1 by omega]
   exact q7l hM hmap ht hs rfl hu'
 ·exact qwS (by omega) hall (.inl ⟨by omega,rfl⟩)
 ·exact qwS (by omega) hall (.inr ⟨by omega,rfl⟩)
set_option maxHeartbeats 1000000 in
theorem qAy:qkD.ok Tryz.prog:=qAp (by simp [qiG,qzF,qwv,qkn]) fun ρ hg hp=>by
 obtain ⟨hf,⟨m0,m1,m2,m3,hl,hD⟩,⟨⟨p0,p1,hpc⟩,hn,h9⟩,⟨hGr,hGd⟩,hx⟩:=hp
 simp only [Nat.reduceAdd] at m0 m1 m2 m3 hl hD p0 p1 hpc hn h9
 have hne:=qh3 hf
 simp (config:={ maxSteps:=4000000 }) [q2x,qkD,qaz,qdX,qla,qsa,qow,psP,qbJ,qaB,qhC,qi2,qdT,qaG,gOk,mF,qse,mOk,q5j,hf,hne,hGr,hGd,hD,hl,m0,m1,m2,m3,hx,p0,p1,hpc]
 cases hM:qz (ρ 2).i (ρ 3).i (ρ 4).i (ρ 5).i ((ρ 10).d.length:Int)
 ·intro u2 _ hu2
  simp only [Bool.false_eq_true,if_false] at hu2
  exact ⟨fun _=>by rw [hu2]; exact q5A rfl,fun h=>by omega⟩
 ·intro u2 _ hu2
  simp only [if_true] at hu2
  refine ⟨fun h=>absurd hu2 h,fun _=>⟨fun hx=>qwL (.inl hx),fun x0=>⟨fun hx=>qwL (.inr hx),fun x1=>⟨⟨hn,h9⟩,fun u3 _ hC=>⟨fun hne=>q58 rfl x0 x1 hC hne,fun h0=>?_⟩⟩⟩⟩⟩
  rw [h0] at hC
  have hK:=q5l hC hM hn x0 x1
  obtain ⟨k1,k2,k3,k4,s0,s1,htl⟩:=qdq.1 hM
  have hcz:=(qsT hC).2
  have h90:=h9 0 (by omega)
  have hrow:qnz (ρ 10).d (ρ 20).i = (dgs (ρ 10).d)[(ρ 20).i.toNat]?.getD []:=by rw [qsI x0 (by omega),List.getD_eq_getElem?_getD]
  refine ⟨fun u4 _ u5 _ _ hE=>(q9h hK hE).elim,fun n' _ c _ f2 _ d _ hf2 _ hnd hdl hdB hdb=>⟨x0,by omega,fun hcap=>⟨⟨by omega,by omega,by unfold pcN at hdl; omega,by omega,hdB⟩,fun u10 _ hs=>?_⟩⟩⟩
  rw [hs,qhV hnd,hdb,hrow]
  exact ⟨fun h=>⟨hf2,q5D rfl x0 x1 hC h⟩,fun h=>⟨hf2,q9n rfl x0 x1 hC h hnd hdB hdb⟩⟩
set_option maxHeartbeats 1000000 in
theorem qAi:qkv.ok Tryz.prog:=qAl (by simp [qiG,qzF,qyC,qhj]) fun ρ hg hp=>by
 obtain ⟨hf,⟨m0,m1,m2,m3,hl,hD⟩,hO,⟨⟨p0,p1,hpc⟩,hn,h9⟩,⟨hGr,hGd⟩⟩:=hp
 simp only [Nat.reduceAdd] at m0 m1 m2 m3 hl hD p0 p1 hpc hn h9
 have hne:=qh3 hf
 simp (config:={ maxSteps:=4000000 }) [q0X,qkv,qaz,qdX,qla,qsa,qow,psP,qcp,qah,qhJ,qhC,qi2,qdT,qaG,gOk,mF,qse,mOk,q6h,hf,hne,hGr,hGd,hD,hl,hO,m0,m1,m2,m3,p0,p1,hpc]
 cases hM:qz (ρ 2).i (ρ 3).i (ρ 4).i (ρ 5).i ((ρ 10).d.length:Int)
 ·intro u2 _ hu2
  simp only [Bool.false_eq_true,if_false] at hu2
  exact ⟨fun hne=>qwa (by rw [hu2]; exact q7a rfl) hne,fun h=>by omega⟩
 ·intro u2 _ hu2
  simp only [if_true] at hu2
  refine ⟨fun h=>absurd hu2 h,fun _=>⟨⟨hn,h9⟩,fun u3 _ hC=>⟨fun hne=>qwa (q5m rfl hC hne) hne,fun h0=>?_⟩⟩⟩
  rw [h0] at hC
  have hK:=q5v hC hM hn
  obtain ⟨k1,k2,k3,k4,s0,s1,htl⟩:=qdq.1 hM
  refine ⟨fun u4 _ u5 _ _ hE=>(q8X hK hE).elim,fun f2 _ d _ c _ hf2 _ hsz hB hb hBB hcap=>⟨⟨s0,by omega,hsz,hBB⟩,fun u10 _ hs=>?_⟩⟩
  have hsg:qbF d.d 0 (ρ 5).i = bI (d.d.take (ρ 5).i.toNat):=by rw [qn8]; rfl
  rw [hs,hsg,hb]
  exact ⟨fun h=>⟨hf2,qwa (q6J rfl hC h) (by decide)⟩,fun h=>⟨hf2,q80 (q8I rfl hC h) s0 hsz hBB hb⟩⟩
end Go.Proofs

set_option linter.unusedSimpArgs false
set_option linter.unusedVariables false
namespace Go.Eng
open Go Go.ChangeShapes Go.WideShapes Go.ChangeAt Go.RowKit

structure Grew (W w':World):Prop where
 os:w'.os = W.os
 out:w'.output = W.output
 blk:∀ (b:Nat) (o:Obj),W.heap[b]? = some o->w'.heap[b]? = some o

theorem Grew.block {W w':World} (h:Grew W w') {i:Nat} (hi:i < W.heap.size):w'.heap[i]? = W.heap[i]?:=by
 rw [Array.getElem?_eq_getElem hi]; exact h.blk i _ (Array.getElem?_eq_getElem hi)

theorem Grew.kept {W w':World} (h:Grew W w') (may:MemPlace->Prop):W.keptBut w' may:=by
 refine ⟨h.os,h.out,fun i hi=>?_⟩
 rw [h.block hi,Array.getElem?_eq_getElem hi]
 cases W.heap[i] <;> simp

theorem Grew.trodAll {H:Type} {enc:TypeId × Value->H} {P:Program} {W W':World} (hg:Grew W W') (hl:laidOutB P = true) {sp:Nat->Bool}:∀ {ts:List TypeId} {vs:List Value} {ds:List (DataW H)} {ps:List MemPlace},
  (∀ t ∈ ts,P.readableRec t = true/\t < P.types.size)->DataW.TrodAll enc P W 0 (fun _=>true) true ts vs ds ps->(∀ p ∈ ps,p.block < W.heap.size)->(∀ p ∈ ps,sp p.block = true) ->
  DataW.TrodAll enc P W' 0 sp true ts vs ds ps
 | [],[],[],_,_,h,_,_=>h
 | _ :: _,_ :: _,_ :: _,_,hT,⟨p,q,h1,h2,e⟩,hlt,hs=>by
  subst e
  refine ⟨p,q,?_,Grew.trodAll hg hl (fun t ht=>hT t (List.mem_cons_of_mem _ ht)) h2 (fun x hx=>hlt x (List.mem_append_right _ hx)) (fun x hx=>hs x (List.mem_append_right _ hx)),rfl⟩
  have hr:=hT _ (List.mem_cons_self ..)
  refine WideElems.Trod_stays hl hr.1 hr.2 h1 (fun x hx=>?_) (fun x hx=>hs x (List.mem_append_left _ hx))
  have hb:=hg.block (hlt x (List.mem_append_left _ hx))
  cases x with
  | cell b o=>exact World.cell?_of_block (w:=W) hb
  | map b=>exact hb

theorem q39 {P:Program} {c:Ctr} (hok:c.ok P) (hheap:c.heap = []) (halts:∀ al ∈ c.alts,al.ret = .one (.vbool (.bl true))) {ρ:Env} (hg:ρ.good) (W:World)
  (hro:∀ x ∈ c.ro,x.roden ρ (fun b=>W.heap[b]?)) (hpre:c.pre ρ) :
  Calls P c.fn (c.args.map (SV.den ρ)).toArray W fun e W'=>e = .returned (.bool true)/\Grew W W':=by
 have h:=hok.2 ρ W ⟨fun b=>W.heap[b]?,W.os,W.output⟩ Hp.emp hg (Hp.disj_emp _)
  ⟨fun b o hb=>by simpa [Hp.union,Hp.emp] using hb,rfl,rfl⟩ (by rw [hheap]; trivial) hro hpre
 refine h.mono fun e w' hq=>?_
 obtain ⟨ai,al,ρ',hal,_,_,rfl,_,hO,_,_,hsub,hwi⟩:=hq
 refine ⟨by rw [halts al (List.mem_of_getElem? hal)]; rfl,⟨hwi.1,hwi.2,fun b o hb=>hsub b o ?_⟩⟩
 simp [Hp.union,hb]

theorem q7j {H:Type} {enc:TypeId × Value->H} {P:Program} {f:Func} {s:ChangeSpec} {W W':World} {args:Array Value} {ds gs:List (DataW H)} {before:List MemPlace} {bt:TypeId}
  (hl:laidOutB P = true) (hT:∀ t ∈ f.params.toList,P.readableRec t = true/\t < P.types.size) (hvars:s.vars = []) (hrt:f.resultTypes = #[bt]) (hbt:P.underlying bt = some .bool)
  (hfn:∀ ds':List (DataW H),ds'.length = f.params.size->s.fn H ds' = { results:=[.lit (.bool true)],args:=ds' })
  (hW:DataW.Whole enc P f.params.toList s.vars false W args.toList ds gs before) (hg:Grew W W'):s.post enc P f false true false false W args (.bool true) W':=by
 have hlt:=hW.lt
 have hW0:=hW
 obtain ⟨p,q,hA,hV,hpq,hz,hn⟩:=hW
 rw [hvars] at hV
 obtain ⟨rfl,rfl⟩:=trodVars_none hV
 have hlen:ds.length = f.params.size:=by
  have:∀ {ts:List TypeId} {vs:List Value} {ds:List (DataW H)} {ps:List MemPlace},DataW.TrodAll enc P W 0 (fun _=>true) true ts vs ds ps->ds.length = ts.length:=by
   intro ts
   induction ts with
   | nil=>intro vs ds ps h; cases vs <;> cases ds <;> simp_all [DataW.TrodAll]
   | cons t ts ih =>
    intro vs ds ps h
    cases vs <;> cases ds <;> simp_all [DataW.TrodAll]
    obtain ⟨p,q,_,h2,_⟩:=h
    exact ih h2
  simpa using this hA
 have hlt':∀ x ∈ p,x.block < W.heap.size:=fun x hx=>hlt x (by rw [hpq]; exact List.mem_append_left _ hx)
 refine ⟨ds,[],before,[],p,[],hW0,?_,?_,?_,hg.kept _,fun h=>by cases h⟩
 ·rw [List.append_nil,hfn ds hlen,hrt]
  exact ⟨[],[],⟨1,by simp [DataW.trod,hbt,Value.cells]⟩,rfl,rfl⟩
 ·rw [List.append_nil,hfn ds hlen]
  exact hg.trodAll hl hT hA hlt' (fun x hx=>by simpa using hlt' x hx)
 ·rw [List.append_nil,hfn ds hlen,hvars]
  rfl

theorem q5n {H:Type} {enc:TypeId × Value->H} {P:Program} {f:Func} {s:ChangeSpec} {c:Ctr} {W:World} {args:Array Value} {ds gs:List (DataW H)} {before:List MemPlace} {bt:TypeId} {ρ:Env}
  (hok:c.ok P) (hheap:c.heap = []) (halts:∀ al ∈ c.alts,al.ret = .one (.vbool (.bl true)))
  (hl:laidOutB P = true) (hT:∀ t ∈ f.params.toList,P.readableRec t = true/\t < P.types.size) (hvars:s.vars = []) (hrt:f.resultTypes = #[bt]) (hbt:P.underlying bt = some .bool)
  (hfn:∀ ds':List (DataW H),ds'.length = f.params.size->s.fn H ds' = { results:=[.lit (.bool true)],args:=ds' })
  (hW:DataW.Whole enc P f.params.toList s.vars false W args.toList ds gs before)
  (hg:ρ.good) (hargs:args = (c.args.map (SV.den ρ)).toArray) (hro:∀ x ∈ c.ro,x.roden ρ (fun b=>W.heap[b]?)) (hpre:c.pre ρ) :
  Calls P c.fn args W fun e W'=>∃ v,e = .returned v/\s.post enc P f false true false false W args v W':=by
 rw [hargs]
 refine (q39 hok hheap halts hg W hro hpre).mono fun e W' ⟨he,hgr⟩=>⟨_,he,?_⟩
 rw [<- hargs]
 exact q7j hl hT hvars hrt hbt hfn hW hgr
end Go.Eng

set_option linter.unusedSimpArgs false
set_option linter.unusedVariables false
namespace Go.Eng
open Go Go.ChangeShapes Go.WideShapes Go.ChangeAt Go.RowKit

def qq5 (P:Program) (f:TypeId->Option (List CK)):List Field->Nat->Option (List CK)
 | [],_=>some []
 | x :: fs,off =>
  if Nat.beq x.offset off then
   match f x.type with
   | some p=>if Nat.beq p.length (P.cellsOf x.type) then (qq5 P f fs (off + p.length)).map (p ++ ·) else none
   | none=>none
  else none
def qnp (p:List CK):Nat->List CK
 | 0=>[]
 | n + 1=>p ++ qnp p n
def qhS (P:Program):Nat->TypeId->Option (List CK)
 | 0,_=>none
 | n + 1,t =>
  match P.underlying t with
  | some (.int k)=>some [.int k]
  | some .bool=>some [.bool]
  | some .string=>some [.any]
  | some (.slice _)=>some [.any]
  | some (.pointer _)=>some [.any]
  | some (.struct fs)=>match qq5 P (qhS P n) fs.toList 0 with
   | some p=>if Nat.beq p.length (P.cellsOf t) then some p else none
   | none=>none
  | some (.array m e)=>match qhS P n e with
   | some p=>if Nat.beq p.length (P.cellsOf e) && Nat.beq (P.cellsOf t) (m * P.cellsOf e) then some (qnp p m) else none
   | none=>none
  | _=>none

theorem qkb {p q:List CK} {cs:List Value} (h1:qu p (cs.take p.length)) (h2:qu q (cs.drop p.length)):qu (p ++ q) cs:=by
 obtain ⟨a1,a2⟩:=h1
 obtain ⟨b1,b2⟩:=h2
 have hle:p.length <= cs.length:=by simp at a1; omega
 refine ⟨by simp at a1 b1 ⊢; omega,fun c k v hk hv=>?_⟩
 by_cases hc:c < p.length
 ·rw [List.getElem?_append_left hc] at hk
  exact a2 c k v hk (by rw [List.getElem?_take,if_pos hc]; exact hv)
 ·rw [List.getElem?_append_right (by omega)] at hk
  exact b2 (c - p.length) k v hk (by rw [List.getElem?_drop,show p.length + (c - p.length) = c by omega]; exact hv)

section
variable {H:Type} {enc:TypeId × Value->H} {P:Program} {w:World} {base:Nat} {spare:Nat->Bool} {held:Bool}

theorem qfQ {v:Value} (h:v.oneCell' = true):qu [.any] [v]:=⟨rfl,fun c k v' hk hv=>by
 cases c with
 | zero=>simp at hk hv; subst hk; subst hv; exact h
 | succ c=>simp at hk⟩

theorem qpZ {f:TypeId->Option (List CK)} {cs:List Value} (hf:∀ t p,f t = some p->∀ cs',(∃ fuel x,DataW.trod enc P w base spare held fuel t cs' = some x)->qu p cs') :
  ∀ {fs:List Field} {off:Nat} {p:List CK},qq5 P f fs off = some p->(∀ x ∈ fs,∃ fuel y,DataW.trod enc P w base spare held fuel x.type ((cs.drop x.offset).take (P.cellsOf x.type)) = some y)->off + p.length = cs.length->qu p (cs.drop off)
 | [],off,p,h,_,hl=>by
  simp only [qq5,Option.some.injEq] at h; subst h
  simp at hl
  refine ⟨by simp; omega,fun c k v hk=>by simp at hk⟩
 | x :: fs,off,p,h,ht,hl=>by
  simp only [qq5] at h
  split at h
  ·rename_i ho
   have ho:=Nat.eq_of_beq_eq_true ho
   split at h
   ·rename_i p1 hp1
    split at h
    ·rename_i hc
     have hc:=Nat.eq_of_beq_eq_true hc
     simp only [Option.map_eq_some_iff] at h
     obtain ⟨p2,hp2,rfl⟩:=h
     simp only [List.length_append] at hl
     have h1:=hf x.type p1 hp1 _ (ht x (List.mem_cons_self ..))
     rw [ho,<- hc] at h1
     have h2:=qpZ hf hp2 (fun y hy=>ht y (List.mem_cons_of_mem _ hy)) (by omega)
     exact qkb h1 (by rw [List.drop_drop]; exact h2)
    ·simp at h
   ·simp at h
  ·simp at h

theorem qnU {p:List CK}:∀ {m:Nat} {cs:List Value},cs.length = m * p.length->(∀ i,i < m->qu p ((cs.drop (i * p.length)).take p.length))->qu (qnp p m) cs
 | 0,cs,hl,_=>by
  simp at hl; subst hl
  exact ⟨rfl,fun c k v hk=>by simp [qnp] at hk⟩
 | m + 1,cs,hl,h=>by
  simp only [qnp]
  refine qkb (by simpa using h 0 (by omega)) (qnU (by rw [List.length_drop,hl,Nat.add_mul]; omega) fun i hi=>?_)
  rw [List.drop_drop,show p.length + i * p.length = (i + 1) * p.length by rw [Nat.add_mul]; omega]
  exact h (i + 1) (by omega)

theorem qlH:∀ (n:Nat) {t:TypeId} {pat:List CK},qhS P n t = some pat->∀ cs,(∃ fuel x,DataW.trod enc P w base spare held fuel t cs = some x)->qu pat cs
 | 0,t,pat,h,_,_=>by simp [qhS] at h
 | n + 1,t,pat,h,cs,⟨fuel,x,hx⟩=>by
  simp only [qhS] at h
  split at h
  ·rename_i k hu
   simp only [Option.some.injEq] at h; subst h
   obtain ⟨z,rfl,_,_⟩:=DataW.trod_int hu hx
   refine ⟨rfl,fun c k' v hk hv=>?_⟩
   cases c with
   | zero=>simp at hk hv; subst hk; subst hv; simp [CK.fits]
   | succ c=>simp at hk
  ·rename_i hu
   simp only [Option.some.injEq] at h; subst h
   cases fuel with
   | zero=>simp [DataW.trod] at hx
   | succ m =>
    unfold DataW.trod at hx
    rw [hu] at hx
    split at hx <;> simp_all
    refine ⟨rfl,fun c k' v hk hv=>?_⟩
    cases c with
    | zero=>simp at hk hv; subst hk; subst hv; simp [CK.fits]
    | succ c=>simp at hk
  ·rename_i hu
   simp only [Option.some.injEq] at h; subst h
   cases fuel with
   | zero=>simp [DataW.trod] at hx
   | succ m =>
    unfold DataW.trod at hx
    rw [hu] at hx
    split at hx <;> simp_all
    exact qfQ rfl
  ·rename_i e hu
   simp only [Option.some.injEq] at h; subst h
   rcases DataW.trod_slice hu hx with ⟨rfl,_⟩ | ⟨a,len,cap,elems,rest,m,_,rfl,_⟩
   ·exact qfQ rfl
   ·exact qfQ rfl
  ·rename_i e hu
   simp only [Option.some.injEq] at h; subst h
   cases fuel with
   | zero=>simp [DataW.trod] at hx
   | succ m =>
    unfold DataW.trod at hx
    rw [hu] at hx
    split at hx <;> simp_all
    all_goals exact qfQ rfl
  ·rename_i fs hu
   split at h
   ·rename_i p hp
    split at h
    ·rename_i hc
     have hc:=Nat.eq_of_beq_eq_true hc
     simp only [Option.some.injEq] at h; subst h
     obtain ⟨xs,m,_,_,hl,hxl,hall⟩:=DataW.trod_struct hu hx
     have:=qpZ (cs:=cs) (f:=qhS P n) (fun t p hp cs' hh=>qlH n hp cs' hh) hp (fun y hy=>by
      obtain ⟨i,hi⟩:=List.getElem?_of_mem hy
      have hi':fs[i]? = some y:=by simpa using hi
      have h1:=hall i y hi'
      have hlt:i < xs.length:=by
       rw [hxl]; exact (Array.getElem?_eq_some_iff.1 hi').1
      exact ⟨m,xs[i],by rw [h1]; simp [hlt]⟩) (by omega)
     simpa using this
    ·simp at h
   ·simp at h
  ·rename_i m e hu
   split at h
   ·rename_i p hp
    split at h
    ·rename_i hc
     simp only [Bool.and_eq_true] at hc
     have hc1:=Nat.eq_of_beq_eq_true hc.1
     have hc2:=Nat.eq_of_beq_eq_true hc.2
     simp only [Option.some.injEq] at h; subst h
     obtain ⟨xs,k,_,_,hl,hxl,hall⟩:=DataW.trod_array hu hx
     refine qnU (by rw [hl,hc2,hc1]) fun i hi=>?_
     have h1:=hall i hi
     rw [<- hc1] at h1
     exact qlH n hp _ ⟨k,xs[i]'(by omega),by rw [h1]; simp [hxl,hi]⟩
    ·simp at h
   ·simp at h
  ·simp at h

theorem qqE {a:Addr} {n:Nat} {cs:List Value} (h:w.cells? base a n = some cs):cs.length = n/\∀ i,i < n->w.cell? (a.add i) = cs[i]?:=by
 unfold World.cells? at h
 split at h
 ·exact ⟨by simpa using mapM_some_length h,fun i hi=>by simpa using mapM_some_get h i i (by simp [hi])⟩
 ·simp at h

theorem qm1 {t e:TypeId} {pat:List CK} {n:Nat} {v:Value} {d:DataW H} {ps:List MemPlace} (ht:P.underlying t = some (.slice e)) (hpat:qhS P n e = some pat) (hce:P.cellsOf e = pat.length) (hpos:0 < pat.length)
  {fuel:Nat} (hsp:∀ b,spare b = true) (hf:DataW.trod enc P w base spare held fuel t [v] = some (d,ps)) :
  ∃ rows:List (List Value),Rd (fun b=>w.heap[b]?) pat v rows/\(∀ row ∈ rows,∃ fuel x,DataW.trod enc P w base spare held fuel e row = some x) /\
   ((d = .nil/\rows = [])∨∃ elems sp,d = .slice elems sp/\elems.length = rows.length/\∀ (i:Nat) (row:List Value),rows[i]? = some row->∃ fuel x,DataW.trod enc P w base spare held fuel e row = some x/\elems[i]? = some x.1):=by
 rcases DataW.trod_slice ht hf with ⟨h1,h2⟩ | ⟨a,len,cap,elems,rest,m,_,h1,h2,hb,hlc,hcm,hel,hall,hrest,_⟩
 ·simp at h1 h2
  exact ⟨[],.inl ⟨_,h1,rfl⟩,by simp,.inl ⟨h2.1,rfl⟩⟩
 ·simp at h1 h2
  subst h1
  have hrow:∀ i,i < len->∃ cs x,w.cells? base (a.add (i * P.cellsOf e)) (P.cellsOf e) = some cs/\DataW.trod enc P w base spare held m e cs = some x/\elems[i]? = some x:=fun i hi=>by
   have:=hall i hi
   rw [List.getElem?_eq_getElem (by omega)] at this
   obtain ⟨cs,g1,g2⟩:=Option.bind_eq_some_iff.1 this
   exact ⟨cs,_,g1,g2,List.getElem?_eq_getElem _⟩
  let rows:List (List Value):=(List.range len).map fun i=>((w.cells? base (a.add (i * P.cellsOf e)) (P.cellsOf e)).getD [])
  have hget:∀ i row,rows[i]? = some row->i < len/\w.cells? base (a.add (i * P.cellsOf e)) (P.cellsOf e) = some row:=fun i row hr=>by
   simp only [rows,List.getElem?_map,Option.map_eq_some_iff] at hr
   obtain ⟨j,hj,rfl⟩:=hr
   have hlt:i < len:=by
    have:=(List.getElem?_eq_some_iff.1 hj).1; simpa using this
   rw [List.getElem?_range hlt] at hj
   simp only [Option.some.injEq] at hj; subst hj
   obtain ⟨cs,x,g1,_,_⟩:=hrow i hlt
   exact ⟨hlt,by rw [g1]; rfl⟩
  have hrl:rows.length = len:=by simp [rows]
  have htr:∀ row ∈ rows,∃ fuel x,DataW.trod enc P w base spare held fuel e row = some x:=fun row hr=>by
   obtain ⟨i,hi⟩:=List.getElem?_of_mem hr
   obtain ⟨hlt,hc⟩:=hget i row hi
   obtain ⟨cs,x,g1,g2,_⟩:=hrow i hlt
   rw [hc] at g1
   simp only [Option.some.injEq] at g1; subst g1
   exact ⟨m,x,g2⟩
  refine ⟨rows,?_,htr,.inr ⟨_,_,h2.1,by simp [hel,hrl],fun i row hi=>?_⟩⟩
  rotate_left
  ·obtain ⟨hlt,hc⟩:=hget i row hi
   obtain ⟨cs,x,g1,g2,g3⟩:=hrow i hlt
   rw [hc] at g1
   simp only [Option.some.injEq] at g1; subst g1
   exact ⟨m,x,g2,by simp [g3]⟩
  by_cases hcap:cap = 0
  ·have hl0:len = 0:=by omega
   have:rows = []:=by apply List.eq_nil_of_length_eq_zero; omega
   exact .inl ⟨some a,by rw [hl0,hcap],this⟩
  have hfirst:∃ cs,w.cells? base (a.add 0) (P.cellsOf e) = some cs:=by
   by_cases hl:0 < len
   ·obtain ⟨cs,_,g1,_,_⟩:=hrow 0 hl
    rw [Nat.zero_mul] at g1
    exact ⟨cs,g1⟩
   ·obtain ⟨r1,r2⟩:=hrest (hsp _)
    have:=r2 0 (by omega)
    rw [show (len + 0) * P.cellsOf e = 0 by rw [show len + 0 = 0 by omega]; simp,List.getElem?_eq_getElem (by omega)] at this
    obtain ⟨cs,g1,_⟩:=Option.bind_eq_some_iff.1 this
    exact ⟨cs,g1⟩
  obtain ⟨cs0,hc0⟩:=hfirst
  obtain ⟨hl0,hg0⟩:=qqE hc0
  have h00:=hg0 0 (by omega)
  rw [show (a.add 0).add 0 = a from rfl,List.getElem?_eq_getElem (by omega)] at h00
  obtain ⟨ab,ao,asp⟩:=a
  have hblk0:=h00
  unfold World.cell? at hblk0
  split at hblk0
  ·rename_i c ty fr hblk
   simp only at hblk
   have hsp0:asp = none:=by
    cases asp with
    | none=>rfl
    | some s=>simp at hblk0
   subst hsp0
   refine .inr ⟨ab,ao,cap,c,ty,fr,by rw [hrl],by omega,hblk,fun i row hi=>?_⟩
   obtain ⟨hlt,hc⟩:=hget i row hi
   refine ⟨qlH n hpat row (htr row (List.mem_of_getElem? hi)),fun k x hk=>?_⟩
   obtain ⟨hl1,hg⟩:=qqE hc
   have hkl:k < P.cellsOf e:=by
    rw [<- hl1]; exact (List.getElem?_eq_some_iff.1 hk).1
   have:=hg k hkl
   rw [hk,hce] at this
   rw [Go.Eng.addr_add,Go.Eng.addr_add,qbg hblk] at this
   exact this
  ·simp at hblk0
end

theorem okWide_slice {P:Program} {w:World} {r:Go.Reach} {b:Nat} {t e:TypeId} {v:Value} (ht:P.underlying t = some (.slice e)) (h:Value.okWide P w r b t v) :
  v.cells = #[v]/\∀ a len cap,v = .slice (some a) len cap->a.spot = none/\(w.shape? a.block).isSome = true:=by
 simp only [Value.okWide,ht,Cell.okWide,Cell.ok] at h
 cases v <;> simp_all [Value.cells]
 rename_i a len cap
 intro a' ha
 subst ha
 obtain ⟨_,_,_,h1,row,cells,h2,_⟩:=h
 exact ⟨h1,by rw [h2]; rfl⟩
end Go.Eng

set_option linter.unusedSimpArgs false
set_option linter.unusedVariables false
set_option maxRecDepth 100000
namespace Go.Proofs
open Go Go.Eng

end Go.Proofs

set_option linter.unusedSimpArgs false
set_option linter.unusedVariables false
namespace Go.Proofs
open Go Go.Eng
section
variable {k n t s l x y e m v z:Int} {h:Hp} {P G G0 G3 R:qd}
theorem quA (a:qic (qz k n t s l) (qee (qk2 k n t s l (dgs G) h P) (pcI P) P.length k) x t e y m (qgF h P k.toNat x) ((dgs G)[x.toNat]?.getD []) R) (he:e = 0):qz k n t s l = true/\(0 <= x/\x < t)/\0 < P.length/\((bI R).length:Int) = qdi k s/\sha (qba x ++ bI R) = (dgs G).getD x.toNat []/\y = x/\m = R.length/\qn R/\m = pcN h P 0:=by
 obtain ⟨hM,hx,hC,hs,hy,hm,hB,hR⟩:=q6A a he
 obtain ⟨_,kn,hL⟩:=qle hC hM (-1) (.inl rfl)
 obtain ⟨k1,k2,k3,k4,s0,s1,htl⟩:=qdq.1 hM
 have h0:=hL 0 (by omega)
 have hlen:(bI R).length = pcN h P 0:=by rw [hR]; exact qrp
 refine ⟨hM,hx,by omega,by rw [hlen,h0,qo3 k1 s0],by rw [hR,hs,List.getD_eq_getElem?_getD],hy,hm,hB,by rw [hm,<- hlen,bI_len]⟩
theorem q3j (a:qic (qz k n t s l) (qee (qk2 k n t s l (dgs G) h P) (pcI P) P.length k) x t e y m (qgF h P k.toNat x) ((dgs G)[x.toNat]?.getD []) R) (he:e = 0) (hv:v = qcg k n t s l (dgs G3) z (bI R)) (hz:z = x) (hG:G = G0) (hG3:G3 = G0):v = 0:=by
 subst hG
 subst hG3
 obtain ⟨hM,⟨x0,x1⟩,_,hl,hs,_⟩:=quA a he
 rw [hv,hz,<- qyU hM x0 x1 hl hs]
end
set_option maxRecDepth 100000
end Go.Proofs

set_option linter.unusedSimpArgs false
set_option linter.unusedVariables false
namespace Go.Eng
open Go Go.Proofs
def qjE:Ctr:={ qgI with pre:=fun ρ=>qgI.pre ρ/\qbe (ρ 2).i (ρ 3).i (ρ 4).i = true/\(ρ 6).i <= 8192,alts:=[{ k:=9,ret:=.tup [(true,qdT 2 3 4 6 12 13 4 14),(false,[.vslice 15 (.lit 0) (.var 4) (.var 16) 2]),qbk (.lit 0)],heap:=[fHp 17,qbX 13 18 14,.arr 15 86 qjT (.var 19) (.var 16),.abs 20 10],post:=fun ρ=>qk (ρ 17).d/\qbe (ρ 2).i (ρ 3).i (ρ 4).i = true/\(ρ 6).i <= 8192/\(ρ 19).d.length = (ρ 4).i.toNat/\qfZ (ρ 20).h (ρ 19).d (ρ 4).i.toNat (qdS (ρ 2).i.toNat (ρ 4).i.toNat (bI (ρ 8).d))/\qg (ρ 12).d 32 = sha (bI (ρ 8).d)/\qcC (ρ 18).d/\dgs (ρ 18).d = qdE (qdS (ρ 2).i.toNat (ρ 4).i.toNat (bI (ρ 8).d)) (ρ 4).i.toNat }] }
end Go.Eng

set_option linter.unusedSimpArgs false
set_option linter.unusedVariables false
set_option maxRecDepth 100000
namespace Go.Proofs
open Go Go.Eng

end Go.Proofs

set_option linter.unusedSimpArgs false
set_option linter.unusedVariables false
namespace Go.Proofs
open Go Go.Eng
section
variable {k total:Nat} {data:List Int}
end
section
variable {h:Hp} {P:qd} {k n t s l:Int} {data:List Int} {G:qd}
theorem q56 {f:Nat->List Int} {m:Nat} {x:Int} (x0:0 <= x) (x1:x < m):(qdE f m).getD x.toNat [] = sha (qba x ++ f x.toNat):=by
 unfold qdE
 rw [List.getD_eq_getElem?_getD,List.getElem?_map,List.getElem?_range (by omega)]
 simp only [Option.map_some,Option.getD_some]
 rw [Int.toNat_of_nonneg x0]
theorem q7c {x:Int} {m:List Int} (hM:qz k n t s l = true) (hb:qw data) (hsz:s = data.length) (hG:dgs G = qdE (qdS k.toNat t.toNat data) t.toNat) (x0:0 <= x) (x1:x < t) (hm:m = qdS k.toNat t.toNat data x.toNat):qcg k n t s l (dgs G) x m = 0:=by
 obtain ⟨k1,k2,k3,k4,s0,s1,htl⟩:=qdq.1 hM
 have hl:(m.length:Int) = qdi k s:=by
  rw [hm,(q3Q (by omega) (by omega) (by omega) hb _).1,qo3 k1 s0,hsz]
  unfold plI
  simp
 have hS:sha (qba x ++ m) = (dgs G).getD x.toNat []:=by rw [hm,hG,q56 x0 (by omega)]
 rw [qcg,if_neg (by rw [hM]; decide),if_neg (by omega),if_neg (fun h=>h hl),if_neg (fun h=>h hS)]
end
section
variable {h h':Hp} {D S L:qd} {n i:Nat} {t:Int} {f:Nat->List Int}
end
section
variable {h h0:Hp} {P P0 G R:qd} {k n t s l x e y m:Int} {data O:List Int} {N N':Nat}
end
section
variable {h h':Hp} {S L:qd} {i n j i':Int} {t:Int} {f:Nat->List Int}
end
section
variable {h h0:Hp} {D D0 G:qd} {T:Nat} {t:Int} {f:Nat->List Int} {N N' M:Nat}
end
end Go.Proofs

set_option linter.unusedSimpArgs false
set_option linter.unusedVariables false
namespace Go.Proofs
open Go Go.Eng
theorem q6T:qjE.ok Tryz.prog:=by
 refine ⟨qze.1,fun ρ w hF hO hg hd hw hs hro hp=>?_⟩
 obtain ⟨hp,hs3,h8⟩:=hp
 refine (qze.2 ρ w hF hO hg hd hw hs hro hp).mono fun e w' h=>?_
 obtain ⟨ai,al,ρ',h1,h2,hρ,h4,hpost,h6⟩:=h
 match ai,h1 with
 | 0,h1 =>
  obtain rfl:=(Option.some.inj h1).symm
  exfalso
  have e2:=hρ 2 (by decide)
  have e3:=hρ 3 (by decide)
  have e4:=hρ 4 (by decide)
  have e6:=hρ 6 (by decide)
  obtain ⟨_,⟨h1,_⟩ | ⟨_,h1,_⟩⟩:=hpost
  ·change qbe (ρ' 2).i (ρ' 3).i (ρ' 4).i = false at h1
   rw [e2,e3,e4,hs3] at h1; cases h1
  ·change 8192 < (ρ' 6).i at h1
   rw [e6] at h1; omega
 | 1,h1 =>
  obtain rfl:=(Option.some.inj h1).symm
  exact ⟨0,_,ρ',rfl,h2,hρ,h4,hpost,h6⟩
 | ai + 2,h1=>simp [qgI] at h1
set_option maxRecDepth 20000
end Go.Proofs

set_option linter.unusedSimpArgs false
set_option linter.unusedVariables false
namespace Go.Eng
open Go Go.Proofs
def qx (d:qd):List Int:=d.map fun row=>qb6 row 0
def qs4:List CK:=List.replicate 16 .bool
def b16 (n:Nat):SV:=.agg ((List.range 16).map fun i=>.c1 .vbool (.var (n + i)))
def qqH (x:Int):Bool:=decide (0 <= x/\x < 16)
def qc7:Ctr:={ fn := 100,nv:=1,args:=[iv .i64 (.var 0)],heap:=[],ro:=[],pre:=fun _=>True,alts:=[{ k:=1,ret:=.one (.vbool (.var 1)),heap:=[],post:=fun ρ=>(ρ 1).b = qqH (ρ 0).i }] }
def qeU (r:Nat):SH:=iHp r (r + 3) (r + 4)
def qcw (ρ:Env) (r:Nat):Prop:=(ρ (r + 1)).i = (ρ (r + 3)).d.length/\(ρ (r + 1)).i <= 1000000000000/\∀ row ∈ (ρ (r + 3)).d,row.length = 1
def qfj (l:List Bool) (L:List Int):Prop:=l.length = 16/\∀ j:Nat,j < 16->(l.getD j false = true↔(j:Int) ∈ L)
def qet:Ctr:={ fn := 82,nv:=5,args:=[bS 0],heap:=[],ro:=[qeU 0],pre:=fun ρ=>qcw ρ 0,alts:=[
 { k:=16,ret:=b16 5,heap:=[],post:=fun ρ=>qfj [(ρ 5).b,(ρ 6).b,(ρ 7).b,(ρ 8).b,(ρ 9).b,(ρ 10).b,(ρ 11).b,(ρ 12).b,(ρ 13).b,(ρ 14).b,(ρ 15).b,(ρ 16).b,(ρ 17).b,(ρ 18).b,(ρ 19).b,(ρ 20).b] (qx (ρ 3).d) }] }
def qdB (s:qd) (l:List Int) (n:Nat):Prop:=(∃ row,s = [row]/\row.length = 16)/\∀ x:Int,0 <= x->x < 16->(qap s x.toNat = true↔x ∈ l.take n)
def qrE:Inv:={ key:=2,nv:=3,env:=[(2,.one (.vptr 1000 (.lit 0) 16 0)),(5,bS 0),(6,iv .i64 (.var 1)),(7,iv .i64 (.var 1002))],heap:=[.arr 1000 157 qs4 (.var 1001) (.lit 1)],inv:=(fun ρ=>0 <= (ρ 1002).i/\(ρ 1002).i <= (ρ 1).i/\qdB (ρ 1001).d (qx (ρ 3).d) (ρ 1002).i.toNat),mu:=(fun ρ=>((ρ 1).i - (ρ 1002).i).toNat) }
def qO (o:List Int) (p:Int):List Int:=sha (o ++ [p % 256])
def qcz:Ctr:={ fn := 24,nv:=4,ip:=[gIp 2,(1005,9)],args:=[dgV 0,iv .i64 (.var 1)],heap:=[],ro:=[gHp 2 3],pre:=fun ρ=>qL (qg (ρ 0).d 32)/\gOk ρ 2 3 gR,alts:=[
 { k:=1,ret:=dgV 4,heap:=[],post:=fun ρ=>qg (ρ 4).d 32 = qO (qg (ρ 0).d 32) (ρ 1).i }] }
def rkV (p d:Nat):SV:=.agg (.vint .i64 (.var p) :: qaG .u8 d 32)
def qeb:Ctr:={ fn := 80,nv:=4,ip:=[gIp 2],args:=[dgV 0,iv .i64 (.var 1)],heap:=[],ro:=[gHp 2 3],pre:=fun ρ=>qL (qg (ρ 0).d 32)/\gOk ρ 2 3 gR,alts:=[
 { k:=2,ret:=.agg (.vint .i64 (.var 1) :: qaG .u8 4 32),heap:=[],post:=fun ρ=>qg (ρ 4).d 32 = qO (qg (ρ 0).d 32) (ρ 1).i }] }
def qbB:List Int->List Int->Int
 | [],[]=>0
 | [],_ :: _=>-1
 | _ :: _,[]=>1
 | a :: l,b :: m=>if a < b then -1 else if b < a then 1 else qbB l m
def kRk:List CK:=.int .i64 :: List.replicate 32 (.int .u8)
def qkQ:Ctr:={ fn := 118,nv:=4,args:=[.one (.vslice 0 (.lit 1) (.lit 32) (.lit 32) 1),.one (.vslice 1 (.lit 1) (.lit 32) (.lit 32) 1)],heap:=[],ro:=[.arr 0 153 kRk (.var 2) (.lit 1),.arr 1 153 kRk (.var 3) (.lit 1)],pre:=fun ρ=>qao (ρ 2).d 33/\qao (ρ 3).d 33/\qL ((qg (ρ 2).d 33).drop 1)/\qL ((qg (ρ 3).d 33).drop 1),alts:=[
 { k:=1,ret:=iv .i64 (.var 4),heap:=[],post:=fun ρ=>(ρ 4).i = qbB ((qg (ρ 2).d 33).drop 1) ((qg (ρ 3).d 33).drop 1) }] }
def qcX:Ctr:={ fn := 81,nv:=4,args:=[rkV 0 1,rkV 2 3],heap:=[],ro:=[],pre:=fun ρ=>qL (qg (ρ 1).d 32)/\qL (qg (ρ 3).d 32),alts:=[
 { k:=1,ret:=iv .i64 (.var 4),heap:=[],post:=fun ρ=>(ρ 4).i = if qbB (qg (ρ 1).d 32) (qg (ρ 3).d 32) = 0 then qe .sub .i64 (ρ 0).i (ρ 2).i else qbB (qg (ρ 1).d 32) (qg (ρ 3).d 32) }] }
def qS (o:List Int) (a b:Int):Bool:=if qO o a = qO o b then decide (a < b) else decide (qbB (qO o a) (qO o b) < 0)
def qbZ:Ctr:={ fn := 26,nv:=5,ip:=[gIp 3],args:=[dgV 0,iv .i64 (.var 1),iv .i64 (.var 2)],heap:=[],ro:=[gHp 3 4],pre:=fun ρ=>qL (qg (ρ 0).d 32)/\gOk ρ 3 4 gR,alts:=[
 { k:=1,ret:=.one (.vbool (.var 5)),heap:=[],post:=fun ρ=>(ρ 5).b = qS (qg (ρ 0).d 32) (ρ 1).i (ρ 2).i }] }
end Go.Eng

set_option linter.unusedSimpArgs false
set_option linter.unusedVariables false
namespace Go.Eng
open Go Go.Proofs
def qdt (o:List Int) (a b:Int):Int:=if qO o a = qO o b then a - b else qbB (qO o a) (qO o b)
def qnq (o:List Int) (s out:List Int):Prop:=out.Perm s/\out.Pairwise fun a b=>qS o a b = true
def qcJ (l:List Int):List Int:=((List.range 16).map fun (i:Nat)=>(i:Int)).filter fun x=>decide (x ∈ l)
end Go.Eng
namespace Go.Proofs
open Go Go.Eng
theorem qfF:∀ {a b:List Int},qbB a b = 0↔a = b
 | [],[]=>by simp [qbB]
 | [],_ :: _=>by simp [qbB]
 | _ :: _,[]=>by simp [qbB]
 | x :: a,y :: b=>by
  unfold qbB
  by_cases h1:x < y
  ·rw [if_pos h1]
   constructor
   ·intro h; omega
   ·intro h; injection h; omega
  ·rw [if_neg h1]
   by_cases h2:y < x
   ·rw [if_pos h2]
    constructor
    ·intro h; omega
    ·intro h; injection h; omega
   ·rw [if_neg h2,qfF]
    have:x = y:=by omega
    subst this
    simp
theorem qwA:∀ {a b:List Int},qbB b a = - qbB a b
 | [],[]=>rfl
 | [],_ :: _=>rfl
 | _ :: _,[]=>rfl
 | x :: a,y :: b=>by
  unfold qbB
  by_cases h1:x < y
  ·rw [if_pos h1,if_neg (by omega),if_pos h1]; rfl
  ·by_cases h2:y < x
   ·rw [if_pos h2,if_neg h1,if_pos h2]
   ·rw [if_neg h2,if_neg h1,if_neg h1,if_neg h2]; exact qwA
theorem qpv:∀ {a b c:List Int},qbB a b < 0->qbB b c < 0->qbB a c < 0
 | [],[],_,h,_=>by simp [qbB] at h
 | [],_ :: _,[],_,h=>by simp [qbB] at h
 | [],_ :: _,_ :: _,_,_=>by simp [qbB]
 | _ :: _,[],_,h,_=>by simp [qbB] at h
 | _ :: _,_ :: _,[],_,h=>by simp [qbB] at h
 | x :: a,y :: b,z :: c,h1,h2=>by
  unfold qbB at h1 h2 ⊢
  by_cases a1:x < y
  ·by_cases b1:y < z
   ·rw [if_pos (by omega)]; decide
   ·rw [if_neg b1] at h2
    by_cases b2:z < y
    ·rw [if_pos b2] at h2; omega
    ·rw [if_pos (by omega)]; decide
  ·rw [if_neg a1] at h1
   by_cases a2:y < x
   ·rw [if_pos a2] at h1; omega
   ·rw [if_neg a2] at h1
    have e:x = y:=by omega
    subst e
    by_cases b1:x < z
    ·rw [if_pos b1]; decide
    ·rw [if_neg b1] at h2 ⊢
     by_cases b2:z < x
     ·rw [if_pos b2] at h2; omega
     ·rw [if_neg b2] at h2 ⊢
      exact qpv h1 h2
variable {o:List Int} {a b c:Int}
theorem qf9:qS o a b = decide (qdt o a b < 0):=by
 unfold qS qdt
 by_cases h:qO o a = qO o b
 ·rw [if_pos h,if_pos h]
  exact decide_eq_decide.2 ⟨fun h=>by omega,fun h=>by omega⟩
 ·rw [if_neg h,if_neg h]
theorem qfC:qdt o a b = 0↔a = b:=by
 unfold qdt
 by_cases h:qO o a = qO o b
 ·rw [if_pos h]; omega
 ·rw [if_neg h,qfF]
  exact ⟨fun h'=>(h h').elim,fun h'=>by rw [h']⟩
theorem qkS:qdt o b a = - qdt o a b:=by
 unfold qdt
 by_cases h:qO o a = qO o b
 ·rw [if_pos h,if_pos h.symm]; omega
 ·rw [if_neg h,if_neg (fun h'=>h h'.symm),qwA]
theorem qky (h1:qdt o a b < 0) (h2:qdt o b c < 0):qdt o a c < 0:=by
 unfold qdt at h1 h2 ⊢
 by_cases e1:qO o a = qO o b
 ·rw [if_pos e1] at h1
  by_cases e2:qO o b = qO o c
  ·rw [if_pos e2] at h2
   rw [if_pos (e1.trans e2)]; omega
  ·rw [if_neg e2] at h2
   rw [if_neg (by rw [e1]; exact e2),e1]; exact h2
 ·rw [if_neg e1] at h1
  by_cases e2:qO o b = qO o c
  ·rw [if_neg (by rw [<- e2]; exact e1),<- e2]; exact h1
  ·rw [if_neg e2] at h2
   have h3:=qpv h1 h2
   by_cases e3:qO o a = qO o c
   ·rw [e3,qfF.2 rfl] at h3; omega
   ·rw [if_neg e3]; exact h3
theorem q3I (h1:qS o a b = true) (h2:qS o b c = true):qS o a c = true:=by
 rw [qf9,decide_eq_true_eq] at h1 h2 ⊢
 exact qky h1 h2
theorem q1s:qS o a a = false:=by
 rw [qf9,qfC.2 rfl]; rfl
theorem q3n (h:qS o a b = true):qS o b a = false:=by
 rw [qf9,decide_eq_true_eq] at h
 rw [qf9,decide_eq_false_iff_not,qkS]; omega
theorem qts (h:a ≠ b):qS o a b = true∨qS o b a = true:=by
 rw [qf9,qf9,decide_eq_true_eq,decide_eq_true_eq,qkS (a:=a) (b:=b)]
 have:¬ qdt o a b = 0:=fun h'=>h (qfC.1 h')
 omega
theorem qtv:∀ {l m:List Int},l.Perm m->(l.Pairwise fun a b=>qS o a b = true)->(m.Pairwise fun a b=>qS o a b = true)->l = m
 | [],m,h,_,_=>(List.Perm.nil_eq h)
 | x :: l,[],h,_,_=>by simp at h
 | x :: l,y :: m,h,h1,h2=>by
  rw [List.pairwise_cons] at h1 h2
  have hxy:x = y:=by
   rcases List.mem_cons.1 (h.subset (List.mem_cons_self ..)) with e | e
   ·exact e
   ·rcases List.mem_cons.1 (h.symm.subset (List.mem_cons_self ..)) with e' | e'
    ·exact e'.symm
    ·have a1:=h2.1 x e
     have a2:=h1.1 y e'
     rw [q3n a1] at a2; cases a2
  subst hxy
  rw [qtv (List.Perm.cons_inv h) h1.2 h2.2]
theorem qx9 {s l m:List Int} (h1:qnq o s l) (h2:qnq o s m):l = m:=qtv (h1.1.trans h2.1.symm) h1.2 h2.2
end Go.Proofs

set_option linter.unusedSimpArgs false
set_option linter.unusedVariables false
namespace Go.Eng
open Go Go.Proofs
end Go.Eng

set_option linter.unusedSimpArgs false
set_option linter.unusedVariables false
namespace Go.Eng
open Go Go.Proofs
def qJ (L:List Int) (n:Nat):List Int:=((List.range n).map fun (i:Nat)=>(i:Int)).filter fun x=>decide (x ∈ L)
def qfa:Ctr:={ fn := 121,nv:=6,args:=[bS 0,iv .i64 (.var 5)],heap:=[],ro:=[qeU 0],pre:=fun ρ=>qcw ρ 0,alts:=[{ k:=1,ret:=iv .i64 (.var 6),heap:=[],post:=fun ρ=>0 <= (ρ 6).i↔(ρ 5).i ∈ qx (ρ 3).d }] }
def qxx:Inv:={ key:=2,nv:=1,env:=[(0,bS 0),(1,iv .i64 (.var 5)),(6,bS 0),(7,iv .i64 (.var 1)),(8,iv .i64 (.var 1000))],heap:=[],inv:=(fun ρ=>0 <= (ρ 1000).i/\(ρ 1000).i <= (ρ 1).i/\(ρ 5).i ∉ (qx (ρ 3).d).take (ρ 1000).i.toNat),mu:=(fun ρ=>((ρ 1).i - (ρ 1000).i).toNat) }
def qaZ:Ctr:={ fn := 84,nv:=6,args:=[bS 0,iv .i64 (.var 5)],heap:=[],ro:=[qeU 0],pre:=fun ρ=>qcw ρ 0,alts:=[{ k:=1,ret:=.one (.vbool (.var 6)),heap:=[],post:=fun ρ=>(ρ 6).b = decide ((ρ 5).i ∈ qx (ρ 3).d) }] }
end Go.Eng

set_option linter.unusedSimpArgs false
set_option linter.unusedVariables false
namespace Go.Eng
open Go Go.Proofs
def qlN (o:List Int) (self n:Int) (L:List Int):Bool:=decide (1 <= n) && decide (n <= (((qcJ L).filter fun i=>qS o i self).length:Int))
def qA8 (ρ:Env) (g:Nat):Prop:=qL (qg (ρ 0).d 32)/\qcw ρ 3/\gOk ρ 8 9 g
def q6O:Ctr:={ fn := 37,nv:=10,ip:=[gIp 8],args:=[dgV 0,iv .i64 (.var 1),iv .i64 (.var 2),bS 3],heap:=[],ro:=[qeU 3,gHp 8 9],pre:=fun ρ=>qA8 ρ gR,alts:=[{ k:=1,ret:=.one (.vbool (.var 10)),heap:=[],post:=fun ρ=>(ρ 10).b = qlN (qg (ρ 0).d 32) (ρ 1).i (ρ 2).i (qx (ρ 6).d) }] }
def q9R:Inv:={ key:=3,nv:=3,env:=[(1,iv .i64 (.var 1)),(2,iv .i64 (.var 2)),(4,.one (.vptr 1000 (.lit 0) 32 0)),(9,iv .i64 (.var 1002)),(13,b16 11),(14,iv .i64 (.var 1001))],heap:=[.cells 1000 24 (qaG .u8 0 32)],inv:=(fun ρ=>0 <= (ρ 1001).i/\(ρ 1001).i <= 16/\(ρ 1002).i = (((qJ (qx (ρ 6).d) (ρ 1001).i.toNat).filter fun i=>qS (qg (ρ 0).d 32) i (ρ 1).i).length:Int)),mu:=(fun ρ=>(16 - (ρ 1001).i).toNat) }
end Go.Eng

set_option linter.unusedSimpArgs false
set_option linter.unusedVariables false
namespace Go.Eng
open Go Go.Proofs
def qC (o:List Int) (p:Int):List Value:=.int .i64 p :: (qO o p).map (Value.int .u8)
def qau (o l:List Int):List Int:=l.mergeSort fun a b=>!qS o b a
def qbu (o live:List Int) (n:Int):List Int:=(qau o (qcJ live)).take n.toNat
def qdC (d:qd) (n:Int) (l:List Int):Prop:=n = d.length/\qx d = l/\∀ row ∈ d,row.length = 1
def qvx (r d c:Nat):SH:=.arr r 153 kRk (.var d) (.var c)
def rkS (r l c:Nat):SV:=.one (.vslice r (.lit 0) (.var l) (.var c) 33)
def qeK:Ctr:={ fn := 83,nv:=4,args:=[rkS 0 1 2,.fn (.func 81) [] []],heap:=[qvx 0 3 2],ro:=[],pre:=fun ρ=>(ρ 1).i = (ρ 3).d.length/\(ρ 1).i <= 1000000/\∃ o L:List Int,qL o/\(ρ 3).d = L.map (qC o)/\∀ x ∈ L,0 <= x/\x < 16,alts:=[
 { k:=1,ret:=.tup [],heap:=[qvx 0 4 2],post:=fun ρ=>∀ o L:List Int,qL o->(ρ 3).d = L.map (qC o)->(∀ x ∈ L,0 <= x/\x < 16)->(ρ 4).d = (qau o L).map (qC o) }] }
def qn7 (r:Nat):SH:=.cells r 24 (qaG .u8 0 32)
def qus (r:Nat):SV:=.one (.vptr r (.lit 0) 32 0)
def qug (ρ:Env) (g:Nat):Prop:=qL (qg (ρ 0).d 32)/\qcw ρ 1/\gOk ρ 7 8 g
def qbs:Ctr:={ fn := 32,nv:=9,ip:=[gIp 7],args:=[dgV 0,bS 1,iv .i64 (.var 6)],heap:=[],ro:=[qeU 1,gHp 7 8],pre:=fun ρ=>qug ρ gR,alts:=[
 { k:=4,ret:=.one (.vslice 9 (.lit 0) (.var 10) (.var 11) 1),heap:=[iHp 9 12 11],post:=fun ρ=>qdC (ρ 12).d (ρ 10).i (qbu (qg (ρ 0).d 32) (qx (ρ 4).d) (ρ 6).i) }] }
def qrf:Inv:={ key:=3,nv:=6,env:=[(2,iv .i64 (.var 6)),(3,qus 1000),(7,rkS 1002 1003 1004),(14,b16 10),(15,iv .i64 (.var 1001))],heap:=[qn7 1000,qvx 1002 1005 1004],inv:=(fun ρ=>0 <= (ρ 1001).i/\(ρ 1001).i <= 16/\(ρ 1003).i = (ρ 1005).d.length/\(ρ 1005).d = (qJ (qx (ρ 4).d) (ρ 1001).i.toNat).map (qC (qg (ρ 0).d 32))),mu:=(fun ρ=>(16 - (ρ 1001).i).toNat) }
def qrn:Inv:={ key:=11,nv:=9,env:=[(36,rkS 1000 1001 1002),(37,iv .i64 (.var 1001)),(38,iv .i64 (.var 1003)),(10,.one (.vslice 1004 (.lit 0) (.var 1005) (.var 1006) 1))],heap:=[qvx 1000 1007 1002,iHp 1004 1008 1006],inv:=(fun ρ=>0 <= (ρ 1003).i/\(ρ 1003).i <= (ρ 1001).i/\(ρ 1001).i <= (ρ 1007).d.length/\(ρ 1007).d = (qau (qg (ρ 0).d 32) (qcJ (qx (ρ 4).d))).map (qC (qg (ρ 0).d 32))/\(ρ 1001).i = min (max (ρ 6).i 0) ((qau (qg (ρ 0).d 32) (qcJ (qx (ρ 4).d))).length:Int)/\qdC (ρ 1008).d (ρ 1005).i ((qau (qg (ρ 0).d 32) (qcJ (qx (ρ 4).d))).take (ρ 1003).i.toNat)),mu:=(fun ρ=>((ρ 1001).i - (ρ 1003).i).toNat) }
def qgr (n:Int):List Int:=(List.range (min (max n 0) 16).toNat).map fun (i:Nat)=>(i:Int)
def qko (o:List Int) (n:Int):List Int:=qbu o (qgr n) 16
def qcx:Ctr:={ fn := 29,nv:=4,ip:=[gIp 2],args:=[dgV 0,iv .i64 (.var 1)],heap:=[],ro:=[gHp 2 3],pre:=fun ρ=>qL (qg (ρ 0).d 32)/\gOk ρ 2 3 gR,alts:=[
 { k:=4,ret:=.one (.vslice 4 (.lit 0) (.var 5) (.var 6) 1),heap:=[iHp 4 7 6],post:=fun ρ=>qdC (ρ 7).d (ρ 5).i (qko (qg (ρ 0).d 32) (ρ 1).i) }] }
def qph:Inv:={ key:=3,nv:=7,env:=[(2,qus 1000),(5,.one (.vslice 1001 (.lit 0) (.var 1002) (.var 1003) 1)),(10,iv .i64 (.var 1006)),(11,iv .i64 (.var 1005))],heap:=[qn7 1000,iHp 1001 1004 1003],inv:=(fun ρ=>0 <= (ρ 1005).i/\(ρ 1005).i <= (ρ 1006).i/\(ρ 1006).i = min (max (ρ 1).i 0) 16/\qdC (ρ 1004).d (ρ 1002).i (qgr (ρ 1005).i)),mu:=(fun ρ=>((ρ 1006).i - (ρ 1005).i).toNat) }
def qgN (o:List Int) (self:Int) (L:List Int) (n:Int) (held buried:Bool):Int :=
 if buried then (if held then 3 else 0) else if n < 1 then 0 else if self ∈ qbu o L n then (if held then 0 else 1) else if held = true/\((qbu o L n).length:Int) = n then 2 else 0
def q7P (ρ:Env) (g:Nat):Prop:=qL (qg (ρ 0).d 32)/\qcw ρ 2/\gOk ρ 10 11 g
def qgl:Ctr:={ fn := 35,nv:=12,ip:=[gIp 10],args:=[dgV 0,iv .i64 (.var 1),bS 2,iv .i64 (.var 7),.one (.vbool (.var 8)),.one (.vbool (.var 9))],heap:=[],ro:=[qeU 2,gHp 10 11],pre:=fun ρ=>q7P ρ gR,alts:=[
 { k:=1,ret:=iv .u8 (.var 12),heap:=[],post:=fun ρ=>(ρ 12).i = qgN (qg (ρ 0).d 32) (ρ 1).i (qx (ρ 5).d) (ρ 7).i (ρ 8).b (ρ 9).b }] }
end Go.Eng

set_option linter.unusedSimpArgs false
set_option linter.unusedVariables false
namespace Go.Eng
open Go Go.Proofs
def mtI:MT:=⟨false,[.i64],false,[.int .u64],[.vint .u64 (.lit 0)]⟩
def mtO:MT:=⟨true,List.replicate 32 .u8,false,[.any],[.vnilm]⟩
abbrev Cl:=List Int->Int->Option Int
def qdU (l:List ME) (i:Int):Option Int:=(l.find? fun x=>x.k == [i]).map fun x=>qag (x.v.headD .nilFunc)
def qX (h:Hp) (v:Value) (cl:Cl):Prop:=∃ b l c,v = .map (some b)/\qaU h b mtO l c /\
 (∀ x ∈ l,∃ b' m c',x.v = [.map (some b')]/\b' ≠ b/\qaU h b' mtI m c'/\∀ i,cl x.k i = qdU m i) /\
 (∀ x ∈ l,∀ y ∈ l,x.k ≠ y.k->x.v ≠ y.v)/\(∀ o i,(∀ x ∈ l,x.k ≠ o)->cl o i = none)/\∀ o i t,cl o i = some t->0 <= i/\i < 16/\0 <= t/\t < 18446744073709551616
def qeC (cl:Cl) (o:List Int) (i t:Int):Cl:=if 0 <= i/\i < 16 then fun o' i'=>if o' = o/\i' = i then some t else cl o' i' else cl
def qkG (t clock:Int):Bool:=decide (t <= clock) && decide (clock - t < 12)
def qej (cl:Cl) (o:List Int) (self clock:Int) (L H:List Int):Bool:=(List.range 16).any fun (i:Nat)=>match cl o i with
 | some t=>qkG t clock && decide ((i:Int) ∈ L) && !decide ((i:Int) ∈ H) && qS o i self
 | none=>false
def qsg (r v:Nat):SH:=.cells r 179 [.var v]
def clP (r:Nat):SV:=.one (.vptr r (.lit 0) 1 0)
def qAd (r v:Nat):SH:=.cells r 24 (qaG .u8 v 32)
def qey:Ctr:={ fn := 61,nv:=0,args:=[],heap:=[],ro:=[],pre:=fun _=>True,alts:=[
 { k:=3,ret:=clP 0,heap:=[qsg 0 1,.abs 2 1003],post:=fun ρ=>qX (ρ 2).h (ρ 1).v fun _ _=>none }] }
def qjA:Ctr:={ fn := 101,nv:=2,args:=[iv .u64 (.var 0),iv .u64 (.var 1)],heap:=[],ro:=[],pre:=fun ρ=>0 <= (ρ 0).i/\(ρ 0).i < 18446744073709551616/\0 <= (ρ 1).i/\(ρ 1).i < 18446744073709551616,alts:=[
 { k:=1,ret:=.one (.vbool (.var 2)),heap:=[],post:=fun ρ=>(ρ 2).b = qkG (ρ 0).i (ρ 1).i }] }
def qfX:Ctr:={ fn := 62,nv:=6,args:=[clP 0,dgV 1,iv .i64 (.var 2),iv .u64 (.var 3)],heap:=[qsg 0 4,.abs 5 1003],ro:=[],pre:=fun ρ=>(∃ cl,qX (ρ 5).h (ρ 4).v cl)/\0 <= (ρ 3).i/\(ρ 3).i < 18446744073709551616,alts:=[
 { k:=1,ret:=.tup [],heap:=[qsg 0 4,.abs 6 1003],post:=fun ρ=>∀ cl,qX (ρ 5).h (ρ 4).v cl->qX (ρ 6).h (ρ 4).v (qeC cl (qg (ρ 1).d 32) (ρ 2).i (ρ 3).i) }] }
def q9O (h:Hp) (it:Value) (m:List ME) (seen:List Nat):Prop:=∃ b' mo since st,it = .pointer (some ⟨b',0,none⟩)/\h b' = some (.mapIter mo since seen.toArray st) /\
 ((mo = none/\m = [])∨∃ b c,mo = some b/\b' ≠ b/\qaU h b mtI m c/\c <= since/\(seen = []∨m = []∨∃ e ∈ m,e.born < st)/\∀ n ∈ seen,∃ e ∈ m,e.born = n)
def qiw (h:Hp) (it:Value):Nat :=
 match it with
 | .pointer (some a) =>
  match h a.block with
  | some (.mapIter (some b) _ seen _) =>
   match h b with
   | some (.map es _)=>(es.toList.filter fun e=>!(seen.contains e.born)).length
   | _=>0
  | _=>0
 | _=>0
def q77 (ρ:Env):Prop:=(∃ cl,qX (ρ 5).h (ρ 4).v cl)/\qL (qg (ρ 1).d 32)/\qcw ρ 6/\qcw ρ 11/\gOk ρ 16 17 gR/\0 <= (ρ 3).i/\(ρ 3).i < 18446744073709551616
def qc3:Ctr:={ fn := 68,nv:=18,ip:=[gIp 16,(5030, 181)],args:=[clP 0,dgV 1,iv .i64 (.var 2),iv .u64 (.var 3),bS 6,bS 11],heap:=[qsg 0 4,.abs 5 1003],ro:=[qeU 6,qeU 11,gHp 16 17],pre:=q77,alts:=[
 { k:=2,ret:=.one (.vbool (.var 18)),heap:=[qsg 0 4,.abs 19 1003],post:=fun ρ=>∀ cl,qX (ρ 5).h (ρ 4).v cl->qX (ρ 19).h (ρ 4).v cl/\(ρ 18).b = qej cl (qg (ρ 1).d 32) (ρ 2).i (ρ 3).i (qx (ρ 9).d) (qx (ρ 14).d) }] }
def qjg (o:List Int) (self clock:Int) (L H:List Int) (x:ME):Bool:=qkG (qag (x.v.headD .nilFunc)) clock && decide (x.k.headD 0 ∈ L) && !decide (x.k.headD 0 ∈ H) && qS o (x.k.headD 0) self
def qrz (h0 h:Hp) (v it:Value) (o:List Int) (self clock:Int) (L H:List Int) (x:Bool):Prop:=∀ cl,qX h0 v cl->qX h v cl/\∃ m seen,q9O h it m seen/\(∀ i,cl o i = qdU m i)/\x = (m.filter fun e=>seen.contains e.born).any (qjg o self clock L H)
def qoS:Inv:={ key:=6,nv:=8,env:=[(2,iv .i64 (.var 2)),(3,iv .u64 (.var 3)),(7,qus 1000),(13,.one (.vptr 1001 (.lit 0) 16 0)),(14,.one (.vptr 1003 (.lit 0) 16 0)),(15,.one (.vbool (.var 1005))),(30,.one (.var 1006))],heap:=[qAd 1000 1,.arr 1001 157 qs4 (.var 1002) (.lit 1),.arr 1003 157 qs4 (.var 1004) (.lit 1),qsg 0 4,.abs 1007 1003],inv:=(fun ρ=>qdB (ρ 1002).d (qx (ρ 14).d) (ρ 14).d.length/\qdB (ρ 1004).d (qx (ρ 9).d) (ρ 9).d.length/\qrz (ρ 5).h (ρ 1007).h (ρ 4).v (ρ 1006).v (qg (ρ 1).d 32) (ρ 2).i (ρ 3).i (qx (ρ 9).d) (qx (ρ 14).d) (ρ 1005).b),mu:=(fun ρ=>qiw (ρ 1007).h (ρ 1006).v) }
end Go.Eng

set_option linter.unusedSimpArgs false
set_option linter.unusedVariables false
namespace Go.Eng
open Go Go.Proofs
structure ManV where
 k:Int
 n:Int
 t:Int
 s:Int
 o:List Int
 D:List (List Int)
def ManV.ok (m:ManV):Bool:=qz m.k m.n m.t m.s m.D.length
def ManV.bytes (m:ManV):List Int:=qaP m.k m.n m.t m.s m.o ++ m.D.flatten
abbrev PcL:=List (Int × List Int)
def qAs (m d c:Nat):SH:=.arr m 27 qrQ (.var d) (.var c)
def qAu (g o m p l q:Nat):SH:=.cells g 165 (qaG .u8 o 32 ++ [.vptr m (.lit 0) 37 0,.vslice p (.lit 0) (.var l) (.var q) 2])
def gaP (g:Nat):SV:=.one (.vptr g (.lit 0) 34 0)
def qft (b tag:Nat):List SH:=[qAu b (b + 1) (b + 2) (b + 5) (b + 6) (b + 7),qAs (b + 2) (b + 3) (b + 4),qht (b + 5) (b + 8) (b + 7),.abs (b + 9) tag]
def qfS (h:Hp) (d:qd) (m:ManV):Prop:=∃ row D,d = [row]/\qu qrQ row/\Rd h k32 (row[36]?.getD .nilFunc) D/\qcC D/\dgs D = m.D/\qb6 row 0 = m.k/\qb6 row 1 = m.n/\qb6 row 2 = m.t/\qb6 row 3 = m.s/\((List.range 32).map fun j=>qb6 row (4 + j)) = m.o/\qL m.o/\m.ok = true
def qpm (h:Hp) (P:qd) (L:PcL):Prop:=P.length = L.length/\qjw h P P.length/\∀ j,j < P.length->(pcI P j,pcD h P j) = L.getD j (0,[])
def qaL (h:Hp) (r:Option Addr) (d:qd) (c n:Int) (P:qd) (M:Option ManV) (L:PcL):Prop:=n = P.length/\qpm h P L/\(∀ x ∈ L,(x.2.length:Int) <= 9000)/\L.length <= 255/\((M = none/\r = none/\c = 0/\d = []/\L = [])∨∃ m,M = some m/\c = 1/\qfS h d m/\L ≠ [])
def qbf (M:Option ManV) (L:PcL):Bool:=match M with
 | some m=>decide (m.k <= L.length)
 | none=>false
def gaB (ρ:Env) (b:Nat) (M:Option ManV) (L:PcL):Prop:=qaL (ρ (b + 9)).h (ρ (b + 2)).r (ρ (b + 3)).d (ρ (b + 4)).i (ρ (b + 6)).i (ρ (b + 8)).d M L
def qc2:Ctr:={ fn := 45,nv:=1,args:=[dgV 0],heap:=[],ro:=[],pre:=fun _=>True,alts:=[
 { k:=1,ret:=gaP 1,heap:=[.cells 1 165 (qaG .u8 0 32 ++ [.vnilp,.vnils])],post:=fun _=>True }] }
def qb1:Ctr:={ fn := 47,nv:=10,args:=[gaP 0],heap:=[],ro:=qft 0 20,pre:=fun ρ=>∃ M L,gaB ρ 0 M L,alts:=[
 { k:=1,ret:=.one (.vbool (.var 10)),heap:=[],post:=fun ρ=>∀ M L,gaB ρ 0 M L->(ρ 10).b = qbf M L }] }
def qcG:Ctr:={ fn := 89,nv:=10,args:=[gaP 0],heap:=[],ro:=qft 0 20,pre:=fun ρ=>∃ M L,gaB ρ 0 M L,alts:=[
 { k:=1,ret:=iv .i64 (.var 10),heap:=[],post:=fun ρ=>∀ M L,gaB ρ 0 M L->(ρ 10).i = if qbf M L then 0 else 12 }] }
def qci:Ctr:={ fn := 55,nv:=10,args:=[gaP 0],heap:=[],ro:=qft 0 20,pre:=fun ρ=>∃ M L,gaB ρ 0 M L,alts:=[
 { k:=4,ret:=.one (.vslice 10 (.lit 0) (.var 11) (.var 12) 1),heap:=[iHp 10 13 12],post:=fun ρ=>∀ M L,gaB ρ 0 M L->qdC (ρ 13).d (ρ 11).i (L.map Prod.fst) }] }
def q0u:Inv:={ key:=5,nv:=5,env:=[(3,.one (.vslice 1000 (.lit 0) (.var 1001) (.var 1002) 1)),(12,pcS 5 6 7),(13,iv .i64 (.var 6)),(14,iv .i64 (.var 1004))],heap:=[iHp 1000 1003 1002],inv:=(fun ρ=>0 <= (ρ 1004).i/\(ρ 1004).i <= (ρ 6).i/\qdC (ρ 1003).d (ρ 1001).i (qc9 (ρ 8).d (ρ 1004).i.toNat)),mu:=(fun ρ=>((ρ 6).i - (ρ 1004).i).toNat) }
def qca:Ctr:={ fn := 90,nv:=5,args:=[.one (.vslice 0 (.lit 0) (.var 1) (.var 2) 32)],heap:=[],ro:=[qbX 0 3 4],pre:=fun ρ=>0 <= (ρ 1).i/\(ρ 1).i = (ρ 3).d.length/\(ρ 1).i <= 4398046510976,alts:=[
 { k:=3,ret:=.one (.vslice 5 (.lit 0) (.var 1) (.var 6) 32),heap:=[qbX 5 7 6],post:=fun ρ=>(ρ 7).d = (ρ 3).d }] }
def qfy (o:List Int) (M:Option ManV) (L:PcL) (m:ManV) (i:Int) (b:List Int):Int :=
 if m.ok = false then 2 else if sha m.bytes ≠ o then 20 else if qcg m.k m.n m.t m.s m.D.length m.D i b ≠ 0 then qcg m.k m.n m.t m.s m.D.length m.D i b else if i ∈ L.map Prod.fst then 7 else if qbf M L then 8 else 0
def qkx (ρ:Env) (r:Nat):ManV:=⟨(ρ r).i,(ρ (r + 1)).i,(ρ (r + 2)).i,(ρ (r + 3)).i,qg (ρ (r + 4)).d 32,dgs (ρ (r + 8)).d⟩
def qvN (ρ:Env):Prop:=(∃ M L,gaB ρ 0 M L)/\qL (qg (ρ 1).d 32)/\qk1 ρ 10/\qbD (ρ 20).i/\qeO ρ 20/\(ρ 22).i <= 9000
def qcu:Ctr:={ fn := 48,nv:=28,ip:=[gIp 26,(1002,9)],args:=[gaP 0,qnx 10,qfz 20],heap:=qft 0 20,ro:=[qbX 15 18 19,qnu 20,gHp 26 27],pre:=fun ρ=>qvN ρ/\gOk ρ 26 27 gR,alts:=[
 { k:=9,ret:=iv .i64 (.var 36),heap:=[qAu 0 1 28 31 32 33,qAs 28 29 30,qht 31 34 33,.abs 35 20],post:=fun ρ=>∀ M L,gaB ρ 0 M L->(ρ 36).i = qfy (qg (ρ 1).d 32) M L (qkx ρ 10) (ρ 20).i (bI (ρ 24).d)/\qaL (ρ 35).h (ρ 28).r (ρ 29).d (ρ 30).i (ρ 32).i (ρ 34).d (if (ρ 36).i = 0 then some (qkx ρ 10) else M) (if (ρ 36).i = 0 then L ++ [((ρ 20).i,bI (ρ 24).d)] else L) }] }
end Go.Eng

set_option linter.unusedSimpArgs false
set_option linter.unusedVariables false
namespace Go.Proofs
open Go Go.Eng Go.RowKit Go.Lib
theorem q6o {P:Program} (a b:Addr) (xs ys:List Int) (c c':Nat) (w:World) (hx:∀ j x,xs[j]? = some x->w.cell? (a.add j) = some (.int .u8 x)) (hy:∀ j x,ys[j]? = some x->w.cell? (b.add j) = some (.int .u8 x)) :
  (Extern.BytealgCompare.compare #[.slice (some a) xs.length c,.slice (some b) ys.length c']).run P w = .ok (.int .i64 (compareBytes (Lib.bytesOf xs) (Lib.bytesOf ys))) w:=by
 have h1:=run_loadBytesX (P:=P) w xs a .empty hx
 have h2:=run_loadBytesX (P:=P) w ys b .empty hy
 change Sem.run P (do pure (goInt (Extern.BytealgCompare.cmp (<- Extern.Bytes.bytesOf (.slice (some a) xs.length c)) (<- Extern.Bytes.bytesOf (.slice (some b) ys.length c'))))) w = _
 simp only [Extern.Bytes.bytesOf,Sem.run_bind,h1,h2,Sem.run_pure,Result.andThen]
 rw [cmp_eq]
 simp [goInt]
set_option maxHeartbeats 1000000 in
set_option maxRecDepth 100000 in
theorem qqm (a b:Addr) (xs ys:List Int) (c c':Nat) (w:World) (hx:∀ j x,xs[j]? = some x->w.cell? (a.add j) = some (.int .u8 x)) (hy:∀ j x,ys[j]? = some x->w.cell? (b.add j) = some (.int .u8 x)) :
  Calls Tryz.prog 118 #[.slice (some a) xs.length c,.slice (some b) ys.length c'] w fun e w'=>e = .returned (.int .i64 (compareBytes (Lib.bytesOf xs) (Lib.bytesOf ys)))/\w' = w:=by
 go_enter Tryz.func118,Tryz.ntmps118
 go_wp2
 rw [run_callFunc_extern Tryz.func139 (by kernel_rfl) (by kernel_rfl) (by kernel_rfl) (e:=Extern.BytealgCompare.compare) (by kernel_rfl),q6o a b xs ys c c' w hx hy]
 simp only [Result.andThen]
 rw [Oper.upon_value]
 go_wp2
 go_ret
 exact ⟨rfl,rfl⟩
end Go.Proofs

set_option linter.unusedSimpArgs false
set_option linter.unusedVariables false
namespace Go.Proofs
open Go Go.Eng
theorem q7F {x y:Int} (hx:0 <= x/\x < 256) (hy:0 <= y/\y < 256):x.toNat.toUInt8 < y.toNat.toUInt8↔x < y:=by
 rw [UInt8.lt_iff_toNat_lt]
 have h1:x.toNat.toUInt8.toNat = x.toNat:=by
  show x.toNat % 256 = x.toNat
  omega
 have h2:y.toNat.toUInt8.toNat = y.toNat:=by
  show y.toNat % 256 = y.toNat
  omega
 rw [h1,h2]; omega
theorem qmh:∀ {xs ys:List Int},qL xs->qL ys->Lib.compareBytes (Lib.bytesOf xs) (Lib.bytesOf ys) = qbB xs ys
 | [],[],_,_=>rfl
 | [],_ :: _,_,_=>rfl
 | _ :: _,[],_,_=>rfl
 | x :: xs,y :: ys,hx,hy=>by
  have h1:=q7F (hx x (List.mem_cons_self ..)) (hy y (List.mem_cons_self ..))
  have h2:=q7F (hy y (List.mem_cons_self ..)) (hx x (List.mem_cons_self ..))
  have h3:=qmh (xs:=xs) (ys:=ys) (fun z hz=>hx z (List.mem_cons_of_mem _ hz)) (fun z hz=>hy z (List.mem_cons_of_mem _ hz))
  show (if x.toNat.toUInt8 < y.toNat.toUInt8 then -1 else if y.toNat.toUInt8 < x.toNat.toUInt8 then 1 else Lib.compareBytes (Lib.bytesOf xs) (Lib.bytesOf ys)) = _
  rw [h3,qbB]
  simp only [h1,h2]
theorem qAD {k:IntKind} {v:Value} (h:CK.fits (.int k) v = true):∃ z,v = .int k z:=by
 cases v <;> simp [CK.fits] at h
 subst h
 exact ⟨_,rfl⟩
theorem qu2 {c:Array Value} {b o:Nat} {ty:TypeId} {fr:Nat × Nat} {d:qd} {w:World} (hb:w.heap[b]? = some (.cells c ty fr)) (hd:qao d 33) (hr:qU c o kRk d) :
  ∀ j x,((qg d 33).drop 1)[j]? = some x->w.cell? ((⟨b,o + 1,none⟩:Addr).add j) = some (.int .u8 x):=fun j x hx=>by
 obtain ⟨row,rfl,hl⟩:=hd
 obtain ⟨hf,hc⟩:=hr 0 row rfl
 rw [List.getElem?_drop] at hx
 have hj:1 + j < 33:=by
  rcases Nat.lt_or_ge (1 + j) 33 with h | h
  ·exact h
  ·rw [List.getElem?_eq_none (by simp [qg]; omega)] at hx; cases hx
 have hx2:x = qag (row[1 + j]?.getD .nilFunc):=by
  rw [qg,List.getElem?_map,List.getElem?_range hj] at hx
  have:=(Option.some.inj hx).symm
  rw [this]; rfl
 have hrow:row[1 + j]? = some row[1 + j]:=List.getElem?_eq_getElem (by omega)
 have hk:kRk[1 + j]? = some (.int .u8):=by
  have:kRk = .int .i64 :: List.replicate 32 (.int .u8):=rfl
  rw [this,Nat.add_comm,List.getElem?_cons_succ,List.getElem?_replicate,if_pos (by omega)]
 obtain ⟨z,hz⟩:=qAD (hf.2 (1 + j) (.int .u8) row[1 + j] hk hrow)
 have hv:=hc (1 + j) row[1 + j] hrow
 rw [hx2,hrow]
 simp only [Option.getD_some]
 rw [hz] at hv ⊢
 have e:((⟨b,o + 1,none⟩:Addr).add j) = ⟨b,o + 1 + j,none⟩:=by
  unfold Addr.add
  by_cases hj0:j = 0
  ·subst hj0; simp
  ·simp [hj0]
 rw [e]
 simp only [World.cell?,hb]
 show c[o + 1 + j]? = _
 rw [show o + 1 + j = o + 0 * kRk.length + (1 + j) by omega,hv]
 rfl
theorem q8R:qkQ.ok Tryz.prog:=by
 refine ⟨fun args w=>Tryz.call118 args w,fun ρ w hF hO hg hd hw hs hro hp=>?_⟩
 obtain ⟨h2,h3,b2,b3⟩:=hp
 have hr0:=hro _ (List.mem_cons_self ..)
 have hr1:=hro _ (List.mem_cons_of_mem _ (List.mem_cons_self ..))
 obtain ⟨row2,e2,l2⟩:=h2
 obtain ⟨row3,e3,l3⟩:=h3
 rcases hr0 with h | ⟨b,o,c,ty,fr,q1,q2,q3⟩
 ·have h:(ρ 2).d = []:=h
  rw [e2] at h; cases h
 rcases hr1 with h | ⟨b',o',c',ty',fr',p1,p2,p3⟩
 ·have h:(ρ 3).d = []:=h
  rw [e3] at h; cases h
 have hsub:∀ {x:Nat} {X:Obj},hF.h x = some X->w.heap[x]? = some X:=fun h=>hw.1 _ _ (by simp [Hp.union,h])
 have hx:=qu2 (w:=w) (hsub q2) ⟨row2,e2,l2⟩ q3
 have hy:=qu2 (w:=w) (hsub p2) ⟨row3,e3,l3⟩ p3
 have hlen:∀ d:qd,((qg d 33).drop 1).length = 32:=fun d=>by simp [qg]
 have hc:=qqm ⟨b,o + 1,none⟩ ⟨b',o' + 1,none⟩ _ _ 32 32 w hx hy
 rw [hlen,hlen] at hc
 have hargs:(List.map (SV.den ρ) qkQ.args).toArray = #[.slice (some ⟨b,o + 1,none⟩) 32 32,.slice (some ⟨b',o' + 1,none⟩) 32 32]:=by
  simp [qkQ,SV.den,T.den,O0.den,O3.den,q1,p1,qm]
 rw [hargs]
 refine hc.mono fun e w' h=>?_
 obtain ⟨rfl,rfl⟩:=h
 refine ⟨0,_,ρ.set 4 { i:=qbB ((qg (ρ 2).d 33).drop 1) ((qg (ρ 3).d 33).drop 1) },rfl,fun n=>?_,fun n hn=>Env.set_ne _ _ (by have:n < 4:=hn; omega),?_,?_,hO,hd,trivial,hw.1,hw.2⟩
 ·by_cases hn:n = 4
  ·subst hn; rw [Env.set_same]; exact ⟨rfl,fun row hr=>(by cases hr)⟩
  ·rw [Env.set_ne _ _ hn]; exact hg n
 ·rw [qmh b2 b3]; rfl
 ·rfl
end Go.Proofs

set_option linter.unusedSimpArgs false
set_option linter.unusedVariables false
set_option maxRecDepth 100000
namespace Go.Proofs
open Go Go.Eng

def qxs:Out:=(.br (.cmp .geq (.var 0) (.lit 0))
 (.ret 0 (sg 1 [bt 1 (.cmp .lss (.var 0) (.lit 16))]))
 (.ret 0 (sg 1 [bt 1 (.bl false)])))
theorem q4z:qj ⟨Tryz.prog,qc7,[],[]⟩ 100000 Tryz.f100 = qxs:=by kernel_rfl
theorem q83 (hd:∀ c ∈ ([]:List Ctr),c.ok Tryz.prog) (h:∀ ρ:Env,ρ.good->(qc7).pre ρ->qxs.den ⟨Tryz.prog,qc7,[],[]⟩ ρ):(qc7).ok Tryz.prog :=
 qf Tryz.func100 (fun a w=>Tryz.call100 a w) hd 100000 (fun ρ hg hp=>by rw [q4z]; exact h ρ hg hp)
@[simp] def qb5:T:=.rcons (.vbool (.bcell (.var 7) (.lit 0) 0)) (.rcons (.vbool (.bcell (.var 7) (.lit 0) 1)) (.rcons (.vbool (.bcell (.var 7) (.lit 0) 2)) (.rcons (.vbool (.bcell (.var 7) (.lit 0) 3)) (.rcons (.vbool (.bcell (.var 7) (.lit 0) 4)) (.rcons (.vbool (.bcell (.var 7) (.lit 0) 5)) (.rcons (.vbool (.bcell (.var 7) (.lit 0) 6)) (.rcons (.vbool (.bcell (.var 7) (.lit 0) 7)) (.rcons (.vbool (.bcell (.var 7) (.lit 0) 8)) (.rcons (.vbool (.bcell (.var 7) (.lit 0) 9)) (.rcons (.vbool (.bcell (.var 7) (.lit 0) 10)) (.rcons (.vbool (.bcell (.var 7) (.lit 0) 11)) (.rcons (.vbool (.bcell (.var 7) (.lit 0) 12)) (.rcons (.vbool (.bcell (.var 7) (.lit 0) 13)) (.rcons (.vbool (.bcell (.var 7) (.lit 0) 14)) (.rcons (.vbool (.bcell (.var 7) (.lit 0) 15)) .rnil)))))))))))))))
def qnr:Out:=(.fresh 5 (.need (.cmp .leq (.lit 0) (.var 1)) (.inv 0 6 (sg 1000 [bt 1001 (.rcons (.vbool (.bl false)) (.rcons (.vbool (.bl false)) (.rcons (.vbool (.bl false)) (.rcons (.vbool (.bl false)) (.rcons (.vbool (.bl false)) (.rcons (.vbool (.bl false)) (.rcons (.vbool (.bl false)) (.rcons (.vbool (.bl false)) (.rcons (.vbool (.bl false)) (.rcons (.vbool (.bl false)) (.rcons (.vbool (.bl false)) (.rcons (.vbool (.bl false)) (.rcons (.vbool (.bl false)) (.rcons (.vbool (.bl false)) (.rcons (.vbool (.bl false)) (.rcons (.vbool (.bl false)) .rnil)))))))))))))))),bt 1002 (.lit 0),bg 1000 5]) (.fresh 6 (.fresh 7 (.fresh 8 (.hyp 0 6 (.br (.cmp .lss (.var 8) (.var 1))
 (.need (.cmp .leq (.lit 0) (.var 8)) (.need (.cmp .lss (.var 8) (.dlen (.var 3))) (.pre 0 (sg 0 [bt 0 (.icell (.var 3) (.var 8) 0)]) (.both (.fresh 9 (.post 0 0 (sg 0 [bt 0 (.icell (.var 3) (.var 8) 0)]) 9 (.br (.var 9)
 (.need (.cmp .leq (.lit 0) (.icell (.var 3) (.var 8) 0)) (.need (.cmp .lss (.icell (.var 3) (.var 8) 0) (.lit 16)) (.need (.cmp .lss (.lit 0) (.dlen (.var 7))) (.back 0 6 (sg 1000 [bt 1001 (.c3 (.xput 0) (.var 7) (.icell (.var 3) (.var 8) 0) (.vbool (.bl true))),bt 1002 (.arith .add .i64 (.var 8) (.lit 1)),bg 1000 6])))))
 (.back 0 6 (sg 1000 [bv 1001 7,bt 1002 (.arith .add .i64 (.var 8) (.lit 1)),bg 1000 6]))))) .top))))
 (.need (.cmp .lss (.lit 0) (.dlen (.var 7))) (.ret 0 (sg 5 [bt 20 (.bcell (.dput (.var 7) (.lit 0) 0 qb5) (.lit 0) 15),bt 19 (.bcell (.dput (.var 7) (.lit 0) 0 qb5) (.lit 0) 14),bt 18 (.bcell (.dput (.var 7) (.lit 0) 0 qb5) (.lit 0) 13),bt 17 (.bcell (.dput (.var 7) (.lit 0) 0 qb5) (.lit 0) 12),bt 16 (.bcell (.dput (.var 7) (.lit 0) 0 qb5) (.lit 0) 11),bt 15 (.bcell (.dput (.var 7) (.lit 0) 0 qb5) (.lit 0) 10),bt 14 (.bcell (.dput (.var 7) (.lit 0) 0 qb5) (.lit 0) 9),bt 13 (.bcell (.dput (.var 7) (.lit 0) 0 qb5) (.lit 0) 8),bt 12 (.bcell (.dput (.var 7) (.lit 0) 0 qb5) (.lit 0) 7),bt 11 (.bcell (.dput (.var 7) (.lit 0) 0 qb5) (.lit 0) 6),bt 10 (.bcell (.dput (.var 7) (.lit 0) 0 qb5) (.lit 0) 5),bt 9 (.bcell (.dput (.var 7) (.lit 0) 0 qb5) (.lit 0) 4),bt 8 (.bcell (.dput (.var 7) (.lit 0) 0 qb5) (.lit 0) 3),bt 7 (.bcell (.dput (.var 7) (.lit 0) 0 qb5) (.lit 0) 2),bt 6 (.bcell (.dput (.var 7) (.lit 0) 0 qb5) (.lit 0) 1),bt 5 (.bcell (.dput (.var 7) (.lit 0) 0 qb5) (.lit 0) 0)])))))))))))
theorem q6H:qj ⟨Tryz.prog,qet,[qc7],[qrE]⟩ 100000 Tryz.f82 = qnr:=by kernel_rfl
theorem q9C (hd:∀ c ∈ ([qc7]:List Ctr),c.ok Tryz.prog) (h:∀ ρ:Env,ρ.good->(qet).pre ρ->qnr.den ⟨Tryz.prog,qet,[qc7],[qrE]⟩ ρ):(qet).ok Tryz.prog :=
 qf Tryz.func82 (fun a w=>Tryz.call82 a w) hd 100000 (fun ρ hg hp=>by rw [q6H]; exact h ρ hg hp)
@[simp] def qtx:Sg:=sg 0 [bv 7 3,bv 5 8,bt 4 (.dapp (.dapp (.rcons (x8 0 0) .rnil) (.dapp (.rcons (x8 1 0) .rnil) (.dapp (.rcons (x8 2 0) .rnil) (.dapp (.rcons (x8 3 0) .rnil) (.dapp (.rcons (x8 4 0) .rnil) (.dapp (.rcons (x8 5 0) .rnil) (.dapp (.rcons (x8 6 0) .rnil) (.dapp (.rcons (x8 7 0) .rnil) (.dapp (.rcons (x8 8 0) .rnil) (.dapp (.rcons (x8 9 0) .rnil) (.dapp (.rcons (x8 10 0) .rnil) (.dapp (.rcons (x8 11 0) .rnil) (.dapp (.rcons (x8 12 0) .rnil) (.dapp (.rcons (x8 13 0) .rnil) (.dapp (.rcons (x8 14 0) .rnil) (.dapp (.rcons (x8 15 0) .rnil) (.dapp (.rcons (x8 16 0) .rnil) (.dapp (.rcons (x8 17 0) .rnil) (.dapp (.rcons (x8 18 0) .rnil) (.dapp (.rcons (x8 19 0) .rnil) (.dapp (.rcons (x8 20 0) .rnil) (.dapp (.rcons (x8 21 0) .rnil) (.dapp (.rcons (x8 22 0) .rnil) (.dapp (.rcons (x8 23 0) .rnil) (.dapp (.rcons (x8 24 0) .rnil) (.dapp (.rcons (x8 25 0) .rnil) (.dapp (.rcons (x8 26 0) .rnil) (.dapp (.rcons (x8 27 0) .rnil) (.dapp (.rcons (x8 28 0) .rnil) (.dapp (.rcons (x8 29 0) .rnil) (.dapp (.rcons (x8 30 0) .rnil) (.rcons (x8 31 0) .rnil)))))))))))))))))))))))))))))))) (.rcons (.vint .u8 (.conv .u8 (.var 1))) .rnil)),bv 3 8,bt 2 (.lit 33),bt 1 (.lit 0),bg 0 7,bg 6 2]
def qrc:Out:=(.fresh 4 (.fresh 5 (.fresh 6 (.need (.cmp .leq (.tims (.lit 1) (.lit 33)) (.lit 140737488355328)) (.fresh 7 (.fresh 8 (.know (.cmp .leq (.lit 33) (.var 8)) (.pre 0 qtx (.both (.fresh 9 (.post 0 0 qtx 9 (.ret 0 (sg 4 [bt 4 (r8 9)])))) .top)))))))))
theorem q1w:qj ⟨Tryz.prog,qcz,[qah],[]⟩ 100000 Tryz.f24 = qrc:=by kernel_rfl
theorem q7u (hd:∀ c ∈ ([qah]:List Ctr),c.ok Tryz.prog) (h:∀ ρ:Env,ρ.good->(qcz).pre ρ->qrc.den ⟨Tryz.prog,qcz,[qah],[]⟩ ρ):(qcz).ok Tryz.prog :=
 qf Tryz.func24 (fun a w=>Tryz.call24 a w) hd 100000 (fun ρ hg hp=>by rw [q1w]; exact h ρ hg hp)
def qwN:Out:=(.fresh 4 (.fresh 5 (.pre 0 (sg 0 [bv 3 3,bv 1 1,bt 0 (r8 0),bg 2 2]) (.both (.fresh 6 (.post 0 0 (sg 0 [bv 3 3,bv 1 1,bt 0 (r8 0),bg 2 2]) 6 (.ret 0 (sg 4 [bt 4 (r8 6)])))) .top))))
theorem q3t:qj ⟨Tryz.prog,qeb,[qcz],[]⟩ 100000 Tryz.f80 = qwN:=by kernel_rfl
theorem q8F (hd:∀ c ∈ ([qcz]:List Ctr),c.ok Tryz.prog) (h:∀ ρ:Env,ρ.good->(qeb).pre ρ->qwN.den ⟨Tryz.prog,qeb,[qcz],[]⟩ ρ):(qeb).ok Tryz.prog :=
 qf Tryz.func80 (fun a w=>Tryz.call80 a w) hd 100000 (fun ρ hg hp=>by rw [q3t]; exact h ρ hg hp)
def qlF:Out:=(.fresh 4 (.fresh 5 (.both (.pre 0 (sg 0 [bt 3 (.rcons (.vint .i64 (.var 2)) (r8 3)),bt 2 (.rcons (.vint .i64 (.var 0)) (r8 1)),bg 1 5,bg 0 4]) (.both (.fresh 6 (.post 0 0 (sg 0 [bt 3 (.rcons (.vint .i64 (.var 2)) (r8 3)),bt 2 (.rcons (.vint .i64 (.var 0)) (r8 1)),bg 1 5,bg 0 4]) 6 (.br (.cmp .neq (.var 6) (.lit 0))
 (.ret 0 (sg 4 [bv 4 6]))
 (.ret 0 (sg 4 [bt 4 (.arith .sub .i64 (.var 0) (.var 2))]))))) .top)) .top)))
theorem quw:qj ⟨Tryz.prog,qcX,[qkQ],[]⟩ 100000 Tryz.f81 = qlF:=by kernel_rfl
theorem q1C (hd:∀ c ∈ ([qkQ]:List Ctr),c.ok Tryz.prog) (h:∀ ρ:Env,ρ.good->(qcX).pre ρ->qlF.den ⟨Tryz.prog,qcX,[qkQ],[]⟩ ρ):(qcX).ok Tryz.prog :=
 qf Tryz.func81 (fun a w=>Tryz.call81 a w) hd 100000 (fun ρ hg hp=>by rw [quw]; exact h ρ hg hp)
@[simp] def qpE:Out:=.fresh 10 (.both (.fresh 11 (.both (.both (.br (.c2 .req (r8 6) (r8 8))
 (.ret 0 (sg 5 [bt 5 (.cmp .lss (.var 1) (.var 2))]))
 (.pre 1 (sg 0 [bv 2 2,bt 3 (r8 8),bv 0 1,bt 1 (r8 6)]) (.both (.fresh 12 (.post 1 0 (sg 0 [bv 2 2,bt 3 (r8 8),bv 0 1,bt 1 (r8 6)]) 12 (.ret 0 (sg 5 [bt 5 (.cmp .lss (.var 12) (.lit 0))])))) .top))) .top) .top)) .top)
@[simp] def qqY:Out:=.fresh 8 (.both (.pre 0 (sg 0 [bv 3 4,bv 1 2,bt 0 (r8 0),bg 2 3]) (.both (.fresh 9 (.fresh 10 (.post 0 0 (sg 0 [bv 3 4,bv 1 2,bt 0 (r8 0),bg 2 3]) 9 (.both (.fresh 11 (.both (.both (.br (.c2 .req (r8 6) (r8 9))
 (.ret 0 (sg 5 [bt 5 (.cmp .lss (.var 1) (.var 2))]))
 (.pre 1 (sg 0 [bv 2 2,bt 3 (r8 9),bv 0 1,bt 1 (r8 6)]) (.both (.fresh 12 (.post 1 0 (sg 0 [bv 2 2,bt 3 (r8 9),bv 0 1,bt 1 (r8 6)]) 12 (.ret 0 (sg 5 [bt 5 (.cmp .lss (.var 12) (.lit 0))])))) .top))) .top) .top)) .top)))) .top)) (.both (.fresh 9 (.both (.pre 0 (sg 0 [bv 3 4,bv 1 2,bt 0 (r8 0),bg 2 3]) (.both (.fresh 10 (.fresh 11 (.post 0 0 (sg 0 [bv 3 4,bv 1 2,bt 0 (r8 0),bg 2 3]) 10 (.both (.both (.br (.c2 .req (r8 6) (r8 10))
 (.ret 0 (sg 5 [bt 5 (.cmp .lss (.var 1) (.var 2))]))
 (.pre 1 (sg 0 [bv 2 2,bt 3 (r8 10),bv 0 1,bt 1 (r8 6)]) (.both (.fresh 12 (.post 1 0 (sg 0 [bv 2 2,bt 3 (r8 10),bv 0 1,bt 1 (r8 6)]) 12 (.ret 0 (sg 5 [bt 5 (.cmp .lss (.var 12) (.lit 0))])))) .top))) .top) .top)))) .top)) .top)) .top))
@[simp] def qpp:Out:=.fresh 6 (.both (.pre 0 (sg 0 [bv 3 4,bv 1 1,bt 0 (r8 0),bg 2 3]) (.both (.fresh 7 (.fresh 8 (.post 0 0 (sg 0 [bv 3 4,bv 1 1,bt 0 (r8 0),bg 2 3]) 7 (.both (.pre 0 (sg 0 [bv 3 4,bv 1 2,bt 0 (r8 0),bg 2 3]) (.both (.fresh 9 (.fresh 10 (.post 0 0 (sg 0 [bv 3 4,bv 1 2,bt 0 (r8 0),bg 2 3]) 9 (.both (.fresh 11 (.both (.both (.br (.c2 .req (r8 7) (r8 9))
 (.ret 0 (sg 5 [bt 5 (.cmp .lss (.var 1) (.var 2))]))
 (.pre 1 (sg 0 [bv 2 2,bt 3 (r8 9),bv 0 1,bt 1 (r8 7)]) (.both (.fresh 12 (.post 1 0 (sg 0 [bv 2 2,bt 3 (r8 9),bv 0 1,bt 1 (r8 7)]) 12 (.ret 0 (sg 5 [bt 5 (.cmp .lss (.var 12) (.lit 0))])))) .top))) .top) .top)) .top)))) .top)) (.both (.fresh 9 (.both (.pre 0 (sg 0 [bv 3 4,bv 1 2,bt 0 (r8 0),bg 2 3]) (.both (.fresh 10 (.fresh 11 (.post 0 0 (sg 0 [bv 3 4,bv 1 2,bt 0 (r8 0),bg 2 3]) 10 (.both (.both (.br (.c2 .req (r8 7) (r8 10))
 (.ret 0 (sg 5 [bt 5 (.cmp .lss (.var 1) (.var 2))]))
 (.pre 1 (sg 0 [bv 2 2,bt 3 (r8 10),bv 0 1,bt 1 (r8 7)]) (.both (.fresh 12 (.post 1 0 (sg 0 [bv 2 2,bt 3 (r8 10),bv 0 1,bt 1 (r8 7)]) 12 (.ret 0 (sg 5 [bt 5 (.cmp .lss (.var 12) (.lit 0))])))) .top))) .top) .top)))) .top)) .top)) .top))))) .top)) (.both (.fresh 7 (.both (.pre 0 (sg 0 [bv 3 4,bv 1 1,bt 0 (r8 0),bg 2 3]) (.both (.fresh 8 (.fresh 9 (.post 0 0 (sg 0 [bv 3 4,bv 1 1,bt 0 (r8 0),bg 2 3]) 8 (.both (.pre 0 (sg 0 [bv 3 4,bv 1 2,bt 0 (r8 0),bg 2 3]) (.both (.fresh 10 (.fresh 11 (.post 0 0 (sg 0 [bv 3 4,bv 1 2,bt 0 (r8 0),bg 2 3]) 10 (.both (.both (.br (.c2 .req (r8 8) (r8 10))
 (.ret 0 (sg 5 [bt 5 (.cmp .lss (.var 1) (.var 2))]))
 (.pre 1 (sg 0 [bv 2 2,bt 3 (r8 10),bv 0 1,bt 1 (r8 8)]) (.both (.fresh 12 (.post 1 0 (sg 0 [bv 2 2,bt 3 (r8 10),bv 0 1,bt 1 (r8 8)]) 12 (.ret 0 (sg 5 [bt 5 (.cmp .lss (.var 12) (.lit 0))])))) .top))) .top) .top)))) .top)) .top)))) .top)) .top)) .top))
def qoF:Out:=(.fresh 5 (.both (.pre 0 (sg 0 [bv 3 4,bv 1 1,bt 0 (r8 0),bg 2 3]) (.both (.fresh 6 (.fresh 7 (.post 0 0 (sg 0 [bv 3 4,bv 1 1,bt 0 (r8 0),bg 2 3]) 6 (.both (.pre 0 (sg 0 [bv 3 4,bv 1 2,bt 0 (r8 0),bg 2 3]) (.both (.fresh 8 (.fresh 9 (.post 0 0 (sg 0 [bv 3 4,bv 1 2,bt 0 (r8 0),bg 2 3]) 8 (.both qpE (.both qpE .top))))) .top)) (.both qqY (.both qqY .top)))))) .top)) (.both qpp (.both qpp .top))))
theorem qyx:qj ⟨Tryz.prog,qbZ,[qeb,qcX],[]⟩ 100000 Tryz.f26 = qoF:=by kernel_rfl
theorem q3K (hd:∀ c ∈ ([qeb,qcX]:List Ctr),c.ok Tryz.prog) (h:∀ ρ:Env,ρ.good->(qbZ).pre ρ->qoF.den ⟨Tryz.prog,qbZ,[qeb,qcX],[]⟩ ρ):(qbZ).ok Tryz.prog :=
 qf Tryz.func26 (fun a w=>Tryz.call26 a w) hd 100000 (fun ρ hg hp=>by rw [qyx]; exact h ρ hg hp)
end Go.Proofs
