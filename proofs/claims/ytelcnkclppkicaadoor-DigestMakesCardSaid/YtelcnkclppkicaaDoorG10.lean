/- Texts CR, YS, W7, YU, YV, YW, CS, CU, E13, E14. -/
import Derived.Test.YtelcnkclppkicaaDoorG9
import Derived.Test.YtelcnkclppkicaaDoorProg
import Derived.Test.YtelcnkclppkicaaDoorG5
import Derived.WalkKit
import Derived.ProofKit
import Derived.OpenShut
import Derived.Carry
import Derived.SizedLaws
set_option linter.unusedSimpArgs false
set_option linter.unusedVariables false
set_option maxRecDepth 100000
namespace Go.Proofs
open Go Go.Eng

@[simp] def o_makeU_4 : Sg := sg 0 [bv 8 9, bv 7 8, bv 1 1, bv 6 7, bv 5 6, bg 4 5, bv 3 4, bv 2 2, bg 0 0]
@[simp] def o_makeU_3 : Sg := sg 0 [bv 7 11, bv 5 9, bv 4 8, bv 3 7, bv 2 6, bt 1 (.lit 0), bg 0 5, bg 6 10]
@[simp] def o_makeU_2 : Sg := sg 0 [bv 8 11, bv 6 35, bv 5 36, bv 4 35, bt 3 (.dlen (.var 36)), bt 2 (.lit 0), bg 1 34, bt 0 (.icell (.var 29) (.var 26) 0), bg 7 10]
@[simp] def o_makeU_1 : Sg := sg 0 [bv 8 11, bv 6 33, bv 5 34, bv 4 33, bt 3 (.dlen (.var 34)), bt 2 (.lit 0), bg 1 32, bt 0 (.icell (.var 27) (.var 24) 0), bg 7 10]
def o_makeU : Out := (.fresh 12 (.br (.and (.cmp .eql (.dlen (.var 1)) (.lit 0)) (.isnil 0))
 (.pack [.cells 12 27 [(.vint .i64 (.lit 0)), (.vint .i64 (.lit 0)), (.vint .i64 (.lit 0)), (.vint .i64 (.lit 0)), o8, o8, o8, o8, o8, o8, o8, o8, o8, o8, o8, o8, o8, o8, o8, o8, o8, o8, o8, o8, o8, o8, o8, o8, o8, o8, o8, o8, o8, o8, o8, o8, .vnils]] 13 (.ret 0 (sg 12 [bg 25 13, bt 24 .dnil, bt 20 .dnil, bv 27 1, bt 26 (.lit 1), bt 23 (.lit 0), bt 22 (.lit 0), (21, .nil), bt 19 (.lit 0), bt 18 (.lit 0), (17, .nil), bt 15 (.lit 0), bt 14 (.lit 0), bt 13 (.lit 0), bt 12 (.lit 0), bt 16 z8])))
 (.pre 0 (sg 0 [bv 2 4, bv 1 3, bv 0 2]) (.both (.fresh 13 (.post 0 0 (sg 0 [bv 2 4, bv 1 3, bv 0 2]) 13 (.br (.not (.var 13))
 (.pack [.cells 12 27 [(.vint .i64 (.lit 0)), (.vint .i64 (.lit 0)), (.vint .i64 (.lit 0)), (.vint .i64 (.lit 0)), o8, o8, o8, o8, o8, o8, o8, o8, o8, o8, o8, o8, o8, o8, o8, o8, o8, o8, o8, o8, o8, o8, o8, o8, o8, o8, o8, o8, o8, o8, o8, o8, .vnils]] 14 (.ret 0 (sg 12 [bg 25 14, bt 24 .dnil, bt 20 .dnil, bv 27 1, bt 26 (.lit 2), bt 23 (.lit 0), bt 22 (.lit 0), (21, .nil), bt 19 (.lit 0), bt 18 (.lit 0), (17, .nil), bt 15 (.lit 0), bt 14 (.lit 0), bt 13 (.lit 0), bt 12 (.lit 0), bt 16 z8])))
 (.pre 1 o_makeU_4 (.both (.fresh 14 (.fresh 15 (.post 1 0 o_makeU_4 14 (.br (.cmp .neq (.var 14) (.lit 0))
 (.pack [.cells 12 27 [(.vint .i64 (.lit 0)), (.vint .i64 (.lit 0)), (.vint .i64 (.lit 0)), (.vint .i64 (.lit 0)), o8, o8, o8, o8, o8, o8, o8, o8, o8, o8, o8, o8, o8, o8, o8, o8, o8, o8, o8, o8, o8, o8, o8, o8, o8, o8, o8, o8, o8, o8, o8, o8, .vnils]] 16 (.ret 0 (sg 12 [bg 25 16, bt 24 .dnil, bt 20 .dnil, bv 27 15, bv 26 14, bt 23 (.lit 0), bt 22 (.lit 0), (21, .nil), bt 19 (.lit 0), bt 18 (.lit 0), (17, .nil), bt 15 (.lit 0), bt 14 (.lit 0), bt 13 (.lit 0), bt 12 (.lit 0), bt 16 z8])))
 (.need (.cmp .leq (.lit 0) (.var 6)) (.pre 2 o_makeU_3 (.both (.fresh 16 (.post 2 0 o_makeU_3 16 (.fresh 17 (.pack [] 18 (.need (.cmp .eql (.var 4) (.lit 0)) (.inv 0 19 (sg 1000 [bg 1011 18, bt 1008 .dnil, bt 1007 .dnil, bt 1006 (.lit 0), (1004, .nil), bt 1003 (r8 16), bv 1010 15, bt 1005 (.lit 0), bg 1002 17, bt 1009 (.lit 0), (1001, .nil), bg 1000 12]) (.fresh 19 (.fresh 20 (.fresh 21 (.fresh 22 (.fresh 23 (.fresh 24 (.fresh 25 (.fresh 26 (.fresh 27 (.fresh 28 (.fresh 29 (.fresh 30 (.hyp 0 19 (.br (.cmp .lss (.var 24) (.var 4))
 (.need (.cmp .leq (.lit 0) (.var 24)) (.need (.cmp .lss (.var 24) (.dlen (.var 27))) (.fresh 31 (.both (.viewL (.vcell (.var 27) (.var 24) 1) [CK.int .u8] [30] 32 (.pre 3 o_makeU_1 (.both (.fresh 35 (.post 3 0 o_makeU_1 35 (.both (.fresh 36 (.both (.need (.cmp .eql (.var 24) (.dlen (.var 26))) (.need (.cmp .leq (.tims (.lit 32) (.plus (.var 24) (.lit 1))) (.lit 140737488355328)) (.fresh 37 (.fresh 38 (.both (.both (.pack [.cells 36 24 [(x8 0 35), (x8 1 35), (x8 2 35), (x8 3 35), (x8 4 35), (x8 5 35), (x8 6 35), (x8 7 35), (x8 8 35), (x8 9 35), (x8 10 35), (x8 11 35), (x8 12 35), (x8 13 35), (x8 14 35), (x8 15 35), (x8 16 35), (x8 17 35), (x8 18 35), (x8 19 35), (x8 20 35), (x8 21 35), (x8 22 35), (x8 23 35), (x8 24 35), (x8 25 35), (x8 26 35), (x8 27 35), (x8 28 35), (x8 29 35), (x8 30 35), (x8 31 35)], .cells 31 45 [(.vint .i64 (.icell (.var 27) (.var 24) 0)), (.vcell (.var 27) (.var 24) 1)], .abs 30 2] 39 (.need (.cmp .eql (.arith .add .i64 (.var 24) (.lit 1)) (.plus (.var 24) (.lit 1))) (.back 0 19 (sg 1000 [bg 1011 39, bv 1008 27, bt 1007 (.dapp (.var 26) (r8 35)), bv 1006 38, bg 1004 37, bt 1003 (r8 22), bv 1010 29, bt 1005 (.arith .add .i64 (.var 24) (.lit 1)), bg 1002 21, bv 1009 28, bg 1001 20, bg 1000 19])))) .top) .top))))) .top)) .top))) .top))) .top))))
 (.pack [.cells 19 27 [(.vint .i64 (.var 2)), (.vint .i64 (.var 3)), (.vint .i64 (.var 4)), (.vint .i64 (.var 6)), (x8 0 22), (x8 1 22), (x8 2 22), (x8 3 22), (x8 4 22), (x8 5 22), (x8 6 22), (x8 7 22), (x8 8 22), (x8 9 22), (x8 10 22), (x8 11 22), (x8 12 22), (x8 13 22), (x8 14 22), (x8 15 22), (x8 16 22), (x8 17 22), (x8 18 22), (x8 19 22), (x8 20 22), (x8 21 22), (x8 22 22), (x8 23 22), (x8 24 22), (x8 25 22), (x8 26 22), (x8 27 22), (x8 28 22), (x8 29 22), (x8 30 22), (x8 31 22), (.vslice 23 (.lit 0) (.var 24) (.var 25) 32)], .cells 21 27 [(.vint .i64 (.var 2)), (.vint .i64 (.var 3)), (.vint .i64 (.var 4)), (.vint .i64 (.var 6)), (x8 0 22), (x8 1 22), (x8 2 22), (x8 3 22), (x8 4 22), (x8 5 22), (x8 6 22), (x8 7 22), (x8 8 22), (x8 9 22), (x8 10 22), (x8 11 22), (x8 12 22), (x8 13 22), (x8 14 22), (x8 15 22), (x8 16 22), (x8 17 22), (x8 18 22), (x8 19 22), (x8 20 22), (x8 21 22), (x8 22 22), (x8 23 22), (x8 24 22), (x8 25 22), (x8 26 22), (x8 27 22), (x8 28 22), (x8 29 22), (x8 30 22), (x8 31 22), (.vslice 23 (.lit 0) (.var 24) (.var 25) 32)], .abs 30 2] 31 (.ret 0 (sg 12 [bg 25 31, bv 24 27, bv 20 26, bv 27 29, bt 26 (.lit 0), bv 23 28, bv 22 4, bg 21 20, bv 19 25, bv 18 24, bg 17 23, bv 15 6, bv 14 4, bv 13 3, bv 12 2, bt 16 (r8 22)]))))))))))))))))))))))) .top))))))) (.both (.fresh 14 (.fresh 15 (.fresh 16 (.fresh 17 (.fresh 18 (.post 1 1 o_makeU_4 14 (.need (.cmp .leq (.lit 0) (.var 6)) (.pre 2 o_makeU_3 (.both (.fresh 19 (.post 2 0 o_makeU_3 19 (.fresh 20 (.need (.cmp .leq (.lit 0) (.var 4)) (.inv 0 21 (sg 1000 [bg 1011 18, bv 1008 17, bt 1007 .dnil, bt 1006 (.lit 0), (1004, .nil), bt 1003 (r8 19), bv 1010 16, bt 1005 (.lit 0), bg 1002 20, bv 1009 15, bg 1001 14, bg 1000 12]) (.fresh 21 (.fresh 22 (.fresh 23 (.fresh 24 (.fresh 25 (.fresh 26 (.fresh 27 (.fresh 28 (.fresh 29 (.fresh 30 (.fresh 31 (.fresh 32 (.hyp 0 21 (.br (.cmp .lss (.var 26) (.var 4))
 (.need (.cmp .leq (.lit 0) (.var 26)) (.need (.cmp .lss (.var 26) (.dlen (.var 29))) (.fresh 33 (.both (.viewL (.vcell (.var 29) (.var 26) 1) [CK.int .u8] [32] 34 (.pre 3 o_makeU_2 (.both (.fresh 37 (.post 3 0 o_makeU_2 37 (.both (.fresh 38 (.both (.need (.cmp .eql (.var 26) (.dlen (.var 28))) (.need (.cmp .leq (.tims (.lit 32) (.plus (.var 26) (.lit 1))) (.lit 140737488355328)) (.fresh 39 (.fresh 40 (.both (.both (.pack [.cells 38 24 [(x8 0 37), (x8 1 37), (x8 2 37), (x8 3 37), (x8 4 37), (x8 5 37), (x8 6 37), (x8 7 37), (x8 8 37), (x8 9 37), (x8 10 37), (x8 11 37), (x8 12 37), (x8 13 37), (x8 14 37), (x8 15 37), (x8 16 37), (x8 17 37), (x8 18 37), (x8 19 37), (x8 20 37), (x8 21 37), (x8 22 37), (x8 23 37), (x8 24 37), (x8 25 37), (x8 26 37), (x8 27 37), (x8 28 37), (x8 29 37), (x8 30 37), (x8 31 37)], .cells 33 45 [(.vint .i64 (.icell (.var 29) (.var 26) 0)), (.vcell (.var 29) (.var 26) 1)], .abs 32 2] 41 (.need (.cmp .eql (.arith .add .i64 (.var 26) (.lit 1)) (.plus (.var 26) (.lit 1))) (.back 0 21 (sg 1000 [bg 1011 41, bv 1008 29, bt 1007 (.dapp (.var 28) (r8 37)), bv 1006 40, bg 1004 39, bt 1003 (r8 24), bv 1010 31, bt 1005 (.arith .add .i64 (.var 26) (.lit 1)), bg 1002 23, bv 1009 30, bg 1001 22, bg 1000 21])))) .top) .top))))) .top)) .top))) .top))) .top))))
 (.pack [.cells 21 27 [(.vint .i64 (.var 2)), (.vint .i64 (.var 3)), (.vint .i64 (.var 4)), (.vint .i64 (.var 6)), (x8 0 24), (x8 1 24), (x8 2 24), (x8 3 24), (x8 4 24), (x8 5 24), (x8 6 24), (x8 7 24), (x8 8 24), (x8 9 24), (x8 10 24), (x8 11 24), (x8 12 24), (x8 13 24), (x8 14 24), (x8 15 24), (x8 16 24), (x8 17 24), (x8 18 24), (x8 19 24), (x8 20 24), (x8 21 24), (x8 22 24), (x8 23 24), (x8 24 24), (x8 25 24), (x8 26 24), (x8 27 24), (x8 28 24), (x8 29 24), (x8 30 24), (x8 31 24), (.vslice 25 (.lit 0) (.var 26) (.var 27) 32)], .cells 23 27 [(.vint .i64 (.var 2)), (.vint .i64 (.var 3)), (.vint .i64 (.var 4)), (.vint .i64 (.var 6)), (x8 0 24), (x8 1 24), (x8 2 24), (x8 3 24), (x8 4 24), (x8 5 24), (x8 6 24), (x8 7 24), (x8 8 24), (x8 9 24), (x8 10 24), (x8 11 24), (x8 12 24), (x8 13 24), (x8 14 24), (x8 15 24), (x8 16 24), (x8 17 24), (x8 18 24), (x8 19 24), (x8 20 24), (x8 21 24), (x8 22 24), (x8 23 24), (x8 24 24), (x8 25 24), (x8 26 24), (x8 27 24), (x8 28 24), (x8 29 24), (x8 30 24), (x8 31 24), (.vslice 25 (.lit 0) (.var 26) (.var 27) 32)], .abs 32 2] 33 (.ret 0 (sg 12 [bg 25 33, bv 24 29, bv 20 28, bv 27 31, bt 26 (.lit 0), bv 23 30, bv 22 4, bg 21 22, bv 19 27, bv 18 26, bg 17 25, bv 15 6, bv 14 4, bv 13 3, bv 12 2, bt 16 (r8 24)])))))))))))))))))))))) .top))))))))) .top)))))) .top))))
theorem o_makeU_eq : treeOf ⟨Tryd.prog, makeU, [sizes3C, encode31C, sha256C, pieceDgC], [makeI]⟩ 100000 Tryd.f23 = o_makeU := by kernel_rfl
theorem makeU_of (hd : ∀ c ∈ ([sizes3C, encode31C, sha256C, pieceDgC] : List Ctr), c.ok Tryd.prog) (h : ∀ ρ : Env, ρ.good → (makeU).pre ρ → o_makeU.den ⟨Tryd.prog, makeU, [sizes3C, encode31C, sha256C, pieceDgC], [makeI]⟩ ρ) : (makeU).ok Tryd.prog :=
  ok_of_tree Tryd.func23 (fun a w => Tryd.call23 a w) hd 100000 (fun ρ hg hp => by rw [o_makeU_eq]; exact h ρ hg hp)
def o_large : Out := (.fresh 30 (.need (.cmp .leq (.lit 0) (.var 16)) (.br (.cmp .gtr (.var 16) (.lit 60))
 (.ret 0 (sg 30 [bt 30 (.bl true)]))
 (.need (.cmp .leq (.lit 0) (.var 13)) (.br (.cmp .gtr (.var 13) (.lit 400))
 (.ret 0 (sg 30 [bt 30 (.bl true)]))
 (.need (.cmp .leq (.lit 0) (.var 5)) (.br (.cmp .gtr (.var 5) (.lit 10000))
 (.ret 0 (sg 30 [bt 30 (.bl true)]))
 (.need (.cmp .leq (.lit 0) (.var 19)) (.br (.cmp .gtr (.var 19) (.lit 60))
 (.ret 0 (sg 30 [bt 30 (.bl true)]))
 (.inv 0 31 (sg 1000 [bt 1001 (.lit 0), bg 1000 30]) (.fresh 31 (.fresh 32 (.hyp 0 31 (.br (.cmp .lss (.var 32) (.var 16))
 (.need (.cmp .leq (.lit 0) (.var 32)) (.need (.cmp .lss (.var 32) (.dlen (.var 25))) (.view (.vcell (.var 25) (.var 32) 1) [CK.int .u8] [29] 33 (.br (.cmp .gtr (.dlen (.var 35)) (.lit 9000))
 (.ret 0 (sg 30 [bt 30 (.bl true)]))
 (.back 0 31 (sg 1000 [bt 1001 (.arith .add .i64 (.var 32) (.lit 1)), bg 1000 31]))))))
 (.ret 0 (sg 30 [bt 30 (.bl false)]))))))))))))))))
theorem o_large_eq : treeOf ⟨Tryd.prog, largeC, [], [largeI]⟩ 100000 Tryd.f21 = o_large := by kernel_rfl
theorem large_of (hd : ∀ c ∈ ([] : List Ctr), c.ok Tryd.prog) (h : ∀ ρ : Env, ρ.good → (largeC).pre ρ → o_large.den ⟨Tryd.prog, largeC, [], [largeI]⟩ ρ) : (largeC).ok Tryd.prog :=
  ok_of_tree Tryd.func21 (fun a w => Tryd.call21 a w) hd 100000 (fun ρ hg hp => by rw [o_large_eq]; exact h ρ hg hp)
def o_refMake : Out := (.fresh 10 (.pre 0 (sg 0 [bv 2 2, bv 1 1, bv 0 0]) (.both (.fresh 11 (.post 0 0 (sg 0 [bv 2 2, bv 1 1, bv 0 0]) 11 (.br (.not (.var 11))
 (.pack [.cells 10 27 [(.vint .i64 (.lit 0)), (.vint .i64 (.lit 0)), (.vint .i64 (.lit 0)), (.vint .i64 (.lit 0)), o8, o8, o8, o8, o8, o8, o8, o8, o8, o8, o8, o8, o8, o8, o8, o8, o8, o8, o8, o8, o8, o8, o8, o8, o8, o8, o8, o8, o8, o8, o8, o8, .vnils]] 12 (.ret 0 (sg 10 [bg 23 12, bt 22 .dnil, bt 18 .dnil, bt 24 (.lit 2), bt 21 (.lit 0), bt 20 (.lit 0), (19, .nil), bt 17 (.lit 0), bt 16 (.lit 0), (15, .nil), bt 13 (.lit 0), bt 12 (.lit 0), bt 11 (.lit 0), bt 10 (.lit 0), bt 14 z8])))
 (.need (.cmp .leq (.lit 0) (.var 4)) (.br (.cmp .gtr (.var 4) (.lit 8192))
 (.pack [.cells 10 27 [(.vint .i64 (.lit 0)), (.vint .i64 (.lit 0)), (.vint .i64 (.lit 0)), (.vint .i64 (.lit 0)), o8, o8, o8, o8, o8, o8, o8, o8, o8, o8, o8, o8, o8, o8, o8, o8, o8, o8, o8, o8, o8, o8, o8, o8, o8, o8, o8, o8, o8, o8, o8, o8, .vnils]] 12 (.ret 0 (sg 10 [bg 23 12, bt 22 .dnil, bt 18 .dnil, bt 24 (.lit 3), bt 21 (.lit 0), bt 20 (.lit 0), (19, .nil), bt 17 (.lit 0), bt 16 (.lit 0), (15, .nil), bt 13 (.lit 0), bt 12 (.lit 0), bt 11 (.lit 0), bt 10 (.lit 0), bt 14 z8])))
 (.pre 1 (sg 0 [bv 6 7, bv 5 6, bv 4 5, bv 3 4, bg 2 3, bv 1 2, bv 0 0]) (.both (.fresh 12 (.fresh 13 (.fresh 14 (.fresh 15 (.post 1 0 (sg 0 [bv 6 7, bv 5 6, bv 4 5, bv 3 4, bg 2 3, bv 1 2, bv 0 0]) 12 (.pre 2 (sg 0 [bv 6 9, bv 4 7, bv 3 6, bv 2 5, bv 1 4, bg 0 3, bg 5 8]) (.both (.fresh 16 (.post 2 0 (sg 0 [bv 6 9, bv 4 7, bv 3 6, bv 2 5, bv 1 4, bg 0 3, bg 5 8]) 16 (.fresh 17 (.inv 0 18 (sg 1000 [bg 1010 15, bv 1008 14, bt 1007 .dnil, bt 1006 (.lit 0), (1004, .nil), bt 1003 (r8 16), bt 1005 (.lit 0), bg 1002 17, bv 1009 13, bg 1001 12, bg 1000 10]) (.fresh 18 (.fresh 19 (.fresh 20 (.fresh 21 (.fresh 22 (.fresh 23 (.fresh 24 (.fresh 25 (.fresh 26 (.fresh 27 (.fresh 28 (.hyp 0 18 (.br (.cmp .lss (.var 23) (.var 2))
 (.need (.cmp .leq (.lit 0) (.var 23)) (.need (.cmp .lss (.lit 0) (.dlen (.var 26))) (.both (.need (.cmp .lss (.var 23) (.dlen (.var 26))) (.both (.view (.vcell (.var 26) (.var 23) 1) [CK.int .u8] [28] 29 (.pre 3 (sg 0 [bv 7 9, bv 5 30, bv 4 31, bv 3 30, bt 2 (.dlen (.var 31)), bg 1 29, bv 0 23, bg 6 8]) (.both (.fresh 32 (.post 3 0 (sg 0 [bv 7 9, bv 5 30, bv 4 31, bv 3 30, bt 2 (.dlen (.var 31)), bg 1 29, bv 0 23, bg 6 8]) 32 (.both (.fresh 33 (.both (.need (.cmp .eql (.var 23) (.dlen (.var 25))) (.need (.cmp .leq (.tims (.lit 32) (.plus (.var 23) (.lit 1))) (.lit 140737488355328)) (.fresh 34 (.fresh 35 (.both (.pack [.cells 33 24 [(x8 0 32), (x8 1 32), (x8 2 32), (x8 3 32), (x8 4 32), (x8 5 32), (x8 6 32), (x8 7 32), (x8 8 32), (x8 9 32), (x8 10 32), (x8 11 32), (x8 12 32), (x8 13 32), (x8 14 32), (x8 15 32), (x8 16 32), (x8 17 32), (x8 18 32), (x8 19 32), (x8 20 32), (x8 21 32), (x8 22 32), (x8 23 32), (x8 24 32), (x8 25 32), (x8 26 32), (x8 27 32), (x8 28 32), (x8 29 32), (x8 30 32), (x8 31 32)], .abs 28 2] 36 (.need (.cmp .eql (.arith .add .i64 (.var 23) (.lit 1)) (.plus (.var 23) (.lit 1))) (.back 0 18 (sg 1000 [bg 1010 36, bv 1008 26, bt 1007 (.dapp (.var 25) (r8 32)), bv 1006 35, bg 1004 34, bt 1003 (r8 21), bt 1005 (.arith .add .i64 (.var 23) (.lit 1)), bg 1002 20, bv 1009 27, bg 1001 19, bg 1000 18])))) .top))))) .top)) .top))) .top))) .top)) .top)))
 (.pack [.cells 18 27 [(.vint .i64 (.var 0)), (.vint .i64 (.var 1)), (.vint .i64 (.var 2)), (.vint .i64 (.var 4)), (x8 0 21), (x8 1 21), (x8 2 21), (x8 3 21), (x8 4 21), (x8 5 21), (x8 6 21), (x8 7 21), (x8 8 21), (x8 9 21), (x8 10 21), (x8 11 21), (x8 12 21), (x8 13 21), (x8 14 21), (x8 15 21), (x8 16 21), (x8 17 21), (x8 18 21), (x8 19 21), (x8 20 21), (x8 21 21), (x8 22 21), (x8 23 21), (x8 24 21), (x8 25 21), (x8 26 21), (x8 27 21), (x8 28 21), (x8 29 21), (x8 30 21), (x8 31 21), (.vslice 22 (.lit 0) (.var 23) (.var 24) 32)], .cells 20 27 [(.vint .i64 (.var 0)), (.vint .i64 (.var 1)), (.vint .i64 (.var 2)), (.vint .i64 (.var 4)), (x8 0 21), (x8 1 21), (x8 2 21), (x8 3 21), (x8 4 21), (x8 5 21), (x8 6 21), (x8 7 21), (x8 8 21), (x8 9 21), (x8 10 21), (x8 11 21), (x8 12 21), (x8 13 21), (x8 14 21), (x8 15 21), (x8 16 21), (x8 17 21), (x8 18 21), (x8 19 21), (x8 20 21), (x8 21 21), (x8 22 21), (x8 23 21), (x8 24 21), (x8 25 21), (x8 26 21), (x8 27 21), (x8 28 21), (x8 29 21), (x8 30 21), (x8 31 21), (.vslice 22 (.lit 0) (.var 23) (.var 24) 32)], .abs 28 2] 29 (.ret 0 (sg 10 [bg 23 29, bv 22 26, bv 18 25, bt 24 (.lit 0), bv 21 27, bv 20 2, bg 19 19, bv 17 24, bv 16 23, bg 15 22, bv 13 4, bv 12 2, bv 11 1, bv 10 0, bt 14 (r8 21)])))))))))))))))))))) .top))))))) .top))))))) .top)))
theorem o_refMake_eq : treeOf ⟨Tryd.prog, refMakeC, [sizesRC, split32G, sumRC, ofPieceC], [refMakeI]⟩ 100000 Tryd.f25 = o_refMake := by kernel_rfl
theorem refMake_of (hd : ∀ c ∈ ([sizesRC, split32G, sumRC, ofPieceC] : List Ctr), c.ok Tryd.prog) (h : ∀ ρ : Env, ρ.good → (refMakeC).pre ρ → o_refMake.den ⟨Tryd.prog, refMakeC, [sizesRC, split32G, sumRC, ofPieceC], [refMakeI]⟩ ρ) : (refMakeC).ok Tryd.prog :=
  ok_of_tree Tryd.func25 (fun a w => Tryd.call25 a w) hd 100000 (fun ρ hg hp => by rw [o_refMake_eq]; exact h ρ hg hp)
@[simp] def o_lawMakes_16 : Sg := sg 0 [bv 9 31, bv 7 22, bv 6 21, bv 5 6, bv 4 5, bg 3 4, bv 2 2, bv 1 1, bv 0 0, bg 8 30]
@[simp] def o_lawMakes_15 : Sg := sg 0 [bv 11 33, bv 9 40, bt 8 (.dtake (.var 21) (.var 5)), bv 1 38, bv 7 40, bv 6 5, bg 5 39, bv 4 2, bv 3 1, bv 2 0, bg 0 37, bg 10 32]
@[simp] def o_lawMakes_14 : Sg := sg 0 [bv 11 33, bv 9 40, bt 8 (.dtake (.var 21) (.var 5)), bv 1 37, bv 7 40, bv 6 5, bg 5 39, bv 4 2, bv 3 1, bv 2 0, bg 0 36, bg 10 32]
@[simp] def o_lawMakes_13 : Sg := sg 0 [bv 11 33, bv 9 41, bt 8 (.dtake (.var 21) (.var 5)), bv 1 39, bv 7 41, bv 6 5, bg 5 40, bv 4 2, bv 3 1, bv 2 0, bg 0 38, bg 10 32]
@[simp] def o_lawMakes_12 : Sg := sg 0 [bv 11 33, bv 9 41, bt 8 (.dtake (.var 21) (.var 5)), bv 1 37, bv 7 41, bv 6 5, bg 5 40, bv 4 2, bv 3 1, bv 2 0, bg 0 36, bg 10 32]
@[simp] def o_lawMakes_11 : Sg := sg 0 [bv 11 33, bv 9 41, bt 8 (.dtake (.var 21) (.var 5)), bv 1 38, bv 7 41, bv 6 5, bg 5 40, bv 4 2, bv 3 1, bv 2 0, bg 0 37, bg 10 32]
@[simp] def o_lawMakes_10 : Out := .br (.var 76)
 (.pre 0 (sg 0 [bv 1 33, bg 0 32]) (.both (.post 0 0 (sg 0 [bv 1 33, bg 0 32]) 77 (.ret 0 (sg 34 []))) .top))
 (.stuck 7 0 0)
@[simp] def o_lawMakes_9 : Sg := sg 0 [bv 19 65, bv 18 66, bv 17 48, bv 16 49, bv 15 65, bv 14 64, bg 13 63, bv 11 61, bv 10 60, bv 9 59, bv 8 58, bt 12 (r8 62), bv 7 48, bv 6 47, bg 5 46, bv 3 44, bv 2 43, bv 1 42, bv 0 41, bt 4 (r8 45)]
@[simp] def o_lawMakes_8 : Sg := sg 0 [bv 19 65, bv 18 66, bv 17 49, bv 16 50, bv 15 65, bv 14 64, bg 13 63, bv 11 61, bv 10 60, bv 9 59, bv 8 58, bt 12 (r8 62), bv 7 49, bv 6 48, bg 5 47, bv 3 45, bv 2 44, bv 1 43, bv 0 42, bt 4 (r8 46)]
@[simp] def o_lawMakes_7 : Out := .both (.pre 4 o_lawMakes_16 (.both (.fresh 58 (.fresh 59 (.fresh 60 (.fresh 61 (.fresh 62 (.fresh 63 (.fresh 64 (.fresh 65 (.fresh 66 (.fresh 67 (.fresh 68 (.fresh 69 (.fresh 70 (.fresh 71 (.fresh 72 (.post 4 0 o_lawMakes_16 58 (.fresh 73 (.br (.cmp .eql (.var 56) (.var 72))
 (.know (.cmp .leq (.dlen (.var 50)) (.var 49)) (.know (.cmp .leq (.dlen (.var 66)) (.var 65)) (.pre 5 o_lawMakes_8 (.both (.fresh 74 (.post 5 0 o_lawMakes_8 74 (.br (.var 74)
 (.pack [.abs 71 2, .abs 55 2] 75 (.know (.cmp .leq (.dlen (.var 54)) (.var 53)) (.know (.cmp .leq (.dlen (.var 70)) (.var 69)) (.pre 6 (sg 0 [bv 9 69, bv 8 70, bv 4 53, bv 3 54, bg 10 75, bv 7 69, bv 6 68, bg 5 67, bv 2 53, bv 1 52, bg 0 51]) (.both (.fresh 76 (.post 6 0 (sg 0 [bv 9 69, bv 8 70, bv 4 53, bv 3 54, bg 10 75, bv 7 69, bv 6 68, bg 5 67, bv 2 53, bv 1 52, bg 0 51]) 76 o_lawMakes_10)) .top)))))
 (.stuck 7 0 0)))) .top))))
 (.stuck 7 0 0))))))))))))))))))) .top)) .top
@[simp] def o_lawMakes_6 : Out := .both (.fresh 57 (.both (.pre 4 o_lawMakes_16 (.both (.fresh 58 (.fresh 59 (.fresh 60 (.fresh 61 (.fresh 62 (.fresh 63 (.fresh 64 (.fresh 65 (.fresh 66 (.fresh 67 (.fresh 68 (.fresh 69 (.fresh 70 (.fresh 71 (.fresh 72 (.post 4 0 o_lawMakes_16 58 (.fresh 73 (.br (.cmp .eql (.var 55) (.var 72))
 (.know (.cmp .leq (.dlen (.var 49)) (.var 48)) (.know (.cmp .leq (.dlen (.var 66)) (.var 65)) (.pre 5 o_lawMakes_9 (.both (.fresh 74 (.post 5 0 o_lawMakes_9 74 (.br (.var 74)
 (.pack [.abs 71 2, .abs 54 2] 75 (.know (.cmp .leq (.dlen (.var 53)) (.var 52)) (.know (.cmp .leq (.dlen (.var 70)) (.var 69)) (.pre 6 (sg 0 [bv 9 69, bv 8 70, bv 4 52, bv 3 53, bg 10 75, bv 7 69, bv 6 68, bg 5 67, bv 2 52, bv 1 51, bg 0 50]) (.both (.fresh 76 (.post 6 0 (sg 0 [bv 9 69, bv 8 70, bv 4 52, bv 3 53, bg 10 75, bv 7 69, bv 6 68, bg 5 67, bv 2 52, bv 1 51, bg 0 50]) 76 o_lawMakes_10)) .top)))))
 (.stuck 7 0 0)))) .top))))
 (.stuck 7 0 0))))))))))))))))))) .top)) .top)) .top
@[simp] def o_lawMakes_5 : Out := .both (.fresh 39 (.both (.need (.cmp .leq (.lit 0) (.var 5)) (.need (.cmp .leq (.var 5) (.dlen (.var 21))) (.need (.cmp .leq (.tims (.lit 1) (.var 5)) (.lit 140737488355328)) (.fresh 40 (.fresh 41 (.both (.know (.cmp .leq (.dlen (.dtake (.var 21) (.var 5))) (.var 41)) (.pre 3 o_lawMakes_11 (.both (.fresh 42 (.fresh 43 (.fresh 44 (.fresh 45 (.fresh 46 (.fresh 47 (.fresh 48 (.fresh 49 (.fresh 50 (.fresh 51 (.fresh 52 (.fresh 53 (.fresh 54 (.fresh 55 (.fresh 56 (.fresh 57 (.post 3 0 o_lawMakes_11 42 o_lawMakes_7))))))))))))))))) .top))) .top)))))) .top)) .top
@[simp] def o_lawMakes_4 : Out := .both (.fresh 39 (.both (.need (.cmp .leq (.lit 0) (.var 5)) (.need (.cmp .leq (.var 5) (.dlen (.var 21))) (.need (.cmp .leq (.tims (.lit 1) (.var 5)) (.lit 140737488355328)) (.fresh 40 (.fresh 41 (.both (.know (.cmp .leq (.dlen (.dtake (.var 21) (.var 5))) (.var 41)) (.pre 3 o_lawMakes_12 (.both (.fresh 42 (.fresh 43 (.fresh 44 (.fresh 45 (.fresh 46 (.fresh 47 (.fresh 48 (.fresh 49 (.fresh 50 (.fresh 51 (.fresh 52 (.fresh 53 (.fresh 54 (.fresh 55 (.fresh 56 (.fresh 57 (.post 3 0 o_lawMakes_12 42 o_lawMakes_7))))))))))))))))) .top))) .top)))))) .top)) .top
@[simp] def o_lawMakes_3 : Out := .both (.fresh 37 (.both (.pre 2 (sg 0 []) (.both (.fresh 38 (.fresh 39 (.post 2 0 (sg 0 []) 38 (.both (.need (.cmp .leq (.lit 0) (.var 5)) (.need (.cmp .leq (.var 5) (.dlen (.var 21))) (.need (.cmp .leq (.tims (.lit 1) (.var 5)) (.lit 140737488355328)) (.fresh 40 (.fresh 41 (.both (.know (.cmp .leq (.dlen (.dtake (.var 21) (.var 5))) (.var 41)) (.pre 3 o_lawMakes_13 (.both (.fresh 42 (.fresh 43 (.fresh 44 (.fresh 45 (.fresh 46 (.fresh 47 (.fresh 48 (.fresh 49 (.fresh 50 (.fresh 51 (.fresh 52 (.fresh 53 (.fresh 54 (.fresh 55 (.fresh 56 (.fresh 57 (.post 3 0 o_lawMakes_13 42 o_lawMakes_7))))))))))))))))) .top))) .top)))))) .top)))) .top)) .top)) .top
@[simp] def o_lawMakes_2 : Sg := sg 0 [bg 29 29, bv 28 28, bv 27 27, bv 26 26, bv 25 25, bv 24 24, bv 23 23, bv 22 22, bv 21 21, bv 20 20, bv 19 19, bg 18 18, bv 17 17, bv 16 16, bg 15 15, bv 14 14, bv 13 13, bg 12 12, bv 10 10, bv 9 9, bv 8 8, bv 7 7, bv 6 6, bv 5 5, bg 4 4, bv 3 3, bv 2 2, bv 1 1, bv 0 0, bt 11 (r8 11)]
@[simp] def o_lawMakes_1 : Out := .both (.pre 2 (sg 0 []) (.both (.fresh 36 (.fresh 37 (.post 2 0 (sg 0 []) 36 (.both (.fresh 38 (.both (.need (.cmp .leq (.lit 0) (.var 5)) (.need (.cmp .leq (.var 5) (.dlen (.var 21))) (.need (.cmp .leq (.tims (.lit 1) (.var 5)) (.lit 140737488355328)) (.fresh 39 (.fresh 40 (.both (.know (.cmp .leq (.dlen (.dtake (.var 21) (.var 5))) (.var 40)) (.pre 3 o_lawMakes_14 (.both (.fresh 41 (.fresh 42 (.fresh 43 (.fresh 44 (.fresh 45 (.fresh 46 (.fresh 47 (.fresh 48 (.fresh 49 (.fresh 50 (.fresh 51 (.fresh 52 (.fresh 53 (.fresh 54 (.fresh 55 (.fresh 56 (.post 3 0 o_lawMakes_14 41 o_lawMakes_6))))))))))))))))) .top))) (.both (.fresh 41 (.both (.know (.cmp .leq (.dlen (.dtake (.var 21) (.var 5))) (.var 40)) (.pre 3 o_lawMakes_14 (.both (.fresh 42 (.fresh 43 (.fresh 44 (.fresh 45 (.fresh 46 (.fresh 47 (.fresh 48 (.fresh 49 (.fresh 50 (.fresh 51 (.fresh 52 (.fresh 53 (.fresh 54 (.fresh 55 (.fresh 56 (.fresh 57 (.post 3 0 o_lawMakes_14 42 o_lawMakes_7))))))))))))))))) .top))) .top)) .top))))))) o_lawMakes_4)) (.both (.fresh 38 o_lawMakes_4) .top))))) .top)) (.both (.fresh 36 (.both (.pre 2 (sg 0 []) (.both (.fresh 37 (.fresh 38 (.post 2 0 (sg 0 []) 37 (.both (.need (.cmp .leq (.lit 0) (.var 5)) (.need (.cmp .leq (.var 5) (.dlen (.var 21))) (.need (.cmp .leq (.tims (.lit 1) (.var 5)) (.lit 140737488355328)) (.fresh 39 (.fresh 40 (.both (.know (.cmp .leq (.dlen (.dtake (.var 21) (.var 5))) (.var 40)) (.pre 3 o_lawMakes_15 (.both (.fresh 41 (.fresh 42 (.fresh 43 (.fresh 44 (.fresh 45 (.fresh 46 (.fresh 47 (.fresh 48 (.fresh 49 (.fresh 50 (.fresh 51 (.fresh 52 (.fresh 53 (.fresh 54 (.fresh 55 (.fresh 56 (.post 3 0 o_lawMakes_15 41 o_lawMakes_6))))))))))))))))) .top))) (.both (.fresh 41 (.both (.know (.cmp .leq (.dlen (.dtake (.var 21) (.var 5))) (.var 40)) (.pre 3 o_lawMakes_15 (.both (.fresh 42 (.fresh 43 (.fresh 44 (.fresh 45 (.fresh 46 (.fresh 47 (.fresh 48 (.fresh 49 (.fresh 50 (.fresh 51 (.fresh 52 (.fresh 53 (.fresh 54 (.fresh 55 (.fresh 56 (.fresh 57 (.post 3 0 o_lawMakes_15 42 o_lawMakes_7))))))))))))))))) .top))) .top)) .top))))))) o_lawMakes_5)))) .top)) o_lawMakes_3)) (.both (.fresh 36 (.both (.pre 2 (sg 0 []) (.both (.fresh 37 (.fresh 38 (.post 2 0 (sg 0 []) 37 o_lawMakes_5))) .top)) o_lawMakes_3)) .top))
def o_lawMakes : Out := (.fresh 34 (.pre 1 o_lawMakes_2 (.both (.fresh 35 (.post 1 0 o_lawMakes_2 35 (.br (.var 35)
 (.pre 0 (sg 0 [bv 1 33, bg 0 32]) (.both (.post 0 0 (sg 0 [bv 1 33, bg 0 32]) 36 (.ret 0 (sg 34 []))) .top))
 (.br (.cmp .gtr (.var 2) (.lit 60))
 (.br (.cmp .leq (.var 2) (.lit 255))
 (.pre 0 (sg 0 [bv 1 33, bg 0 32]) (.both (.post 0 0 (sg 0 [bv 1 33, bg 0 32]) 36 (.ret 0 (sg 34 []))) .top))
 o_lawMakes_1)
 o_lawMakes_1)))) .top)))
theorem o_lawMakes_eq : treeOf ⟨Tryd.prog, lawMakesC, [knownC, largeC, newFieldC, makeU, refMakeC, sameC, same33C, same33N], []⟩ 100000 Tryd.f3 = o_lawMakes := by kernel_rfl
theorem lawMakes_of (hd : ∀ c ∈ ([knownC, largeC, newFieldC, makeU, refMakeC, sameC, same33C, same33N] : List Ctr), c.ok Tryd.prog) (h : ∀ ρ : Env, ρ.good → (lawMakesC).pre ρ → o_lawMakes.den ⟨Tryd.prog, lawMakesC, [knownC, largeC, newFieldC, makeU, refMakeC, sameC, same33C, same33N], []⟩ ρ) : (lawMakesC).ok Tryd.prog :=
  ok_of_tree Tryd.func3 (fun a w => Tryd.call3 a w) hd 100000 (fun ρ hg hp => by rw [o_lawMakes_eq]; exact h ρ hg hp)
end Go.Proofs

set_option linter.unusedSimpArgs false
set_option linter.unusedVariables false
namespace Go.Eng
open Go Go.Proofs

end Go.Eng

set_option linter.unusedSimpArgs false
set_option linter.unusedVariables false
namespace Go.Proofs
open Go Go.Eng

theorem pc_atI {h : Hp} {D : Rows'} {n : Int} {j : Int} (hp : pcOk h D n.toNat) (h0 : 0 ≤ j) (h1 : j < n) : j < (D.length : Int) ∧ cellI D j 0 = pcI D j.toNat ∧ ∃ d, Rd h kB (cellV D j 1) d ∧ allB d ∧ pcD h D j.toNat = bI d := by
  obtain ⟨v, d, e, hv, hr, hb, hd⟩ := pc_at hp (j := j.toNat) (by omega)
  rw [Int.toNat_of_nonneg h0] at hv
  have hl := (List.getElem?_eq_some_iff.1 e).1
  exact ⟨by omega, by rw [pcI, Int.toNat_of_nonneg h0], d, by rw [hv]; exact hr, hb, hd⟩
theorem encAt_snoc {h h' : Hp} {D : Rows'} {n : Nat} {f : Nat → List Int} {v : Value} {d : Rows'} {i : Int} (he : encAt h D n f) (hl : Hp.le h h') (hn : D.length = n) (hi : i = n) (hr : Rd h' kB v d) (hd : bI d = f n) (hB : allB d) :
    encAt h' (D ++ [[.int .i64 i, v]]) (n + 1) f := fun j hj => by
  by_cases hj' : j = n
  · subst hj'
    exact ⟨v, d, by rw [List.getElem?_append_right (by omega), hn, Nat.sub_self, hi]; rfl, hr, hd, hB⟩
  · obtain ⟨v', d', e1, e2, e3⟩ := he j (by omega)
    exact ⟨v', d', by rw [List.getElem?_append_left (by omega)]; exact e1, Rd_mono e2 hl, e3⟩
theorem fill_get {f : Nat → Int} {n t c : Nat} (h : c < n) : (fillTo f n t).getD c 0 = if c < t then f c else 0 := by
  rw [fillTo, List.getD_eq_getElem?_getD, List.getElem?_map, List.getElem?_range h]; rfl
theorem seg_all {s : List Int} : seg s 0 s.length = s := by simp [seg]
theorem enc_part {k total : Nat} {data : List Int} (h1 : 1 ≤ k) (hk : k ≤ total) (ht : total ≤ 255) (hb : bytesL data) {i t : Nat} (hi : i < k) (hfull : t = pieceLen k data.length ∨ data.length ≤ i * pieceLen k data.length + t) (htl : t ≤ pieceLen k data.length) :
    fillTo (fun c => data.getD (i * pieceLen k data.length + c) 0) (pieceLen k data.length) t = encP k total data i := by
  obtain ⟨e1, _, _⟩ := enc_facts h1 hk ht hb i
  refine list_ext_getD (by rw [fillTo_len, e1]) fun c hc => ?_
  rw [fillTo_len] at hc
  rw [fill_get hc, enc_top h1 hk ht hb hi hc]
  split
  · rfl
  · rename_i hct
    rcases hfull with h | h
    · omega
    · rw [List.getD_eq_getElem?_getD, List.getElem?_eq_none (by omega)]; rfl
theorem enc_seg {k total : Nat} {data : List Int} (h1 : 1 ≤ k) (hk : k ≤ total) (ht : total ≤ 255) (hb : bytesL data) {i : Nat} (hi : i < k) :
    encP k total data i = seg (fullL data (k * pieceLen k data.length)) (i * pieceLen k data.length) (pieceLen k data.length) := by
  obtain ⟨e1, _, _⟩ := enc_facts h1 hk ht hb i
  obtain ⟨f1, f2⟩ := full_facts hb (n := k * pieceLen k data.length) (pieceLen_ge' (by omega))
  have hle : i * pieceLen k data.length + pieceLen k data.length ≤ k * pieceLen k data.length := by
    have := Nat.mul_le_mul_right (pieceLen k data.length) (show i + 1 ≤ k by omega)
    rw [Nat.add_mul, Nat.one_mul] at this; exact this
  have hsl : (seg (fullL data (k * pieceLen k data.length)) (i * pieceLen k data.length) (pieceLen k data.length)).length = pieceLen k data.length := seg_len (by rw [f1]; exact hle)
  refine list_ext_getD (by rw [e1, hsl]) fun c hc => ?_
  rw [e1] at hc
  rw [enc_top h1 hk ht hb hi hc, ← full_get (n := k * pieceLen k data.length), List.getD_eq_getElem?_getD, List.getD_eq_getElem?_getD, seg_get, if_pos hc]
theorem enc_mix {k total : Nat} {data : List Int} (h1 : 1 ≤ k) (hk : k ≤ total) (ht : total ≤ 255) (hb : bytesL data) {i : Nat} (hi : i < total) {f : Nat → List Int} (hf : ∀ j, j < k → f j = encP k total data j) :
    mixN f (wgtL (firstL k) (i : Int)) (pieceLen k data.length) k = encP k total data i := by
  have hw : ∀ j, j < k → (wgtL (firstL k) (i : Int)).getD j 0 = (genL k total).getD (i * k + j) 0 := fun j hj => by
    have hr := gen_row h1 hk ht hi
    obtain ⟨g1, _⟩ := gen_facts h1 hk ht
    have hle := row_le (ca := k) hi
    have h2 : ((genL k total).take ((i + 1) * k))[i * k + j]? = ((genL k total).take (i * k) ++ wgtL (firstL k) (i : Int))[i * k + j]? := by rw [hr]
    rw [List.getElem?_take, if_pos (by rw [Nat.add_mul]; omega), List.getElem?_append_right (by simp; omega), List.length_take, g1, Nat.min_eq_left (by omega), Nat.add_sub_cancel_left] at h2
    rw [List.getD_eq_getElem?_getD, List.getD_eq_getElem?_getD, h2]
  have key : ∀ j, j ≤ k → mixN f (wgtL (firstL k) (i : Int)) (pieceLen k data.length) j = pieceN (genL k total) (fullL data (k * pieceLen k data.length)) k (pieceLen k data.length) i j := by
    intro j
    induction j with
    | zero => intro _; rfl
    | succ j ih =>
      intro hj
      rw [mixN, pieceN, ih (by omega), hw j (by omega), hf j (by omega)]
      obtain ⟨e1, _, _⟩ := enc_facts h1 hk ht hb j
      have hs : seg (encP k total data j) 0 (pieceLen k data.length) = encP k total data j := by
        have := seg_all (s := encP k total data j)
        rw [e1] at this
        exact this
      rw [hs, enc_seg h1 hk ht hb (i := j) (by omega)]
  exact key k (Nat.le_refl _)
end Go.Proofs

set_option linter.unusedSimpArgs false
set_option linter.unusedVariables false
set_option maxRecDepth 100000
namespace Go.Proofs
open Go Go.Eng

def o_same33 : Out := (.need (.cmp .leq (.lit 0) (.var 1)) (.need (.cmp .leq (.lit 0) (.var 6)) (.br (.cmp .neq (.var 1) (.var 6))
 (.ret 0 (sg 12 [bt 12 (.bl false)]))
 (.inv 0 12 (sg 1000 [bt 1000 (.lit 0)]) (.fresh 12 (.hyp 0 12 (.br (.cmp .lss (.var 12) (.var 1))
 (.need (.cmp .leq (.lit 0) (.var 12)) (.need (.cmp .lss (.var 12) (.dlen (.var 3))) (.need (.cmp .lss (.var 12) (.var 6)) (.need (.cmp .lss (.var 12) (.dlen (.var 8))) (.br (.cmp .neq (.icell (.var 3) (.var 12) 0) (.icell (.var 8) (.var 12) 0))
 (.ret 0 (sg 12 [bt 12 (.bl false)]))
 (.both (.view (.vcell (.var 3) (.var 12) 1) [CK.int .u8] [10] 13 (.both (.view (.vcell (.var 8) (.var 12) 1) [CK.int .u8] [10] 16 (.br (.not (.c2 .veq (.c1 .vbytes (.var 15)) (.c1 .vbytes (.var 18))))
 (.ret 0 (sg 12 [bt 12 (.bl false)]))
 (.back 0 12 (sg 1000 [bt 1000 (.arith .add .i64 (.var 12) (.lit 1))])))) .top)) (.both (.view (.vcell (.var 8) (.var 12) 1) [CK.int .u8] [10] 13 (.both (.view (.vcell (.var 3) (.var 12) 1) [CK.int .u8] [10] 16 (.br (.not (.c2 .veq (.c1 .vbytes (.var 18)) (.c1 .vbytes (.var 15))))
 (.ret 0 (sg 12 [bt 12 (.bl false)]))
 (.back 0 12 (sg 1000 [bt 1000 (.arith .add .i64 (.var 12) (.lit 1))])))) .top)) .top)))))))
 (.ret 0 (sg 12 [bt 12 (.bl true)])))))))))
theorem o_same33_eq : treeOf ⟨Tryd.prog, same33C, [], [same33IOf [.abs 10 2] 10 10]⟩ 100000 Tryd.f27 = o_same33 := by kernel_rfl
theorem same33_of (hd : ∀ c ∈ ([] : List Ctr), c.ok Tryd.prog) (h : ∀ ρ : Env, ρ.good → (same33C).pre ρ → o_same33.den ⟨Tryd.prog, same33C, [], [same33IOf [.abs 10 2] 10 10]⟩ ρ) : (same33C).ok Tryd.prog :=
  ok_of_tree Tryd.func27 (fun a w => Tryd.call27 a w) hd 100000 (fun ρ hg hp => by rw [o_same33_eq]; exact h ρ hg hp)
@[simp] def o_mix77_3 : Sg := sg 0 [bt 1 (.icell (.var 24) (.var 21) 0), bt 0 (.icell (.var 8) (.var 20) 0)]
@[simp] def o_mix77_2 : Out := .both (.back 1 17 (sg 1000 [bt 1002 (.dput (.var 19) (.var 21) 0 (.rcons (.vint .u8 (.arith .xor .u8 (.icell (.var 19) (.var 21) 0) (.var 25))) .rnil)), bt 1004 (.arith .add .i64 (.var 21) (.lit 1)), bv 1003 20, bv 1001 18, bg 1000 17])) .top
@[simp] def o_mix77_1 : Out := .both (.pre 0 o_mix77_3 (.both (.fresh 25 (.post 0 0 o_mix77_3 25 o_mix77_2)) .top)) .top
def o_mix77 : Out := (.need (.cmp .leq (.lit 0) (.var 10)) (.need (.cmp .leq (.tims (.lit 1) (.var 10)) (.lit 281474976710656)) (.fresh 12 (.inv 0 13 (sg 1000 [bt 1002 (.drep (.var 10) (.rcons (.vint .u8 (.lit 0)) .rnil)), bt 1003 (.lit 0), bv 1001 10, bg 1000 12]) (.fresh 13 (.fresh 14 (.fresh 15 (.fresh 16 (.hyp 0 13 (.need (.cmp .leq (.lit 0) (.var 1)) (.br (.cmp .lss (.var 16) (.var 1))
 (.need (.cmp .leq (.lit 0) (.var 6)) (.br (.cmp .lss (.var 16) (.var 6))
 (.need (.cmp .leq (.lit 0) (.var 16)) (.need (.cmp .lss (.var 16) (.dlen (.var 8))) (.br (.cmp .eql (.icell (.var 8) (.var 16) 0) (.lit 0))
 (.back 0 13 (sg 1000 [bv 1002 15, bt 1003 (.arith .add .i64 (.var 16) (.lit 1)), bv 1001 14, bg 1000 13]))
 (.inv 1 17 (sg 1000 [bv 1002 15, bt 1004 (.lit 0), bv 1003 16, bv 1001 14, bg 1000 13]) (.fresh 17 (.fresh 18 (.fresh 19 (.fresh 20 (.fresh 21 (.hyp 1 17 (.br (.cmp .lss (.var 21) (.var 10))
 (.need (.cmp .leq (.lit 0) (.var 21)) (.need (.cmp .lss (.lit 0) (.dlen (.var 19))) (.need (.cmp .leq (.lit 0) (.var 20)) (.need (.cmp .lss (.var 20) (.var 6)) (.need (.cmp .lss (.var 20) (.dlen (.var 8))) (.need (.cmp .lss (.var 20) (.var 1)) (.need (.cmp .lss (.var 20) (.dlen (.var 3))) (.both (.need (.cmp .lss (.var 21) (.dlen (.var 19))) (.both (.view (.vcell (.var 3) (.var 20) 1) [CK.int .u8] [11] 22 (.need (.cmp .lss (.var 21) (.dlen (.var 24))) o_mix77_1)) .top)) (.both (.view (.vcell (.var 3) (.var 20) 1) [CK.int .u8] [11] 22 (.need (.cmp .lss (.var 21) (.dlen (.var 24))) (.both (.need (.cmp .lss (.var 21) (.dlen (.var 19))) o_mix77_1) (.both (.pre 0 o_mix77_3 (.both (.fresh 25 (.post 0 0 o_mix77_3 25 (.both (.need (.cmp .lss (.var 21) (.dlen (.var 19))) o_mix77_2) .top))) .top)) .top)))) .top)))))))))
 (.back 0 13 (sg 1000 [bv 1002 19, bt 1003 (.arith .add .i64 (.var 20) (.lit 1)), bv 1001 18, bg 1000 17])))))))))))))
 (.ret 0 (sg 12 [bv 14 15, bv 13 14, bg 12 13]))))
 (.ret 0 (sg 12 [bv 14 15, bv 13 14, bg 12 13])))))))))))))
theorem o_mix77_eq : treeOf ⟨Tryd.prog, mix77C, [times53C], [mix77I, mix77J]⟩ 100000 Tryd.f109 = o_mix77 := by kernel_rfl
theorem mix77_of (hd : ∀ c ∈ ([times53C] : List Ctr), c.ok Tryd.prog) (h : ∀ ρ : Env, ρ.good → (mix77C).pre ρ → o_mix77.den ⟨Tryd.prog, mix77C, [times53C], [mix77I, mix77J]⟩ ρ) : (mix77C).ok Tryd.prog :=
  ok_of_tree Tryd.func109 (fun a w => Tryd.call109 a w) hd 100000 (fun ρ hg hp => by rw [o_mix77_eq]; exact h ρ hg hp)
@[simp] def o_split32_1 : Out := .fresh 31 (.need (.cmp .eql (.var 22) (.dlen (.var 24))) (.need (.cmp .leq (.tims (.lit 32) (.plus (.var 22) (.lit 1))) (.lit 140737488355328)) (.fresh 32 (.fresh 33 (.pack [.cells 31 45 [(.vint .i64 (.var 25)), (.vslice 27 (.lit 0) (.var 20) (.var 28) 1)], .arr 27 5 [CK.int .u8] (.var 29) (.var 28), .abs 26 2] 34 (.back 0 12 (sg 1000 [bg 1006 34, bt 1004 (.dapp (.var 24) (.rcons (.vint .i64 (.var 25)) (.rcons (.vslice 27 (.lit 0) (.var 20) (.var 28) 1) .rnil))), bt 1005 (.arith .add .i64 (.var 25) (.lit 1)), bv 1003 33, bt 1002 (.plus (.var 22) (.lit 1)), bg 1001 32, bv 1000 20])))))))
def o_split32 : Out := (.pre 0 (sg 0 [bv 1 1, bv 0 0]) (.both (.fresh 7 (.post 0 0 (sg 0 [bv 1 1, bv 0 0]) 7 (.br (.not (.var 7))
 (.ret 0 (sg 7 [bt 7 (.lit 2)]))
 (.need (.cmp .leq (.lit 0) (.var 3)) (.br (.cmp .gtr (.var 3) (.lit 8192))
 (.ret 0 (sg 7 [bt 7 (.lit 3)]))
 (.pre 1 (sg 0 [bv 1 3, bv 0 0]) (.both (.fresh 8 (.fresh 9 (.post 1 0 (sg 0 [bv 1 3, bv 0 0]) 8 (.fresh 10 (.pack [] 11 (.inv 0 12 (sg 1000 [bg 1006 11, bt 1004 .dnil, bt 1005 (.lit 0), bt 1003 (.lit 0), bt 1002 (.lit 0), bg 1001 10, bv 1000 8]) (.fresh 12 (.fresh 13 (.fresh 14 (.fresh 15 (.fresh 16 (.fresh 17 (.fresh 18 (.hyp 0 12 (.br (.cmp .lss (.var 17) (.var 0))
 (.need (.cmp .leq (.lit 0) (.var 12)) (.need (.cmp .leq (.tims (.lit 1) (.var 12)) (.lit 281474976710656)) (.fresh 19 (.inv 1 20 (sg 1000 [bg 1006 18, bt 1009 (.drep (.var 12) (.rcons (.vint .u8 (.lit 0)) .rnil)), bv 1004 16, bt 1010 (.lit 0), bv 1008 12, bg 1007 19, bv 1005 17, bv 1003 15, bv 1002 14, bg 1001 13, bv 1000 12]) (.fresh 20 (.fresh 21 (.fresh 22 (.fresh 23 (.fresh 24 (.fresh 25 (.fresh 26 (.fresh 27 (.fresh 28 (.fresh 29 (.fresh 30 (.hyp 1 20 (.br (.cmp .lss (.var 30) (.var 20))
 (.br (.cmp .lss (.arith .add .i64 (.arith .mul .i64 (.var 25) (.var 20)) (.var 30)) (.var 3))
 (.need (.cmp .leq (.lit 0) (.arith .add .i64 (.arith .mul .i64 (.var 25) (.var 20)) (.var 30))) (.need (.cmp .lss (.arith .add .i64 (.arith .mul .i64 (.var 25) (.var 20)) (.var 30)) (.dlen (.var 5))) (.need (.cmp .leq (.lit 0) (.var 30)) (.need (.cmp .lss (.var 30) (.dlen (.var 29))) (.back 1 20 (sg 1000 [bg 1006 26, bt 1009 (.dput (.var 29) (.var 30) 0 (.rcons (.vint .u8 (.icell (.var 5) (.arith .add .i64 (.arith .mul .i64 (.var 25) (.var 20)) (.var 30)) 0)) .rnil)), bv 1004 24, bt 1010 (.arith .add .i64 (.var 30) (.lit 1)), bv 1008 28, bg 1007 27, bv 1005 25, bv 1003 23, bv 1002 22, bg 1001 21, bv 1000 20]))))))
 o_split32_1)
 o_split32_1)))))))))))))))))
 (.inv 2 19 (sg 1000 [bg 1006 18, bv 1004 16, bv 1005 0, bv 1003 15, bv 1002 14, bg 1001 13, bv 1000 12]) (.fresh 19 (.fresh 20 (.fresh 21 (.fresh 22 (.fresh 23 (.fresh 24 (.fresh 25 (.hyp 2 19 (.br (.cmp .lss (.var 24) (.var 1))
 (.know (.cmp .leq (.dlen (.var 23)) (.var 22)) (.need (.cmp .leq (.lit 0) (.var 21)) (.need (.cmp .leq (.lit 0) (.var 22)) (.need (.cmp .leq (.lit 0) (.var 0)) (.need (.cmp .leq (.var 0) (.var 22)) (.both (.pre 2 (sg 0 [bv 0 0]) (.both (.fresh 26 (.fresh 27 (.fresh 28 (.post 2 0 (sg 0 [bv 0 0]) 26 (.both (.pre 3 (sg 0 [bv 4 27, bv 3 28, bt 5 (.conv .u8 (.var 24)), bv 2 27, bv 1 0, bg 0 26]) (.both (.fresh 29 (.fresh 30 (.fresh 31 (.post 3 0 (sg 0 [bv 4 27, bv 3 28, bt 5 (.conv .u8 (.var 24)), bv 2 27, bv 1 0, bg 0 26]) 29 (.both (.pre 4 (sg 0 [bg 11 25, bv 9 30, bv 8 31, bv 4 22, bv 3 23, bv 10 19, bv 7 30, bv 6 0, bg 5 29, bv 2 22, bv 1 0, bg 0 20]) (.both (.fresh 32 (.fresh 33 (.fresh 34 (.post 4 0 (sg 0 [bg 11 25, bv 9 30, bv 8 31, bv 4 22, bv 3 23, bv 10 19, bv 7 30, bv 6 0, bg 5 29, bv 2 22, bv 1 0, bg 0 20]) 32 (.both (.both (.fresh 35 (.both (.need (.cmp .eql (.var 21) (.dlen (.var 23))) (.need (.cmp .leq (.tims (.lit 32) (.plus (.var 21) (.lit 1))) (.lit 140737488355328)) (.fresh 36 (.fresh 37 (.both (.pack [.cells 35 45 [(.vint .i64 (.var 24)), (.vslice 32 (.lit 0) (.var 19) (.var 33) 1)], .arr 32 5 [CK.int .u8] (.var 34) (.var 33), .arr 29 5 [CK.int .u8] (.var 31) (.var 30), .arr 26 5 [CK.int .u8] (.var 28) (.var 27), .abs 25 2] 38 (.back 2 19 (sg 1000 [bg 1006 38, bt 1004 (.dapp (.var 23) (.rcons (.vint .i64 (.var 24)) (.rcons (.vslice 32 (.lit 0) (.var 19) (.var 33) 1) .rnil))), bt 1005 (.arith .add .i64 (.var 24) (.lit 1)), bv 1003 37, bt 1002 (.plus (.var 21) (.lit 1)), bg 1001 36, bv 1000 19]))) .top))))) .top)) .top) .top))))) .top)) .top))))) .top)) .top))))) .top)) .top))))))
 (.need (.cmp .eql (.var 1) (.var 21)) (.ret 1 (sg 7 [bg 10 25, bv 9 23, bv 8 22, bg 7 20])))))))))))))))))))))))))))) .top))))))) .top))
theorem o_split32_eq : treeOf ⟨Tryd.prog, split32C, [sizes29C, len27C, first79C, wgt78C, mix77C], [split32I, split32J, split32K]⟩ 100000 Tryd.f74 = o_split32 := by kernel_rfl
theorem split32_of (hd : ∀ c ∈ ([sizes29C, len27C, first79C, wgt78C, mix77C] : List Ctr), c.ok Tryd.prog) (h : ∀ ρ : Env, ρ.good → (split32C).pre ρ → o_split32.den ⟨Tryd.prog, split32C, [sizes29C, len27C, first79C, wgt78C, mix77C], [split32I, split32J, split32K]⟩ ρ) : (split32C).ok Tryd.prog :=
  ok_of_tree Tryd.func74 (fun a w => Tryd.call74 a w) hd 100000 (fun ρ hg hp => by rw [o_split32_eq]; exact h ρ hg hp)
end Go.Proofs

set_option linter.unusedSimpArgs false
set_option linter.unusedVariables false
namespace Go.Proofs
open Go Go.Eng
theorem range_nodup {n : Nat} : (rangeI n).Nodup := List.pairwise_map.2 (List.nodup_range.imp fun h e => h (by omega))
theorem range_mem {n : Nat} {x : Int} (h : x ∈ rangeI n) : 0 ≤ x ∧ x < n := by
  obtain ⟨m, hm, rfl⟩ := List.mem_map.1 h
  have := List.mem_range.1 hm
  omega
theorem chosen {o l : List Int} {n k : Nat} (h : (o ++ l).Perm (rangeI n)) (hk : o.length = k) : o.length = k ∧ o.Nodup ∧ ∀ x ∈ o, 0 ≤ x ∧ x < (n : Int) :=
  ⟨hk, (List.nodup_append.1 (h.nodup_iff.2 range_nodup)).1, fun x hx => range_mem (h.mem_iff.1 (List.mem_append_left _ hx))⟩
end Go.Proofs

set_option linter.unusedSimpArgs false
set_option linter.unusedVariables false
namespace Go.Proofs
open Go Go.Eng
theorem same33_ok : same33C.ok Tryd.prog := same33_of (by simp) fun ρ hg hp => by
  obtain ⟨n0, n9, n1, p0, p1⟩ := hp
  simp (config := { maxSteps := 4000000 }) [o_same33, same33C, same33Of, same33IOf]
  refine ⟨n0, n1, fun h hs => h (by have := hs.1; omega), fun hn => ⟨⟨n0, hn, fun j hj => absurd hj (by omega)⟩, fun i _ i0 i1 _ hin => ⟨fun hi => ?_, fun hi => ⟨by rw [hn], fun j hj => hin j (by omega)⟩⟩⟩⟩
  obtain ⟨l1, c1, d1, r1, b1, e1⟩ := pc_atI p0 i0 hi
  obtain ⟨l2, c2, d2, r2, b2, e2⟩ := pc_atI p1 i0 (by omega)
  rw [c1, c2, add64 (by omega) (by omega)]
  have hnext : vStr (.string ⟨(bytesOf d1).toArray⟩) = vStr (.string ⟨(bytesOf d2).toArray⟩) → pcI (ρ 3).d i.i.toNat = pcI (ρ 8).d i.i.toNat → ∀ j : Nat, (j : Int) < i.i + 1 → pcI (ρ 3).d j = pcI (ρ 8).d j ∧ pcD (ρ 10).h (ρ 3).d j = pcD (ρ 10).h (ρ 8).d j := fun h hI j hj => by
    by_cases hj' : j = i.i.toNat
    · subst hj'
      rw [str_eq, str_eq, bytesOf_inj b1 b2] at h
      exact ⟨hI, by rw [e1, e2, h]⟩
    · exact hin j (by omega)
  have hdiff : samePc (ρ 10).h (ρ 10).h (ρ 3).d (ρ 8).d (ρ 1).i.toNat (ρ 6).i.toNat → vStr (.string ⟨(bytesOf d1).toArray⟩) = vStr (.string ⟨(bytesOf d2).toArray⟩) := fun hs => by
    rw [str_eq, str_eq, bytesOf_inj b1 b2, ← e1, ← e2]
    exact (hs.2 _ (by omega)).2
  exact ⟨i0, l1, by omega, l2, fun h hs => h (hs.2 i.i.toNat (by omega)).1, fun hI => ⟨⟨d1, r1, d2, r2, fun h hs => h (hdiff hs), fun h => ⟨⟨by omega, by omega, hn, hnext h hI⟩, by omega⟩⟩, ⟨d2, r2, d1, r1, fun h hs => h (hdiff hs), fun h => ⟨⟨by omega, by omega, hn, hnext h hI⟩, by omega⟩⟩⟩⟩
theorem mix77_ok : mix77C.ok Tryd.prog := mix77_of (by simp [times53_ok]) fun ρ hg hp => by
  obtain ⟨n0, n9, l0, l1, hw, hwl, hwb, hpc, hlen⟩ := hp
  simp (config := { maxSteps := 4000000 }) [o_mix77, mix77C, mix77Of, mix77I, mix77J, times53C]
  refine ⟨l0, by omega, ⟨n0, allB_rep, by rw [bI_rep]; rfl⟩, fun u _ i _ i0 i1 hul hub hue => ⟨n0, fun hi => ⟨by omega, fun hi6 => ⟨i0, by omega, fun hz => ?_, fun hnz => ?_⟩, fun h => by omega⟩, fun hi => ?_⟩⟩
  · have hwi := bI_get (d := (ρ 8).d) (i := i.i) i0 (by omega)
    rw [add64 (by omega) (by omega)]
    refine ⟨⟨by omega, by omega, hul, hub, ?_⟩, by omega⟩
    have hml : ∀ x ∈ mixN (pcD (ρ 11).h (ρ 3).d) (bI (ρ 8).d) (ρ 10).i.toNat i.i.toNat, 0 ≤ x ∧ x < 256 := by rw [← hue]; exact allB_list hub
    rw [show (i.i + 1).toNat = i.i.toNat + 1 by omega, mixN, List.getD_eq_getElem?_getD, hwi, Option.getD_some, hz, addToL_zero hml, hue]
  · refine ⟨⟨i0, hi, hul, hub, l0, by rw [show seg (pcD (ρ 11).h (ρ 3).d i.i.toNat) 0 0 = [] by simp [seg], addToL_nil]; exact hue⟩, fun o _ j _ c _ j0 j1 hji hol hob c0 c1 hoe => ⟨fun hc => ?_, fun hc => ?_⟩⟩
    · obtain ⟨p1, _, d, hr, hb, hd⟩ := pc_atI hpc j0 j1
      have hdl := hlen j.i.toNat (by omega)
      rw [hd, bI_len] at hdl
      have hwi := bI_get (d := (ρ 8).d) (i := j.i) j0 (by omega)
      have hwB := allB_get hwb (i := j.i) j0 (by omega)
      have hdB := allB_get hb (i := c.i) c0 (by omega)
      have hz := bI_get (d := o.d) (i := c.i) c0 (by omega)
      rw [hoe, addToL_out (by right; rw [hd, seg_len (by rw [bI_len]; omega)]; omega)] at hz
      have hy := bI_get (d := d) (i := c.i) c0 (by omega)
      rw [add64 (by omega) (by omega)]
      have hput : ∀ m : U, m.i = mulF (cellI (ρ 8).d j.i 0) (cellI d c.i 0) → bI (putD o.d c.i 0 [.int .u8 (arithOf .xor .u8 (cellI o.d c.i 0) m.i)]) = addToL (mixN (pcD (ρ 11).h (ρ 3).d) (bI (ρ 8).d) (ρ 10).i.toNat j.i.toNat) 0 (seg (pcD (ρ 11).h (ρ 3).d j.i.toNat) 0 (c.i + 1).toNat) ((bI (ρ 8).d)[j.i.toNat]?.getD 0) := fun m hm => by
        have hst := addToL_step (l := mixN (pcD (ρ 11).h (ρ 3).d) (bI (ρ 8).d) (ρ 10).i.toNat j.i.toNat) (s := bI d) (off := 0) (o := 0) (i := c.i.toNat) (c := cellI (ρ 8).d j.i 0) (by rw [Nat.zero_add]; exact hz) (by rw [Nat.zero_add]; exact hy)
        rw [bI_put, hoe, hm, show (c.i + 1).toNat = c.i.toNat + 1 by omega, hd, hwi, Option.getD_some, hst, Nat.zero_add]
        rfl
      exact ⟨c0, by omega, j0, by omega, by omega, j1, p1, ⟨by omega, d, hr, by omega, ⟨hwB, hdB⟩, fun m _ hm => ⟨⟨j0, j1, hji, by rw [putD_len, hol], allB_put hob xorB_range.1 xorB_range.2, by omega, by omega, hput m hm⟩, by omega⟩⟩,
        ⟨d, hr, by omega, ⟨by omega, ⟨hwB, hdB⟩, fun m _ hm => ⟨⟨j0, j1, hji, by rw [putD_len, hol], allB_put hob xorB_range.1 xorB_range.2, by omega, by omega, hput m hm⟩, by omega⟩⟩, ⟨hwB, hdB⟩, fun m _ hm => ⟨by omega, ⟨j0, j1, hji, by rw [putD_len, hol], allB_put hob xorB_range.1 xorB_range.2, by omega, by omega, hput m hm⟩, by omega⟩⟩⟩
    · have hcl : c.i = (ρ 10).i := by omega
      rw [add64 (by omega) (by omega)]
      refine ⟨⟨by omega, by omega, hol, hob, ?_⟩, by omega⟩
      rw [hoe, hcl, show (j.i + 1).toNat = j.i.toNat + 1 by omega, mixN, List.getD_eq_getElem?_getD]
  · have : i.i = (ρ 1).i := by omega
    rw [this] at hue
    exact ⟨hul, hub, hue⟩
theorem wgt_bytes {xs : List Int} {x : Int} : bytesL (wgtL xs x) := fun y hy => by
  obtain ⟨m, _, rfl⟩ := List.mem_map.1 hy
  exact ofF_isB
theorem split32_ok : split32C.ok Tryd.prog := split32_of (by simp [sizes29_ok, len27_ok, first79_ok, wgt78_ok, mix77_ok]) fun ρ hg hp => by
  obtain ⟨hlen, hB⟩ := hp
  simp (config := { maxSteps := 4000000 }) [o_split32, split32C, split32I, split32J, split32K, sizes29C, sizes74C, len27C, piece26C, first79C, wgt78C, mix77C, mix77Of]
  intro u7 _ hv
  refine ⟨fun hb => by rw [← hv]; exact hb, fun hb => ?_⟩
  have hsz : sizesB (ρ 0).i (ρ 1).i = true := by rw [← hv]; exact hb
  obtain ⟨k1, k2, k3⟩ := sizesB_iff.1 hsz
  refine ⟨by omega, fun h => ⟨hsz, h⟩, fun hle l0 _ e _ _ hpl u10 _ u11 _ hst => ?_⟩
  have hnb : ¬ pieceBad (ρ 0).i (ρ 3).i := by unfold pieceBad; omega
  obtain ⟨hpl1, _⟩ := hpl hnb
  rw [hlen, pieceLen_tdiv k1] at hpl1
  have hplle := pieceLen_le (k := (ρ 0).i.toNat) (n := (ρ 5).d.length) (by omega)
  have hbb : bytesL (bI (ρ 5).d) := allB_list hB
  refine ⟨⟨⟨hsz, hle, hlen, hB, hpl1, by omega, rfl, rfl, by omega, by omega, fun j hj => absurd hj (by simp)⟩, by omega⟩, ?_⟩
  intro l _ u13 _ n _ u15 _ D _ i _ ab _ hW hik
  have hW' := hW
  obtain ⟨a1, a2, a3, a4, a5, a6, a7, a8, a9, a10, a11⟩ := hW'
  have hlB : (bI (ρ 5).d).length = (ρ 5).d.length := bI_len
  refine ⟨fun hi => ⟨by omega, by omega, fun u19 _ => ⟨⟨hW, hi, by omega, allB_rep, by rw [bI_rep, fillTo_zero]⟩, ?_⟩⟩, fun hi => ?_⟩
  · intro l3 _ u21 _ n3 _ u23 _ D3 _ i3 _ ab3 _ rp _ cp _ pd _ c _ hW3 hi3 hii c0 c1 hpB hpE
    obtain ⟨b1, b2, b3, b4, b5, b6, b7, b8, b9, b10, b11⟩ := hW3
    have hbi := mul_bound (x := i3.i) (y := l3.i) b9 (show i3.i ≤ 255 by omega) (by omega) b6
    have hpdl : pd.d.length = l3.i.toNat := by rw [← bI_len, hpE, fillTo_len]
    have hl3 : l3.i.toNat = pieceLen (ρ 0).i.toNat (bI (ρ 5).d).length := by rw [bI_len]; omega
    have hil : ((i3.i.toNat * l3.i.toNat : Nat) : Int) = i3.i * l3.i := by rw [Int.natCast_mul, Int.toNat_of_nonneg b9, Int.toNat_of_nonneg (by omega)]
    have hfin : (c.i = l3.i ∨ (ρ 3).i ≤ i3.i * l3.i + c.i) → bI pd.d = encP (ρ 0).i.toNat (ρ 1).i.toNat (bI (ρ 5).d) i3.i.toNat := fun hor => by
      have hp := enc_part (k := (ρ 0).i.toNat) (total := (ρ 1).i.toNat) (data := bI (ρ 5).d) (by omega) (by omega) (by omega) hbb (i := i3.i.toNat) (t := c.i.toNat) (by omega) (by
        rw [← hl3, hlB]
        rcases hor with h | h
        · left; omega
        · right; omega) (by rw [← hl3]; omega)
      simp only [List.getD_eq_getElem?_getD] at hp
      rw [← hl3] at hp
      rw [hpE]; exact hp
    have hnext : ∀ {cap : Nat} {H : Hp}, bI pd.d = encP (ρ 0).i.toNat (ρ 1).i.toNat (bI (ρ 5).d) i3.i.toNat → Rd H kB (.slice (addrOf rp.r 0) l3.i.toNat cap) pd.d → Hp.le ab3.h H →
        splitW (ρ 0).i (ρ 1).i (ρ 3).i l3.i (n3.i + 1) (i3.i + 1) (D3.d ++ [[.int .i64 i3.i, .slice (addrOf rp.r 0) l3.i.toNat cap]]) (ρ 5).d H := fun he hr hle => ⟨b1, b2, b3, b4, b5, b6, by omega, by simp; omega, by omega, by omega, by
          rw [show (i3.i + 1).toNat = i3.i.toNat + 1 by omega]
          exact encAt_snoc b11 hle (by omega) (by omega) hr he hpB⟩
    rw [mul64 (by omega) (by omega), add64 (x := i3.i * l3.i) (by omega) (by omega), add64 (x := c.i) (by omega) (by omega), add64 (x := i3.i) (by omega) (by omega)]
    refine ⟨fun hc => ⟨fun hlt => ⟨by omega, by omega, c0, by omega, ⟨⟨b1, b2, b3, b4, b5, b6, b7, b8, b9, b10, b11⟩, hi3, hii, by omega, by omega, ?_, ?_⟩, by omega⟩, fun hge u24 _ => ⟨by omega, by omega, fun u25 _ u26 _ u27 _ hst => ⟨⟨hnext (hfin (.inr hge)) ?_ ?_, by omega⟩, by omega⟩⟩⟩, fun hc u24 _ => ⟨by omega, by omega, fun u25 _ u26 _ u27 _ hst => ⟨⟨hnext (hfin (.inl (by omega))) ?_ ?_, by omega⟩, by omega⟩⟩⟩
    · have := allB_get hB (i := i3.i * l3.i + c.i) (by omega) (by omega)
      exact allB_put hpB this.1 this.2
    · have hg := bI_get (d := (ρ 5).d) (i := i3.i * l3.i + c.i) (by omega) (by omega)
      rw [show (i3.i * l3.i + c.i).toNat = i3.i.toNat * l3.i.toNat + c.i.toNat by omega] at hg
      rw [bI_put, hpE, show (c.i + 1).toNat = c.i.toNat + 1 by omega, fillTo_step (by omega), hg]
      rfl
    · obtain ⟨ha, la, da⟩ := star_mem hst (List.mem_cons_of_mem _ (List.mem_cons_self ..))
      have hr := arr_Rd (n := l3.i.toNat) (k := cp.i.toNat) da la (by simp; omega) (by simp)
      simpa [kB] using hr
    · obtain ⟨hb, lb, db⟩ := star_mem_abs hst (n := 26) (t := 2) (by simp)
      exact Hp.le_trans (by simpa using db) lb
    · obtain ⟨ha, la, da⟩ := star_mem hst (List.mem_cons_of_mem _ (List.mem_cons_self ..))
      have hr := arr_Rd (n := l3.i.toNat) (k := cp.i.toNat) da la (by simp; omega) (by simp)
      simpa [kB] using hr
    · obtain ⟨hb, lb, db⟩ := star_mem_abs hst (n := 26) (t := 2) (by simp)
      exact Hp.le_trans (by simpa using db) lb
  · have hik' : i.i = (ρ 0).i := by omega
    rw [hik'] at hW
    refine ⟨hW, ?_⟩
    intro l4 _ u13 _ n4 _ cp4 _ D4 _ i4 _ ab4 _ hW4 hk4
    obtain ⟨b1, b2, b3, b4, b5, b6, b7, b8, b9, b10, b11⟩ := hW4
    refine ⟨fun hi hcap => ?_, fun hi => ?_⟩
    · refine ⟨by omega, by omega, by omega, by omega, ⟨by omega, by omega⟩, fun r1 _ c1 _ d1 _ hd1 => ?_⟩
      have hl1 : d1.d.length = (ρ 0).i.toNat := by rw [← bI_len, hd1, first_len]
      have hw : IntKind.u8.wrap i4.i = i4.i := by simp [IntKind.wrap, IntKind.bits, IntKind.signed]; omega
      rw [hw, hd1]
      refine ⟨⟨by omega, by omega, by omega, allB_of (by rw [hd1]; exact first_bytes (by omega)), ⟨by omega, by omega⟩, first_dist (by omega)⟩, fun r2 _ c2 _ d2 _ hc2 hd2 => ?_⟩
      have hl2 : d2.d.length = (ρ 0).i.toNat := by rw [← bI_len, hd2, wgtL_len, first_len]
      have hpc := enc_pc b11
      have hl4 : l4.i.toNat = pieceLen (ρ 0).i.toNat (bI (ρ 5).d).length := by rw [bI_len]; omega
      refine ⟨⟨by omega, by omega, by omega, by omega, by omega, allB_of (by rw [hd2]; exact wgt_bytes), fun j hj => hpc.1 j (by omega), fun j hj => ?_⟩, fun r3 _ c3 _ d3 _ hl3 hB3 hE3 u28 _ => ⟨by omega, by omega, fun u29 _ u30 _ u31 _ hst => ?_⟩⟩
      · rw [(hpc.2 j (by omega)).2, (enc_facts (by omega) (by omega) (by omega) hbb j).1, ← hl4]
        omega
      rw [add64 (x := i4.i) (by omega) (by omega)]
      refine ⟨⟨⟨b1, b2, b3, b4, b5, b6, by omega, by simp; omega, by omega, by omega, ?_⟩, by omega⟩, by omega⟩
      obtain ⟨ha, la, da⟩ := star_mem hst (List.mem_cons_of_mem _ (List.mem_cons_self ..))
      obtain ⟨hb, lb, db⟩ := star_mem_abs hst (n := 25) (t := 2) (by simp)
      have hr := arr_Rd (n := l4.i.toNat) (k := c3.i.toNat) da la (by simp; omega) (by simp)
      have hr : Rd u31.h kB (.slice (addrOf r3.r 0) l4.i.toNat c3.i.toNat) d3.d := by simpa [kB] using hr
      rw [show (i4.i + 1).toNat = i4.i.toNat + 1 by omega]
      refine encAt_snoc b11 (Hp.le_trans (by simpa using db) lb) (by omega) (by omega) hr ?_ hB3
      have hm := enc_mix (k := (ρ 0).i.toNat) (total := (ρ 1).i.toNat) (data := bI (ρ 5).d) (by omega) (by omega) (by omega) hbb (i := i4.i.toNat) (by omega) (f := pcD ab4.h D4.d) fun j hj => (hpc.2 j (by omega)).2
      rw [hE3, hd2, hl4, ← hm, Int.toNat_of_nonneg b9]
    · have : i4.i = (ρ 1).i := by omega
      rw [this] at b11
      exact ⟨by omega, hsz, hle, by omega, b11⟩
end Go.Proofs

set_option linter.unusedSimpArgs false
set_option linter.unusedVariables false
namespace Go.Proofs
open Go Go.Eng
set_option maxRecDepth 20000
set_option maxHeartbeats 1000000 in
theorem large_ok : largeC.ok Tryd.prog := large_of (by simp) fun ρ hg hp => by
  obtain ⟨ik, i1, i2, i3, mk, m1, m2, m3, ⟨dl, dl1, dB, dc⟩, hO, ⟨ml, ml1, mD, mc⟩, ⟨pl, pl1, pc, pok⟩, bl, bl1⟩ := hp
  simp (config := { maxSteps := 4000000, contextual := true }) [o_large, largeC, largeI, caseArg, caseCells, manT, cellsT, smallCase, smallV]
  refine ⟨by omega, fun h1 => ⟨by omega, fun h2 => ⟨by omega, fun h3 => ⟨by omega, fun h4 => ⟨⟨by omega, fun j hj => by omega⟩, fun u _ u0 u1 hu => ⟨fun hlt => ⟨by omega, ?_⟩, fun hge => ⟨by omega, by omega, by omega, by omega, fun j hj => hu j (by omega)⟩⟩⟩⟩⟩⟩⟩
  obtain ⟨v, d, e1, e2, hr, hb, hpc⟩ := pc_at pok (j := u.i.toNat) (by omega)
  have hu2 : u.i = ((u.i.toNat : Nat) : Int) := by omega
  have m1 : arithOf .add .i64 u.i 1 = u.i + 1 := add64 (by omega) (by omega)
  refine ⟨d, by rw [hu2, e2]; exact hr, fun hd => ⟨⟨by rw [m1]; omega, by rw [m1]; omega, fun j hj => ?_⟩, by rw [m1]; omega⟩⟩
  rw [m1] at hj
  by_cases hj2 : j = u.i.toNat
  · rw [hj2, hpc, bI_len]; omega
  · exact hu j (by omega)
set_option maxHeartbeats 1600000 in
theorem makeU_ok : makeU.ok Tryd.prog := makeU_of (by simp [sizes3_ok, encode31_ok, sha256_ok, pieceDg_ok]) fun ρ hg hp => by
  obtain ⟨hf, hl, hlc, hB, ⟨hGr, hGd⟩, htop⟩ := hp
  simp (config := { maxSteps := 2000000 }) [o_makeU, makeU, makeC, makeI, sizes3C, encode31C, sha256C, pieceDgC, gOk, bytesIn, madeV, madeHp, madePost, madeS, makeErr, madeIs]
  have hnn := fieldD_ne hf
  refine fun u _ => ⟨fun h => absurd h hnn.1, fun _ b _ hb => ⟨fun hz _ _ _ => ⟨hf, by rw [← hb]; exact hz⟩, fun hz => ?_⟩⟩
  rw [hz] at hb
  have hs3 := hb.symm
  have hs3' := hs3
  simp [sizes3] at hs3'
  obtain ⟨b1, b2, b3, b4⟩ := hs3'
  have hsB : sizesB (ρ 2).i (ρ 4).i = true := by simp [sizesB]; omega
  have hsz : sizesB (ρ 2).i (ρ 4).i = false → False := fun h => by rw [hsB] at h; cases h
  refine ⟨⟨hf, hl, hB, htop⟩, fun e _ f _ hf2 he => ⟨fun hne _ _ _ => ⟨hf2, ?_⟩, fun hz2 => ?_⟩, fun _ _ _ _ f _ P _ ab _ hf2 _ hle hPl hE => ⟨by omega, ⟨⟨by omega, hlc, by omega, by omega, hB⟩, hGr, hGd⟩, fun o _ ho _ _ => ⟨by omega, ⟨hf2, hs3, hle, by omega, hPl, hE, ?_, ?_, ?_⟩, fun _ _ _ _ _ _ o2 _ _ _ t _ _ _ Ds _ P2 _ _ _ f2 _ ab2 _ hf3 _ _ t0 t1 hPl2 hE2 ho2 hDl hDo hDm => ⟨fun hlt => ?_, fun hge => ?_⟩⟩⟩⟩
  · rcases he with ⟨h, _⟩ | ⟨_, h1, h2⟩
    · exact (hsz h).elim
    · exact .inl (.inr ⟨hs3, h1, h2⟩)
  · rcases he with ⟨h, _⟩ | ⟨_, h1, h2⟩
    · exact (hsz h).elim
    · omega
  · rw [segB_all hl] at ho
    exact ho
  · intro r hr; cases hr
  · rfl
  · obtain ⟨T, hT⟩ : ∃ T : Nat, t.i = T := ⟨t.i.toNat, by omega⟩
    have m1 : arithOf .add .i64 t.i 1 = ((T + 1 : Nat) : Int) := by rw [add64 (by omega) (by omega)]; omega
    obtain ⟨v, d, e1, e2, e3, e4⟩ := hE2 T (by omega)
    have hcv : cellV P2.d t.i 1 = v := by rw [hT]; simp [cellV, e1]
    have hci : cellI P2.d t.i 0 = (T : Int) := by rw [hT]; simp [cellI, cellV, e1, vInt]
    rw [m1, hcv, hci]
    have hdl : d.length ≤ (ρ 8).d.length := by
      have h1 := congrArg List.length e3
      rw [bI_len, encP_len, bI_len] at h1
      have := pieceLen_le (k := (ρ 2).i.toNat) (n := (ρ 8).d.length) (by omega)
      omega
    refine ⟨by omega, by omega, fun _ _ => ⟨d, e2, fun r0 _ c1 _ hv hcl => ⟨⟨hcl, by omega, e4, hGr, hGd⟩, fun g _ hg2 _ _ => ⟨by omega, by omega, fun _ _ _ _ ab3 _ hst => ⟨by omega, ⟨hf3, hs3, hle, by omega, by omega, hPl2, ?_, ho2, by omega, ?_, ?_⟩, by omega⟩⟩⟩⟩⟩
    · obtain ⟨hb2, lb, db⟩ := star_mem_abs hst (n := 32) (t := 2) (by simp)
      exact encAt_mono hE2 (Hp.le_trans (by simpa using db) lb)
    · intro r hr
      rcases List.mem_append.1 hr with hr | hr
      · exact hDo r hr
      · obtain rfl := List.mem_singleton.1 hr
        refine ⟨rfl, ?_⟩
        have : allM (rowL g.d 32) := by rw [hg2]; exact sha_allM _
        exact this
    · have hh : dgs (Ds.d ++ [dgCells (cellX g.d)]) = madeAt (encP (ρ 2).i.toNat (ρ 4).i.toNat (bI (ρ 8).d)) (T + 1) := by
        rw [dgs_snoc, rowB_dg, hg2, segB_all rfl, e3, hDm, hT, Int.toNat_natCast, madeAt_snoc]
      exact hh
  · have ht : t.i = (ρ 4).i := by omega
    refine fun ab3 _ hst => ⟨hf3, by omega, hs3, hle, hPl2, ?_, ho2, hDo, by rw [hDm, ht]⟩
    obtain ⟨hb2, lb, db⟩ := star_mem_abs hst (n := 32) (t := 2) (by simp)
    exact encAt_mono hE2 (Hp.le_trans (by simpa using db) lb)
theorem split32G_ok : split32G.ok Tryd.prog := Ctr.ok_less split32_ok rfl rfl rfl rfl rfl (fun ρ h => h.1) fun ρ ρ' ai al hp hag hal hpost => by
  match ai, hal with
  | 0, hal =>
    exfalso
    obtain rfl := Option.some.inj hal
    have h2 : (sizesB ((ρ'.upto 8) 0).i ((ρ'.upto 8) 1).i = false ∧ ((ρ'.upto 8) 7).i = 2) ∨ (sizesB ((ρ'.upto 8) 0).i ((ρ'.upto 8) 1).i = true ∧ 8192 < ((ρ'.upto 8) 3).i ∧ ((ρ'.upto 8) 7).i = 3) := hpost
    have e := upto_at (m := 8) (nv := 7) hag (by omega)
    rw [e 0 (by omega), e 1 (by omega), e 3 (by omega)] at h2
    obtain ⟨_, hs, hle⟩ := hp
    rcases h2 with ⟨h, _⟩ | ⟨_, h, _⟩
    · rw [hs] at h; cases h
    · omega
  | 1, hal => exact ⟨0, hal⟩
  | n + 2, hal => cases hal
set_option maxHeartbeats 1600000 in
theorem refMake_ok : refMakeC.ok Tryd.prog := refMake_of (by simp [sizesR_ok, split32G_ok, sumR_ok, ofPiece_ok]) fun ρ hg hp => by
  obtain ⟨hl, hB, hSr, hSd⟩ := hp
  simp (config := { maxSteps := 4000000 }) [o_refMake, refMakeC, refMakeI, sizesRC, split32G, split32C, sumRC, ofPieceC, manT, cellsT, gOk, madeV, madeHp, madePost, madeS, makeErr, madeIs, hSr, hSd, hl, hB]
  refine fun u _ b _ hb => ⟨fun hz _ _ _ => by rw [← hb]; exact hz, fun hz => ?_⟩
  rw [hz] at hb
  have hs3 := hb.symm
  have hs3' := hs3
  simp [sizes3] at hs3'
  obtain ⟨b1, b2, b3, b4⟩ := hs3'
  have hsB : sizesB (ρ 0).i (ρ 2).i = true := by simp [sizesB]; omega
  refine ⟨fun hl8 _ _ _ => ⟨hs3, hl8⟩, fun hle => ⟨⟨hsB, hle⟩, fun _ _ _ _ P _ ab _ _ _ hPl hE => ⟨by omega, fun o _ ho _ _ => ⟨⟨hs3, hle, by omega, hPl, hE, ho, ?_, ?_⟩, fun _ _ _ _ _ _ o2 _ _ _ t _ _ _ Ds _ P2 _ _ _ ab2 _ _ _ t0 t1 hPl2 hE2 ho2 hDl hDo hDm => ⟨fun hlt => ?_, fun hge => ?_⟩⟩⟩⟩⟩
  · intro r hr; cases hr
  · rfl
  · obtain ⟨T, hT⟩ : ∃ T : Nat, t.i = T := ⟨t.i.toNat, by omega⟩
    have m1 : arithOf .add .i64 t.i 1 = ((T + 1 : Nat) : Int) := by rw [add64 (by omega) (by omega)]; omega
    obtain ⟨v, d, e1, e2, e3, e4⟩ := hE2 T (by omega)
    have hcv : cellV P2.d t.i 1 = v := by rw [hT]; simp [cellV, e1]
    rw [m1, hcv]
    have hdl : d.length ≤ (ρ 6).d.length := by
      have h1 := congrArg List.length e3
      rw [bI_len, encP_len, bI_len] at h1
      have := pieceLen_le (k := (ρ 0).i.toNat) (n := (ρ 6).d.length) (by omega)
      omega
    refine ⟨by omega, by omega, by omega, d, e2, fun r0 _ c1 _ => ⟨⟨by omega, e4⟩, fun g _ hg2 _ _ => ⟨by omega, by omega, fun _ _ _ _ ab3 _ hst => ⟨by omega, ⟨hs3, hle, by omega, by omega, hPl2, ?_, ho2, by omega, ?_, ?_⟩, by omega⟩⟩⟩⟩
    · obtain ⟨hb2, lb, db⟩ := star_mem_abs hst (n := 28) (t := 2) (by simp)
      exact encAt_mono hE2 (Hp.le_trans (by simpa using db) lb)
    · intro r hr
      rcases List.mem_append.1 hr with hr | hr
      · exact hDo r hr
      · obtain rfl := List.mem_singleton.1 hr
        refine ⟨rfl, ?_⟩
        have : allM (rowL g.d 32) := by rw [hg2]; exact sha_allM _
        exact this
    · have hh : dgs (Ds.d ++ [dgCells (cellX g.d)]) = madeAt (encP (ρ 0).i.toNat (ρ 2).i.toNat (bI (ρ 6).d)) (T + 1) := by
        rw [dgs_snoc, rowB_dg, hg2, e3, hDm, hT, Int.toNat_natCast, madeAt_snoc]
      exact hh
  · have ht : t.i = (ρ 2).i := by omega
    refine fun ab3 _ hst => ⟨by omega, hs3, hle, hPl2, ?_, ho2, hDo, by rw [hDm, ht]⟩
    obtain ⟨hb2, lb, db⟩ := star_mem_abs hst (n := 28) (t := 2) (by simp)
    exact encAt_mono hE2 (Hp.le_trans (by simpa using db) lb)
end Go.Proofs

set_option linter.unusedSimpArgs false
set_option linter.unusedVariables false
set_option maxRecDepth 20000
namespace Go.Proofs
open Go Go.Eng
theorem madeErr_not {k n t s e : Int} (h : makeErr k n t s e) (h3 : sizes3 k n t = true) (hs : s ≤ 8192) : False := by
  rcases h with ⟨h, _⟩ | ⟨_, h, _⟩
  · rw [h3] at h; cases h
  · omega
theorem madeErr_eq {k n t s e e' : Int} (h : makeErr k n t s e) (h' : makeErr k n t s e') : e = e' := by
  rcases h with ⟨h, h1⟩ | ⟨h, h2, h1⟩ <;> rcases h' with ⟨g, g1⟩ | ⟨g, g2, g1⟩
  · rw [h1, g1]
  · rw [h] at g; cases g
  · rw [h] at g; cases g
  · rw [h1, g1]
theorem made_e {e k' n' t' s' l q e2 k2 n2 t2 s2 l2 q2 k n t s : Int} {o o2 m : List Int} {D E D2 E2 : Rows'} {h h2 : Hp} (a : madeS e k' n' t' s' l q k n t s o m D E h) (b : madeS e2 k2 n2 t2 s2 l2 q2 k n t s o2 m D2 E2 h2) : e = e2 := by
  rcases a with ⟨a, _⟩ | ⟨a, _, _, _, _, _, _, c⟩ <;> rcases b with ⟨b, _⟩ | ⟨b, _, _, _, _, _, _, d⟩
  · exact madeErr_eq a b
  · exact (madeErr_not a d.1 d.2.1).elim
  · exact (madeErr_not b c.1 c.2.1).elim
  · omega
theorem made_same {e k' n' t' s' l q e2 k2 n2 t2 s2 l2 q2 k n t s : Int} {o o2 m : List Int} {D E D2 E2 : Rows'} {h h2 : Hp} {b : Bool} (hi : k' = k2 → n' = n2 → t' = t2 → s' = s2 → o = o2 → dgs D = dgs D2 → b = true) (a : madeS e k' n' t' s' l q k n t s o m D E h) (c : madeS e2 k2 n2 t2 s2 l2 q2 k n t s o2 m D2 E2 h2) : b = true := by
  rcases a with ⟨a, a1, a2, a3, a4, a5, a6, a7, a8, a9⟩ | ⟨a, a1, a2, a3, a4, a5, a6, a7⟩ <;> rcases c with ⟨b, b1, b2, b3, b4, b5, b6, b7, b8, b9⟩ | ⟨b, b1, b2, b3, b4, b5, b6, b7⟩
  · exact hi (by omega) (by omega) (by omega) (by omega) (by rw [a5, b5]) (by rw [a7, b7])
  · exact (madeErr_not a b7.1 b7.2.1).elim
  · exact (madeErr_not b a7.1 a7.2.1).elim
  · obtain ⟨_, _, _, _, c1, _, c2⟩ := a7
    obtain ⟨_, _, _, _, d1, _, d2⟩ := b7
    exact hi (by omega) (by omega) (by omega) (by omega) (by rw [c1, d1]) (by rw [c2, d2])
theorem made_l {e k' n' t' s' l q k n t s : Int} {o m : List Int} {D E : Rows'} {h : Hp} (a : madeS e k' n' t' s' l q k n t s o m D E h) : l = D.length := by
  rcases a with ⟨a, a1, a2, a3, a4, a5, a6, a7, a8, a9⟩ | ⟨a, a1, a2, a3, a4, a5, a6, a7⟩
  · rw [a7, a6]; rfl
  · obtain ⟨c0, _, _, _, c1, _, c2⟩ := a7
    have := congrArg List.length c2
    rw [madeAt_len] at this
    have hl : D.length = t.toNat := by simpa [dgs] using this
    simp [sizes3] at c0
    omega
theorem made_b {e k' n' t' s' l q k n t s : Int} {o m : List Int} {D E : Rows'} {h : Hp} (a : madeS e k' n' t' s' l q k n t s o m D E h) : l ≤ 4503599627370496 := by
  rcases a with ⟨a, a1, a2, a3, a4, a5, a6, a7, a8, a9⟩ | ⟨a, a1, a2, a3, a4, a5, a6, a7⟩
  · omega
  · have c0 := a7.1
    simp [sizes3] at c0
    omega
theorem made_q {e k' n' t' s' l q k n t s : Int} {o m : List Int} {D E : Rows'} {h : Hp} (a : madeS e k' n' t' s' l q k n t s o m D E h) : q ≤ 17592186043904 := by
  rcases a with ⟨a, a1, a2, a3, a4, a5, a6, a7, a8, a9⟩ | ⟨a, a1, a2, a3, a4, a5, a6, a7⟩
  · omega
  · have c0 := a7.1
    simp [sizes3] at c0
    omega
theorem made_q0 {e k' n' t' s' l q k n t s : Int} {o m : List Int} {D E : Rows'} {h : Hp} (a : madeS e k' n' t' s' l q k n t s o m D E h) : 0 ≤ q := by
  rcases a with ⟨a, a1, a2, a3, a4, a5, a6, a7, a8, a9⟩ | ⟨a, a1, a2, a3, a4, a5, a6, a7⟩
  · omega
  · have c0 := a7.1
    simp [sizes3] at c0
    omega
theorem made_pc {e k' n' t' s' l q k n t s : Int} {o m : List Int} {D E : Rows'} {h H : Hp} (a : madeS e k' n' t' s' l q k n t s o m D E h) (hl : Hp.le h H) : pcOk H E q.toNat := by
  rcases a with ⟨a, a1, a2, a3, a4, a5, a6, a7, a8, a9⟩ | ⟨a, a1, a2, a3, a4, a5, a6, a7⟩
  · intro j hj; omega
  · rw [a6]
    exact (enc_pc (encAt_mono a7.2.2.2.1 hl)).1
theorem enc_same {h : Hp} {D D' : Rows'} {n : Nat} {f : Nat → List Int} (h1 : encAt h D n f) (h2 : encAt h D' n f) : samePc h h D D' n n := ⟨rfl, fun j hj => by
  have a := (enc_pc h1).2 j hj
  have b := (enc_pc h2).2 j hj
  exact ⟨a.1.trans b.1.symm, a.2.trans b.2.symm⟩⟩
theorem made_iff {e k' n' t' s' l q e2 k2 n2 t2 s2 l2 q2 k n t s : Int} {o o2 m : List Int} {D E D2 E2 : Rows'} {h h2 H : Hp} {b : Bool} (hi : b = true ↔ samePc H H E E2 q.toNat q2.toNat) (a : madeS e k' n' t' s' l q k n t s o m D E h) (c : madeS e2 k2 n2 t2 s2 l2 q2 k n t s o2 m D2 E2 h2) (hl : Hp.le h H) (hl2 : Hp.le h2 H) : b = true := by
  rcases a with ⟨a, a1, a2, a3, a4, a5, a6, a7, a8, a9⟩ | ⟨a, a1, a2, a3, a4, a5, a6, a7⟩ <;> rcases c with ⟨b, b1, b2, b3, b4, b5, b6, b7, b8, b9⟩ | ⟨b, b1, b2, b3, b4, b5, b6, b7⟩
  · exact hi.2 ⟨by omega, fun j hj => by omega⟩
  · exact (madeErr_not a b7.1 b7.2.1).elim
  · exact (madeErr_not b a7.1 a7.2.1).elim
  · rw [a6, b6] at hi
    exact hi.2 (enc_same (encAt_mono a7.2.2.2.1 hl) (encAt_mono b7.2.2.2.1 hl2))
theorem star_le {ρ : Env} {l : List SH} {H : Hp} (n : Nat) (hs : star ρ l H) (hm : SH.abs n 2 ∈ l) : Hp.le (ρ n).h H := by
  obtain ⟨hb, lb, db⟩ := star_mem_abs hs hm
  exact Hp.le_trans db lb
theorem topQ {k t : Int} (hs : sizesB k t = true) : (topE k.toNat t.toNat).2.2 = k.toNat := by
  obtain ⟨k1, k2, k3⟩ := sizesB_iff.1 hs
  exact top_rank (by omega) (by omega)
def o_same33n : Out := (.ret 0 (sg 0 []))
theorem o_same33n_eq : treeOf ⟨Tryd.prog, same33N, [], []⟩ 100000 Tryd.f27 = o_same33n := by kernel_rfl
theorem same33n_of (hd : ∀ c ∈ ([] : List Ctr), c.ok Tryd.prog) (h : ∀ ρ : Env, ρ.good → (same33N).pre ρ → o_same33n.den ⟨Tryd.prog, same33N, [], []⟩ ρ) : (same33N).ok Tryd.prog :=
  ok_of_tree Tryd.func27 (fun a w => Tryd.call27 a w) hd 100000 (fun ρ hg hp => by rw [o_same33n_eq]; exact h ρ hg hp)
theorem same33n_ok : same33N.ok Tryd.prog := same33n_of (by simp) fun ρ hg hp => by
  simp [o_same33n, same33N, lawTrue]
set_option maxHeartbeats 6400000 in
theorem lawMakes_ok : lawMakesC.ok Tryd.prog := lawMakes_of (by simp [known_ok, large_ok, newField_ok, makeU_ok, refMake_ok, same_ok, same33_ok, same33n_ok]) fun ρ hg hp => by
  obtain ⟨⟨ik, i1, i2, i3, mk, m1, m2, m3, ⟨dl, dl1, dB, dc⟩, hO, ⟨ml, ml1, mD, mc⟩, ⟨pl, pl1, pc, pok⟩, bl, bl1⟩, ⟨hSr, hSd⟩, hGr, hGd⟩ := hp
  simp (config := { maxSteps := 4000000 }) [o_lawMakes, lawMakesC, lawTrue, knownC, largeC, newFieldC, makeU, makeC, refMakeC, sameC, same33C, same33Of, same33N, manT, cellsT, gOk, madeV, madeHp, madePost, smallCase, caseIn, hSr, hSd, hGr, hGd, dl, dB]
  have hle : ∀ {f : U}, f.d = [freshRow] → fieldD f.d := fun h => .inl h
  refine fun u _ => ⟨⟨ik, i1, i2, i3, mk, m1, m2, m3, ⟨rfl, dl ▸ dl1, dB, dl ▸ dc⟩, hO, ⟨ml, ml1, mD, mc⟩, ⟨pl, pl1, pc, pok⟩, bl, bl1⟩, fun u1 _ _ _ => ?_⟩
  repeat' (first | with_reducible apply And.intro | with_reducible intro _)
  all_goals first
    | assumption
    | exact hle (by assumption)
    | exact topQ (by assumption)
    | exact made_l (by assumption)
    | exact made_b (by assumption)
    | exact made_q (by assumption)
    | exact made_q0 (by assumption)
    | exact made_e (by assumption) (by assumption)
    | exact made_same (by assumption) (by assumption) (by assumption)
    | exact made_pc (by assumption) (by have h := star_le 54 (by assumption) (by simp); simpa using h)
    | exact made_pc (by assumption) (by have h := star_le 55 (by assumption) (by simp); simpa using h)
    | exact made_pc (by assumption) (by have h := star_le 71 (by assumption) (by simp); simpa using h)
    | exact made_iff (by assumption) (by assumption) (by assumption) (by have h := star_le 54 (by assumption) (by simp); simpa using h) (by have h := star_le 71 (by assumption) (by simp); simpa using h)
    | exact made_iff (by assumption) (by assumption) (by assumption) (by have h := star_le 55 (by assumption) (by simp); simpa using h) (by have h := star_le 71 (by assumption) (by simp); simpa using h)
    | omega
end Go.Proofs

set_option linter.unusedSimpArgs false
set_option linter.unusedVariables false
namespace Go.Eng
open Go Go.ChangeShapes Go.WideShapes Go.ChangeAt Go.RowKit

structure Grew (W w' : World) : Prop where
  os : w'.os = W.os
  out : w'.output = W.output
  blk : ∀ (b : Nat) (o : Obj), W.heap[b]? = some o → w'.heap[b]? = some o

theorem Grew.block {W w' : World} (h : Grew W w') {i : Nat} (hi : i < W.heap.size) : w'.heap[i]? = W.heap[i]? := by
  rw [Array.getElem?_eq_getElem hi]; exact h.blk i _ (Array.getElem?_eq_getElem hi)

theorem Grew.kept {W w' : World} (h : Grew W w') (may : MemPlace → Prop) : W.keptBut w' may := by
  refine ⟨h.os, h.out, fun i hi => ?_⟩
  rw [h.block hi, Array.getElem?_eq_getElem hi]
  cases W.heap[i] <;> simp

theorem Grew.trodAll {H : Type} {enc : TypeId × Value → H} {P : Program} {W W' : World} (hg : Grew W W') (hl : laidOutB P = true) {sp : Nat → Bool} : ∀ {ts : List TypeId} {vs : List Value} {ds : List (DataW H)} {ps : List MemPlace},
    (∀ t ∈ ts, P.readableRec t = true ∧ t < P.types.size) → DataW.TrodAll enc P W 0 (fun _ => true) true ts vs ds ps → (∀ p ∈ ps, p.block < W.heap.size) → (∀ p ∈ ps, sp p.block = true) →
    DataW.TrodAll enc P W' 0 sp true ts vs ds ps
  | [], [], [], _, _, h, _, _ => h
  | _ :: _, _ :: _, _ :: _, _, hT, ⟨p, q, h1, h2, e⟩, hlt, hs => by
    subst e
    refine ⟨p, q, ?_, Grew.trodAll hg hl (fun t ht => hT t (List.mem_cons_of_mem _ ht)) h2 (fun x hx => hlt x (List.mem_append_right _ hx)) (fun x hx => hs x (List.mem_append_right _ hx)), rfl⟩
    have hr := hT _ (List.mem_cons_self ..)
    refine WideElems.Trod_stays hl hr.1 hr.2 h1 (fun x hx => ?_) (fun x hx => hs x (List.mem_append_left _ hx))
    have hb := hg.block (hlt x (List.mem_append_left _ hx))
    cases x with
    | cell b o => exact World.cell?_of_block (w := W) hb
    | map b => exact hb

theorem law_calls {P : Program} {c : Ctr} (hok : c.ok P) (hheap : c.heap = []) (halts : ∀ al ∈ c.alts, al.ret = .one (.vbool (.bl true))) {ρ : Env} (hg : ρ.good) (W : World)
    (hro : ∀ x ∈ c.ro, x.roden ρ (fun b => W.heap[b]?)) (hpre : c.pre ρ) :
    Calls P c.fn (c.args.map (SV.den ρ)).toArray W fun e W' => e = .returned (.bool true) ∧ Grew W W' := by
  have h := hok.2 ρ W ⟨fun b => W.heap[b]?, W.os, W.output⟩ Hp.emp hg (Hp.disj_emp _)
    ⟨fun b o hb => by simpa [Hp.union, Hp.emp] using hb, rfl, rfl⟩ (by rw [hheap]; trivial) hro hpre
  refine h.mono fun e w' hq => ?_
  obtain ⟨ai, al, ρ', hal, _, _, rfl, _, hO, _, _, hsub, hwi⟩ := hq
  refine ⟨by rw [halts al (List.mem_of_getElem? hal)]; rfl, ⟨hwi.1, hwi.2, fun b o hb => hsub b o ?_⟩⟩
  simp [Hp.union, hb]

theorem law_post {H : Type} {enc : TypeId × Value → H} {P : Program} {f : Func} {s : ChangeSpec} {W W' : World} {args : Array Value} {ds gs : List (DataW H)} {before : List MemPlace} {bt : TypeId}
    (hl : laidOutB P = true) (hT : ∀ t ∈ f.params.toList, P.readableRec t = true ∧ t < P.types.size) (hvars : s.vars = []) (hrt : f.resultTypes = #[bt]) (hbt : P.underlying bt = some .bool)
    (hfn : ∀ ds' : List (DataW H), ds'.length = f.params.size → s.fn H ds' = { results := [.lit (.bool true)], args := ds' })
    (hW : DataW.Whole enc P f.params.toList s.vars false W args.toList ds gs before) (hg : Grew W W') : s.post enc P f false true false false W args (.bool true) W' := by
  have hlt := hW.lt
  have hW0 := hW
  obtain ⟨p, q, hA, hV, hpq, hz, hn⟩ := hW
  rw [hvars] at hV
  obtain ⟨rfl, rfl⟩ := trodVars_none hV
  have hlen : ds.length = f.params.size := by
    have : ∀ {ts : List TypeId} {vs : List Value} {ds : List (DataW H)} {ps : List MemPlace}, DataW.TrodAll enc P W 0 (fun _ => true) true ts vs ds ps → ds.length = ts.length := by
      intro ts
      induction ts with
      | nil => intro vs ds ps h; cases vs <;> cases ds <;> simp_all [DataW.TrodAll]
      | cons t ts ih =>
        intro vs ds ps h
        cases vs <;> cases ds <;> simp_all [DataW.TrodAll]
        obtain ⟨p, q, _, h2, _⟩ := h
        exact ih h2
    simpa using this hA
  have hlt' : ∀ x ∈ p, x.block < W.heap.size := fun x hx => hlt x (by rw [hpq]; exact List.mem_append_left _ hx)
  refine ⟨ds, [], before, [], p, [], hW0, ?_, ?_, ?_, hg.kept _, fun h => by cases h⟩
  · rw [List.append_nil, hfn ds hlen, hrt]
    exact ⟨[], [], ⟨1, by simp [DataW.trod, hbt, Value.cells]⟩, rfl, rfl⟩
  · rw [List.append_nil, hfn ds hlen]
    exact hg.trodAll hl hT hA hlt' (fun x hx => by simpa using hlt' x hx)
  · rw [List.append_nil, hfn ds hlen, hvars]
    rfl

theorem law_call {H : Type} {enc : TypeId × Value → H} {P : Program} {f : Func} {s : ChangeSpec} {c : Ctr} {W : World} {args : Array Value} {ds gs : List (DataW H)} {before : List MemPlace} {bt : TypeId} {ρ : Env}
    (hok : c.ok P) (hheap : c.heap = []) (halts : ∀ al ∈ c.alts, al.ret = .one (.vbool (.bl true)))
    (hl : laidOutB P = true) (hT : ∀ t ∈ f.params.toList, P.readableRec t = true ∧ t < P.types.size) (hvars : s.vars = []) (hrt : f.resultTypes = #[bt]) (hbt : P.underlying bt = some .bool)
    (hfn : ∀ ds' : List (DataW H), ds'.length = f.params.size → s.fn H ds' = { results := [.lit (.bool true)], args := ds' })
    (hW : DataW.Whole enc P f.params.toList s.vars false W args.toList ds gs before)
    (hg : ρ.good) (hargs : args = (c.args.map (SV.den ρ)).toArray) (hro : ∀ x ∈ c.ro, x.roden ρ (fun b => W.heap[b]?)) (hpre : c.pre ρ) :
    Calls P c.fn args W fun e W' => ∃ v, e = .returned v ∧ s.post enc P f false true false false W args v W' := by
  rw [hargs]
  refine (law_calls hok hheap halts hg W hro hpre).mono fun e W' ⟨he, hgr⟩ => ⟨_, he, ?_⟩
  rw [← hargs]
  exact law_post hl hT hvars hrt hbt hfn hW hgr
end Go.Eng

set_option linter.unusedSimpArgs false
set_option linter.unusedVariables false
namespace Go.Eng
open Go Go.ChangeShapes Go.WideShapes Go.ChangeAt Go.RowKit

def patFs (P : Program) (f : TypeId → Option (List CK)) : List Field → Nat → Option (List CK)
  | [], _ => some []
  | x :: fs, off =>
    if Nat.beq x.offset off then
      match f x.type with
      | some p => if Nat.beq p.length (P.cellsOf x.type) then (patFs P f fs (off + p.length)).map (p ++ ·) else none
      | none => none
    else none
def patArr (p : List CK) : Nat → List CK
  | 0 => []
  | n + 1 => p ++ patArr p n
def patP (P : Program) : Nat → TypeId → Option (List CK)
  | 0, _ => none
  | n + 1, t =>
    match P.underlying t with
    | some (.int k) => some [.int k]
    | some .bool => some [.bool]
    | some .string => some [.any]
    | some (.slice _) => some [.any]
    | some (.pointer _) => some [.any]
    | some (.struct fs) => match patFs P (patP P n) fs.toList 0 with
      | some p => if Nat.beq p.length (P.cellsOf t) then some p else none
      | none => none
    | some (.array m e) => match patP P n e with
      | some p => if Nat.beq p.length (P.cellsOf e) && Nat.beq (P.cellsOf t) (m * P.cellsOf e) then some (patArr p m) else none
      | none => none
    | _ => none

theorem fitsRow_append {p q : List CK} {cs : List Value} (h1 : fitsRow p (cs.take p.length)) (h2 : fitsRow q (cs.drop p.length)) : fitsRow (p ++ q) cs := by
  obtain ⟨a1, a2⟩ := h1
  obtain ⟨b1, b2⟩ := h2
  have hle : p.length ≤ cs.length := by simp at a1; omega
  refine ⟨by simp at a1 b1 ⊢; omega, fun c k v hk hv => ?_⟩
  by_cases hc : c < p.length
  · rw [List.getElem?_append_left hc] at hk
    exact a2 c k v hk (by rw [List.getElem?_take, if_pos hc]; exact hv)
  · rw [List.getElem?_append_right (by omega)] at hk
    exact b2 (c - p.length) k v hk (by rw [List.getElem?_drop, show p.length + (c - p.length) = c by omega]; exact hv)

section
variable {H : Type} {enc : TypeId × Value → H} {P : Program} {w : World} {base : Nat} {spare : Nat → Bool} {held : Bool}

theorem fits_one_any {v : Value} (h : v.oneCell' = true) : fitsRow [.any] [v] := ⟨rfl, fun c k v' hk hv => by
  cases c with
  | zero => simp at hk hv; subst hk; subst hv; exact h
  | succ c => simp at hk⟩

theorem patFs_fits {f : TypeId → Option (List CK)} {cs : List Value} (hf : ∀ t p, f t = some p → ∀ cs', (∃ fuel x, DataW.trod enc P w base spare held fuel t cs' = some x) → fitsRow p cs') :
    ∀ {fs : List Field} {off : Nat} {p : List CK}, patFs P f fs off = some p → (∀ x ∈ fs, ∃ fuel y, DataW.trod enc P w base spare held fuel x.type ((cs.drop x.offset).take (P.cellsOf x.type)) = some y) → off + p.length = cs.length → fitsRow p (cs.drop off)
  | [], off, p, h, _, hl => by
    simp only [patFs, Option.some.injEq] at h; subst h
    simp at hl
    refine ⟨by simp; omega, fun c k v hk => by simp at hk⟩
  | x :: fs, off, p, h, ht, hl => by
    simp only [patFs] at h
    split at h
    · rename_i ho
      have ho := Nat.eq_of_beq_eq_true ho
      split at h
      · rename_i p1 hp1
        split at h
        · rename_i hc
          have hc := Nat.eq_of_beq_eq_true hc
          simp only [Option.map_eq_some_iff] at h
          obtain ⟨p2, hp2, rfl⟩ := h
          simp only [List.length_append] at hl
          have h1 := hf x.type p1 hp1 _ (ht x (List.mem_cons_self ..))
          rw [ho, ← hc] at h1
          have h2 := patFs_fits hf hp2 (fun y hy => ht y (List.mem_cons_of_mem _ hy)) (by omega)
          exact fitsRow_append h1 (by rw [List.drop_drop]; exact h2)
        · simp at h
      · simp at h
    · simp at h

theorem patArr_fits {p : List CK} : ∀ {m : Nat} {cs : List Value}, cs.length = m * p.length → (∀ i, i < m → fitsRow p ((cs.drop (i * p.length)).take p.length)) → fitsRow (patArr p m) cs
  | 0, cs, hl, _ => by
    simp at hl; subst hl
    exact ⟨rfl, fun c k v hk => by simp [patArr] at hk⟩
  | m + 1, cs, hl, h => by
    simp only [patArr]
    refine fitsRow_append (by simpa using h 0 (by omega)) (patArr_fits (by rw [List.length_drop, hl, Nat.add_mul]; omega) fun i hi => ?_)
    rw [List.drop_drop, show p.length + i * p.length = (i + 1) * p.length by rw [Nat.add_mul]; omega]
    exact h (i + 1) (by omega)

theorem trod_fits : ∀ (n : Nat) {t : TypeId} {pat : List CK}, patP P n t = some pat → ∀ cs, (∃ fuel x, DataW.trod enc P w base spare held fuel t cs = some x) → fitsRow pat cs
  | 0, t, pat, h, _, _ => by simp [patP] at h
  | n + 1, t, pat, h, cs, ⟨fuel, x, hx⟩ => by
    simp only [patP] at h
    split at h
    · rename_i k hu
      simp only [Option.some.injEq] at h; subst h
      obtain ⟨z, rfl, _, _⟩ := DataW.trod_int hu hx
      refine ⟨rfl, fun c k' v hk hv => ?_⟩
      cases c with
      | zero => simp at hk hv; subst hk; subst hv; simp [CK.fits]
      | succ c => simp at hk
    · rename_i hu
      simp only [Option.some.injEq] at h; subst h
      cases fuel with
      | zero => simp [DataW.trod] at hx
      | succ m =>
        unfold DataW.trod at hx
        rw [hu] at hx
        split at hx <;> simp_all
        refine ⟨rfl, fun c k' v hk hv => ?_⟩
        cases c with
        | zero => simp at hk hv; subst hk; subst hv; simp [CK.fits]
        | succ c => simp at hk
    · rename_i hu
      simp only [Option.some.injEq] at h; subst h
      cases fuel with
      | zero => simp [DataW.trod] at hx
      | succ m =>
        unfold DataW.trod at hx
        rw [hu] at hx
        split at hx <;> simp_all
        exact fits_one_any rfl
    · rename_i e hu
      simp only [Option.some.injEq] at h; subst h
      rcases DataW.trod_slice hu hx with ⟨rfl, _⟩ | ⟨a, len, cap, elems, rest, m, _, rfl, _⟩
      · exact fits_one_any rfl
      · exact fits_one_any rfl
    · rename_i e hu
      simp only [Option.some.injEq] at h; subst h
      cases fuel with
      | zero => simp [DataW.trod] at hx
      | succ m =>
        unfold DataW.trod at hx
        rw [hu] at hx
        split at hx <;> simp_all
        all_goals exact fits_one_any rfl
    · rename_i fs hu
      split at h
      · rename_i p hp
        split at h
        · rename_i hc
          have hc := Nat.eq_of_beq_eq_true hc
          simp only [Option.some.injEq] at h; subst h
          obtain ⟨xs, m, _, _, hl, hxl, hall⟩ := DataW.trod_struct hu hx
          have := patFs_fits (cs := cs) (f := patP P n) (fun t p hp cs' hh => trod_fits n hp cs' hh) hp (fun y hy => by
            obtain ⟨i, hi⟩ := List.getElem?_of_mem hy
            have hi' : fs[i]? = some y := by simpa using hi
            have h1 := hall i y hi'
            have hlt : i < xs.length := by
              rw [hxl]; exact (Array.getElem?_eq_some_iff.1 hi').1
            exact ⟨m, xs[i], by rw [h1]; simp [hlt]⟩) (by omega)
          simpa using this
        · simp at h
      · simp at h
    · rename_i m e hu
      split at h
      · rename_i p hp
        split at h
        · rename_i hc
          simp only [Bool.and_eq_true] at hc
          have hc1 := Nat.eq_of_beq_eq_true hc.1
          have hc2 := Nat.eq_of_beq_eq_true hc.2
          simp only [Option.some.injEq] at h; subst h
          obtain ⟨xs, k, _, _, hl, hxl, hall⟩ := DataW.trod_array hu hx
          refine patArr_fits (by rw [hl, hc2, hc1]) fun i hi => ?_
          have h1 := hall i hi
          rw [← hc1] at h1
          exact trod_fits n hp _ ⟨k, xs[i]'(by omega), by rw [h1]; simp [hxl, hi]⟩
        · simp at h
      · simp at h
    · simp at h

theorem cells?_get {a : Addr} {n : Nat} {cs : List Value} (h : w.cells? base a n = some cs) : cs.length = n ∧ ∀ i, i < n → w.cell? (a.add i) = cs[i]? := by
  unfold World.cells? at h
  split at h
  · exact ⟨by simpa using mapM_some_length h, fun i hi => by simpa using mapM_some_get h i i (by simp [hi])⟩
  · simp at h

theorem open_rows {t e : TypeId} {pat : List CK} {n : Nat} {v : Value} {d : DataW H} {ps : List MemPlace} (ht : P.underlying t = some (.slice e)) (hpat : patP P n e = some pat) (hce : P.cellsOf e = pat.length) (hpos : 0 < pat.length)
    {fuel : Nat} (hsp : ∀ b, spare b = true) (hf : DataW.trod enc P w base spare held fuel t [v] = some (d, ps)) :
    ∃ rows : List (List Value), Rd (fun b => w.heap[b]?) pat v rows ∧ (∀ row ∈ rows, ∃ fuel x, DataW.trod enc P w base spare held fuel e row = some x) ∧
      ((d = .nil ∧ rows = []) ∨ ∃ elems sp, d = .slice elems sp ∧ elems.length = rows.length ∧ ∀ (i : Nat) (row : List Value), rows[i]? = some row → ∃ fuel x, DataW.trod enc P w base spare held fuel e row = some x ∧ elems[i]? = some x.1) := by
  rcases DataW.trod_slice ht hf with ⟨h1, h2⟩ | ⟨a, len, cap, elems, rest, m, _, h1, h2, hb, hlc, hcm, hel, hall, hrest, _⟩
  · simp at h1 h2
    exact ⟨[], .inl ⟨_, h1, rfl⟩, by simp, .inl ⟨h2.1, rfl⟩⟩
  · simp at h1 h2
    subst h1
    have hrow : ∀ i, i < len → ∃ cs x, w.cells? base (a.add (i * P.cellsOf e)) (P.cellsOf e) = some cs ∧ DataW.trod enc P w base spare held m e cs = some x ∧ elems[i]? = some x := fun i hi => by
      have := hall i hi
      rw [List.getElem?_eq_getElem (by omega)] at this
      obtain ⟨cs, g1, g2⟩ := Option.bind_eq_some_iff.1 this
      exact ⟨cs, _, g1, g2, List.getElem?_eq_getElem _⟩
    let rows : List (List Value) := (List.range len).map fun i => ((w.cells? base (a.add (i * P.cellsOf e)) (P.cellsOf e)).getD [])
    have hget : ∀ i row, rows[i]? = some row → i < len ∧ w.cells? base (a.add (i * P.cellsOf e)) (P.cellsOf e) = some row := fun i row hr => by
      simp only [rows, List.getElem?_map, Option.map_eq_some_iff] at hr
      obtain ⟨j, hj, rfl⟩ := hr
      have hlt : i < len := by
        have := (List.getElem?_eq_some_iff.1 hj).1; simpa using this
      rw [List.getElem?_range hlt] at hj
      simp only [Option.some.injEq] at hj; subst hj
      obtain ⟨cs, x, g1, _, _⟩ := hrow i hlt
      exact ⟨hlt, by rw [g1]; rfl⟩
    have hrl : rows.length = len := by simp [rows]
    have htr : ∀ row ∈ rows, ∃ fuel x, DataW.trod enc P w base spare held fuel e row = some x := fun row hr => by
      obtain ⟨i, hi⟩ := List.getElem?_of_mem hr
      obtain ⟨hlt, hc⟩ := hget i row hi
      obtain ⟨cs, x, g1, g2, _⟩ := hrow i hlt
      rw [hc] at g1
      simp only [Option.some.injEq] at g1; subst g1
      exact ⟨m, x, g2⟩
    refine ⟨rows, ?_, htr, .inr ⟨_, _, h2.1, by simp [hel, hrl], fun i row hi => ?_⟩⟩
    rotate_left
    · obtain ⟨hlt, hc⟩ := hget i row hi
      obtain ⟨cs, x, g1, g2, g3⟩ := hrow i hlt
      rw [hc] at g1
      simp only [Option.some.injEq] at g1; subst g1
      exact ⟨m, x, g2, by simp [g3]⟩
    by_cases hcap : cap = 0
    · have hl0 : len = 0 := by omega
      have : rows = [] := by apply List.eq_nil_of_length_eq_zero; omega
      exact .inl ⟨some a, by rw [hl0, hcap], this⟩
    have hfirst : ∃ cs, w.cells? base (a.add 0) (P.cellsOf e) = some cs := by
      by_cases hl : 0 < len
      · obtain ⟨cs, _, g1, _, _⟩ := hrow 0 hl
        rw [Nat.zero_mul] at g1
        exact ⟨cs, g1⟩
      · obtain ⟨r1, r2⟩ := hrest (hsp _)
        have := r2 0 (by omega)
        rw [show (len + 0) * P.cellsOf e = 0 by rw [show len + 0 = 0 by omega]; simp, List.getElem?_eq_getElem (by omega)] at this
        obtain ⟨cs, g1, _⟩ := Option.bind_eq_some_iff.1 this
        exact ⟨cs, g1⟩
    obtain ⟨cs0, hc0⟩ := hfirst
    obtain ⟨hl0, hg0⟩ := cells?_get hc0
    have h00 := hg0 0 (by omega)
    rw [show (a.add 0).add 0 = a from rfl, List.getElem?_eq_getElem (by omega)] at h00
    obtain ⟨ab, ao, asp⟩ := a
    have hblk0 := h00
    unfold World.cell? at hblk0
    split at hblk0
    · rename_i c ty fr hblk
      simp only at hblk
      have hsp0 : asp = none := by
        cases asp with
        | none => rfl
        | some s => simp at hblk0
      subst hsp0
      refine .inr ⟨ab, ao, cap, c, ty, fr, by rw [hrl], by omega, hblk, fun i row hi => ?_⟩
      obtain ⟨hlt, hc⟩ := hget i row hi
      refine ⟨trod_fits n hpat row (htr row (List.mem_of_getElem? hi)), fun k x hk => ?_⟩
      obtain ⟨hl1, hg⟩ := cells?_get hc
      have hkl : k < P.cellsOf e := by
        rw [← hl1]; exact (List.getElem?_eq_some_iff.1 hk).1
      have := hg k hkl
      rw [hk, hce] at this
      rw [Go.Eng.addr_add, Go.Eng.addr_add, cell_of_heap hblk] at this
      exact this
    · simp at hblk0
end

end Go.Eng
