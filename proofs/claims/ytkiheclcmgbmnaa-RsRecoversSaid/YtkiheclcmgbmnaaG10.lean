/- Texts VU, WF, YU, YT, YV, YW, VV, WA, WE, VX. -/
import Derived.Test.YtkiheclcmgbmnaaG9
import Derived.Test.YtkiheclcmgbmnaaProg
import Derived.Test.YtkiheclcmgbmnaaG6
set_option linter.unusedSimpArgs false
set_option linter.unusedVariables false
set_option maxRecDepth 100000
namespace Go.Proofs
open Go Go.Eng

def o_check88 : Out := (.fresh 9 (.need (.cmp .leq (.lit (0)) (.var 4)) (.inv 0 10 ⟨1000, [(1002, (.t (.rcons (.vbool (.bl false)) (.rcons (.vbool (.bl false)) (.rcons (.vbool (.bl false)) (.rcons (.vbool (.bl false)) (.rcons (.vbool (.bl false)) (.rcons (.vbool (.bl false)) (.rcons (.vbool (.bl false)) (.rcons (.vbool (.bl false)) (.rcons (.vbool (.bl false)) (.rcons (.vbool (.bl false)) (.rcons (.vbool (.bl false)) (.rcons (.vbool (.bl false)) (.rcons (.vbool (.bl false)) (.rcons (.vbool (.bl false)) (.rcons (.vbool (.bl false)) (.rcons (.vbool (.bl false)) (.rcons (.vbool (.bl false)) (.rcons (.vbool (.bl false)) (.rcons (.vbool (.bl false)) (.rcons (.vbool (.bl false)) (.rcons (.vbool (.bl false)) (.rcons (.vbool (.bl false)) (.rcons (.vbool (.bl false)) (.rcons (.vbool (.bl false)) (.rcons (.vbool (.bl false)) (.rcons (.vbool (.bl false)) (.rcons (.vbool (.bl false)) (.rcons (.vbool (.bl false)) (.rcons (.vbool (.bl false)) (.rcons (.vbool (.bl false)) (.rcons (.vbool (.bl false)) (.rcons (.vbool (.bl false)) (.rcons (.vbool (.bl false)) (.rcons (.vbool (.bl false)) (.rcons (.vbool (.bl false)) (.rcons (.vbool (.bl false)) (.rcons (.vbool (.bl false)) (.rcons (.vbool (.bl false)) (.rcons (.vbool (.bl false)) (.rcons (.vbool (.bl false)) (.rcons (.vbool (.bl false)) (.rcons (.vbool (.bl false)) (.rcons (.vbool (.bl false)) (.rcons (.vbool (.bl false)) (.rcons (.vbool (.bl false)) (.rcons (.vbool (.bl false)) (.rcons (.vbool (.bl false)) (.rcons (.vbool (.bl false)) (.rcons (.vbool (.bl false)) (.rcons (.vbool (.bl false)) (.rcons (.vbool (.bl false)) (.rcons (.vbool (.bl false)) (.rcons (.vbool (.bl false)) (.rcons (.vbool (.bl false)) (.rcons (.vbool (.bl false)) (.rcons (.vbool (.bl false)) (.rcons (.vbool (.bl false)) (.rcons (.vbool (.bl false)) (.rcons (.vbool (.bl false)) (.rcons (.vbool (.bl false)) (.rcons (.vbool (.bl false)) (.rcons (.vbool (.bl false)) (.rcons (.vbool (.bl false)) (.rcons (.vbool (.bl false)) (.rcons (.vbool (.bl false)) (.rcons (.vbool (.bl false)) (.rcons (.vbool (.bl false)) (.rcons (.vbool (.bl false)) (.rcons (.vbool (.bl false)) (.rcons (.vbool (.bl false)) (.rcons (.vbool (.bl false)) (.rcons (.vbool (.bl false)) (.rcons (.vbool (.bl false)) (.rcons (.vbool (.bl false)) (.rcons (.vbool (.bl false)) (.rcons (.vbool (.bl false)) (.rcons (.vbool (.bl false)) (.rcons (.vbool (.bl false)) (.rcons (.vbool (.bl false)) (.rcons (.vbool (.bl false)) (.rcons (.vbool (.bl false)) (.rcons (.vbool (.bl false)) (.rcons (.vbool (.bl false)) (.rcons (.vbool (.bl false)) (.rcons (.vbool (.bl false)) (.rcons (.vbool (.bl false)) (.rcons (.vbool (.bl false)) (.rcons (.vbool (.bl false)) (.rcons (.vbool (.bl false)) (.rcons (.vbool (.bl false)) (.rcons (.vbool (.bl false)) (.rcons (.vbool (.bl false)) (.rcons (.vbool (.bl false)) (.rcons (.vbool (.bl false)) (.rcons (.vbool (.bl false)) (.rcons (.vbool (.bl false)) (.rcons (.vbool (.bl false)) (.rcons (.vbool (.bl false)) (.rcons (.vbool (.bl false)) (.rcons (.vbool (.bl false)) (.rcons (.vbool (.bl false)) (.rcons (.vbool (.bl false)) (.rcons (.vbool (.bl false)) (.rcons (.vbool (.bl false)) (.rcons (.vbool (.bl false)) (.rcons (.vbool (.bl false)) (.rcons (.vbool (.bl false)) (.rcons (.vbool (.bl false)) (.rcons (.vbool (.bl false)) (.rcons (.vbool (.bl false)) (.rcons (.vbool (.bl false)) (.rcons (.vbool (.bl false)) (.rcons (.vbool (.bl false)) (.rcons (.vbool (.bl false)) (.rcons (.vbool (.bl false)) (.rcons (.vbool (.bl false)) (.rcons (.vbool (.bl false)) (.rcons (.vbool (.bl false)) (.rcons (.vbool (.bl false)) (.rcons (.vbool (.bl false)) (.rcons (.vbool (.bl false)) (.rcons (.vbool (.bl false)) (.rcons (.vbool (.bl false)) (.rcons (.vbool (.bl false)) (.rcons (.vbool (.bl false)) (.rcons (.vbool (.bl false)) (.rcons (.vbool (.bl false)) (.rcons (.vbool (.bl false)) (.rcons (.vbool (.bl false)) (.rcons (.vbool (.bl false)) (.rcons (.vbool (.bl false)) (.rcons (.vbool (.bl false)) (.rcons (.vbool (.bl false)) (.rcons (.vbool (.bl false)) (.rcons (.vbool (.bl false)) (.rcons (.vbool (.bl false)) (.rcons (.vbool (.bl false)) (.rcons (.vbool (.bl false)) (.rcons (.vbool (.bl false)) (.rcons (.vbool (.bl false)) (.rcons (.vbool (.bl false)) (.rcons (.vbool (.bl false)) (.rcons (.vbool (.bl false)) (.rcons (.vbool (.bl false)) (.rcons (.vbool (.bl false)) (.rcons (.vbool (.bl false)) (.rcons (.vbool (.bl false)) (.rcons (.vbool (.bl false)) (.rcons (.vbool (.bl false)) (.rcons (.vbool (.bl false)) (.rcons (.vbool (.bl false)) (.rcons (.vbool (.bl false)) (.rcons (.vbool (.bl false)) (.rcons (.vbool (.bl false)) (.rcons (.vbool (.bl false)) (.rcons (.vbool (.bl false)) (.rcons (.vbool (.bl false)) (.rcons (.vbool (.bl false)) (.rcons (.vbool (.bl false)) (.rcons (.vbool (.bl false)) (.rcons (.vbool (.bl false)) (.rcons (.vbool (.bl false)) (.rcons (.vbool (.bl false)) (.rcons (.vbool (.bl false)) (.rcons (.vbool (.bl false)) (.rcons (.vbool (.bl false)) (.rcons (.vbool (.bl false)) (.rcons (.vbool (.bl false)) (.rcons (.vbool (.bl false)) (.rcons (.vbool (.bl false)) (.rcons (.vbool (.bl false)) (.rcons (.vbool (.bl false)) (.rcons (.vbool (.bl false)) (.rcons (.vbool (.bl false)) (.rcons (.vbool (.bl false)) (.rcons (.vbool (.bl false)) (.rcons (.vbool (.bl false)) (.rcons (.vbool (.bl false)) (.rcons (.vbool (.bl false)) (.rcons (.vbool (.bl false)) (.rcons (.vbool (.bl false)) (.rcons (.vbool (.bl false)) (.rcons (.vbool (.bl false)) (.rcons (.vbool (.bl false)) (.rcons (.vbool (.bl false)) (.rcons (.vbool (.bl false)) (.rcons (.vbool (.bl false)) (.rcons (.vbool (.bl false)) (.rcons (.vbool (.bl false)) (.rcons (.vbool (.bl false)) (.rcons (.vbool (.bl false)) (.rcons (.vbool (.bl false)) (.rcons (.vbool (.bl false)) (.rcons (.vbool (.bl false)) (.rcons (.vbool (.bl false)) (.rcons (.vbool (.bl false)) (.rcons (.vbool (.bl false)) (.rcons (.vbool (.bl false)) (.rcons (.vbool (.bl false)) (.rcons (.vbool (.bl false)) (.rcons (.vbool (.bl false)) (.rcons (.vbool (.bl false)) (.rcons (.vbool (.bl false)) (.rcons (.vbool (.bl false)) (.rcons (.vbool (.bl false)) (.rcons (.vbool (.bl false)) (.rcons (.vbool (.bl false)) (.rcons (.vbool (.bl false)) (.rcons (.vbool (.bl false)) (.rcons (.vbool (.bl false)) (.rcons (.vbool (.bl false)) (.rcons (.vbool (.bl false)) (.rcons (.vbool (.bl false)) (.rcons (.vbool (.bl false)) (.rcons (.vbool (.bl false)) (.rcons (.vbool (.bl false)) (.rcons (.vbool (.bl false)) (.rcons (.vbool (.bl false)) (.rcons (.vbool (.bl false)) (.rcons (.vbool (.bl false)) (.rcons (.vbool (.bl false)) (.rcons (.vbool (.bl false)) (.rcons (.vbool (.bl false)) (.rcons (.vbool (.bl false)) (.rcons (.vbool (.bl false)) (.rcons (.vbool (.bl false)) (.rcons (.vbool (.bl false)) (.rcons (.vbool (.bl false)) (.rcons (.vbool (.bl false)) (.rcons (.vbool (.bl false)) (.rcons (.vbool (.bl false)) (.rcons (.vbool (.bl false)) (.rcons (.vbool (.bl false)) (.rcons (.vbool (.bl false)) (.rcons (.vbool (.bl false)) (.rcons (.vbool (.bl false)) (.rcons (.vbool (.bl false)) (.rcons (.vbool (.bl false)) (.rcons (.vbool (.bl false)) (.rcons (.vbool (.bl false)) (.rcons (.vbool (.bl false)) (.rcons (.vbool (.bl false)) (.rcons (.vbool (.bl false)) (.rcons (.vbool (.bl false)) (.rcons (.vbool (.bl false)) (.rcons (.vbool (.bl false)) (.rcons (.vbool (.bl false)) (.rcons (.vbool (.bl false)) (.rcons (.vbool (.bl false)) (.rcons (.vbool (.bl false)) (.rcons (.vbool (.bl false)) (.rcons (.vbool (.bl false)) (.rcons (.vbool (.bl false)) (.rcons (.vbool (.bl false)) (.rcons (.vbool (.bl false)) .rnil))))))))))))))))))))))))))))))))))))))))))))))))))))))))))))))))))))))))))))))))))))))))))))))))))))))))))))))))))))))))))))))))))))))))))))))))))))))))))))))))))))))))))))))))))))))))))))))))))))))))))))))))))))))))))))))))))))))))))))))))))))))))))))))))), (1000, (.t (.lit (0)))), (1001, (.r 9))], [((.lit (1)), (.lit (1))), ((.var 4), (.var 4)), ((.var 5), (.var 5)), ((.var 4), (.var 4)), ((.lit (0)), (.lit (0))), ((.var 5), (.var 5)), ((.var 4), (.var 4)), ((.lit (0)), (.lit (0))), ((.var 2), (.var 2)), ((.var 1), (.var 1)), ((.var 0), (.var 0))], [], []⟩ (.fresh 10 (.fresh 11 (.fresh 12 (.hyp 0 10 (.br (.cmp .lss (.var 10) (.var 4))
 (.need (.cmp .leq (.lit (0)) (.var 10)) (.need (.cmp .lss (.var 10) (.dlen (.var 6))) (.fresh 13 (.br (.cmp .lss (.icell (.var 6) (.var 10) 0) (.lit (0)))
 (.ret 0 ⟨9, [(9, (.t (.lit (2))))], [], [], []⟩)
 (.br (.cmp .geq (.icell (.var 6) (.var 10) 0) (.var 1))
 (.ret 0 ⟨9, [(9, (.t (.lit (2))))], [], [], []⟩)
 (.need (.cmp .leq (.lit (0)) (.icell (.var 6) (.var 10) 0)) (.need (.cmp .lss (.icell (.var 6) (.var 10) 0) (.lit (255))) (.need (.cmp .lss (.lit (0)) (.dlen (.var 12))) (.br (.c2 (.xbool 0) (.var 12) (.icell (.var 6) (.var 10) 0))
 (.ret 0 ⟨9, [(9, (.t (.lit (7))))], [], [], []⟩)
 (.br (.cmp .lss (.var 2) (.lit (0)))
 (.view (.vcell (.var 6) (.var 10) 1) [CK.int .u8] [8] 14 (.br (.cmp .gtr (.dlen (.var 16)) (.lit (8192)))
 (.ret 0 ⟨9, [(9, (.t (.lit (3))))], [], [], []⟩)
 (.need (.cmp .lss (.lit (0)) (.var 4)) (.need (.cmp .lss (.lit (0)) (.dlen (.var 6))) (.view (.vcell (.var 6) (.lit (0)) 1) [CK.int .u8] [8] 17 (.view (.vcell (.var 6) (.var 10) 1) [CK.int .u8] [8] 20 (.br (.cmp .neq (.dlen (.var 22)) (.dlen (.var 19)))
 (.ret 0 ⟨9, [(9, (.t (.lit (10))))], [], [], []⟩)
 (.back 0 10 ⟨1000, [(1002, (.t (.c3 (.xput 0) (.var 12) (.icell (.var 6) (.var 10) 0) (.vbool (.bl true))))), (1000, (.t (.arith .add .i64 (.var 10) (.lit (1))))), (1001, (.r 11))], [((.lit (1)), (.lit (1))), ((.var 4), (.var 4)), ((.var 5), (.var 5)), ((.var 4), (.var 4)), ((.lit (0)), (.lit (0))), ((.lit (0)), (.lit (0))), ((.var 5), (.var 5)), ((.var 4), (.var 4)), ((.lit (0)), (.lit (0))), ((.var 2), (.var 2)), ((.var 1), (.var 1)), ((.var 0), (.var 0))], [], []⟩))))))))
 (.view (.vcell (.var 6) (.var 10) 1) [CK.int .u8] [8] 14 (.br (.cmp .neq (.dlen (.var 16)) (.var 2))
 (.ret 0 ⟨9, [(9, (.t (.lit (10))))], [], [], []⟩)
 (.back 0 10 ⟨1000, [(1002, (.t (.c3 (.xput 0) (.var 12) (.icell (.var 6) (.var 10) 0) (.vbool (.bl true))))), (1000, (.t (.arith .add .i64 (.var 10) (.lit (1))))), (1001, (.r 11))], [((.lit (1)), (.lit (1))), ((.var 4), (.var 4)), ((.var 5), (.var 5)), ((.var 4), (.var 4)), ((.lit (0)), (.lit (0))), ((.lit (0)), (.lit (0))), ((.var 5), (.var 5)), ((.var 4), (.var 4)), ((.lit (0)), (.lit (0))), ((.var 2), (.var 2)), ((.var 1), (.var 1)), ((.var 0), (.var 0))], [], []⟩)))))))))))))
 (.br (.cmp .lss (.var 4) (.var 0))
 (.ret 0 ⟨9, [(9, (.t (.lit (12))))], [], [], []⟩)
 (.ret 0 ⟨9, [(9, (.t (.lit (0))))], [], [], []⟩))))))))))
theorem o_check88_eq : treeOf ⟨Try.prog, check88C, [], [check88I]⟩ 100000 Try.f88 = o_check88 := by kernel_rfl
theorem check88_of (hd : ∀ c ∈ ([] : List Ctr), c.ok Try.prog) (h : ∀ ρ : Env, ρ.good → (check88C).pre ρ → o_check88.den ⟨Try.prog, check88C, [], [check88I]⟩ ρ) : (check88C).ok Try.prog :=
  ok_of_tree Try.func88 (fun a w => Try.call88 a w) hd 100000 (fun ρ hg hp => by rw [o_check88_eq]; exact h ρ hg hp)
def o_check93 : Out := (.inv 0 9 ⟨1000, [(1000, (.t (.lit (0))))], [((.var 5), (.var 5)), ((.var 4), (.var 4)), ((.lit (0)), (.lit (0))), ((.var 2), (.var 2)), ((.var 1), (.var 1)), ((.var 0), (.var 0))], [], []⟩ (.fresh 9 (.hyp 0 9 (.need (.cmp .leq (.lit (0)) (.var 4)) (.br (.cmp .lss (.var 9) (.var 4))
 (.need (.cmp .leq (.lit (0)) (.var 9)) (.need (.cmp .lss (.var 9) (.dlen (.var 6))) (.fresh 10 (.br (.cmp .lss (.icell (.var 6) (.var 9) 0) (.lit (0)))
 (.ret 0 ⟨9, [(9, (.t (.lit (2))))], [], [], []⟩)
 (.br (.cmp .geq (.icell (.var 6) (.var 9) 0) (.var 1))
 (.ret 0 ⟨9, [(9, (.t (.lit (2))))], [], [], []⟩)
 (.inv 1 11 ⟨1000, [(1003, (.t (.vcell (.var 6) (.var 9) 1))), (1002, (.t (.icell (.var 6) (.var 9) 0))), (1004, (.t (.lit (0)))), (1001, (.r 10)), (1000, (.t (.var 9)))], [((.var 5), (.var 5)), ((.var 4), (.var 4)), ((.lit (0)), (.lit (0))), ((.var 2), (.var 2)), ((.var 1), (.var 1)), ((.var 0), (.var 0))], [], []⟩ (.fresh 11 (.fresh 12 (.fresh 13 (.fresh 14 (.fresh 15 (.hyp 1 11 (.br (.cmp .lss (.var 15) (.var 11))
 (.need (.cmp .leq (.lit (0)) (.var 15)) (.need (.cmp .lss (.var 15) (.var 4)) (.need (.cmp .lss (.var 15) (.dlen (.var 6))) (.br (.cmp .eql (.icell (.var 6) (.var 15) 0) (.var 13))
 (.ret 0 ⟨9, [(9, (.t (.lit (7))))], [], [], []⟩)
 (.back 1 11 ⟨1000, [(1003, (.t (.var 14))), (1002, (.t (.var 13))), (1004, (.t (.arith .add .i64 (.var 15) (.lit (1))))), (1001, (.r 12)), (1000, (.t (.var 11)))], [((.lit (0)), (.lit (0))), ((.var 5), (.var 5)), ((.var 4), (.var 4)), ((.lit (0)), (.lit (0))), ((.var 2), (.var 2)), ((.var 1), (.var 1)), ((.var 0), (.var 0))], [], []⟩)))))
 (.br (.cmp .lss (.var 2) (.lit (0)))
 (.view (.var 14) [CK.int .u8] [8] 16 (.br (.cmp .gtr (.dlen (.var 18)) (.lit (8192)))
 (.ret 0 ⟨9, [(9, (.t (.lit (3))))], [], [], []⟩)
 (.br (.cmp .geq (.var 2) (.lit (0)))
 (.both (.view (.var 14) [CK.int .u8] [8] 19 (.br (.cmp .neq (.dlen (.var 21)) (.var 2))
 (.ret 0 ⟨9, [(9, (.t (.lit (10))))], [], [], []⟩)
 (.need (.cmp .lss (.lit (0)) (.var 4)) (.need (.cmp .lss (.lit (0)) (.dlen (.var 6))) (.both (.view (.var 14) [CK.int .u8] [8] 22 (.both (.view (.vcell (.var 6) (.lit (0)) 1) [CK.int .u8] [8] 25 (.br (.cmp .neq (.dlen (.var 24)) (.dlen (.var 27)))
 (.ret 0 ⟨9, [(9, (.t (.lit (10))))], [], [], []⟩)
 (.back 0 9 ⟨1000, [(1000, (.t (.arith .add .i64 (.var 11) (.lit (1)))))], [((.var 5), (.var 5)), ((.var 4), (.var 4)), ((.lit (0)), (.lit (0))), ((.var 2), (.var 2)), ((.var 1), (.var 1)), ((.var 0), (.var 0))], [], []⟩))) .top)) (.both (.view (.vcell (.var 6) (.lit (0)) 1) [CK.int .u8] [8] 22 (.both (.view (.var 14) [CK.int .u8] [8] 25 (.br (.cmp .neq (.dlen (.var 27)) (.dlen (.var 24)))
 (.ret 0 ⟨9, [(9, (.t (.lit (10))))], [], [], []⟩)
 (.back 0 9 ⟨1000, [(1000, (.t (.arith .add .i64 (.var 11) (.lit (1)))))], [((.var 5), (.var 5)), ((.var 4), (.var 4)), ((.lit (0)), (.lit (0))), ((.var 2), (.var 2)), ((.var 1), (.var 1)), ((.var 0), (.var 0))], [], []⟩))) .top)) .top)))))) .top)
 (.need (.cmp .lss (.lit (0)) (.var 4)) (.need (.cmp .lss (.lit (0)) (.dlen (.var 6))) (.both (.view (.var 14) [CK.int .u8] [8] 19 (.both (.view (.vcell (.var 6) (.lit (0)) 1) [CK.int .u8] [8] 22 (.br (.cmp .neq (.dlen (.var 21)) (.dlen (.var 24)))
 (.ret 0 ⟨9, [(9, (.t (.lit (10))))], [], [], []⟩)
 (.back 0 9 ⟨1000, [(1000, (.t (.arith .add .i64 (.var 11) (.lit (1)))))], [((.var 5), (.var 5)), ((.var 4), (.var 4)), ((.lit (0)), (.lit (0))), ((.var 2), (.var 2)), ((.var 1), (.var 1)), ((.var 0), (.var 0))], [], []⟩))) .top)) (.both (.view (.vcell (.var 6) (.lit (0)) 1) [CK.int .u8] [8] 19 (.both (.view (.var 14) [CK.int .u8] [8] 22 (.br (.cmp .neq (.dlen (.var 24)) (.dlen (.var 21)))
 (.ret 0 ⟨9, [(9, (.t (.lit (10))))], [], [], []⟩)
 (.back 0 9 ⟨1000, [(1000, (.t (.arith .add .i64 (.var 11) (.lit (1)))))], [((.var 5), (.var 5)), ((.var 4), (.var 4)), ((.lit (0)), (.lit (0))), ((.var 2), (.var 2)), ((.var 1), (.var 1)), ((.var 0), (.var 0))], [], []⟩))) .top)) .top)))))))
 (.br (.cmp .geq (.var 2) (.lit (0)))
 (.both (.view (.var 14) [CK.int .u8] [8] 16 (.br (.cmp .neq (.dlen (.var 18)) (.var 2))
 (.ret 0 ⟨9, [(9, (.t (.lit (10))))], [], [], []⟩)
 (.back 0 9 ⟨1000, [(1000, (.t (.arith .add .i64 (.var 11) (.lit (1)))))], [((.var 5), (.var 5)), ((.var 4), (.var 4)), ((.lit (0)), (.lit (0))), ((.var 2), (.var 2)), ((.var 1), (.var 1)), ((.var 0), (.var 0))], [], []⟩))) .top)
 (.back 0 9 ⟨1000, [(1000, (.t (.arith .add .i64 (.var 11) (.lit (1)))))], [((.var 5), (.var 5)), ((.var 4), (.var 4)), ((.lit (0)), (.lit (0))), ((.var 2), (.var 2)), ((.var 1), (.var 1)), ((.var 0), (.var 0))], [], []⟩))))))))))))))))
 (.br (.cmp .lss (.var 4) (.var 0))
 (.ret 0 ⟨9, [(9, (.t (.lit (12))))], [], [], []⟩)
 (.ret 0 ⟨9, [(9, (.t (.lit (0))))], [], [], []⟩)))))))
theorem o_check93_eq : treeOf ⟨Try.prog, check93C, [], [check93I, check93J 9]⟩ 100000 Try.f93 = o_check93 := by kernel_rfl
theorem check93_of (hd : ∀ c ∈ ([] : List Ctr), c.ok Try.prog) (h : ∀ ρ : Env, ρ.good → (check93C).pre ρ → o_check93.den ⟨Try.prog, check93C, [], [check93I, check93J 9]⟩ ρ) : (check93C).ok Try.prog :=
  ok_of_tree Try.func93 (fun a w => Try.call93 a w) hd 100000 (fun ρ hg hp => by rw [o_check93_eq]; exact h ρ hg hp)
def o_addToT : Out := (.br (.cmp .eql (.var 4) (.lit (0)))
 (.ret 0 ⟨7, [(8, (.r 5)), (7, (.t (.var 1)))], [((.lit (1)), (.lit (1)))], [], []⟩)
 (.viewL (.var 3) [CK.int .u8] [6] 7 (.inv 0 10 ⟨1000, [(1003, (.r 5)), (1001, (.t (.var 1))), (1000, (.t (.lit (0)))), (1002, (.t (.dlen (.var 9)))), (1004, (.t (.vslice 7 (.lit (0)) (.dlen (.var 9)) (.var 8) 1)))], [((.lit (1)), (.lit (1))), ((.var 4), (.var 4)), ((.lit (0)), (.lit (0)))], [], []⟩ (.fresh 10 (.fresh 11 (.fresh 12 (.fresh 13 (.fresh 14 (.hyp 0 10 (.br (.cmp .lss (.var 10) (.var 12))
 (.viewL (.var 14) [CK.int .u8] [6] 15 (.need (.cmp .leq (.lit (0)) (.var 10)) (.need (.cmp .lss (.var 10) (.dlen (.var 17))) (.both (.viewL (.var 2) [CK.int .u8] [13] 18 (.need (.cmp .lss (.var 10) (.dlen (.var 20))) (.both (.pre 0 ⟨0, [(1, (.t (.var 11))), (3, (.t (.icell (.var 17) (.var 10) 0))), (2, (.t (.var 4))), (0, (.r 0))], [((.lit (1)), (.lit (1))), ((.lit (0)), (.lit (0)))], [], []⟩ (.both (.fresh 21 (.fresh 22 (.post 0 0 ⟨0, [(1, (.t (.var 11))), (3, (.t (.icell (.var 17) (.var 10) 0))), (2, (.t (.var 4))), (0, (.r 0))], [((.lit (1)), (.lit (1))), ((.lit (0)), (.lit (0)))], [], []⟩ 21 (.both (.put 13 18 [CK.int .u8] (.var 20) (.var 10) 0 [(.vint .u8 (.arith .xor .u8 (.icell (.var 20) (.var 10) 0) (.var 21)))] 23 (.back 0 10 ⟨1000, [(1003, (.r 23)), (1001, (.t (.var 22))), (1000, (.t (.arith .add .i64 (.var 10) (.lit (1))))), (1002, (.t (.var 12))), (1004, (.t (.vslice 15 (.lit (0)) (.dlen (.var 17)) (.var 16) 1)))], [((.lit (1)), (.lit (1))), ((.var 4), (.var 4)), ((.lit (0)), (.lit (0)))], [], []⟩)) .top)))) .top)) .top))) (.both (.pre 0 ⟨0, [(1, (.t (.var 11))), (3, (.t (.icell (.var 17) (.var 10) 0))), (2, (.t (.var 4))), (0, (.r 0))], [((.lit (1)), (.lit (1))), ((.lit (0)), (.lit (0)))], [], []⟩ (.both (.fresh 18 (.fresh 19 (.post 0 0 ⟨0, [(1, (.t (.var 11))), (3, (.t (.icell (.var 17) (.var 10) 0))), (2, (.t (.var 4))), (0, (.r 0))], [((.lit (1)), (.lit (1))), ((.lit (0)), (.lit (0)))], [], []⟩ 18 (.both (.viewL (.var 2) [CK.int .u8] [13] 20 (.need (.cmp .lss (.var 10) (.dlen (.var 22))) (.both (.put 13 20 [CK.int .u8] (.var 22) (.var 10) 0 [(.vint .u8 (.arith .xor .u8 (.icell (.var 22) (.var 10) 0) (.var 18)))] 23 (.back 0 10 ⟨1000, [(1003, (.r 23)), (1001, (.t (.var 19))), (1000, (.t (.arith .add .i64 (.var 10) (.lit (1))))), (1002, (.t (.var 12))), (1004, (.t (.vslice 15 (.lit (0)) (.dlen (.var 17)) (.var 16) 1)))], [((.lit (1)), (.lit (1))), ((.var 4), (.var 4)), ((.lit (0)), (.lit (0)))], [], []⟩)) .top))) .top)))) .top)) .top)))))
 (.ret 0 ⟨7, [(8, (.r 13)), (7, (.t (.var 11)))], [((.lit (1)), (.lit (1)))], [], []⟩)))))))))))
theorem o_addToT_eq : treeOf ⟨Try.prog, addToT, [mulC], [addToTI]⟩ 100000 Try.f76 = o_addToT := by kernel_rfl
theorem addToT_of (hd : ∀ c ∈ ([mulC] : List Ctr), c.ok Try.prog) (h : ∀ ρ : Env, ρ.good → (addToT).pre ρ → o_addToT.den ⟨Try.prog, addToT, [mulC], [addToTI]⟩ ρ) : (addToT).ok Try.prog :=
  ok_of_tree Try.func76 (fun a w => Try.call76 a w) hd 100000 (fun ρ hg hp => by rw [o_addToT_eq]; exact h ρ hg hp)
def o_equal90 : Out := (.need (.cmp .leq (.lit (0)) (.var 1)) (.view (.var 5) [CK.int .u8] [6] 7 (.br (.cmp .neq (.var 1) (.dlen (.var 9)))
 (.ret 0 ⟨7, [(7, (.t (.bl false)))], [], [], []⟩)
 (.inv 0 10 ⟨1000, [(1000, (.t (.lit (0))))], [((.var 1), (.var 1)), ((.var 2), (.var 2)), ((.var 1), (.var 1)), ((.lit (0)), (.lit (0)))], [], []⟩ (.fresh 10 (.hyp 0 10 (.br (.cmp .lss (.var 10) (.var 1))
 (.need (.cmp .leq (.lit (0)) (.var 10)) (.need (.cmp .lss (.var 10) (.dlen (.var 3))) (.both (.view (.var 5) [CK.int .u8] [6] 11 (.need (.cmp .lss (.var 10) (.dlen (.var 13))) (.br (.cmp .neq (.icell (.var 3) (.var 10) 0) (.icell (.var 13) (.var 10) 0))
 (.ret 0 ⟨7, [(7, (.t (.bl false)))], [], [], []⟩)
 (.back 0 10 ⟨1000, [(1000, (.t (.arith .add .i64 (.var 10) (.lit (1)))))], [((.var 1), (.var 1)), ((.var 2), (.var 2)), ((.var 1), (.var 1)), ((.lit (0)), (.lit (0)))], [], []⟩)))) .top)))
 (.ret 0 ⟨7, [(7, (.t (.bl true)))], [], [], []⟩))))))))
theorem o_equal90_eq : treeOf ⟨Try.prog, equal90C, [], [equal90I]⟩ 100000 Try.f90 = o_equal90 := by kernel_rfl
theorem equal90_of (hd : ∀ c ∈ ([] : List Ctr), c.ok Try.prog) (h : ∀ ρ : Env, ρ.good → (equal90C).pre ρ → o_equal90.den ⟨Try.prog, equal90C, [], [equal90I]⟩ ρ) : (equal90C).ok Try.prog :=
  ok_of_tree Try.func90 (fun a w => Try.call90 a w) hd 100000 (fun ρ hg hp => by rw [o_equal90_eq]; exact h ρ hg hp)
def o_value94 : Out := (.fresh 8 (.inv 0 9 ⟨1000, [(1003, (.t .dnil)), (1004, (.t (.lit (0)))), (1002, (.t (.lit (0)))), (1001, (.t (.lit (0)))), (1000, (.r 8))], [((.var 1002), (.lit (0))), ((.lit (0)), (.lit (0))), ((.var 6), (.var 6)), ((.var 3), (.var 3)), ((.var 2), (.var 2)), ((.lit (0)), (.lit (0))), ((.var 0), (.var 0))], [], []⟩ (.fresh 9 (.fresh 10 (.fresh 11 (.fresh 12 (.fresh 13 (.hyp 0 9 (.br (.cmp .lss (.var 13) (.var 0))
 (.need (.cmp .leq (.lit (0)) (.var 13)) (.need (.cmp .lss (.var 13) (.var 2)) (.need (.cmp .lss (.var 13) (.dlen (.var 4))) (.fresh 14 (.need (.cmp .eql (.var 10) (.dlen (.var 12))) (.need (.cmp .leq (.tims (.lit (1)) (.plus (.var 10) (.lit (1)))) (.lit (140737488355328))) (.fresh 15 (.fresh 16 (.back 0 9 ⟨1000, [(1003, (.t (.dapp (.var 12) (.rcons (.vint .u8 (.conv .u8 (.icell (.var 4) (.var 13) 0))) .rnil)))), (1004, (.t (.arith .add .i64 (.var 13) (.lit (1))))), (1002, (.t (.var 16))), (1001, (.t (.plus (.var 10) (.lit (1))))), (1000, (.r 15))], [((.var 1002), (.var 16)), ((.lit (0)), (.lit (0))), ((.var 6), (.var 6)), ((.var 3), (.var 3)), ((.var 2), (.var 2)), ((.lit (0)), (.lit (0))), ((.var 0), (.var 0))], [], []⟩)))))))))
 (.need (.cmp .leq (.lit (0)) (.var 2)) (.need (.cmp .leq (.lit (0)) (.var 3)) (.need (.cmp .leq (.lit (0)) (.var 0)) (.need (.cmp .leq (.var 0) (.var 3)) (.need (.cmp .lss (.lit (0)) (.var 2)) (.need (.cmp .lss (.lit (0)) (.dlen (.var 4))) (.both (.pre 0 ⟨0, [(4, (.t (.var 11))), (3, (.t (.var 12))), (5, (.t (.var 6))), (2, (.t (.var 11))), (1, (.t (.var 10))), (0, (.r 9))], [((.lit (0)), (.lit (0)))], [], []⟩ (.both (.fresh 14 (.fresh 15 (.fresh 16 (.post 0 0 ⟨0, [(4, (.t (.var 11))), (3, (.t (.var 12))), (5, (.t (.var 6))), (2, (.t (.var 11))), (1, (.t (.var 10))), (0, (.r 9))], [((.lit (0)), (.lit (0)))], [], []⟩ 14 (.both (.view (.vcell (.var 4) (.lit (0)) 1) [CK.int .u8] [7] 17 (.both (.pre 1 ⟨0, [(11, (.r 7)), (9, (.t (.var 15))), (8, (.t (.var 16))), (4, (.t (.var 5))), (3, (.t (.var 4))), (10, (.t (.dlen (.var 19)))), (7, (.t (.var 15))), (6, (.t (.var 10))), (5, (.r 14)), (2, (.t (.var 3))), (1, (.t (.var 0))), (0, (.r 1))], [((.lit (0)), (.lit (0))), ((.lit (0)), (.lit (0)))], [], []⟩ (.both (.fresh 20 (.fresh 21 (.fresh 22 (.post 1 0 ⟨0, [(11, (.r 7)), (9, (.t (.var 15))), (8, (.t (.var 16))), (4, (.t (.var 5))), (3, (.t (.var 4))), (10, (.t (.dlen (.var 19)))), (7, (.t (.var 15))), (6, (.t (.var 10))), (5, (.r 14)), (2, (.t (.var 3))), (1, (.t (.var 0))), (0, (.r 1))], [((.lit (0)), (.lit (0))), ((.lit (0)), (.lit (0)))], [], []⟩ 20 (.ret 0 ⟨8, [(11, (.t (.var 22))), (10, (.t (.var 21))), (9, (.t (.dlen (.var 19)))), (8, (.r 20))], [((.var 10), (.var 21)), ((.lit (0)), (.lit (0)))], [], []⟩))))) .top)) .top)) .top))))) .top)) (.both (.view (.vcell (.var 4) (.lit (0)) 1) [CK.int .u8] [7] 14 (.both (.pre 0 ⟨0, [(4, (.t (.var 11))), (3, (.t (.var 12))), (5, (.t (.var 6))), (2, (.t (.var 11))), (1, (.t (.var 10))), (0, (.r 9))], [((.lit (0)), (.lit (0)))], [], []⟩ (.both (.fresh 17 (.fresh 18 (.fresh 19 (.post 0 0 ⟨0, [(4, (.t (.var 11))), (3, (.t (.var 12))), (5, (.t (.var 6))), (2, (.t (.var 11))), (1, (.t (.var 10))), (0, (.r 9))], [((.lit (0)), (.lit (0)))], [], []⟩ 17 (.both (.pre 1 ⟨0, [(11, (.r 7)), (9, (.t (.var 18))), (8, (.t (.var 19))), (4, (.t (.var 5))), (3, (.t (.var 4))), (10, (.t (.dlen (.var 16)))), (7, (.t (.var 18))), (6, (.t (.var 10))), (5, (.r 17)), (2, (.t (.var 3))), (1, (.t (.var 0))), (0, (.r 1))], [((.lit (0)), (.lit (0))), ((.lit (0)), (.lit (0)))], [], []⟩ (.both (.fresh 20 (.fresh 21 (.fresh 22 (.post 1 0 ⟨0, [(11, (.r 7)), (9, (.t (.var 18))), (8, (.t (.var 19))), (4, (.t (.var 5))), (3, (.t (.var 4))), (10, (.t (.dlen (.var 16)))), (7, (.t (.var 18))), (6, (.t (.var 10))), (5, (.r 17)), (2, (.t (.var 3))), (1, (.t (.var 0))), (0, (.r 1))], [((.lit (0)), (.lit (0))), ((.lit (0)), (.lit (0)))], [], []⟩ 20 (.ret 0 ⟨8, [(11, (.t (.var 22))), (10, (.t (.var 21))), (9, (.t (.dlen (.var 16)))), (8, (.r 20))], [((.var 10), (.var 21)), ((.lit (0)), (.lit (0)))], [], []⟩))))) .top)) .top))))) .top)) .top)) .top)))))))))))))))))
theorem o_value94_eq : treeOf ⟨Try.prog, value94C, [wgt78C, mix77R], [value94I]⟩ 100000 Try.f94 = o_value94 := by kernel_rfl
theorem value94_of (hd : ∀ c ∈ ([wgt78C, mix77R] : List Ctr), c.ok Try.prog) (h : ∀ ρ : Env, ρ.good → (value94C).pre ρ → o_value94.den ⟨Try.prog, value94C, [wgt78C, mix77R], [value94I]⟩ ρ) : (value94C).ok Try.prog :=
  ok_of_tree Try.func94 (fun a w => Try.call94 a w) hd 100000 (fun ρ hg hp => by rw [o_value94_eq]; exact h ρ hg hp)
def o_combine91 : Out := (.need (.cmp .lss (.lit (0)) (.var 3)) (.need (.cmp .lss (.lit (0)) (.dlen (.var 5))) (.view (.vcell (.var 5) (.lit (0)) 0) [CK.int .u8] [13] 14 (.need (.cmp .leq (.tims (.lit (1)) (.dlen (.var 16))) (.lit (281474976710656))) (.fresh 17 (.need (.cmp .leq (.lit (0)) (.var 9)) (.inv 0 18 ⟨1000, [(1003, (.t (.drep (.dlen (.var 16)) (.rcons (.vint .u8 (.lit (0))) .rnil)))), (1005, (.t (.var 1))), (1004, (.t (.lit (0)))), (1002, (.t (.dlen (.var 16)))), (1001, (.t (.dlen (.var 16)))), (1000, (.r 17))], [((.var 1002), (.dlen (.var 16))), ((.lit (1)), (.lit (1))), ((.var 9), (.var 9)), ((.var 10), (.var 10)), ((.var 9), (.var 9)), ((.var 8), (.var 8)), ((.lit (0)), (.lit (0))), ((.var 4), (.var 4)), ((.var 3), (.var 3)), ((.lit (0)), (.lit (0))), ((.lit (0)), (.lit (0)))], [], []⟩ (.fresh 18 (.fresh 19 (.fresh 20 (.fresh 21 (.fresh 22 (.fresh 23 (.hyp 0 18 (.br (.cmp .lss (.var 22) (.var 9))
 (.need (.cmp .leq (.lit (0)) (.var 22)) (.need (.cmp .leq (.lit (0)) (.var 8)) (.need (.cmp .leq (.lit (0)) (.plus (.var 8) (.var 22))) (.need (.cmp .lss (.plus (.var 8) (.var 22)) (.dlen (.var 11))) (.need (.cmp .lss (.var 22) (.var 3)) (.need (.cmp .lss (.var 22) (.dlen (.var 5))) (.view (.vcell (.var 5) (.var 22) 0) [CK.int .u8] [13] 24 (.pre 0 ⟨0, [(13, (.t (.var 25))), (12, (.t (.var 26))), (7, (.t (.var 20))), (6, (.t (.var 21))), (1, (.t (.var 23))), (14, (.t (.icell (.var 11) (.plus (.var 8) (.var 22)) 0))), (11, (.t (.var 25))), (10, (.t (.dlen (.var 26)))), (9, (.t (.lit (0)))), (8, (.r 24)), (5, (.t (.var 20))), (4, (.t (.var 19))), (3, (.t (.lit (0)))), (2, (.r 18)), (0, (.r 0))], [((.lit (1)), (.lit (1))), ((.lit (0)), (.lit (0)))], [], []⟩ (.both (.fresh 27 (.fresh 28 (.post 0 0 ⟨0, [(13, (.t (.var 25))), (12, (.t (.var 26))), (7, (.t (.var 20))), (6, (.t (.var 21))), (1, (.t (.var 23))), (14, (.t (.icell (.var 11) (.plus (.var 8) (.var 22)) 0))), (11, (.t (.var 25))), (10, (.t (.dlen (.var 26)))), (9, (.t (.lit (0)))), (8, (.r 24)), (5, (.t (.var 20))), (4, (.t (.var 19))), (3, (.t (.lit (0)))), (2, (.r 18)), (0, (.r 0))], [((.lit (1)), (.lit (1))), ((.lit (0)), (.lit (0)))], [], []⟩ 27 (.back 0 18 ⟨1000, [(1003, (.t (.var 28))), (1005, (.t (.var 27))), (1004, (.t (.arith .add .i64 (.var 22) (.lit (1))))), (1002, (.t (.var 20))), (1001, (.t (.var 19))), (1000, (.r 18))], [((.var 1002), (.var 20)), ((.lit (1)), (.lit (1))), ((.var 9), (.var 9)), ((.var 10), (.var 10)), ((.var 9), (.var 9)), ((.var 8), (.var 8)), ((.lit (0)), (.lit (0))), ((.var 4), (.var 4)), ((.var 3), (.var 3)), ((.lit (0)), (.lit (0))), ((.lit (0)), (.lit (0)))], [], []⟩)))) .top)))))))))
 (.ret 0 ⟨14, [(18, (.t (.var 21))), (17, (.t (.var 23))), (16, (.t (.var 20))), (15, (.t (.var 19))), (14, (.r 18))], [((.var 16), (.var 20)), ((.lit (1)), (.lit (1))), ((.lit (0)), (.lit (0)))], [], []⟩))))))))))))))))
theorem o_combine91_eq : treeOf ⟨Try.prog, combine91C, [addToC], [combine91I]⟩ 100000 Try.f91 = o_combine91 := by kernel_rfl
theorem combine91_of (hd : ∀ c ∈ ([addToC] : List Ctr), c.ok Try.prog) (h : ∀ ρ : Env, ρ.good → (combine91C).pre ρ → o_combine91.den ⟨Try.prog, combine91C, [addToC], [combine91I]⟩ ρ) : (combine91C).ok Try.prog :=
  ok_of_tree Try.func91 (fun a w => Try.call91 a w) hd 100000 (fun ρ hg hp => by rw [o_combine91_eq]; exact h ρ hg hp)
def o_mine68 : Out := (.need (.cmp .leq (.lit (0)) (.var 1)) (.br (.cmp .gtr (.var 1) (.lit (60)))
 (.ret 0 ⟨6, [], [], [((.bl false), (.bl false))], []⟩)
 (.fresh 6 (.pack [] 7 (.inv 0 8 ⟨1000, [(1004, (.r 7)), (1003, (.t .dnil)), (1005, (.t (.lit (0)))), (1002, (.t (.lit (0)))), (1001, (.t (.lit (0)))), (1000, (.r 6))], [((.var 1002), (.lit (0))), ((.lit (0)), (.lit (0))), ((.var 2), (.var 2)), ((.var 1), (.var 1)), ((.lit (0)), (.lit (0)))], [], []⟩ (.fresh 8 (.fresh 9 (.fresh 10 (.fresh 11 (.fresh 12 (.fresh 13 (.hyp 0 8 (.br (.cmp .lss (.var 13) (.var 1))
 (.need (.cmp .leq (.lit (0)) (.var 13)) (.need (.cmp .lss (.var 13) (.dlen (.var 3))) (.view (.vcell (.var 3) (.var 13) 1) [CK.int .u8] [12, 5] 14 (.br (.cmp .gtr (.dlen (.var 16)) (.lit (9000)))
 (.ret 0 ⟨6, [], [], [((.bl false), (.bl false))], []⟩)
 (.both (.fresh 17 (.both (.view (.vcell (.var 3) (.var 13) 1) [CK.int .u8] [12, 5] 18 (.need (.cmp .leq (.tims (.lit (1)) (.dlen (.var 20))) (.lit (140737488355328))) (.fresh 21 (.fresh 22 (.both (.both (.fresh 23 (.both (.need (.cmp .eql (.var 9) (.dlen (.var 11))) (.need (.cmp .leq (.tims (.lit (32)) (.plus (.var 9) (.lit (1)))) (.lit (140737488355328))) (.fresh 24 (.fresh 25 (.both (.pack [.cells 23 36 [(.vint .i64 (.icell (.var 3) (.var 13) 0)), (.vslice 21 (.lit (0)) (.dlen (.var 20)) (.var 22) 1)], .arr 21 5 [CK.int .u8] (.var 20) (.var 22), .abs 12 4] 26 (.back 0 8 ⟨1000, [(1004, (.r 26)), (1003, (.t (.dapp (.var 11) (.rcons (.vint .i64 (.icell (.var 3) (.var 13) 0)) (.rcons (.vslice 21 (.lit (0)) (.dlen (.var 20)) (.var 22) 1) .rnil))))), (1005, (.t (.arith .add .i64 (.var 13) (.lit (1))))), (1002, (.t (.var 25))), (1001, (.t (.plus (.var 9) (.lit (1))))), (1000, (.r 24))], [((.var 1002), (.var 25)), ((.lit (0)), (.lit (0))), ((.var 2), (.var 2)), ((.var 1), (.var 1)), ((.lit (0)), (.lit (0)))], [], []⟩)) .top))))) .top)) .top) .top))))) .top)) .top)))))
 (.need (.cmp .eql (.var 1) (.var 9)) (.ret 1 ⟨6, [(9, (.r 12)), (8, (.t (.var 11))), (7, (.t (.var 10))), (6, (.r 8))], [((.var 7), (.var 10)), ((.var 1), (.var 9)), ((.lit (0)), (.lit (0)))], [((.bl true), (.bl true))], []⟩)))))))))))))))
theorem o_mine68_eq : treeOf ⟨Try.prog, mine68C, [], [mine68I]⟩ 100000 Try.f68 = o_mine68 := by kernel_rfl
theorem mine68_of (hd : ∀ c ∈ ([] : List Ctr), c.ok Try.prog) (h : ∀ ρ : Env, ρ.good → (mine68C).pre ρ → o_mine68.den ⟨Try.prog, mine68C, [], [mine68I]⟩ ρ) : (mine68C).ok Try.prog :=
  ok_of_tree Try.func68 (fun a w => Try.call68 a w) hd 100000 (fun ρ hg hp => by rw [o_mine68_eq]; exact h ρ hg hp)
def o_solve89 : Out := (.fresh 10 (.pre 0 ⟨0, [(1, (.t (.var 1))), (3, (.t (.var 3))), (2, (.t (.var 2))), (0, (.r 0))], [((.lit (1)), (.lit (1))), ((.lit (0)), (.lit (0)))], [], []⟩ (.both (.fresh 11 (.fresh 12 (.fresh 13 (.fresh 14 (.fresh 15 (.fresh 16 (.post 0 0 ⟨0, [(1, (.t (.var 1))), (3, (.t (.var 3))), (2, (.t (.var 2))), (0, (.r 0))], [((.lit (1)), (.lit (1))), ((.lit (0)), (.lit (0)))], [], []⟩ 11 (.fresh 17 (.need (.cmp .leq (.lit (0)) (.var 2)) (.need (.cmp .leq (.tims (.lit (8)) (.var 2)) (.lit (281474976710656))) (.fresh 18 (.inv 0 19 ⟨1000, [(1001, (.t (.drep (.var 2) (.rcons (.vint .i64 (.lit (0))) .rnil)))), (1008, (.t (.var 15))), (1007, (.t (.var 13))), (1006, (.t (.var 12))), (1005, (.r 11)), (1003, (.t (.var 14))), (1002, (.t (.lit (0)))), (1000, (.r 18)), (1004, (.r 17)), (1010, (.r 10))], [((.var 2), (.var 2)), ((.var 1007), (.var 13)), ((.lit (0)), (.lit (0))), ((.var 2), (.var 2)), ((.var 3), (.var 3)), ((.lit (0)), (.lit (0))), ((.lit (0)), (.lit (0))), ((.lit (1)), (.lit (1))), ((.var 2), (.var 2)), ((.var 2), (.var 2)), ((.var 2), (.var 2)), ((.lit (0)), (.lit (0))), ((.var 2), (.var 2)), ((.var 2), (.var 2)), ((.lit (0)), (.lit (0))), ((.var 6), (.var 6)), ((.var 5), (.var 5)), ((.lit (0)), (.lit (0))), ((.var 2), (.var 2)), ((.lit (0)), (.lit (0)))], [], []⟩ (.fresh 19 (.fresh 20 (.fresh 21 (.fresh 22 (.fresh 23 (.fresh 24 (.fresh 25 (.fresh 26 (.fresh 27 (.fresh 28 (.fresh 29 (.hyp 0 19 (.br (.cmp .lss (.var 21) (.var 2))
 (.need (.cmp .leq (.lit (0)) (.var 21)) (.need (.cmp .lss (.var 21) (.var 5)) (.need (.cmp .lss (.var 21) (.dlen (.var 7))) (.need (.cmp .lss (.var 21) (.dlen (.var 20))) (.back 0 19 ⟨1000, [(1001, (.t (.dput (.var 20) (.var 21) 0 (.rcons (.vint .i64 (.icell (.var 7) (.var 21) 0)) .rnil)))), (1008, (.t (.var 27))), (1007, (.t (.var 26))), (1006, (.t (.var 25))), (1005, (.r 24)), (1003, (.t (.var 22))), (1002, (.t (.arith .add .i64 (.var 21) (.lit (1))))), (1000, (.r 19)), (1004, (.r 23)), (1010, (.r 29))], [((.var 2), (.var 2)), ((.var 1007), (.var 26)), ((.lit (0)), (.lit (0))), ((.var 2), (.var 2)), ((.var 3), (.var 3)), ((.lit (0)), (.lit (0))), ((.lit (0)), (.lit (0))), ((.lit (1)), (.lit (1))), ((.var 2), (.var 2)), ((.var 2), (.var 2)), ((.var 2), (.var 2)), ((.lit (0)), (.lit (0))), ((.var 2), (.var 2)), ((.var 2), (.var 2)), ((.lit (0)), (.lit (0))), ((.lit (0)), (.lit (0))), ((.lit (0)), (.lit (0))), ((.var 6), (.var 6)), ((.var 5), (.var 5)), ((.lit (0)), (.lit (0))), ((.var 2), (.var 2)), ((.lit (0)), (.lit (0)))], [], []⟩)))))
 (.pre 1 ⟨0, [(11, (.t (.var 2))), (10, (.t (.var 20))), (6, (.t (.var 26))), (5, (.t (.var 27))), (9, (.t (.var 2))), (8, (.t (.var 2))), (7, (.r 19)), (4, (.t (.var 26))), (3, (.t (.var 25))), (2, (.r 24)), (1, (.t (.var 2))), (0, (.t (.var 3)))], [((.lit (0)), (.lit (0))), ((.lit (0)), (.lit (0)))], [], []⟩ (.both (.fresh 30 (.fresh 31 (.fresh 32 (.fresh 33 (.post 1 0 ⟨0, [(11, (.t (.var 2))), (10, (.t (.var 20))), (6, (.t (.var 26))), (5, (.t (.var 27))), (9, (.t (.var 2))), (8, (.t (.var 2))), (7, (.r 19)), (4, (.t (.var 26))), (3, (.t (.var 25))), (2, (.r 24)), (1, (.t (.var 2))), (0, (.t (.var 3)))], [((.lit (0)), (.lit (0))), ((.lit (0)), (.lit (0)))], [], []⟩ 30 (.fresh 34 (.pre 2 ⟨0, [(8, (.t (.var 32))), (7, (.t (.var 33))), (1, (.t (.var 22))), (6, (.t (.var 32))), (5, (.t (.var 31))), (4, (.r 30)), (3, (.t (.var 2))), (2, (.t (.var 2))), (0, (.r 0))], [((.lit (1)), (.lit (1))), ((.lit (0)), (.lit (0))), ((.lit (0)), (.lit (0)))], [], []⟩ (.both (.fresh 35 (.fresh 36 (.fresh 37 (.fresh 38 (.fresh 39 (.post 2 0 ⟨0, [(8, (.t (.var 32))), (7, (.t (.var 33))), (1, (.t (.var 22))), (6, (.t (.var 32))), (5, (.t (.var 31))), (4, (.r 30)), (3, (.t (.var 2))), (2, (.t (.var 2))), (0, (.r 0))], [((.lit (1)), (.lit (1))), ((.lit (0)), (.lit (0))), ((.lit (0)), (.lit (0)))], [], []⟩ 35 (.fresh 40 (.need (.cmp .leq (.tims (.lit (24)) (.var 2)) (.lit (281474976710656))) (.fresh 41 (.pack [.cells 34 43 [(.vint .i64 (.var 2)), (.vint .i64 (.var 2)), (.vslice 30 (.lit (0)) (.var 31) (.var 32) 1)], .arr 30 5 [CK.int .u8] (.var 33) (.var 32), .arr 19 3 [CK.int .i64] (.var 20) (.var 2)] 42 (.inv 1 43 ⟨1000, [(1018, (.r 42)), (1017, (.t (.drep (.var 2) (.rcons .vnils .rnil)))), (1015, (.t (.var 39))), (1014, (.t (.var 37))), (1013, (.t (.var 36))), (1012, (.r 35)), (1008, (.t (.var 27))), (1007, (.t (.var 26))), (1006, (.t (.var 25))), (1005, (.r 24)), (1003, (.t (.var 38))), (1002, (.t (.lit (0)))), (1016, (.r 41)), (1011, (.r 40)), (1004, (.r 23)), (1010, (.r 29))], [((.var 2), (.var 2)), ((.var 1014), (.var 37)), ((.lit (0)), (.lit (0))), ((.var 2), (.var 2)), ((.var 2), (.var 2)), ((.var 1007), (.var 26)), ((.lit (0)), (.lit (0))), ((.var 2), (.var 2)), ((.var 3), (.var 3)), ((.lit (0)), (.lit (0))), ((.lit (0)), (.lit (0))), ((.lit (1)), (.lit (1))), ((.var 2), (.var 2)), ((.var 2), (.var 2)), ((.var 2), (.var 2)), ((.lit (0)), (.lit (0))), ((.var 2), (.var 2)), ((.var 2), (.var 2)), ((.lit (0)), (.lit (0))), ((.lit (0)), (.lit (0))), ((.lit (0)), (.lit (0))), ((.var 6), (.var 6)), ((.var 5), (.var 5)), ((.lit (0)), (.lit (0))), ((.var 2), (.var 2)), ((.lit (0)), (.lit (0)))], [], []⟩ (.fresh 43 (.fresh 44 (.fresh 45 (.fresh 46 (.fresh 47 (.fresh 48 (.fresh 49 (.fresh 50 (.fresh 51 (.fresh 52 (.fresh 53 (.fresh 54 (.fresh 55 (.fresh 56 (.fresh 57 (.fresh 58 (.fresh 59 (.fresh 60 (.fresh 61 (.hyp 1 43 (.br (.cmp .lss (.var 45) (.var 2))
 (.need (.cmp .lss (.lit (0)) (.var 5)) (.need (.cmp .lss (.lit (0)) (.dlen (.var 7))) (.view (.vcell (.var 7) (.lit (0)) 1) [CK.int .u8] [61, 9] 62 (.need (.cmp .leq (.tims (.lit (1)) (.dlen (.var 64))) (.lit (281474976710656))) (.fresh 65 (.need (.cmp .leq (.lit (0)) (.var 45)) (.need (.cmp .lss (.var 45) (.dlen (.var 60))) (.pre 3 ⟨0, [(6, (.t (.var 57))), (5, (.t (.var 58))), (7, (.t (.var 45))), (4, (.t (.var 57))), (3, (.t (.var 56))), (2, (.r 55)), (1, (.t (.var 2))), (0, (.t (.var 2)))], [((.lit (0)), (.lit (0)))], [], []⟩ (.both (.fresh 66 (.fresh 67 (.fresh 68 (.post 3 0 ⟨0, [(6, (.t (.var 57))), (5, (.t (.var 58))), (7, (.t (.var 45))), (4, (.t (.var 57))), (3, (.t (.var 56))), (2, (.r 55)), (1, (.t (.var 2))), (0, (.t (.var 2)))], [((.lit (0)), (.lit (0)))], [], []⟩ 66 (.need (.cmp .leq (.lit (0)) (.var 67)) (.pack [.arr 65 5 [CK.int .u8] (.drep (.dlen (.var 64)) (.rcons (.vint .u8 (.lit (0))) .rnil)) (.dlen (.var 64)), .abs 61 2] 69 (.inv 2 70 ⟨1000, [(1018, (.r 69)), (1017, (.t (.dput (.var 60) (.var 45) 0 (.rcons (.vslice 65 (.lit (0)) (.dlen (.var 64)) (.dlen (.var 64)) 1) .rnil)))), (1015, (.t (.var 58))), (1014, (.t (.var 57))), (1013, (.t (.var 56))), (1008, (.t (.var 51))), (1007, (.t (.var 50))), (1006, (.t (.var 49))), (1005, (.r 48)), (1003, (.t (.var 46))), (1019, (.t (.lit (0)))), (1022, (.t (.var 68))), (1021, (.t (.var 67))), (1020, (.t (.var 66))), (1012, (.r 55)), (1002, (.t (.var 45))), (1016, (.r 59)), (1011, (.r 54)), (1004, (.r 47)), (1010, (.r 53))], [((.var 2), (.var 2)), ((.var 1014), (.var 57)), ((.lit (0)), (.lit (0))), ((.var 2), (.var 2)), ((.var 2), (.var 2)), ((.var 1007), (.var 50)), ((.lit (0)), (.lit (0))), ((.var 2), (.var 2)), ((.var 3), (.var 3)), ((.lit (0)), (.lit (0))), ((.lit (0)), (.lit (0))), ((.lit (1)), (.lit (1))), ((.var 1021), (.var 67)), ((.var 1002), (.var 45)), ((.var 2), (.var 2)), ((.var 2), (.var 2)), ((.var 2), (.var 2)), ((.lit (0)), (.lit (0))), ((.var 2), (.var 2)), ((.var 2), (.var 2)), ((.lit (0)), (.lit (0))), ((.lit (0)), (.lit (0))), ((.lit (0)), (.lit (0))), ((.lit (0)), (.lit (0))), ((.var 6), (.var 6)), ((.var 5), (.var 5)), ((.lit (0)), (.lit (0))), ((.var 2), (.var 2)), ((.lit (0)), (.lit (0)))], [], []⟩ (.fresh 70 (.fresh 71 (.fresh 72 (.fresh 73 (.fresh 74 (.fresh 75 (.fresh 76 (.fresh 77 (.fresh 78 (.fresh 79 (.fresh 80 (.fresh 81 (.fresh 82 (.fresh 83 (.fresh 84 (.fresh 85 (.fresh 86 (.fresh 87 (.fresh 88 (.fresh 89 (.fresh 90 (.fresh 91 (.fresh 92 (.hyp 2 70 (.br (.cmp .lss (.var 89) (.var 91))
 (.need (.cmp .leq (.lit (0)) (.var 89)) (.need (.cmp .leq (.lit (0)) (.var 90)) (.need (.cmp .leq (.lit (0)) (.plus (.var 90) (.var 89))) (.need (.cmp .lss (.plus (.var 90) (.var 89)) (.dlen (.var 85))) (.need (.cmp .leq (.lit (0)) (.var 72)) (.need (.cmp .lss (.var 72) (.var 2)) (.need (.cmp .lss (.var 72) (.dlen (.var 87))) (.need (.cmp .lss (.var 89) (.var 5)) (.need (.cmp .lss (.var 89) (.dlen (.var 7))) (.both (.pre 4 ⟨0, [(6, (.r 9)), (5, (.r 88)), (1, (.t (.var 73))), (4, (.t (.icell (.var 85) (.plus (.var 90) (.var 89)) 0))), (3, (.t (.vcell (.var 7) (.var 89) 1))), (2, (.t (.vcell (.var 87) (.var 72) 0))), (0, (.r 0))], [((.lit (1)), (.lit (1))), ((.lit (0)), (.lit (0)))], [], []⟩ (.both (.fresh 93 (.fresh 94 (.post 4 0 ⟨0, [(6, (.r 9)), (5, (.r 88)), (1, (.t (.var 73))), (4, (.t (.icell (.var 85) (.plus (.var 90) (.var 89)) 0))), (3, (.t (.vcell (.var 7) (.var 89) 1))), (2, (.t (.vcell (.var 87) (.var 72) 0))), (0, (.r 0))], [((.lit (1)), (.lit (1))), ((.lit (0)), (.lit (0)))], [], []⟩ 93 (.back 2 70 ⟨1000, [(1018, (.r 94)), (1017, (.t (.var 87))), (1015, (.t (.var 85))), (1014, (.t (.var 84))), (1013, (.t (.var 83))), (1008, (.t (.var 78))), (1007, (.t (.var 77))), (1006, (.t (.var 76))), (1005, (.r 75)), (1003, (.t (.var 93))), (1019, (.t (.arith .add .i64 (.var 89) (.lit (1))))), (1022, (.t (.var 92))), (1021, (.t (.var 91))), (1020, (.t (.var 90))), (1012, (.r 82)), (1002, (.t (.var 72))), (1016, (.r 86)), (1011, (.r 81)), (1004, (.r 74)), (1010, (.r 80))], [((.var 2), (.var 2)), ((.var 1014), (.var 84)), ((.lit (0)), (.lit (0))), ((.var 2), (.var 2)), ((.var 2), (.var 2)), ((.var 1007), (.var 77)), ((.lit (0)), (.lit (0))), ((.var 2), (.var 2)), ((.var 3), (.var 3)), ((.lit (0)), (.lit (0))), ((.lit (0)), (.lit (0))), ((.lit (1)), (.lit (1))), ((.var 1021), (.var 91)), ((.var 1002), (.var 72)), ((.var 2), (.var 2)), ((.var 2), (.var 2)), ((.var 2), (.var 2)), ((.lit (0)), (.lit (0))), ((.var 2), (.var 2)), ((.var 2), (.var 2)), ((.lit (0)), (.lit (0))), ((.lit (0)), (.lit (0))), ((.lit (0)), (.lit (0))), ((.lit (0)), (.lit (0))), ((.var 6), (.var 6)), ((.var 5), (.var 5)), ((.lit (0)), (.lit (0))), ((.var 2), (.var 2)), ((.lit (0)), (.lit (0)))], [], []⟩)))) .top)) .top))))))))))
 (.back 1 43 ⟨1000, [(1018, (.r 88)), (1017, (.t (.var 87))), (1015, (.t (.var 85))), (1014, (.t (.var 84))), (1013, (.t (.var 83))), (1012, (.r 82)), (1008, (.t (.var 78))), (1007, (.t (.var 77))), (1006, (.t (.var 76))), (1005, (.r 75)), (1003, (.t (.var 73))), (1002, (.t (.arith .add .i64 (.var 72) (.lit (1))))), (1016, (.r 86)), (1011, (.r 81)), (1004, (.r 74)), (1010, (.r 80))], [((.var 2), (.var 2)), ((.var 1014), (.var 84)), ((.lit (0)), (.lit (0))), ((.var 2), (.var 2)), ((.var 2), (.var 2)), ((.var 1007), (.var 77)), ((.lit (0)), (.lit (0))), ((.var 2), (.var 2)), ((.var 3), (.var 3)), ((.lit (0)), (.lit (0))), ((.lit (0)), (.lit (0))), ((.lit (1)), (.lit (1))), ((.var 2), (.var 2)), ((.var 2), (.var 2)), ((.var 2), (.var 2)), ((.lit (0)), (.lit (0))), ((.var 2), (.var 2)), ((.var 2), (.var 2)), ((.lit (0)), (.lit (0))), ((.lit (0)), (.lit (0))), ((.lit (0)), (.lit (0))), ((.lit (0)), (.lit (0))), ((.var 6), (.var 6)), ((.var 5), (.var 5)), ((.lit (0)), (.lit (0))), ((.var 2), (.var 2)), ((.lit (0)), (.lit (0)))], [], []⟩))))))))))))))))))))))))))))))))) .top)))))))))
 (.both (.pack [.cells 53 43 [(.vint .i64 (.var 3)), (.vint .i64 (.var 2)), (.vslice 48 (.lit (0)) (.var 49) (.var 50) 1)], .cells 47 43 [(.vint .i64 (.var 3)), (.vint .i64 (.var 2)), (.vslice 48 (.lit (0)) (.var 49) (.var 50) 1)], .cells 54 43 [(.vint .i64 (.var 2)), (.vint .i64 (.var 2)), (.vslice 55 (.lit (0)) (.var 56) (.var 57) 1)], .arr 55 5 [CK.int .u8] (.var 58) (.var 57), .abs 61 2] 62 (.ret 0 ⟨10, [(17, (.t (.var 51))), (16, (.r 62)), (15, (.t (.var 60))), (14, (.t (.var 46))), (13, (.t (.var 50))), (12, (.t (.var 49))), (11, (.r 48)), (10, (.r 59))], [((.var 13), (.var 50)), ((.var 2), (.var 2)), ((.lit (1)), (.lit (1))), ((.lit (0)), (.lit (0))), ((.var 2), (.var 2)), ((.var 3), (.var 3)), ((.var 2), (.var 2)), ((.var 2), (.var 2)), ((.lit (0)), (.lit (0)))], [], []⟩)) .top))))))))))))))))))))))))))))))))) .top)))))))) .top))))))))))))))))))))))))))) .top)))
theorem o_solve89_eq : treeOf ⟨Try.prog, solve89C, [genKC, selGC, invGC, row75C, addToT], [solve89A, solve89B, solve89D 45]⟩ 100000 Try.f89 = o_solve89 := by kernel_rfl
theorem solve89_of (hd : ∀ c ∈ ([genKC, selGC, invGC, row75C, addToT] : List Ctr), c.ok Try.prog) (h : ∀ ρ : Env, ρ.good → (solve89C).pre ρ → o_solve89.den ⟨Try.prog, solve89C, [genKC, selGC, invGC, row75C, addToT], [solve89A, solve89B, solve89D 45]⟩ ρ) : (solve89C).ok Try.prog :=
  ok_of_tree Try.func89 (fun a w => Try.call89 a w) hd 100000 (fun ρ hg hp => by rw [o_solve89_eq]; exact h ρ hg hp)
end Go.Proofs

set_option linter.unusedSimpArgs false
set_option linter.unusedVariables false
namespace Go.Proofs
open Go Go.Eng
variable {k total len e e' : Int} {n i : Nat} {I I' : Nat → Int} {L L' : Nat → Nat}
theorem ok_zero : okTo total len I L 0 := fun j hj => by omega
theorem ok_step (h : okTo total len I L i) (h1 : 0 ≤ I i ∧ I i < total) (h2 : ∀ j, j < i → I j ≠ I i) (h3 : ¬ (len < 0 ∧ 8192 < L i)) (h4 : (L i : Int) = wantL len L) : okTo total len I L (i + 1) := fun j hj => by
  by_cases hji : j = i
  · subst hji
    exact ⟨h1, h2, fun h => by omega, h4⟩
  · exact h j (by omega)
theorem bad_ok (hi : i < n) (h : okTo total len I L n) (hb : badAt total len I L i e) : False := by
  obtain ⟨a, b, c, d⟩ := h i hi
  rcases hb with ⟨h1, _⟩ | ⟨_, ⟨j, h1, h2⟩, _⟩ | ⟨_, _, ⟨h1, h2⟩, _⟩ | ⟨_, _, _, h1, _⟩
  · exact h1 a
  · exact b j h1 h2
  · have := c h1; omega
  · exact h1 d
theorem bad_eq (h : badAt total len I L i e) (h' : badAt total len I L i e') : e = e' := by
  rcases h with ⟨a, b⟩ | ⟨a, ⟨j, b1, b2⟩, c⟩ | ⟨a, b, c, d⟩ | ⟨a, b, c, d, f⟩ <;> rcases h' with ⟨a', b'⟩ | ⟨a', ⟨j', b1', b2'⟩, c'⟩ | ⟨a', b', c', d'⟩ | ⟨a', b', c', d', f'⟩ <;>
    first | omega | exact (a a').elim | exact (a' a).elim | exact (b' _ b1 b2).elim | exact (b _ b1' b2').elim | exact (c' c).elim | exact (c c').elim
theorem chk_eq (h : chkP k total len n I L e) (h' : chkP k total len n I L e') : e = e' := by
  rcases h with ⟨i, hi, ho, hb⟩ | ⟨ho, hk⟩ <;> rcases h' with ⟨j, hj, ho', hb'⟩ | ⟨ho', hk'⟩
  · rcases Nat.lt_trichotomy i j with h | h | h
    · exact (bad_ok h ho' hb).elim
    · subst h; exact bad_eq hb hb'
    · exact (bad_ok h ho hb').elim
  · exact (bad_ok hi ho' hb).elim
  · exact (bad_ok hj ho hb').elim
  · omega
theorem chk_ok (h : chkP k total len n I L 0) : okTo total len I L n ∧ k ≤ (n : Int) := by
  rcases h with ⟨i, hi, ho, hb⟩ | ⟨ho, ⟨_, h⟩ | ⟨h, _⟩⟩
  · rcases hb with ⟨_, h⟩ | ⟨_, _, h⟩ | ⟨_, _, _, h⟩ | ⟨_, _, _, _, h⟩ <;> omega
  · omega
  · exact ⟨ho, h⟩
theorem want_eq (hn : 0 < n) (h : ∀ j, j < n → I j = I' j ∧ L j = L' j) : wantL len L = wantL len L' := by
  unfold wantL
  rw [(h 0 hn).2]
theorem ok_congr (h : ∀ j, j < n → I j = I' j ∧ L j = L' j) (hi : i ≤ n) (ho : okTo total len I L i) : okTo total len I' L' i := fun j hj => by
  obtain ⟨a, b, c, d⟩ := ho j hj
  obtain ⟨e1, e2⟩ := h j (by omega)
  rw [← e1, ← e2, ← want_eq (n := n) (by omega) h]
  exact ⟨a, fun j' hj' => by rw [← (h j' (by omega)).1]; exact b j' hj', c, d⟩
theorem bad_congr (h : ∀ j, j < n → I j = I' j ∧ L j = L' j) (hi : i < n) (hb : badAt total len I L i e) : badAt total len I' L' i e := by
  obtain ⟨e1, e2⟩ := h i hi
  unfold badAt at hb ⊢
  rw [← e1, ← e2, ← want_eq (n := n) (by omega) h]
  rcases hb with ⟨a, b⟩ | ⟨a, ⟨j, b1, b2⟩, c⟩ | ⟨a, b, c, d⟩ | ⟨a, b, c, d, f⟩
  · exact .inl ⟨a, b⟩
  · exact .inr (.inl ⟨a, ⟨j, b1, by rw [← (h j (by omega)).1]; exact b2⟩, c⟩)
  · exact .inr (.inr (.inl ⟨a, fun j hj => by rw [← (h j (by omega)).1]; exact b j hj, c, d⟩))
  · exact .inr (.inr (.inr ⟨a, fun j hj => by rw [← (h j (by omega)).1]; exact b j hj, c, d, f⟩))
theorem chk_congr (h : ∀ j, j < n → I j = I' j ∧ L j = L' j) (hc : chkP k total len n I L e) : chkP k total len n I' L' e := by
  rcases hc with ⟨i, hi, ho, hb⟩ | ⟨ho, hk⟩
  · exact .inl ⟨i, hi, ok_congr h (by omega) ho, bad_congr h hi hb⟩
  · exact .inr ⟨ok_congr h (Nat.le_refl _) ho, hk⟩
theorem idx_get {D : Rows'} {m j : Nat} (hj : j < m) : (idxL D m).getD j 0 = pcI D j := by
  unfold idxL
  rw [List.getD_eq_getElem?_getD, List.getElem?_map, List.getElem?_range hj]; rfl
theorem idx_len {D : Rows'} {m : Nat} : (idxL D m).length = m := by simp [idxL]
theorem nodup_map {f : Nat → Int} : ∀ {m : Nat}, (∀ j, j < m → ∀ j', j' < j → f j' ≠ f j) → ((List.range m).map f).Nodup := fun {m} h => by
  rw [List.nodup_iff_pairwise_ne, List.pairwise_map]
  refine List.Pairwise.imp_of_mem (R := fun a b => a < b) (fun {a b} ha hb hlt => ?_) List.pairwise_lt_range
  exact h b (List.mem_range.1 hb) a hlt
/-- The first k numbers of pieces that are in order. -/
theorem choose_of_ok {D : Rows'} {L : Nat → Nat} {m : Nat} (h : okTo total len (pcI D) L n) (hm : m ≤ n) : chooseOk m total.toNat (idxL D m) := by
  refine ⟨idx_len, nodup_map fun j hj j' hj' => (h j (by omega)).2.1 j' hj', fun x hx => ?_⟩
  obtain ⟨j, hj, rfl⟩ := List.mem_map.1 hx
  have := (h j (by rw [List.mem_range] at hj; omega)).1
  exact ⟨this.1, by omega⟩
end Go.Proofs

set_option linter.unusedSimpArgs false
set_option linter.unusedVariables false
set_option maxRecDepth 100000
namespace Go.Proofs
open Go Go.Eng

def o_mix77 : Out := (.need (.cmp .leq (.lit (0)) (.var 10)) (.need (.cmp .leq (.tims (.lit (1)) (.var 10)) (.lit (281474976710656))) (.fresh 12 (.inv 0 13 ⟨1000, [(1002, (.t (.drep (.var 10) (.rcons (.vint .u8 (.lit (0))) .rnil)))), (1003, (.t (.lit (0)))), (1001, (.t (.var 10))), (1000, (.r 12))], [((.var 1001), (.var 10)), ((.var 10), (.var 10)), ((.lit (0)), (.lit (0))), ((.var 10), (.var 10)), ((.var 7), (.var 7)), ((.var 6), (.var 6)), ((.lit (0)), (.lit (0))), ((.var 2), (.var 2)), ((.var 1), (.var 1)), ((.lit (0)), (.lit (0)))], [], []⟩ (.fresh 13 (.fresh 14 (.fresh 15 (.fresh 16 (.hyp 0 13 (.need (.cmp .leq (.lit (0)) (.var 1)) (.br (.cmp .lss (.var 16) (.var 1))
 (.need (.cmp .leq (.lit (0)) (.var 6)) (.br (.cmp .lss (.var 16) (.var 6))
 (.need (.cmp .leq (.lit (0)) (.var 16)) (.need (.cmp .lss (.var 16) (.dlen (.var 8))) (.br (.cmp .eql (.icell (.var 8) (.var 16) 0) (.lit (0)))
 (.back 0 13 ⟨1000, [(1002, (.t (.var 15))), (1003, (.t (.arith .add .i64 (.var 16) (.lit (1))))), (1001, (.t (.var 14))), (1000, (.r 13))], [((.var 1001), (.var 14)), ((.var 10), (.var 10)), ((.lit (0)), (.lit (0))), ((.var 10), (.var 10)), ((.var 7), (.var 7)), ((.var 6), (.var 6)), ((.lit (0)), (.lit (0))), ((.var 2), (.var 2)), ((.var 1), (.var 1)), ((.lit (0)), (.lit (0)))], [], []⟩)
 (.inv 1 17 ⟨1000, [(1002, (.t (.var 15))), (1004, (.t (.lit (0)))), (1003, (.t (.var 16))), (1001, (.t (.var 14))), (1000, (.r 13))], [((.var 1001), (.var 14)), ((.var 10), (.var 10)), ((.lit (0)), (.lit (0))), ((.var 10), (.var 10)), ((.var 7), (.var 7)), ((.var 6), (.var 6)), ((.lit (0)), (.lit (0))), ((.var 2), (.var 2)), ((.var 1), (.var 1)), ((.lit (0)), (.lit (0)))], [], []⟩ (.fresh 17 (.fresh 18 (.fresh 19 (.fresh 20 (.fresh 21 (.hyp 1 17 (.br (.cmp .lss (.var 21) (.var 10))
 (.need (.cmp .leq (.lit (0)) (.var 21)) (.need (.cmp .lss (.lit (0)) (.dlen (.var 19))) (.need (.cmp .leq (.lit (0)) (.var 20)) (.need (.cmp .lss (.var 20) (.var 6)) (.need (.cmp .lss (.var 20) (.dlen (.var 8))) (.need (.cmp .lss (.var 20) (.var 1)) (.need (.cmp .lss (.var 20) (.dlen (.var 3))) (.both (.need (.cmp .lss (.var 21) (.dlen (.var 19))) (.both (.view (.vcell (.var 3) (.var 20) 1) [CK.int .u8] [11] 22 (.need (.cmp .lss (.var 21) (.dlen (.var 24))) (.both (.pre 0 ⟨0, [(1, (.t (.icell (.var 24) (.var 21) 0))), (0, (.t (.icell (.var 8) (.var 20) 0)))], [], [], []⟩ (.both (.fresh 25 (.post 0 0 ⟨0, [(1, (.t (.icell (.var 24) (.var 21) 0))), (0, (.t (.icell (.var 8) (.var 20) 0)))], [], [], []⟩ 25 (.both (.back 1 17 ⟨1000, [(1002, (.t (.dput (.var 19) (.var 21) 0 (.rcons (.vint .u8 (.arith .xor .u8 (.icell (.var 19) (.var 21) 0) (.var 25))) .rnil)))), (1004, (.t (.arith .add .i64 (.var 21) (.lit (1))))), (1003, (.t (.var 20))), (1001, (.t (.var 18))), (1000, (.r 17))], [((.var 1001), (.var 18)), ((.var 10), (.var 10)), ((.lit (0)), (.lit (0))), ((.var 10), (.var 10)), ((.var 7), (.var 7)), ((.var 6), (.var 6)), ((.lit (0)), (.lit (0))), ((.var 2), (.var 2)), ((.var 1), (.var 1)), ((.lit (0)), (.lit (0)))], [], []⟩) .top))) .top)) .top))) .top)) (.both (.view (.vcell (.var 3) (.var 20) 1) [CK.int .u8] [11] 22 (.need (.cmp .lss (.var 21) (.dlen (.var 24))) (.both (.need (.cmp .lss (.var 21) (.dlen (.var 19))) (.both (.pre 0 ⟨0, [(1, (.t (.icell (.var 24) (.var 21) 0))), (0, (.t (.icell (.var 8) (.var 20) 0)))], [], [], []⟩ (.both (.fresh 25 (.post 0 0 ⟨0, [(1, (.t (.icell (.var 24) (.var 21) 0))), (0, (.t (.icell (.var 8) (.var 20) 0)))], [], [], []⟩ 25 (.both (.back 1 17 ⟨1000, [(1002, (.t (.dput (.var 19) (.var 21) 0 (.rcons (.vint .u8 (.arith .xor .u8 (.icell (.var 19) (.var 21) 0) (.var 25))) .rnil)))), (1004, (.t (.arith .add .i64 (.var 21) (.lit (1))))), (1003, (.t (.var 20))), (1001, (.t (.var 18))), (1000, (.r 17))], [((.var 1001), (.var 18)), ((.var 10), (.var 10)), ((.lit (0)), (.lit (0))), ((.var 10), (.var 10)), ((.var 7), (.var 7)), ((.var 6), (.var 6)), ((.lit (0)), (.lit (0))), ((.var 2), (.var 2)), ((.var 1), (.var 1)), ((.lit (0)), (.lit (0)))], [], []⟩) .top))) .top)) .top)) (.both (.pre 0 ⟨0, [(1, (.t (.icell (.var 24) (.var 21) 0))), (0, (.t (.icell (.var 8) (.var 20) 0)))], [], [], []⟩ (.both (.fresh 25 (.post 0 0 ⟨0, [(1, (.t (.icell (.var 24) (.var 21) 0))), (0, (.t (.icell (.var 8) (.var 20) 0)))], [], [], []⟩ 25 (.both (.need (.cmp .lss (.var 21) (.dlen (.var 19))) (.both (.back 1 17 ⟨1000, [(1002, (.t (.dput (.var 19) (.var 21) 0 (.rcons (.vint .u8 (.arith .xor .u8 (.icell (.var 19) (.var 21) 0) (.var 25))) .rnil)))), (1004, (.t (.arith .add .i64 (.var 21) (.lit (1))))), (1003, (.t (.var 20))), (1001, (.t (.var 18))), (1000, (.r 17))], [((.var 1001), (.var 18)), ((.var 10), (.var 10)), ((.lit (0)), (.lit (0))), ((.var 10), (.var 10)), ((.var 7), (.var 7)), ((.var 6), (.var 6)), ((.lit (0)), (.lit (0))), ((.var 2), (.var 2)), ((.var 1), (.var 1)), ((.lit (0)), (.lit (0)))], [], []⟩) .top)) .top))) .top)) .top)))) .top)))))))))
 (.back 0 13 ⟨1000, [(1002, (.t (.var 19))), (1003, (.t (.arith .add .i64 (.var 20) (.lit (1))))), (1001, (.t (.var 18))), (1000, (.r 17))], [((.var 1001), (.var 18)), ((.var 10), (.var 10)), ((.lit (0)), (.lit (0))), ((.var 10), (.var 10)), ((.var 7), (.var 7)), ((.var 6), (.var 6)), ((.lit (0)), (.lit (0))), ((.var 2), (.var 2)), ((.var 1), (.var 1)), ((.lit (0)), (.lit (0)))], [], []⟩))))))))))))
 (.ret 0 ⟨12, [(14, (.t (.var 15))), (13, (.t (.var 14))), (12, (.r 13))], [((.var 13), (.var 14)), ((.var 10), (.var 10)), ((.lit (0)), (.lit (0)))], [], []⟩)))
 (.ret 0 ⟨12, [(14, (.t (.var 15))), (13, (.t (.var 14))), (12, (.r 13))], [((.var 13), (.var 14)), ((.var 10), (.var 10)), ((.lit (0)), (.lit (0)))], [], []⟩))))))))))))
theorem o_mix77_eq : treeOf ⟨Try.prog, mix77C, [times53C], [mix77I, mix77J]⟩ 100000 Try.f77 = o_mix77 := by kernel_rfl
theorem mix77_of (hd : ∀ c ∈ ([times53C] : List Ctr), c.ok Try.prog) (h : ∀ ρ : Env, ρ.good → (mix77C).pre ρ → o_mix77.den ⟨Try.prog, mix77C, [times53C], [mix77I, mix77J]⟩ ρ) : (mix77C).ok Try.prog :=
  ok_of_tree Try.func77 (fun a w => Try.call77 a w) hd 100000 (fun ρ hg hp => by rw [o_mix77_eq]; exact h ρ hg hp)
end Go.Proofs

set_option linter.unusedSimpArgs false
set_option linter.unusedVariables false
set_option maxRecDepth 100000
namespace Go.Proofs
open Go Go.Eng

def o_choose64 : Out := (.fresh 7 (.inv 0 8 ⟨1000, [(1004, (.t .dnil)), (1003, (.t (.lit (0)))), (1002, (.t (.lit (0)))), (1001, (.t (.lit (0)))), (1000, (.r 7))], [((.var 1002), (.lit (0))), ((.lit (0)), (.lit (0))), ((.var 4), (.var 4)), ((.var 3), (.var 3)), ((.lit (0)), (.lit (0))), ((.var 1), (.var 1)), ((.var 0), (.var 0))], [], []⟩ (.fresh 8 (.fresh 9 (.fresh 10 (.fresh 11 (.fresh 12 (.hyp 0 8 (.br (.cmp .lss (.var 11) (.var 1))
 (.fresh 13 (.need (.cmp .eql (.var 9) (.dlen (.var 12))) (.need (.cmp .leq (.tims (.lit (8)) (.plus (.var 9) (.lit (1)))) (.lit (140737488355328))) (.fresh 14 (.fresh 15 (.back 0 8 ⟨1000, [(1004, (.t (.dapp (.var 12) (.rcons (.vint .i64 (.var 11)) .rnil)))), (1003, (.t (.arith .add .i64 (.var 11) (.lit (1))))), (1002, (.t (.var 15))), (1001, (.t (.plus (.var 9) (.lit (1))))), (1000, (.r 14))], [((.var 1002), (.var 15)), ((.lit (0)), (.lit (0))), ((.var 4), (.var 4)), ((.var 3), (.var 3)), ((.lit (0)), (.lit (0))), ((.var 1), (.var 1)), ((.var 0), (.var 0))], [], []⟩))))))
 (.fresh 13 (.inv 1 14 ⟨1000, [(1007, (.t (.var 12))), (1003, (.t .dnil)), (1008, (.t (.lit (0)))), (1006, (.t (.var 10))), (1005, (.t (.var 9))), (1004, (.r 8)), (1002, (.t (.lit (0)))), (1001, (.t (.lit (0)))), (1000, (.r 13))], [((.var 1006), (.var 10)), ((.var 1002), (.lit (0))), ((.lit (0)), (.lit (0))), ((.lit (0)), (.lit (0))), ((.var 4), (.var 4)), ((.var 3), (.var 3)), ((.lit (0)), (.lit (0))), ((.var 0), (.var 0))], [], []⟩ (.fresh 14 (.fresh 15 (.fresh 16 (.fresh 17 (.fresh 18 (.fresh 19 (.fresh 20 (.fresh 21 (.fresh 22 (.hyp 1 14 (.br (.cmp .lss (.var 22) (.var 0))
 (.need (.cmp .leq (.lit (0)) (.var 3)) (.br (.cmp .lss (.var 22) (.var 3))
 (.need (.cmp .leq (.lit (0)) (.var 22)) (.need (.cmp .lss (.var 22) (.dlen (.var 5))) (.need (.cmp .leq (.lit (0)) (.var 19)) (.need (.cmp .neq (.var 19) (.lit (0))) (.br (.cmp .lss (.arith .rem .i64 (.icell (.var 5) (.var 22) 0) (.var 19)) (.lit (0)))
 (.need (.cmp .leq (.lit (0)) (.arith .add .i64 (.arith .rem .i64 (.icell (.var 5) (.var 22) 0) (.var 19)) (.var 19))) (.need (.cmp .lss (.arith .add .i64 (.arith .rem .i64 (.icell (.var 5) (.var 22) 0) (.var 19)) (.var 19)) (.var 19)) (.need (.cmp .lss (.arith .add .i64 (.arith .rem .i64 (.icell (.var 5) (.var 22) 0) (.var 19)) (.var 19)) (.dlen (.var 21))) (.fresh 23 (.need (.cmp .eql (.var 15) (.dlen (.var 17))) (.need (.cmp .leq (.tims (.lit (8)) (.plus (.var 15) (.lit (1)))) (.lit (140737488355328))) (.fresh 24 (.fresh 25 (.know (.cmp .leq (.dlen (.var 21)) (.var 20)) (.need (.cmp .leq (.lit (0)) (.var 20)) (.need (.cmp .leq (.arith .add .i64 (.arith .rem .i64 (.icell (.var 5) (.var 22) 0) (.var 19)) (.var 19)) (.var 20)) (.need (.cmp .leq (.lit (0)) (.arith .add .i64 (.arith .add .i64 (.arith .rem .i64 (.icell (.var 5) (.var 22) 0) (.var 19)) (.var 19)) (.lit (1)))) (.need (.cmp .leq (.arith .add .i64 (.arith .add .i64 (.arith .rem .i64 (.icell (.var 5) (.var 22) 0) (.var 19)) (.var 19)) (.lit (1))) (.var 19)) (.need (.cmp .leq (.var 19) (.var 20)) (.both (.fresh 26 (.both (.need (.cmp .leq (.arith .add .i64 (.arith .rem .i64 (.icell (.var 5) (.var 22) 0) (.var 19)) (.var 19)) (.dlen (.var 21))) (.need (.cmp .leq (.tims (.lit (8)) (.arith .add .i64 (.arith .rem .i64 (.icell (.var 5) (.var 22) 0) (.var 19)) (.var 19))) (.lit (140737488355328))) (.fresh 27 (.fresh 28 (.both (.need (.cmp .eql (.arith .add .i64 (.arith .rem .i64 (.icell (.var 5) (.var 22) 0) (.var 19)) (.var 19)) (.dlen (.dtake (.var 21) (.arith .add .i64 (.arith .rem .i64 (.icell (.var 5) (.var 22) 0) (.var 19)) (.var 19))))) (.need (.cmp .leq (.lit (0)) (.ife (.var 20) (.arith .add .i64 (.arith .add .i64 (.arith .rem .i64 (.icell (.var 5) (.var 22) 0) (.var 19)) (.var 19)) (.lit (1))) (.lit (0)) (.arith .add .i64 (.arith .add .i64 (.arith .rem .i64 (.icell (.var 5) (.var 22) 0) (.var 19)) (.var 19)) (.lit (1))))) (.need (.cmp .leq (.lit (0)) (.minus (.var 19) (.arith .add .i64 (.arith .add .i64 (.arith .rem .i64 (.icell (.var 5) (.var 22) 0) (.var 19)) (.var 19)) (.lit (1))))) (.need (.cmp .leq (.plus (.ife (.var 20) (.arith .add .i64 (.arith .add .i64 (.arith .rem .i64 (.icell (.var 5) (.var 22) 0) (.var 19)) (.var 19)) (.lit (1))) (.lit (0)) (.arith .add .i64 (.arith .add .i64 (.arith .rem .i64 (.icell (.var 5) (.var 22) 0) (.var 19)) (.var 19)) (.lit (1)))) (.minus (.var 19) (.arith .add .i64 (.arith .add .i64 (.arith .rem .i64 (.icell (.var 5) (.var 22) 0) (.var 19)) (.var 19)) (.lit (1))))) (.dlen (.var 21))) (.need (.cmp .leq (.tims (.lit (8)) (.plus (.arith .add .i64 (.arith .rem .i64 (.icell (.var 5) (.var 22) 0) (.var 19)) (.var 19)) (.minus (.var 19) (.arith .add .i64 (.arith .add .i64 (.arith .rem .i64 (.icell (.var 5) (.var 22) 0) (.var 19)) (.var 19)) (.lit (1)))))) (.lit (140737488355328))) (.fresh 29 (.fresh 30 (.both (.back 1 14 ⟨1000, [(1007, (.t (.dapp (.dtake (.var 21) (.arith .add .i64 (.arith .rem .i64 (.icell (.var 5) (.var 22) 0) (.var 19)) (.var 19))) (.dtake (.ddrop (.var 21) (.ife (.var 20) (.arith .add .i64 (.arith .add .i64 (.arith .rem .i64 (.icell (.var 5) (.var 22) 0) (.var 19)) (.var 19)) (.lit (1))) (.lit (0)) (.arith .add .i64 (.arith .add .i64 (.arith .rem .i64 (.icell (.var 5) (.var 22) 0) (.var 19)) (.var 19)) (.lit (1))))) (.minus (.var 19) (.arith .add .i64 (.arith .add .i64 (.arith .rem .i64 (.icell (.var 5) (.var 22) 0) (.var 19)) (.var 19)) (.lit (1)))))))), (1003, (.t (.dapp (.var 17) (.rcons (.vint .i64 (.icell (.var 21) (.arith .add .i64 (.arith .rem .i64 (.icell (.var 5) (.var 22) 0) (.var 19)) (.var 19)) 0)) .rnil)))), (1008, (.t (.arith .add .i64 (.var 22) (.lit (1))))), (1006, (.t (.var 30))), (1005, (.t (.plus (.arith .add .i64 (.arith .rem .i64 (.icell (.var 5) (.var 22) 0) (.var 19)) (.var 19)) (.minus (.var 19) (.arith .add .i64 (.arith .add .i64 (.arith .rem .i64 (.icell (.var 5) (.var 22) 0) (.var 19)) (.var 19)) (.lit (1))))))), (1004, (.r 29)), (1002, (.t (.var 25))), (1001, (.t (.plus (.var 15) (.lit (1))))), (1000, (.r 24))], [((.var 1006), (.var 30)), ((.var 1002), (.var 25)), ((.lit (0)), (.lit (0))), ((.lit (0)), (.lit (0))), ((.var 4), (.var 4)), ((.var 3), (.var 3)), ((.lit (0)), (.lit (0))), ((.var 0), (.var 0))], [], []⟩) .top)))))))) .top))))) .top)) .top)))))))))))))))
 (.need (.cmp .leq (.lit (0)) (.arith .rem .i64 (.icell (.var 5) (.var 22) 0) (.var 19))) (.need (.cmp .lss (.arith .rem .i64 (.icell (.var 5) (.var 22) 0) (.var 19)) (.var 19)) (.need (.cmp .lss (.arith .rem .i64 (.icell (.var 5) (.var 22) 0) (.var 19)) (.dlen (.var 21))) (.fresh 23 (.need (.cmp .eql (.var 15) (.dlen (.var 17))) (.need (.cmp .leq (.tims (.lit (8)) (.plus (.var 15) (.lit (1)))) (.lit (140737488355328))) (.fresh 24 (.fresh 25 (.know (.cmp .leq (.dlen (.var 21)) (.var 20)) (.need (.cmp .leq (.lit (0)) (.var 20)) (.need (.cmp .leq (.arith .rem .i64 (.icell (.var 5) (.var 22) 0) (.var 19)) (.var 20)) (.need (.cmp .leq (.lit (0)) (.arith .add .i64 (.arith .rem .i64 (.icell (.var 5) (.var 22) 0) (.var 19)) (.lit (1)))) (.need (.cmp .leq (.arith .add .i64 (.arith .rem .i64 (.icell (.var 5) (.var 22) 0) (.var 19)) (.lit (1))) (.var 19)) (.need (.cmp .leq (.var 19) (.var 20)) (.both (.fresh 26 (.both (.need (.cmp .leq (.arith .rem .i64 (.icell (.var 5) (.var 22) 0) (.var 19)) (.dlen (.var 21))) (.need (.cmp .leq (.tims (.lit (8)) (.arith .rem .i64 (.icell (.var 5) (.var 22) 0) (.var 19))) (.lit (140737488355328))) (.fresh 27 (.fresh 28 (.both (.need (.cmp .eql (.arith .rem .i64 (.icell (.var 5) (.var 22) 0) (.var 19)) (.dlen (.dtake (.var 21) (.arith .rem .i64 (.icell (.var 5) (.var 22) 0) (.var 19))))) (.need (.cmp .leq (.lit (0)) (.ife (.var 20) (.arith .add .i64 (.arith .rem .i64 (.icell (.var 5) (.var 22) 0) (.var 19)) (.lit (1))) (.lit (0)) (.arith .add .i64 (.arith .rem .i64 (.icell (.var 5) (.var 22) 0) (.var 19)) (.lit (1))))) (.need (.cmp .leq (.lit (0)) (.minus (.var 19) (.arith .add .i64 (.arith .rem .i64 (.icell (.var 5) (.var 22) 0) (.var 19)) (.lit (1))))) (.need (.cmp .leq (.plus (.ife (.var 20) (.arith .add .i64 (.arith .rem .i64 (.icell (.var 5) (.var 22) 0) (.var 19)) (.lit (1))) (.lit (0)) (.arith .add .i64 (.arith .rem .i64 (.icell (.var 5) (.var 22) 0) (.var 19)) (.lit (1)))) (.minus (.var 19) (.arith .add .i64 (.arith .rem .i64 (.icell (.var 5) (.var 22) 0) (.var 19)) (.lit (1))))) (.dlen (.var 21))) (.need (.cmp .leq (.tims (.lit (8)) (.plus (.arith .rem .i64 (.icell (.var 5) (.var 22) 0) (.var 19)) (.minus (.var 19) (.arith .add .i64 (.arith .rem .i64 (.icell (.var 5) (.var 22) 0) (.var 19)) (.lit (1)))))) (.lit (140737488355328))) (.fresh 29 (.fresh 30 (.both (.back 1 14 ⟨1000, [(1007, (.t (.dapp (.dtake (.var 21) (.arith .rem .i64 (.icell (.var 5) (.var 22) 0) (.var 19))) (.dtake (.ddrop (.var 21) (.ife (.var 20) (.arith .add .i64 (.arith .rem .i64 (.icell (.var 5) (.var 22) 0) (.var 19)) (.lit (1))) (.lit (0)) (.arith .add .i64 (.arith .rem .i64 (.icell (.var 5) (.var 22) 0) (.var 19)) (.lit (1))))) (.minus (.var 19) (.arith .add .i64 (.arith .rem .i64 (.icell (.var 5) (.var 22) 0) (.var 19)) (.lit (1)))))))), (1003, (.t (.dapp (.var 17) (.rcons (.vint .i64 (.icell (.var 21) (.arith .rem .i64 (.icell (.var 5) (.var 22) 0) (.var 19)) 0)) .rnil)))), (1008, (.t (.arith .add .i64 (.var 22) (.lit (1))))), (1006, (.t (.var 30))), (1005, (.t (.plus (.arith .rem .i64 (.icell (.var 5) (.var 22) 0) (.var 19)) (.minus (.var 19) (.arith .add .i64 (.arith .rem .i64 (.icell (.var 5) (.var 22) 0) (.var 19)) (.lit (1))))))), (1004, (.r 29)), (1002, (.t (.var 25))), (1001, (.t (.plus (.var 15) (.lit (1))))), (1000, (.r 24))], [((.var 1006), (.var 30)), ((.var 1002), (.var 25)), ((.lit (0)), (.lit (0))), ((.lit (0)), (.lit (0))), ((.var 4), (.var 4)), ((.var 3), (.var 3)), ((.lit (0)), (.lit (0))), ((.var 0), (.var 0))], [], []⟩) .top)))))))) .top))))) .top)) .top))))))))))))))))))))
 (.need (.cmp .lss (.lit (0)) (.var 19)) (.need (.cmp .lss (.lit (0)) (.dlen (.var 21))) (.fresh 23 (.need (.cmp .eql (.var 15) (.dlen (.var 17))) (.need (.cmp .leq (.tims (.lit (8)) (.plus (.var 15) (.lit (1)))) (.lit (140737488355328))) (.fresh 24 (.fresh 25 (.know (.cmp .leq (.dlen (.var 21)) (.var 20)) (.need (.cmp .leq (.lit (0)) (.var 19)) (.need (.cmp .leq (.lit (0)) (.var 20)) (.need (.cmp .leq (.lit (1)) (.var 19)) (.need (.cmp .leq (.var 19) (.var 20)) (.both (.fresh 26 (.both (.need (.cmp .leq (.lit (0)) (.dlen (.var 21))) (.need (.cmp .leq (.tims (.lit (8)) (.lit (0))) (.lit (140737488355328))) (.fresh 27 (.fresh 28 (.both (.need (.cmp .eql (.lit (0)) (.dlen (.dtake (.var 21) (.lit (0))))) (.need (.cmp .leq (.lit (0)) (.ife (.var 20) (.lit (1)) (.lit (0)) (.lit (1)))) (.need (.cmp .leq (.lit (0)) (.minus (.var 19) (.lit (1)))) (.need (.cmp .leq (.plus (.ife (.var 20) (.lit (1)) (.lit (0)) (.lit (1))) (.minus (.var 19) (.lit (1)))) (.dlen (.var 21))) (.need (.cmp .leq (.tims (.lit (8)) (.minus (.var 19) (.lit (1)))) (.lit (140737488355328))) (.fresh 29 (.fresh 30 (.both (.back 1 14 ⟨1000, [(1007, (.t (.dapp (.dtake (.var 21) (.lit (0))) (.dtake (.ddrop (.var 21) (.ife (.var 20) (.lit (1)) (.lit (0)) (.lit (1)))) (.minus (.var 19) (.lit (1))))))), (1003, (.t (.dapp (.var 17) (.rcons (.vint .i64 (.icell (.var 21) (.lit (0)) 0)) .rnil)))), (1008, (.t (.arith .add .i64 (.var 22) (.lit (1))))), (1006, (.t (.var 30))), (1005, (.t (.minus (.var 19) (.lit (1))))), (1004, (.r 29)), (1002, (.t (.var 25))), (1001, (.t (.plus (.var 15) (.lit (1))))), (1000, (.r 24))], [((.var 1006), (.var 30)), ((.var 1002), (.var 25)), ((.lit (0)), (.lit (0))), ((.lit (0)), (.lit (0))), ((.var 4), (.var 4)), ((.var 3), (.var 3)), ((.lit (0)), (.lit (0))), ((.var 0), (.var 0))], [], []⟩) .top)))))))) .top))))) .top)) .top)))))))))))))))
 (.need (.cmp .eql (.var 0) (.var 15)) (.ret 0 ⟨7, [(9, (.t (.var 17))), (8, (.t (.var 16))), (7, (.r 14))], [((.var 8), (.var 16)), ((.var 0), (.var 15)), ((.lit (0)), (.lit (0)))], [], []⟩))))))))))))))))))))))))
theorem o_choose64_eq : treeOf ⟨Try.prog, choose64C, [], [choose64I, choose64J]⟩ 100000 Try.f64 = o_choose64 := by kernel_rfl
theorem choose64_of (hd : ∀ c ∈ ([] : List Ctr), c.ok Try.prog) (h : ∀ ρ : Env, ρ.good → (choose64C).pre ρ → o_choose64.den ⟨Try.prog, choose64C, [], [choose64I, choose64J]⟩ ρ) : (choose64C).ok Try.prog :=
  ok_of_tree Try.func64 (fun a w => Try.call64 a w) hd 100000 (fun ρ hg hp => by rw [o_choose64_eq]; exact h ρ hg hp)
end Go.Proofs

set_option linter.unusedSimpArgs false
set_option linter.unusedVariables false
namespace Go.Proofs
open Go Go.Eng
/-! ### Choosing -/
theorem choose_perm {o l R : List Int} {j : Nat} (hj : j < l.length) (h : (o ++ l).Perm R) : ((o ++ [l.getD j 0]) ++ (l.take j ++ l.drop (j + 1))).Perm R := by
  rw [← List.eraseIdx_eq_take_drop_succ, List.append_assoc]
  refine (List.Perm.append_left o ?_).trans h
  have e : l.getD j 0 = l[j] := by rw [List.getD_eq_getElem?_getD, List.getElem?_eq_getElem hj]; rfl
  rw [e]
  have h3 : l = l.take j ++ l[j] :: l.drop (j + 1) := by rw [← List.drop_eq_getElem_cons hj, List.take_append_drop]
  rw [List.eraseIdx_eq_take_drop_succ]
  refine List.Perm.trans ?_ (List.Perm.of_eq h3.symm)
  show (l[j] :: (l.take j ++ l.drop (j + 1))).Perm _
  exact List.perm_middle.symm
theorem range_nodup {n : Nat} : (rangeI n).Nodup := List.pairwise_map.2 (List.nodup_range.imp fun h e => h (by omega))
theorem range_mem {n : Nat} {x : Int} (h : x ∈ rangeI n) : 0 ≤ x ∧ x < n := by
  obtain ⟨m, hm, rfl⟩ := List.mem_map.1 h
  have := List.mem_range.1 hm
  omega
theorem range_snoc {n : Nat} : rangeI (n + 1) = rangeI n ++ [(n : Int)] := by simp [rangeI, List.range_succ]
theorem range_len {n : Nat} : (rangeI n).length = n := by simp [rangeI]
theorem chosen {o l : List Int} {n k : Nat} (h : (o ++ l).Perm (rangeI n)) (hk : o.length = k) : o.length = k ∧ o.Nodup ∧ ∀ x ∈ o, 0 ≤ x ∧ x < (n : Int) :=
  ⟨hk, (List.nodup_append.1 (h.nodup_iff.2 range_nodup)).1, fun x hx => range_mem (h.mem_iff.1 (List.mem_append_left _ hx))⟩
theorem genK_ok : genKC.ok Try.prog := Ctr.ok_less gen35_ok rfl rfl rfl rfl rfl (fun _ h => h.1) fun ρ ρ' ai al hp hag hal hpost => by
  match ai, hal with
  | 0, hal =>
    exfalso
    obtain rfl := Option.some.inj hal
    obtain ⟨_, h2⟩ : _ ∧ (sizesB ((ρ'.upto 5) 2).i ((ρ'.upto 5) 3).i = true → (topE ((ρ'.upto 5) 2).i.toNat ((ρ'.upto 5) 3).i.toNat).2.2 < ((ρ'.upto 5) 2).i.toNat) := hpost
    have e := upto_at (m := 5) (nv := 4) hag (by omega)
    rw [e 2 (by omega), e 3 (by omega)] at h2
    obtain ⟨k1, k2, k3⟩ := sizesB_iff.1 hp.2
    have := h2 hp.2
    rw [top_rank (by omega) (by omega)] at this
    omega
  | 1, hal => exact ⟨0, hal⟩
  | n + 2, hal => cases hal
theorem selG_ok : selGC.ok Try.prog := Ctr.ok_less sel62_ok rfl rfl rfl rfl rfl (fun _ h => h.1) fun ρ ρ' ai al hp hag hal hpost => by
  match ai, hal with
  | 0, hal =>
    exfalso
    obtain rfl := Option.some.inj hal
    have h2 : selBad ((ρ'.upto 12) 0).i ((ρ'.upto 12) 1).i ((ρ'.upto 12) 3).i ((ρ'.upto 12) 8).i ((ρ'.upto 12) 0).i (iI ((ρ'.upto 12) 10).d) := hpost
    have e := upto_at (m := 12) (nv := 12) hag (by omega)
    rw [e 0 (by omega), e 1 (by omega), e 3 (by omega), e 8 (by omega), e 10 (by omega)] at h2
    exact hp.2 h2
  | 1, hal => exact ⟨0, hal⟩
  | n + 2, hal => cases hal
theorem invG_ok : invGC.ok Try.prog := Ctr.ok_less inverse55_ok rfl rfl rfl rfl rfl (fun _ h => h.1) fun ρ ρ' ai al hp hag hal hpost => by
  match ai, hal with
  | 0, hal =>
    exfalso
    obtain rfl := Option.some.inj hal
    have e := upto_at (m := 11) (nv := 9) hag (by omega)
    obtain ⟨_, h2⟩ := hpost
    simp only [show (9 + 2 : Nat) = 11 from rfl, show inverse55C.nv = 9 from rfl] at h2
    rw [e 2 (by omega), e 3 (by omega), e 5 (by omega), e 7 (by omega)] at h2
    obtain ⟨_, p1, p2, p3⟩ := hp
    rcases h2 with ⟨h, _⟩ | ⟨_, h, _⟩ | ⟨_, _, h, _⟩
    · exact h p1
    · exact h p2
    · rw [p3] at h; omega
  | 1, hal => exact ⟨0, hal⟩
  | n + 2, hal => cases hal
theorem iI_app {a b : Rows'} : iI (a ++ b) = iI a ++ iI b := by simp [iI]
theorem choose_perm' {o d : Rows'} {j : Int} {R : List Int} (h0 : 0 ≤ j) (h1 : j < d.length) {x y : Nat} (hx : (x = j.toNat + 1 ∧ y = d.length - (j.toNat + 1)) ∨ (y = 0 ∧ d.length = j.toNat + 1)) (hp : (iI o ++ iI d).Perm R) :
    (iI (o ++ [[.int .i64 (cellI d j 0)]]) ++ iI (d.take j.toNat ++ (d.drop x).take y)).Perm R := by
  have e : (d.drop x).take y = d.drop (j.toNat + 1) := by
    rcases hx with ⟨rfl, rfl⟩ | ⟨rfl, h⟩
    · exact List.take_of_length_le (by rw [List.length_drop]; omega)
    · rw [List.take_zero, List.drop_eq_nil_of_le (by omega)]
  rw [e, iI_app, iI_app]
  have e2 : iI [[.int .i64 (cellI d j 0)]] = [(iI d).getD j.toNat 0] := by rw [iI_get h0 h1]; rfl
  have e3 : iI (d.take j.toNat) = (iI d).take j.toNat := by simp [iI, List.map_take]
  have e4 : iI (d.drop (j.toNat + 1)) = (iI d).drop (j.toNat + 1) := by simp [iI, List.map_drop]
  rw [e2, e3, e4]
  exact choose_perm (by rw [iI_len]; omega) hp
theorem choose64_ok : choose64C.ok Try.prog := choose64_of (by simp) fun ρ hg hp => by
  obtain ⟨k0, k1, k2, n0, n1, n2⟩ := hp
  simp (config := { maxSteps := 4000000 }) [o_choose64, choose64C, choose64I, choose64J]
  refine ⟨⟨by omega, rfl⟩, fun l _ i _ d _ i0 i1 hl hd => ⟨fun hi => ?_, fun hi => ?_⟩⟩
  · have hlen : (iI d.d).length = i.i.toNat := by rw [hd, range_len]
    rw [iI_len] at hlen
    rw [add64 (by omega) (by omega)]
    refine ⟨hl, by omega, ⟨by omega, by omega, hl, ?_⟩, by omega⟩
    rw [iI_app, hd, show (i.i + 1).toNat = i.i.toNat + 1 by omega, range_snoc]
    congr 1
    show [i.i] = _
    rw [Int.toNat_of_nonneg i0]
  have hin : i.i = (ρ 1).i := by omega
  refine ⟨⟨k0, hl, by rw [hd, hin]; exact List.Perm.refl _⟩, fun ol _ o _ dl _ cp _ e _ j _ j0 j1 hol hdl hoi hp => ?_⟩
  have htot := hp.length_eq
  rw [List.length_append, range_len, iI_len, iI_len] at htot
  refine ⟨fun hj => ⟨n0, fun hjn => ⟨j0, by omega, by omega, by omega, fun hneg => ?_, fun hpos => ?_⟩, fun hjn => ⟨by omega, by omega, hol, by omega, fun hcap => ?_⟩⟩, fun hj => ⟨by omega, by omega, chosen hp (by rw [iI_len]; omega)⟩⟩
  · have hlt : -dl.i < arithOf .rem .i64 (cellI (ρ 5).d j.i 0) dl.i := Int.lt_tmod_of_pos _ (by omega)
    generalize arithOf .rem .i64 (cellI (ρ 5).d j.i 0) dl.i = q at hneg hlt ⊢
    rw [add64 (x := q) (y := dl.i) (by omega) (by omega), add64 (x := q + dl.i) (y := 1) (by omega) (by omega), add64 (x := j.i) (y := 1) (by omega) (by omega)]
    refine ⟨by omega, by omega, by omega, hol, by omega, fun hcap => ?_⟩
    by_cases hc : cp.i = q + dl.i + 1
    · simp only [if_pos hc]
      exact ⟨by omega, by omega, by omega, by omega, by omega, by omega, by omega, by omega, by omega, by omega, by omega, by omega, ⟨by omega, by omega, hol, by omega, by omega, choose_perm' (by omega) (by omega) (.inr ⟨by omega, by omega⟩) hp⟩, by omega⟩
    · simp only [if_neg hc]
      exact ⟨by omega, by omega, by omega, by omega, by omega, by omega, by omega, by omega, by omega, by omega, by omega, by omega, ⟨by omega, by omega, hol, by omega, by omega, choose_perm' (by omega) (by omega) (.inl ⟨by omega, by omega⟩) hp⟩, by omega⟩
  · have hlt : arithOf .rem .i64 (cellI (ρ 5).d j.i 0) dl.i < dl.i := Int.tmod_lt_of_pos _ (by omega)
    generalize arithOf .rem .i64 (cellI (ρ 5).d j.i 0) dl.i = q at hpos hlt ⊢
    rw [add64 (x := q) (y := 1) (by omega) (by omega), add64 (x := j.i) (y := 1) (by omega) (by omega)]
    refine ⟨by omega, by omega, by omega, hol, by omega, fun hcap => ?_⟩
    by_cases hc : cp.i = q + 1
    · simp only [if_pos hc]
      exact ⟨by omega, by omega, by omega, by omega, by omega, by omega, by omega, by omega, by omega, by omega, by omega, by omega, ⟨by omega, by omega, hol, by omega, by omega, choose_perm' (by omega) (by omega) (.inr ⟨by omega, by omega⟩) hp⟩, by omega⟩
    · simp only [if_neg hc]
      exact ⟨by omega, by omega, by omega, by omega, by omega, by omega, by omega, by omega, by omega, by omega, by omega, by omega, ⟨by omega, by omega, hol, by omega, by omega, choose_perm' (by omega) (by omega) (.inl ⟨by omega, by omega⟩) hp⟩, by omega⟩
  · rw [add64 (x := j.i) (y := 1) (by omega) (by omega)]
    by_cases hc : cp.i = 1
    · have hP := choose_perm' (o := o.d) (d := e.d) (j := 0) (x := 0) (y := dl.i.toNat - 1) (by omega) (by omega) (.inr ⟨by omega, by omega⟩) hp
      simp at hP
      simp [hc]
      exact ⟨by omega, by omega, by omega, by omega, by omega, by omega, ⟨by omega, by omega, hol, by omega, by omega, hP⟩, by omega⟩
    · have hP := choose_perm' (o := o.d) (d := e.d) (j := 0) (x := 1) (y := dl.i.toNat - 1) (by omega) (by omega) (.inl ⟨by omega, by omega⟩) hp
      simp at hP
      simp [hc]
      exact ⟨by omega, by omega, by omega, by omega, by omega, by omega, by omega, ⟨by omega, by omega, hol, by omega, by omega, hP⟩, by omega⟩
end Go.Proofs

set_option linter.unusedSimpArgs false
set_option linter.unusedVariables false
namespace Go.Proofs
open Go Go.Eng
theorem enc_ok : encC.ok Try.prog := Ctr.ok_less encode31_ok rfl rfl rfl rfl rfl (fun ρ h => ⟨h.1, h.2.1, h.2.2, fun hs => by
  obtain ⟨k1, k2, k3⟩ := sizesB_iff.1 hs
  exact top_rank (by omega) (by omega)⟩) fun ρ ρ' ai al hp hag hal hpost => ⟨ai, hal⟩
theorem encG_ok : encGC.ok Try.prog := Ctr.ok_less enc_ok rfl rfl rfl rfl rfl (fun ρ h => h.1) fun ρ ρ' ai al hp hag hal hpost => by
  match ai, hal with
  | 0, hal =>
    exfalso
    obtain rfl := Option.some.inj hal
    have e := upto_at (m := 11) (nv := 9) hag (by omega)
    obtain ⟨_, h2⟩ := hpost
    simp only [show (9 + 2 : Nat) = 11 from rfl, show encC.nv = 9 from rfl] at h2
    rw [e 2 (by omega), e 3 (by omega), e 5 (by omega)] at h2
    obtain ⟨_, p1, p2⟩ := hp
    rcases h2 with ⟨h, _⟩ | ⟨_, h, _⟩
    · rw [p1] at h; cases h
    · omega
  | 1, hal => exact ⟨0, hal⟩
  | n + 2, hal => cases hal
theorem mix77_ok : mix77C.ok Try.prog := mix77_of (by simp [times53_ok]) fun ρ hg hp => by
  obtain ⟨n0, n9, l0, l1, hw, hwl, hwb, hpc, hlen⟩ := hp
  simp (config := { maxSteps := 4000000 }) [o_mix77, mix77C, mix77Of, mix77I, mix77J, times53C]
  refine ⟨l0, by omega, ⟨n0, allB_rep, by rw [bI_rep]; rfl⟩, fun u _ i _ i0 i1 hul hub hue => ⟨n0, fun hi => ⟨by omega, fun hi6 => ⟨i0, by omega, fun hz => ?_, fun hnz => ?_⟩, fun h => by omega⟩, fun hi => ?_⟩⟩
  · have hwi := bI_get (d := (ρ 8).d) (i := i.i) i0 (by omega)
    rw [add64 (by omega) (by omega)]
    refine ⟨⟨by omega, by omega, hul, hub, ?_⟩, by omega⟩
    have hml : ∀ x ∈ mixN (pcD (ρ 11).h (ρ 3).d) (bI (ρ 8).d) (ρ 10).i.toNat i.i.toNat, 0 ≤ x ∧ x < 256 := by rw [← hue]; exact allB_list hub
    rw [show (i.i + 1).toNat = i.i.toNat + 1 by omega, mixN, List.getD_eq_getElem?_getD, hwi, Option.getD_some, hz, addToL_zero hml, hue]
  · refine ⟨⟨i0, hi, hul, hub, l0, by rw [show seg (pcD (ρ 11).h (ρ 3).d i.i.toNat) 0 0 = [] by simp [seg], addToL_nil]; exact hue⟩, fun o _ j _ c _ j0 j1 hji hol hob c0 c1 hoe => ⟨fun hc => ?_, fun hc => ?_⟩⟩
    · obtain ⟨p1, _, d, hr, hb, hd⟩ := pc_atI hpc j0 j1
      have hdl := hlen j.i.toNat (by omega)
      rw [hd, bI_len] at hdl
      have hwi := bI_get (d := (ρ 8).d) (i := j.i) j0 (by omega)
      have hwB := allB_get hwb (i := j.i) j0 (by omega)
      have hdB := allB_get hb (i := c.i) c0 (by omega)
      have hz := bI_get (d := o.d) (i := c.i) c0 (by omega)
      rw [hoe, addToL_out (by right; rw [hd, seg_len (by rw [bI_len]; omega)]; omega)] at hz
      have hy := bI_get (d := d) (i := c.i) c0 (by omega)
      rw [add64 (by omega) (by omega)]
      have hput : ∀ m : U, m.i = mulF (cellI (ρ 8).d j.i 0) (cellI d c.i 0) → bI (putD o.d c.i 0 [.int .u8 (arithOf .xor .u8 (cellI o.d c.i 0) m.i)]) = addToL (mixN (pcD (ρ 11).h (ρ 3).d) (bI (ρ 8).d) (ρ 10).i.toNat j.i.toNat) 0 (seg (pcD (ρ 11).h (ρ 3).d j.i.toNat) 0 (c.i + 1).toNat) ((bI (ρ 8).d)[j.i.toNat]?.getD 0) := fun m hm => by
        have hst := addToL_step (l := mixN (pcD (ρ 11).h (ρ 3).d) (bI (ρ 8).d) (ρ 10).i.toNat j.i.toNat) (s := bI d) (off := 0) (o := 0) (i := c.i.toNat) (c := cellI (ρ 8).d j.i 0) (by rw [Nat.zero_add]; exact hz) (by rw [Nat.zero_add]; exact hy)
        rw [bI_put, hoe, hm, show (c.i + 1).toNat = c.i.toNat + 1 by omega, hd, hwi, Option.getD_some, hst, Nat.zero_add]
        rfl
      exact ⟨c0, by omega, j0, by omega, by omega, j1, p1, ⟨by omega, d, hr, by omega, ⟨hwB, hdB⟩, fun m _ hm => ⟨⟨j0, j1, hji, by rw [putD_len, hol], allB_put hob xorB_range.1 xorB_range.2, by omega, by omega, hput m hm⟩, by omega⟩⟩,
        ⟨d, hr, by omega, ⟨by omega, ⟨hwB, hdB⟩, fun m _ hm => ⟨⟨j0, j1, hji, by rw [putD_len, hol], allB_put hob xorB_range.1 xorB_range.2, by omega, by omega, hput m hm⟩, by omega⟩⟩, ⟨hwB, hdB⟩, fun m _ hm => ⟨by omega, ⟨j0, j1, hji, by rw [putD_len, hol], allB_put hob xorB_range.1 xorB_range.2, by omega, by omega, hput m hm⟩, by omega⟩⟩⟩
    · have hcl : c.i = (ρ 10).i := by omega
      rw [add64 (by omega) (by omega)]
      refine ⟨⟨by omega, by omega, hol, hob, ?_⟩, by omega⟩
      rw [hoe, hcl, show (j.i + 1).toNat = j.i.toNat + 1 by omega, mixN, List.getD_eq_getElem?_getD]
  · have : i.i = (ρ 1).i := by omega
    rw [this] at hue
    exact ⟨hul, hub, hue⟩
end Go.Proofs

set_option linter.unusedSimpArgs false
set_option linter.unusedVariables false
namespace Go.Proofs
open Go Go.Eng
set_option maxRecDepth 100000
theorem mix77R_ok : mix77R.ok Try.prog := ⟨mix77_ok.1, fun ρ w hF hO hg hd hsub hst hro hpre => mix77_ok.2 ρ w hF hO hg hd hsub hst (fun x hx => by
    rcases List.mem_cons.1 hx with rfl | hx
    · exact hro _ (List.mem_cons_self ..)
    · rcases List.mem_cons.1 hx with rfl | hx
      · exact hro _ (List.mem_cons_of_mem _ (List.mem_cons_self ..))
      · rcases List.mem_cons.1 hx with rfl | hx
        · exact hro (.abs 11 6) (List.mem_cons_of_mem _ (List.mem_cons_of_mem _ (List.mem_cons_self ..)))
        · cases hx) hpre⟩
theorem pc_atN {h : Hp} {D : Rows'} {n j : Int} (hp : pcOk h D n.toNat) (h0 : 0 ≤ j) (h1 : j < n) : j < (D.length : Int) ∧ cellI D j 0 = pcI D j.toNat ∧ ∃ d, Rd h kB (cellV D j 1) d ∧ allB d ∧ pcD h D j.toNat = bI d ∧ pcN h D j.toNat = d.length := by
  obtain ⟨a, b, d, c, e, f⟩ := pc_atI hp h0 h1
  exact ⟨a, b, d, c, e, f, by rw [pcN, f, bI_len]⟩
theorem seenI_zero {I : Nat → Int} : seenI [List.replicate 255 (.bool false)] I 0 := by
  refine ⟨⟨_, rfl, List.length_replicate ..⟩, fun x h0 h1 => ⟨fun h => ?_, fun ⟨j, hj, _⟩ => by omega⟩⟩
  exfalso
  have h2 : cellXB [List.replicate 255 (Value.bool false)] x.toNat = false := by
    unfold cellXB
    rw [List.headD_cons, List.getElem?_replicate, if_pos (by omega)]; rfl
  rw [h2] at h; cases h
theorem seenI_step {s : Rows'} {I : Nat → Int} {i : Nat} (h : seenI s I i) (h0 : 0 ≤ I i) (h1 : I i < 255) : seenI (putX s (I i).toNat (.bool true)) I (i + 1) := by
  obtain ⟨⟨row, rfl, hr⟩, h2⟩ := h
  refine ⟨⟨_, rfl, by rw [List.length_set]; exact hr⟩, fun x x0 x1 => ?_⟩
  have hc : cellXB (putX [row] (I i).toNat (.bool true)) x.toNat = if x = I i then true else cellXB [row] x.toNat := by
    unfold cellXB putX
    rw [List.headD_cons, List.headD_cons, List.getElem?_set]
    by_cases hxe : x = I i
    · rw [if_pos (by rw [hxe]), if_pos (by omega), if_pos hxe]; rfl
    · rw [if_neg (fun e => hxe (by omega)), if_neg hxe]
  rw [hc]
  by_cases hxe : x = I i
  · rw [if_pos hxe]
    exact ⟨fun _ => ⟨i, by omega, hxe.symm⟩, fun _ => rfl⟩
  · rw [if_neg hxe, h2 x x0 x1]
    constructor
    · rintro ⟨j, hj, he⟩; exact ⟨j, by omega, he⟩
    · rintro ⟨j, hj, he⟩
      refine ⟨j, ?_, he⟩
      by_cases hji : j = i
      · exact (hxe (by rw [← he, hji])).elim
      · omega
theorem check88_ok : check88C.ok Try.prog := check88_of (by simp) fun ρ hg hp => by
  obtain ⟨p1, p2, p3, hpc⟩ := hp
  simp (config := { maxSteps := 4000000 }) [o_check88, check88C, chkOf, check88I, okR]
  refine ⟨p2, ⟨p2, ok_zero, seenI_zero⟩, fun i _ s _ i0 i1 ho hs => ⟨fun hi => ?_, fun hi => ?_⟩⟩
  · obtain ⟨hl, hI, d, hr, _, _, hL⟩ := pc_atN hpc i0 hi
    have bad : ∀ e, badAt (ρ 1).i (ρ 2).i (pcI (ρ 6).d) (pcN (ρ 8).h (ρ 6).d) i.i.toNat e → chkP (ρ 0).i (ρ 1).i (ρ 2).i (ρ 4).i.toNat (pcI (ρ 6).d) (pcN (ρ 8).h (ρ 6).d) e := fun e hb => .inl ⟨i.i.toNat, by omega, ho, hb⟩
    rw [hI]
    refine ⟨i0, by omega, fun h => bad _ (.inl ⟨by omega, rfl⟩), fun h0 => ⟨fun h => bad _ (.inl ⟨by omega, rfl⟩), fun h1 => ?_⟩⟩
    have hsx := hs.2 _ h0 (by omega)
    refine ⟨h0, by omega, by obtain ⟨⟨row, e, _⟩, _⟩ := hs; rw [e]; exact Nat.one_pos, fun hx => bad _ (.inr (.inl ⟨⟨h0, h1⟩, hsx.1 hx, rfl⟩)), fun hx => ?_⟩
    have hno : ∀ j, j < i.i.toNat → pcI (ρ 6).d j ≠ pcI (ρ 6).d i.i.toNat := fun j hj he => by
      rw [hsx.2 ⟨j, hj, he⟩] at hx; cases hx
    have next : ¬ ((ρ 2).i < 0 ∧ 8192 < pcN (ρ 8).h (ρ 6).d i.i.toNat) → (pcN (ρ 8).h (ρ 6).d i.i.toNat : Int) = wantL (ρ 2).i (pcN (ρ 8).h (ρ 6).d) →
        (0 ≤ arithOf .add .i64 i.i 1 ∧ arithOf .add .i64 i.i 1 ≤ (ρ 4).i ∧ okTo (ρ 1).i (ρ 2).i (pcI (ρ 6).d) (pcN (ρ 8).h (ρ 6).d) (arithOf .add .i64 i.i 1).toNat ∧ seenI (putX s.d (pcI (ρ 6).d i.i.toNat).toNat (.bool true)) (pcI (ρ 6).d) (arithOf .add .i64 i.i 1).toNat) ∧ max ((ρ 4).i - arithOf .add .i64 i.i 1) 0 < (ρ 4).i - i.i := fun h3 h4 => by
      rw [add64 (by omega) (by omega), show (i.i + 1).toNat = i.i.toNat + 1 by omega]
      exact ⟨⟨by omega, by omega, ok_step ho ⟨h0, h1⟩ hno h3 h4, seenI_step hs h0 (by omega)⟩, by omega⟩
    refine ⟨fun hneg => ⟨d, hr, fun h => bad _ (.inr (.inr (.inl ⟨⟨h0, h1⟩, hno, ⟨hneg, by omega⟩, rfl⟩))), fun h => ?_⟩, fun hpos => ⟨d, hr, fun h => bad _ (.inr (.inr (.inr ⟨⟨h0, h1⟩, hno, fun h => by omega, ?_, rfl⟩))), fun h => next (fun h => by omega) ?_⟩⟩
    · obtain ⟨hl0, _, d0, hr0, _, _, hL0⟩ := pc_atN hpc (j := 0) (by omega) (by omega)
      have hw : wantL (ρ 2).i (pcN (ρ 8).h (ρ 6).d) = (d0.length : Int) := by
        unfold wantL
        rw [if_pos hneg]
        exact congrArg Nat.cast hL0
      refine ⟨by omega, by omega, d0, hr0, d, hr, fun hne => bad _ (.inr (.inr (.inr ⟨⟨h0, h1⟩, hno, fun h => by omega, ?_, rfl⟩))), fun he => next (fun h => by omega) ?_⟩
      · rw [hw, hL]; exact hne
      · rw [hw, hL]; exact he
    · unfold wantL
      rw [if_neg (by omega), hL]; exact h
    · unfold wantL
      rw [if_neg (by omega), hL]; exact h
  · rw [show i.i.toNat = (ρ 4).i.toNat by omega] at ho
    exact ⟨fun h => .inr ⟨ho, .inl ⟨by omega, rfl⟩⟩, fun h => .inr ⟨ho, .inr ⟨by omega, rfl⟩⟩⟩
theorem check93_ok : check93C.ok Try.prog := check93_of (by simp) fun ρ hg hp => by
  obtain ⟨p1, p2, p3, hpc⟩ := hp
  simp (config := { maxSteps := 4000000 }) [o_check93, check93C, chkOf, check93I, check93J, okR]
  refine ⟨⟨p2, ok_zero⟩, fun i _ i0 i1 ho => ⟨p2, fun hi => ?_, fun hi => ?_⟩⟩
  · obtain ⟨hl, hI, d, hr, _, _, hL⟩ := pc_atN hpc i0 hi
    have bad : ∀ e, badAt (ρ 1).i (ρ 2).i (pcI (ρ 6).d) (pcN (ρ 8).h (ρ 6).d) i.i.toNat e → chkP (ρ 0).i (ρ 1).i (ρ 2).i (ρ 4).i.toNat (pcI (ρ 6).d) (pcN (ρ 8).h (ρ 6).d) e := fun e hb => .inl ⟨i.i.toNat, by omega, ho, hb⟩
    rw [hI]
    refine ⟨i0, by omega, fun h => bad _ (.inl ⟨by omega, rfl⟩), fun h0 => ⟨fun h => bad _ (.inl ⟨by omega, rfl⟩), fun h1 => ⟨⟨i0, hi, ho, ⟨h0, h1⟩, i0, fun j hj => by omega⟩, ?_⟩⟩⟩
    intro i' _ x _ v _ j _ i0' i1' hii _ x0 x1 hx hv j0 j1 hno
    have hie : i'.i = i.i := hii
    rw [hie] at hx hv i1' j1
    rw [hie]
    rw [hI] at hx
    refine ⟨fun hj => ?_, fun hj => ?_⟩
    · obtain ⟨hlj, hIj, _⟩ := pc_atN hpc j0 (by omega)
      rw [hIj]
      refine ⟨j0, by omega, by omega, fun h => bad _ (.inr (.inl ⟨⟨h0, h1⟩, ⟨j.i.toNat, by omega, by rw [h, hx]⟩, rfl⟩)), fun h => ⟨⟨i0, hi, rfl, ho, ⟨x0, x1⟩, by rw [hI]; exact hx, hv, ?_⟩, ?_⟩⟩
      · rw [add64 (by omega) (by omega)]
        exact ⟨by omega, by omega, fun j' hj' => by
          by_cases he : j' = j.i.toNat
          · rw [he]; exact h
          · exact hno j' (by omega)⟩
      · rw [add64 (by omega) (by omega)]; omega
    · rw [hv]
      have hno : ∀ j', j' < i.i.toNat → pcI (ρ 6).d j' ≠ pcI (ρ 6).d i.i.toNat := fun j' hj' => by rw [← hx]; exact hno j' (by omega)
      have next : ¬ ((ρ 2).i < 0 ∧ 8192 < pcN (ρ 8).h (ρ 6).d i.i.toNat) → (pcN (ρ 8).h (ρ 6).d i.i.toNat : Int) = wantL (ρ 2).i (pcN (ρ 8).h (ρ 6).d) →
          (0 ≤ arithOf .add .i64 i.i 1 ∧ arithOf .add .i64 i.i 1 ≤ (ρ 4).i ∧ okTo (ρ 1).i (ρ 2).i (pcI (ρ 6).d) (pcN (ρ 8).h (ρ 6).d) (arithOf .add .i64 i.i 1).toNat) ∧ max ((ρ 4).i - arithOf .add .i64 i.i 1) 0 < (ρ 4).i - i.i := fun h3 h4 => by
        rw [add64 (by omega) (by omega), show (i.i + 1).toNat = i.i.toNat + 1 by omega]
        exact ⟨⟨by omega, by omega, ok_step ho ⟨h0, h1⟩ hno h3 h4⟩, by omega⟩
      obtain ⟨hl0, _, d0, hr0, _, _, hL0⟩ := pc_atN hpc (j := 0) (by omega) (by omega)
      have hwn : (ρ 2).i < 0 → wantL (ρ 2).i (pcN (ρ 8).h (ρ 6).d) = (d0.length : Int) := fun hneg => by
        unfold wantL
        rw [if_pos hneg]
        exact congrArg Nat.cast hL0
      have hwp : 0 ≤ (ρ 2).i → wantL (ρ 2).i (pcN (ρ 8).h (ρ 6).d) = (ρ 2).i := fun hpos => by
        unfold wantL
        rw [if_neg (by omega)]
      have b10 : ¬ ((ρ 2).i < 0 ∧ 8192 < pcN (ρ 8).h (ρ 6).d i.i.toNat) → (pcN (ρ 8).h (ρ 6).d i.i.toNat : Int) ≠ wantL (ρ 2).i (pcN (ρ 8).h (ρ 6).d) → chkP (ρ 0).i (ρ 1).i (ρ 2).i (ρ 4).i.toNat (pcI (ρ 6).d) (pcN (ρ 8).h (ρ 6).d) 10 := fun h3 h4 => bad _ (.inr (.inr (.inr ⟨⟨h0, h1⟩, hno, h3, h4, rfl⟩)))
      have e10 : ∀ hneg : (ρ 2).i < 0, (d.length : Int) ≤ 8192 → ¬ (d.length : Int) = (d0.length : Int) → chkP (ρ 0).i (ρ 1).i (ρ 2).i (ρ 4).i.toNat (pcI (ρ 6).d) (pcN (ρ 8).h (ρ 6).d) 10 := fun hneg h8 hne => b10 (fun h => by omega) (by rw [hwn hneg, hL]; exact hne)
      have n10 : ∀ hneg : (ρ 2).i < 0, (d.length : Int) ≤ 8192 → (d.length : Int) = (d0.length : Int) → _ := fun hneg h8 he => next (fun h => by omega) (by rw [hwn hneg, hL]; exact he)
      have p10 : ∀ hpos : 0 ≤ (ρ 2).i, ¬ (d.length : Int) = (ρ 2).i → chkP (ρ 0).i (ρ 1).i (ρ 2).i (ρ 4).i.toNat (pcI (ρ 6).d) (pcN (ρ 8).h (ρ 6).d) 10 := fun hpos hne => b10 (fun h => by omega) (by rw [hwp hpos, hL]; exact hne)
      have q10 : ∀ hpos : 0 ≤ (ρ 2).i, (d.length : Int) = (ρ 2).i → _ := fun hpos he => next (fun h => by omega) (by rw [hwp hpos, hL]; exact he)
      refine ⟨fun hneg => ⟨d, hr, fun h => bad _ (.inr (.inr (.inl ⟨⟨h0, h1⟩, hno, ⟨hneg, by omega⟩, rfl⟩))), fun h8 => ⟨fun h => by omega, fun _ => ⟨by omega, by omega, ⟨d, hr, d0, hr0, e10 hneg h8, n10 hneg h8⟩, d0, hr0, d, hr, e10 hneg h8, n10 hneg h8⟩⟩⟩, fun hpos => ⟨fun _ => ⟨d, hr, p10 hpos, q10 hpos⟩, fun h => by omega⟩⟩
  · rw [show i.i.toNat = (ρ 4).i.toNat by omega] at ho
    exact ⟨fun h => .inr ⟨ho, .inl ⟨by omega, rfl⟩⟩, fun h => .inr ⟨ho, .inr ⟨by omega, rfl⟩⟩⟩
theorem rdB_L {h : Hp} {v : Value} (hb : rdB h v) : ∃ d, Rd h kB v d ∧ allB d ∧ rdL h v = bI d := by
  obtain ⟨d, hr, hB⟩ := hb
  exact ⟨d, hr, hB, rdL_eq hr⟩
theorem tabTo_zero {h : Hp} {v : Value} {g : List Int → List Int} (hg : ∀ l, bytesL l → g l = l) : tabTo h h v g := fun vs n M i ht hi hv =>
  tab_congr ht (fun _ _ => rfl) fun j hj => by
    by_cases hji : j = i
    · rw [if_pos hji, hji, hg _ (tab_bytes ht hi)]
    · rw [if_neg hji]
theorem tabTo_at {h h' : Hp} {v : Value} {g : List Int → List Int} {l : Nat} (ht : tabHas h v l) (hT : tabTo h h' v g) (hg : ∀ x, (g x).length = x.length) : ∃ d, Rd h' kB v d ∧ allB d ∧ l ≤ d.length := by
  obtain ⟨vs, n, M, i, ht, hi, hv, hl⟩ := ht
  obtain ⟨d, hr, hd, hB⟩ := tab_at (hT vs n M i ht hi hv) hi
  rw [hv] at hr
  rw [if_pos rfl] at hd
  exact ⟨d, hr, hB, by rw [← bI_len, hd, hg]; exact hl⟩
/-- A byte more of what is added. -/
theorem tabTo_step {h h1 h2 : Hp} {v : Value} {s : List Int} {w : Int} {k : Nat} {r : Option Addr} {d : Rows'} {cap : Nat} {x : Int} (hT : tabTo h h1 v fun l => addToL l 0 (seg s 0 k) w) (hP : Put h1 h2 r kB d k [.int .u8 x]) (hv : v = .slice (addrOf r 0) d.length cap) (hr : Rd h1 kB v d) (hk : k < d.length) (hks : k < s.length)
    (hx : x = xorB (cellI d k 0) (mulF w (s.getD k 0))) : tabTo h h2 v fun l => addToL l 0 (seg s 0 (k + 1)) w := fun vs n M i ht hi hvi => by
  have t := hT vs n M i ht hi hvi
  have hri : Rd h1 kB (vs i) d := by rw [hvi]; exact hr
  obtain ⟨d', r', e', _⟩ := tab_at t hi
  obtain rfl := Rd_unique r' hri
  rw [if_pos rfl] at e'
  have hlen : d'.length = (M i).length := by rw [← bI_len, e', addToL_len]
  have hc : (M i)[0 + k]? = some (cellI d' k 0) := by
    have h0 := bI_get (d := d') (i := (k : Int)) (by omega) (by omega)
    rw [Int.toNat_natCast, e', addToL_out (by right; rw [seg_len (by omega)]; omega)] at h0
    rw [Nat.zero_add]; exact h0
  have hy : s[0 + k]? = some (s.getD k 0) := by
    rw [Nat.zero_add, List.getElem?_eq_getElem hks, List.getD_eq_getElem?_getD, List.getElem?_eq_getElem hks]; rfl
  refine tab_congr (tab_put t hi hP (by rw [hvi]; exact hv) hri hk (by rw [hx]; exact xorB_range)) (fun _ _ => rfl) fun j _ => ?_
  by_cases hji : j = i
  · subst hji
    rw [if_pos rfl, if_pos rfl, if_pos rfl, hx]
    show addToL (M j) 0 (seg s 0 (k + 1)) w = (addToL (M j) 0 (seg s 0 k) w).set k _
    have h := addToL_step (i := k) (c := w) hc hy
    simp only [Nat.zero_add] at h
    exact h
  · rw [if_neg hji, if_neg hji, if_neg hji]
theorem addToT_ok : addToT.ok Try.prog := addToT_of (by simp [mul_ok]) fun ρ hg hp => by
  obtain ⟨hf, hb, hl, hh, hw⟩ := hp
  simp (config := { maxSteps := 4000000 }) [o_addToT, addToT, addToTI, mulC]
  obtain ⟨s, hrs, hsB, hs⟩ := rdB_L hb
  have hsl : (rdL (ρ 6).h (ρ 3).v).length = s.length := by rw [hs, bI_len]
  refine ⟨fun h0 => ⟨hf, tabTo_zero fun l hl => by rw [h0]; exact addToL_zero hl⟩, fun h0 => ⟨s, hrs, fun u0 _ u1 _ e0 _ => ⟨⟨hf, by rw [hsl], e0.symm, tabTo_zero fun l hl => by rw [show seg (rdL (ρ 6).h (ρ 3).v) 0 0 = [] by simp [seg], addToL_nil]⟩, ?_⟩⟩⟩
  intro i _ f _ n _ H _ v _ hf i0 i1 hn hv hT
  have hlen : ∀ (k : Nat) (x : List Int), (addToL x 0 (seg (rdL (ρ 6).h (ρ 3).v) 0 k) (ρ 4).i).length = x.length := fun k x => addToL_len
  refine ⟨fun hi => ⟨s, by rw [hv]; exact hrs, fun u2 _ u3 _ e1 _ => ⟨i0, by omega, ?_⟩⟩, fun hi => ⟨hf, ?_⟩⟩
  · obtain ⟨d, hrd, hdB, hld⟩ := tabTo_at hh hT (hlen _)
    have hsb := allB_get hsB i0 (by omega : i.i < s.length)
    rw [add64 (x := i.i) (by omega) (by omega)]
    have hsi : (rdL (ρ 6).h (ρ 3).v).getD i.i.toNat 0 = cellI s i.i 0 := by rw [hs, cell_getD i0 (by omega)]
    have core : ∀ (a b m H' : U), (ρ 2).v = .slice (addrOf a.r 0) d.length b.i.toNat → m.i = mulF (ρ 4).i (cellI s i.i 0) → Put H.h H'.h a.r kB d i.i.toNat [.int .u8 (arithOf .xor .u8 (cellI d i.i 0) m.i)] →
        tabTo (ρ 5).h H'.h (ρ 2).v fun l => addToL l 0 (seg (rdL (ρ 6).h (ρ 3).v) 0 (i.i + 1).toNat) (ρ 4).i := fun a b m H' ea hm hP => by
      rw [show (i.i + 1).toNat = i.i.toNat + 1 by omega]
      exact tabTo_step hT hP ea hrd (by omega) (by omega) (by rw [hsi, hm, Int.toNat_of_nonneg i0]; rfl)
    refine ⟨⟨d, hrd, fun a _ b _ ea _ => ⟨by omega, ⟨hf, hw.1, hw.2, hsb⟩, fun m _ f' _ hf' hm H' _ hP => ?_⟩⟩, ⟨hf, hw.1, hw.2, hsb⟩, fun m _ f' _ hf' hm => ⟨d, hrd, fun a _ b _ ea _ => ⟨by omega, fun H' _ hP => ?_⟩⟩⟩
    all_goals exact ⟨⟨hf', by omega, by omega, hn, by rw [← e1]; exact hv, core a b m H' ea hm hP⟩, by omega⟩
  · have : seg (rdL (ρ 6).h (ρ 3).v) 0 i.i.toNat = rdL (ρ 6).h (ρ 3).v := by
      unfold seg
      rw [List.drop_zero, List.take_of_length_le (by omega)]
    rw [this] at hT
    exact hT
theorem equal90_ok : equal90C.ok Try.prog := equal90_of (by simp) fun ρ hg hp => by
  obtain ⟨h1, h2, hB, hb⟩ := hp
  simp (config := { maxSteps := 4000000 }) [o_equal90, equal90C, equal90I]
  obtain ⟨s, hrs, hsB, hs⟩ := rdB_L hb
  have hsl : (rdL (ρ 6).h (ρ 5).v).length = s.length := by rw [hs, bI_len]
  refine ⟨by omega, s, hrs, fun hne he => ?_, fun he => ⟨⟨by omega, by omega, fun j hj => by omega⟩, fun i _ i0 i1 _ hp => ⟨fun hi => ⟨i0, by omega, s, hrs, by omega, fun hne he => ?_, fun hee => ⟨⟨?_, ?_⟩, ?_⟩⟩, fun hi => ?_⟩⟩⟩
  · have := congrArg List.length he
    rw [bI_len, hsl] at this; omega
  · rw [hs] at he
    refine hne ?_
    rw [← cell_getD i0 (by omega), he, cell_getD i0 (by omega)]
  · rw [add64 (by omega) (by omega)]; omega
  · rw [add64 (by omega) (by omega)]
    refine ⟨by omega, by omega, fun j hj => ?_⟩
    by_cases hji : j = i.i.toNat
    · subst hji
      have e1 := cell_getD (d := (ρ 3).d) i0 (by omega)
      have e2 := cell_getD (d := s) i0 (by omega)
      rw [← hs] at e2
      exact e1.trans (hee.trans e2.symm)
    · exact hp j (by omega)
  · rw [add64 (by omega) (by omega)]; omega
  · exact list_ext_getD (by rw [bI_len]; omega) fun j hj => hp j (by rw [bI_len] at hj; omega)
end Go.Proofs

set_option linter.unusedSimpArgs false
set_option linter.unusedVariables false
namespace Go.Proofs
open Go Go.Eng
/-- A polynomial times (x - r). -/
def byF (r : F) (y : Nat → F) : Nat → F := fun l => (if l = 0 then 0 else y (l - 1)) ^^^ fmul r (y l)
theorem pval_one {y : Nat → F} {x : F} : pval 1 y x = y 0 := by
  show (0 : F) ^^^ fmul (y 0) (fpow x 0) = y 0
  rw [zero_xor', show fpow x 0 = 1 from rfl, fmul_one]
theorem byF_val' {r x : F} {y : Nat → F} : ∀ n, pval (n + 1) (byF r y) x = fmul (x ^^^ r) (pval n y x) ^^^ fmul (fmul r (y n)) (fpow x n)
  | 0 => by rw [pval_one, byF, if_pos rfl, zero_xor', show pval 0 y x = 0 from rfl, fmul_zero, zero_xor', show fpow x 0 = 1 from rfl, fmul_one]
  | n + 1 => by
    have ih := byF_val' (r := r) (x := x) (y := y) n
    have h1 : pval (n + 2) (byF r y) x = pval (n + 1) (byF r y) x ^^^ fmul (byF r y (n + 1)) (fpow x (n + 1)) := rfl
    have h2 : pval (n + 1) y x = pval n y x ^^^ fmul (y n) (fpow x n) := rfl
    rw [h1, ih, h2, byF, if_neg (by omega), Nat.add_sub_cancel, xor_fmul, fmul_xor (x := y n)]
    have h3 : fmul (x ^^^ r) (fmul (y n) (fpow x n)) = fmul (y n) (fpow x (n + 1)) ^^^ fmul (fmul r (y n)) (fpow x n) := by
      rw [fmul_xor, fpow]
      congr 1
      · rw [← fmul_assoc, fmul_comm (x := x), fmul_assoc]
        try rw [fmul_comm (x := x)]
      · rw [fmul_assoc]
    rw [h3]
    generalize fmul (x ^^^ r) (pval n y x) = a
    generalize fmul (fmul r (y n)) (fpow x n) = b
    generalize fmul (y n) (fpow x (n + 1)) = c
    generalize fmul (fmul r (y (n + 1))) (fpow x (n + 1)) = d
    rw [BitVec.xor_assoc, BitVec.xor_assoc, BitVec.xor_assoc]
    congr 1
    rw [← BitVec.xor_assoc, ← BitVec.xor_assoc, BitVec.xor_comm b c]
theorem byF_val {r x : F} {y : Nat → F} {n : Nat} (h : y n = 0) : pval (n + 1) (byF r y) x = fmul (x ^^^ r) (pval n y x) := by
  rw [byF_val', h, fmul_zero, zero_fmul, xor_zero']
theorem pval_more {y : Nat → F} {x : F} {n : Nat} (h : ∀ l, n ≤ l → y l = 0) : ∀ m, pval (n + m) y x = pval n y x
  | 0 => rfl
  | m + 1 => by
    show pval (n + m) y x ^^^ fmul (y (n + m)) (fpow x (n + m)) = _
    rw [pval_more h m, h _ (by omega), zero_fmul, xor_zero']
theorem pval_xor {y z : Nat → F} {x : F} {n : Nat} : pval n (fun l => y l ^^^ z l) x = pval n y x ^^^ pval n z x := by
  simp only [pval]
  rw [← fsum_xor]
  exact fsum_congr fun j _ => fmul_xor
theorem pval_mul {y : Nat → F} {x c : F} {n : Nat} : pval n (fun l => fmul c (y l)) x = fmul c (pval n y x) := by
  simp only [pval]
  rw [← fsum_mul]
  exact fsum_congr fun j _ => fmul_assoc
/-- The divided difference of the points s .. s + j. -/
def ddF (xs ys : Nat → F) : Nat → Nat → F
  | s, 0 => ys s
  | s, j + 1 => fmul (ddF xs ys (s + 1) j ^^^ ddF xs ys s j) (finv (xs (s + j + 1) ^^^ xs s))
/-- The polynomial through the points s .. s + j; its highest coefficient. -/
theorem newton_top {n : Nat} {xs ys : Nat → F} (hd : distinct n xs) : ∀ j s, s + j < n → ∃ y : Nat → F, (∀ l, j < l → y l = 0) ∧ (∀ i, i ≤ j → pval (j + 1) y (xs (s + i)) = ys (s + i)) ∧ y j = ddF xs ys s j
  | 0, s, hs => ⟨fun l => if l = 0 then ys s else 0, fun l hl => if_neg (by omega), fun i hi => by
      obtain rfl : i = 0 := by omega
      rw [pval_one, if_pos rfl, Nat.add_zero], rfl⟩
  | j + 1, s, hs => by
    obtain ⟨y1, a1, b1, c1⟩ := newton_top (ys := ys) hd j (s + 1) (by omega)
    obtain ⟨y0, a0, b0, c0⟩ := newton_top (ys := ys) hd j s (by omega)
    have hne : xs (s + j + 1) ^^^ xs s ≠ 0 := fun h => by have := hd _ _ (by omega) (by omega) (xor_eq_zero.1 h); omega
    let w : F := finv (xs (s + j + 1) ^^^ xs s)
    have hv : ∀ x, pval (j + 2) (fun l => fmul w (byF (xs s) y1 l ^^^ byF (xs (s + j + 1)) y0 l)) x = fmul w (fmul (x ^^^ xs s) (pval (j + 1) y1 x) ^^^ fmul (x ^^^ xs (s + j + 1)) (pval (j + 1) y0 x)) := fun x => by
      rw [pval_mul, pval_xor, byF_val (a1 _ (by omega)), byF_val (a0 _ (by omega))]
    refine ⟨fun l => fmul w (byF (xs s) y1 l ^^^ byF (xs (s + j + 1)) y0 l), fun l hl => ?_, fun i hi => ?_, ?_⟩
    · simp only [byF]
      rw [if_neg (by omega), if_neg (by omega), a1 l (by omega), a0 l (by omega), a1 (l - 1) (by omega), a0 (l - 1) (by omega), fmul_zero, fmul_zero, xor_self', fmul_zero]
    · rw [hv]
      have hw : ∀ z, fmul w (fmul (xs (s + j + 1) ^^^ xs s) z) = z := fun z => by
        rw [← fmul_assoc, fmul_comm (x := w), fmul_finv hne, one_fmul]
      by_cases h0 : i = 0
      · subst h0
        have hb0 := b0 0 (by omega)
        simp only [Nat.add_zero] at hb0
        rw [Nat.add_zero, xor_self', zero_fmul, zero_xor', hb0, BitVec.xor_comm, hw]
      · by_cases h1 : i = j + 1
        · subst h1
          have := b1 j (Nat.le_refl _)
          rw [show s + 1 + j = s + (j + 1) by omega] at this
          rw [this, ← Nat.add_assoc, xor_self', zero_fmul, xor_zero', hw]
        · have h2 := b1 (i - 1) (by omega)
          rw [show s + 1 + (i - 1) = s + i by omega] at h2
          rw [h2, b0 i (by omega), ← fmul_xor, xor_swap, xor_self', zero_xor', BitVec.xor_comm, hw]
    · simp only [byF]
      rw [if_neg (by omega), if_neg (by omega), a1 (j + 1) (by omega), a0 (j + 1) (by omega), fmul_zero, fmul_zero, xor_zero', xor_zero', Nat.add_sub_cancel, c1, c0, fmul_comm]
      rfl
/-- The product of (x - x_u), u < m. -/
def monF (xs : Nat → F) : Nat → Nat → F
  | 0 => fun l => if l = 0 then 1 else 0
  | m + 1 => byF (xs m) (monF xs m)
theorem mon_facts {xs : Nat → F} : ∀ m, (∀ l, m < l → monF xs m l = 0) ∧ monF xs m m = 1 ∧ ∀ x, pval (m + 1) (monF xs m) x = fprod (fun u => x ^^^ xs u) m
  | 0 => ⟨fun l hl => if_neg (by omega), rfl, fun x => by rw [pval_one]; rfl⟩
  | m + 1 => by
    obtain ⟨h1, h2, h3⟩ := mon_facts (xs := xs) m
    refine ⟨fun l hl => ?_, ?_, fun x => ?_⟩
    · simp only [monF, byF]
      rw [if_neg (by omega), h1 (l - 1) (by omega), h1 l (by omega), fmul_zero, xor_zero']
    · simp only [monF, byF]
      rw [if_neg (by omega), Nat.add_sub_cancel, h2, h1 (m + 1) (by omega), fmul_zero, xor_zero']
    · rw [monF, byF_val (h1 _ (by omega)), h3, fprod, fmul_comm]
/-- Newton's formula at x. -/
def newtF (xs ys : Nat → F) (x : F) (m : Nat) : F := fsum (fun t => fmul (ddF xs ys 0 t) (fprod (fun u => x ^^^ xs u) t)) m
theorem newton_at {n : Nat} {xs ys : Nat → F} (hd : distinct n xs) : ∀ m, m < n → ∃ y : Nat → F, (∀ l, m < l → y l = 0) ∧ (∀ i, i ≤ m → pval (m + 1) y (xs i) = ys i) ∧ ∀ x, pval (m + 1) y x = newtF xs ys x (m + 1)
  | 0, hm => by
    obtain ⟨y, a, b, c⟩ := newton_top (ys := ys) hd 0 0 (by omega)
    refine ⟨y, a, fun i hi => by have := b i hi; simp only [Nat.zero_add] at this ⊢; exact this, fun x => ?_⟩
    rw [pval_one, c]
    show ys 0 = (0 : F) ^^^ fmul (ys 0) 1
    rw [zero_xor', fmul_one]
  | m + 1, hm => by
    obtain ⟨y0, a0, b0, c0⟩ := newton_at (ys := ys) hd m (by omega)
    obtain ⟨y, a, b, c⟩ := newton_top (ys := ys) hd (m + 1) 0 (by omega)
    obtain ⟨p1, p2, p3⟩ := mon_facts (xs := xs) (m + 1)
    refine ⟨y, a, fun i hi => by have := b i hi; rwa [Nat.zero_add] at this, fun x => ?_⟩
    let R : Nat → F := fun l => (y l ^^^ y0 l) ^^^ fmul (ddF xs ys 0 (m + 1)) (monF xs (m + 1) l)
    have hRv : ∀ x, pval (m + 2) R x = (pval (m + 2) y x ^^^ pval (m + 1) y0 x) ^^^ fmul (ddF xs ys 0 (m + 1)) (fprod (fun u => x ^^^ xs u) (m + 1)) := fun x => by
      rw [← p3, ← pval_mul, ← pval_more (y := y0) (n := m + 1) (fun l hl => a0 l (by omega)) 1, ← pval_xor, ← pval_xor]
    have hRt : R (m + 1) = 0 := by
      simp only [R]
      rw [c, a0 (m + 1) (by omega), p2, fmul_one, xor_zero', xor_self']
    have hRe : ∀ x, pval (m + 1) R x = pval (m + 2) R x := fun x => by
      show _ = pval (m + 1) R x ^^^ fmul (R (m + 1)) (fpow x (m + 1))
      rw [hRt, zero_fmul, xor_zero']
    have h0 := pval_roots (n := m + 1) (y := R) (xs := xs) (fun i j hi hj => hd i j (by omega) (by omega)) fun i hi => by
      rw [hRe, hRv, b0 i (by omega)]
      have := b i (by omega)
      rw [Nat.zero_add] at this
      rw [this, xor_self', zero_xor', fprod_zero (k := i) hi xor_self', fmul_zero]
    have hz : pval (m + 1) R x = 0 := fsum_zero fun l hl => by rw [h0 l hl, zero_fmul]
    rw [hRe, hRv] at hz
    have h1 : newtF xs ys x (m + 2) = newtF xs ys x (m + 1) ^^^ fmul (ddF xs ys 0 (m + 1)) (fprod (fun u => x ^^^ xs u) (m + 1)) := rfl
    rw [h1, ← c0 x]
    have h2 := xor_eq_zero.1 hz
    rw [← h2, ← BitVec.xor_assoc, BitVec.xor_comm, ← BitVec.xor_assoc, xor_self', zero_xor']
end Go.Proofs

set_option linter.unusedSimpArgs false
set_option linter.unusedVariables false
namespace Go.Proofs
open Go Go.Eng
/-- Sums of rows, byte by byte. -/
theorem mixN_facts {f : Nat → List Int} {w : List Int} {l : Nat} (hw : bytesL w) : ∀ k, (∀ j, j < k → (f j).length = l ∧ bytesL (f j)) → (mixN f w l k).length = l ∧ bytesL (mixN f w l k) ∧ ∀ c, c < l → toF ((mixN f w l k).getD c 0) = fsum (fun m => fmul (toF (w.getD m 0)) (toF ((f m).getD c 0))) k
  | 0, _ => ⟨by simp [mixN], fun x hx => by rw [mixN] at hx; rw [List.eq_of_mem_replicate hx]; exact ⟨by omega, by omega⟩, fun c hc => by
      rw [mixN, List.getD_eq_getElem?_getD, List.getElem?_replicate, if_pos hc]; rfl⟩
  | k + 1, h => by
    obtain ⟨h1, h2, h3⟩ := mixN_facts hw k fun j hj => h j (by omega)
    obtain ⟨f1, f2⟩ := h k (by omega)
    have hsl : seg (f k) 0 l = f k := by rw [← f1]; simp [seg]
    rw [mixN, hsl]
    refine ⟨by rw [addToL_len, h1], addToL_bytes h2, fun c hc => ?_⟩
    rw [List.getD_eq_getElem?_getD, addToL_get, List.getElem?_eq_getElem (by omega), Option.map_some, Option.getD_some, if_pos ⟨by omega, by omega⟩, Nat.sub_zero, toF_xorB, toF_mulF (bytesL_get hw _) (bytesL_get f2 _), fsum, ← h3 c hc, List.getD_eq_getElem?_getD (l := mixN f w l k), List.getElem?_eq_getElem (by omega), Option.getD_some]
theorem mix_eq {f g : Nat → List Int} {w v : List Int} {l k : Nat} (hw : bytesL w) (hv : bytesL v) (hf : ∀ j, j < k → (f j).length = l ∧ bytesL (f j)) (hg : ∀ j, j < k → (g j).length = l ∧ bytesL (g j))
    (h : ∀ c, c < l → fsum (fun m => fmul (toF (w.getD m 0)) (toF ((f m).getD c 0))) k = fsum (fun m => fmul (toF (v.getD m 0)) (toF ((g m).getD c 0))) k) : mixN f w l k = mixN g v l k := by
  obtain ⟨a1, a2, a3⟩ := mixN_facts hw k hf
  obtain ⟨b1, b2, b3⟩ := mixN_facts hv k hg
  refine list_ext_getD (by omega) fun c hc => toF_inj (bytesL_get a2 c) (bytesL_get b2 c) ?_
  rw [a3 c (by omega), b3 c (by omega), h c (by omega)]
theorem mix_congr {f g : Nat → List Int} {w : List Int} {l : Nat} : ∀ k, (∀ j, j < k → f j = g j) → mixN f w l k = mixN g w l k
  | 0, _ => rfl
  | k + 1, h => by rw [mixN, mixN, mix_congr k fun j hj => h j (by omega), h k (by omega)]
/-- Lagrange's weights of chosen points. -/
theorem wgt_at {rs : List Int} {x : Int} {j : Nat} (hj : j < rs.length) : toF ((wgtL rs x).getD j 0) = lagF rs.length (fun m => toF (rs.getD m 0)) (toF x) j := by
  unfold wgtL
  rw [List.getD_eq_getElem?_getD, List.getElem?_map, List.getElem?_range hj, Option.map_some, Option.getD_some, toF_ofF]
theorem wgt_byte {xs : List Int} {x : Int} : bytesL (wgtL xs x) := fun y hy => by
  obtain ⟨m, _, rfl⟩ := List.mem_map.1 hy
  exact ofF_isB
variable {k total : Nat} {rs : List Int}
theorem chosen_xs (hc : chooseOk k total rs) {j : Nat} (hj : j < k) : toF (rs.getD j 0) = xsF (rs.getD j 0).toNat := by
  have h1 := hc.1
  have h2 := hc.2.2 (rs.getD j 0) (getD_mem (by omega))
  unfold xsF
  rw [Int.toNat_of_nonneg h2.1]
theorem chosen_dist (hc : chooseOk k total rs) (ht : total ≤ 255) : distinct k fun m => toF (rs.getD m 0) := fun i j hi hj he => by
  refine chosen_distinct hc ht i j hi hj ?_
  simp only [chosen_xs hc hi, chosen_xs hc hj] at he
  exact he
/-- A polynomial with given values. -/
theorem poly_thru {xs v : Nat → F} (h1 : 1 ≤ k) (hd : distinct k xs) : ∃ y : Nat → F, (∀ i, i < k → pval k y (xs i) = v i) ∧ ∀ x, pval k y x = fsum (fun j => fmul (lagF k xs x j) (v j)) k := by
  obtain ⟨y, _, hy, _⟩ := newton_at (ys := v) hd (k - 1) (by omega)
  rw [show k - 1 + 1 = k by omega] at hy
  refine ⟨y, fun i hi => hy i (by omega), fun x => ?_⟩
  rw [lagrange hd]
  exact fsum_congr fun j hj => by rw [hy j (by omega)]
theorem inv_apply (hc : chooseOk k total rs) (h1 : 1 ≤ k) (hk : k ≤ total) (ht : total ≤ 255) (v : Nat → F) {i : Nat} (hi : i < k) :
    fsum (fun j => fmul (matL k (invL total k rs) i j) (v j)) k = fsum (fun j => fmul (lagF k (fun m => toF (rs.getD m 0)) (xsF i) j) (v j)) k := by
  obtain ⟨y, hy, hL⟩ := poly_thru (v := v) h1 (chosen_dist hc ht)
  obtain ⟨g1, g2, _, g4⟩ := gen_facts h1 hk ht
  have hlen := sel_len' hc g1
  have hr := rows_gen hc h1 hk ht
  obtain ⟨t2, he⟩ := inv_ech hlen (sel_bytes g2)
  rw [hr] at he
  obtain ⟨m1, _⟩ := inv_mul he
  have hS : ∀ j, j < k → ∀ m, m < k → matL k (selL (genL k total) k rs) j m = lagF k xsF (toF (rs.getD j 0)) m := fun j hj m hm => by
    have hrj := hc.2.2 (rs.getD j 0) (getD_mem (by rw [hc.1]; exact hj))
    unfold matL
    rw [sel_get g1 hc.2.2 (by rw [hc.1]; exact hj) hm, chosen_xs hc hj, ← g4 (rs.getD j 0).toNat m (by omega) hm]
    rfl
  have hx : distinct k xsF := xs_distinct (by omega)
  rw [← hL]
  calc fsum (fun j => fmul (matL k (invL total k rs) i j) (v j)) k
      = fsum (fun j => fsum (fun m => fmul (fmul (matL k (invL total k rs) i j) (matL k (selL (genL k total) k rs) j m)) (pval k y (xsF m))) k) k := by
        refine fsum_congr fun j hj => ?_
        rw [← hy j hj, lagrange hx (x := toF (rs.getD j 0)), ← fsum_mul]
        exact fsum_congr fun m hm => by rw [hS j hj m hm, fmul_assoc]
    _ = fsum (fun m => fmul (del m i) (pval k y (xsF m))) k := by
        rw [fsum_swap]
        refine fsum_congr fun m hm => ?_
        rw [fsum_mul', del_symm]
        congr 1
        exact m1 i m hi hm
    _ = pval k y (xsF i) := fsum_del (f := fun m => pval k y (xsF m)) hi
theorem seg_row {m : List Int} {i j : Nat} (hj : j < k) : toF ((seg m (i * k) k).getD j 0) = matL k m i j := by
  unfold matL seg
  rw [List.getD_eq_getElem?_getD, List.getElem?_take, if_pos hj, List.getElem?_drop, List.getD_eq_getElem?_getD]
theorem inv_bytes (hc : chooseOk k total rs) (h1 : 1 ≤ k) (hk : k ≤ total) (ht : total ≤ 255) : (invL total k rs).length = k * k ∧ bytesL (invL total k rs) := by
  obtain ⟨g1, g2, _, _⟩ := gen_facts h1 hk ht
  obtain ⟨t2, _⟩ := inv_ech (sel_len' hc g1) (sel_bytes g2)
  exact ⟨t2.lb, t2.bb⟩
theorem seg_byte {l : List Int} {o n : Nat} (h : bytesL l) : bytesL (seg l o n) := fun x hx => h x (List.mem_of_mem_drop (List.mem_of_mem_take hx))
/-- A column: the polynomials' values at its number. -/
theorem col_val (hc : chooseOk k total rs) (h1 : 1 ≤ k) (hk : k ≤ total) (ht : total ≤ 255) {f : Nat → List Int} {l i : Nat} (hf : ∀ j, j < k → (f j).length = l ∧ bytesL (f j)) (hi : i < k) :
    mixN f (seg (invL total k rs) (i * k) k) l k = mixN f (wgtL rs (i : Int)) l k := by
  refine mix_eq (seg_byte (inv_bytes hc h1 hk ht).2) wgt_byte hf hf fun c hcl => ?_
  rw [fsum_congr fun m hm => by rw [seg_row hm], inv_apply hc h1 hk ht _ hi]
  exact fsum_congr fun m hm => by rw [wgt_at (by rw [hc.1]; exact hm), hc.1]; rfl
/-- The columns weighed by the generator's row: the polynomials' values at the row's number. -/
theorem comb_val (hc : chooseOk k total rs) (h1 : 1 ≤ k) (hk : k ≤ total) (ht : total ≤ 255) {f : Nat → List Int} {l r : Nat} (hf : ∀ j, j < k → (f j).length = l ∧ bytesL (f j)) (hr : r < total) {g : Nat → List Int} (hg : ∀ i, i < k → g i = mixN f (wgtL rs (i : Int)) l k) :
    mixN g (seg (genL k total) (r * k) k) l k = mixN f (wgtL rs (r : Int)) l k := by
  obtain ⟨g1, g2, _, g4⟩ := gen_facts h1 hk ht
  have hgf : ∀ i, i < k → (g i).length = l ∧ bytesL (g i) := fun i hi => by
    obtain ⟨a, b, _⟩ := mixN_facts (wgt_byte (xs := rs) (x := (i : Int))) k hf
    rw [hg i hi]; exact ⟨a, b⟩
  refine mix_eq (seg_byte g2) wgt_byte hgf hf fun c hcl => ?_
  obtain ⟨y, hy, hL⟩ := poly_thru (v := fun j => toF ((f j).getD c 0)) h1 (chosen_dist hc ht)
  have hx : distinct k xsF := xs_distinct (by omega)
  have hv : ∀ x : Int, fsum (fun m => fmul (toF ((wgtL rs x).getD m 0)) (toF ((f m).getD c 0))) k = pval k y (toF x) := fun x => by
    rw [hL]
    exact fsum_congr fun m hm => by rw [wgt_at (by rw [hc.1]; exact hm), hc.1]
  rw [hv, show toF ((r : Nat) : Int) = xsF r from rfl, lagrange hx]
  refine fsum_congr fun m hm => ?_
  rw [seg_row hm, g4 r m hr hm, hg m hm, (mixN_facts wgt_byte k hf).2.2 c hcl, hv]
  rfl
end Go.Proofs

set_option linter.unusedSimpArgs false
set_option linter.unusedVariables false
namespace Go.Proofs
open Go Go.Eng
set_option maxRecDepth 100000
theorem idx_snoc {D : Rows'} {m : Nat} : idxL D (m + 1) = idxL D m ++ [pcI D m] := by
  unfold idxL
  rw [List.range_succ, List.map_append]; rfl
theorem bI_snoc {d : Rows'} {k : IntKind} {x : Int} : bI (d ++ [[.int k x]]) = bI d ++ [x] := by simp [bI, rowI, vInt]
theorem wrapB_in {x : Int} (h0 : 0 ≤ x) (h1 : x < 256) : IntKind.u8.wrap x = x := by
  simp [IntKind.wrap, IntKind.bits, IntKind.signed]; omega
theorem idx_dist {D : Rows'} {m : Nat} (h : ∀ j, j < m → 0 ≤ pcI D j ∧ pcI D j < 256) (hn : (idxL D m).Nodup) : distL (idxL D m) := by
  unfold distL
  rw [idx_len]
  intro i j hi hj he
  simp only at he
  rw [idx_get hi, idx_get hj] at he
  have he' : pcI D i = pcI D j := toF_inj (h i hi) (h j hj) he
  have h1 : (idxL D m)[i]'(by rw [idx_len]; exact hi) = (idxL D m)[j]'(by rw [idx_len]; exact hj) := by simp [idxL, he']
  exact (List.getElem_inj (h₀ := by rw [idx_len]; exact hi) (h₁ := by rw [idx_len]; exact hj) hn).1 h1
set_option maxHeartbeats 1000000 in
theorem value94_ok : value94C.ok Try.prog := value94_of (by simp [wgt78_ok, mix77R_ok]) fun ρ hg hp => by
  obtain ⟨k1, k2, kn, ncap, n2, hpc, hI, hnd, l9, hL, hx⟩ := hp
  simp (config := { maxSteps := 4000000 }) [o_value94, value94C, value94I, wgt78C, mix77R, mix77Of]
  refine ⟨⟨by omega, (fun r hr => by cases hr), rfl⟩, fun n _ d _ i _ i0 i1 hn hB hd => ⟨fun hi => ?_, fun hi => ?_⟩⟩
  · obtain ⟨hl, hIi, _⟩ := pc_atN hpc i0 hi
    have hb := hI i.i.toNat (by omega)
    rw [hIi, wrapB_in hb.1 hb.2, add64 (by omega) (by omega), show (i.i + 1).toNat = i.i.toNat + 1 by omega]
    have hdl : d.d.length = i.i.toNat := by rw [← bI_len, hd, idx_len]
    refine ⟨i0, by omega, hl, hn, by omega, ⟨by omega, by omega, hn, fun row hrow => ?_, by rw [bI_snoc, hd, idx_snoc]⟩, by omega⟩
    rcases List.mem_append.1 hrow with h | h
    · exact hB row h
    · rw [List.mem_singleton.1 h]
      simp only [rowI, List.getElem?_cons_zero, Option.getD_some, vInt]
      exact hb
  · have hik : i.i = (ρ 0).i := by omega
    rw [hik] at hd
    have hdl : d.d.length = (ρ 0).i.toNat := by rw [← bI_len, hd, idx_len]
    obtain ⟨hl0, _, e, hre, heB, _, heL⟩ := pc_atN hpc (j := 0) (by omega) (by omega)
    have hel : e.length = pcN (ρ 7).h (ρ 4).d 0 := heL.symm
    have hdist : distL (bI d.d) := by rw [hd]; exact idx_dist hI hnd
    have hwl : ∀ (cw : U) (wd : U), bI wd.d = wgtL (bI d.d) (ρ 6).i → wd.d.length = (ρ 0).i.toNat ∧ allB wd.d := fun cw wd hw => by
      refine ⟨by rw [← bI_len, hw, wgtL_len, bI_len, hdl], allB_of (by rw [hw]; exact wgt_byte)⟩
    have hside : 0 ≤ n.i ∧ n.i ≤ 256 ∧ n.i = (d.d.length : Int) ∧ allB d.d ∧ byteP (ρ 6).i ∧ distL (bI d.d) := ⟨by omega, by omega, hn, hB, hx, hdist⟩
    have hmix : ∀ (cw wd : U), bI wd.d = wgtL (bI d.d) (ρ 6).i → 0 ≤ (ρ 0).i ∧ (ρ 0).i ≤ 255 ∧ (e.length : Int) ≤ 9000 ∧ n.i = (ρ 0).i ∧ n.i ≤ (wd.d.length : Int) ∧ allB wd.d ∧ pcOk (ρ 7).h (ρ 4).d (ρ 0).i.toNat ∧ ∀ j : Nat, (j : Int) < (ρ 0).i → e.length ≤ (pcD (ρ 7).h (ρ 4).d j).length := fun cw wd hw => by
      obtain ⟨h1, h2⟩ := hwl cw wd hw
      refine ⟨by omega, k2, by omega, by omega, by omega, h2, hpc, fun j hj => ?_⟩
      have := hL j (by omega)
      unfold pcN at this hel
      omega
    have hfin : ∀ (wd u : U), bI wd.d = wgtL (bI d.d) (ρ 6).i → u.d.length = e.length → allB u.d → bI u.d = mixN (pcD (ρ 7).h (ρ 4).d) (bI wd.d) e.length (ρ 0).i.toNat →
        (e.length : Int) = (u.d.length : Int) ∧ u.d.length = pcN (ρ 7).h (ρ 4).d 0 ∧ allB u.d ∧ bI u.d = mixN (pcD (ρ 7).h (ρ 4).d) (wgtL (idxL (ρ 4).d (ρ 0).i.toNat) (ρ 6).i) (pcN (ρ 7).h (ρ 4).d 0) (ρ 0).i.toNat := fun wd u hw hul huB hue => by
      refine ⟨by omega, by omega, huB, ?_⟩
      rw [hue, hw, hd, hel]
    refine ⟨by omega, by omega, by omega, by omega, by omega, by omega, ⟨hside, fun cw _ wd _ _ hw => ⟨e, hre, hmix cw wd hw, fun u _ a b c => hfin wd u hw a b c⟩⟩, e, hre, hside, fun cw _ wd _ _ hw => ⟨hmix cw wd hw, fun u _ a b c => hfin wd u hw a b c⟩⟩
theorem col_at {h : Hp} {D : Rows'} {j : Int} (hb : rdB h (tvs D j.toNat)) (j0 : 0 ≤ j) : ∃ d, Rd h kB (cellV D j 0) d ∧ allB d ∧ colF h D j.toNat = bI d := by
  rw [tvs_at j0] at hb
  obtain ⟨d, hr, hB, he⟩ := rdB_L hb
  exact ⟨d, hr, hB, by rw [colF, tvs_at j0, he]⟩
set_option maxHeartbeats 1000000 in
theorem combine91_ok : combine91C.ok Try.prog := combine91_of (by simp [addTo_ok]) fun ρ hg hp => by
  obtain ⟨hf, k1, k2, kd, hr1, h9, w0, w1, wB, hcol, l9⟩ := hp
  simp (config := { maxSteps := 4000000 }) [o_combine91, combine91C, combine91I, addToC]
  obtain ⟨d0, hrd0, hdB0, hc0⟩ := col_at (hcol 0 (by omega)).1 (j := 0) (by omega)
  have hc0 : colF (ρ 13).h (ρ 5).d 0 = bI d0 := hc0
  have hl0 : (colF (ρ 13).h (ρ 5).d 0).length = d0.length := by rw [hc0, bI_len]
  refine ⟨by omega, by omega, d0, hrd0, by omega, by omega, ⟨hf, by omega, hl0.symm, allB_rep, by rw [bI_rep, hl0]; rfl⟩, fun n _ d _ i _ f _ hf' i0 i1 hn hdl hB hd => ⟨fun hi => ?_, fun hi => ⟨hf', hn, hdl, hB, by rw [hd, show i.i.toNat = (ρ 3).i.toNat by omega]⟩⟩⟩
  obtain ⟨e, hre, heB, hce⟩ := col_at (hcol i.i.toNat (by omega)).1 (j := i.i) i0
  have hle : e.length = d0.length := by
    have := (hcol i.i.toNat (by omega)).2
    rw [hce, bI_len, hl0] at this
    exact this
  have hcb := allB_get wB (i := (ρ 8).i + i.i) (by omega) (by omega)
  rw [add64 (x := i.i) (by omega) (by omega)]
  refine ⟨i0, w0, by omega, by omega, by omega, by omega, e, hre, ⟨hf', ⟨by omega, by omega, by omega, by unfold Go.Eng.big; omega⟩, ⟨by omega, by omega, by omega, by unfold Go.Eng.big; omega⟩, by omega, hB, heB, hcb⟩, fun f2 _ d2 _ hf2 hl2 hB2 he2 => ⟨⟨hf2, by omega, by omega, by omega, by omega, hB2, ?_⟩, by omega⟩⟩
  have hsg : seg (bI e) 0 e.length = seg (colF (ρ 13).h (ρ 5).d i.i.toNat) 0 (colF (ρ 13).h (ρ 5).d 0).length := by rw [hce, hl0, hle]
  have hwt : (seg (bI (ρ 11).d) (ρ 8).i.toNat (ρ 3).i.toNat).getD i.i.toNat 0 = cellI (ρ 11).d ((ρ 8).i + i.i) 0 := by
    rw [seg_getD (by omega), ← cell_getD (by omega) (by omega), Int.toNat_add w0 i0]
  rw [he2, hd, hsg, show (i.i + 1).toNat = i.i.toNat + 1 by omega, mixN, hwt]
theorem pcOk_snoc {h H : Hp} {D : Rows'} {n : Nat} {i : Int} {v : Value} {d : Rows'} (hp : pcOk h D n) (hl : Hp.le h H) (hn : D.length = n) (hr : Rd H kB v d) (hB : allB d) : pcOk H (D ++ [[.int .i64 i, v]]) (n + 1) := fun j hj => by
  by_cases hjn : j < n
  · obtain ⟨i', v', d', e, r, b⟩ := hp j hjn
    exact ⟨i', v', d', by rw [List.getElem?_append_left (by omega)]; exact e, Rd_mono r hl, b⟩
  · obtain rfl : j = n := by omega
    exact ⟨i, v, d, by rw [← hn, List.getElem?_append_right (Nat.le_refl _), Nat.sub_self]; rfl, hr, hB⟩
theorem pc_left {h H : Hp} {D r : Rows'} {n j : Nat} (hp : pcOk h D n) (hl : Hp.le h H) (hn : D.length = n) (hj : j < n) : pcI (D ++ r) j = pcI D j ∧ pcD H (D ++ r) j = pcD h D j := by
  obtain ⟨v, d, e, hv, hr, _, hd⟩ := pc_at hp hj
  have e1 : (D ++ r)[j]? = D[j]? := List.getElem?_append_left (by omega)
  refine ⟨by simp only [pcI, cellI, cellV, Int.toNat_natCast, e1], ?_⟩
  rw [hd, pcD, show cellV (D ++ r) (j : Int) 1 = v by rw [← hv]; simp only [cellV, Int.toNat_natCast, e1], rdL_eq (Rd_mono hr hl)]
theorem pc_last {H : Hp} {D : Rows'} {n : Nat} {i : Int} {v : Value} {d : Rows'} (hn : D.length = n) (hr : Rd H kB v d) : pcI (D ++ [[.int .i64 i, v]]) n = i ∧ pcD H (D ++ [[.int .i64 i, v]]) n = bI d := by
  have e1 : (D ++ [[Value.int .i64 i, v]])[n]? = some [.int .i64 i, v] := by
    rw [← hn, List.getElem?_append_right (Nat.le_refl _), Nat.sub_self]; rfl
  refine ⟨by simp [pcI, cellI, cellV, e1, vInt], ?_⟩
  rw [pcD, show cellV (D ++ [[Value.int .i64 i, v]]) (n : Int) 1 = v by simp [cellV, e1], rdL_eq hr]
set_option maxHeartbeats 1000000 in
theorem mine68_ok : mine68C.ok Try.prog := mine68_of (by simp) fun ρ hg hp => by
  obtain ⟨n0, n1, hpc⟩ := hp
  simp (config := { maxSteps := 4000000 }) [o_mine68, mine68C, mine68I]
  refine ⟨n0, fun h => .inl h, fun h60 u _ H0 _ _ => ⟨⟨n0, h60, fun j hj => by omega, fun j hj => by omega, ⟨rfl, fun j hj => by omega⟩⟩, ?_⟩⟩
  intro r _ n _ cp _ D _ H _ i _ i0 i1 _ hn hnD hL hpD hs
  refine ⟨fun hi => ?_, fun hi => ⟨by omega, h60, fun j hj => hL j (by omega), by omega, by rw [show (ρ 1).i.toNat = i.i.toNat by omega]; exact hpD, by rw [show (ρ 1).i.toNat = i.i.toNat by omega]; exact hs⟩⟩
  obtain ⟨hl, hI, d, hrd, hdB, hdD, hdN⟩ := pc_atN hpc i0 hi
  refine ⟨i0, hl, d, .inr hrd, fun u0 _ u1 _ => ⟨fun h9 => .inr ⟨i.i.toNat, by omega, by omega⟩, fun h9 u8 _ => ⟨d, .inr hrd, fun u2 _ u3 _ => ⟨by omega, fun r9 _ c10 _ u11 _ => ⟨hnD, by omega, fun u12 _ u13 _ H' _ hst => ?_⟩⟩⟩⟩⟩
  obtain ⟨ha, la, da⟩ := star_mem hst (List.mem_cons_of_mem _ (List.mem_cons_self ..))
  have hr := arr_Rd (n := d.length) (k := c10.i.toNat) da la (by simp) (by simp)
  have hr : Rd H'.h kB (.slice (addrOf r9.r 0) d.length c10.i.toNat) d := by simpa [kB] using hr
  obtain ⟨hb, lb, db⟩ := star_mem_abs hst (n := 12) (t := 4) (by simp)
  have hle : Hp.le H.h H'.h := Hp.le_trans (by simpa using db) lb
  have hDn : D.d.length = i.i.toNat := by omega
  rw [add64 (by omega) (by omega), show (i.i + 1).toNat = i.i.toNat + 1 by omega]
  refine ⟨⟨by omega, by omega, h60, by omega, hnD, fun j hj => ?_, pcOk_snoc hpD hle hDn hr hdB, ⟨rfl, fun j hj => ?_⟩⟩, by omega⟩
  · by_cases hji : j = i.i.toNat
    · rw [hji]; omega
    · exact hL j (by omega)
  · by_cases hji : j < i.i.toNat
    · obtain ⟨e1, e2⟩ := pc_left (r := [[.int .i64 (cellI (ρ 3).d i.i 0), .slice (addrOf r9.r 0) d.length c10.i.toNat]]) hpD hle hDn hji
      obtain ⟨_, hs⟩ := hs
      rw [e1, e2]
      exact hs j hji
    · obtain rfl : j = i.i.toNat := by omega
      obtain ⟨e1, e2⟩ := pc_last (i := cellI (ρ 3).d i.i 0) hDn hr
      rw [e1, e2]
      exact ⟨hI, hdD.symm⟩
end Go.Proofs
