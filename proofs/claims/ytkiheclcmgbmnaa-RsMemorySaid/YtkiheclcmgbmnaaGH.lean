import Derived.Test.YtkiheclcmgbmnaaYS
import Derived.Test.YtkiheclcmgbmnaaProg
import Derived.Test.YtkiheclcmgbmnaaGG
import Derived.Test.YtkiheclcmgbmnaaW7
set_option linter.unusedSimpArgs false
set_option linter.unusedVariables false
set_option maxRecDepth 100000
namespace Go.Proofs
open Go Go.Eng

def o_same33 : Out := (.need (.cmp .leq (.lit (0)) (.var 1)) (.need (.cmp .leq (.lit (0)) (.var 6)) (.br (.cmp .neq (.var 1) (.var 6))
 (.ret 0 ⟨12, [(12, (.t (.bl false)))], [], [], []⟩)
 (.inv 0 12 ⟨1000, [(1000, (.t (.lit (0))))], [((.var 7), (.var 7)), ((.var 6), (.var 6)), ((.lit (0)), (.lit (0))), ((.var 2), (.var 2)), ((.var 1), (.var 1)), ((.lit (0)), (.lit (0)))], [], []⟩ (.fresh 12 (.hyp 0 12 (.br (.cmp .lss (.var 12) (.var 1))
 (.need (.cmp .leq (.lit (0)) (.var 12)) (.need (.cmp .lss (.var 12) (.dlen (.var 3))) (.need (.cmp .lss (.var 12) (.var 6)) (.need (.cmp .lss (.var 12) (.dlen (.var 8))) (.br (.cmp .neq (.icell (.var 3) (.var 12) 0) (.icell (.var 8) (.var 12) 0))
 (.ret 0 ⟨12, [(12, (.t (.bl false)))], [], [], []⟩)
 (.both (.view (.vcell (.var 3) (.var 12) 1) [CK.int .u8] [10] 13 (.both (.view (.vcell (.var 8) (.var 12) 1) [CK.int .u8] [10] 16 (.br (.not (.c2 .veq (.c1 .vbytes (.var 15)) (.c1 .vbytes (.var 18))))
 (.ret 0 ⟨12, [(12, (.t (.bl false)))], [], [], []⟩)
 (.back 0 12 ⟨1000, [(1000, (.t (.arith .add .i64 (.var 12) (.lit (1)))))], [((.var 7), (.var 7)), ((.var 6), (.var 6)), ((.lit (0)), (.lit (0))), ((.var 2), (.var 2)), ((.var 1), (.var 1)), ((.lit (0)), (.lit (0)))], [], []⟩))) .top)) (.both (.view (.vcell (.var 8) (.var 12) 1) [CK.int .u8] [10] 13 (.both (.view (.vcell (.var 3) (.var 12) 1) [CK.int .u8] [10] 16 (.br (.not (.c2 .veq (.c1 .vbytes (.var 18)) (.c1 .vbytes (.var 15))))
 (.ret 0 ⟨12, [(12, (.t (.bl false)))], [], [], []⟩)
 (.back 0 12 ⟨1000, [(1000, (.t (.arith .add .i64 (.var 12) (.lit (1)))))], [((.var 7), (.var 7)), ((.var 6), (.var 6)), ((.lit (0)), (.lit (0))), ((.var 2), (.var 2)), ((.var 1), (.var 1)), ((.lit (0)), (.lit (0)))], [], []⟩))) .top)) .top)))))))
 (.ret 0 ⟨12, [(12, (.t (.bl true)))], [], [], []⟩))))))))
theorem o_same33_eq : treeOf ⟨Try.prog, same33C, [], [same33IOf [.abs 10 2] 10 10]⟩ 100000 Try.f33 = o_same33 := by kernel_rfl
theorem same33_of (hd : ∀ c ∈ ([] : List Ctr), c.ok Try.prog) (h : ∀ ρ : Env, ρ.good → (same33C).pre ρ → o_same33.den ⟨Try.prog, same33C, [], [same33IOf [.abs 10 2] 10 10]⟩ ρ) : (same33C).ok Try.prog :=
  ok_of_tree Try.func33 (fun a w => Try.call33 a w) hd 100000 (fun ρ hg hp => by rw [o_same33_eq]; exact h ρ hg hp)
def o_same33r : Out := (.need (.cmp .leq (.lit (0)) (.var 1)) (.need (.cmp .leq (.lit (0)) (.var 6)) (.br (.cmp .neq (.var 1) (.var 6))
 (.ret 0 ⟨12, [(12, (.t (.bl false)))], [], [], []⟩)
 (.inv 0 12 ⟨1000, [(1000, (.t (.lit (0))))], [((.var 7), (.var 7)), ((.var 6), (.var 6)), ((.lit (0)), (.lit (0))), ((.var 2), (.var 2)), ((.var 1), (.var 1)), ((.lit (0)), (.lit (0)))], [], []⟩ (.fresh 12 (.hyp 0 12 (.br (.cmp .lss (.var 12) (.var 1))
 (.need (.cmp .leq (.lit (0)) (.var 12)) (.need (.cmp .lss (.var 12) (.dlen (.var 3))) (.need (.cmp .lss (.var 12) (.var 6)) (.need (.cmp .lss (.var 12) (.dlen (.var 8))) (.br (.cmp .neq (.icell (.var 3) (.var 12) 0) (.icell (.var 8) (.var 12) 0))
 (.ret 0 ⟨12, [(12, (.t (.bl false)))], [], [], []⟩)
 (.both (.view (.vcell (.var 3) (.var 12) 1) [CK.int .u8] [10, 11] 13 (.both (.view (.vcell (.var 8) (.var 12) 1) [CK.int .u8] [10, 11] 16 (.br (.not (.c2 .veq (.c1 .vbytes (.var 15)) (.c1 .vbytes (.var 18))))
 (.ret 0 ⟨12, [(12, (.t (.bl false)))], [], [], []⟩)
 (.back 0 12 ⟨1000, [(1000, (.t (.arith .add .i64 (.var 12) (.lit (1)))))], [((.var 7), (.var 7)), ((.var 6), (.var 6)), ((.lit (0)), (.lit (0))), ((.var 2), (.var 2)), ((.var 1), (.var 1)), ((.lit (0)), (.lit (0)))], [], []⟩))) .top)) (.both (.view (.vcell (.var 8) (.var 12) 1) [CK.int .u8] [10, 11] 13 (.both (.view (.vcell (.var 3) (.var 12) 1) [CK.int .u8] [10, 11] 16 (.br (.not (.c2 .veq (.c1 .vbytes (.var 18)) (.c1 .vbytes (.var 15))))
 (.ret 0 ⟨12, [(12, (.t (.bl false)))], [], [], []⟩)
 (.back 0 12 ⟨1000, [(1000, (.t (.arith .add .i64 (.var 12) (.lit (1)))))], [((.var 7), (.var 7)), ((.var 6), (.var 6)), ((.lit (0)), (.lit (0))), ((.var 2), (.var 2)), ((.var 1), (.var 1)), ((.lit (0)), (.lit (0)))], [], []⟩))) .top)) .top)))))))
 (.ret 0 ⟨12, [(12, (.t (.bl true)))], [], [], []⟩))))))))
theorem o_same33r_eq : treeOf ⟨Try.prog, same33R, [], [same33IOf [.abs 10 2] 10 11]⟩ 100000 Try.f33 = o_same33r := by kernel_rfl
theorem same33r_of (hd : ∀ c ∈ ([] : List Ctr), c.ok Try.prog) (h : ∀ ρ : Env, ρ.good → (same33R).pre ρ → o_same33r.den ⟨Try.prog, same33R, [], [same33IOf [.abs 10 2] 10 11]⟩ ρ) : (same33R).ok Try.prog :=
  ok_of_tree Try.func33 (fun a w => Try.call33 a w) hd 100000 (fun ρ hg hp => by rw [o_same33r_eq]; exact h ρ hg hp)
def o_same33n : Out := (.ret 0 ⟨0, [], [], [((.bl true), (.bl true))], []⟩)
theorem o_same33n_eq : treeOf ⟨Try.prog, same33N, [], []⟩ 100000 Try.f33 = o_same33n := by kernel_rfl
theorem same33n_of (hd : ∀ c ∈ ([] : List Ctr), c.ok Try.prog) (h : ∀ ρ : Env, ρ.good → (same33N).pre ρ → o_same33n.den ⟨Try.prog, same33N, [], []⟩ ρ) : (same33N).ok Try.prog :=
  ok_of_tree Try.func33 (fun a w => Try.call33 a w) hd 100000 (fun ρ hg hp => by rw [o_same33n_eq]; exact h ρ hg hp)
def o_mix77 : Out := (.need (.cmp .leq (.lit (0)) (.var 10)) (.need (.cmp .leq (.tims (.lit (1)) (.var 10)) (.lit (281474976710656))) (.fresh 12 (.inv 0 13 ⟨1000, [(1002, (.t (.drep (.var 10) (.rcons (.vint .u8 (.lit (0))) .rnil)))), (1003, (.t (.lit (0)))), (1001, (.t (.var 10))), (1000, (.r 12))], [((.var 1001), (.var 10)), ((.var 10), (.var 10)), ((.lit (0)), (.lit (0))), ((.var 10), (.var 10)), ((.var 7), (.var 7)), ((.var 6), (.var 6)), ((.lit (0)), (.lit (0))), ((.var 2), (.var 2)), ((.var 1), (.var 1)), ((.lit (0)), (.lit (0)))], [], []⟩ (.fresh 13 (.fresh 14 (.fresh 15 (.fresh 16 (.hyp 0 13 (.need (.cmp .leq (.lit (0)) (.var 1)) (.br (.cmp .lss (.var 16) (.var 1))
 (.need (.cmp .leq (.lit (0)) (.var 6)) (.br (.cmp .lss (.var 16) (.var 6))
 (.need (.cmp .leq (.lit (0)) (.var 16)) (.need (.cmp .lss (.var 16) (.dlen (.var 8))) (.br (.cmp .eql (.icell (.var 8) (.var 16) 0) (.lit (0)))
 (.back 0 13 ⟨1000, [(1002, (.t (.var 15))), (1003, (.t (.arith .add .i64 (.var 16) (.lit (1))))), (1001, (.t (.var 14))), (1000, (.r 13))], [((.var 1001), (.var 14)), ((.var 10), (.var 10)), ((.lit (0)), (.lit (0))), ((.var 10), (.var 10)), ((.var 7), (.var 7)), ((.var 6), (.var 6)), ((.lit (0)), (.lit (0))), ((.var 2), (.var 2)), ((.var 1), (.var 1)), ((.lit (0)), (.lit (0)))], [], []⟩)
 (.inv 1 17 ⟨1000, [(1002, (.t (.var 15))), (1004, (.t (.lit (0)))), (1003, (.t (.var 16))), (1001, (.t (.var 14))), (1000, (.r 13))], [((.var 1001), (.var 14)), ((.var 10), (.var 10)), ((.lit (0)), (.lit (0))), ((.var 10), (.var 10)), ((.var 7), (.var 7)), ((.var 6), (.var 6)), ((.lit (0)), (.lit (0))), ((.var 2), (.var 2)), ((.var 1), (.var 1)), ((.lit (0)), (.lit (0)))], [], []⟩ (.fresh 17 (.fresh 18 (.fresh 19 (.fresh 20 (.fresh 21 (.hyp 1 17 (.br (.cmp .lss (.var 21) (.var 10))
 (.need (.cmp .leq (.lit (0)) (.var 21)) (.need (.cmp .lss (.lit (0)) (.dlen (.var 19))) (.need (.cmp .leq (.lit (0)) (.var 20)) (.need (.cmp .lss (.var 20) (.var 6)) (.need (.cmp .lss (.var 20) (.dlen (.var 8))) (.need (.cmp .lss (.var 20) (.var 1)) (.need (.cmp .lss (.var 20) (.dlen (.var 3))) (.both (.need (.cmp .lss (.var 21) (.dlen (.var 19))) (.both (.view (.vcell (.var 3) (.var 20) 1) [CK.int .u8] [11] 22 (.need (.cmp .lss (.var 21) (.dlen (.var 24))) (.both (.pre 0 ⟨0, [(1, (.t (.icell (.var 24) (.var 21) 0))), (0, (.t (.icell (.var 8) (.var 20) 0)))], [], [], []⟩ (.both (.fresh 25 (.post 0 0 ⟨0, [(1, (.t (.icell (.var 24) (.var 21) 0))), (0, (.t (.icell (.var 8) (.var 20) 0)))], [], [], []⟩ 25 (.both (.back 1 17 ⟨1000, [(1002, (.t (.dput (.var 19) (.var 21) 0 (.rcons (.vint .u8 (.arith .xor .u8 (.icell (.var 19) (.var 21) 0) (.var 25))) .rnil)))), (1004, (.t (.arith .add .i64 (.var 21) (.lit (1))))), (1003, (.t (.var 20))), (1001, (.t (.var 18))), (1000, (.r 17))], [((.var 1001), (.var 18)), ((.var 10), (.var 10)), ((.lit (0)), (.lit (0))), ((.var 10), (.var 10)), ((.var 7), (.var 7)), ((.var 6), (.var 6)), ((.lit (0)), (.lit (0))), ((.var 2), (.var 2)), ((.var 1), (.var 1)), ((.lit (0)), (.lit (0)))], [], []⟩) .top))) .top)) .top))) .top)) (.both (.view (.vcell (.var 3) (.var 20) 1) [CK.int .u8] [11] 22 (.need (.cmp .lss (.var 21) (.dlen (.var 24))) (.both (.need (.cmp .lss (.var 21) (.dlen (.var 19))) (.both (.pre 0 ⟨0, [(1, (.t (.icell (.var 24) (.var 21) 0))), (0, (.t (.icell (.var 8) (.var 20) 0)))], [], [], []⟩ (.both (.fresh 25 (.post 0 0 ⟨0, [(1, (.t (.icell (.var 24) (.var 21) 0))), (0, (.t (.icell (.var 8) (.var 20) 0)))], [], [], []⟩ 25 (.both (.back 1 17 ⟨1000, [(1002, (.t (.dput (.var 19) (.var 21) 0 (.rcons (.vint .u8 (.arith .xor .u8 (.icell (.var 19) (.var 21) 0) (.var 25))) .rnil)))), (1004, (.t (.arith .add .i64 (.var 21) (.lit (1))))), (1003, (.t (.var 20))), (1001, (.t (.var 18))), (1000, (.r 17))], [((.var 1001), (.var 18)), ((.var 10), (.var 10)), ((.lit (0)), (.lit (0))), ((.var 10), (.var 10)), ((.var 7), (.var 7)), ((.var 6), (.var 6)), ((.lit (0)), (.lit (0))), ((.var 2), (.var 2)), ((.var 1), (.var 1)), ((.lit (0)), (.lit (0)))], [], []⟩) .top))) .top)) .top)) (.both (.pre 0 ⟨0, [(1, (.t (.icell (.var 24) (.var 21) 0))), (0, (.t (.icell (.var 8) (.var 20) 0)))], [], [], []⟩ (.both (.fresh 25 (.post 0 0 ⟨0, [(1, (.t (.icell (.var 24) (.var 21) 0))), (0, (.t (.icell (.var 8) (.var 20) 0)))], [], [], []⟩ 25 (.both (.need (.cmp .lss (.var 21) (.dlen (.var 19))) (.both (.back 1 17 ⟨1000, [(1002, (.t (.dput (.var 19) (.var 21) 0 (.rcons (.vint .u8 (.arith .xor .u8 (.icell (.var 19) (.var 21) 0) (.var 25))) .rnil)))), (1004, (.t (.arith .add .i64 (.var 21) (.lit (1))))), (1003, (.t (.var 20))), (1001, (.t (.var 18))), (1000, (.r 17))], [((.var 1001), (.var 18)), ((.var 10), (.var 10)), ((.lit (0)), (.lit (0))), ((.var 10), (.var 10)), ((.var 7), (.var 7)), ((.var 6), (.var 6)), ((.lit (0)), (.lit (0))), ((.var 2), (.var 2)), ((.var 1), (.var 1)), ((.lit (0)), (.lit (0)))], [], []⟩) .top)) .top))) .top)) .top)))) .top)))))))))
 (.back 0 13 ⟨1000, [(1002, (.t (.var 19))), (1003, (.t (.arith .add .i64 (.var 20) (.lit (1))))), (1001, (.t (.var 18))), (1000, (.r 17))], [((.var 1001), (.var 18)), ((.var 10), (.var 10)), ((.lit (0)), (.lit (0))), ((.var 10), (.var 10)), ((.var 7), (.var 7)), ((.var 6), (.var 6)), ((.lit (0)), (.lit (0))), ((.var 2), (.var 2)), ((.var 1), (.var 1)), ((.lit (0)), (.lit (0)))], [], []⟩))))))))))))
 (.ret 0 ⟨12, [(14, (.t (.var 15))), (13, (.t (.var 14))), (12, (.r 13))], [((.var 13), (.var 14)), ((.var 10), (.var 10)), ((.lit (0)), (.lit (0)))], [], []⟩)))
 (.ret 0 ⟨12, [(14, (.t (.var 15))), (13, (.t (.var 14))), (12, (.r 13))], [((.var 13), (.var 14)), ((.var 10), (.var 10)), ((.lit (0)), (.lit (0)))], [], []⟩))))))))))))
theorem o_mix77_eq : treeOf ⟨Try.prog, mix77C, [times53C], [mix77I, mix77J]⟩ 100000 Try.f77 = o_mix77 := by kernel_rfl
theorem mix77_of (hd : ∀ c ∈ ([times53C] : List Ctr), c.ok Try.prog) (h : ∀ ρ : Env, ρ.good → (mix77C).pre ρ → o_mix77.den ⟨Try.prog, mix77C, [times53C], [mix77I, mix77J]⟩ ρ) : (mix77C).ok Try.prog :=
  ok_of_tree Try.func77 (fun a w => Try.call77 a w) hd 100000 (fun ρ hg hp => by rw [o_mix77_eq]; exact h ρ hg hp)
def o_mix77r : Out := (.need (.cmp .leq (.lit (0)) (.var 10)) (.need (.cmp .leq (.tims (.lit (1)) (.var 10)) (.lit (281474976710656))) (.fresh 12 (.inv 0 13 ⟨1000, [(1002, (.t (.drep (.var 10) (.rcons (.vint .u8 (.lit (0))) .rnil)))), (1003, (.t (.lit (0)))), (1001, (.t (.var 10))), (1000, (.r 12))], [((.var 1001), (.var 10)), ((.var 10), (.var 10)), ((.lit (0)), (.lit (0))), ((.var 10), (.var 10)), ((.var 7), (.var 7)), ((.var 6), (.var 6)), ((.lit (0)), (.lit (0))), ((.var 2), (.var 2)), ((.var 1), (.var 1)), ((.lit (0)), (.lit (0)))], [], []⟩ (.fresh 13 (.fresh 14 (.fresh 15 (.fresh 16 (.hyp 0 13 (.need (.cmp .leq (.lit (0)) (.var 1)) (.br (.cmp .lss (.var 16) (.var 1))
 (.need (.cmp .leq (.lit (0)) (.var 6)) (.br (.cmp .lss (.var 16) (.var 6))
 (.need (.cmp .leq (.lit (0)) (.var 16)) (.need (.cmp .lss (.var 16) (.dlen (.var 8))) (.br (.cmp .eql (.icell (.var 8) (.var 16) 0) (.lit (0)))
 (.back 0 13 ⟨1000, [(1002, (.t (.var 15))), (1003, (.t (.arith .add .i64 (.var 16) (.lit (1))))), (1001, (.t (.var 14))), (1000, (.r 13))], [((.var 1001), (.var 14)), ((.var 10), (.var 10)), ((.lit (0)), (.lit (0))), ((.var 10), (.var 10)), ((.var 7), (.var 7)), ((.var 6), (.var 6)), ((.lit (0)), (.lit (0))), ((.var 2), (.var 2)), ((.var 1), (.var 1)), ((.lit (0)), (.lit (0)))], [], []⟩)
 (.inv 1 17 ⟨1000, [(1002, (.t (.var 15))), (1004, (.t (.lit (0)))), (1003, (.t (.var 16))), (1001, (.t (.var 14))), (1000, (.r 13))], [((.var 1001), (.var 14)), ((.var 10), (.var 10)), ((.lit (0)), (.lit (0))), ((.var 10), (.var 10)), ((.var 7), (.var 7)), ((.var 6), (.var 6)), ((.lit (0)), (.lit (0))), ((.var 2), (.var 2)), ((.var 1), (.var 1)), ((.lit (0)), (.lit (0)))], [], []⟩ (.fresh 17 (.fresh 18 (.fresh 19 (.fresh 20 (.fresh 21 (.hyp 1 17 (.br (.cmp .lss (.var 21) (.var 10))
 (.need (.cmp .leq (.lit (0)) (.var 21)) (.need (.cmp .lss (.lit (0)) (.dlen (.var 19))) (.need (.cmp .leq (.lit (0)) (.var 20)) (.need (.cmp .lss (.var 20) (.var 6)) (.need (.cmp .lss (.var 20) (.dlen (.var 8))) (.need (.cmp .lss (.var 20) (.var 1)) (.need (.cmp .lss (.var 20) (.dlen (.var 3))) (.both (.need (.cmp .lss (.var 21) (.dlen (.var 19))) (.both (.view (.vcell (.var 3) (.var 20) 1) [CK.int .u8] [11] 22 (.need (.cmp .lss (.var 21) (.dlen (.var 24))) (.both (.pre 0 ⟨0, [(1, (.t (.icell (.var 24) (.var 21) 0))), (0, (.t (.icell (.var 8) (.var 20) 0)))], [], [], []⟩ (.both (.fresh 25 (.post 0 0 ⟨0, [(1, (.t (.icell (.var 24) (.var 21) 0))), (0, (.t (.icell (.var 8) (.var 20) 0)))], [], [], []⟩ 25 (.both (.back 1 17 ⟨1000, [(1002, (.t (.dput (.var 19) (.var 21) 0 (.rcons (.vint .u8 (.arith .xor .u8 (.icell (.var 19) (.var 21) 0) (.var 25))) .rnil)))), (1004, (.t (.arith .add .i64 (.var 21) (.lit (1))))), (1003, (.t (.var 20))), (1001, (.t (.var 18))), (1000, (.r 17))], [((.var 1001), (.var 18)), ((.var 10), (.var 10)), ((.lit (0)), (.lit (0))), ((.var 10), (.var 10)), ((.var 7), (.var 7)), ((.var 6), (.var 6)), ((.lit (0)), (.lit (0))), ((.var 2), (.var 2)), ((.var 1), (.var 1)), ((.lit (0)), (.lit (0)))], [], []⟩) .top))) .top)) .top))) .top)) (.both (.view (.vcell (.var 3) (.var 20) 1) [CK.int .u8] [11] 22 (.need (.cmp .lss (.var 21) (.dlen (.var 24))) (.both (.need (.cmp .lss (.var 21) (.dlen (.var 19))) (.both (.pre 0 ⟨0, [(1, (.t (.icell (.var 24) (.var 21) 0))), (0, (.t (.icell (.var 8) (.var 20) 0)))], [], [], []⟩ (.both (.fresh 25 (.post 0 0 ⟨0, [(1, (.t (.icell (.var 24) (.var 21) 0))), (0, (.t (.icell (.var 8) (.var 20) 0)))], [], [], []⟩ 25 (.both (.back 1 17 ⟨1000, [(1002, (.t (.dput (.var 19) (.var 21) 0 (.rcons (.vint .u8 (.arith .xor .u8 (.icell (.var 19) (.var 21) 0) (.var 25))) .rnil)))), (1004, (.t (.arith .add .i64 (.var 21) (.lit (1))))), (1003, (.t (.var 20))), (1001, (.t (.var 18))), (1000, (.r 17))], [((.var 1001), (.var 18)), ((.var 10), (.var 10)), ((.lit (0)), (.lit (0))), ((.var 10), (.var 10)), ((.var 7), (.var 7)), ((.var 6), (.var 6)), ((.lit (0)), (.lit (0))), ((.var 2), (.var 2)), ((.var 1), (.var 1)), ((.lit (0)), (.lit (0)))], [], []⟩) .top))) .top)) .top)) (.both (.pre 0 ⟨0, [(1, (.t (.icell (.var 24) (.var 21) 0))), (0, (.t (.icell (.var 8) (.var 20) 0)))], [], [], []⟩ (.both (.fresh 25 (.post 0 0 ⟨0, [(1, (.t (.icell (.var 24) (.var 21) 0))), (0, (.t (.icell (.var 8) (.var 20) 0)))], [], [], []⟩ 25 (.both (.need (.cmp .lss (.var 21) (.dlen (.var 19))) (.both (.back 1 17 ⟨1000, [(1002, (.t (.dput (.var 19) (.var 21) 0 (.rcons (.vint .u8 (.arith .xor .u8 (.icell (.var 19) (.var 21) 0) (.var 25))) .rnil)))), (1004, (.t (.arith .add .i64 (.var 21) (.lit (1))))), (1003, (.t (.var 20))), (1001, (.t (.var 18))), (1000, (.r 17))], [((.var 1001), (.var 18)), ((.var 10), (.var 10)), ((.lit (0)), (.lit (0))), ((.var 10), (.var 10)), ((.var 7), (.var 7)), ((.var 6), (.var 6)), ((.lit (0)), (.lit (0))), ((.var 2), (.var 2)), ((.var 1), (.var 1)), ((.lit (0)), (.lit (0)))], [], []⟩) .top)) .top))) .top)) .top)))) .top)))))))))
 (.back 0 13 ⟨1000, [(1002, (.t (.var 19))), (1003, (.t (.arith .add .i64 (.var 20) (.lit (1))))), (1001, (.t (.var 18))), (1000, (.r 17))], [((.var 1001), (.var 18)), ((.var 10), (.var 10)), ((.lit (0)), (.lit (0))), ((.var 10), (.var 10)), ((.var 7), (.var 7)), ((.var 6), (.var 6)), ((.lit (0)), (.lit (0))), ((.var 2), (.var 2)), ((.var 1), (.var 1)), ((.lit (0)), (.lit (0)))], [], []⟩))))))))))))
 (.ret 0 ⟨12, [(14, (.t (.var 15))), (13, (.t (.var 14))), (12, (.r 13))], [((.var 13), (.var 14)), ((.var 10), (.var 10)), ((.lit (0)), (.lit (0)))], [], []⟩)))
 (.ret 0 ⟨12, [(14, (.t (.var 15))), (13, (.t (.var 14))), (12, (.r 13))], [((.var 13), (.var 14)), ((.var 10), (.var 10)), ((.lit (0)), (.lit (0)))], [], []⟩))))))))))))
theorem o_mix77r_eq : treeOf ⟨Try.prog, mix77R, [times53C], [mix77I, mix77J]⟩ 100000 Try.f77 = o_mix77r := by kernel_rfl
theorem mix77r_of (hd : ∀ c ∈ ([times53C] : List Ctr), c.ok Try.prog) (h : ∀ ρ : Env, ρ.good → (mix77R).pre ρ → o_mix77r.den ⟨Try.prog, mix77R, [times53C], [mix77I, mix77J]⟩ ρ) : (mix77R).ok Try.prog :=
  ok_of_tree Try.func77 (fun a w => Try.call77 a w) hd 100000 (fun ρ hg hp => by rw [o_mix77r_eq]; exact h ρ hg hp)
def o_split32 : Out := (.pre 0 ⟨0, [(1, (.t (.var 1))), (0, (.t (.var 0)))], [], [], []⟩ (.both (.fresh 7 (.post 0 0 ⟨0, [(1, (.t (.var 1))), (0, (.t (.var 0)))], [], [], []⟩ 7 (.br (.not (.var 7))
 (.ret 0 ⟨7, [(7, (.t (.lit (2))))], [], [], []⟩)
 (.need (.cmp .leq (.lit (0)) (.var 3)) (.br (.cmp .gtr (.var 3) (.lit (8192)))
 (.ret 0 ⟨7, [(7, (.t (.lit (3))))], [], [], []⟩)
 (.pre 1 ⟨0, [(1, (.t (.var 3))), (0, (.t (.var 0)))], [], [], []⟩ (.both (.fresh 8 (.fresh 9 (.post 1 0 ⟨0, [(1, (.t (.var 3))), (0, (.t (.var 0)))], [], [], []⟩ 8 (.fresh 10 (.pack [] 11 (.inv 0 12 ⟨1000, [(1006, (.r 11)), (1004, (.t .dnil)), (1005, (.t (.lit (0)))), (1003, (.t (.lit (0)))), (1002, (.t (.lit (0)))), (1001, (.r 10)), (1000, (.t (.var 8)))], [((.var 1003), (.lit (0))), ((.var 4), (.var 4)), ((.var 3), (.var 3)), ((.lit (0)), (.lit (0))), ((.lit (0)), (.lit (0))), ((.var 1), (.var 1)), ((.var 0), (.var 0))], [], []⟩ (.fresh 12 (.fresh 13 (.fresh 14 (.fresh 15 (.fresh 16 (.fresh 17 (.fresh 18 (.hyp 0 12 (.br (.cmp .lss (.var 17) (.var 0))
 (.need (.cmp .leq (.lit (0)) (.var 12)) (.need (.cmp .leq (.tims (.lit (1)) (.var 12)) (.lit (281474976710656))) (.fresh 19 (.inv 1 20 ⟨1000, [(1006, (.r 18)), (1009, (.t (.drep (.var 12) (.rcons (.vint .u8 (.lit (0))) .rnil)))), (1004, (.t (.var 16))), (1010, (.t (.lit (0)))), (1008, (.t (.var 12))), (1007, (.r 19)), (1005, (.t (.var 17))), (1003, (.t (.var 15))), (1002, (.t (.var 14))), (1001, (.r 13)), (1000, (.t (.var 12)))], [((.var 1008), (.var 12)), ((.var 1003), (.var 15)), ((.var 1000), (.var 12)), ((.lit (0)), (.lit (0))), ((.var 4), (.var 4)), ((.var 3), (.var 3)), ((.lit (0)), (.lit (0))), ((.lit (0)), (.lit (0))), ((.var 1), (.var 1)), ((.var 0), (.var 0))], [], []⟩ (.fresh 20 (.fresh 21 (.fresh 22 (.fresh 23 (.fresh 24 (.fresh 25 (.fresh 26 (.fresh 27 (.fresh 28 (.fresh 29 (.fresh 30 (.hyp 1 20 (.br (.cmp .lss (.var 30) (.var 20))
 (.br (.cmp .lss (.arith .add .i64 (.arith .mul .i64 (.var 25) (.var 20)) (.var 30)) (.var 3))
 (.need (.cmp .leq (.lit (0)) (.arith .add .i64 (.arith .mul .i64 (.var 25) (.var 20)) (.var 30))) (.need (.cmp .lss (.arith .add .i64 (.arith .mul .i64 (.var 25) (.var 20)) (.var 30)) (.dlen (.var 5))) (.need (.cmp .leq (.lit (0)) (.var 30)) (.need (.cmp .lss (.var 30) (.dlen (.var 29))) (.back 1 20 ⟨1000, [(1006, (.r 26)), (1009, (.t (.dput (.var 29) (.var 30) 0 (.rcons (.vint .u8 (.icell (.var 5) (.arith .add .i64 (.arith .mul .i64 (.var 25) (.var 20)) (.var 30)) 0)) .rnil)))), (1004, (.t (.var 24))), (1010, (.t (.arith .add .i64 (.var 30) (.lit (1))))), (1008, (.t (.var 28))), (1007, (.r 27)), (1005, (.t (.var 25))), (1003, (.t (.var 23))), (1002, (.t (.var 22))), (1001, (.r 21)), (1000, (.t (.var 20)))], [((.var 1008), (.var 28)), ((.var 1003), (.var 23)), ((.var 1000), (.var 20)), ((.lit (0)), (.lit (0))), ((.var 4), (.var 4)), ((.var 3), (.var 3)), ((.lit (0)), (.lit (0))), ((.lit (0)), (.lit (0))), ((.var 1), (.var 1)), ((.var 0), (.var 0))], [], []⟩)))))
 (.fresh 31 (.need (.cmp .eql (.var 22) (.dlen (.var 24))) (.need (.cmp .leq (.tims (.lit (32)) (.plus (.var 22) (.lit (1)))) (.lit (140737488355328))) (.fresh 32 (.fresh 33 (.pack [.cells 31 36 [(.vint .i64 (.var 25)), (.vslice 27 (.lit (0)) (.var 20) (.var 28) 1)], .arr 27 5 [CK.int .u8] (.var 29) (.var 28), .abs 26 2] 34 (.back 0 12 ⟨1000, [(1006, (.r 34)), (1004, (.t (.dapp (.var 24) (.rcons (.vint .i64 (.var 25)) (.rcons (.vslice 27 (.lit (0)) (.var 20) (.var 28) 1) .rnil))))), (1005, (.t (.arith .add .i64 (.var 25) (.lit (1))))), (1003, (.t (.var 33))), (1002, (.t (.plus (.var 22) (.lit (1))))), (1001, (.r 32)), (1000, (.t (.var 20)))], [((.var 1003), (.var 33)), ((.var 4), (.var 4)), ((.var 3), (.var 3)), ((.lit (0)), (.lit (0))), ((.lit (0)), (.lit (0))), ((.var 1), (.var 1)), ((.var 0), (.var 0))], [], []⟩))))))))
 (.fresh 31 (.need (.cmp .eql (.var 22) (.dlen (.var 24))) (.need (.cmp .leq (.tims (.lit (32)) (.plus (.var 22) (.lit (1)))) (.lit (140737488355328))) (.fresh 32 (.fresh 33 (.pack [.cells 31 36 [(.vint .i64 (.var 25)), (.vslice 27 (.lit (0)) (.var 20) (.var 28) 1)], .arr 27 5 [CK.int .u8] (.var 29) (.var 28), .abs 26 2] 34 (.back 0 12 ⟨1000, [(1006, (.r 34)), (1004, (.t (.dapp (.var 24) (.rcons (.vint .i64 (.var 25)) (.rcons (.vslice 27 (.lit (0)) (.var 20) (.var 28) 1) .rnil))))), (1005, (.t (.arith .add .i64 (.var 25) (.lit (1))))), (1003, (.t (.var 33))), (1002, (.t (.plus (.var 22) (.lit (1))))), (1001, (.r 32)), (1000, (.t (.var 20)))], [((.var 1003), (.var 33)), ((.var 4), (.var 4)), ((.var 3), (.var 3)), ((.lit (0)), (.lit (0))), ((.lit (0)), (.lit (0))), ((.var 1), (.var 1)), ((.var 0), (.var 0))], [], []⟩))))))))))))))))))))))))
 (.inv 2 19 ⟨1000, [(1006, (.r 18)), (1004, (.t (.var 16))), (1005, (.t (.var 0))), (1003, (.t (.var 15))), (1002, (.t (.var 14))), (1001, (.r 13)), (1000, (.t (.var 12)))], [((.var 1003), (.var 15)), ((.lit (0)), (.lit (0))), ((.var 1), (.var 1)), ((.var 0), (.var 0))], [], []⟩ (.fresh 19 (.fresh 20 (.fresh 21 (.fresh 22 (.fresh 23 (.fresh 24 (.fresh 25 (.hyp 2 19 (.br (.cmp .lss (.var 24) (.var 1))
 (.know (.cmp .leq (.dlen (.var 23)) (.var 22)) (.need (.cmp .leq (.lit (0)) (.var 21)) (.need (.cmp .leq (.lit (0)) (.var 22)) (.need (.cmp .leq (.lit (0)) (.var 0)) (.need (.cmp .leq (.var 0) (.var 22)) (.both (.pre 2 ⟨0, [(0, (.t (.var 0)))], [], [], []⟩ (.both (.fresh 26 (.fresh 27 (.fresh 28 (.post 2 0 ⟨0, [(0, (.t (.var 0)))], [], [], []⟩ 26 (.both (.pre 3 ⟨0, [(4, (.t (.var 27))), (3, (.t (.var 28))), (5, (.t (.conv .u8 (.var 24)))), (2, (.t (.var 27))), (1, (.t (.var 0))), (0, (.r 26))], [((.lit (0)), (.lit (0)))], [], []⟩ (.both (.fresh 29 (.fresh 30 (.fresh 31 (.post 3 0 ⟨0, [(4, (.t (.var 27))), (3, (.t (.var 28))), (5, (.t (.conv .u8 (.var 24)))), (2, (.t (.var 27))), (1, (.t (.var 0))), (0, (.r 26))], [((.lit (0)), (.lit (0)))], [], []⟩ 29 (.both (.pre 4 ⟨0, [(11, (.r 25)), (9, (.t (.var 30))), (8, (.t (.var 31))), (4, (.t (.var 22))), (3, (.t (.var 23))), (10, (.t (.var 19))), (7, (.t (.var 30))), (6, (.t (.var 0))), (5, (.r 29)), (2, (.t (.var 22))), (1, (.t (.var 0))), (0, (.r 20))], [((.lit (0)), (.lit (0))), ((.lit (0)), (.lit (0)))], [], []⟩ (.both (.fresh 32 (.fresh 33 (.fresh 34 (.post 4 0 ⟨0, [(11, (.r 25)), (9, (.t (.var 30))), (8, (.t (.var 31))), (4, (.t (.var 22))), (3, (.t (.var 23))), (10, (.t (.var 19))), (7, (.t (.var 30))), (6, (.t (.var 0))), (5, (.r 29)), (2, (.t (.var 22))), (1, (.t (.var 0))), (0, (.r 20))], [((.lit (0)), (.lit (0))), ((.lit (0)), (.lit (0)))], [], []⟩ 32 (.both (.both (.fresh 35 (.both (.need (.cmp .eql (.var 21) (.dlen (.var 23))) (.need (.cmp .leq (.tims (.lit (32)) (.plus (.var 21) (.lit (1)))) (.lit (140737488355328))) (.fresh 36 (.fresh 37 (.both (.pack [.cells 35 36 [(.vint .i64 (.var 24)), (.vslice 32 (.lit (0)) (.var 19) (.var 33) 1)], .arr 32 5 [CK.int .u8] (.var 34) (.var 33), .arr 29 5 [CK.int .u8] (.var 31) (.var 30), .arr 26 5 [CK.int .u8] (.var 28) (.var 27), .abs 25 2] 38 (.back 2 19 ⟨1000, [(1006, (.r 38)), (1004, (.t (.dapp (.var 23) (.rcons (.vint .i64 (.var 24)) (.rcons (.vslice 32 (.lit (0)) (.var 19) (.var 33) 1) .rnil))))), (1005, (.t (.arith .add .i64 (.var 24) (.lit (1))))), (1003, (.t (.var 37))), (1002, (.t (.plus (.var 21) (.lit (1))))), (1001, (.r 36)), (1000, (.t (.var 19)))], [((.var 1003), (.var 37)), ((.lit (0)), (.lit (0))), ((.var 1), (.var 1)), ((.var 0), (.var 0))], [], []⟩)) .top))))) .top)) .top) .top))))) .top)) .top))))) .top)) .top))))) .top)) .top))))))
 (.need (.cmp .eql (.var 1) (.var 21)) (.ret 1 ⟨7, [(10, (.r 25)), (9, (.t (.var 23))), (8, (.t (.var 22))), (7, (.r 20))], [((.var 8), (.var 22)), ((.lit (0)), (.lit (0))), ((.var 1), (.var 21)), ((.lit (0)), (.lit (0)))], [], []⟩))))))))))))))))))))))))))) .top))))))) .top))
theorem o_split32_eq : treeOf ⟨Try.prog, split32C, [sizes29C, len27C, first79C, wgt78C, mix77C], [split32I, split32J, split32K]⟩ 100000 Try.f32 = o_split32 := by kernel_rfl
theorem split32_of (hd : ∀ c ∈ ([sizes29C, len27C, first79C, wgt78C, mix77C] : List Ctr), c.ok Try.prog) (h : ∀ ρ : Env, ρ.good → (split32C).pre ρ → o_split32.den ⟨Try.prog, split32C, [sizes29C, len27C, first79C, wgt78C, mix77C], [split32I, split32J, split32K]⟩ ρ) : (split32C).ok Try.prog :=
  ok_of_tree Try.func32 (fun a w => Try.call32 a w) hd 100000 (fun ρ hg hp => by rw [o_split32_eq]; exact h ρ hg hp)
def o_lawEncodes : Out := (.br (.cmp .gtr (.var 1) (.lit (60)))
 (.pre 0 ⟨0, [(1, (.t (.var 1))), (0, (.t (.var 0)))], [], [], []⟩ (.both (.fresh 7 (.post 0 0 ⟨0, [(1, (.t (.var 1))), (0, (.t (.var 0)))], [], [], []⟩ 7 (.br (.var 7)
 (.pre 6 ⟨0, [], [], [], []⟩ (.both (.post 6 0 ⟨0, [], [], [], []⟩ 8 (.ret 0 ⟨7, [], [], [((.bl true), (.bl true))], []⟩)) .top))
 (.need (.cmp .leq (.lit (0)) (.var 3)) (.br (.cmp .gtr (.var 3) (.lit (10000)))
 (.pre 6 ⟨0, [], [], [], []⟩ (.both (.post 6 0 ⟨0, [], [], [], []⟩ 8 (.ret 0 ⟨7, [], [], [((.bl true), (.bl true))], []⟩)) .top))
 (.fresh 8 (.need (.cmp .leq (.var 3) (.dlen (.var 5))) (.need (.cmp .leq (.tims (.lit (1)) (.var 3)) (.lit (140737488355328))) (.fresh 9 (.fresh 10 (.pre 1 ⟨0, [], [], [], []⟩ (.both (.fresh 11 (.fresh 12 (.post 1 0 ⟨0, [], [], [], []⟩ 11 (.pre 2 ⟨0, [(8, (.t (.var 10))), (7, (.t (.dtake (.var 5) (.var 3)))), (1, (.t (.var 12))), (6, (.t (.var 10))), (5, (.t (.var 3))), (4, (.r 9)), (3, (.t (.var 1))), (2, (.t (.var 0))), (0, (.r 11))], [((.lit (1)), (.lit (1))), ((.lit (0)), (.lit (0))), ((.lit (0)), (.lit (0)))], [], []⟩ (.both (.fresh 13 (.fresh 14 (.post 2 0 ⟨0, [(8, (.t (.var 10))), (7, (.t (.dtake (.var 5) (.var 3)))), (1, (.t (.var 12))), (6, (.t (.var 10))), (5, (.t (.var 3))), (4, (.r 9)), (3, (.t (.var 1))), (2, (.t (.var 0))), (0, (.r 11))], [((.lit (1)), (.lit (1))), ((.lit (0)), (.lit (0))), ((.lit (0)), (.lit (0)))], [], []⟩ 13 (.pre 3 ⟨0, [(6, (.t (.var 6))), (5, (.t (.var 5))), (4, (.t (.var 4))), (3, (.t (.var 3))), (2, (.r 2)), (1, (.t (.var 1))), (0, (.t (.var 0)))], [((.lit (0)), (.lit (0)))], [], []⟩ (.both (.fresh 15 (.post 3 0 ⟨0, [(6, (.t (.var 6))), (5, (.t (.var 5))), (4, (.t (.var 4))), (3, (.t (.var 3))), (2, (.r 2)), (1, (.t (.var 1))), (0, (.t (.var 0)))], [((.lit (0)), (.lit (0)))], [], []⟩ 15 (.br (.cmp .eql (.var 13) (.var 15))
 (.pre 5 ⟨0, [], [], [], []⟩ (.both (.post 5 0 ⟨0, [], [], [], []⟩ 16 (.need (.cmp .leq (.var 3) (.dlen (.dtake (.var 5) (.var 3)))) (.br (.c2 .veq (.c1 .vbytes (.dtake (.dtake (.var 5) (.var 3)) (.var 3))) (.c1 .vbytes (.dtake (.var 5) (.var 3))))
 (.pre 6 ⟨0, [], [], [], []⟩ (.both (.post 6 0 ⟨0, [], [], [], []⟩ 16 (.ret 0 ⟨7, [], [], [((.bl true), (.bl true))], []⟩)) .top))
 (.stuck 7 0 0)))) .top))
 (.stuck 7 0 0)))) (.both (.fresh 15 (.fresh 16 (.fresh 17 (.fresh 18 (.post 3 1 ⟨0, [(6, (.t (.var 6))), (5, (.t (.var 5))), (4, (.t (.var 4))), (3, (.t (.var 3))), (2, (.r 2)), (1, (.t (.var 1))), (0, (.t (.var 0)))], [((.lit (0)), (.lit (0)))], [], []⟩ 15 (.br (.cmp .eql (.var 13) (.lit (0)))
 (.pre 4 ⟨0, [(9, (.t (.var 16))), (8, (.t (.var 17))), (4, (.t (.lit (0)))), (3, (.t .dnil)), (10, (.r 18)), (7, (.t (.var 16))), (6, (.t (.var 1))), (5, (.r 15)), (2, (.t (.lit (0)))), (1, (.t (.lit (0)))), (0, .nil)], [((.lit (0)), (.lit (0))), ((.lit (0)), (.lit (0)))], [], []⟩ (.both (.fresh 19 (.post 4 0 ⟨0, [(9, (.t (.var 16))), (8, (.t (.var 17))), (4, (.t (.lit (0)))), (3, (.t .dnil)), (10, (.r 18)), (7, (.t (.var 16))), (6, (.t (.var 1))), (5, (.r 15)), (2, (.t (.lit (0)))), (1, (.t (.lit (0)))), (0, .nil)], [((.lit (0)), (.lit (0))), ((.lit (0)), (.lit (0)))], [], []⟩ 19 (.br (.var 19)
 (.need (.cmp .leq (.var 3) (.dlen (.dtake (.var 5) (.var 3)))) (.br (.c2 .veq (.c1 .vbytes (.dtake (.dtake (.var 5) (.var 3)) (.var 3))) (.c1 .vbytes (.dtake (.var 5) (.var 3))))
 (.pre 6 ⟨0, [], [], [], []⟩ (.both (.post 6 0 ⟨0, [], [], [], []⟩ 20 (.ret 0 ⟨7, [], [], [((.bl true), (.bl true))], []⟩)) .top))
 (.stuck 7 0 0)))
 (.stuck 7 0 0)))) .top))
 (.stuck 7 0 0))))))) .top)))))) (.both (.fresh 13 (.fresh 14 (.fresh 15 (.fresh 16 (.fresh 17 (.post 2 1 ⟨0, [(8, (.t (.var 10))), (7, (.t (.dtake (.var 5) (.var 3)))), (1, (.t (.var 12))), (6, (.t (.var 10))), (5, (.t (.var 3))), (4, (.r 9)), (3, (.t (.var 1))), (2, (.t (.var 0))), (0, (.r 11))], [((.lit (1)), (.lit (1))), ((.lit (0)), (.lit (0))), ((.lit (0)), (.lit (0)))], [], []⟩ 13 (.pre 3 ⟨0, [(6, (.t (.var 6))), (5, (.t (.var 5))), (4, (.t (.var 4))), (3, (.t (.var 3))), (2, (.r 2)), (1, (.t (.var 1))), (0, (.t (.var 0)))], [((.lit (0)), (.lit (0)))], [], []⟩ (.both (.fresh 18 (.post 3 0 ⟨0, [(6, (.t (.var 6))), (5, (.t (.var 5))), (4, (.t (.var 4))), (3, (.t (.var 3))), (2, (.r 2)), (1, (.t (.var 1))), (0, (.t (.var 0)))], [((.lit (0)), (.lit (0)))], [], []⟩ 18 (.br (.cmp .eql (.lit (0)) (.var 18))
 (.pre 4 ⟨0, [(9, (.t (.lit (0)))), (8, (.t .dnil)), (4, (.t (.var 14))), (3, (.t (.var 16))), (10, (.r 17)), (7, (.t (.lit (0)))), (6, (.t (.lit (0)))), (5, .nil), (2, (.t (.var 14))), (1, (.t (.var 1))), (0, (.r 13))], [((.lit (0)), (.lit (0))), ((.lit (0)), (.lit (0)))], [], []⟩ (.both (.fresh 19 (.post 4 0 ⟨0, [(9, (.t (.lit (0)))), (8, (.t .dnil)), (4, (.t (.var 14))), (3, (.t (.var 16))), (10, (.r 17)), (7, (.t (.lit (0)))), (6, (.t (.lit (0)))), (5, .nil), (2, (.t (.var 14))), (1, (.t (.var 1))), (0, (.r 13))], [((.lit (0)), (.lit (0))), ((.lit (0)), (.lit (0)))], [], []⟩ 19 (.br (.var 19)
 (.need (.cmp .leq (.var 3) (.dlen (.dtake (.var 5) (.var 3)))) (.br (.c2 .veq (.c1 .vbytes (.dtake (.dtake (.var 5) (.var 3)) (.var 3))) (.c1 .vbytes (.dtake (.var 5) (.var 3))))
 (.pre 6 ⟨0, [], [], [], []⟩ (.both (.post 6 0 ⟨0, [], [], [], []⟩ 20 (.ret 0 ⟨7, [], [], [((.bl true), (.bl true))], []⟩)) .top))
 (.stuck 7 0 0)))
 (.stuck 7 0 0)))) .top))
 (.stuck 7 0 0)))) (.both (.fresh 18 (.fresh 19 (.fresh 20 (.fresh 21 (.post 3 1 ⟨0, [(6, (.t (.var 6))), (5, (.t (.var 5))), (4, (.t (.var 4))), (3, (.t (.var 3))), (2, (.r 2)), (1, (.t (.var 1))), (0, (.t (.var 0)))], [((.lit (0)), (.lit (0)))], [], []⟩ 18 (.pack [.abs 21 2, .abs 17 2] 22 (.pre 4 ⟨0, [(9, (.t (.var 19))), (8, (.t (.var 20))), (4, (.t (.var 14))), (3, (.t (.var 16))), (10, (.r 22)), (7, (.t (.var 19))), (6, (.t (.var 1))), (5, (.r 18)), (2, (.t (.var 14))), (1, (.t (.var 1))), (0, (.r 13))], [((.lit (0)), (.lit (0))), ((.lit (0)), (.lit (0)))], [], []⟩ (.both (.fresh 23 (.post 4 0 ⟨0, [(9, (.t (.var 19))), (8, (.t (.var 20))), (4, (.t (.var 14))), (3, (.t (.var 16))), (10, (.r 22)), (7, (.t (.var 19))), (6, (.t (.var 1))), (5, (.r 18)), (2, (.t (.var 14))), (1, (.t (.var 1))), (0, (.r 13))], [((.lit (0)), (.lit (0))), ((.lit (0)), (.lit (0)))], [], []⟩ 23 (.br (.var 23)
 (.need (.cmp .leq (.var 3) (.dlen (.dtake (.var 5) (.var 3)))) (.br (.c2 .veq (.c1 .vbytes (.dtake (.dtake (.var 5) (.var 3)) (.var 3))) (.c1 .vbytes (.dtake (.var 5) (.var 3))))
 (.pre 6 ⟨0, [], [], [], []⟩ (.both (.post 6 0 ⟨0, [], [], [], []⟩ 24 (.ret 0 ⟨7, [], [], [((.bl true), (.bl true))], []⟩)) .top))
 (.stuck 7 0 0)))
 (.stuck 7 0 0)))) .top)))))))) .top))))))))) .top)))))) .top)))))))))))) .top))
 (.need (.cmp .leq (.lit (0)) (.var 3)) (.br (.cmp .gtr (.var 3) (.lit (10000)))
 (.pre 6 ⟨0, [], [], [], []⟩ (.both (.post 6 0 ⟨0, [], [], [], []⟩ 7 (.ret 0 ⟨7, [], [], [((.bl true), (.bl true))], []⟩)) .top))
 (.fresh 7 (.need (.cmp .leq (.var 3) (.dlen (.var 5))) (.need (.cmp .leq (.tims (.lit (1)) (.var 3)) (.lit (140737488355328))) (.fresh 8 (.fresh 9 (.pre 1 ⟨0, [], [], [], []⟩ (.both (.fresh 10 (.fresh 11 (.post 1 0 ⟨0, [], [], [], []⟩ 10 (.pre 2 ⟨0, [(8, (.t (.var 9))), (7, (.t (.dtake (.var 5) (.var 3)))), (1, (.t (.var 11))), (6, (.t (.var 9))), (5, (.t (.var 3))), (4, (.r 8)), (3, (.t (.var 1))), (2, (.t (.var 0))), (0, (.r 10))], [((.lit (1)), (.lit (1))), ((.lit (0)), (.lit (0))), ((.lit (0)), (.lit (0)))], [], []⟩ (.both (.fresh 12 (.fresh 13 (.post 2 0 ⟨0, [(8, (.t (.var 9))), (7, (.t (.dtake (.var 5) (.var 3)))), (1, (.t (.var 11))), (6, (.t (.var 9))), (5, (.t (.var 3))), (4, (.r 8)), (3, (.t (.var 1))), (2, (.t (.var 0))), (0, (.r 10))], [((.lit (1)), (.lit (1))), ((.lit (0)), (.lit (0))), ((.lit (0)), (.lit (0)))], [], []⟩ 12 (.pre 3 ⟨0, [(6, (.t (.var 6))), (5, (.t (.var 5))), (4, (.t (.var 4))), (3, (.t (.var 3))), (2, (.r 2)), (1, (.t (.var 1))), (0, (.t (.var 0)))], [((.lit (0)), (.lit (0)))], [], []⟩ (.both (.fresh 14 (.post 3 0 ⟨0, [(6, (.t (.var 6))), (5, (.t (.var 5))), (4, (.t (.var 4))), (3, (.t (.var 3))), (2, (.r 2)), (1, (.t (.var 1))), (0, (.t (.var 0)))], [((.lit (0)), (.lit (0)))], [], []⟩ 14 (.br (.cmp .eql (.var 12) (.var 14))
 (.pre 5 ⟨0, [], [], [], []⟩ (.both (.post 5 0 ⟨0, [], [], [], []⟩ 15 (.need (.cmp .leq (.var 3) (.dlen (.dtake (.var 5) (.var 3)))) (.br (.c2 .veq (.c1 .vbytes (.dtake (.dtake (.var 5) (.var 3)) (.var 3))) (.c1 .vbytes (.dtake (.var 5) (.var 3))))
 (.pre 6 ⟨0, [], [], [], []⟩ (.both (.post 6 0 ⟨0, [], [], [], []⟩ 15 (.ret 0 ⟨7, [], [], [((.bl true), (.bl true))], []⟩)) .top))
 (.stuck 7 0 0)))) .top))
 (.stuck 7 0 0)))) (.both (.fresh 14 (.fresh 15 (.fresh 16 (.fresh 17 (.post 3 1 ⟨0, [(6, (.t (.var 6))), (5, (.t (.var 5))), (4, (.t (.var 4))), (3, (.t (.var 3))), (2, (.r 2)), (1, (.t (.var 1))), (0, (.t (.var 0)))], [((.lit (0)), (.lit (0)))], [], []⟩ 14 (.br (.cmp .eql (.var 12) (.lit (0)))
 (.pre 4 ⟨0, [(9, (.t (.var 15))), (8, (.t (.var 16))), (4, (.t (.lit (0)))), (3, (.t .dnil)), (10, (.r 17)), (7, (.t (.var 15))), (6, (.t (.var 1))), (5, (.r 14)), (2, (.t (.lit (0)))), (1, (.t (.lit (0)))), (0, .nil)], [((.lit (0)), (.lit (0))), ((.lit (0)), (.lit (0)))], [], []⟩ (.both (.fresh 18 (.post 4 0 ⟨0, [(9, (.t (.var 15))), (8, (.t (.var 16))), (4, (.t (.lit (0)))), (3, (.t .dnil)), (10, (.r 17)), (7, (.t (.var 15))), (6, (.t (.var 1))), (5, (.r 14)), (2, (.t (.lit (0)))), (1, (.t (.lit (0)))), (0, .nil)], [((.lit (0)), (.lit (0))), ((.lit (0)), (.lit (0)))], [], []⟩ 18 (.br (.var 18)
 (.need (.cmp .leq (.var 3) (.dlen (.dtake (.var 5) (.var 3)))) (.br (.c2 .veq (.c1 .vbytes (.dtake (.dtake (.var 5) (.var 3)) (.var 3))) (.c1 .vbytes (.dtake (.var 5) (.var 3))))
 (.pre 6 ⟨0, [], [], [], []⟩ (.both (.post 6 0 ⟨0, [], [], [], []⟩ 19 (.ret 0 ⟨7, [], [], [((.bl true), (.bl true))], []⟩)) .top))
 (.stuck 7 0 0)))
 (.stuck 7 0 0)))) .top))
 (.stuck 7 0 0))))))) .top)))))) (.both (.fresh 12 (.fresh 13 (.fresh 14 (.fresh 15 (.fresh 16 (.post 2 1 ⟨0, [(8, (.t (.var 9))), (7, (.t (.dtake (.var 5) (.var 3)))), (1, (.t (.var 11))), (6, (.t (.var 9))), (5, (.t (.var 3))), (4, (.r 8)), (3, (.t (.var 1))), (2, (.t (.var 0))), (0, (.r 10))], [((.lit (1)), (.lit (1))), ((.lit (0)), (.lit (0))), ((.lit (0)), (.lit (0)))], [], []⟩ 12 (.pre 3 ⟨0, [(6, (.t (.var 6))), (5, (.t (.var 5))), (4, (.t (.var 4))), (3, (.t (.var 3))), (2, (.r 2)), (1, (.t (.var 1))), (0, (.t (.var 0)))], [((.lit (0)), (.lit (0)))], [], []⟩ (.both (.fresh 17 (.post 3 0 ⟨0, [(6, (.t (.var 6))), (5, (.t (.var 5))), (4, (.t (.var 4))), (3, (.t (.var 3))), (2, (.r 2)), (1, (.t (.var 1))), (0, (.t (.var 0)))], [((.lit (0)), (.lit (0)))], [], []⟩ 17 (.br (.cmp .eql (.lit (0)) (.var 17))
 (.pre 4 ⟨0, [(9, (.t (.lit (0)))), (8, (.t .dnil)), (4, (.t (.var 13))), (3, (.t (.var 15))), (10, (.r 16)), (7, (.t (.lit (0)))), (6, (.t (.lit (0)))), (5, .nil), (2, (.t (.var 13))), (1, (.t (.var 1))), (0, (.r 12))], [((.lit (0)), (.lit (0))), ((.lit (0)), (.lit (0)))], [], []⟩ (.both (.fresh 18 (.post 4 0 ⟨0, [(9, (.t (.lit (0)))), (8, (.t .dnil)), (4, (.t (.var 13))), (3, (.t (.var 15))), (10, (.r 16)), (7, (.t (.lit (0)))), (6, (.t (.lit (0)))), (5, .nil), (2, (.t (.var 13))), (1, (.t (.var 1))), (0, (.r 12))], [((.lit (0)), (.lit (0))), ((.lit (0)), (.lit (0)))], [], []⟩ 18 (.br (.var 18)
 (.need (.cmp .leq (.var 3) (.dlen (.dtake (.var 5) (.var 3)))) (.br (.c2 .veq (.c1 .vbytes (.dtake (.dtake (.var 5) (.var 3)) (.var 3))) (.c1 .vbytes (.dtake (.var 5) (.var 3))))
 (.pre 6 ⟨0, [], [], [], []⟩ (.both (.post 6 0 ⟨0, [], [], [], []⟩ 19 (.ret 0 ⟨7, [], [], [((.bl true), (.bl true))], []⟩)) .top))
 (.stuck 7 0 0)))
 (.stuck 7 0 0)))) .top))
 (.stuck 7 0 0)))) (.both (.fresh 17 (.fresh 18 (.fresh 19 (.fresh 20 (.post 3 1 ⟨0, [(6, (.t (.var 6))), (5, (.t (.var 5))), (4, (.t (.var 4))), (3, (.t (.var 3))), (2, (.r 2)), (1, (.t (.var 1))), (0, (.t (.var 0)))], [((.lit (0)), (.lit (0)))], [], []⟩ 17 (.pack [.abs 20 2, .abs 16 2] 21 (.pre 4 ⟨0, [(9, (.t (.var 18))), (8, (.t (.var 19))), (4, (.t (.var 13))), (3, (.t (.var 15))), (10, (.r 21)), (7, (.t (.var 18))), (6, (.t (.var 1))), (5, (.r 17)), (2, (.t (.var 13))), (1, (.t (.var 1))), (0, (.r 12))], [((.lit (0)), (.lit (0))), ((.lit (0)), (.lit (0)))], [], []⟩ (.both (.fresh 22 (.post 4 0 ⟨0, [(9, (.t (.var 18))), (8, (.t (.var 19))), (4, (.t (.var 13))), (3, (.t (.var 15))), (10, (.r 21)), (7, (.t (.var 18))), (6, (.t (.var 1))), (5, (.r 17)), (2, (.t (.var 13))), (1, (.t (.var 1))), (0, (.r 12))], [((.lit (0)), (.lit (0))), ((.lit (0)), (.lit (0)))], [], []⟩ 22 (.br (.var 22)
 (.need (.cmp .leq (.var 3) (.dlen (.dtake (.var 5) (.var 3)))) (.br (.c2 .veq (.c1 .vbytes (.dtake (.dtake (.var 5) (.var 3)) (.var 3))) (.c1 .vbytes (.dtake (.var 5) (.var 3))))
 (.pre 6 ⟨0, [], [], [], []⟩ (.both (.post 6 0 ⟨0, [], [], [], []⟩ 23 (.ret 0 ⟨7, [], [], [((.bl true), (.bl true))], []⟩)) .top))
 (.stuck 7 0 0)))
 (.stuck 7 0 0)))) .top)))))))) .top))))))))) .top)))))) .top))))))))))
theorem o_lawEncodes_eq : treeOf ⟨Try.prog, lawEncodesC, [sizes29C, newFieldC, encC, split32C, same33C, same33N, knownC], []⟩ 100000 Try.f4 = o_lawEncodes := by kernel_rfl
theorem lawEncodes_of (hd : ∀ c ∈ ([sizes29C, newFieldC, encC, split32C, same33C, same33N, knownC] : List Ctr), c.ok Try.prog) (h : ∀ ρ : Env, ρ.good → (lawEncodesC).pre ρ → o_lawEncodes.den ⟨Try.prog, lawEncodesC, [sizes29C, newFieldC, encC, split32C, same33C, same33N, knownC], []⟩ ρ) : (lawEncodesC).ok Try.prog :=
  ok_of_tree Try.func4 (fun a w => Try.call4 a w) hd 100000 (fun ρ hg hp => by rw [o_lawEncodes_eq]; exact h ρ hg hp)
def o_lawDistance : Out := (.fresh 28 (.br (.cmp .lss (.var 0) (.lit (1)))
 (.pre 2 ⟨0, [], [], [], []⟩ (.both (.post 2 0 ⟨0, [], [], [], []⟩ 29 (.ret 0 ⟨28, [], [], [((.bl true), (.bl true))], []⟩)) .top))
 (.br (.cmp .gtr (.var 0) (.var 1))
 (.pre 2 ⟨0, [], [], [], []⟩ (.both (.post 2 0 ⟨0, [], [], [], []⟩ 29 (.ret 0 ⟨28, [], [], [((.bl true), (.bl true))], []⟩)) .top))
 (.br (.cmp .gtr (.var 1) (.lit (30)))
 (.pre 2 ⟨0, [], [], [], []⟩ (.both (.post 2 0 ⟨0, [], [], [], []⟩ 29 (.ret 0 ⟨28, [], [], [((.bl true), (.bl true))], []⟩)) .top))
 (.need (.cmp .leq (.lit (0)) (.var 5)) (.br (.cmp .gtr (.var 5) (.lit (2000)))
 (.pre 2 ⟨0, [], [], [], []⟩ (.both (.post 2 0 ⟨0, [], [], [], []⟩ 29 (.ret 0 ⟨28, [], [], [((.bl true), (.bl true))], []⟩)) .top))
 (.br (.cmp .lss (.var 14) (.lit (0)))
 (.pre 2 ⟨0, [], [], [], []⟩ (.both (.post 2 0 ⟨0, [], [], [], []⟩ 29 (.ret 0 ⟨28, [], [], [((.bl true), (.bl true))], []⟩)) .top))
 (.br (.cmp .geq (.var 14) (.var 5))
 (.pre 2 ⟨0, [], [], [], []⟩ (.both (.post 2 0 ⟨0, [], [], [], []⟩ 29 (.ret 0 ⟨28, [], [], [((.bl true), (.bl true))], []⟩)) .top))
 (.br (.cmp .eql (.var 15) (.lit (0)))
 (.pre 2 ⟨0, [], [], [], []⟩ (.both (.post 2 0 ⟨0, [], [], [], []⟩ 29 (.ret 0 ⟨28, [], [], [((.bl true), (.bl true))], []⟩)) .top))
 (.pre 0 ⟨0, [], [], [], []⟩ (.both (.fresh 29 (.fresh 30 (.post 0 0 ⟨0, [], [], [], []⟩ 29 (.fresh 31 (.need (.cmp .leq (.var 5) (.dlen (.var 19))) (.need (.cmp .leq (.tims (.lit (1)) (.var 5)) (.lit (140737488355328))) (.fresh 32 (.fresh 33 (.need (.cmp .leq (.lit (0)) (.var 14)) (.need (.cmp .lss (.var 14) (.var 5)) (.need (.cmp .lss (.var 14) (.dlen (.dtake (.var 19) (.var 5)))) (.fresh 34 (.fresh 35 (.fresh 36 (.pre 1 ⟨0, [(8, (.t (.var 36))), (7, (.t (.dtake (.var 19) (.var 5)))), (1, (.t (.var 30))), (6, (.t (.var 36))), (5, (.t (.var 5))), (4, (.r 35)), (3, (.t (.var 1))), (2, (.t (.var 0))), (0, (.r 29))], [((.lit (1)), (.lit (1))), ((.lit (0)), (.lit (0))), ((.lit (0)), (.lit (0)))], [], []⟩ (.both (.fresh 37 (.fresh 38 (.fresh 39 (.fresh 40 (.fresh 41 (.post 1 0 ⟨0, [(8, (.t (.var 36))), (7, (.t (.dtake (.var 19) (.var 5)))), (1, (.t (.var 30))), (6, (.t (.var 36))), (5, (.t (.var 5))), (4, (.r 35)), (3, (.t (.var 1))), (2, (.t (.var 0))), (0, (.r 29))], [((.lit (1)), (.lit (1))), ((.lit (0)), (.lit (0))), ((.lit (0)), (.lit (0)))], [], []⟩ 37 (.pre 1 ⟨0, [(8, (.t (.var 33))), (7, (.t (.dput (.dtake (.var 19) (.var 5)) (.var 14) 0 (.rcons (.vint .u8 (.arith .xor .u8 (.icell (.dtake (.var 19) (.var 5)) (.var 14) 0) (.var 15))) .rnil)))), (1, (.t (.var 39))), (6, (.t (.var 33))), (5, (.t (.var 5))), (4, (.r 32)), (3, (.t (.var 1))), (2, (.t (.var 0))), (0, (.r 29))], [((.lit (1)), (.lit (1))), ((.lit (0)), (.lit (0))), ((.lit (0)), (.lit (0)))], [], []⟩ (.both (.fresh 42 (.fresh 43 (.fresh 44 (.fresh 45 (.fresh 46 (.post 1 0 ⟨0, [(8, (.t (.var 33))), (7, (.t (.dput (.dtake (.var 19) (.var 5)) (.var 14) 0 (.rcons (.vint .u8 (.arith .xor .u8 (.icell (.dtake (.var 19) (.var 5)) (.var 14) 0) (.var 15))) .rnil)))), (1, (.t (.var 39))), (6, (.t (.var 33))), (5, (.t (.var 5))), (4, (.r 32)), (3, (.t (.var 1))), (2, (.t (.var 0))), (0, (.r 29))], [((.lit (1)), (.lit (1))), ((.lit (0)), (.lit (0))), ((.lit (0)), (.lit (0)))], [], []⟩ 42 (.need (.cmp .leq (.lit (0)) (.var 1)) (.pack [.arr 29 98 [CK.int .u32, CK.int .i32, CK.int .u32, CK.int .u8, CK.int .u8, CK.int .u8, CK.int .u8, CK.int .u8, CK.int .u8, CK.int .u8, CK.int .u8, CK.int .u8, CK.int .u8, CK.int .u8, CK.int .u8, CK.int .u8, CK.int .u8, CK.int .u8, CK.int .u8, CK.int .u8, CK.int .u8, CK.int .u8, CK.int .u8, CK.int .u8, CK.int .u8, CK.int .u8, CK.int .u8, CK.int .u8, CK.int .u8, CK.int .u8, CK.int .u8, CK.int .u8, CK.int .u8, CK.int .u8, CK.int .u8, CK.int .u8, CK.int .u8, CK.int .u8, CK.int .u8, CK.int .u8, CK.int .u8, CK.int .u8, CK.int .u8, CK.int .u8, CK.int .u8, CK.int .u8, CK.int .u8, CK.int .u8, CK.int .u8, CK.int .u8, CK.int .u8, CK.int .u8, CK.int .u8, CK.int .u8, CK.int .u8, CK.int .u8, CK.int .u8, CK.int .u8, CK.int .u8, CK.int .u8, CK.int .u8, CK.int .u8, CK.int .u8, CK.int .u8, CK.int .u8, CK.int .u8, CK.int .u8, CK.int .u8, CK.int .u8, CK.int .u8, CK.int .u8, CK.int .u8, CK.int .u8, CK.int .u8, CK.int .u8, CK.int .u8, CK.int .u8, CK.int .u8, CK.int .u8, CK.int .u8, CK.int .u8, CK.int .u8, CK.int .u8, CK.int .u8, CK.int .u8, CK.int .u8, CK.int .u8, CK.int .u8, CK.int .u8, CK.int .u8, CK.int .u8, CK.int .u8, CK.int .u8, CK.int .u8, CK.int .u8, CK.int .u8, CK.int .u8, CK.int .u8, CK.int .u8, CK.int .u8, CK.int .u8, CK.int .u8, CK.int .u8, CK.int .u8, CK.int .u8, CK.int .u8, CK.int .u8, CK.int .u8, CK.int .u8, CK.int .u8, CK.int .u8, CK.int .u8, CK.int .u8, CK.int .u8, CK.int .u8, CK.int .u8, CK.int .u8, CK.int .u8, CK.int .u8, CK.int .u8, CK.int .u8, CK.int .u8, CK.int .u8, CK.int .u8, CK.int .u8, CK.int .u8, CK.int .u8, CK.int .u8, CK.int .u8, CK.int .u8, CK.int .u8, CK.int .u8, CK.int .u8, CK.int .u8, CK.int .u8, CK.int .u8, CK.int .u8, CK.int .u8, CK.int .u8, CK.int .u8, CK.int .u8, CK.int .u8, CK.int .u8, CK.int .u8, CK.int .u8, CK.int .u8, CK.int .u8, CK.int .u8, CK.int .u8, CK.int .u8, CK.int .u8, CK.int .u8, CK.int .u8, CK.int .u8, CK.int .u8, CK.int .u8, CK.int .u8, CK.int .u8, CK.int .u8, CK.int .u8, CK.int .u8, CK.int .u8, CK.int .u8, CK.int .u8, CK.int .u8, CK.int .u8, CK.int .u8, CK.int .u8, CK.int .u8, CK.int .u8, CK.int .u8, CK.int .u8, CK.int .u8, CK.int .u8, CK.int .u8, CK.int .u8, CK.int .u8, CK.int .u8, CK.int .u8, CK.int .u8, CK.int .u8, CK.int .u8, CK.int .u8, CK.int .u8, CK.int .u8, CK.int .u8, CK.int .u8, CK.int .u8, CK.int .u8, CK.int .u8, CK.int .u8, CK.int .u8, CK.int .u8, CK.int .u8, CK.int .u8, CK.int .u8, CK.int .u8, CK.int .u8, CK.int .u8, CK.int .u8, CK.int .u8, CK.int .u8, CK.int .u8, CK.int .u8, CK.int .u8, CK.int .u8, CK.int .u8, CK.int .u8, CK.int .u8, CK.int .u8, CK.int .u8, CK.int .u8, CK.int .u8, CK.int .u8, CK.int .u8, CK.int .u8, CK.int .u8, CK.int .u8, CK.int .u8, CK.int .u8, CK.int .u8, CK.int .u8, CK.int .u8, CK.int .u8, CK.int .u8, CK.int .u8, CK.int .u8, CK.int .u8, CK.int .u8, CK.int .u8, CK.int .u8, CK.int .u8, CK.int .u8, CK.int .u8, CK.int .u8, CK.int .u8, CK.int .u8, CK.int .u8, CK.int .u8, CK.int .u8, CK.int .u8, CK.int .u8, CK.int .u8, CK.int .u8, CK.int .u8, CK.int .u8, CK.int .u8, CK.int .u8, CK.int .u8, CK.int .u8, CK.int .u8, CK.int .u8, CK.int .u8, CK.int .u8, CK.int .u8, CK.int .u8, CK.int .u8, CK.int .u8, CK.int .u8, CK.int .u8, CK.int .u8, CK.int .u8, CK.int .u8, CK.int .u8, CK.int .u8, CK.int .u8, CK.int .u8, CK.int .u8, CK.int .u8, CK.int .u8, CK.int .u8, CK.int .u8, CK.int .u8, CK.int .u8, CK.int .u8, CK.int .u8, CK.int .u8, CK.int .u8, CK.int .u8, CK.int .u8, CK.int .u8, CK.int .u8, CK.int .u8, CK.int .u8, CK.int .u8, CK.int .u8, CK.int .u8, CK.int .u8, CK.int .u8, CK.int .u8, CK.int .u8, CK.int .u8, CK.int .u8, CK.int .u8, CK.int .u8, CK.int .u8, CK.int .u8, CK.int .u8, CK.int .u8, CK.int .u8, CK.int .u8, CK.int .u8, CK.int .u8, CK.int .u8, CK.int .u8, CK.int .u8, CK.int .u8, CK.int .u8, CK.int .u8, CK.int .u8, CK.int .u8, CK.int .u8, CK.int .u8, CK.int .u8, CK.int .u8, CK.int .u8, CK.int .u8, CK.int .u8, CK.int .u8, CK.int .u8, CK.int .u8, CK.int .u8, CK.int .u8, CK.int .u8, CK.int .u8, CK.int .u8, CK.int .u8, CK.int .u8, CK.int .u8, CK.int .u8, CK.int .u8, CK.int .u8, CK.int .u8, CK.int .u8, CK.int .u8, CK.int .u8, CK.int .u8, CK.int .u8, CK.int .u8, CK.int .u8, CK.int .u8, CK.int .u8, CK.int .u8, CK.int .u8, CK.int .u8, CK.int .u8, CK.int .u8, CK.int .u8, CK.int .u8, CK.int .u8, CK.int .u8, CK.int .u8, CK.int .u8, CK.int .u8, CK.int .u8, CK.int .u8, CK.int .u8, CK.int .u8, CK.int .u8, CK.int .u8, CK.int .u8, CK.int .u8, CK.int .u8, CK.int .u8, CK.int .u8, CK.int .u8, CK.int .u8, CK.int .u8, CK.int .u8, CK.int .u8, CK.int .u8, CK.int .u8, CK.int .u8, CK.int .u8, CK.int .u8, CK.int .u8, CK.int .u8, CK.int .u8, CK.int .u8, CK.int .u8, CK.int .u8, CK.int .u8, CK.int .u8, CK.int .u8, CK.int .u8, CK.int .u8, CK.int .u8, CK.int .u8, CK.int .u8, CK.int .u8, CK.int .u8, CK.int .u8, CK.int .u8, CK.int .u8, CK.int .u8, CK.int .u8, CK.int .u8, CK.int .u8, CK.int .u8, CK.int .u8, CK.int .u8, CK.int .u8, CK.int .u8, CK.int .u8, CK.int .u8, CK.int .u8, CK.int .u8, CK.int .u8, CK.int .u8, CK.int .u8, CK.int .u8, CK.int .u8, CK.int .u8, CK.int .u8, CK.int .u8, CK.int .u8, CK.int .u8, CK.int .u8, CK.int .u8, CK.int .u8, CK.int .u8, CK.int .u8, CK.int .u8, CK.int .u8, CK.int .u8, CK.int .u8, CK.int .u8, CK.int .u8, CK.int .u8, CK.int .u8, CK.int .u8, CK.int .u8, CK.int .u8, CK.int .u8, CK.int .u8, CK.int .u8, CK.int .u8, CK.int .u8, CK.int .u8, CK.int .u8, CK.int .u8, CK.int .u8, CK.int .u8, CK.int .u8, CK.int .u8, CK.int .u8, CK.int .u8, CK.int .u8, CK.int .u8, CK.int .u8, CK.int .u8, CK.int .u8, CK.int .u8, CK.int .u8, CK.int .u8, CK.int .u8, CK.int .u8, CK.int .u8, CK.int .u8, CK.int .u8, CK.int .u8, CK.int .u8, CK.int .u8, CK.int .u8, CK.int .u8, CK.int .u8, CK.int .u8, CK.int .u8, CK.int .u8, CK.int .u8, CK.int .u8, CK.int .u8, CK.int .u8, CK.int .u8, CK.int .u8, CK.int .u8, CK.int .u8, CK.int .u8, CK.int .u8, CK.int .u8, CK.int .u8, CK.int .u8, CK.int .u8, CK.int .u8, CK.int .u8, CK.int .u8, CK.int .u8, CK.int .u8, CK.int .u8, CK.int .u8, CK.int .u8, CK.int .u8, CK.int .u8, CK.int .u8, CK.int .u8, CK.int .u8, CK.int .u8, CK.int .u8, CK.int .u8, CK.int .u8, CK.int .u8, CK.int .u8, CK.int .u8, CK.int .u8, CK.int .u8, CK.int .u8, CK.int .u8, CK.int .u8, CK.int .u8, CK.int .u8, CK.int .u8, CK.int .u8, CK.int .u8, CK.int .i64, CK.int .i64, CK.int .i64, CK.int .i64, CK.int .i64, CK.int .i64, CK.int .i64, CK.int .i64, CK.int .i64, CK.int .i64, CK.int .i64, CK.int .i64, CK.int .i64, CK.int .i64, CK.int .i64, CK.int .i64, CK.int .i64, CK.int .i64, CK.int .i64, CK.int .i64, CK.int .i64, CK.int .i64, CK.int .i64, CK.int .i64, CK.int .i64, CK.int .i64, CK.int .i64, CK.int .i64, CK.int .i64, CK.int .i64, CK.int .i64, CK.int .i64, CK.int .i64, CK.int .i64, CK.int .i64, CK.int .i64, CK.int .i64, CK.int .i64, CK.int .i64, CK.int .i64, CK.int .i64, CK.int .i64, CK.int .i64, CK.int .i64, CK.int .i64, CK.int .i64, CK.int .i64, CK.int .i64, CK.int .i64, CK.int .i64, CK.int .i64, CK.int .i64, CK.int .i64, CK.int .i64, CK.int .i64, CK.int .i64, CK.int .i64, CK.int .i64, CK.int .i64, CK.int .i64, CK.int .i64, CK.int .i64, CK.int .i64, CK.int .i64, CK.int .i64, CK.int .i64, CK.int .i64, CK.int .i64, CK.int .i64, CK.int .i64, CK.int .i64, CK.int .i64, CK.int .i64, CK.int .i64, CK.int .i64, CK.int .i64, CK.int .i64, CK.int .i64, CK.int .i64, CK.int .i64, CK.int .i64, CK.int .i64, CK.int .i64, CK.int .i64, CK.int .i64, CK.int .i64, CK.int .i64, CK.int .i64, CK.int .i64, CK.int .i64, CK.int .i64, CK.int .i64, CK.int .i64, CK.int .i64, CK.int .i64, CK.int .i64, CK.int .i64, CK.int .i64, CK.int .i64, CK.int .i64, CK.int .i64, CK.int .i64, CK.int .i64, CK.int .i64, CK.int .i64, CK.int .i64, CK.int .i64, CK.int .i64, CK.int .i64, CK.int .i64, CK.int .i64, CK.int .i64, CK.int .i64, CK.int .i64, CK.int .i64, CK.int .i64, CK.int .i64, CK.int .i64, CK.int .i64, CK.int .i64, CK.int .i64, CK.int .i64, CK.int .i64, CK.int .i64, CK.int .i64, CK.int .i64, CK.int .i64, CK.int .i64, CK.int .i64, CK.int .i64, CK.int .i64, CK.int .i64, CK.int .i64, CK.int .i64, CK.int .i64, CK.int .i64, CK.int .i64, CK.int .i64, CK.int .i64, CK.int .i64, CK.int .i64, CK.int .i64, CK.int .i64, CK.int .i64, CK.int .i64, CK.int .i64, CK.int .i64, CK.int .i64, CK.int .i64, CK.int .i64, CK.int .i64, CK.int .i64, CK.int .i64, CK.int .i64, CK.int .i64, CK.int .i64, CK.int .i64, CK.int .i64, CK.int .i64, CK.int .i64, CK.int .i64, CK.int .i64, CK.int .i64, CK.int .i64, CK.int .i64, CK.int .i64, CK.int .i64, CK.int .i64, CK.int .i64, CK.int .i64, CK.int .i64, CK.int .i64, CK.int .i64, CK.int .i64, CK.int .i64, CK.int .i64, CK.int .i64, CK.int .i64, CK.int .i64, CK.int .i64, CK.int .i64, CK.int .i64, CK.int .i64, CK.int .i64, CK.int .i64, CK.int .i64, CK.int .i64, CK.int .i64, CK.int .i64, CK.int .i64, CK.int .i64, CK.int .i64, CK.int .i64, CK.int .i64, CK.int .i64, CK.int .i64, CK.int .i64, CK.int .i64, CK.int .i64, CK.int .i64, CK.int .i64, CK.int .i64, CK.int .i64, CK.int .i64, CK.int .i64, CK.int .i64, CK.int .i64, CK.int .i64, CK.int .i64, CK.int .i64, CK.int .i64, CK.int .i64, CK.int .i64, CK.int .i64, CK.int .i64, CK.int .i64, CK.int .i64, CK.int .i64, CK.int .i64, CK.int .i64, CK.int .i64, CK.int .i64, CK.int .i64, CK.int .i64, CK.int .i64, CK.int .i64, CK.int .i64, CK.int .i64, CK.int .i64, CK.int .i64, CK.int .i64, CK.int .i64, CK.int .i64, CK.int .i64, CK.int .i64, CK.int .i64, CK.int .i64, CK.int .i64, CK.int .i64, CK.int .i64, CK.int .i64, CK.int .i64, CK.int .i64, CK.int .i64, CK.int .i64, CK.int .i64, CK.int .i64, CK.int .i64, CK.int .i64, CK.int .i64, CK.int .i64, CK.int .i64, CK.int .i64, CK.int .i64, CK.int .i64, CK.int .i64] (.var 44) (.lit (1)), .abs 46 2, .abs 41 2, .arr 35 5 [CK.int .u8] (.dtake (.var 19) (.var 5)) (.var 36), .arr 32 5 [CK.int .u8] (.dput (.dtake (.var 19) (.var 5)) (.var 14) 0 (.rcons (.vint .u8 (.arith .xor .u8 (.icell (.dtake (.var 19) (.var 5)) (.var 14) 0) (.var 15))) .rnil)) (.var 33), .cells 28 39 [(.vint .i64 (.var 0)), (.vint .i64 (.var 1)), (.vint .i64 (.var 2)), (.vint .i64 (.var 3)), (.vslice 4 (.lit (0)) (.var 5) (.var 6) 1), (.vslice 7 (.lit (0)) (.var 8) (.var 9) 1), (.vslice 10 (.lit (0)) (.var 11) (.var 12) 1), (.vint .i64 (.var 13)), (.vint .i64 (.var 14)), (.vint .u8 (.var 15)), (.vslice 16 (.lit (0)) (.var 17) (.var 18) 2)]] 47 (.inv 0 48 ⟨1000, [(1008, (.r 47)), (1005, (.t (.var 45))), (1002, (.t (.var 40))), (1007, (.t (.lit (0)))), (1006, (.t (.lit (0)))), (1004, (.t (.var 43))), (1003, (.r 42)), (1001, (.t (.var 38))), (1000, (.r 37))], [((.var 1004), (.var 43)), ((.var 1001), (.var 38)), ((.var 1), (.var 1)), ((.lit (0)), (.lit (0))), ((.var 1), (.var 1)), ((.lit (0)), (.lit (0))), ((.var 1), (.var 1)), ((.var 0), (.var 0))], [], []⟩ (.fresh 48 (.fresh 49 (.fresh 50 (.fresh 51 (.fresh 52 (.fresh 53 (.fresh 54 (.fresh 55 (.fresh 56 (.hyp 0 48 (.br (.cmp .lss (.var 55) (.var 1))
 (.need (.cmp .leq (.lit (0)) (.var 55)) (.need (.cmp .lss (.var 55) (.dlen (.var 50))) (.need (.cmp .lss (.var 55) (.dlen (.var 53))) (.both (.view (.vcell (.var 50) (.var 55) 1) [CK.int .u8] [56, 27] 57 (.both (.view (.vcell (.var 53) (.var 55) 1) [CK.int .u8] [56, 27] 60 (.br (.not (.c2 .veq (.c1 .vbytes (.var 59)) (.c1 .vbytes (.var 62))))
 (.back 0 48 ⟨1000, [(1008, (.r 56)), (1005, (.t (.var 53))), (1002, (.t (.var 50))), (1007, (.t (.arith .add .i64 (.var 55) (.lit (1))))), (1006, (.t (.arith .add .i64 (.var 54) (.lit (1))))), (1004, (.t (.var 52))), (1003, (.r 51)), (1001, (.t (.var 49))), (1000, (.r 48))], [((.var 1004), (.var 52)), ((.var 1001), (.var 49)), ((.var 1), (.var 1)), ((.lit (0)), (.lit (0))), ((.var 1), (.var 1)), ((.lit (0)), (.lit (0))), ((.var 1), (.var 1)), ((.var 0), (.var 0))], [], []⟩)
 (.back 0 48 ⟨1000, [(1008, (.r 56)), (1005, (.t (.var 53))), (1002, (.t (.var 50))), (1007, (.t (.arith .add .i64 (.var 55) (.lit (1))))), (1006, (.t (.var 54))), (1004, (.t (.var 52))), (1003, (.r 51)), (1001, (.t (.var 49))), (1000, (.r 48))], [((.var 1004), (.var 52)), ((.var 1001), (.var 49)), ((.var 1), (.var 1)), ((.lit (0)), (.lit (0))), ((.var 1), (.var 1)), ((.lit (0)), (.lit (0))), ((.var 1), (.var 1)), ((.var 0), (.var 0))], [], []⟩))) .top)) (.both (.view (.vcell (.var 53) (.var 55) 1) [CK.int .u8] [56, 27] 57 (.both (.view (.vcell (.var 50) (.var 55) 1) [CK.int .u8] [56, 27] 60 (.br (.not (.c2 .veq (.c1 .vbytes (.var 62)) (.c1 .vbytes (.var 59))))
 (.back 0 48 ⟨1000, [(1008, (.r 56)), (1005, (.t (.var 53))), (1002, (.t (.var 50))), (1007, (.t (.arith .add .i64 (.var 55) (.lit (1))))), (1006, (.t (.arith .add .i64 (.var 54) (.lit (1))))), (1004, (.t (.var 52))), (1003, (.r 51)), (1001, (.t (.var 49))), (1000, (.r 48))], [((.var 1004), (.var 52)), ((.var 1001), (.var 49)), ((.var 1), (.var 1)), ((.lit (0)), (.lit (0))), ((.var 1), (.var 1)), ((.lit (0)), (.lit (0))), ((.var 1), (.var 1)), ((.var 0), (.var 0))], [], []⟩)
 (.back 0 48 ⟨1000, [(1008, (.r 56)), (1005, (.t (.var 53))), (1002, (.t (.var 50))), (1007, (.t (.arith .add .i64 (.var 55) (.lit (1))))), (1006, (.t (.var 54))), (1004, (.t (.var 52))), (1003, (.r 51)), (1001, (.t (.var 49))), (1000, (.r 48))], [((.var 1004), (.var 52)), ((.var 1001), (.var 49)), ((.var 1), (.var 1)), ((.lit (0)), (.lit (0))), ((.var 1), (.var 1)), ((.lit (0)), (.lit (0))), ((.var 1), (.var 1)), ((.var 0), (.var 0))], [], []⟩))) .top)) .top)))))
 (.br (.cmp .geq (.var 54) (.arith .add .i64 (.arith .sub .i64 (.var 1) (.var 0)) (.lit (1))))
 (.pre 2 ⟨0, [], [], [], []⟩ (.both (.post 2 0 ⟨0, [], [], [], []⟩ 57 (.ret 0 ⟨28, [], [], [((.bl true), (.bl true))], []⟩)) .top))
 (.stuck 7 0 0)))))))))))))))))))))) .top)))))))) .top)))))))))))))))) .top)))))))))))
theorem o_lawDistance_eq : treeOf ⟨Try.prog, lawDistanceC, [newFieldC, encGC, knownC], [disI]⟩ 100000 Try.f7 = o_lawDistance := by kernel_rfl
theorem lawDistance_of (hd : ∀ c ∈ ([newFieldC, encGC, knownC] : List Ctr), c.ok Try.prog) (h : ∀ ρ : Env, ρ.good → (lawDistanceC).pre ρ → o_lawDistance.den ⟨Try.prog, lawDistanceC, [newFieldC, encGC, knownC], [disI]⟩ ρ) : (lawDistanceC).ok Try.prog :=
  ok_of_tree Try.func7 (fun a w => Try.call7 a w) hd 100000 (fun ρ hg hp => by rw [o_lawDistance_eq]; exact h ρ hg hp)
end Go.Proofs

/- Pieces: proofs of the reference's encoding, and of the comparison. -/
set_option linter.unusedSimpArgs false
set_option linter.unusedVariables false
namespace Go.Proofs
open Go Go.Eng
theorem enc_ok : encC.ok Try.prog := Ctr.ok_less encode31_ok rfl rfl rfl rfl rfl (fun ρ h => ⟨h.1, h.2.1, h.2.2, fun hs => by
  obtain ⟨k1, k2, k3⟩ := sizesB_iff.1 hs
  exact top_rank (by omega) (by omega)⟩) fun ρ ρ' ai al hp hag hal hpost => ⟨ai, hal⟩
theorem encG_ok : encGC.ok Try.prog := Ctr.ok_less enc_ok rfl rfl rfl rfl rfl (fun ρ h => h.1) fun ρ ρ' ai al hp hag hal hpost => by
  match ai, hal with
  | 0, hal =>
    exfalso
    obtain rfl := Option.some.inj hal
    have e := upto_at (m := 11) (nv := 9) hag (by omega)
    obtain ⟨_, h2⟩ := hpost
    simp only [show (9 + 2 : Nat) = 11 from rfl, show encC.nv = 9 from rfl] at h2
    rw [e 2 (by omega), e 3 (by omega), e 5 (by omega)] at h2
    obtain ⟨_, p1, p2⟩ := hp
    rcases h2 with ⟨h, _⟩ | ⟨_, h, _⟩
    · rw [p1] at h; cases h
    · omega
  | 1, hal => exact ⟨0, hal⟩
  | n + 2, hal => cases hal
theorem same33n_ok : same33N.ok Try.prog := same33n_of (by simp) fun ρ hg hp => by
  simp [o_same33n, same33N, lawRet]
theorem same33_ok : same33C.ok Try.prog := same33_of (by simp) fun ρ hg hp => by
  obtain ⟨n0, n9, n1, p0, p1⟩ := hp
  simp (config := { maxSteps := 4000000 }) [o_same33, same33C, same33Of, same33IOf]
  refine ⟨n0, n1, fun h hs => h (by have := hs.1; omega), fun hn => ⟨⟨n0, hn, fun j hj => absurd hj (by omega)⟩, fun i _ i0 i1 _ hin => ⟨fun hi => ?_, fun hi => ⟨by rw [hn], fun j hj => hin j (by omega)⟩⟩⟩⟩
  obtain ⟨l1, c1, d1, r1, b1, e1⟩ := pc_atI p0 i0 hi
  obtain ⟨l2, c2, d2, r2, b2, e2⟩ := pc_atI p1 i0 (by omega)
  rw [c1, c2, add64 (by omega) (by omega)]
  have hnext : vStr (.string ⟨(bytesOf d1).toArray⟩) = vStr (.string ⟨(bytesOf d2).toArray⟩) → pcI (ρ 3).d i.i.toNat = pcI (ρ 8).d i.i.toNat → ∀ j : Nat, (j : Int) < i.i + 1 → pcI (ρ 3).d j = pcI (ρ 8).d j ∧ pcD (ρ 10).h (ρ 3).d j = pcD (ρ 10).h (ρ 8).d j := fun h hI j hj => by
    by_cases hj' : j = i.i.toNat
    · subst hj'
      rw [str_eq, str_eq, bytesOf_inj b1 b2] at h
      exact ⟨hI, by rw [e1, e2, h]⟩
    · exact hin j (by omega)
  have hdiff : samePc (ρ 10).h (ρ 10).h (ρ 3).d (ρ 8).d (ρ 1).i.toNat (ρ 6).i.toNat → vStr (.string ⟨(bytesOf d1).toArray⟩) = vStr (.string ⟨(bytesOf d2).toArray⟩) := fun hs => by
    rw [str_eq, str_eq, bytesOf_inj b1 b2, ← e1, ← e2]
    exact (hs.2 _ (by omega)).2
  exact ⟨i0, l1, by omega, l2, fun h hs => h (hs.2 i.i.toNat (by omega)).1, fun hI => ⟨⟨d1, r1, d2, r2, fun h hs => h (hdiff hs), fun h => ⟨⟨by omega, by omega, hn, hnext h hI⟩, by omega⟩⟩, ⟨d2, r2, d1, r1, fun h hs => h (hdiff hs), fun h => ⟨⟨by omega, by omega, hn, hnext h hI⟩, by omega⟩⟩⟩⟩
theorem same33r_ok : same33R.ok Try.prog := same33r_of (by simp) fun ρ hg hp => by
  obtain ⟨n0, n9, n1, p0, p1⟩ := hp
  simp (config := { maxSteps := 4000000 }) [o_same33r, same33R, same33Of, same33IOf]
  refine ⟨n0, n1, fun h hs => h (by have := hs.1; omega), fun hn => ⟨⟨n0, hn, fun j hj => absurd hj (by omega)⟩, fun i _ i0 i1 _ hin => ⟨fun hi => ?_, fun hi => ⟨by rw [hn], fun j hj => hin j (by omega)⟩⟩⟩⟩
  obtain ⟨l1, c1, d1, r1, b1, e1⟩ := pc_atI p0 i0 hi
  obtain ⟨l2, c2, d2, r2, b2, e2⟩ := pc_atI p1 i0 (by omega)
  rw [c1, c2, add64 (by omega) (by omega)]
  have hnext : vStr (.string ⟨(bytesOf d1).toArray⟩) = vStr (.string ⟨(bytesOf d2).toArray⟩) → pcI (ρ 3).d i.i.toNat = pcI (ρ 8).d i.i.toNat → ∀ j : Nat, (j : Int) < i.i + 1 → pcI (ρ 3).d j = pcI (ρ 8).d j ∧ pcD (ρ 10).h (ρ 3).d j = pcD (ρ 11).h (ρ 8).d j := fun h hI j hj => by
    by_cases hj' : j = i.i.toNat
    · subst hj'
      rw [str_eq, str_eq, bytesOf_inj b1 b2] at h
      exact ⟨hI, by rw [e1, e2, h]⟩
    · exact hin j (by omega)
  have hdiff : samePc (ρ 10).h (ρ 11).h (ρ 3).d (ρ 8).d (ρ 1).i.toNat (ρ 6).i.toNat → vStr (.string ⟨(bytesOf d1).toArray⟩) = vStr (.string ⟨(bytesOf d2).toArray⟩) := fun hs => by
    rw [str_eq, str_eq, bytesOf_inj b1 b2, ← e1, ← e2]
    exact (hs.2 _ (by omega)).2
  exact ⟨i0, l1, by omega, l2, fun h hs => h (hs.2 i.i.toNat (by omega)).1, fun hI => ⟨⟨d1, .inl r1, d2, .inr r2, fun h hs => h (hdiff hs), fun h => ⟨⟨by omega, by omega, hn, hnext h hI⟩, by omega⟩⟩, ⟨d2, .inr r2, d1, .inl r1, fun h hs => h (hdiff hs), fun h => ⟨⟨by omega, by omega, hn, hnext h hI⟩, by omega⟩⟩⟩⟩
theorem mix77_ok : mix77C.ok Try.prog := mix77_of (by simp [times53_ok]) fun ρ hg hp => by
  obtain ⟨n0, n9, l0, l1, hw, hwl, hwb, hpc, hlen⟩ := hp
  simp (config := { maxSteps := 4000000 }) [o_mix77, mix77C, mix77Of, mix77I, mix77J, times53C]
  refine ⟨l0, by omega, ⟨n0, allB_rep, by rw [bI_rep]; rfl⟩, fun u _ i _ i0 i1 hul hub hue => ⟨n0, fun hi => ⟨by omega, fun hi6 => ⟨i0, by omega, fun hz => ?_, fun hnz => ?_⟩, fun h => by omega⟩, fun hi => ?_⟩⟩
  · have hwi := bI_get (d := (ρ 8).d) (i := i.i) i0 (by omega)
    rw [add64 (by omega) (by omega)]
    refine ⟨⟨by omega, by omega, hul, hub, ?_⟩, by omega⟩
    have hml : ∀ x ∈ mixN (pcD (ρ 11).h (ρ 3).d) (bI (ρ 8).d) (ρ 10).i.toNat i.i.toNat, 0 ≤ x ∧ x < 256 := by rw [← hue]; exact allB_list hub
    rw [show (i.i + 1).toNat = i.i.toNat + 1 by omega, mixN, List.getD_eq_getElem?_getD, hwi, Option.getD_some, hz, addToL_zero hml, hue]
  · refine ⟨⟨i0, hi, hul, hub, l0, by rw [show seg (pcD (ρ 11).h (ρ 3).d i.i.toNat) 0 0 = [] by simp [seg], addToL_nil]; exact hue⟩, fun o _ j _ c _ j0 j1 hji hol hob c0 c1 hoe => ⟨fun hc => ?_, fun hc => ?_⟩⟩
    · obtain ⟨p1, _, d, hr, hb, hd⟩ := pc_atI hpc j0 j1
      have hdl := hlen j.i.toNat (by omega)
      rw [hd, bI_len] at hdl
      have hwi := bI_get (d := (ρ 8).d) (i := j.i) j0 (by omega)
      have hwB := allB_get hwb (i := j.i) j0 (by omega)
      have hdB := allB_get hb (i := c.i) c0 (by omega)
      have hz := bI_get (d := o.d) (i := c.i) c0 (by omega)
      rw [hoe, addToL_out (by right; rw [hd, seg_len (by rw [bI_len]; omega)]; omega)] at hz
      have hy := bI_get (d := d) (i := c.i) c0 (by omega)
      rw [add64 (by omega) (by omega)]
      have hput : ∀ m : U, m.i = mulF (cellI (ρ 8).d j.i 0) (cellI d c.i 0) → bI (putD o.d c.i 0 [.int .u8 (arithOf .xor .u8 (cellI o.d c.i 0) m.i)]) = addToL (mixN (pcD (ρ 11).h (ρ 3).d) (bI (ρ 8).d) (ρ 10).i.toNat j.i.toNat) 0 (seg (pcD (ρ 11).h (ρ 3).d j.i.toNat) 0 (c.i + 1).toNat) ((bI (ρ 8).d)[j.i.toNat]?.getD 0) := fun m hm => by
        have hst := addToL_step (l := mixN (pcD (ρ 11).h (ρ 3).d) (bI (ρ 8).d) (ρ 10).i.toNat j.i.toNat) (s := bI d) (off := 0) (o := 0) (i := c.i.toNat) (c := cellI (ρ 8).d j.i 0) (by rw [Nat.zero_add]; exact hz) (by rw [Nat.zero_add]; exact hy)
        rw [bI_put, hoe, hm, show (c.i + 1).toNat = c.i.toNat + 1 by omega, hd, hwi, Option.getD_some, hst, Nat.zero_add]
        rfl
      exact ⟨c0, by omega, j0, by omega, by omega, j1, p1, ⟨by omega, d, hr, by omega, ⟨hwB, hdB⟩, fun m _ hm => ⟨⟨j0, j1, hji, by rw [putD_len, hol], allB_put hob xorB_range.1 xorB_range.2, by omega, by omega, hput m hm⟩, by omega⟩⟩,
        ⟨d, hr, by omega, ⟨by omega, ⟨hwB, hdB⟩, fun m _ hm => ⟨⟨j0, j1, hji, by rw [putD_len, hol], allB_put hob xorB_range.1 xorB_range.2, by omega, by omega, hput m hm⟩, by omega⟩⟩, ⟨hwB, hdB⟩, fun m _ hm => ⟨by omega, ⟨j0, j1, hji, by rw [putD_len, hol], allB_put hob xorB_range.1 xorB_range.2, by omega, by omega, hput m hm⟩, by omega⟩⟩⟩
    · have hcl : c.i = (ρ 10).i := by omega
      rw [add64 (by omega) (by omega)]
      refine ⟨⟨by omega, by omega, hol, hob, ?_⟩, by omega⟩
      rw [hoe, hcl, show (j.i + 1).toNat = j.i.toNat + 1 by omega, mixN, List.getD_eq_getElem?_getD]
  · have : i.i = (ρ 1).i := by omega
    rw [this] at hue
    exact ⟨hul, hub, hue⟩
theorem wgt_bytes {xs : List Int} {x : Int} : bytesL (wgtL xs x) := fun y hy => by
  obtain ⟨m, _, rfl⟩ := List.mem_map.1 hy
  exact ofF_isB
theorem split32_ok : split32C.ok Try.prog := split32_of (by simp [sizes29_ok, len27_ok, first79_ok, wgt78_ok, mix77_ok]) fun ρ hg hp => by
  obtain ⟨hlen, hB⟩ := hp
  simp (config := { maxSteps := 4000000 }) [o_split32, split32C, split32I, split32J, split32K, sizes29C, sizes74C, len27C, piece26C, first79C, wgt78C, mix77C, mix77Of]
  intro u7 _ hv
  refine ⟨fun hb => by rw [← hv]; exact hb, fun hb => ?_⟩
  have hsz : sizesB (ρ 0).i (ρ 1).i = true := by rw [← hv]; exact hb
  obtain ⟨k1, k2, k3⟩ := sizesB_iff.1 hsz
  refine ⟨by omega, fun h => ⟨hsz, h⟩, fun hle l0 _ e _ _ hpl u10 _ u11 _ hst => ?_⟩
  have hnb : ¬ pieceBad (ρ 0).i (ρ 3).i := by unfold pieceBad; omega
  obtain ⟨hpl1, _⟩ := hpl hnb
  rw [hlen, pieceLen_tdiv k1] at hpl1
  have hplle := pieceLen_le (k := (ρ 0).i.toNat) (n := (ρ 5).d.length) (by omega)
  have hbb : bytesL (bI (ρ 5).d) := allB_list hB
  refine ⟨⟨⟨hsz, hle, hlen, hB, hpl1, by omega, rfl, rfl, by omega, by omega, fun j hj => absurd hj (by simp)⟩, by omega⟩, ?_⟩
  intro l _ u13 _ n _ u15 _ D _ i _ ab _ hW hik
  have hW' := hW
  obtain ⟨a1, a2, a3, a4, a5, a6, a7, a8, a9, a10, a11⟩ := hW'
  have hlB : (bI (ρ 5).d).length = (ρ 5).d.length := bI_len
  refine ⟨fun hi => ⟨by omega, by omega, fun u19 _ => ⟨⟨hW, hi, by omega, allB_rep, by rw [bI_rep, fillTo_zero]⟩, ?_⟩⟩, fun hi => ?_⟩
  · intro l3 _ u21 _ n3 _ u23 _ D3 _ i3 _ ab3 _ rp _ cp _ pd _ c _ hW3 hi3 hii c0 c1 hpB hpE
    obtain ⟨b1, b2, b3, b4, b5, b6, b7, b8, b9, b10, b11⟩ := hW3
    have hbi := mul_bound (x := i3.i) (y := l3.i) b9 (show i3.i ≤ 255 by omega) (by omega) b6
    have hpdl : pd.d.length = l3.i.toNat := by rw [← bI_len, hpE, fillTo_len]
    have hl3 : l3.i.toNat = pieceLen (ρ 0).i.toNat (bI (ρ 5).d).length := by rw [bI_len]; omega
    have hil : ((i3.i.toNat * l3.i.toNat : Nat) : Int) = i3.i * l3.i := by rw [Int.natCast_mul, Int.toNat_of_nonneg b9, Int.toNat_of_nonneg (by omega)]
    have hfin : (c.i = l3.i ∨ (ρ 3).i ≤ i3.i * l3.i + c.i) → bI pd.d = encP (ρ 0).i.toNat (ρ 1).i.toNat (bI (ρ 5).d) i3.i.toNat := fun hor => by
      have hp := enc_part (k := (ρ 0).i.toNat) (total := (ρ 1).i.toNat) (data := bI (ρ 5).d) (by omega) (by omega) (by omega) hbb (i := i3.i.toNat) (t := c.i.toNat) (by omega) (by
        rw [← hl3, hlB]
        rcases hor with h | h
        · left; omega
        · right; omega) (by rw [← hl3]; omega)
      simp only [List.getD_eq_getElem?_getD] at hp
      rw [← hl3] at hp
      rw [hpE]; exact hp
    have hnext : ∀ {cap : Nat} {H : Hp}, bI pd.d = encP (ρ 0).i.toNat (ρ 1).i.toNat (bI (ρ 5).d) i3.i.toNat → Rd H kB (.slice (addrOf rp.r 0) l3.i.toNat cap) pd.d → Hp.le ab3.h H →
        splitW (ρ 0).i (ρ 1).i (ρ 3).i l3.i (n3.i + 1) (i3.i + 1) (D3.d ++ [[.int .i64 i3.i, .slice (addrOf rp.r 0) l3.i.toNat cap]]) (ρ 5).d H := fun he hr hle => ⟨b1, b2, b3, b4, b5, b6, by omega, by simp; omega, by omega, by omega, by
          rw [show (i3.i + 1).toNat = i3.i.toNat + 1 by omega]
          exact encAt_snoc b11 hle (by omega) (by omega) hr he hpB⟩
    rw [mul64 (by omega) (by omega), add64 (x := i3.i * l3.i) (by omega) (by omega), add64 (x := c.i) (by omega) (by omega), add64 (x := i3.i) (by omega) (by omega)]
    refine ⟨fun hc => ⟨fun hlt => ⟨by omega, by omega, c0, by omega, ⟨⟨b1, b2, b3, b4, b5, b6, b7, b8, b9, b10, b11⟩, hi3, hii, by omega, by omega, ?_, ?_⟩, by omega⟩, fun hge u24 _ => ⟨by omega, by omega, fun u25 _ u26 _ u27 _ hst => ⟨⟨hnext (hfin (.inr hge)) ?_ ?_, by omega⟩, by omega⟩⟩⟩, fun hc u24 _ => ⟨by omega, by omega, fun u25 _ u26 _ u27 _ hst => ⟨⟨hnext (hfin (.inl (by omega))) ?_ ?_, by omega⟩, by omega⟩⟩⟩
    · have := allB_get hB (i := i3.i * l3.i + c.i) (by omega) (by omega)
      exact allB_put hpB this.1 this.2
    · have hg := bI_get (d := (ρ 5).d) (i := i3.i * l3.i + c.i) (by omega) (by omega)
      rw [show (i3.i * l3.i + c.i).toNat = i3.i.toNat * l3.i.toNat + c.i.toNat by omega] at hg
      rw [bI_put, hpE, show (c.i + 1).toNat = c.i.toNat + 1 by omega, fillTo_step (by omega), hg]
      rfl
    · obtain ⟨ha, la, da⟩ := star_mem hst (List.mem_cons_of_mem _ (List.mem_cons_self ..))
      have hr := arr_Rd (n := l3.i.toNat) (k := cp.i.toNat) da la (by simp; omega) (by simp)
      simpa [kB] using hr
    · obtain ⟨hb, lb, db⟩ := star_mem_abs hst (n := 26) (t := 2) (by simp)
      exact Hp.le_trans (by simpa using db) lb
    · obtain ⟨ha, la, da⟩ := star_mem hst (List.mem_cons_of_mem _ (List.mem_cons_self ..))
      have hr := arr_Rd (n := l3.i.toNat) (k := cp.i.toNat) da la (by simp; omega) (by simp)
      simpa [kB] using hr
    · obtain ⟨hb, lb, db⟩ := star_mem_abs hst (n := 26) (t := 2) (by simp)
      exact Hp.le_trans (by simpa using db) lb
  · have hik' : i.i = (ρ 0).i := by omega
    rw [hik'] at hW
    refine ⟨hW, ?_⟩
    intro l4 _ u13 _ n4 _ cp4 _ D4 _ i4 _ ab4 _ hW4 hk4
    obtain ⟨b1, b2, b3, b4, b5, b6, b7, b8, b9, b10, b11⟩ := hW4
    refine ⟨fun hi hcap => ?_, fun hi => ?_⟩
    · refine ⟨by omega, by omega, by omega, by omega, ⟨by omega, by omega⟩, fun r1 _ c1 _ d1 _ hd1 => ?_⟩
      have hl1 : d1.d.length = (ρ 0).i.toNat := by rw [← bI_len, hd1, first_len]
      have hw : IntKind.u8.wrap i4.i = i4.i := by simp [IntKind.wrap, IntKind.bits, IntKind.signed]; omega
      rw [hw, hd1]
      refine ⟨⟨by omega, by omega, by omega, allB_of (by rw [hd1]; exact first_bytes (by omega)), ⟨by omega, by omega⟩, first_dist (by omega)⟩, fun r2 _ c2 _ d2 _ hc2 hd2 => ?_⟩
      have hl2 : d2.d.length = (ρ 0).i.toNat := by rw [← bI_len, hd2, wgtL_len, first_len]
      have hpc := enc_pc b11
      have hl4 : l4.i.toNat = pieceLen (ρ 0).i.toNat (bI (ρ 5).d).length := by rw [bI_len]; omega
      refine ⟨⟨by omega, by omega, by omega, by omega, by omega, allB_of (by rw [hd2]; exact wgt_bytes), fun j hj => hpc.1 j (by omega), fun j hj => ?_⟩, fun r3 _ c3 _ d3 _ hl3 hB3 hE3 u28 _ => ⟨by omega, by omega, fun u29 _ u30 _ u31 _ hst => ?_⟩⟩
      · rw [(hpc.2 j (by omega)).2, (enc_facts (by omega) (by omega) (by omega) hbb j).1, ← hl4]
        omega
      rw [add64 (x := i4.i) (by omega) (by omega)]
      refine ⟨⟨⟨b1, b2, b3, b4, b5, b6, by omega, by simp; omega, by omega, by omega, ?_⟩, by omega⟩, by omega⟩
      obtain ⟨ha, la, da⟩ := star_mem hst (List.mem_cons_of_mem _ (List.mem_cons_self ..))
      obtain ⟨hb, lb, db⟩ := star_mem_abs hst (n := 25) (t := 2) (by simp)
      have hr := arr_Rd (n := l4.i.toNat) (k := c3.i.toNat) da la (by simp; omega) (by simp)
      have hr : Rd u31.h kB (.slice (addrOf r3.r 0) l4.i.toNat c3.i.toNat) d3.d := by simpa [kB] using hr
      rw [show (i4.i + 1).toNat = i4.i.toNat + 1 by omega]
      refine encAt_snoc b11 (Hp.le_trans (by simpa using db) lb) (by omega) (by omega) hr ?_ hB3
      have hm := enc_mix (k := (ρ 0).i.toNat) (total := (ρ 1).i.toNat) (data := bI (ρ 5).d) (by omega) (by omega) (by omega) hbb (i := i4.i.toNat) (by omega) (f := pcD ab4.h D4.d) fun j hj => (hpc.2 j (by omega)).2
      rw [hE3, hd2, hl4, ← hm, Int.toNat_of_nonneg b9]
    · have : i4.i = (ρ 1).i := by omega
      rw [this] at b11
      exact ⟨by omega, hsz, hle, by omega, b11⟩
theorem enc_same {h : Hp} {D D' : Rows'} {n : Nat} {f : Nat → List Int} (h1 : encAt h D n f) (h2 : encAt h D' n f) : samePc h h D D' n n := ⟨rfl, fun j hj => by
  have a := (enc_pc h1).2 j hj
  have b := (enc_pc h2).2 j hj
  exact ⟨a.1.trans b.1.symm, a.2.trans b.2.symm⟩⟩
theorem err_eq {s : Bool} {l a b : Int} (h : (s = false ∧ a = 2) ∨ (s = true ∧ 8192 < l ∧ a = 3)) (h' : (s = false ∧ b = 2) ∨ (s = true ∧ 8192 < l ∧ b = 3)) : a = b := by
  rcases h with ⟨h1, h2⟩ | ⟨h1, _, h2⟩ <;> rcases h' with ⟨h3, h4⟩ | ⟨h3, _, h4⟩
  · rw [h2, h4]
  · rw [h1] at h3; cases h3
  · rw [h1] at h3; cases h3
  · rw [h2, h4]
theorem err_ok {s : Bool} {l a : Int} (h : (s = false ∧ a = 2) ∨ (s = true ∧ 8192 < l ∧ a = 3)) (hs : s = true) (hl : l ≤ 8192) : False := by
  rcases h with ⟨h1, h2⟩ | ⟨h1, h2, _⟩
  · rw [h1] at hs; cases hs
  · omega
set_option pp.deepTerms true in
set_option pp.maxSteps 1000000 in
theorem lawEncodes_ok : lawEncodesC.ok Try.prog := lawEncodes_of (by simp [sizes29_ok, newField_ok, enc_ok, split32_ok, same33_ok, same33n_ok, known_ok]) fun ρ hg hp => by
  obtain ⟨a0, a1, a2, a3, a4⟩ := hp
  simp (config := { maxSteps := 4000000 }) [o_lawEncodes, lawEncodesC, lawIs, lawRet, sizes29C, sizes74C, newFieldC, encC, encode31C, split32C, same33C, same33Of, same33N, knownC]
  have hte : (ρ 5).d.take (ρ 3).i.toNat = (ρ 5).d := List.take_of_length_le (by omega)
  rw [hte]
  try rw [hte]
  refine ⟨fun _ u _ _ _ => ⟨a0, fun h10 u1 _ => ?_⟩, fun _ => ⟨a0, fun h10 u1 _ => ?_⟩⟩
  ·
    refine ⟨by omega, by omega, fun _ _ _ _ _ _ f0 _ hf0 => ⟨⟨.inl hf0, by omega, a3⟩, fun e _ _ _ _ he => ⟨⟨a2, a3⟩, fun e2 _ he2 => ⟨fun _ => ⟨by omega, rfl⟩, err_eq he he2⟩, fun _ _ _ _ hs hl _ _ => (err_ok he hs hl).elim⟩, fun _ _ _ _ _ _ D1 _ h1 _ _ hs hl hD1 hE1 => ⟨⟨a2, a3⟩, fun e2 _ he2 => (err_ok he2 hs hl).elim, fun _ _ _ _ D2 _ h2 _ _ _ hD2 hE2 H _ hst => ?_⟩⟩⟩
    obtain ⟨k1, k2, k3⟩ := sizesB_iff.1 hs
    obtain ⟨hb1, lb1, db1⟩ := star_mem_abs hst (n := 21) (t := 2) (by simp)
    obtain ⟨hb2, lb2, db2⟩ := star_mem_abs hst (n := 17) (t := 2) (by simp)
    have E2 := encAt_mono hE2 (Hp.le_trans (by simpa using db1) lb1 : Hp.le h2.h H.h)
    have E1 := encAt_mono hE1 (Hp.le_trans (by simpa using db2) lb2 : Hp.le h1.h H.h)
    exact ⟨⟨by omega, by omega, by omega, (enc_pc E1).1, (enc_pc E2).1⟩, fun b _ hb => ⟨fun _ => ⟨by omega, rfl⟩, hb.2 (enc_same E1 E2)⟩⟩
  ·
    refine ⟨by omega, by omega, fun _ _ _ _ _ _ f0 _ hf0 => ⟨⟨.inl hf0, by omega, a3⟩, fun e _ _ _ _ he => ⟨⟨a2, a3⟩, fun e2 _ he2 => ⟨fun _ => ⟨by omega, rfl⟩, err_eq he he2⟩, fun _ _ _ _ hs hl _ _ => (err_ok he hs hl).elim⟩, fun _ _ _ _ _ _ D1 _ h1 _ _ hs hl hD1 hE1 => ⟨⟨a2, a3⟩, fun e2 _ he2 => (err_ok he2 hs hl).elim, fun _ _ _ _ D2 _ h2 _ _ _ hD2 hE2 H _ hst => ?_⟩⟩⟩
    obtain ⟨k1, k2, k3⟩ := sizesB_iff.1 hs
    obtain ⟨hb1, lb1, db1⟩ := star_mem_abs hst (n := 20) (t := 2) (by simp)
    obtain ⟨hb2, lb2, db2⟩ := star_mem_abs hst (n := 16) (t := 2) (by simp)
    have E2 := encAt_mono hE2 (Hp.le_trans (by simpa using db1) lb1 : Hp.le h2.h H.h)
    have E1 := encAt_mono hE1 (Hp.le_trans (by simpa using db2) lb2 : Hp.le h1.h H.h)
    exact ⟨⟨by omega, by omega, by omega, (enc_pc E1).1, (enc_pc E2).1⟩, fun b _ hb => ⟨fun _ => ⟨by omega, rfl⟩, hb.2 (enc_same E1 E2)⟩⟩
end Go.Proofs
