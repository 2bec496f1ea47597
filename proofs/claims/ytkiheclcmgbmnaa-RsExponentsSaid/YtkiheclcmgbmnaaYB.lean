import Derived.Test.YtkiheclcmgbmnaaYA
import Derived.Test.YtkiheclcmgbmnaaProg
set_option linter.unusedSimpArgs false
set_option linter.unusedVariables false
set_option maxRecDepth 100000
namespace Go.Proofs
open Go Go.Eng

def o_len27 : Out := (.br (.cmp .lss (.var 0) (.lit (1)))
 (.ret 0 ⟨2, [(3, (.t (.lit (2)))), (2, (.t (.lit (0))))], [], [], []⟩)
 (.br (.cmp .gtr (.var 0) (.lit (255)))
 (.ret 0 ⟨2, [(3, (.t (.lit (2)))), (2, (.t (.lit (0))))], [], [], []⟩)
 (.br (.cmp .lss (.var 1) (.lit (0)))
 (.ret 0 ⟨2, [(3, (.t (.lit (2)))), (2, (.t (.lit (0))))], [], [], []⟩)
 (.br (.cmp .gtr (.var 1) (.lit (8192)))
 (.ret 0 ⟨2, [(3, (.t (.lit (2)))), (2, (.t (.lit (0))))], [], [], []⟩)
 (.inv 0 2 ⟨1000, [(1000, (.t (.lit (0))))], [((.var 1), (.var 1)), ((.var 0), (.var 0))], [], []⟩ (.fresh 2 (.hyp 0 2 (.br (.cmp .lss (.arith .mul .i64 (.var 0) (.var 2)) (.var 1))
 (.back 0 2 ⟨1000, [(1000, (.t (.arith .add .i64 (.var 2) (.lit (1)))))], [((.var 1), (.var 1)), ((.var 0), (.var 0))], [], []⟩)
 (.ret 0 ⟨2, [(3, (.t (.lit (0)))), (2, (.t (.var 2)))], [], [], []⟩)))))))))
theorem o_len27_eq : treeOf ⟨Try.prog, len27C, [], [len27I]⟩ 100000 Try.f27 = o_len27 := by kernel_rfl
theorem len27_of (hd : ∀ c ∈ ([] : List Ctr), c.ok Try.prog) (h : ∀ ρ : Env, ρ.good → (len27C).pre ρ → o_len27.den ⟨Try.prog, len27C, [], [len27I]⟩ ρ) : (len27C).ok Try.prog :=
  ok_of_tree Try.func27 (fun a w => Try.call27 a w) hd 100000 (fun ρ hg hp => by rw [o_len27_eq]; exact h ρ hg hp)
def o_lawSizes : Out := (.pre 0 ⟨0, [(1, (.t (.var 1))), (0, (.t (.var 0)))], [], [], []⟩ (.both (.fresh 2 (.fresh 3 (.post 0 0 ⟨0, [(1, (.t (.var 1))), (0, (.t (.var 0)))], [], [], []⟩ 2 (.pre 1 ⟨0, [(1, (.t (.var 1))), (0, (.t (.var 0)))], [], [], []⟩ (.both (.fresh 4 (.fresh 5 (.post 1 0 ⟨0, [(1, (.t (.var 1))), (0, (.t (.var 0)))], [], [], []⟩ 4 (.br (.cmp .eql (.var 2) (.var 4))
 (.br (.cmp .eql (.var 3) (.var 5))
 (.pre 2 ⟨0, [], [], [], []⟩ (.both (.post 2 0 ⟨0, [], [], [], []⟩ 6 (.ret 0 ⟨2, [], [], [((.bl true), (.bl true))], []⟩)) .top))
 (.stuck 7 0 0))
 (.stuck 7 0 0))))) .top))))) .top))
theorem o_lawSizes_eq : treeOf ⟨Try.prog, lawSizesC, [piece26C, len27C, knownC], []⟩ 100000 Try.f3 = o_lawSizes := by kernel_rfl
theorem lawSizes_of (hd : ∀ c ∈ ([piece26C, len27C, knownC] : List Ctr), c.ok Try.prog) (h : ∀ ρ : Env, ρ.good → (lawSizesC).pre ρ → o_lawSizes.den ⟨Try.prog, lawSizesC, [piece26C, len27C, knownC], []⟩ ρ) : (lawSizesC).ok Try.prog :=
  ok_of_tree Try.func3 (fun a w => Try.call3 a w) hd 100000 (fun ρ hg hp => by rw [o_lawSizes_eq]; exact h ρ hg hp)
def o_times53 : Out := (.inv 0 2 ⟨1000, [(1002, (.t (.lit (0)))), (1001, (.t (.lit (0)))), (1000, (.t (.var 0)))], [((.var 1), (.var 1))], [], []⟩ (.fresh 2 (.fresh 3 (.fresh 4 (.hyp 0 2 (.br (.cmp .lss (.var 4) (.lit (8)))
 (.need (.cmp .geq (.conv .u64 (.var 4)) (.lit (0))) (.br (.cmp .neq (.arith .and .u8 (.var 1) (.arith .shl .u8 (.lit (1)) (.conv .u64 (.var 4)))) (.lit (0)))
 (.br (.cmp .neq (.arith .and .u8 (.var 2) (.lit (128))) (.lit (0)))
 (.back 0 2 ⟨1000, [(1002, (.t (.arith .add .i64 (.var 4) (.lit (1))))), (1001, (.t (.arith .xor .u8 (.var 3) (.var 2)))), (1000, (.t (.arith .xor .u8 (.arith .shl .u8 (.var 2) (.lit (1))) (.lit (29)))))], [((.var 1), (.var 1))], [], []⟩)
 (.back 0 2 ⟨1000, [(1002, (.t (.arith .add .i64 (.var 4) (.lit (1))))), (1001, (.t (.arith .xor .u8 (.var 3) (.var 2)))), (1000, (.t (.arith .shl .u8 (.var 2) (.lit (1)))))], [((.var 1), (.var 1))], [], []⟩))
 (.br (.cmp .neq (.arith .and .u8 (.var 2) (.lit (128))) (.lit (0)))
 (.back 0 2 ⟨1000, [(1002, (.t (.arith .add .i64 (.var 4) (.lit (1))))), (1001, (.t (.var 3))), (1000, (.t (.arith .xor .u8 (.arith .shl .u8 (.var 2) (.lit (1))) (.lit (29)))))], [((.var 1), (.var 1))], [], []⟩)
 (.back 0 2 ⟨1000, [(1002, (.t (.arith .add .i64 (.var 4) (.lit (1))))), (1001, (.t (.var 3))), (1000, (.t (.arith .shl .u8 (.var 2) (.lit (1)))))], [((.var 1), (.var 1))], [], []⟩))))
 (.ret 0 ⟨2, [(2, (.t (.var 3)))], [], [], []⟩)))))))
theorem o_times53_eq : treeOf ⟨Try.prog, times53C, [], [times53I]⟩ 100000 Try.f53 = o_times53 := by kernel_rfl
theorem times53_of (hd : ∀ c ∈ ([] : List Ctr), c.ok Try.prog) (h : ∀ ρ : Env, ρ.good → (times53C).pre ρ → o_times53.den ⟨Try.prog, times53C, [], [times53I]⟩ ρ) : (times53C).ok Try.prog :=
  ok_of_tree Try.func53 (fun a w => Try.call53 a w) hd 100000 (fun ρ hg hp => by rw [o_times53_eq]; exact h ρ hg hp)
def o_over54 : Out := (.inv 0 1 ⟨1000, [(1000, (.t (.lit (1))))], [((.var 0), (.var 0))], [], []⟩ (.fresh 1 (.hyp 0 1 (.br (.cmp .lss (.var 1) (.lit (256)))
 (.pre 0 ⟨0, [(1, (.t (.conv .u8 (.var 1)))), (0, (.t (.var 0)))], [], [], []⟩ (.both (.fresh 2 (.post 0 0 ⟨0, [(1, (.t (.conv .u8 (.var 1)))), (0, (.t (.var 0)))], [], [], []⟩ 2 (.br (.cmp .eql (.var 2) (.lit (1)))
 (.ret 0 ⟨1, [(1, (.t (.conv .u8 (.var 1))))], [], [], []⟩)
 (.back 0 1 ⟨1000, [(1000, (.t (.arith .add .i64 (.var 1) (.lit (1)))))], [((.var 0), (.var 0))], [], []⟩)))) .top))
 (.ret 0 ⟨1, [(1, (.t (.lit (0))))], [], [], []⟩)))))
theorem o_over54_eq : treeOf ⟨Try.prog, over54C, [times53C], [over54I]⟩ 100000 Try.f54 = o_over54 := by kernel_rfl
theorem over54_of (hd : ∀ c ∈ ([times53C] : List Ctr), c.ok Try.prog) (h : ∀ ρ : Env, ρ.good → (over54C).pre ρ → o_over54.den ⟨Try.prog, over54C, [times53C], [over54I]⟩ ρ) : (over54C).ok Try.prog :=
  ok_of_tree Try.func54 (fun a w => Try.call54 a w) hd 100000 (fun ρ hg hp => by rw [o_over54_eq]; exact h ρ hg hp)
def o_power38 : Out := (.br (.cmp .leq (.var 1) (.lit (0)))
 (.ret 0 ⟨2, [(2, (.t (.lit (1))))], [], [], []⟩)
 (.br (.cmp .eql (.var 0) (.lit (0)))
 (.ret 0 ⟨2, [(2, (.t (.lit (0))))], [], [], []⟩)
 (.inv 0 2 ⟨1000, [(1001, (.t (.lit (0)))), (1000, (.t (.lit (1))))], [((.var 1), (.var 1)), ((.var 0), (.var 0))], [], []⟩ (.fresh 2 (.fresh 3 (.hyp 0 2 (.br (.cmp .lss (.var 3) (.arith .rem .i64 (.var 1) (.lit (255))))
 (.pre 0 ⟨0, [(1, (.t (.var 0))), (0, (.t (.var 2)))], [], [], []⟩ (.both (.fresh 4 (.post 0 0 ⟨0, [(1, (.t (.var 0))), (0, (.t (.var 2)))], [], [], []⟩ 4 (.back 0 2 ⟨1000, [(1001, (.t (.arith .add .i64 (.var 3) (.lit (1))))), (1000, (.t (.var 4)))], [((.var 1), (.var 1)), ((.var 0), (.var 0))], [], []⟩))) .top))
 (.ret 0 ⟨2, [(2, (.t (.var 2)))], [], [], []⟩))))))))
theorem o_power38_eq : treeOf ⟨Try.prog, power38C, [times53C], [power38I]⟩ 100000 Try.f38 = o_power38 := by kernel_rfl
theorem power38_of (hd : ∀ c ∈ ([times53C] : List Ctr), c.ok Try.prog) (h : ∀ ρ : Env, ρ.good → (power38C).pre ρ → o_power38.den ⟨Try.prog, power38C, [times53C], [power38I]⟩ ρ) : (power38C).ok Try.prog :=
  ok_of_tree Try.func38 (fun a w => Try.call38 a w) hd 100000 (fun ρ hg hp => by rw [o_power38_eq]; exact h ρ hg hp)
def o_lawMultiplies : Out := (.pre 0 ⟨0, [], [], [], []⟩ (.both (.fresh 2 (.fresh 3 (.post 0 0 ⟨0, [], [], [], []⟩ 2 (.pre 1 ⟨0, [(1, (.t (.var 3))), (2, (.t (.var 0))), (0, (.r 2))], [((.lit (1)), (.lit (1))), ((.lit (0)), (.lit (0)))], [], []⟩ (.both (.fresh 4 (.fresh 5 (.fresh 6 (.post 1 0 ⟨0, [(1, (.t (.var 3))), (2, (.t (.var 0))), (0, (.r 2))], [((.lit (1)), (.lit (1))), ((.lit (0)), (.lit (0)))], [], []⟩ 4 (.pre 2 ⟨0, [(1, (.t (.var 6))), (3, (.t (.var 1))), (2, (.t (.var 0))), (0, (.r 2))], [((.lit (1)), (.lit (1))), ((.lit (0)), (.lit (0)))], [], []⟩ (.both (.fresh 7 (.fresh 8 (.fresh 9 (.post 2 0 ⟨0, [(1, (.t (.var 6))), (3, (.t (.var 1))), (2, (.t (.var 0))), (0, (.r 2))], [((.lit (1)), (.lit (1))), ((.lit (0)), (.lit (0)))], [], []⟩ 7 (.pre 3 ⟨0, [(1, (.t (.var 1))), (0, (.t (.var 0)))], [], [], []⟩ (.both (.post 3 0 ⟨0, [(1, (.t (.var 1))), (0, (.t (.var 0)))], [], [], []⟩ 10 (.pre 4 ⟨0, [(1, (.t (.var 9))), (3, (.t (.var 1))), (2, (.t (.var 0))), (0, (.r 2))], [((.lit (1)), (.lit (1))), ((.lit (0)), (.lit (0)))], [], []⟩ (.both (.fresh 10 (.fresh 11 (.post 4 0 ⟨0, [(1, (.t (.var 9))), (3, (.t (.var 1))), (2, (.t (.var 0))), (0, (.r 2))], [((.lit (1)), (.lit (1))), ((.lit (0)), (.lit (0)))], [], []⟩ 10 (.pre 5 ⟨0, [(1, (.t (.var 1))), (0, (.t (.var 0)))], [], [], []⟩ (.both (.fresh 12 (.post 5 0 ⟨0, [(1, (.t (.var 1))), (0, (.t (.var 0)))], [], [], []⟩ 12 (.br (.cmp .neq (.var 10) (.var 12))
 (.stuck 7 0 0)
 (.pre 6 ⟨0, [(0, (.t (.var 0)))], [], [], []⟩ (.both (.fresh 13 (.post 6 0 ⟨0, [(0, (.t (.var 0)))], [], [], []⟩ 13 (.br (.cmp .neq (.var 4) (.var 13))
 (.stuck 7 0 0)
 (.br (.not (.beq (.cmp .eql (.var 5) (.lit (0))) (.cmp .neq (.var 0) (.lit (0)))))
 (.stuck 7 0 0)
 (.br (.not (.beq (.cmp .eql (.var 8) (.lit (0))) (.cmp .neq (.var 1) (.lit (0)))))
 (.stuck 7 0 0)
 (.br (.cmp .neq (.var 0) (.lit (0)))
 (.br (.cmp .neq (.var 1) (.lit (0)))
 (.pre 6 ⟨0, [(0, (.t (.var 1)))], [], [], []⟩ (.both (.fresh 14 (.post 6 0 ⟨0, [(0, (.t (.var 1)))], [], [], []⟩ 14 (.pre 5 ⟨0, [(1, (.t (.var 14))), (0, (.t (.var 0)))], [], [], []⟩ (.both (.fresh 15 (.post 5 0 ⟨0, [(1, (.t (.var 14))), (0, (.t (.var 0)))], [], [], []⟩ 15 (.br (.cmp .eql (.var 7) (.var 15))
 (.pre 7 ⟨0, [], [], [], []⟩ (.both (.post 7 0 ⟨0, [], [], [], []⟩ 16 (.ret 0 ⟨2, [], [], [((.bl true), (.bl true))], []⟩)) .top))
 (.stuck 7 0 0)))) .top)))) .top))
 (.br (.cmp .eql (.var 8) (.lit (2)))
 (.pre 6 ⟨0, [(0, (.t (.var 1)))], [], [], []⟩ (.both (.fresh 14 (.post 6 0 ⟨0, [(0, (.t (.var 1)))], [], [], []⟩ 14 (.pre 5 ⟨0, [(1, (.t (.var 14))), (0, (.t (.var 0)))], [], [], []⟩ (.both (.fresh 15 (.post 5 0 ⟨0, [(1, (.t (.var 14))), (0, (.t (.var 0)))], [], [], []⟩ 15 (.br (.cmp .eql (.var 7) (.var 15))
 (.pre 7 ⟨0, [], [], [], []⟩ (.both (.post 7 0 ⟨0, [], [], [], []⟩ 16 (.ret 0 ⟨2, [], [], [((.bl true), (.bl true))], []⟩)) .top))
 (.stuck 7 0 0)))) .top)))) .top))
 (.stuck 7 0 0)))
 (.br (.cmp .eql (.var 5) (.lit (2)))
 (.br (.cmp .neq (.var 1) (.lit (0)))
 (.pre 6 ⟨0, [(0, (.t (.var 1)))], [], [], []⟩ (.both (.fresh 14 (.post 6 0 ⟨0, [(0, (.t (.var 1)))], [], [], []⟩ 14 (.pre 5 ⟨0, [(1, (.t (.var 14))), (0, (.t (.var 0)))], [], [], []⟩ (.both (.fresh 15 (.post 5 0 ⟨0, [(1, (.t (.var 14))), (0, (.t (.var 0)))], [], [], []⟩ 15 (.br (.cmp .eql (.var 7) (.var 15))
 (.pre 7 ⟨0, [], [], [], []⟩ (.both (.post 7 0 ⟨0, [], [], [], []⟩ 16 (.ret 0 ⟨2, [], [], [((.bl true), (.bl true))], []⟩)) .top))
 (.stuck 7 0 0)))) .top)))) .top))
 (.br (.cmp .eql (.var 8) (.lit (2)))
 (.pre 6 ⟨0, [(0, (.t (.var 1)))], [], [], []⟩ (.both (.fresh 14 (.post 6 0 ⟨0, [(0, (.t (.var 1)))], [], [], []⟩ 14 (.pre 5 ⟨0, [(1, (.t (.var 14))), (0, (.t (.var 0)))], [], [], []⟩ (.both (.fresh 15 (.post 5 0 ⟨0, [(1, (.t (.var 14))), (0, (.t (.var 0)))], [], [], []⟩ 15 (.br (.cmp .eql (.var 7) (.var 15))
 (.pre 7 ⟨0, [], [], [], []⟩ (.both (.post 7 0 ⟨0, [], [], [], []⟩ 16 (.ret 0 ⟨2, [], [], [((.bl true), (.bl true))], []⟩)) .top))
 (.stuck 7 0 0)))) .top)))) .top))
 (.stuck 7 0 0)))
 (.stuck 7 0 0)))))))) .top))))) .top))))) .top))) .top)))))) .top)))))) .top))))) .top))
theorem o_lawMultiplies_eq : treeOf ⟨Try.prog, lawMultipliesC, [newFieldC, inv51C, div52C, add34C, mulC, times53C, over54C, knownC], []⟩ 100000 Try.f13 = o_lawMultiplies := by kernel_rfl
theorem lawMultiplies_of (hd : ∀ c ∈ ([newFieldC, inv51C, div52C, add34C, mulC, times53C, over54C, knownC] : List Ctr), c.ok Try.prog) (h : ∀ ρ : Env, ρ.good → (lawMultipliesC).pre ρ → o_lawMultiplies.den ⟨Try.prog, lawMultipliesC, [newFieldC, inv51C, div52C, add34C, mulC, times53C, over54C, knownC], []⟩ ρ) : (lawMultipliesC).ok Try.prog :=
  ok_of_tree Try.func13 (fun a w => Try.call13 a w) hd 100000 (fun ρ hg hp => by rw [o_lawMultiplies_eq]; exact h ρ hg hp)
def o_lawField : Out := (.pre 0 ⟨0, [], [], [], []⟩ (.both (.fresh 3 (.fresh 4 (.post 0 0 ⟨0, [], [], [], []⟩ 3 (.pre 1 ⟨0, [(1, (.t (.var 4))), (3, (.t (.var 1))), (2, (.t (.var 0))), (0, (.r 3))], [((.lit (1)), (.lit (1))), ((.lit (0)), (.lit (0)))], [], []⟩ (.both (.fresh 5 (.fresh 6 (.post 1 0 ⟨0, [(1, (.t (.var 4))), (3, (.t (.var 1))), (2, (.t (.var 0))), (0, (.r 3))], [((.lit (1)), (.lit (1))), ((.lit (0)), (.lit (0)))], [], []⟩ 5 (.pre 1 ⟨0, [(1, (.t (.var 6))), (3, (.t (.var 0))), (2, (.t (.var 1))), (0, (.r 3))], [((.lit (1)), (.lit (1))), ((.lit (0)), (.lit (0)))], [], []⟩ (.both (.fresh 7 (.fresh 8 (.post 1 0 ⟨0, [(1, (.t (.var 6))), (3, (.t (.var 0))), (2, (.t (.var 1))), (0, (.r 3))], [((.lit (1)), (.lit (1))), ((.lit (0)), (.lit (0)))], [], []⟩ 7 (.br (.cmp .neq (.var 5) (.var 7))
 (.stuck 7 0 0)
 (.pre 1 ⟨0, [(1, (.t (.var 8))), (3, (.t (.var 1))), (2, (.t (.var 0))), (0, (.r 3))], [((.lit (1)), (.lit (1))), ((.lit (0)), (.lit (0)))], [], []⟩ (.both (.fresh 9 (.fresh 10 (.post 1 0 ⟨0, [(1, (.t (.var 8))), (3, (.t (.var 1))), (2, (.t (.var 0))), (0, (.r 3))], [((.lit (1)), (.lit (1))), ((.lit (0)), (.lit (0)))], [], []⟩ 9 (.pre 1 ⟨0, [(1, (.t (.var 10))), (3, (.t (.var 2))), (2, (.t (.var 9))), (0, (.r 3))], [((.lit (1)), (.lit (1))), ((.lit (0)), (.lit (0)))], [], []⟩ (.both (.fresh 11 (.fresh 12 (.post 1 0 ⟨0, [(1, (.t (.var 10))), (3, (.t (.var 2))), (2, (.t (.var 9))), (0, (.r 3))], [((.lit (1)), (.lit (1))), ((.lit (0)), (.lit (0)))], [], []⟩ 11 (.pre 1 ⟨0, [(1, (.t (.var 12))), (3, (.t (.var 2))), (2, (.t (.var 1))), (0, (.r 3))], [((.lit (1)), (.lit (1))), ((.lit (0)), (.lit (0)))], [], []⟩ (.both (.fresh 13 (.fresh 14 (.post 1 0 ⟨0, [(1, (.t (.var 12))), (3, (.t (.var 2))), (2, (.t (.var 1))), (0, (.r 3))], [((.lit (1)), (.lit (1))), ((.lit (0)), (.lit (0)))], [], []⟩ 13 (.pre 1 ⟨0, [(1, (.t (.var 14))), (3, (.t (.var 13))), (2, (.t (.var 0))), (0, (.r 3))], [((.lit (1)), (.lit (1))), ((.lit (0)), (.lit (0)))], [], []⟩ (.both (.fresh 15 (.fresh 16 (.post 1 0 ⟨0, [(1, (.t (.var 14))), (3, (.t (.var 13))), (2, (.t (.var 0))), (0, (.r 3))], [((.lit (1)), (.lit (1))), ((.lit (0)), (.lit (0)))], [], []⟩ 15 (.br (.cmp .neq (.var 11) (.var 15))
 (.stuck 7 0 0)
 (.pre 1 ⟨0, [(1, (.t (.var 16))), (3, (.t (.lit (1)))), (2, (.t (.var 0))), (0, (.r 3))], [((.lit (1)), (.lit (1))), ((.lit (0)), (.lit (0)))], [], []⟩ (.both (.fresh 17 (.fresh 18 (.post 1 0 ⟨0, [(1, (.t (.var 16))), (3, (.t (.lit (1)))), (2, (.t (.var 0))), (0, (.r 3))], [((.lit (1)), (.lit (1))), ((.lit (0)), (.lit (0)))], [], []⟩ 17 (.br (.cmp .neq (.var 17) (.var 0))
 (.stuck 7 0 0)
 (.pre 1 ⟨0, [(1, (.t (.var 18))), (3, (.t (.lit (0)))), (2, (.t (.var 0))), (0, (.r 3))], [((.lit (1)), (.lit (1))), ((.lit (0)), (.lit (0)))], [], []⟩ (.both (.fresh 19 (.fresh 20 (.post 1 0 ⟨0, [(1, (.t (.var 18))), (3, (.t (.lit (0)))), (2, (.t (.var 0))), (0, (.r 3))], [((.lit (1)), (.lit (1))), ((.lit (0)), (.lit (0)))], [], []⟩ 19 (.br (.cmp .neq (.var 19) (.lit (0)))
 (.stuck 7 0 0)
 (.pre 2 ⟨0, [(1, (.t (.var 2))), (0, (.t (.var 1)))], [], [], []⟩ (.both (.post 2 0 ⟨0, [(1, (.t (.var 2))), (0, (.t (.var 1)))], [], [], []⟩ 21 (.pre 1 ⟨0, [(1, (.t (.var 20))), (3, (.t (.arith .xor .u8 (.var 1) (.var 2)))), (2, (.t (.var 0))), (0, (.r 3))], [((.lit (1)), (.lit (1))), ((.lit (0)), (.lit (0)))], [], []⟩ (.both (.fresh 21 (.fresh 22 (.post 1 0 ⟨0, [(1, (.t (.var 20))), (3, (.t (.arith .xor .u8 (.var 1) (.var 2)))), (2, (.t (.var 0))), (0, (.r 3))], [((.lit (1)), (.lit (1))), ((.lit (0)), (.lit (0)))], [], []⟩ 21 (.pre 1 ⟨0, [(1, (.t (.var 22))), (3, (.t (.var 1))), (2, (.t (.var 0))), (0, (.r 3))], [((.lit (1)), (.lit (1))), ((.lit (0)), (.lit (0)))], [], []⟩ (.both (.fresh 23 (.fresh 24 (.post 1 0 ⟨0, [(1, (.t (.var 22))), (3, (.t (.var 1))), (2, (.t (.var 0))), (0, (.r 3))], [((.lit (1)), (.lit (1))), ((.lit (0)), (.lit (0)))], [], []⟩ 23 (.pre 1 ⟨0, [(1, (.t (.var 24))), (3, (.t (.var 2))), (2, (.t (.var 0))), (0, (.r 3))], [((.lit (1)), (.lit (1))), ((.lit (0)), (.lit (0)))], [], []⟩ (.both (.fresh 25 (.fresh 26 (.post 1 0 ⟨0, [(1, (.t (.var 24))), (3, (.t (.var 2))), (2, (.t (.var 0))), (0, (.r 3))], [((.lit (1)), (.lit (1))), ((.lit (0)), (.lit (0)))], [], []⟩ 25 (.pre 2 ⟨0, [(1, (.t (.var 25))), (0, (.t (.var 23)))], [], [], []⟩ (.both (.post 2 0 ⟨0, [(1, (.t (.var 25))), (0, (.t (.var 23)))], [], [], []⟩ 27 (.br (.cmp .neq (.var 21) (.arith .xor .u8 (.var 23) (.var 25)))
 (.stuck 7 0 0)
 (.br (.cmp .eql (.var 1) (.lit (0)))
 (.pre 4 ⟨0, [], [], [], []⟩ (.both (.post 4 0 ⟨0, [], [], [], []⟩ 27 (.ret 0 ⟨3, [], [], [((.bl true), (.bl true))], []⟩)) .top))
 (.pre 1 ⟨0, [(1, (.t (.var 26))), (3, (.t (.var 1))), (2, (.t (.var 0))), (0, (.r 3))], [((.lit (1)), (.lit (1))), ((.lit (0)), (.lit (0)))], [], []⟩ (.both (.fresh 27 (.fresh 28 (.post 1 0 ⟨0, [(1, (.t (.var 26))), (3, (.t (.var 1))), (2, (.t (.var 0))), (0, (.r 3))], [((.lit (1)), (.lit (1))), ((.lit (0)), (.lit (0)))], [], []⟩ 27 (.pre 3 ⟨0, [(1, (.t (.var 28))), (3, (.t (.var 1))), (2, (.t (.var 27))), (0, (.r 3))], [((.lit (1)), (.lit (1))), ((.lit (0)), (.lit (0)))], [], []⟩ (.both (.fresh 29 (.fresh 30 (.fresh 31 (.post 3 0 ⟨0, [(1, (.t (.var 28))), (3, (.t (.var 1))), (2, (.t (.var 27))), (0, (.r 3))], [((.lit (1)), (.lit (1))), ((.lit (0)), (.lit (0)))], [], []⟩ 29 (.br (.cmp .eql (.var 30) (.lit (0)))
 (.br (.cmp .eql (.var 29) (.var 0))
 (.br (.cmp .eql (.var 0) (.lit (0)))
 (.pre 4 ⟨0, [], [], [], []⟩ (.both (.post 4 0 ⟨0, [], [], [], []⟩ 32 (.ret 0 ⟨3, [], [], [((.bl true), (.bl true))], []⟩)) .top))
 (.pre 1 ⟨0, [(1, (.t (.var 31))), (3, (.t (.var 1))), (2, (.t (.var 0))), (0, (.r 3))], [((.lit (1)), (.lit (1))), ((.lit (0)), (.lit (0)))], [], []⟩ (.both (.fresh 32 (.fresh 33 (.post 1 0 ⟨0, [(1, (.t (.var 31))), (3, (.t (.var 1))), (2, (.t (.var 0))), (0, (.r 3))], [((.lit (1)), (.lit (1))), ((.lit (0)), (.lit (0)))], [], []⟩ 32 (.br (.cmp .neq (.var 32) (.lit (0)))
 (.pre 4 ⟨0, [], [], [], []⟩ (.both (.post 4 0 ⟨0, [], [], [], []⟩ 34 (.ret 0 ⟨3, [], [], [((.bl true), (.bl true))], []⟩)) .top))
 (.stuck 7 0 0))))) .top)))
 (.stuck 7 0 0))
 (.stuck 7 0 0)))))) .top))))) .top))))) .top))))) .top))))) .top))))) .top))) .top)))))) .top)))))) .top)))))) .top))))) .top))))) .top))))) .top)))))) .top))))) .top))))) .top))
theorem o_lawField_eq : treeOf ⟨Try.prog, lawFieldC, [newFieldC, mulC, add34C, div52C, knownC], []⟩ 100000 Try.f14 = o_lawField := by kernel_rfl
theorem lawField_of (hd : ∀ c ∈ ([newFieldC, mulC, add34C, div52C, knownC] : List Ctr), c.ok Try.prog) (h : ∀ ρ : Env, ρ.good → (lawFieldC).pre ρ → o_lawField.den ⟨Try.prog, lawFieldC, [newFieldC, mulC, add34C, div52C, knownC], []⟩ ρ) : (lawFieldC).ok Try.prog :=
  ok_of_tree Try.func14 (fun a w => Try.call14 a w) hd 100000 (fun ρ hg hp => by rw [o_lawField_eq]; exact h ρ hg hp)
def o_lawPowers : Out := (.pre 0 ⟨0, [], [], [], []⟩ (.both (.fresh 2 (.fresh 3 (.post 0 0 ⟨0, [], [], [], []⟩ 2 (.pre 1 ⟨0, [(1, (.t (.var 3))), (3, (.t (.var 1))), (2, (.t (.var 0))), (0, (.r 2))], [((.lit (1)), (.lit (1))), ((.lit (0)), (.lit (0)))], [], []⟩ (.both (.fresh 4 (.fresh 5 (.post 1 0 ⟨0, [(1, (.t (.var 3))), (3, (.t (.var 1))), (2, (.t (.var 0))), (0, (.r 2))], [((.lit (1)), (.lit (1))), ((.lit (0)), (.lit (0)))], [], []⟩ 4 (.pre 2 ⟨0, [(1, (.t (.var 1))), (0, (.t (.var 0)))], [], [], []⟩ (.both (.fresh 6 (.post 2 0 ⟨0, [(1, (.t (.var 1))), (0, (.t (.var 0)))], [], [], []⟩ 6 (.br (.cmp .eql (.var 4) (.var 6))
 (.pre 3 ⟨0, [], [], [], []⟩ (.both (.post 3 0 ⟨0, [], [], [], []⟩ 7 (.ret 0 ⟨2, [], [], [((.bl true), (.bl true))], []⟩)) .top))
 (.stuck 7 0 0)))) .top))))) .top))))) .top))
theorem o_lawPowers_eq : treeOf ⟨Try.prog, lawPowersC, [newFieldC, pow37C, power38C, knownC], []⟩ 100000 Try.f9 = o_lawPowers := by kernel_rfl
theorem lawPowers_of (hd : ∀ c ∈ ([newFieldC, pow37C, power38C, knownC] : List Ctr), c.ok Try.prog) (h : ∀ ρ : Env, ρ.good → (lawPowersC).pre ρ → o_lawPowers.den ⟨Try.prog, lawPowersC, [newFieldC, pow37C, power38C, knownC], []⟩ ρ) : (lawPowersC).ok Try.prog :=
  ok_of_tree Try.func9 (fun a w => Try.call9 a w) hd 100000 (fun ρ hg hp => by rw [o_lawPowers_eq]; exact h ρ hg hp)
def o_lawExponents : Out := (.pre 0 ⟨0, [], [], [], []⟩ (.both (.fresh 3 (.fresh 4 (.post 0 0 ⟨0, [], [], [], []⟩ 3 (.pre 1 ⟨0, [(1, (.t (.var 4))), (3, (.t (.arith .add .i64 (.conv .i64 (.var 1)) (.conv .i64 (.var 2))))), (2, (.t (.var 0))), (0, (.r 3))], [((.lit (1)), (.lit (1))), ((.lit (0)), (.lit (0)))], [], []⟩ (.both (.fresh 5 (.fresh 6 (.post 1 0 ⟨0, [(1, (.t (.var 4))), (3, (.t (.arith .add .i64 (.conv .i64 (.var 1)) (.conv .i64 (.var 2))))), (2, (.t (.var 0))), (0, (.r 3))], [((.lit (1)), (.lit (1))), ((.lit (0)), (.lit (0)))], [], []⟩ 5 (.pre 1 ⟨0, [(1, (.t (.var 6))), (3, (.t (.conv .i64 (.var 1)))), (2, (.t (.var 0))), (0, (.r 3))], [((.lit (1)), (.lit (1))), ((.lit (0)), (.lit (0)))], [], []⟩ (.both (.fresh 7 (.fresh 8 (.post 1 0 ⟨0, [(1, (.t (.var 6))), (3, (.t (.conv .i64 (.var 1)))), (2, (.t (.var 0))), (0, (.r 3))], [((.lit (1)), (.lit (1))), ((.lit (0)), (.lit (0)))], [], []⟩ 7 (.pre 1 ⟨0, [(1, (.t (.var 8))), (3, (.t (.conv .i64 (.var 2)))), (2, (.t (.var 0))), (0, (.r 3))], [((.lit (1)), (.lit (1))), ((.lit (0)), (.lit (0)))], [], []⟩ (.both (.fresh 9 (.fresh 10 (.post 1 0 ⟨0, [(1, (.t (.var 8))), (3, (.t (.conv .i64 (.var 2)))), (2, (.t (.var 0))), (0, (.r 3))], [((.lit (1)), (.lit (1))), ((.lit (0)), (.lit (0)))], [], []⟩ 9 (.pre 2 ⟨0, [(1, (.t (.var 10))), (3, (.t (.var 9))), (2, (.t (.var 7))), (0, (.r 3))], [((.lit (1)), (.lit (1))), ((.lit (0)), (.lit (0)))], [], []⟩ (.both (.fresh 11 (.fresh 12 (.post 2 0 ⟨0, [(1, (.t (.var 10))), (3, (.t (.var 9))), (2, (.t (.var 7))), (0, (.r 3))], [((.lit (1)), (.lit (1))), ((.lit (0)), (.lit (0)))], [], []⟩ 11 (.br (.cmp .neq (.var 5) (.var 11))
 (.stuck 7 0 0)
 (.inv 0 13 ⟨1000, [(1001, (.t (.var 12))), (1002, (.t (.lit (0)))), (1000, (.r 3))], [((.lit (1)), (.lit (1))), ((.lit (0)), (.lit (0))), ((.var 0), (.var 0))], [], []⟩ (.fresh 13 (.fresh 14 (.fresh 15 (.hyp 0 13 (.br (.cmp .lss (.var 15) (.lit (255)))
 (.pre 1 ⟨0, [(1, (.t (.var 14))), (3, (.t (.var 15))), (2, (.t (.lit (2)))), (0, (.r 13))], [((.lit (1)), (.lit (1))), ((.lit (0)), (.lit (0)))], [], []⟩ (.both (.fresh 16 (.fresh 17 (.post 1 0 ⟨0, [(1, (.t (.var 14))), (3, (.t (.var 15))), (2, (.t (.lit (2)))), (0, (.r 13))], [((.lit (1)), (.lit (1))), ((.lit (0)), (.lit (0)))], [], []⟩ 16 (.br (.cmp .eql (.var 16) (.var 0))
 (.br (.cmp .neq (.var 0) (.lit (0)))
 (.pre 3 ⟨0, [], [], [], []⟩ (.both (.post 3 0 ⟨0, [], [], [], []⟩ 18 (.ret 0 ⟨3, [], [], [((.bl true), (.bl true))], []⟩)) .top))
 (.stuck 7 0 0))
 (.back 0 13 ⟨1000, [(1001, (.t (.var 17))), (1002, (.t (.arith .add .i64 (.var 15) (.lit (1))))), (1000, (.r 13))], [((.lit (1)), (.lit (1))), ((.lit (0)), (.lit (0))), ((.var 0), (.var 0))], [], []⟩))))) .top))
 (.br (.cmp .eql (.var 0) (.lit (0)))
 (.pre 3 ⟨0, [], [], [], []⟩ (.both (.post 3 0 ⟨0, [], [], [], []⟩ 16 (.ret 0 ⟨3, [], [], [((.bl true), (.bl true))], []⟩)) .top))
 (.stuck 7 0 0)))))))))))) .top))))) .top))))) .top))))) .top))))) .top))
theorem o_lawExponents_eq : treeOf ⟨Try.prog, lawExponentsC, [newFieldC, pow37C, mulC, knownC], [lawExponentsI]⟩ 100000 Try.f10 = o_lawExponents := by kernel_rfl
theorem lawExponents_of (hd : ∀ c ∈ ([newFieldC, pow37C, mulC, knownC] : List Ctr), c.ok Try.prog) (h : ∀ ρ : Env, ρ.good → (lawExponentsC).pre ρ → o_lawExponents.den ⟨Try.prog, lawExponentsC, [newFieldC, pow37C, mulC, knownC], [lawExponentsI]⟩ ρ) : (lawExponentsC).ok Try.prog :=
  ok_of_tree Try.func10 (fun a w => Try.call10 a w) hd 100000 (fun ρ hg hp => by rw [o_lawExponents_eq]; exact h ρ hg hp)
def o_eval60 : Out := (.br (.and (.cmp .eql (.dlen (.var 1)) (.lit (0))) (.isnil 0))
 (.ret 0 ⟨8, [(9, (.t (.var 1))), (8, (.t (.lit (0))))], [((.lit (1)), (.lit (1)))], [], []⟩)
 (.need (.cmp .leq (.lit (0)) (.var 3)) (.inv 0 8 ⟨1000, [(1002, (.t (.var 1))), (1001, (.t (.arith .sub .i64 (.var 3) (.lit (1))))), (1000, (.t (.lit (0))))], [((.lit (1)), (.lit (1))), ((.var 7), (.var 7)), ((.var 4), (.var 4)), ((.var 3), (.var 3)), ((.lit (0)), (.lit (0))), ((.lit (0)), (.lit (0)))], [], []⟩ (.fresh 8 (.fresh 9 (.fresh 10 (.hyp 0 8 (.br (.cmp .geq (.var 9) (.lit (0)))
 (.need (.cmp .leq (.lit (0)) (.var 9)) (.need (.cmp .lss (.var 9) (.var 3)) (.need (.cmp .lss (.var 9) (.dlen (.var 5))) (.both (.pre 0 ⟨0, [(1, (.t (.var 10))), (3, (.t (.var 7))), (2, (.t (.var 8))), (0, (.r 0))], [((.lit (1)), (.lit (1))), ((.lit (0)), (.lit (0)))], [], []⟩ (.both (.fresh 11 (.fresh 12 (.post 0 0 ⟨0, [(1, (.t (.var 10))), (3, (.t (.var 7))), (2, (.t (.var 8))), (0, (.r 0))], [((.lit (1)), (.lit (1))), ((.lit (0)), (.lit (0)))], [], []⟩ 11 (.back 0 8 ⟨1000, [(1002, (.t (.var 12))), (1001, (.t (.arith .sub .i64 (.var 9) (.lit (1))))), (1000, (.t (.arith .xor .u8 (.var 11) (.icell (.var 5) (.var 9) 0))))], [((.lit (1)), (.lit (1))), ((.var 7), (.var 7)), ((.var 4), (.var 4)), ((.var 3), (.var 3)), ((.lit (0)), (.lit (0))), ((.lit (0)), (.lit (0)))], [], []⟩)))) .top)) .top))))
 (.ret 0 ⟨8, [(9, (.t (.var 10))), (8, (.t (.var 8)))], [((.lit (1)), (.lit (1)))], [], []⟩)))))))))
theorem o_eval60_eq : treeOf ⟨Try.prog, eval60C, [mulC], [eval60I]⟩ 100000 Try.f60 = o_eval60 := by kernel_rfl
theorem eval60_of (hd : ∀ c ∈ ([mulC] : List Ctr), c.ok Try.prog) (h : ∀ ρ : Env, ρ.good → (eval60C).pre ρ → o_eval60.den ⟨Try.prog, eval60C, [mulC], [eval60I]⟩ ρ) : (eval60C).ok Try.prog :=
  ok_of_tree Try.func60 (fun a w => Try.call60 a w) hd 100000 (fun ρ hg hp => by rw [o_eval60_eq]; exact h ρ hg hp)
def o_at61 : Out := (.inv 0 6 ⟨1000, [(1002, (.t (.lit (0)))), (1001, (.t (.lit (1)))), (1000, (.t (.lit (0))))], [((.var 5), (.var 5)), ((.var 2), (.var 2)), ((.var 1), (.var 1)), ((.lit (0)), (.lit (0)))], [], []⟩ (.fresh 6 (.fresh 7 (.fresh 8 (.hyp 0 6 (.need (.cmp .leq (.lit (0)) (.var 1)) (.br (.cmp .lss (.var 8) (.var 1))
 (.need (.cmp .leq (.lit (0)) (.var 8)) (.need (.cmp .lss (.var 8) (.dlen (.var 3))) (.pre 0 ⟨0, [(1, (.t (.var 7))), (0, (.t (.icell (.var 3) (.var 8) 0)))], [], [], []⟩ (.both (.fresh 9 (.post 0 0 ⟨0, [(1, (.t (.var 7))), (0, (.t (.icell (.var 3) (.var 8) 0)))], [], [], []⟩ 9 (.pre 0 ⟨0, [(1, (.t (.var 5))), (0, (.t (.var 7)))], [], [], []⟩ (.both (.fresh 10 (.post 0 0 ⟨0, [(1, (.t (.var 5))), (0, (.t (.var 7)))], [], [], []⟩ 10 (.back 0 6 ⟨1000, [(1002, (.t (.arith .add .i64 (.var 8) (.lit (1))))), (1001, (.t (.var 10))), (1000, (.t (.arith .xor .u8 (.var 6) (.var 9))))], [((.var 5), (.var 5)), ((.var 2), (.var 2)), ((.var 1), (.var 1)), ((.lit (0)), (.lit (0)))], [], []⟩))) .top)))) .top))))
 (.ret 0 ⟨6, [(6, (.t (.var 6)))], [], [], []⟩))))))))
theorem o_at61_eq : treeOf ⟨Try.prog, at61C, [times53C], [at61I]⟩ 100000 Try.f61 = o_at61 := by kernel_rfl
theorem at61_of (hd : ∀ c ∈ ([times53C] : List Ctr), c.ok Try.prog) (h : ∀ ρ : Env, ρ.good → (at61C).pre ρ → o_at61.den ⟨Try.prog, at61C, [times53C], [at61I]⟩ ρ) : (at61C).ok Try.prog :=
  ok_of_tree Try.func61 (fun a w => Try.call61 a w) hd 100000 (fun ρ hg hp => by rw [o_at61_eq]; exact h ρ hg hp)
def o_lawEvaluates : Out := (.need (.cmp .leq (.lit (0)) (.var 1)) (.br (.cmp .gtr (.var 1) (.lit (4096)))
 (.pre 3 ⟨0, [], [], [], []⟩ (.both (.post 3 0 ⟨0, [], [], [], []⟩ 6 (.ret 0 ⟨6, [], [], [((.bl true), (.bl true))], []⟩)) .top))
 (.pre 0 ⟨0, [], [], [], []⟩ (.both (.fresh 6 (.fresh 7 (.post 0 0 ⟨0, [], [], [], []⟩ 6 (.fresh 8 (.need (.cmp .leq (.var 1) (.dlen (.var 3))) (.need (.cmp .leq (.tims (.lit (1)) (.var 1)) (.lit (140737488355328))) (.fresh 9 (.fresh 10 (.pre 1 ⟨0, [(6, (.t (.var 10))), (5, (.t (.dtake (.var 3) (.var 1)))), (1, (.t (.var 7))), (7, (.t (.var 5))), (4, (.t (.var 10))), (3, (.t (.var 1))), (2, (.r 9)), (0, (.r 6))], [((.lit (1)), (.lit (1))), ((.lit (0)), (.lit (0))), ((.lit (0)), (.lit (0)))], [], []⟩ (.both (.fresh 11 (.fresh 12 (.post 1 0 ⟨0, [(6, (.t (.var 10))), (5, (.t (.dtake (.var 3) (.var 1)))), (1, (.t (.var 7))), (7, (.t (.var 5))), (4, (.t (.var 10))), (3, (.t (.var 1))), (2, (.r 9)), (0, (.r 6))], [((.lit (1)), (.lit (1))), ((.lit (0)), (.lit (0))), ((.lit (0)), (.lit (0)))], [], []⟩ 11 (.pre 2 ⟨0, [(4, (.t (.var 4))), (3, (.t (.var 3))), (5, (.t (.var 5))), (2, (.t (.var 2))), (1, (.t (.var 1))), (0, (.r 0))], [((.lit (0)), (.lit (0)))], [], []⟩ (.both (.fresh 13 (.post 2 0 ⟨0, [(4, (.t (.var 4))), (3, (.t (.var 3))), (5, (.t (.var 5))), (2, (.t (.var 2))), (1, (.t (.var 1))), (0, (.r 0))], [((.lit (0)), (.lit (0)))], [], []⟩ 13 (.br (.cmp .eql (.var 11) (.var 13))
 (.pre 3 ⟨0, [], [], [], []⟩ (.both (.post 3 0 ⟨0, [], [], [], []⟩ 14 (.ret 0 ⟨6, [], [], [((.bl true), (.bl true))], []⟩)) .top))
 (.stuck 7 0 0)))) .top))))) .top)))))))))) .top))))
theorem o_lawEvaluates_eq : treeOf ⟨Try.prog, lawEvaluatesC, [newFieldC, eval60C, at61C, knownC], []⟩ 100000 Try.f17 = o_lawEvaluates := by kernel_rfl
theorem lawEvaluates_of (hd : ∀ c ∈ ([newFieldC, eval60C, at61C, knownC] : List Ctr), c.ok Try.prog) (h : ∀ ρ : Env, ρ.good → (lawEvaluatesC).pre ρ → o_lawEvaluates.den ⟨Try.prog, lawEvaluatesC, [newFieldC, eval60C, at61C, knownC], []⟩ ρ) : (lawEvaluatesC).ok Try.prog :=
  ok_of_tree Try.func17 (fun a w => Try.call17 a w) hd 100000 (fun ρ hg hp => by rw [o_lawEvaluates_eq]; exact h ρ hg hp)
end Go.Proofs
