import Derived.Test.YtkiheclcmgbmnaaYD
import Derived.Test.YtkiheclcmgbmnaaProg
import Derived.Test.YtkiheclcmgbmnaaGE
import Derived.Test.YtkiheclcmgbmnaaGD
set_option linter.unusedSimpArgs false
set_option linter.unusedVariables false
set_option maxRecDepth 100000
namespace Go.Proofs
open Go Go.Eng

def o_good43 : Out := (.fresh 7 (.br (.cmp .geq (.var 0) (.lit (1)))
 (.br (.cmp .leq (.var 0) (.lit (255)))
 (.br (.cmp .geq (.var 1) (.lit (1)))
 (.br (.cmp .leq (.var 1) (.lit (255)))
 (.need (.cmp .leq (.lit (0)) (.var 3)) (.ret 0 ⟨7, [(7, (.t (.cmp .eql (.var 3) (.arith .mul .i64 (.var 0) (.var 1)))))], [], [], []⟩))
 (.ret 0 ⟨7, [(7, (.t (.bl false)))], [], [], []⟩))
 (.ret 0 ⟨7, [(7, (.t (.bl false)))], [], [], []⟩))
 (.ret 0 ⟨7, [(7, (.t (.bl false)))], [], [], []⟩))
 (.ret 0 ⟨7, [(7, (.t (.bl false)))], [], [], []⟩)))
theorem o_good43_eq : treeOf ⟨Try.prog, good43C, [], []⟩ 100000 Try.f43 = o_good43 := by kernel_rfl
theorem good43_of (hd : ∀ c ∈ ([] : List Ctr), c.ok Try.prog) (h : ∀ ρ : Env, ρ.good → (good43C).pre ρ → o_good43.den ⟨Try.prog, good43C, [], []⟩ ρ) : (good43C).ok Try.prog :=
  ok_of_tree Try.func43 (fun a w => Try.call43 a w) hd 100000 (fun ρ hg hp => by rw [o_good43_eq]; exact h ρ hg hp)
def o_own42r : Out := (.fresh 7 (.fresh 8 (.both (.fresh 9 (.both (.need (.cmp .leq (.lit (0)) (.var 3)) (.need (.cmp .leq (.var 3) (.dlen (.var 5))) (.need (.cmp .leq (.tims (.lit (1)) (.var 3)) (.lit (140737488355328))) (.fresh 10 (.fresh 11 (.both (.both (.ret 0 ⟨7, [(9, (.t (.dtake (.var 5) (.var 3)))), (8, (.t (.var 11))), (7, (.r 10))], [((.var 8), (.var 11)), ((.var 3), (.var 3)), ((.lit (0)), (.lit (0))), ((.var 1), (.var 1)), ((.var 0), (.var 0))], [], []⟩) .top) .top)))))) .top)) .top)))
theorem o_own42r_eq : treeOf ⟨Try.prog, own42R, [], []⟩ 100000 Try.f42 = o_own42r := by kernel_rfl
theorem own42r_of (hd : ∀ c ∈ ([] : List Ctr), c.ok Try.prog) (h : ∀ ρ : Env, ρ.good → (own42R).pre ρ → o_own42r.den ⟨Try.prog, own42R, [], []⟩ ρ) : (own42R).ok Try.prog :=
  ok_of_tree Try.func42 (fun a w => Try.call42 a w) hd 100000 (fun ρ hg hp => by rw [o_own42r_eq]; exact h ρ hg hp)
def o_large48 : Out := (.fresh 7 (.br (.cmp .gtr (.var 0) (.lit (60)))
 (.ret 0 ⟨7, [(7, (.t (.bl true)))], [], [], []⟩)
 (.br (.cmp .gtr (.var 1) (.lit (60)))
 (.ret 0 ⟨7, [(7, (.t (.bl true)))], [], [], []⟩)
 (.need (.cmp .leq (.lit (0)) (.var 3)) (.ret 0 ⟨7, [(7, (.t (.cmp .gtr (.var 3) (.lit (3600)))))], [], [], []⟩)))))
theorem o_large48_eq : treeOf ⟨Try.prog, large48C, [], []⟩ 100000 Try.f48 = o_large48 := by kernel_rfl
theorem large48_of (hd : ∀ c ∈ ([] : List Ctr), c.ok Try.prog) (h : ∀ ρ : Env, ρ.good → (large48C).pre ρ → o_large48.den ⟨Try.prog, large48C, [], []⟩ ρ) : (large48C).ok Try.prog :=
  ok_of_tree Try.func48 (fun a w => Try.call48 a w) hd 100000 (fun ρ hg hp => by rw [o_large48_eq]; exact h ρ hg hp)
def o_same44 : Out := (.fresh 14 (.fresh 15 (.br (.cmp .eql (.var 0) (.var 7))
 (.br (.cmp .eql (.var 1) (.var 8))
 (.need (.cmp .leq (.lit (0)) (.var 3)) (.need (.cmp .leq (.var 3) (.dlen (.var 5))) (.need (.cmp .leq (.lit (0)) (.var 10)) (.need (.cmp .leq (.var 10) (.dlen (.var 12))) (.ret 0 ⟨14, [(14, (.t (.c2 .veq (.c1 .vbytes (.dtake (.var 5) (.var 3))) (.c1 .vbytes (.dtake (.var 12) (.var 10))))))], [], [], []⟩)))))
 (.ret 0 ⟨14, [(14, (.t (.bl false)))], [], [], []⟩))
 (.ret 0 ⟨14, [(14, (.t (.bl false)))], [], [], []⟩))))
theorem o_same44_eq : treeOf ⟨Try.prog, same44C, [], []⟩ 100000 Try.f44 = o_same44 := by kernel_rfl
theorem same44_of (hd : ∀ c ∈ ([] : List Ctr), c.ok Try.prog) (h : ∀ ρ : Env, ρ.good → (same44C).pre ρ → o_same44.den ⟨Try.prog, same44C, [], []⟩ ρ) : (same44C).ok Try.prog :=
  ok_of_tree Try.func44 (fun a w => Try.call44 a w) hd 100000 (fun ρ hg hp => by rw [o_same44_eq]; exact h ρ hg hp)
def o_unit41 : Out := (.fresh 1 (.br (.cmp .lss (.var 0) (.lit (1)))
 (.ret 0 ⟨1, [], [((.lit (2)), (.lit (2))), ((.lit (0)), (.lit (0))), ((.lit (0)), (.lit (0)))], [], []⟩)
 (.br (.cmp .gtr (.var 0) (.lit (255)))
 (.ret 0 ⟨1, [], [((.lit (2)), (.lit (2))), ((.lit (0)), (.lit (0))), ((.lit (0)), (.lit (0)))], [], []⟩)
 (.need (.cmp .leq (.lit (0)) (.arith .mul .i64 (.var 0) (.var 0))) (.need (.cmp .leq (.tims (.lit (1)) (.arith .mul .i64 (.var 0) (.var 0))) (.lit (281474976710656))) (.fresh 2 (.inv 0 3 ⟨1000, [(1004, (.t (.drep (.arith .mul .i64 (.var 0) (.var 0)) (.rcons (.vint .u8 (.lit (0))) .rnil)))), (1000, (.t (.lit (0)))), (1003, (.t (.arith .mul .i64 (.var 0) (.var 0)))), (1002, (.t (.arith .mul .i64 (.var 0) (.var 0)))), (1001, (.r 2)), (1006, (.r 1))], [((.var 1003), (.arith .mul .i64 (.var 0) (.var 0))), ((.lit (0)), (.lit (0))), ((.lit (0)), (.lit (0))), ((.lit (0)), (.lit (0))), ((.var 0), (.var 0))], [], []⟩ (.fresh 3 (.fresh 4 (.fresh 5 (.fresh 6 (.fresh 7 (.fresh 8 (.fresh 9 (.hyp 0 3 (.br (.cmp .lss (.var 3) (.var 0))
 (.need (.cmp .leq (.lit (0)) (.arith .add .i64 (.arith .mul .i64 (.var 3) (.var 0)) (.var 3))) (.need (.cmp .lss (.arith .add .i64 (.arith .mul .i64 (.var 3) (.var 0)) (.var 3)) (.var 5)) (.need (.cmp .lss (.arith .add .i64 (.arith .mul .i64 (.var 3) (.var 0)) (.var 3)) (.dlen (.var 7))) (.back 0 3 ⟨1000, [(1004, (.t (.dput (.var 7) (.arith .add .i64 (.arith .mul .i64 (.var 3) (.var 0)) (.var 3)) 0 (.rcons (.vint .u8 (.lit (1))) .rnil)))), (1000, (.t (.arith .add .i64 (.var 3) (.lit (1))))), (1003, (.t (.var 6))), (1002, (.t (.var 5))), (1001, (.r 4)), (1006, (.r 9))], [((.var 1003), (.var 6)), ((.lit (0)), (.lit (0))), ((.lit (0)), (.lit (0))), ((.lit (0)), (.lit (0))), ((.lit (0)), (.lit (0))), ((.var 0), (.var 0))], [], []⟩))))
 (.ret 1 ⟨1, [(4, (.t (.var 7))), (3, (.t (.var 6))), (2, (.t (.var 5))), (1, (.r 4))], [((.var 3), (.var 6)), ((.lit (0)), (.lit (0))), ((.lit (0)), (.lit (0))), ((.var 0), (.var 0)), ((.var 0), (.var 0))], [], []⟩)))))))))))))))))
theorem o_unit41_eq : treeOf ⟨Try.prog, unit41C, [], [unit41I]⟩ 100000 Try.f41 = o_unit41 := by kernel_rfl
theorem unit41_of (hd : ∀ c ∈ ([] : List Ctr), c.ok Try.prog) (h : ∀ ρ : Env, ρ.good → (unit41C).pre ρ → o_unit41.den ⟨Try.prog, unit41C, [], [unit41I]⟩ ρ) : (unit41C).ok Try.prog :=
  ok_of_tree Try.func41 (fun a w => Try.call41 a w) hd 100000 (fun ρ hg hp => by rw [o_unit41_eq]; exact h ρ hg hp)
def o_powers46 : Out := (.fresh 2 (.br (.cmp .lss (.var 0) (.lit (1)))
 (.ret 0 ⟨2, [], [((.lit (2)), (.lit (2))), ((.lit (0)), (.lit (0))), ((.lit (0)), (.lit (0)))], [], []⟩)
 (.br (.cmp .gtr (.var 0) (.lit (255)))
 (.ret 0 ⟨2, [], [((.lit (2)), (.lit (2))), ((.lit (0)), (.lit (0))), ((.lit (0)), (.lit (0)))], [], []⟩)
 (.br (.cmp .lss (.var 1) (.lit (1)))
 (.ret 0 ⟨2, [], [((.lit (2)), (.lit (2))), ((.lit (0)), (.lit (0))), ((.lit (0)), (.lit (0)))], [], []⟩)
 (.br (.cmp .gtr (.var 1) (.lit (255)))
 (.ret 0 ⟨2, [], [((.lit (2)), (.lit (2))), ((.lit (0)), (.lit (0))), ((.lit (0)), (.lit (0)))], [], []⟩)
 (.fresh 3 (.inv 0 4 ⟨1000, [(1004, (.t .dnil)), (1000, (.t (.lit (0)))), (1003, (.t (.lit (0)))), (1002, (.t (.lit (0)))), (1001, (.r 3)), (1005, (.r 2))], [((.var 1003), (.lit (0))), ((.lit (0)), (.lit (0))), ((.lit (0)), (.lit (0))), ((.lit (0)), (.lit (0))), ((.var 1), (.var 1)), ((.var 0), (.var 0))], [], []⟩ (.fresh 4 (.fresh 5 (.fresh 6 (.fresh 7 (.fresh 8 (.fresh 9 (.hyp 0 4 (.br (.cmp .lss (.var 4) (.var 0))
 (.inv 1 10 ⟨1000, [(1004, (.t (.var 8))), (1007, (.t (.lit (0)))), (1006, (.t (.lit (1)))), (1000, (.t (.var 4))), (1003, (.t (.var 7))), (1002, (.t (.var 6))), (1001, (.r 5)), (1005, (.r 9))], [((.var 1003), (.var 7)), ((.lit (0)), (.lit (0))), ((.lit (0)), (.lit (0))), ((.lit (0)), (.lit (0))), ((.lit (0)), (.lit (0))), ((.var 1), (.var 1)), ((.var 0), (.var 0))], [], []⟩ (.fresh 10 (.fresh 11 (.fresh 12 (.fresh 13 (.fresh 14 (.fresh 15 (.fresh 16 (.fresh 17 (.hyp 1 10 (.br (.cmp .lss (.var 17) (.var 1))
 (.fresh 18 (.need (.cmp .eql (.var 12) (.dlen (.var 14))) (.need (.cmp .leq (.tims (.lit (1)) (.plus (.var 12) (.lit (1)))) (.lit (140737488355328))) (.fresh 19 (.fresh 20 (.pre 0 ⟨0, [(1, (.t (.conv .u8 (.var 10)))), (0, (.t (.var 16)))], [], [], []⟩ (.both (.fresh 21 (.post 0 0 ⟨0, [(1, (.t (.conv .u8 (.var 10)))), (0, (.t (.var 16)))], [], [], []⟩ 21 (.back 1 10 ⟨1000, [(1004, (.t (.dapp (.var 14) (.rcons (.vint .u8 (.var 16)) .rnil)))), (1007, (.t (.arith .add .i64 (.var 17) (.lit (1))))), (1006, (.t (.var 21))), (1000, (.t (.var 10))), (1003, (.t (.var 20))), (1002, (.t (.plus (.var 12) (.lit (1))))), (1001, (.r 19)), (1005, (.r 15))], [((.var 1003), (.var 20)), ((.lit (0)), (.lit (0))), ((.lit (0)), (.lit (0))), ((.lit (0)), (.lit (0))), ((.lit (0)), (.lit (0))), ((.var 1), (.var 1)), ((.var 0), (.var 0))], [], []⟩))) .top)))))))
 (.back 0 4 ⟨1000, [(1004, (.t (.var 14))), (1000, (.t (.arith .add .i64 (.var 10) (.lit (1))))), (1003, (.t (.var 13))), (1002, (.t (.var 12))), (1001, (.r 11)), (1005, (.r 15))], [((.var 1003), (.var 13)), ((.lit (0)), (.lit (0))), ((.lit (0)), (.lit (0))), ((.lit (0)), (.lit (0))), ((.lit (0)), (.lit (0))), ((.var 1), (.var 1)), ((.var 0), (.var 0))], [], []⟩))))))))))))
 (.ret 1 ⟨2, [(5, (.t (.var 8))), (4, (.t (.var 7))), (3, (.t (.var 6))), (2, (.r 5))], [((.var 4), (.var 7)), ((.lit (0)), (.lit (0))), ((.lit (0)), (.lit (0))), ((.var 1), (.var 1)), ((.var 0), (.var 0))], [], []⟩))))))))))))))))
theorem o_powers46_eq : treeOf ⟨Try.prog, powers46C, [times53C], [powers46I, powers46J]⟩ 100000 Try.f46 = o_powers46 := by kernel_rfl
theorem powers46_of (hd : ∀ c ∈ ([times53C] : List Ctr), c.ok Try.prog) (h : ∀ ρ : Env, ρ.good → (powers46C).pre ρ → o_powers46.den ⟨Try.prog, powers46C, [times53C], [powers46I, powers46J]⟩ ρ) : (powers46C).ok Try.prog :=
  ok_of_tree Try.func46 (fun a w => Try.call46 a w) hd 100000 (fun ρ hg hp => by rw [o_powers46_eq]; exact h ρ hg hp)
def o_mul50 : Out := (.fresh 14 (.fresh 15 (.fresh 16 (.pre 0 ⟨0, [(6, (.t (.var 6))), (5, (.t (.var 5))), (4, (.t (.var 4))), (3, (.t (.var 3))), (2, (.r 2)), (1, (.t (.var 1))), (0, (.t (.var 0)))], [((.lit (0)), (.lit (0)))], [], []⟩ (.both (.fresh 17 (.post 0 0 ⟨0, [(6, (.t (.var 6))), (5, (.t (.var 5))), (4, (.t (.var 4))), (3, (.t (.var 3))), (2, (.r 2)), (1, (.t (.var 1))), (0, (.t (.var 0)))], [((.lit (0)), (.lit (0)))], [], []⟩ 17 (.br (.not (.var 17))
 (.ret 0 ⟨14, [], [((.lit (2)), (.lit (2))), ((.lit (0)), (.lit (0))), ((.lit (0)), (.lit (0)))], [], []⟩)
 (.pre 0 ⟨0, [(6, (.t (.var 13))), (5, (.t (.var 12))), (4, (.t (.var 11))), (3, (.t (.var 10))), (2, (.r 9)), (1, (.t (.var 8))), (0, (.t (.var 7)))], [((.lit (0)), (.lit (0)))], [], []⟩ (.both (.fresh 18 (.post 0 0 ⟨0, [(6, (.t (.var 13))), (5, (.t (.var 12))), (4, (.t (.var 11))), (3, (.t (.var 10))), (2, (.r 9)), (1, (.t (.var 8))), (0, (.t (.var 7)))], [((.lit (0)), (.lit (0)))], [], []⟩ 18 (.br (.not (.var 18))
 (.ret 0 ⟨14, [], [((.lit (2)), (.lit (2))), ((.lit (0)), (.lit (0))), ((.lit (0)), (.lit (0)))], [], []⟩)
 (.br (.cmp .neq (.var 1) (.var 7))
 (.ret 1 ⟨14, [], [((.lit (10)), (.lit (10))), ((.lit (0)), (.lit (0))), ((.lit (0)), (.lit (0)))], [], []⟩)
 (.need (.cmp .leq (.lit (0)) (.arith .mul .i64 (.var 0) (.var 8))) (.need (.cmp .leq (.tims (.lit (1)) (.arith .mul .i64 (.var 0) (.var 8))) (.lit (281474976710656))) (.fresh 19 (.inv 0 20 ⟨1000, [(1004, (.t (.drep (.arith .mul .i64 (.var 0) (.var 8)) (.rcons (.vint .u8 (.lit (0))) .rnil)))), (1000, (.t (.lit (0)))), (1003, (.t (.arith .mul .i64 (.var 0) (.var 8)))), (1002, (.t (.arith .mul .i64 (.var 0) (.var 8)))), (1001, (.r 19)), (1005, (.r 16)), (1007, (.r 15)), (1006, (.r 14))], [((.var 1003), (.arith .mul .i64 (.var 0) (.var 8))), ((.var 11), (.var 11)), ((.var 10), (.var 10)), ((.lit (0)), (.lit (0))), ((.var 8), (.var 8)), ((.var 7), (.var 7)), ((.var 4), (.var 4)), ((.var 3), (.var 3)), ((.lit (0)), (.lit (0))), ((.var 1), (.var 1)), ((.var 0), (.var 0)), ((.lit (0)), (.lit (0))), ((.lit (0)), (.lit (0))), ((.lit (0)), (.lit (0)))], [], []⟩ (.fresh 20 (.fresh 21 (.fresh 22 (.fresh 23 (.fresh 24 (.fresh 25 (.fresh 26 (.fresh 27 (.hyp 0 20 (.br (.cmp .lss (.var 20) (.var 0))
 (.inv 1 28 ⟨1000, [(1004, (.t (.var 24))), (1008, (.t (.lit (0)))), (1000, (.t (.var 20))), (1003, (.t (.var 23))), (1002, (.t (.var 22))), (1001, (.r 21)), (1005, (.r 25)), (1007, (.r 27)), (1006, (.r 26))], [((.var 1003), (.var 23)), ((.var 11), (.var 11)), ((.var 10), (.var 10)), ((.lit (0)), (.lit (0))), ((.var 8), (.var 8)), ((.var 7), (.var 7)), ((.var 4), (.var 4)), ((.var 3), (.var 3)), ((.lit (0)), (.lit (0))), ((.var 1), (.var 1)), ((.var 0), (.var 0)), ((.lit (0)), (.lit (0))), ((.lit (0)), (.lit (0))), ((.lit (0)), (.lit (0))), ((.lit (0)), (.lit (0))), ((.lit (0)), (.lit (0))), ((.lit (0)), (.lit (0)))], [], []⟩ (.fresh 28 (.fresh 29 (.fresh 30 (.fresh 31 (.fresh 32 (.fresh 33 (.fresh 34 (.fresh 35 (.fresh 36 (.hyp 1 28 (.br (.cmp .lss (.var 36) (.var 8))
 (.inv 2 37 ⟨1000, [(1004, (.t (.var 32))), (1009, (.t (.lit (0)))), (1008, (.t (.var 36))), (1000, (.t (.var 28))), (1003, (.t (.var 31))), (1002, (.t (.var 30))), (1001, (.r 29)), (1005, (.r 33)), (1007, (.r 35)), (1006, (.r 34))], [((.var 1003), (.var 31)), ((.var 11), (.var 11)), ((.var 10), (.var 10)), ((.lit (0)), (.lit (0))), ((.var 8), (.var 8)), ((.var 7), (.var 7)), ((.var 4), (.var 4)), ((.var 3), (.var 3)), ((.lit (0)), (.lit (0))), ((.var 1), (.var 1)), ((.var 0), (.var 0)), ((.lit (0)), (.lit (0))), ((.lit (0)), (.lit (0))), ((.lit (0)), (.lit (0))), ((.lit (0)), (.lit (0))), ((.lit (0)), (.lit (0))), ((.lit (0)), (.lit (0)))], [], []⟩ (.fresh 37 (.fresh 38 (.fresh 39 (.fresh 40 (.fresh 41 (.fresh 42 (.fresh 43 (.fresh 44 (.fresh 45 (.fresh 46 (.hyp 2 37 (.br (.cmp .lss (.var 46) (.var 1))
 (.need (.cmp .leq (.lit (0)) (.arith .add .i64 (.arith .mul .i64 (.var 37) (.var 8)) (.var 45))) (.need (.cmp .lss (.arith .add .i64 (.arith .mul .i64 (.var 37) (.var 8)) (.var 45)) (.var 39)) (.need (.cmp .lss (.arith .add .i64 (.arith .mul .i64 (.var 37) (.var 8)) (.var 45)) (.dlen (.var 41))) (.need (.cmp .leq (.lit (0)) (.arith .add .i64 (.arith .mul .i64 (.var 37) (.var 1)) (.var 46))) (.need (.cmp .lss (.arith .add .i64 (.arith .mul .i64 (.var 37) (.var 1)) (.var 46)) (.var 3)) (.need (.cmp .lss (.arith .add .i64 (.arith .mul .i64 (.var 37) (.var 1)) (.var 46)) (.dlen (.var 5))) (.need (.cmp .leq (.lit (0)) (.arith .add .i64 (.arith .mul .i64 (.var 46) (.var 8)) (.var 45))) (.need (.cmp .lss (.arith .add .i64 (.arith .mul .i64 (.var 46) (.var 8)) (.var 45)) (.var 10)) (.need (.cmp .lss (.arith .add .i64 (.arith .mul .i64 (.var 46) (.var 8)) (.var 45)) (.dlen (.var 12))) (.both (.pre 1 ⟨0, [(1, (.t (.icell (.var 12) (.arith .add .i64 (.arith .mul .i64 (.var 46) (.var 8)) (.var 45)) 0))), (0, (.t (.icell (.var 5) (.arith .add .i64 (.arith .mul .i64 (.var 37) (.var 1)) (.var 46)) 0)))], [], [], []⟩ (.both (.fresh 47 (.post 1 0 ⟨0, [(1, (.t (.icell (.var 12) (.arith .add .i64 (.arith .mul .i64 (.var 46) (.var 8)) (.var 45)) 0))), (0, (.t (.icell (.var 5) (.arith .add .i64 (.arith .mul .i64 (.var 37) (.var 1)) (.var 46)) 0)))], [], [], []⟩ 47 (.both (.back 2 37 ⟨1000, [(1004, (.t (.dput (.var 41) (.arith .add .i64 (.arith .mul .i64 (.var 37) (.var 8)) (.var 45)) 0 (.rcons (.vint .u8 (.arith .xor .u8 (.icell (.var 41) (.arith .add .i64 (.arith .mul .i64 (.var 37) (.var 8)) (.var 45)) 0) (.var 47))) .rnil)))), (1009, (.t (.arith .add .i64 (.var 46) (.lit (1))))), (1008, (.t (.var 45))), (1000, (.t (.var 37))), (1003, (.t (.var 40))), (1002, (.t (.var 39))), (1001, (.r 38)), (1005, (.r 42)), (1007, (.r 44)), (1006, (.r 43))], [((.var 1003), (.var 40)), ((.var 11), (.var 11)), ((.var 10), (.var 10)), ((.lit (0)), (.lit (0))), ((.var 8), (.var 8)), ((.var 7), (.var 7)), ((.var 4), (.var 4)), ((.var 3), (.var 3)), ((.lit (0)), (.lit (0))), ((.var 1), (.var 1)), ((.var 0), (.var 0)), ((.lit (0)), (.lit (0))), ((.lit (0)), (.lit (0))), ((.lit (0)), (.lit (0))), ((.lit (0)), (.lit (0))), ((.lit (0)), (.lit (0))), ((.lit (0)), (.lit (0)))], [], []⟩) .top))) .top)) .top))))))))))
 (.back 1 28 ⟨1000, [(1004, (.t (.var 41))), (1008, (.t (.arith .add .i64 (.var 45) (.lit (1))))), (1000, (.t (.var 37))), (1003, (.t (.var 40))), (1002, (.t (.var 39))), (1001, (.r 38)), (1005, (.r 42)), (1007, (.r 44)), (1006, (.r 43))], [((.var 1003), (.var 40)), ((.var 11), (.var 11)), ((.var 10), (.var 10)), ((.lit (0)), (.lit (0))), ((.var 8), (.var 8)), ((.var 7), (.var 7)), ((.var 4), (.var 4)), ((.var 3), (.var 3)), ((.lit (0)), (.lit (0))), ((.var 1), (.var 1)), ((.var 0), (.var 0)), ((.lit (0)), (.lit (0))), ((.lit (0)), (.lit (0))), ((.lit (0)), (.lit (0))), ((.lit (0)), (.lit (0))), ((.lit (0)), (.lit (0))), ((.lit (0)), (.lit (0)))], [], []⟩))))))))))))))
 (.back 0 20 ⟨1000, [(1004, (.t (.var 32))), (1000, (.t (.arith .add .i64 (.var 28) (.lit (1))))), (1003, (.t (.var 31))), (1002, (.t (.var 30))), (1001, (.r 29)), (1005, (.r 33)), (1007, (.r 35)), (1006, (.r 34))], [((.var 1003), (.var 31)), ((.var 11), (.var 11)), ((.var 10), (.var 10)), ((.lit (0)), (.lit (0))), ((.var 8), (.var 8)), ((.var 7), (.var 7)), ((.var 4), (.var 4)), ((.var 3), (.var 3)), ((.lit (0)), (.lit (0))), ((.var 1), (.var 1)), ((.var 0), (.var 0)), ((.lit (0)), (.lit (0))), ((.lit (0)), (.lit (0))), ((.lit (0)), (.lit (0))), ((.lit (0)), (.lit (0))), ((.lit (0)), (.lit (0))), ((.lit (0)), (.lit (0)))], [], []⟩)))))))))))))
 (.ret 2 ⟨14, [(17, (.t (.var 24))), (16, (.t (.var 23))), (15, (.t (.var 22))), (14, (.r 21))], [((.var 16), (.var 23)), ((.lit (0)), (.lit (0))), ((.lit (0)), (.lit (0))), ((.var 8), (.var 8)), ((.var 0), (.var 0))], [], []⟩))))))))))))))))))) .top))))) .top)))))
theorem o_mul50_eq : treeOf ⟨Try.prog, mul50C, [good43C, times53C], [mul50I, mul50J, mul50K]⟩ 100000 Try.f50 = o_mul50 := by kernel_rfl
theorem mul50_of (hd : ∀ c ∈ ([good43C, times53C] : List Ctr), c.ok Try.prog) (h : ∀ ρ : Env, ρ.good → (mul50C).pre ρ → o_mul50.den ⟨Try.prog, mul50C, [good43C, times53C], [mul50I, mul50J, mul50K]⟩ ρ) : (mul50C).ok Try.prog :=
  ok_of_tree Try.func50 (fun a w => Try.call50 a w) hd 100000 (fun ρ hg hp => by rw [o_mul50_eq]; exact h ρ hg hp)
def o_sel62 : Out := (.fresh 12 (.fresh 13 (.pre 0 ⟨0, [(6, (.t (.var 6))), (5, (.t (.var 5))), (4, (.t (.var 4))), (3, (.t (.var 3))), (2, (.r 2)), (1, (.t (.var 1))), (0, (.t (.var 0)))], [((.lit (0)), (.lit (0)))], [], []⟩ (.both (.fresh 14 (.post 0 0 ⟨0, [(6, (.t (.var 6))), (5, (.t (.var 5))), (4, (.t (.var 4))), (3, (.t (.var 3))), (2, (.r 2)), (1, (.t (.var 1))), (0, (.t (.var 0)))], [((.lit (0)), (.lit (0)))], [], []⟩ 14 (.br (.not (.var 14))
 (.ret 0 ⟨12, [], [((.lit (2)), (.lit (2))), ((.lit (0)), (.lit (0))), ((.lit (0)), (.lit (0)))], [], []⟩)
 (.need (.cmp .leq (.lit (0)) (.var 8)) (.br (.cmp .eql (.var 8) (.lit (0)))
 (.ret 0 ⟨12, [], [((.lit (2)), (.lit (2))), ((.lit (0)), (.lit (0))), ((.lit (0)), (.lit (0)))], [], []⟩)
 (.br (.cmp .gtr (.var 8) (.lit (255)))
 (.ret 0 ⟨12, [], [((.lit (2)), (.lit (2))), ((.lit (0)), (.lit (0))), ((.lit (0)), (.lit (0)))], [], []⟩)
 (.inv 0 15 ⟨1000, [(1000, (.t (.lit (0)))), (1002, (.r 13)), (1001, (.r 12))], [((.var 4), (.var 4)), ((.var 3), (.var 3)), ((.lit (0)), (.lit (0))), ((.var 1), (.var 1)), ((.var 0), (.var 0)), ((.lit (0)), (.lit (0))), ((.lit (0)), (.lit (0))), ((.var 8), (.var 8)), ((.var 9), (.var 9)), ((.var 8), (.var 8)), ((.lit (0)), (.lit (0))), ((.var 9), (.var 9)), ((.var 8), (.var 8)), ((.lit (0)), (.lit (0)))], [], []⟩ (.fresh 15 (.fresh 16 (.fresh 17 (.hyp 0 15 (.br (.cmp .lss (.var 15) (.var 8))
 (.need (.cmp .leq (.lit (0)) (.var 15)) (.need (.cmp .lss (.var 15) (.dlen (.var 10))) (.br (.cmp .lss (.icell (.var 10) (.var 15) 0) (.lit (0)))
 (.ret 0 ⟨12, [], [((.lit (2)), (.lit (2))), ((.lit (0)), (.lit (0))), ((.lit (0)), (.lit (0)))], [], []⟩)
 (.br (.cmp .geq (.icell (.var 10) (.var 15) 0) (.var 0))
 (.ret 0 ⟨12, [], [((.lit (2)), (.lit (2))), ((.lit (0)), (.lit (0))), ((.lit (0)), (.lit (0)))], [], []⟩)
 (.back 0 15 ⟨1000, [(1000, (.t (.arith .add .i64 (.var 15) (.lit (1))))), (1002, (.r 17)), (1001, (.r 16))], [((.var 4), (.var 4)), ((.var 3), (.var 3)), ((.lit (0)), (.lit (0))), ((.var 1), (.var 1)), ((.var 0), (.var 0)), ((.lit (0)), (.lit (0))), ((.lit (0)), (.lit (0))), ((.var 8), (.var 8)), ((.var 9), (.var 9)), ((.var 8), (.var 8)), ((.lit (0)), (.lit (0))), ((.lit (0)), (.lit (0))), ((.lit (0)), (.lit (0))), ((.var 9), (.var 9)), ((.var 8), (.var 8)), ((.lit (0)), (.lit (0)))], [], []⟩)))))
 (.pre 1 ⟨0, [(1, (.t (.var 1))), (0, (.t (.var 8)))], [], [], []⟩ (.both (.fresh 18 (.fresh 19 (.fresh 20 (.fresh 21 (.post 1 0 ⟨0, [(1, (.t (.var 1))), (0, (.t (.var 8)))], [], [], []⟩ 18 (.fresh 22 (.inv 1 23 ⟨1000, [(1006, (.t (.var 21))), (1005, (.t (.var 20))), (1004, (.t (.var 19))), (1003, (.r 18)), (1000, (.t (.lit (0)))), (1007, (.r 22)), (1002, (.r 17)), (1001, (.r 16))], [((.var 1005), (.var 20)), ((.lit (0)), (.lit (0))), ((.var 1), (.var 1)), ((.var 8), (.var 8)), ((.var 4), (.var 4)), ((.var 3), (.var 3)), ((.lit (0)), (.lit (0))), ((.var 1), (.var 1)), ((.var 0), (.var 0)), ((.lit (0)), (.lit (0))), ((.lit (0)), (.lit (0))), ((.var 8), (.var 8)), ((.var 9), (.var 9)), ((.var 8), (.var 8)), ((.lit (0)), (.lit (0))), ((.lit (0)), (.lit (0))), ((.lit (0)), (.lit (0)))], [], []⟩ (.fresh 23 (.fresh 24 (.fresh 25 (.fresh 26 (.fresh 27 (.fresh 28 (.fresh 29 (.fresh 30 (.hyp 1 23 (.br (.cmp .lss (.var 23) (.var 8))
 (.need (.cmp .leq (.lit (0)) (.var 23)) (.need (.cmp .lss (.var 23) (.dlen (.var 10))) (.both (.pre 2 ⟨0, [(6, (.t (.var 28))), (5, (.t (.var 29))), (7, (.t (.var 23))), (4, (.t (.var 28))), (3, (.t (.var 27))), (2, (.r 26)), (1, (.t (.var 1))), (0, (.t (.var 8)))], [((.lit (0)), (.lit (0)))], [], []⟩ (.both (.fresh 31 (.fresh 32 (.fresh 33 (.post 2 0 ⟨0, [(6, (.t (.var 28))), (5, (.t (.var 29))), (7, (.t (.var 23))), (4, (.t (.var 28))), (3, (.t (.var 27))), (2, (.r 26)), (1, (.t (.var 1))), (0, (.t (.var 8)))], [((.lit (0)), (.lit (0)))], [], []⟩ 31 (.both (.pre 2 ⟨0, [(6, (.t (.var 6))), (5, (.t (.var 5))), (7, (.t (.icell (.var 10) (.var 23) 0))), (4, (.t (.var 4))), (3, (.t (.var 3))), (2, (.r 2)), (1, (.t (.var 1))), (0, (.t (.var 0)))], [((.lit (0)), (.lit (0)))], [], []⟩ (.both (.fresh 34 (.fresh 35 (.fresh 36 (.post 2 0 ⟨0, [(6, (.t (.var 6))), (5, (.t (.var 5))), (7, (.t (.icell (.var 10) (.var 23) 0))), (4, (.t (.var 4))), (3, (.t (.var 3))), (2, (.r 2)), (1, (.t (.var 1))), (0, (.t (.var 0)))], [((.lit (0)), (.lit (0)))], [], []⟩ 34 (.both (.need (.cmp .leq (.lit (0)) (.var 31)) (.need (.cmp .leq (.lit (0)) (.var 32)) (.need (.cmp .leq (.plus (.var 31) (.var 32)) (.dlen (.var 29))) (.need (.cmp .leq (.lit (0)) (.var 34)) (.need (.cmp .leq (.lit (0)) (.var 35)) (.need (.cmp .leq (.plus (.var 34) (.var 35)) (.dlen (.var 5))) (.fresh 37 (.back 1 23 ⟨1000, [(1006, (.t (.c3 .dsplice (.var 29) (.var 31) (.dtake (.dtake (.ddrop (.var 5) (.var 34)) (.var 35)) (.imin (.var 32) (.var 35)))))), (1005, (.t (.var 28))), (1004, (.t (.var 27))), (1003, (.r 26)), (1000, (.t (.arith .add .i64 (.var 23) (.lit (1))))), (1007, (.r 30)), (1002, (.r 25)), (1001, (.r 24))], [((.var 1005), (.var 28)), ((.lit (0)), (.lit (0))), ((.var 1), (.var 1)), ((.var 8), (.var 8)), ((.var 4), (.var 4)), ((.var 3), (.var 3)), ((.lit (0)), (.lit (0))), ((.var 1), (.var 1)), ((.var 0), (.var 0)), ((.lit (0)), (.lit (0))), ((.lit (0)), (.lit (0))), ((.var 8), (.var 8)), ((.var 9), (.var 9)), ((.var 8), (.var 8)), ((.lit (0)), (.lit (0))), ((.lit (0)), (.lit (0))), ((.lit (0)), (.lit (0))), ((.lit (0)), (.lit (0)))], [], []⟩)))))))) .top))))) .top)) .top))))) .top)) .top)))
 (.ret 1 ⟨12, [(15, (.t (.var 29))), (14, (.t (.var 28))), (13, (.t (.var 27))), (12, (.r 26))], [((.var 14), (.var 28)), ((.lit (0)), (.lit (0))), ((.lit (0)), (.lit (0))), ((.var 1), (.var 1)), ((.var 8), (.var 8))], [], []⟩)))))))))))))))))) .top)))))))))))))) .top))))
theorem o_sel62_eq : treeOf ⟨Try.prog, sel62C, [valid36C, zero82C, row75C], [sel62I, sel62J]⟩ 100000 Try.f62 = o_sel62 := by kernel_rfl
theorem sel62_of (hd : ∀ c ∈ ([valid36C, zero82C, row75C] : List Ctr), c.ok Try.prog) (h : ∀ ρ : Env, ρ.good → (sel62C).pre ρ → o_sel62.den ⟨Try.prog, sel62C, [valid36C, zero82C, row75C], [sel62I, sel62J]⟩ ρ) : (sel62C).ok Try.prog :=
  ok_of_tree Try.func62 (fun a w => Try.call62 a w) hd 100000 (fun ρ hg hp => by rw [o_sel62_eq]; exact h ρ hg hp)
def o_pick63 : Out := (.fresh 12 (.fresh 13 (.pre 0 ⟨0, [(6, (.t (.var 6))), (5, (.t (.var 5))), (4, (.t (.var 4))), (3, (.t (.var 3))), (2, (.r 2)), (1, (.t (.var 1))), (0, (.t (.var 0)))], [((.lit (0)), (.lit (0)))], [], []⟩ (.both (.fresh 14 (.post 0 0 ⟨0, [(6, (.t (.var 6))), (5, (.t (.var 5))), (4, (.t (.var 4))), (3, (.t (.var 3))), (2, (.r 2)), (1, (.t (.var 1))), (0, (.t (.var 0)))], [((.lit (0)), (.lit (0)))], [], []⟩ 14 (.br (.not (.var 14))
 (.ret 0 ⟨12, [], [((.lit (2)), (.lit (2))), ((.lit (0)), (.lit (0))), ((.lit (0)), (.lit (0)))], [], []⟩)
 (.need (.cmp .leq (.lit (0)) (.var 8)) (.br (.cmp .eql (.var 8) (.lit (0)))
 (.ret 0 ⟨12, [], [((.lit (2)), (.lit (2))), ((.lit (0)), (.lit (0))), ((.lit (0)), (.lit (0)))], [], []⟩)
 (.br (.cmp .gtr (.var 8) (.lit (255)))
 (.ret 0 ⟨12, [], [((.lit (2)), (.lit (2))), ((.lit (0)), (.lit (0))), ((.lit (0)), (.lit (0)))], [], []⟩)
 (.fresh 15 (.inv 0 16 ⟨1000, [(1006, (.t .dnil)), (1000, (.t (.lit (0)))), (1005, (.t (.lit (0)))), (1004, (.t (.lit (0)))), (1003, (.r 15)), (1002, (.r 13)), (1001, (.r 12))], [((.var 1005), (.lit (0))), ((.var 4), (.var 4)), ((.var 3), (.var 3)), ((.lit (0)), (.lit (0))), ((.var 1), (.var 1)), ((.var 0), (.var 0)), ((.lit (0)), (.lit (0))), ((.lit (0)), (.lit (0))), ((.lit (0)), (.lit (0))), ((.var 9), (.var 9)), ((.var 8), (.var 8)), ((.lit (0)), (.lit (0)))], [], []⟩ (.fresh 16 (.fresh 17 (.fresh 18 (.fresh 19 (.fresh 20 (.fresh 21 (.fresh 22 (.hyp 0 16 (.br (.cmp .lss (.var 16) (.var 8))
 (.need (.cmp .leq (.lit (0)) (.var 16)) (.need (.cmp .lss (.var 16) (.dlen (.var 10))) (.br (.cmp .lss (.icell (.var 10) (.var 16) 0) (.lit (0)))
 (.ret 0 ⟨12, [], [((.lit (2)), (.lit (2))), ((.lit (0)), (.lit (0))), ((.lit (0)), (.lit (0)))], [], []⟩)
 (.br (.cmp .geq (.icell (.var 10) (.var 16) 0) (.var 0))
 (.ret 0 ⟨12, [], [((.lit (2)), (.lit (2))), ((.lit (0)), (.lit (0))), ((.lit (0)), (.lit (0)))], [], []⟩)
 (.inv 1 23 ⟨1000, [(1006, (.t (.var 22))), (1007, (.t (.lit (0)))), (1000, (.t (.var 16))), (1005, (.t (.var 21))), (1004, (.t (.var 20))), (1003, (.r 19)), (1002, (.r 18)), (1001, (.r 17))], [((.var 1005), (.var 21)), ((.var 4), (.var 4)), ((.var 3), (.var 3)), ((.lit (0)), (.lit (0))), ((.var 1), (.var 1)), ((.var 0), (.var 0)), ((.lit (0)), (.lit (0))), ((.lit (0)), (.lit (0))), ((.lit (0)), (.lit (0))), ((.lit (0)), (.lit (0))), ((.lit (0)), (.lit (0))), ((.var 9), (.var 9)), ((.var 8), (.var 8)), ((.lit (0)), (.lit (0)))], [], []⟩ (.fresh 23 (.fresh 24 (.fresh 25 (.fresh 26 (.fresh 27 (.fresh 28 (.fresh 29 (.fresh 30 (.hyp 1 23 (.br (.cmp .lss (.var 30) (.var 1))
 (.need (.cmp .leq (.lit (0)) (.var 23)) (.need (.cmp .lss (.var 23) (.var 8)) (.need (.cmp .lss (.var 23) (.dlen (.var 10))) (.need (.cmp .leq (.lit (0)) (.arith .add .i64 (.arith .mul .i64 (.icell (.var 10) (.var 23) 0) (.var 1)) (.var 30))) (.need (.cmp .lss (.arith .add .i64 (.arith .mul .i64 (.icell (.var 10) (.var 23) 0) (.var 1)) (.var 30)) (.var 3)) (.need (.cmp .lss (.arith .add .i64 (.arith .mul .i64 (.icell (.var 10) (.var 23) 0) (.var 1)) (.var 30)) (.dlen (.var 5))) (.both (.fresh 31 (.both (.need (.cmp .eql (.var 27) (.dlen (.var 29))) (.need (.cmp .leq (.tims (.lit (1)) (.plus (.var 27) (.lit (1)))) (.lit (140737488355328))) (.fresh 32 (.fresh 33 (.both (.back 1 23 ⟨1000, [(1006, (.t (.dapp (.var 29) (.rcons (.vint .u8 (.icell (.var 5) (.arith .add .i64 (.arith .mul .i64 (.icell (.var 10) (.var 23) 0) (.var 1)) (.var 30)) 0)) .rnil)))), (1007, (.t (.arith .add .i64 (.var 30) (.lit (1))))), (1000, (.t (.var 23))), (1005, (.t (.var 33))), (1004, (.t (.plus (.var 27) (.lit (1))))), (1003, (.r 32)), (1002, (.r 25)), (1001, (.r 24))], [((.var 1005), (.var 33)), ((.var 4), (.var 4)), ((.var 3), (.var 3)), ((.lit (0)), (.lit (0))), ((.var 1), (.var 1)), ((.var 0), (.var 0)), ((.lit (0)), (.lit (0))), ((.lit (0)), (.lit (0))), ((.lit (0)), (.lit (0))), ((.lit (0)), (.lit (0))), ((.lit (0)), (.lit (0))), ((.var 9), (.var 9)), ((.var 8), (.var 8)), ((.lit (0)), (.lit (0)))], [], []⟩) .top))))) .top)) .top)))))))
 (.back 0 16 ⟨1000, [(1006, (.t (.var 29))), (1000, (.t (.arith .add .i64 (.var 23) (.lit (1))))), (1005, (.t (.var 28))), (1004, (.t (.var 27))), (1003, (.r 26)), (1002, (.r 25)), (1001, (.r 24))], [((.var 1005), (.var 28)), ((.var 4), (.var 4)), ((.var 3), (.var 3)), ((.lit (0)), (.lit (0))), ((.var 1), (.var 1)), ((.var 0), (.var 0)), ((.lit (0)), (.lit (0))), ((.lit (0)), (.lit (0))), ((.lit (0)), (.lit (0))), ((.lit (0)), (.lit (0))), ((.lit (0)), (.lit (0))), ((.var 9), (.var 9)), ((.var 8), (.var 8)), ((.lit (0)), (.lit (0)))], [], []⟩))))))))))))))))
 (.ret 1 ⟨12, [(15, (.t (.var 22))), (14, (.t (.var 21))), (13, (.t (.var 20))), (12, (.r 19))], [((.var 14), (.var 21)), ((.lit (0)), (.lit (0))), ((.lit (0)), (.lit (0))), ((.var 1), (.var 1)), ((.var 8), (.var 8))], [], []⟩)))))))))))))))))) .top))))
theorem o_pick63_eq : treeOf ⟨Try.prog, pick63C, [good43C], [pick63I, pick63J]⟩ 100000 Try.f63 = o_pick63 := by kernel_rfl
theorem pick63_of (hd : ∀ c ∈ ([good43C] : List Ctr), c.ok Try.prog) (h : ∀ ρ : Env, ρ.good → (pick63C).pre ρ → o_pick63.den ⟨Try.prog, pick63C, [good43C], [pick63I, pick63J]⟩ ρ) : (pick63C).ok Try.prog :=
  ok_of_tree Try.func63 (fun a w => Try.call63 a w) hd 100000 (fun ρ hg hp => by rw [o_pick63_eq]; exact h ρ hg hp)
def o_lawSelects : Out := (.fresh 12 (.pre 0 ⟨0, [(6, (.t (.var 6))), (5, (.t (.var 5))), (4, (.t (.var 4))), (3, (.t (.var 3))), (2, (.r 2)), (1, (.t (.var 1))), (0, (.t (.var 0)))], [((.lit (0)), (.lit (0)))], [], []⟩ (.both (.fresh 13 (.post 0 0 ⟨0, [(6, (.t (.var 6))), (5, (.t (.var 5))), (4, (.t (.var 4))), (3, (.t (.var 3))), (2, (.r 2)), (1, (.t (.var 1))), (0, (.t (.var 0)))], [((.lit (0)), (.lit (0)))], [], []⟩ 13 (.br (.var 13)
 (.pre 5 ⟨0, [], [], [], []⟩ (.both (.post 5 0 ⟨0, [], [], [], []⟩ 14 (.ret 0 ⟨12, [], [], [((.bl true), (.bl true))], []⟩)) .top))
 (.need (.cmp .leq (.lit (0)) (.var 8)) (.br (.cmp .gtr (.var 8) (.lit (300)))
 (.pre 5 ⟨0, [], [], [], []⟩ (.both (.post 5 0 ⟨0, [], [], [], []⟩ 14 (.ret 0 ⟨12, [], [], [((.bl true), (.bl true))], []⟩)) .top))
 (.pre 1 ⟨0, [(6, (.t (.var 6))), (5, (.t (.var 5))), (4, (.t (.var 4))), (3, (.t (.var 3))), (2, (.r 2)), (1, (.t (.var 1))), (0, (.t (.var 0)))], [((.lit (0)), (.lit (0)))], [], []⟩ (.both (.fresh 14 (.fresh 15 (.fresh 16 (.post 1 0 ⟨0, [(6, (.t (.var 6))), (5, (.t (.var 5))), (4, (.t (.var 4))), (3, (.t (.var 3))), (2, (.r 2)), (1, (.t (.var 1))), (0, (.t (.var 0)))], [((.lit (0)), (.lit (0)))], [], []⟩ 14 (.fresh 17 (.need (.cmp .leq (.var 8) (.dlen (.var 10))) (.need (.cmp .leq (.tims (.lit (8)) (.var 8)) (.lit (140737488355328))) (.fresh 18 (.fresh 19 (.pre 2 ⟨0, [(11, (.t (.var 19))), (10, (.t (.dtake (.var 10) (.var 8)))), (6, (.t (.var 15))), (5, (.t (.var 16))), (9, (.t (.var 19))), (8, (.t (.var 8))), (7, (.r 18)), (4, (.t (.var 15))), (3, (.t (.var 3))), (2, (.r 14)), (1, (.t (.var 1))), (0, (.t (.var 0)))], [((.lit (0)), (.lit (0))), ((.lit (0)), (.lit (0)))], [], []⟩ (.both (.post 2 0 ⟨0, [(11, (.t (.var 19))), (10, (.t (.dtake (.var 10) (.var 8)))), (6, (.t (.var 15))), (5, (.t (.var 16))), (9, (.t (.var 19))), (8, (.t (.var 8))), (7, (.r 18)), (4, (.t (.var 15))), (3, (.t (.var 3))), (2, (.r 14)), (1, (.t (.var 1))), (0, (.t (.var 0)))], [((.lit (0)), (.lit (0))), ((.lit (0)), (.lit (0)))], [], []⟩ 20 (.fresh 20 (.pre 3 ⟨0, [(11, (.t (.var 11))), (10, (.t (.var 10))), (6, (.t (.var 6))), (5, (.t (.var 5))), (9, (.t (.var 9))), (8, (.t (.var 8))), (7, (.r 7)), (4, (.t (.var 4))), (3, (.t (.var 3))), (2, (.r 2)), (1, (.t (.var 1))), (0, (.t (.var 0)))], [((.lit (0)), (.lit (0))), ((.lit (0)), (.lit (0)))], [], []⟩ (.both (.post 3 0 ⟨0, [(11, (.t (.var 11))), (10, (.t (.var 10))), (6, (.t (.var 6))), (5, (.t (.var 5))), (9, (.t (.var 9))), (8, (.t (.var 8))), (7, (.r 7)), (4, (.t (.var 4))), (3, (.t (.var 3))), (2, (.r 2)), (1, (.t (.var 1))), (0, (.t (.var 0)))], [((.lit (0)), (.lit (0))), ((.lit (0)), (.lit (0)))], [], []⟩ 21 (.fresh 21 (.pre 4 ⟨0, [(13, (.t (.lit (0)))), (12, (.t .dnil)), (6, (.t (.lit (0)))), (5, (.t .dnil)), (11, (.t (.lit (0)))), (10, (.t (.lit (0)))), (9, .nil), (8, (.t (.lit (0)))), (7, (.t (.lit (0)))), (4, (.t (.lit (0)))), (3, (.t (.lit (0)))), (2, .nil), (1, (.t (.lit (0)))), (0, (.t (.lit (0))))], [((.lit (0)), (.lit (0))), ((.lit (0)), (.lit (0)))], [], []⟩ (.both (.fresh 22 (.post 4 0 ⟨0, [(13, (.t (.lit (0)))), (12, (.t .dnil)), (6, (.t (.lit (0)))), (5, (.t .dnil)), (11, (.t (.lit (0)))), (10, (.t (.lit (0)))), (9, .nil), (8, (.t (.lit (0)))), (7, (.t (.lit (0)))), (4, (.t (.lit (0)))), (3, (.t (.lit (0)))), (2, .nil), (1, (.t (.lit (0)))), (0, (.t (.lit (0))))], [((.lit (0)), (.lit (0))), ((.lit (0)), (.lit (0)))], [], []⟩ 22 (.br (.var 22)
 (.pre 5 ⟨0, [], [], [], []⟩ (.both (.post 5 0 ⟨0, [], [], [], []⟩ 23 (.ret 0 ⟨12, [], [], [((.bl true), (.bl true))], []⟩)) .top))
 (.stuck 7 0 0)))) .top)))) (.both (.fresh 21 (.fresh 22 (.fresh 23 (.fresh 24 (.post 3 1 ⟨0, [(11, (.t (.var 11))), (10, (.t (.var 10))), (6, (.t (.var 6))), (5, (.t (.var 5))), (9, (.t (.var 9))), (8, (.t (.var 8))), (7, (.r 7)), (4, (.t (.var 4))), (3, (.t (.var 3))), (2, (.r 2)), (1, (.t (.var 1))), (0, (.t (.var 0)))], [((.lit (0)), (.lit (0))), ((.lit (0)), (.lit (0)))], [], []⟩ 21 (.fresh 25 (.stuck 7 0 0))))))) .top))))) (.both (.fresh 20 (.fresh 21 (.fresh 22 (.fresh 23 (.post 2 1 ⟨0, [(11, (.t (.var 19))), (10, (.t (.dtake (.var 10) (.var 8)))), (6, (.t (.var 15))), (5, (.t (.var 16))), (9, (.t (.var 19))), (8, (.t (.var 8))), (7, (.r 18)), (4, (.t (.var 15))), (3, (.t (.var 3))), (2, (.r 14)), (1, (.t (.var 1))), (0, (.t (.var 0)))], [((.lit (0)), (.lit (0))), ((.lit (0)), (.lit (0)))], [], []⟩ 20 (.fresh 24 (.pre 3 ⟨0, [(11, (.t (.var 11))), (10, (.t (.var 10))), (6, (.t (.var 6))), (5, (.t (.var 5))), (9, (.t (.var 9))), (8, (.t (.var 8))), (7, (.r 7)), (4, (.t (.var 4))), (3, (.t (.var 3))), (2, (.r 2)), (1, (.t (.var 1))), (0, (.t (.var 0)))], [((.lit (0)), (.lit (0))), ((.lit (0)), (.lit (0)))], [], []⟩ (.both (.post 3 0 ⟨0, [(11, (.t (.var 11))), (10, (.t (.var 10))), (6, (.t (.var 6))), (5, (.t (.var 5))), (9, (.t (.var 9))), (8, (.t (.var 8))), (7, (.r 7)), (4, (.t (.var 4))), (3, (.t (.var 3))), (2, (.r 2)), (1, (.t (.var 1))), (0, (.t (.var 0)))], [((.lit (0)), (.lit (0))), ((.lit (0)), (.lit (0)))], [], []⟩ 25 (.fresh 25 (.stuck 7 0 0))) (.both (.fresh 25 (.fresh 26 (.fresh 27 (.fresh 28 (.post 3 1 ⟨0, [(11, (.t (.var 11))), (10, (.t (.var 10))), (6, (.t (.var 6))), (5, (.t (.var 5))), (9, (.t (.var 9))), (8, (.t (.var 8))), (7, (.r 7)), (4, (.t (.var 4))), (3, (.t (.var 3))), (2, (.r 2)), (1, (.t (.var 1))), (0, (.t (.var 0)))], [((.lit (0)), (.lit (0))), ((.lit (0)), (.lit (0)))], [], []⟩ 25 (.fresh 29 (.pre 4 ⟨0, [(13, (.t (.var 27))), (12, (.t (.var 28))), (6, (.t (.var 22))), (5, (.t (.var 23))), (11, (.t (.var 27))), (10, (.t (.var 26))), (9, (.r 25)), (8, (.t (.var 1))), (7, (.t (.var 8))), (4, (.t (.var 22))), (3, (.t (.var 21))), (2, (.r 20)), (1, (.t (.var 1))), (0, (.t (.var 8)))], [((.lit (0)), (.lit (0))), ((.lit (0)), (.lit (0)))], [], []⟩ (.both (.fresh 30 (.post 4 0 ⟨0, [(13, (.t (.var 27))), (12, (.t (.var 28))), (6, (.t (.var 22))), (5, (.t (.var 23))), (11, (.t (.var 27))), (10, (.t (.var 26))), (9, (.r 25)), (8, (.t (.var 1))), (7, (.t (.var 8))), (4, (.t (.var 22))), (3, (.t (.var 21))), (2, (.r 20)), (1, (.t (.var 1))), (0, (.t (.var 8)))], [((.lit (0)), (.lit (0))), ((.lit (0)), (.lit (0)))], [], []⟩ 30 (.br (.var 30)
 (.pre 5 ⟨0, [], [], [], []⟩ (.both (.post 5 0 ⟨0, [], [], [], []⟩ 31 (.ret 0 ⟨12, [], [], [((.bl true), (.bl true))], []⟩)) .top))
 (.stuck 7 0 0)))) .top)))))))) .top))))))))) .top)))))))))))) .top))))))) .top)))
theorem o_lawSelects_eq : treeOf ⟨Try.prog, lawSelectsC, [large48C, own42C, sel62C, pick63C, same44C, knownC], []⟩ 100000 Try.f18 = o_lawSelects := by kernel_rfl
theorem lawSelects_of (hd : ∀ c ∈ ([large48C, own42C, sel62C, pick63C, same44C, knownC] : List Ctr), c.ok Try.prog) (h : ∀ ρ : Env, ρ.good → (lawSelectsC).pre ρ → o_lawSelects.den ⟨Try.prog, lawSelectsC, [large48C, own42C, sel62C, pick63C, same44C, knownC], []⟩ ρ) : (lawSelectsC).ok Try.prog :=
  ok_of_tree Try.func18 (fun a w => Try.call18 a w) hd 100000 (fun ρ hg hp => by rw [o_lawSelects_eq]; exact h ρ hg hp)
def o_first79 : Out := (.fresh 1 (.inv 0 2 ⟨1000, [(1003, (.t .dnil)), (1002, (.t (.lit (0)))), (1000, (.t (.lit (0)))), (1001, (.r 1))], [((.var 1002), (.lit (0))), ((.var 1000), (.lit (0))), ((.lit (0)), (.lit (0))), ((.var 0), (.var 0))], [], []⟩ (.fresh 2 (.fresh 3 (.fresh 4 (.fresh 5 (.hyp 0 2 (.br (.cmp .lss (.var 2) (.var 0))
 (.fresh 6 (.need (.cmp .eql (.var 2) (.dlen (.var 5))) (.need (.cmp .leq (.tims (.lit (1)) (.plus (.var 2) (.lit (1)))) (.lit (140737488355328))) (.fresh 7 (.fresh 8 (.need (.cmp .eql (.plus (.var 2) (.lit (1))) (.arith .add .i64 (.var 2) (.lit (1)))) (.back 0 2 ⟨1000, [(1003, (.t (.dapp (.var 5) (.rcons (.vint .u8 (.conv .u8 (.var 2))) .rnil)))), (1002, (.t (.var 8))), (1000, (.t (.plus (.var 2) (.lit (1))))), (1001, (.r 7))], [((.var 1002), (.var 8)), ((.var 1000), (.arith .add .i64 (.var 2) (.lit (1)))), ((.lit (0)), (.lit (0))), ((.var 0), (.var 0))], [], []⟩)))))))
 (.need (.cmp .eql (.var 0) (.var 2)) (.ret 0 ⟨1, [(3, (.t (.var 5))), (2, (.t (.var 4))), (1, (.r 3))], [((.var 2), (.var 4)), ((.var 0), (.var 2)), ((.lit (0)), (.lit (0)))], [], []⟩))))))))))
theorem o_first79_eq : treeOf ⟨Try.prog, first79C, [], [first79I]⟩ 100000 Try.f79 = o_first79 := by kernel_rfl
theorem first79_of (hd : ∀ c ∈ ([] : List Ctr), c.ok Try.prog) (h : ∀ ρ : Env, ρ.good → (first79C).pre ρ → o_first79.den ⟨Try.prog, first79C, [], [first79I]⟩ ρ) : (first79C).ok Try.prog :=
  ok_of_tree Try.func79 (fun a w => Try.call79 a w) hd 100000 (fun ρ hg hp => by rw [o_first79_eq]; exact h ρ hg hp)
def o_wgt78 : Out := (.need (.cmp .leq (.lit (0)) (.var 1)) (.need (.cmp .leq (.tims (.lit (1)) (.var 1)) (.lit (281474976710656))) (.fresh 6 (.inv 0 7 ⟨1000, [(1002, (.t (.drep (.var 1) (.rcons (.vint .u8 (.lit (0))) .rnil)))), (1003, (.t (.lit (0)))), (1001, (.t (.var 1))), (1000, (.r 6))], [((.var 1001), (.var 1)), ((.var 1), (.var 1)), ((.lit (0)), (.lit (0))), ((.var 5), (.var 5)), ((.var 2), (.var 2)), ((.var 1), (.var 1)), ((.lit (0)), (.lit (0)))], [], []⟩ (.fresh 7 (.fresh 8 (.fresh 9 (.fresh 10 (.hyp 0 7 (.br (.cmp .lss (.var 10) (.var 1))
 (.need (.cmp .leq (.lit (0)) (.var 10)) (.need (.cmp .lss (.var 10) (.dlen (.var 3))) (.br (.cmp .eql (.icell (.var 3) (.var 10) 0) (.var 5))
 (.need (.cmp .lss (.var 10) (.dlen (.var 9))) (.ret 0 ⟨6, [(8, (.t (.dput (.var 9) (.var 10) 0 (.rcons (.vint .u8 (.lit (1))) .rnil)))), (7, (.t (.var 8))), (6, (.r 7))], [((.var 7), (.var 8)), ((.var 1), (.var 1)), ((.lit (0)), (.lit (0)))], [], []⟩))
 (.back 0 7 ⟨1000, [(1002, (.t (.var 9))), (1003, (.t (.arith .add .i64 (.var 10) (.lit (1))))), (1001, (.t (.var 8))), (1000, (.r 7))], [((.var 1001), (.var 8)), ((.var 1), (.var 1)), ((.lit (0)), (.lit (0))), ((.var 5), (.var 5)), ((.var 2), (.var 2)), ((.var 1), (.var 1)), ((.lit (0)), (.lit (0)))], [], []⟩))))
 (.inv 1 11 ⟨1000, [(1002, (.t (.var 9))), (1004, (.t (.lit (0)))), (1003, (.t (.lit (1)))), (1001, (.t (.var 8))), (1000, (.r 7))], [((.var 1001), (.var 8)), ((.var 1), (.var 1)), ((.lit (0)), (.lit (0))), ((.var 5), (.var 5)), ((.var 2), (.var 2)), ((.var 1), (.var 1)), ((.lit (0)), (.lit (0)))], [], []⟩ (.fresh 11 (.fresh 12 (.fresh 13 (.fresh 14 (.fresh 15 (.hyp 1 11 (.br (.cmp .lss (.var 15) (.var 1))
 (.need (.cmp .leq (.lit (0)) (.var 15)) (.need (.cmp .lss (.var 15) (.dlen (.var 3))) (.pre 0 ⟨0, [(1, (.t (.arith .xor .u8 (.var 5) (.icell (.var 3) (.var 15) 0)))), (0, (.t (.var 14)))], [], [], []⟩ (.both (.fresh 16 (.post 0 0 ⟨0, [(1, (.t (.arith .xor .u8 (.var 5) (.icell (.var 3) (.var 15) 0)))), (0, (.t (.var 14)))], [], [], []⟩ 16 (.back 1 11 ⟨1000, [(1002, (.t (.var 13))), (1004, (.t (.arith .add .i64 (.var 15) (.lit (1))))), (1003, (.t (.var 16))), (1001, (.t (.var 12))), (1000, (.r 11))], [((.var 1001), (.var 12)), ((.var 1), (.var 1)), ((.lit (0)), (.lit (0))), ((.var 5), (.var 5)), ((.var 2), (.var 2)), ((.var 1), (.var 1)), ((.lit (0)), (.lit (0)))], [], []⟩))) .top))))
 (.inv 2 16 ⟨1000, [(1002, (.t (.var 13))), (1004, (.t (.lit (0)))), (1003, (.t (.var 14))), (1001, (.t (.var 12))), (1000, (.r 11))], [((.var 1001), (.var 12)), ((.var 1), (.var 1)), ((.lit (0)), (.lit (0))), ((.var 5), (.var 5)), ((.var 2), (.var 2)), ((.var 1), (.var 1)), ((.lit (0)), (.lit (0)))], [], []⟩ (.fresh 16 (.fresh 17 (.fresh 18 (.fresh 19 (.fresh 20 (.hyp 2 16 (.br (.cmp .lss (.var 20) (.var 1))
 (.need (.cmp .leq (.lit (0)) (.var 20)) (.need (.cmp .lss (.var 20) (.dlen (.var 3))) (.inv 3 21 ⟨1000, [(1002, (.t (.var 18))), (1006, (.t (.lit (0)))), (1005, (.t (.arith .xor .u8 (.var 5) (.icell (.var 3) (.var 20) 0)))), (1004, (.t (.var 20))), (1003, (.t (.var 19))), (1001, (.t (.var 17))), (1000, (.r 16))], [((.var 1001), (.var 17)), ((.var 1), (.var 1)), ((.lit (0)), (.lit (0))), ((.var 5), (.var 5)), ((.var 2), (.var 2)), ((.var 1), (.var 1)), ((.lit (0)), (.lit (0)))], [], []⟩ (.fresh 21 (.fresh 22 (.fresh 23 (.fresh 24 (.fresh 25 (.fresh 26 (.fresh 27 (.hyp 3 21 (.br (.cmp .lss (.var 27) (.var 1))
 (.br (.cmp .neq (.var 27) (.var 25))
 (.need (.cmp .leq (.lit (0)) (.var 25)) (.need (.cmp .lss (.var 25) (.var 1)) (.need (.cmp .lss (.var 25) (.dlen (.var 3))) (.need (.cmp .leq (.lit (0)) (.var 27)) (.need (.cmp .lss (.var 27) (.dlen (.var 3))) (.both (.pre 0 ⟨0, [(1, (.t (.arith .xor .u8 (.icell (.var 3) (.var 25) 0) (.icell (.var 3) (.var 27) 0)))), (0, (.t (.var 26)))], [], [], []⟩ (.both (.fresh 28 (.post 0 0 ⟨0, [(1, (.t (.arith .xor .u8 (.icell (.var 3) (.var 25) 0) (.icell (.var 3) (.var 27) 0)))), (0, (.t (.var 26)))], [], [], []⟩ 28 (.back 3 21 ⟨1000, [(1002, (.t (.var 23))), (1006, (.t (.arith .add .i64 (.var 27) (.lit (1))))), (1005, (.t (.var 28))), (1004, (.t (.var 25))), (1003, (.t (.var 24))), (1001, (.t (.var 22))), (1000, (.r 21))], [((.var 1001), (.var 22)), ((.var 1), (.var 1)), ((.lit (0)), (.lit (0))), ((.var 5), (.var 5)), ((.var 2), (.var 2)), ((.var 1), (.var 1)), ((.lit (0)), (.lit (0)))], [], []⟩))) .top)) .top))))))
 (.back 3 21 ⟨1000, [(1002, (.t (.var 23))), (1006, (.t (.arith .add .i64 (.var 27) (.lit (1))))), (1005, (.t (.var 26))), (1004, (.t (.var 25))), (1003, (.t (.var 24))), (1001, (.t (.var 22))), (1000, (.r 21))], [((.var 1001), (.var 22)), ((.var 1), (.var 1)), ((.lit (0)), (.lit (0))), ((.var 5), (.var 5)), ((.var 2), (.var 2)), ((.var 1), (.var 1)), ((.lit (0)), (.lit (0)))], [], []⟩))
 (.pre 1 ⟨0, [(0, (.t (.var 26)))], [], [], []⟩ (.both (.fresh 28 (.post 1 0 ⟨0, [(0, (.t (.var 26)))], [], [], []⟩ 28 (.pre 0 ⟨0, [(1, (.t (.var 28))), (0, (.t (.var 24)))], [], [], []⟩ (.both (.fresh 29 (.post 0 0 ⟨0, [(1, (.t (.var 28))), (0, (.t (.var 24)))], [], [], []⟩ 29 (.need (.cmp .leq (.lit (0)) (.var 25)) (.need (.cmp .lss (.var 25) (.var 1)) (.need (.cmp .lss (.var 25) (.dlen (.var 23))) (.back 2 16 ⟨1000, [(1002, (.t (.dput (.var 23) (.var 25) 0 (.rcons (.vint .u8 (.var 29)) .rnil)))), (1004, (.t (.arith .add .i64 (.var 25) (.lit (1))))), (1003, (.t (.var 24))), (1001, (.t (.var 22))), (1000, (.r 21))], [((.var 1001), (.var 22)), ((.var 1), (.var 1)), ((.lit (0)), (.lit (0))), ((.var 5), (.var 5)), ((.var 2), (.var 2)), ((.var 1), (.var 1)), ((.lit (0)), (.lit (0)))], [], []⟩)))))) .top)))) .top))))))))))))))
 (.ret 0 ⟨6, [(8, (.t (.var 18))), (7, (.t (.var 17))), (6, (.r 16))], [((.var 7), (.var 17)), ((.var 1), (.var 1)), ((.lit (0)), (.lit (0)))], [], []⟩)))))))))))))))))))))))))))
theorem o_wgt78_eq : treeOf ⟨Try.prog, wgt78C, [times53C, over54C], [wgt78I, wgt78J, wgt78K, wgt78L]⟩ 100000 Try.f78 = o_wgt78 := by kernel_rfl
theorem wgt78_of (hd : ∀ c ∈ ([times53C, over54C] : List Ctr), c.ok Try.prog) (h : ∀ ρ : Env, ρ.good → (wgt78C).pre ρ → o_wgt78.den ⟨Try.prog, wgt78C, [times53C, over54C], [wgt78I, wgt78J, wgt78K, wgt78L]⟩ ρ) : (wgt78C).ok Try.prog :=
  ok_of_tree Try.func78 (fun a w => Try.call78 a w) hd 100000 (fun ρ hg hp => by rw [o_wgt78_eq]; exact h ρ hg hp)
def o_sizes29 : Out := (.br (.cmp .leq (.lit (1)) (.var 0))
 (.br (.cmp .leq (.var 0) (.var 1))
 (.ret 0 ⟨2, [(2, (.t (.cmp .leq (.var 1) (.lit (255)))))], [], [], []⟩)
 (.ret 0 ⟨2, [(2, (.t (.bl false)))], [], [], []⟩))
 (.ret 0 ⟨2, [(2, (.t (.bl false)))], [], [], []⟩))
theorem o_sizes29_eq : treeOf ⟨Try.prog, sizes29C, [], []⟩ 100000 Try.f29 = o_sizes29 := by kernel_rfl
theorem sizes29_of (hd : ∀ c ∈ ([] : List Ctr), c.ok Try.prog) (h : ∀ ρ : Env, ρ.good → (sizes29C).pre ρ → o_sizes29.den ⟨Try.prog, sizes29C, [], []⟩ ρ) : (sizes29C).ok Try.prog :=
  ok_of_tree Try.func29 (fun a w => Try.call29 a w) hd 100000 (fun ρ hg hp => by rw [o_sizes29_eq]; exact h ρ hg hp)
def o_basis47 : Out := (.fresh 2 (.pre 0 ⟨0, [(1, (.t (.var 1))), (0, (.t (.var 0)))], [], [], []⟩ (.both (.fresh 3 (.post 0 0 ⟨0, [(1, (.t (.var 1))), (0, (.t (.var 0)))], [], [], []⟩ 3 (.br (.not (.var 3))
 (.ret 0 ⟨2, [], [((.lit (2)), (.lit (2))), ((.lit (0)), (.lit (0))), ((.lit (0)), (.lit (0)))], [], []⟩)
 (.fresh 4 (.pack [] 5 (.inv 0 6 ⟨1000, [(1006, (.r 5)), (1004, (.t .dnil)), (1000, (.t (.lit (0)))), (1003, (.t (.lit (0)))), (1002, (.t (.lit (0)))), (1001, (.r 4)), (1005, (.r 2))], [((.var 1003), (.lit (0))), ((.lit (0)), (.lit (0))), ((.lit (0)), (.lit (0))), ((.lit (0)), (.lit (0))), ((.var 1), (.var 1)), ((.var 0), (.var 0))], [], []⟩ (.fresh 6 (.fresh 7 (.fresh 8 (.fresh 9 (.fresh 10 (.fresh 11 (.fresh 12 (.hyp 0 6 (.br (.cmp .lss (.var 6) (.var 1))
 (.pre 1 ⟨0, [(0, (.t (.var 0)))], [], [], []⟩ (.both (.fresh 13 (.fresh 14 (.fresh 15 (.post 1 0 ⟨0, [(0, (.t (.var 0)))], [], [], []⟩ 13 (.pre 2 ⟨0, [(4, (.t (.var 14))), (3, (.t (.var 15))), (5, (.t (.conv .u8 (.var 6)))), (2, (.t (.var 14))), (1, (.t (.var 0))), (0, (.r 13))], [((.lit (0)), (.lit (0)))], [], []⟩ (.both (.fresh 16 (.fresh 17 (.fresh 18 (.post 2 0 ⟨0, [(4, (.t (.var 14))), (3, (.t (.var 15))), (5, (.t (.conv .u8 (.var 6)))), (2, (.t (.var 14))), (1, (.t (.var 0))), (0, (.r 13))], [((.lit (0)), (.lit (0)))], [], []⟩ 16 (.need (.cmp .eql (.var 8) (.dlen (.var 10))) (.need (.cmp .leq (.lit (0)) (.var 0)) (.need (.cmp .leq (.var 0) (.dlen (.var 18))) (.need (.cmp .leq (.tims (.lit (1)) (.plus (.var 8) (.var 0))) (.lit (140737488355328))) (.fresh 19 (.fresh 20 (.pack [.arr 16 5 [CK.int .u8] (.var 18) (.var 17), .arr 13 5 [CK.int .u8] (.var 15) (.var 14), .abs 12 2] 21 (.back 0 6 ⟨1000, [(1006, (.r 21)), (1004, (.t (.dapp (.var 10) (.dtake (.var 18) (.var 0))))), (1000, (.t (.arith .add .i64 (.var 6) (.lit (1))))), (1003, (.t (.var 20))), (1002, (.t (.plus (.var 8) (.var 0)))), (1001, (.r 19)), (1005, (.r 11))], [((.var 1003), (.var 20)), ((.lit (0)), (.lit (0))), ((.lit (0)), (.lit (0))), ((.lit (0)), (.lit (0))), ((.lit (0)), (.lit (0))), ((.var 1), (.var 1)), ((.var 0), (.var 0))], [], []⟩)))))))))))) .top)))))) .top))
 (.pack [.cells 11 43 [(.vint .i64 (.var 1)), (.vint .i64 (.var 0)), (.vslice 7 (.lit (0)) (.var 8) (.var 9) 1)], .abs 12 2] 13 (.ret 1 ⟨2, [(6, (.r 13)), (5, (.t (.var 10))), (4, (.t (.var 9))), (3, (.t (.var 8))), (2, (.r 7))], [((.var 4), (.var 9)), ((.lit (0)), (.lit (0))), ((.lit (0)), (.lit (0))), ((.var 0), (.var 0)), ((.var 1), (.var 1))], [], []⟩))))))))))))))))) .top)))
theorem o_basis47_eq : treeOf ⟨Try.prog, basis47C, [sizes29C, first79C, wgt78C], [basis47I]⟩ 100000 Try.f47 = o_basis47 := by kernel_rfl
theorem basis47_of (hd : ∀ c ∈ ([sizes29C, first79C, wgt78C] : List Ctr), c.ok Try.prog) (h : ∀ ρ : Env, ρ.good → (basis47C).pre ρ → o_basis47.den ⟨Try.prog, basis47C, [sizes29C, first79C, wgt78C], [basis47I]⟩ ρ) : (basis47C).ok Try.prog :=
  ok_of_tree Try.func47 (fun a w => Try.call47 a w) hd 100000 (fun ρ hg hp => by rw [o_basis47_eq]; exact h ρ hg hp)
end Go.Proofs

/- Matrices of the reference: proofs. -/
set_option linter.unusedSimpArgs false
set_option linter.unusedVariables false
namespace Go.Proofs
open Go Go.Eng

theorem validM_bd {r c l : Int} (h : validM r c l) : 0 ≤ r * c ∧ r * c ≤ 65025 := mul_bound (by unfold validM at h; omega) h.2.1 (by unfold validM at h; omega) h.2.2.2.1
theorem cell_bd {i r c j : Int} (i0 : 0 ≤ i) (i1 : i < r) (hr : r ≤ 255) (j0 : 0 ≤ j) (j1 : j < c) (hc : c ≤ 255) : 0 ≤ i * c ∧ i * c ≤ 65025 ∧ i * c + j < r * c ∧ (i * c + j).toNat = i.toNat * c.toNat + j.toNat := by
  have hb := mul_bound (x := i) (y := c) i0 (show i ≤ 255 by omega) (by omega) hc
  have := Int.mul_le_mul_of_nonneg_right (show i + 1 ≤ r by omega) (show 0 ≤ c by omega)
  rw [Int.add_mul, Int.one_mul] at this
  exact ⟨hb.1, hb.2, by omega, by rw [Int.toNat_add hb.1 j0, Int.toNat_mul i0 (by omega)]⟩

theorem good43_ok : good43C.ok Try.prog := good43_of (by simp) fun ρ hg hp => by
  have hp : 0 ≤ (ρ 3).i := hp
  simp [o_good43, good43C, valid36C]
  refine ⟨fun h1 => ⟨fun h2 => ⟨fun h3 => ⟨fun h4 => ⟨by omega, ?_⟩, fun _ => by omega⟩, fun _ => by omega⟩, fun _ => by omega⟩, fun _ => by omega⟩
  have hb := mul_bound (x := (ρ 0).i) (y := (ρ 1).i) (by omega) h2 (by omega) h4
  rw [mul64 (by omega) (by omega)]
  omega
theorem own42r_ok : own42R.ok Try.prog := own42r_of (by simp) fun ρ hg hp => by
  obtain ⟨h0, h1, h2⟩ := hp
  simp [o_own42r, own42R, clone84C]
  unfold Go.Eng.big at h2
  exact ⟨by omega, by omega, by omega⟩
theorem own42_ok : own42C.ok Try.prog := by
  refine ⟨own42r_ok.1, fun ρ w hF hO hg hd hsub hst hro hpre => (own42r_ok.2 ρ w hF hO hg hd hsub hst hro hpre).mono fun e w' hq => ?_⟩
  obtain ⟨ai, al, ρ', hal, hg', hag, he, hpost, hheap⟩ := hq
  match ai, hal with
  | 0, hal =>
    obtain rfl := Option.some.inj hal
    refine ⟨0, _, ρ', rfl, hg', hag, he, ⟨hpost, ?_⟩, hheap⟩
    obtain ⟨hO', hd', ⟨h1, h2, hdj, hu, hden, _⟩, hsub', hwi'⟩ := hheap
    show (((ρ'.upto 10) 9).d.length : Int) ≤ ((ρ'.upto 10) 8).i
    rw [show (ρ'.upto 10) 9 = ρ' 9 from rfl, show (ρ'.upto 10) 8 = ρ' 8 from rfl]
    rcases hden with ⟨_, hn, hc⟩ | ⟨b, c, g1, g2, g3, g4, g5⟩
    · have hn : (ρ' 9).d = [] := hn
      have hc : (ρ' 8).i = 0 := hc
      rw [hn, hc]; simp
    · exact g4
  | n + 1, hal => cases hal
theorem large48_ok : large48C.ok Try.prog := large48_of (by simp) fun ρ hg hp => by
  have hp : 0 ≤ (ρ 3).i := hp
  simp [o_large48, large48C]
  exact ⟨fun h => .inl h, fun h => ⟨fun h' => .inr (.inl h'), fun h' => ⟨hp, by omega⟩⟩⟩
theorem same44_ok : same44C.ok Try.prog := same44_of (by simp) fun ρ hg hp => by
  obtain ⟨a0, a1, a2, b0, b1, b2⟩ := hp
  simp [o_same44, same44C]
  refine ⟨fun h1 => ⟨fun h2 => ⟨a0, a1, b0, b1, ?_⟩, fun h2 h => h2 h.2.1⟩, fun h1 h => h1 h.1⟩
  rw [str_eq, str_eq, bytesOf_inj (allB_take a2) (allB_take b2), bI_take, bI_take]
  exact ⟨fun h => ⟨h1, h2, h⟩, fun h => h.2.2⟩
theorem unit41_ok : unit41C.ok Try.prog := unit41_of (by simp) fun ρ hg hp => by
  simp [o_unit41, unit41C, ident40C, unit41I, ident40I]
  refine ⟨fun h => .inl h, fun h1 => ⟨fun h => .inr h, fun h2 => ?_⟩⟩
  have hb := mul_bound (x := (ρ 0).i) (y := (ρ 0).i) (by omega) h2 (by omega) h2
  rw [mul64 (by omega) (by omega)]
  refine ⟨hb.1, by omega, ⟨h1, h2, by omega, ?_, by omega, ?_⟩, fun i _ l' _ c' _ d' _ _ _ i0 i1 hM hL hB => ⟨fun hi => ?_, fun hi => ?_⟩⟩
  · exact ⟨by omega, h2, by omega, h2, rfl, by omega, by rw [List.length_replicate]; omega, allB_rep⟩
  · rw [bI_rep, identTo_zero, Int.toNat_mul (by omega) (by omega)]
  · have hM' := hM
    obtain ⟨a1, a2, a3, a4, a5, a6, a7, a8⟩ := hM
    obtain ⟨b0, b1, b2, b3⟩ := cell_bd i0 hi h2 i0 hi h2
    rw [mul64 (by omega) (by omega), add64 (by omega) (by omega), add64 (by omega) (by omega)]
    refine ⟨by omega, by omega, by omega, ⟨h1, h2, by omega, by omega, matOk_put hM' (by decide) (by decide), by rw [putD_len]; exact hL, ?_⟩, by omega⟩
    rw [bI_put, hB, show (i.i + 1).toNat = i.i.toNat + 1 by omega, identTo_step (by omega)]
    congr 1
  · have : i.i = (ρ 0).i := by omega
    rw [this] at hB
    exact ⟨h1, h2, hM, hL, hB⟩
theorem take_snoc' {l : List Int} {n : Nat} (h : n < l.length) : l.take (n + 1) = l.take n ++ [l.getD n 0] := by
  rw [List.take_add_one, List.getD_eq_getElem?_getD, List.getElem?_eq_getElem h]; rfl
theorem powF_succ {i j : Int} (hi : isB i) (h0 : 0 ≤ j) (h1 : j < 1000) : mulF (powF i j) i = powF i (j + 1) := by
  rw [mulF_F (powF_isB hi (by omega)) hi, powF_F hi (by omega), powF_F hi (by omega), toF_ofF, show (j + 1).toNat = j.toNat + 1 by omega, fpow]
theorem powers46_ok : powers46C.ok Try.prog := powers46_of (by simp [times53_ok]) fun ρ hg hp => by
  simp [o_powers46, powers46C, powers46I, powers46J, times53C]
  refine ⟨fun h => .inl h, fun h1 => ⟨fun h => .inr (.inl h), fun h2 => ⟨fun h => .inr (.inr (.inl h)), fun h3 => ⟨fun h => .inr (.inr (.inr h)), fun h4 => ?_⟩⟩⟩⟩
  have hnb : ¬ vanderBad (ρ 0).i (ρ 1).i := by unfold vanderBad; omega
  have hvl : (vanderL (ρ 0).i.toNat (ρ 1).i.toNat).length = (ρ 0).i.toNat * (ρ 1).i.toNat := vander_len
  have hbb := mul_bound (x := (ρ 0).i) (y := (ρ 1).i) (by omega) h2 (by omega) h4
  refine ⟨⟨by omega, hnb, rfl, rfl⟩, fun i _ l _ d _ i0 i1 hG => ⟨fun hi => ⟨⟨i0, hi, by omega, by rw [powF, if_pos (Int.le_refl _)], hG⟩, fun i' _ l' _ d' _ p _ j _ i0' i1' j0 j1 hii hp hG' => ⟨fun hj => ?_, fun hj => ?_⟩⟩, fun hi => ?_⟩⟩
  · obtain ⟨_, hl, hd⟩ := hG'
    have hiB : isB i'.i := ⟨i0', by omega⟩
    have hw : IntKind.u8.wrap i'.i = i'.i := by simp [IntKind.wrap, IntKind.bits, IntKind.signed]; omega
    obtain ⟨b0, b1, b2, b3⟩ := cell_bd i0' i1' h2 j0 hj h4
    have hdl : d'.d.length = (i'.i * (ρ 1).i + j.i).toNat := by
      have := congrArg List.length hd
      rw [bI_len, List.length_take, hvl] at this
      have h5 : (i'.i * (ρ 1).i + j.i).toNat ≤ (ρ 0).i.toNat * (ρ 1).i.toNat := by rw [← Int.toNat_mul (by omega) (by omega)]; omega
      omega
    rw [hw, add64 (by omega) (by omega)]
    refine ⟨hl, by omega, ⟨by rw [hp]; exact powF_isB hiB (by omega), hiB⟩, fun q _ hq => ⟨⟨i0', i1', by omega, by omega, hii, by rw [hq, hp, powF_succ hiB j0 (by omega)], hnb, by simp; omega, ?_⟩, by omega⟩⟩
    have hlt : (i'.i * (ρ 1).i + j.i).toNat < (vanderL (ρ 0).i.toNat (ρ 1).i.toNat).length := by rw [hvl, ← Int.toNat_mul (by omega) (by omega)]; omega
    rw [show (i'.i * (ρ 1).i + (j.i + 1)).toNat = (i'.i * (ρ 1).i + j.i).toNat + 1 by omega, take_snoc' hlt, ← hd, b3, vander_get (by omega) (by omega), Int.toNat_of_nonneg i0', Int.toNat_of_nonneg j0, ← hp]
    simp [bI, rowI, vInt]
  · rw [add64 (by omega) (by omega)]
    refine ⟨⟨by omega, by omega, ?_⟩, by omega⟩
    have e : (i'.i + 1) * (ρ 1).i = i'.i * (ρ 1).i + j.i := by rw [Int.add_mul, Int.one_mul]; omega
    rw [e]
    exact hG'
  · obtain ⟨_, hl, hd⟩ := hG
    have : i.i = (ρ 0).i := by omega
    refine ⟨hnb, hl, ?_⟩
    rw [hd, this, List.take_of_length_le (by rw [hvl, Int.toNat_mul (by omega) (by omega)]; exact Nat.le_refl _)]

/-! ### Products -/
theorem mulN_facts {a b : List Int} {ra ca cb : Nat} (ha : bytesL a) (hb : bytesL b) (hca : 0 < ca) : ∀ t, t ≤ ra * cb * ca → (mulN a b ra ca cb t).length = ra * cb ∧ bytesL (mulN a b ra ca cb t) ∧
    ∀ q, q < ra * cb → toF ((mulN a b ra ca cb t).getD q 0) = fsum (fun l => if q * ca + l < t then fmul (matL ca a (q / cb) l) (matL cb b l (q % cb)) else 0) ca
  | 0, _ => ⟨by simp [mulN], fun x hx => by rw [mulN] at hx; rw [List.eq_of_mem_replicate hx]; exact ⟨by omega, by omega⟩, fun q hq => by
      rw [fsum_zero fun l _ => if_neg (by omega), mulN, List.getD_eq_getElem?_getD, List.getElem?_replicate, if_pos hq]; rfl⟩
  | t + 1, ht => by
    obtain ⟨h1, h2, h3⟩ := mulN_facts (ra := ra) (cb := cb) ha hb hca t (by omega)
    have hq0 : t / ca < ra * cb := Nat.div_lt_of_lt_mul (by rw [Nat.mul_comm]; omega)
    have hl0 := Nat.mod_lt t hca
    have htd := Nat.div_add_mod t ca
    rw [mulN]
    refine ⟨by rw [List.length_set, h1], fun x hx => ?_, fun q hq => ?_⟩
    · rcases List.mem_or_eq_of_mem_set hx with hx | rfl
      · exact h2 x hx
      · exact xorB_isB
    · by_cases he : q = t / ca
      · subst he
        rw [List.getD_eq_getElem?_getD, List.getElem?_set_self (by omega), Option.getD_some, toF_xorB, toF_mulF (bytesL_get ha _) (bytesL_get hb _), h3 _ hq]
        have h4 : fmul (toF (a.getD (t / ca / cb * ca + t % ca) 0)) (toF (b.getD (t % ca * cb + t / ca % cb) 0)) = fsum (fun l => if l = t % ca then fmul (matL ca a (t / ca / cb) l) (matL cb b l (t / ca % cb)) else 0) ca := by
          rw [fsum_one hl0 fun l _ hl => if_neg hl, if_pos rfl]; rfl
        rw [h4, ← fsum_xor]
        refine fsum_congr fun l hl => ?_
        rw [Nat.mul_comm] at htd
        by_cases hlt : l = t % ca
        · subst hlt; rw [if_neg (by omega), if_pos rfl, if_pos (by omega), zero_xor']
        · rw [if_neg hlt, xor_zero']
          by_cases h5 : t / ca * ca + l < t
          · rw [if_pos h5, if_pos (by omega)]
          · rw [if_neg h5, if_neg (by omega)]
      · rw [List.getD_eq_getElem?_getD, List.getElem?_set_ne (Ne.symm he), ← List.getD_eq_getElem?_getD, h3 q hq]
        refine fsum_congr fun l hl => ?_
        have hne : q * ca + l ≠ t := fun h => he (by rw [← h]; exact (divmod_cell hl).1.symm)
        by_cases h5 : q * ca + l < t
        · rw [if_pos h5, if_pos (by omega)]
        · rw [if_neg h5, if_neg (by omega)]
theorem ext_bytes {l l' : List Int} (hl : l.length = l'.length) (h : bytesL l) (h' : bytesL l') (he : ∀ q, q < l.length → toF (l.getD q 0) = toF (l'.getD q 0)) : l = l' := by
  apply List.ext_getElem hl
  intro i h1 h2
  have := toF_inj (bytesL_get h i) (bytesL_get h' i) (he i h1)
  rwa [List.getD_eq_getElem?_getD, List.getD_eq_getElem?_getD, List.getElem?_eq_getElem h1, List.getElem?_eq_getElem h2] at this
theorem mulN_prod {a b : List Int} {ra ca cb : Nat} (ha : bytesL a) (hb : bytesL b) (hl : b.length = ca * cb) (hca : 0 < ca) : mulN a b ra ca cb (ra * cb * ca) = prodL a b ra ca cb := by
  obtain ⟨h1, h2, h3⟩ := mulN_facts (ra := ra) (cb := cb) ha hb hca _ (Nat.le_refl _)
  obtain ⟨p1, p2, p3⟩ := prod_facts (ra := ra) hl ha hb hca
  refine ext_bytes (by rw [h1, p1]) h2 p2 fun q hq => ?_
  rw [h1] at hq
  have hcb : 0 < cb := by
    cases cb with
    | zero => simp at hq
    | succ n => omega
  have hqr : q / cb < ra := Nat.div_lt_of_lt_mul (by rwa [Nat.mul_comm] at hq)
  have hqm := Nat.mod_lt q hcb
  have hqd : q / cb * cb + q % cb = q := by rw [Nat.mul_comm]; exact Nat.div_add_mod q cb
  have h4 := p3 (q / cb) (q % cb) hqr hqm
  rw [matL, hqd] at h4
  rw [h3 q hq, h4]
  exact fsum_congr fun l hl => if_pos (cell_lt hq hl)
theorem bI_takeB {d : Rows'} {n : Nat} (h : allB d) : bytesL ((bI d).take n) := take_bytes (bytes_of h)
theorem mulP_put {ra ca la ca' cb lb l cap i j s : Int} {d da db : Rows'} (h : mulP ra ca la ca' cb lb l cap ((i * cb + j) * ca + s) d da db) (i0 : 0 ≤ i) (i1 : i < ra) (j0 : 0 ≤ j) (j1 : j < cb) (s0 : 0 ≤ s) (s1 : s < ca) (hla : la ≤ da.length) (hlb : lb ≤ db.length) (hB : allB d) :
    mulP ra ca la ca' cb lb l cap ((i * cb + j) * ca + (s + 1)) (putD d (i * cb + j) 0 [.int .u8 (xorB (cellI d (i * cb + j) 0) (mulF (cellI da (i * ca + s) 0) (cellI db (s * cb + j) 0)))]) da db := by
  obtain ⟨hA, hBv, hc, hM, hl, hd⟩ := h
  have hA' := hA
  have hBv' := hBv
  obtain ⟨ra1, ra2, ca1, ca2, hla'⟩ := hA'
  obtain ⟨rb1, rb2, cb1, cb2, hlb'⟩ := hBv'
  refine ⟨hA, hBv, hc, matOk_put hM xorB_isB.1 xorB_isB.2, by rw [putD_len]; exact hl, ?_⟩
  obtain ⟨a1, a2, a3, a4, a5, a6, a7, a8⟩ := hM
  obtain ⟨b0, b1, b2, b3⟩ := cell_bd i0 i1 ra2 j0 j1 cb2
  obtain ⟨c0, c1, c2, c3⟩ := cell_bd i0 i1 ra2 s0 s1 ca2
  obtain ⟨e0, e1, e2, e3⟩ := cell_bd s0 (show s < ca' by omega) rb2 j0 j1 cb2
  have ht : (i * cb + j) * ca + (s + 1) = ((i * cb + j) * ca + s) + 1 := by omega
  have h0 : 0 ≤ (i * cb + j) * ca := Int.mul_nonneg (by omega) (by omega)
  have ht2 : ((i * cb + j) * ca + s).toNat = (i * cb + j).toNat * ca.toNat + s.toNat := by rw [Int.toNat_add h0 s0, Int.toNat_mul (by omega) (by omega)]
  obtain ⟨d1, d2⟩ := divmod_cell (i := (i * cb + j).toNat) (n := ca.toNat) (j := s.toNat) (by omega)
  obtain ⟨d3, d4⟩ := divmod_cell (i := i.toNat) (n := cb.toNat) (j := j.toNat) (by omega)
  have hg0 : (bI d).getD (i * cb + j).toNat 0 = cellI d (i * cb + j) 0 := by
    rw [List.getD_eq_getElem?_getD, bI_get (d := d) (i := i * cb + j) (by omega) (by omega)]; rfl
  rw [hd, ht2, b3] at hg0
  rw [bI_put, hd, ht, show (((i * cb + j) * ca + s) + 1).toNat = ((i * cb + j) * ca + s).toNat + 1 by omega, mulN]
  rw [ht2, d1, d2, b3, d3, d4]
  congr 1
  congr 1
  · exact hg0.symm
  · congr 1
    · have := bI_get (d := da) (i := i * ca + s) (by omega) (by omega)
      rw [List.getD_eq_getElem?_getD, List.getElem?_take, ← c3, if_pos (by omega), this]; rfl
    · have := bI_get (d := db) (i := s * cb + j) (by omega) (by omega)
      rw [List.getD_eq_getElem?_getD, List.getElem?_take, ← e3, if_pos (by omega), this]; rfl
theorem mulP_start {ra ca la ca' cb lb : Int} {da db : Rows'} (hA : validM ra ca la) (hB : validM ca' cb lb) (hc : ca = ca') : mulP ra ca la ca' cb lb (ra * cb) (ra * cb) 0 (List.replicate (ra * cb).toNat [.int .u8 0]) da db := by
  have hA' := hA
  have hB' := hB
  obtain ⟨ra1, ra2, ca1, ca2, _⟩ := hA'
  obtain ⟨rb1, rb2, cb1, cb2, _⟩ := hB'
  have hb := mul_bound (x := ra) (y := cb) (by omega) ra2 (by omega) cb2
  refine ⟨hA, hB, hc, ⟨by omega, ra2, by omega, cb2, rfl, by omega, by rw [List.length_replicate]; omega, allB_rep⟩, by rw [List.length_replicate]; omega, ?_⟩
  rw [bI_rep]
  show _ = mulN _ _ _ _ _ 0
  rw [mulN, Int.toNat_mul (by omega) (by omega)]
set_option maxRecDepth 20000 in
theorem mul50_ok : mul50C.ok Try.prog := mul50_of (by simp [good43_ok, times53_ok]) fun ρ hg hp => by
  obtain ⟨a0, a1, a2, b0, b1, b2⟩ := hp
  simp (config := { maxSteps := 4000000 }) [o_mul50, mul50C, mul50I, mul50J, mul50K, good43C, valid36C, times53C]
  refine ⟨a0, fun v _ hv => ⟨fun hb h => ?_, fun hb => ⟨b0, fun v' _ hv' => ⟨fun hb' _ h => ?_, fun hb' => ?_⟩⟩⟩⟩
  · have := hv.2 h; rw [hb] at this; cases this
  · have := hv'.2 h; rw [hb'] at this; cases this
  have vA : validM (ρ 0).i (ρ 1).i (ρ 3).i := hv.1 hb
  have vB : validM (ρ 7).i (ρ 8).i (ρ 10).i := hv'.1 hb'
  refine ⟨fun h => ⟨vA, vB, h⟩, fun hc => ?_⟩
  have vA' := vA
  have vB' := vB
  obtain ⟨ra1, ra2, ca1, ca2, hla⟩ := vA'
  obtain ⟨rb1, rb2, cb1, cb2, hlb⟩ := vB'
  have hbb := mul_bound (x := (ρ 0).i) (y := (ρ 8).i) (by omega) ra2 (by omega) cb2
  rw [mul64 (by omega) (by omega)]
  refine ⟨hbb.1, by omega, ⟨by omega, mulP_start vA vB hc⟩, fun i _ l _ cp _ d _ i0 i1 hP => ⟨fun hi => ⟨⟨i0, hi, by omega, hP⟩, fun i2 _ l2 _ cp2 _ d2 _ j2 _ i20 i21 j20 j21 hii hP2 => ⟨fun hj => ⟨⟨i20, i21, j20, hj, by omega, hP2⟩, fun i3 _ l3 _ cp3 _ d3 _ j3 _ s _ i30 i31 j30 j31 s0 s1 hi3 hj3 hP3 => ⟨fun hs => ?_, fun hs => ?_⟩⟩, fun hj => ?_⟩⟩, fun hi => ?_⟩⟩
  · have hM3 := hP3.2.2.2.1
    have hL3 := hP3.2.2.2.2.1
    obtain ⟨m1, m2, m3, m4, m5, m6, m7, m8⟩ := hM3
    obtain ⟨x0, x1, x2, x3⟩ := cell_bd i30 i31 ra2 j30 j31 cb2
    obtain ⟨y0, y1, y2, y3⟩ := cell_bd i30 i31 ra2 s0 hs ca2
    obtain ⟨z0, z1, z2, z3⟩ := cell_bd s0 (show s.i < (ρ 7).i by omega) rb2 j30 j31 cb2
    rw [mul64 (x := i3.i) (y := (ρ 8).i) (by omega) (by omega), mul64 (x := i3.i) (y := (ρ 1).i) (by omega) (by omega), mul64 (x := s.i) (by omega) (by omega), add64 (x := i3.i * (ρ 8).i) (by omega) (by omega), add64 (x := i3.i * (ρ 1).i) (by omega) (by omega), add64 (x := s.i * (ρ 8).i) (by omega) (by omega), add64 (by omega) (by omega)]
    have c1 := allB_get a2 (i := i3.i * (ρ 1).i + s.i) (by omega) (by omega)
    have c2 := allB_get b2 (i := s.i * (ρ 8).i + j3.i) (by omega) (by omega)
    refine ⟨by omega, by omega, by omega, by omega, by omega, by omega, by omega, by omega, by omega, ⟨c1, c2⟩, fun m _ hm => ⟨⟨i30, i31, j30, j31, by omega, by omega, hi3, hj3, ?_⟩, by omega⟩⟩
    rw [hm]
    exact mulP_put hP3 i30 i31 j30 j31 s0 hs a1 b1 m8
  · rw [add64 (by omega) (by omega)]
    refine ⟨⟨i30, i31, by omega, by omega, by omega, ?_⟩, by omega⟩
    rw [show (i3.i * (ρ 8).i + (j3.i + 1)) * (ρ 1).i = (i3.i * (ρ 8).i + j3.i) * (ρ 1).i + s.i by rw [← Int.add_assoc, Int.add_mul (c := (ρ 1).i), Int.one_mul]; omega]
    exact hP3
  · rw [add64 (by omega) (by omega)]
    refine ⟨⟨by omega, by omega, ?_⟩, by omega⟩
    rw [show (i2.i + 1) * (ρ 8).i = i2.i * (ρ 8).i + j2.i by rw [Int.add_mul, Int.one_mul]; omega]
    exact hP2
  · obtain ⟨_, _, _, hM, hL, hd⟩ := hP
    refine ⟨vA, vB, hc, hM, hL, ?_⟩
    have : i.i = (ρ 0).i := by omega
    rw [hd, this, Int.toNat_mul (by omega) (by omega), Int.toNat_mul (by omega) (by omega)]
    exact mulN_prod (bI_takeB a2) (bI_takeB b2) (by rw [List.length_take, bI_len, ← Int.toNat_mul (by omega) (by omega)]; rw [hc]; omega) (by omega)
end Go.Proofs
