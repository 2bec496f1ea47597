/- Texts BV, BW, BX, BY, CA, CB, E13, E14. -/
import Derived.Test.YtelcnkclppkicaaDoorG9
import Derived.Test.YtelcnkclppkicaaDoorProg
import Derived.Test.YtelcnkclppkicaaDoorG5
import Derived.WalkKit
import Derived.ProofKit
import Derived.OpenShut
import Derived.Carry
import Derived.SizedLaws
set_option linter.unusedSimpArgs false
set_option linter.unusedVariables false
set_option maxRecDepth 100000
namespace Go.Proofs
open Go Go.Eng

def o_take : Out := (.br (.cmp .neq (.var 5) (.lit (0)))
 (.ret 0 ⟨9, [(9, (.t (.var 5)))], [((.var 4), (.var 4)), ((.var 3), (.var 3)), ((.var 2), (.var 2))], [], []⟩)
 (.br (.cmp .lss (.var 8) (.lit (0)))
 (.ret 0 ⟨9, [(9, (.t (.lit (2))))], [((.var 4), (.var 4)), ((.var 3), (.var 3)), ((.var 2), (.var 2))], [], []⟩)
 (.need (.cmp .leq (.lit (0)) (.var 3)) (.br (.cmp .gtr (.var 8) (.var 3))
 (.ret 0 ⟨9, [(9, (.t (.lit (4))))], [((.var 4), (.var 4)), ((.var 3), (.var 3)), ((.var 2), (.var 2))], [], []⟩)
 (.need (.cmp .leq (.lit (0)) (.var 2)) (.need (.cmp .leq (.lit (0)) (.var 4)) (.need (.cmp .leq (.lit (0)) (.var 8)) (.need (.cmp .leq (.var 8) (.var 4)) (.need (.cmp .leq (.var 8) (.var 3)) (.need (.cmp .leq (.var 3) (.var 4)) (.need (.cmp .eql (.lit (0)) (.var 5)) (.ret 1 ⟨9, [(13, (.t (.minus (.var 4) (.var 8)))), (12, (.t (.minus (.var 3) (.var 8)))), (11, (.t (.ife (.var 4) (.var 8) (.var 2) (.plus (.var 2) (.var 8))))), (10, (.t (.var 4))), (9, (.t (.var 2)))], [((.lit (0)), (.var 5)), ((.var 8), (.var 8))], [], []⟩))))))))))))
theorem o_take_eq : treeOf ⟨Tryd.prog, takeC, [], []⟩ 100000 Tryd.f119 = o_take := by kernel_rfl
theorem take_of (hd : ∀ c ∈ ([] : List Ctr), c.ok Tryd.prog) (h : ∀ ρ : Env, ρ.good → (takeC).pre ρ → o_take.den ⟨Tryd.prog, takeC, [], []⟩ ρ) : (takeC).ok Tryd.prog :=
  ok_of_tree Tryd.func119 (fun a w => Tryd.call119 a w) hd 100000 (fun ρ hg hp => by rw [o_take_eq]; exact h ρ hg hp)
def o_rNum : Out := (.pre 0 ⟨0, [(7, (.t (.var 7))), (6, (.t (.var 6))), (5, (.t (.var 5))), (4, (.t (.var 4))), (3, (.t (.var 3))), (2, (.t (.var 2))), (1, (.r 1)), (8, (.t (.var 8))), (0, (.r 0))], [((.lit (0)), (.lit (0)))], [], []⟩ (.both (.fresh 9 (.post 0 0 ⟨0, [(7, (.t (.var 7))), (6, (.t (.var 6))), (5, (.t (.var 5))), (4, (.t (.var 4))), (3, (.t (.var 3))), (2, (.t (.var 2))), (1, (.r 1)), (8, (.t (.var 8))), (0, (.r 0))], [((.lit (0)), (.lit (0)))], [], []⟩ 9 (.inv 0 10 ⟨1000, [(1001, (.t (.lit (0)))), (1000, (.t (.lit (0))))], [((.var 9), (.var 9)), ((.var 4), (.var 4)), ((.var 3), (.var 3)), ((.var 2), (.var 2)), ((.lit (0)), (.lit (0)))], [], []⟩ (.fresh 10 (.fresh 11 (.hyp 0 10 (.br (.cmp .lss (.var 11) (.lit (0)))
 (.stuck 15 0 0)
 (.ret 0 ⟨9, [(13, (.t (.var 9))), (12, (.t (.var 4))), (11, (.t (.var 3))), (10, (.t (.var 2))), (9, (.t (.var 10)))], [], [], []⟩)))))))) (.both (.fresh 9 (.fresh 10 (.fresh 11 (.fresh 12 (.fresh 13 (.post 0 1 ⟨0, [(7, (.t (.var 7))), (6, (.t (.var 6))), (5, (.t (.var 5))), (4, (.t (.var 4))), (3, (.t (.var 3))), (2, (.t (.var 2))), (1, (.r 1)), (8, (.t (.var 8))), (0, (.r 0))], [((.lit (0)), (.lit (0)))], [], []⟩ 9 (.need (.cmp .leq (.lit (0)) (.var 8)) (.inv 1 14 ⟨1000, [(1001, (.t (.lit (0)))), (1000, (.t (.lit (0))))], [((.lit (0)), (.lit (0))), ((.var 13), (.var 13)), ((.var 12), (.var 12)), ((.var 11), (.var 11)), ((.var 8), (.var 8)), ((.var 10), (.var 10)), ((.var 8), (.var 8)), ((.var 9), (.var 9))], [], []⟩ (.fresh 14 (.fresh 15 (.hyp 1 14 (.br (.cmp .lss (.var 15) (.var 8))
 (.need (.cmp .leq (.lit (0)) (.var 15)) (.need (.cmp .leq (.lit (0)) (.var 9)) (.need (.cmp .leq (.lit (0)) (.plus (.var 9) (.var 15))) (.need (.cmp .lss (.plus (.var 9) (.var 15)) (.dlen (.var 6))) (.back 1 14 ⟨1000, [(1001, (.t (.arith .add .i64 (.var 15) (.lit (1))))), (1000, (.t (.arith .or .u64 (.arith .shl .u64 (.var 14) (.lit (8))) (.conv .u64 (.icell (.var 6) (.plus (.var 9) (.var 15)) 0)))))], [((.lit (0)), (.lit (0))), ((.var 13), (.var 13)), ((.var 12), (.var 12)), ((.var 11), (.var 11)), ((.var 8), (.var 8)), ((.var 10), (.var 10)), ((.var 8), (.var 8)), ((.var 9), (.var 9))], [], []⟩)))))
 (.ret 0 ⟨9, [(13, (.t (.lit (0)))), (12, (.t (.var 13))), (11, (.t (.var 12))), (10, (.t (.var 11))), (9, (.t (.var 14)))], [], [], []⟩))))))))))))) .top)))
theorem o_rNum_eq : treeOf ⟨Tryd.prog, rNumC, [takeC], [rNumN, rNumI]⟩ 100000 Tryd.f118 = o_rNum := by kernel_rfl
theorem rNum_of (hd : ∀ c ∈ ([takeC] : List Ctr), c.ok Tryd.prog) (h : ∀ ρ : Env, ρ.good → (rNumC).pre ρ → o_rNum.den ⟨Tryd.prog, rNumC, [takeC], [rNumN, rNumI]⟩ ρ) : (rNumC).ok Tryd.prog :=
  ok_of_tree Tryd.func118 (fun a w => Tryd.call118 a w) hd 100000 (fun ρ hg hp => by rw [o_rNum_eq]; exact h ρ hg hp)
def o_rU8 : Out := (.pre 0 ⟨0, [(7, (.t (.var 7))), (6, (.t (.var 6))), (5, (.t (.var 5))), (4, (.t (.var 4))), (3, (.t (.var 3))), (2, (.t (.var 2))), (1, (.r 1)), (8, (.t (.lit (1)))), (0, (.r 0))], [((.lit (0)), (.lit (0)))], [], []⟩ (.both (.fresh 8 (.fresh 9 (.fresh 10 (.fresh 11 (.fresh 12 (.post 0 0 ⟨0, [(7, (.t (.var 7))), (6, (.t (.var 6))), (5, (.t (.var 5))), (4, (.t (.var 4))), (3, (.t (.var 3))), (2, (.t (.var 2))), (1, (.r 1)), (8, (.t (.lit (1)))), (0, (.r 0))], [((.lit (0)), (.lit (0)))], [], []⟩ 8 (.ret 0 ⟨8, [(12, (.t (.var 12))), (11, (.t (.var 11))), (10, (.t (.var 10))), (9, (.t (.var 9))), (8, (.t (.conv .u8 (.var 8))))], [], [], []⟩))))))) .top))
theorem o_rU8_eq : treeOf ⟨Tryd.prog, rU8C, [rNumC], []⟩ 100000 Tryd.f90 = o_rU8 := by kernel_rfl
theorem rU8_of (hd : ∀ c ∈ ([rNumC] : List Ctr), c.ok Tryd.prog) (h : ∀ ρ : Env, ρ.good → (rU8C).pre ρ → o_rU8.den ⟨Tryd.prog, rU8C, [rNumC], []⟩ ρ) : (rU8C).ok Tryd.prog :=
  ok_of_tree Tryd.func90 (fun a w => Tryd.call90 a w) hd 100000 (fun ρ hg hp => by rw [o_rU8_eq]; exact h ρ hg hp)
def o_rU16 : Out := (.pre 0 ⟨0, [(7, (.t (.var 7))), (6, (.t (.var 6))), (5, (.t (.var 5))), (4, (.t (.var 4))), (3, (.t (.var 3))), (2, (.t (.var 2))), (1, (.r 1)), (8, (.t (.lit (2)))), (0, (.r 0))], [((.lit (0)), (.lit (0)))], [], []⟩ (.both (.fresh 8 (.fresh 9 (.fresh 10 (.fresh 11 (.fresh 12 (.post 0 0 ⟨0, [(7, (.t (.var 7))), (6, (.t (.var 6))), (5, (.t (.var 5))), (4, (.t (.var 4))), (3, (.t (.var 3))), (2, (.t (.var 2))), (1, (.r 1)), (8, (.t (.lit (2)))), (0, (.r 0))], [((.lit (0)), (.lit (0)))], [], []⟩ 8 (.ret 0 ⟨8, [(12, (.t (.var 12))), (11, (.t (.var 11))), (10, (.t (.var 10))), (9, (.t (.var 9))), (8, (.t (.conv .u16 (.var 8))))], [], [], []⟩))))))) .top))
theorem o_rU16_eq : treeOf ⟨Tryd.prog, rU16C, [rNumC], []⟩ 100000 Tryd.f91 = o_rU16 := by kernel_rfl
theorem rU16_of (hd : ∀ c ∈ ([rNumC] : List Ctr), c.ok Tryd.prog) (h : ∀ ρ : Env, ρ.good → (rU16C).pre ρ → o_rU16.den ⟨Tryd.prog, rU16C, [rNumC], []⟩ ρ) : (rU16C).ok Tryd.prog :=
  ok_of_tree Tryd.func91 (fun a w => Tryd.call91 a w) hd 100000 (fun ρ hg hp => by rw [o_rU16_eq]; exact h ρ hg hp)
def o_rU32 : Out := (.pre 0 ⟨0, [(7, (.t (.var 7))), (6, (.t (.var 6))), (5, (.t (.var 5))), (4, (.t (.var 4))), (3, (.t (.var 3))), (2, (.t (.var 2))), (1, (.r 1)), (8, (.t (.lit (4)))), (0, (.r 0))], [((.lit (0)), (.lit (0)))], [], []⟩ (.both (.fresh 8 (.fresh 9 (.fresh 10 (.fresh 11 (.fresh 12 (.post 0 0 ⟨0, [(7, (.t (.var 7))), (6, (.t (.var 6))), (5, (.t (.var 5))), (4, (.t (.var 4))), (3, (.t (.var 3))), (2, (.t (.var 2))), (1, (.r 1)), (8, (.t (.lit (4)))), (0, (.r 0))], [((.lit (0)), (.lit (0)))], [], []⟩ 8 (.ret 0 ⟨8, [(12, (.t (.var 12))), (11, (.t (.var 11))), (10, (.t (.var 10))), (9, (.t (.var 9))), (8, (.t (.conv .u32 (.var 8))))], [], [], []⟩))))))) .top))
theorem o_rU32_eq : treeOf ⟨Tryd.prog, rU32C, [rNumC], []⟩ 100000 Tryd.f92 = o_rU32 := by kernel_rfl
theorem rU32_of (hd : ∀ c ∈ ([rNumC] : List Ctr), c.ok Tryd.prog) (h : ∀ ρ : Env, ρ.good → (rU32C).pre ρ → o_rU32.den ⟨Tryd.prog, rU32C, [rNumC], []⟩ ρ) : (rU32C).ok Tryd.prog :=
  ok_of_tree Tryd.func92 (fun a w => Tryd.call92 a w) hd 100000 (fun ρ hg hp => by rw [o_rU32_eq]; exact h ρ hg hp)
def o_rU64 : Out := (.pre 0 ⟨0, [(7, (.t (.var 7))), (6, (.t (.var 6))), (5, (.t (.var 5))), (4, (.t (.var 4))), (3, (.t (.var 3))), (2, (.t (.var 2))), (1, (.r 1)), (8, (.t (.lit (8)))), (0, (.r 0))], [((.lit (0)), (.lit (0)))], [], []⟩ (.both (.fresh 8 (.fresh 9 (.fresh 10 (.fresh 11 (.fresh 12 (.post 0 0 ⟨0, [(7, (.t (.var 7))), (6, (.t (.var 6))), (5, (.t (.var 5))), (4, (.t (.var 4))), (3, (.t (.var 3))), (2, (.t (.var 2))), (1, (.r 1)), (8, (.t (.lit (8)))), (0, (.r 0))], [((.lit (0)), (.lit (0)))], [], []⟩ 8 (.ret 0 ⟨8, [(12, (.t (.var 12))), (11, (.t (.var 11))), (10, (.t (.var 10))), (9, (.t (.var 9))), (8, (.t (.var 8)))], [], [], []⟩))))))) .top))
theorem o_rU64_eq : treeOf ⟨Tryd.prog, rU64C, [rNumC], []⟩ 100000 Tryd.f93 = o_rU64 := by kernel_rfl
theorem rU64_of (hd : ∀ c ∈ ([rNumC] : List Ctr), c.ok Tryd.prog) (h : ∀ ρ : Env, ρ.good → (rU64C).pre ρ → o_rU64.den ⟨Tryd.prog, rU64C, [rNumC], []⟩ ρ) : (rU64C).ok Tryd.prog :=
  ok_of_tree Tryd.func93 (fun a w => Tryd.call93 a w) hd 100000 (fun ρ hg hp => by rw [o_rU64_eq]; exact h ρ hg hp)
def o_cloneO : Out := (.br (.and (.cmp .eql (.dlen (.var 4)) (.lit (0))) (.isnil 0))
 (.need (.cmp .eql (.var 2) (.lit (0))) (.ret 0 ⟨6, [(8, (.t .dnil)), (7, (.t (.lit (0)))), (6, .nil)], [((.var 7), (.lit (0))), ((.var 2), (.lit (0))), ((.lit (0)), (.lit (0)))], [], []⟩))
 (.fresh 6 (.need (.cmp .leq (.lit (0)) (.var 1)) (.need (.cmp .leq (.lit (0)) (.var 2)) (.need (.cmp .leq (.plus (.var 1) (.var 2)) (.dlen (.var 4))) (.need (.cmp .leq (.tims (.lit (1)) (.var 2)) (.lit (140737488355328))) (.fresh 7 (.fresh 8 (.ret 0 ⟨6, [(8, (.t (.dtake (.ddrop (.var 4) (.var 1)) (.var 2)))), (7, (.t (.var 8))), (6, (.r 7))], [((.var 7), (.var 8)), ((.var 2), (.var 2)), ((.lit (0)), (.lit (0)))], [], []⟩)))))))))
theorem o_cloneO_eq : treeOf ⟨Tryd.prog, cloneOC, [], []⟩ 100000 Tryd.f88 = o_cloneO := by kernel_rfl
theorem cloneO_of (hd : ∀ c ∈ ([] : List Ctr), c.ok Tryd.prog) (h : ∀ ρ : Env, ρ.good → (cloneOC).pre ρ → o_cloneO.den ⟨Tryd.prog, cloneOC, [], []⟩ ρ) : (cloneOC).ok Tryd.prog :=
  ok_of_tree Tryd.func88 (fun a w => Tryd.call88 a w) hd 100000 (fun ρ hg hp => by rw [o_cloneO_eq]; exact h ρ hg hp)
def o_cloneN : Out := (.ret 0 ⟨0, [], [], [], []⟩)
theorem o_cloneN_eq : treeOf ⟨Tryd.prog, cloneNC, [], []⟩ 100000 Tryd.f88 = o_cloneN := by kernel_rfl
theorem cloneN_of (hd : ∀ c ∈ ([] : List Ctr), c.ok Tryd.prog) (h : ∀ ρ : Env, ρ.good → (cloneNC).pre ρ → o_cloneN.den ⟨Tryd.prog, cloneNC, [], []⟩ ρ) : (cloneNC).ok Tryd.prog :=
  ok_of_tree Tryd.func88 (fun a w => Tryd.call88 a w) hd 100000 (fun ρ hg hp => by rw [o_cloneN_eq]; exact h ρ hg hp)
def o_rawR : Out := (.pre 0 ⟨0, [(7, (.t (.var 7))), (6, (.t (.var 6))), (5, (.t (.var 5))), (4, (.t (.var 4))), (3, (.t (.var 3))), (2, (.t (.var 2))), (1, (.r 1)), (8, (.t (.var 8))), (0, (.r 0))], [((.lit (0)), (.lit (0)))], [], []⟩ (.both (.fresh 9 (.post 0 0 ⟨0, [(7, (.t (.var 7))), (6, (.t (.var 6))), (5, (.t (.var 5))), (4, (.t (.var 4))), (3, (.t (.var 3))), (2, (.t (.var 2))), (1, (.r 1)), (8, (.t (.var 8))), (0, (.r 0))], [((.lit (0)), (.lit (0)))], [], []⟩ 9 (.pre 1 ⟨0, [], [], [], []⟩ (.both (.post 1 0 ⟨0, [], [], [], []⟩ 10 (.ret 0 ⟨9, [(12, (.t .dnil)), (16, (.t (.var 9))), (15, (.t (.var 4))), (14, (.t (.var 3))), (13, (.t (.var 2))), (11, (.t (.lit (0)))), (10, (.t (.lit (0)))), (9, .nil)], [((.var 11), (.lit (0))), ((.lit (0)), (.lit (0)))], [], []⟩)) .top)))) (.both (.fresh 9 (.fresh 10 (.fresh 11 (.fresh 12 (.fresh 13 (.post 0 1 ⟨0, [(7, (.t (.var 7))), (6, (.t (.var 6))), (5, (.t (.var 5))), (4, (.t (.var 4))), (3, (.t (.var 3))), (2, (.t (.var 2))), (1, (.r 1)), (8, (.t (.var 8))), (0, (.r 0))], [((.lit (0)), (.lit (0)))], [], []⟩ 9 (.pre 2 ⟨0, [(5, (.t (.var 7))), (4, (.t (.var 6))), (3, (.t (.var 10))), (2, (.t (.var 8))), (1, (.t (.var 9))), (0, (.r 1))], [], [], []⟩ (.both (.fresh 14 (.fresh 15 (.fresh 16 (.post 2 0 ⟨0, [(5, (.t (.var 7))), (4, (.t (.var 6))), (3, (.t (.var 10))), (2, (.t (.var 8))), (1, (.t (.var 9))), (0, (.r 1))], [], [], []⟩ 14 (.ret 0 ⟨9, [(12, (.t (.var 16))), (16, (.t (.lit (0)))), (15, (.t (.var 13))), (14, (.t (.var 12))), (13, (.t (.var 11))), (11, (.t (.var 15))), (10, (.t (.var 8))), (9, (.r 14))], [((.var 11), (.var 15)), ((.lit (0)), (.lit (0)))], [], []⟩))))) .top)))))))) .top)))
theorem o_rawR_eq : treeOf ⟨Tryd.prog, rawRC, [takeC, cloneNC, cloneOC], []⟩ 100000 Tryd.f94 = o_rawR := by kernel_rfl
theorem rawR_of (hd : ∀ c ∈ ([takeC, cloneNC, cloneOC] : List Ctr), c.ok Tryd.prog) (h : ∀ ρ : Env, ρ.good → (rawRC).pre ρ → o_rawR.den ⟨Tryd.prog, rawRC, [takeC, cloneNC, cloneOC], []⟩ ρ) : (rawRC).ok Tryd.prog :=
  ok_of_tree Tryd.func94 (fun a w => Tryd.call94 a w) hd 100000 (fun ρ hg hp => by rw [o_rawR_eq]; exact h ρ hg hp)
def o_textR : Out := (.br (.cmp .neq (.var 5) (.lit (0)))
 (.ret 0 ⟨9, [(12, (.t .dnil)), (16, (.t (.var 5))), (15, (.t (.var 4))), (14, (.t (.var 3))), (13, (.t (.var 2))), (11, (.t (.lit (0)))), (10, (.t (.lit (0)))), (9, .nil)], [((.var 11), (.lit (0))), ((.lit (0)), (.lit (0)))], [], []⟩)
 (.pre 1 ⟨0, [(7, (.t (.var 7))), (6, (.t (.var 6))), (5, (.t (.var 5))), (4, (.t (.var 4))), (3, (.t (.var 3))), (2, (.t (.var 2))), (1, (.r 1)), (8, (.t (.lit (2)))), (0, (.r 0))], [((.lit (0)), (.lit (0)))], [], []⟩ (.both (.fresh 9 (.fresh 10 (.fresh 11 (.fresh 12 (.fresh 13 (.post 1 0 ⟨0, [(7, (.t (.var 7))), (6, (.t (.var 6))), (5, (.t (.var 5))), (4, (.t (.var 4))), (3, (.t (.var 3))), (2, (.t (.var 2))), (1, (.r 1)), (8, (.t (.lit (2)))), (0, (.r 0))], [((.lit (0)), (.lit (0)))], [], []⟩ 9 (.pre 0 ⟨0, [(7, (.t (.var 7))), (6, (.t (.var 6))), (5, (.t (.var 13))), (4, (.t (.var 12))), (3, (.t (.var 11))), (2, (.t (.var 10))), (1, (.r 1)), (8, (.t (.conv .i64 (.var 9)))), (0, (.r 0))], [((.lit (0)), (.lit (0)))], [], []⟩ (.both (.fresh 14 (.post 0 0 ⟨0, [(7, (.t (.var 7))), (6, (.t (.var 6))), (5, (.t (.var 13))), (4, (.t (.var 12))), (3, (.t (.var 11))), (2, (.t (.var 10))), (1, (.r 1)), (8, (.t (.conv .i64 (.var 9)))), (0, (.r 0))], [((.lit (0)), (.lit (0)))], [], []⟩ 14 (.br (.cmp .neq (.var 14) (.lit (0)))
 (.ret 0 ⟨9, [(12, (.t .dnil)), (16, (.t (.var 14))), (15, (.t (.var 4))), (14, (.t (.var 3))), (13, (.t (.var 2))), (11, (.t (.lit (0)))), (10, (.t (.lit (0)))), (9, .nil)], [((.var 11), (.lit (0))), ((.lit (0)), (.lit (0)))], [], []⟩)
 (.pre 2 ⟨0, [], [], [], []⟩ (.both (.post 2 0 ⟨0, [], [], [], []⟩ 15 (.ret 0 ⟨9, [(12, (.t .dnil)), (16, (.t (.var 14))), (15, (.t (.var 12))), (14, (.t (.var 11))), (13, (.t (.var 10))), (11, (.t (.lit (0)))), (10, (.t (.lit (0)))), (9, .nil)], [((.var 11), (.lit (0))), ((.lit (0)), (.lit (0)))], [], []⟩)) .top))))) (.both (.fresh 14 (.fresh 15 (.fresh 16 (.fresh 17 (.fresh 18 (.post 0 1 ⟨0, [(7, (.t (.var 7))), (6, (.t (.var 6))), (5, (.t (.var 13))), (4, (.t (.var 12))), (3, (.t (.var 11))), (2, (.t (.var 10))), (1, (.r 1)), (8, (.t (.conv .i64 (.var 9)))), (0, (.r 0))], [((.lit (0)), (.lit (0)))], [], []⟩ 14 (.pre 3 ⟨0, [(5, (.t (.var 7))), (4, (.t (.var 6))), (3, (.t (.var 15))), (2, (.t (.conv .i64 (.var 9)))), (1, (.t (.var 14))), (0, (.r 1))], [], [], []⟩ (.both (.fresh 19 (.fresh 20 (.fresh 21 (.post 3 0 ⟨0, [(5, (.t (.var 7))), (4, (.t (.var 6))), (3, (.t (.var 15))), (2, (.t (.conv .i64 (.var 9)))), (1, (.t (.var 14))), (0, (.r 1))], [], [], []⟩ 19 (.ret 0 ⟨9, [(12, (.t (.var 21))), (16, (.t (.lit (0)))), (15, (.t (.var 18))), (14, (.t (.var 17))), (13, (.t (.var 16))), (11, (.t (.var 20))), (10, (.t (.conv .i64 (.var 9)))), (9, (.r 19))], [((.var 11), (.var 20)), ((.lit (0)), (.lit (0)))], [], []⟩))))) .top)))))))) .top))))))))) .top)))
theorem o_textR_eq : treeOf ⟨Tryd.prog, textRC, [takeC, rNumC, cloneNC, cloneOC], []⟩ 100000 Tryd.f95 = o_textR := by kernel_rfl
theorem textR_of (hd : ∀ c ∈ ([takeC, rNumC, cloneNC, cloneOC] : List Ctr), c.ok Tryd.prog) (h : ∀ ρ : Env, ρ.good → (textRC).pre ρ → o_textR.den ⟨Tryd.prog, textRC, [takeC, rNumC, cloneNC, cloneOC], []⟩ ρ) : (textRC).ok Tryd.prog :=
  ok_of_tree Tryd.func95 (fun a w => Tryd.call95 a w) hd 100000 (fun ρ hg hp => by rw [o_textR_eq]; exact h ρ hg hp)
def o_readOp : Out := (.fresh 16 (.br (.cmp .eql (.var 8) (.lit (1)))
 (.pre 0 ⟨0, [(7, (.t (.var 7))), (6, (.t (.var 6))), (5, (.t (.var 5))), (4, (.t (.var 4))), (3, (.t (.var 3))), (2, (.t (.var 2))), (1, (.r 1)), (0, (.r 0))], [((.lit (0)), (.lit (0)))], [], []⟩ (.both (.fresh 17 (.fresh 18 (.fresh 19 (.fresh 20 (.fresh 21 (.post 0 0 ⟨0, [(7, (.t (.var 7))), (6, (.t (.var 6))), (5, (.t (.var 5))), (4, (.t (.var 4))), (3, (.t (.var 3))), (2, (.t (.var 2))), (1, (.r 1)), (0, (.r 0))], [((.lit (0)), (.lit (0)))], [], []⟩ 17 (.ret 0 ⟨16, [(20, (.t .dnil)), (24, (.t (.var 21))), (23, (.t (.var 20))), (22, (.t (.var 19))), (21, (.t (.var 18))), (19, (.t (.lit (0)))), (18, (.t (.lit (0)))), (17, .nil), (16, (.t (.conv .u64 (.var 17))))], [((.var 19), (.lit (0))), ((.lit (0)), (.lit (0)))], [], []⟩))))))) .top))
 (.br (.cmp .eql (.var 8) (.lit (2)))
 (.pre 1 ⟨0, [(7, (.t (.var 7))), (6, (.t (.var 6))), (5, (.t (.var 5))), (4, (.t (.var 4))), (3, (.t (.var 3))), (2, (.t (.var 2))), (1, (.r 1)), (0, (.r 0))], [((.lit (0)), (.lit (0)))], [], []⟩ (.both (.fresh 17 (.fresh 18 (.fresh 19 (.fresh 20 (.fresh 21 (.post 1 0 ⟨0, [(7, (.t (.var 7))), (6, (.t (.var 6))), (5, (.t (.var 5))), (4, (.t (.var 4))), (3, (.t (.var 3))), (2, (.t (.var 2))), (1, (.r 1)), (0, (.r 0))], [((.lit (0)), (.lit (0)))], [], []⟩ 17 (.ret 0 ⟨16, [(20, (.t .dnil)), (24, (.t (.var 21))), (23, (.t (.var 20))), (22, (.t (.var 19))), (21, (.t (.var 18))), (19, (.t (.lit (0)))), (18, (.t (.lit (0)))), (17, .nil), (16, (.t (.conv .u64 (.var 17))))], [((.var 19), (.lit (0))), ((.lit (0)), (.lit (0)))], [], []⟩))))))) .top))
 (.br (.cmp .eql (.var 8) (.lit (3)))
 (.pre 2 ⟨0, [(7, (.t (.var 7))), (6, (.t (.var 6))), (5, (.t (.var 5))), (4, (.t (.var 4))), (3, (.t (.var 3))), (2, (.t (.var 2))), (1, (.r 1)), (0, (.r 0))], [((.lit (0)), (.lit (0)))], [], []⟩ (.both (.fresh 17 (.fresh 18 (.fresh 19 (.fresh 20 (.fresh 21 (.post 2 0 ⟨0, [(7, (.t (.var 7))), (6, (.t (.var 6))), (5, (.t (.var 5))), (4, (.t (.var 4))), (3, (.t (.var 3))), (2, (.t (.var 2))), (1, (.r 1)), (0, (.r 0))], [((.lit (0)), (.lit (0)))], [], []⟩ 17 (.ret 0 ⟨16, [(20, (.t .dnil)), (24, (.t (.var 21))), (23, (.t (.var 20))), (22, (.t (.var 19))), (21, (.t (.var 18))), (19, (.t (.lit (0)))), (18, (.t (.lit (0)))), (17, .nil), (16, (.t (.conv .u64 (.var 17))))], [((.var 19), (.lit (0))), ((.lit (0)), (.lit (0)))], [], []⟩))))))) .top))
 (.br (.cmp .eql (.var 8) (.lit (4)))
 (.pre 3 ⟨0, [(7, (.t (.var 7))), (6, (.t (.var 6))), (5, (.t (.var 5))), (4, (.t (.var 4))), (3, (.t (.var 3))), (2, (.t (.var 2))), (1, (.r 1)), (0, (.r 0))], [((.lit (0)), (.lit (0)))], [], []⟩ (.both (.fresh 17 (.fresh 18 (.fresh 19 (.fresh 20 (.fresh 21 (.post 3 0 ⟨0, [(7, (.t (.var 7))), (6, (.t (.var 6))), (5, (.t (.var 5))), (4, (.t (.var 4))), (3, (.t (.var 3))), (2, (.t (.var 2))), (1, (.r 1)), (0, (.r 0))], [((.lit (0)), (.lit (0)))], [], []⟩ 17 (.ret 0 ⟨16, [(20, (.t .dnil)), (24, (.t (.var 21))), (23, (.t (.var 20))), (22, (.t (.var 19))), (21, (.t (.var 18))), (19, (.t (.lit (0)))), (18, (.t (.lit (0)))), (17, .nil), (16, (.t (.var 17)))], [((.var 19), (.lit (0))), ((.lit (0)), (.lit (0)))], [], []⟩))))))) .top))
 (.br (.cmp .eql (.var 8) (.lit (5)))
 (.pre 4 ⟨0, [(7, (.t (.var 7))), (6, (.t (.var 6))), (5, (.t (.var 5))), (4, (.t (.var 4))), (3, (.t (.var 3))), (2, (.t (.var 2))), (1, (.r 1)), (8, (.t (.var 10))), (0, (.r 0))], [((.lit (0)), (.lit (0)))], [], []⟩ (.both (.fresh 17 (.fresh 18 (.fresh 19 (.fresh 20 (.fresh 21 (.fresh 22 (.fresh 23 (.fresh 24 (.post 4 0 ⟨0, [(7, (.t (.var 7))), (6, (.t (.var 6))), (5, (.t (.var 5))), (4, (.t (.var 4))), (3, (.t (.var 3))), (2, (.t (.var 2))), (1, (.r 1)), (8, (.t (.var 10))), (0, (.r 0))], [((.lit (0)), (.lit (0)))], [], []⟩ 17 (.ret 0 ⟨16, [(20, (.t (.var 20))), (24, (.t (.var 24))), (23, (.t (.var 23))), (22, (.t (.var 22))), (21, (.t (.var 21))), (19, (.t (.var 19))), (18, (.t (.var 18))), (17, (.r 17)), (16, (.t (.lit (0))))], [((.var 19), (.var 19)), ((.lit (0)), (.lit (0)))], [], []⟩)))))))))) .top))
 (.br (.cmp .eql (.var 8) (.lit (6)))
 (.pre 5 ⟨0, [(7, (.t (.var 7))), (6, (.t (.var 6))), (5, (.t (.var 5))), (4, (.t (.var 4))), (3, (.t (.var 3))), (2, (.t (.var 2))), (1, (.r 1)), (0, (.r 0))], [((.lit (0)), (.lit (0)))], [], []⟩ (.both (.fresh 17 (.fresh 18 (.fresh 19 (.fresh 20 (.fresh 21 (.fresh 22 (.fresh 23 (.fresh 24 (.post 5 0 ⟨0, [(7, (.t (.var 7))), (6, (.t (.var 6))), (5, (.t (.var 5))), (4, (.t (.var 4))), (3, (.t (.var 3))), (2, (.t (.var 2))), (1, (.r 1)), (0, (.r 0))], [((.lit (0)), (.lit (0)))], [], []⟩ 17 (.ret 0 ⟨16, [(20, (.t (.var 20))), (24, (.t (.var 24))), (23, (.t (.var 23))), (22, (.t (.var 22))), (21, (.t (.var 21))), (19, (.t (.var 19))), (18, (.t (.var 18))), (17, (.r 17)), (16, (.t (.lit (0))))], [((.var 19), (.var 19)), ((.lit (0)), (.lit (0)))], [], []⟩)))))))))) .top))
 (.ret 0 ⟨16, [(20, (.t .dnil)), (24, (.t (.var 5))), (23, (.t (.var 4))), (22, (.t (.var 3))), (21, (.t (.var 2))), (19, (.t (.lit (0)))), (18, (.t (.lit (0)))), (17, .nil), (16, (.t (.lit (0))))], [((.var 19), (.lit (0))), ((.lit (0)), (.lit (0)))], [], []⟩))))))))
theorem o_readOp_eq : treeOf ⟨Tryd.prog, readOpC, [rU8C, rU16C, rU32C, rU64C, rawRC, textRC], []⟩ 100000 Tryd.f59 = o_readOp := by kernel_rfl
theorem readOp_of (hd : ∀ c ∈ ([rU8C, rU16C, rU32C, rU64C, rawRC, textRC] : List Ctr), c.ok Tryd.prog) (h : ∀ ρ : Env, ρ.good → (readOpC).pre ρ → o_readOp.den ⟨Tryd.prog, readOpC, [rU8C, rU16C, rU32C, rU64C, rawRC, textRC], []⟩ ρ) : (readOpC).ok Tryd.prog :=
  ok_of_tree Tryd.func59 (fun a w => Tryd.call59 a w) hd 100000 (fun ρ hg hp => by rw [o_readOp_eq]; exact h ρ hg hp)
def o_newReader : Out := (.pre 0 ⟨0, [(4, (.t (.var 4))), (3, (.t (.var 3))), (2, (.t (.var 2))), (1, (.t (.var 1))), (0, (.r 0))], [((.lit (0)), (.lit (0)))], [], []⟩ (.both (.fresh 5 (.fresh 6 (.fresh 7 (.post 0 0 ⟨0, [(4, (.t (.var 4))), (3, (.t (.var 3))), (2, (.t (.var 2))), (1, (.t (.var 1))), (0, (.r 0))], [((.lit (0)), (.lit (0)))], [], []⟩ 5 (.fresh 8 (.ret 0 ⟨5, [(8, (.t (.var 7))), (7, (.t (.var 6))), (6, (.r 5)), (5, (.r 8))], [((.var 7), (.var 6)), ((.lit (0)), (.lit (0))), ((.var 1), (.var 1)), ((.lit (0)), (.lit (0)))], [], []⟩)))))) .top))
theorem o_newReader_eq : treeOf ⟨Tryd.prog, newReaderC, [cloneBC], []⟩ 100000 Tryd.f58 = o_newReader := by kernel_rfl
theorem newReader_of (hd : ∀ c ∈ ([cloneBC] : List Ctr), c.ok Tryd.prog) (h : ∀ ρ : Env, ρ.good → (newReaderC).pre ρ → o_newReader.den ⟨Tryd.prog, newReaderC, [cloneBC], []⟩ ρ) : (newReaderC).ok Tryd.prog :=
  ok_of_tree Tryd.func58 (fun a w => Tryd.call58 a w) hd 100000 (fun ρ hg hp => by rw [o_newReader_eq]; exact h ρ hg hp)
def o_rest : Out := (.need (.cmp .leq (.lit (0)) (.var 3)) (.ret 0 ⟨8, [], [((.var 3), (.var 3))], [], []⟩))
theorem o_rest_eq : treeOf ⟨Tryd.prog, restC, [], []⟩ 100000 Tryd.f61 = o_rest := by kernel_rfl
theorem rest_of (hd : ∀ c ∈ ([] : List Ctr), c.ok Tryd.prog) (h : ∀ ρ : Env, ρ.good → (restC).pre ρ → o_rest.den ⟨Tryd.prog, restC, [], []⟩ ρ) : (restC).ok Tryd.prog :=
  ok_of_tree Tryd.func61 (fun a w => Tryd.call61 a w) hd 100000 (fun ρ hg hp => by rw [o_rest_eq]; exact h ρ hg hp)
def o_err : Out := (.ret 0 ⟨8, [], [((.var 5), (.var 5))], [], []⟩)
theorem o_err_eq : treeOf ⟨Tryd.prog, errC, [], []⟩ 100000 Tryd.f62 = o_err := by kernel_rfl
theorem err_of (hd : ∀ c ∈ ([] : List Ctr), c.ok Tryd.prog) (h : ∀ ρ : Env, ρ.good → (errC).pre ρ → o_err.den ⟨Tryd.prog, errC, [], []⟩ ρ) : (errC).ok Tryd.prog :=
  ok_of_tree Tryd.func62 (fun a w => Tryd.call62 a w) hd 100000 (fun ρ hg hp => by rw [o_err_eq]; exact h ρ hg hp)
def o_endD : Out := (.pre 0 ⟨0, [(5, (.t (.var 5))), (4, (.t (.var 4))), (3, (.t (.var 3))), (2, (.t (.var 2))), (1, (.r 1)), (0, (.r 0))], [((.lit (0)), (.lit (0)))], [], []⟩ (.both (.post 0 0 ⟨0, [(5, (.t (.var 5))), (4, (.t (.var 4))), (3, (.t (.var 3))), (2, (.t (.var 2))), (1, (.r 1)), (0, (.r 0))], [((.lit (0)), (.lit (0)))], [], []⟩ 8 (.br (.cmp .neq (.var 5) (.lit (0)))
 (.ret 0 ⟨8, [(8, (.t (.var 5)))], [], [], []⟩)
 (.need (.cmp .leq (.lit (0)) (.var 3)) (.br (.cmp .gtr (.var 3) (.lit (0)))
 (.ret 0 ⟨8, [(8, (.t (.lit (5))))], [], [], []⟩)
 (.ret 0 ⟨8, [(8, (.t (.lit (0))))], [], [], []⟩))))) .top))
theorem o_endD_eq : treeOf ⟨Tryd.prog, endC, [errC], []⟩ 100000 Tryd.f63 = o_endD := by kernel_rfl
theorem endD_of (hd : ∀ c ∈ ([errC] : List Ctr), c.ok Tryd.prog) (h : ∀ ρ : Env, ρ.good → (endC).pre ρ → o_endD.den ⟨Tryd.prog, endC, [errC], []⟩ ρ) : (endC).ok Tryd.prog :=
  ok_of_tree Tryd.func63 (fun a w => Tryd.call63 a w) hd 100000 (fun ρ hg hp => by rw [o_endD_eq]; exact h ρ hg hp)
end Go.Proofs

set_option linter.unusedSimpArgs false
set_option linter.unusedVariables false
namespace Go.Proofs
open Go Go.Eng
set_option maxRecDepth 20000
/-! ### Stretches of bytes -/
theorem sg_len {o l c : Int} {d : Rows'} (h : rOk o l c d) : (segB d o l).length = l.toNat := by
  obtain ⟨h0, h1, h2, h3, _, _⟩ := h
  rw [segB, List.length_take, List.length_drop, bI_len]; omega
theorem sg_take {o l n : Int} {d : Rows'} (h0 : 0 ≤ n) (h : n ≤ l) : (segB d o l).take n.toNat = segB d o n := by
  rw [segB, segB, List.take_take, Nat.min_eq_left (by omega)]
theorem sg_drop {o l c n : Int} {d : Rows'} (hr : rOk o l c d) (h0 : 0 ≤ n) (h : n ≤ l) : (segB d o l).drop n.toNat = segB d (if c = n then o else o + n) (l - n) := by
  obtain ⟨a0, a1, a2, a3, _, _⟩ := hr
  by_cases e : c = n
  · rw [if_pos e, List.drop_of_length_le (by rw [segB, List.length_take, List.length_drop, bI_len]; omega)]
    rw [segB, show (l - n).toNat = 0 by omega]; rfl
  · rw [if_neg e, segB, segB, List.drop_take, List.drop_drop]
    rw [show (l - n).toNat = l.toNat - n.toNat by omega, show (o + n).toNat = o.toNat + n.toNat by omega]
theorem rOk_take {o l c n : Int} {d : Rows'} (hr : rOk o l c d) (h0 : 0 ≤ n) (h : n ≤ l) : rOk o n c d := by
  obtain ⟨a0, a1, a2, a3, a4, a5⟩ := hr
  exact ⟨a0, h0, by omega, by omega, a4, a5⟩
theorem rOk_drop {o l c n : Int} {d : Rows'} (hr : rOk o l c d) (h0 : 0 ≤ n) (h : n ≤ l) : rOk (if c = n then o else o + n) (l - n) (c - n) d := by
  obtain ⟨a0, a1, a2, a3, a4, a5⟩ := hr
  refine ⟨?_, by omega, by omega, ?_, a4, a5⟩ <;> split <;> omega
theorem sg_snoc {o j : Int} {d : Rows'} (h0 : 0 ≤ o) (j0 : 0 ≤ j) (h : o + j < d.length) : segB d o (j + 1) = segB d o j ++ [cellI d (o + j) 0] := by
  have hg := bI_get (d := d) (i := o + j) (by omega) h
  rw [segB, segB, show (j + 1).toNat = j.toNat + 1 by omega, List.take_add_one, List.getElem?_drop, show o.toNat + j.toNat = (o + j).toNat by omega, hg]
  rfl
theorem sg_allM {o l : Int} {d : Rows'} (h : allB d) : allM (segB d o l) := fun x hx => allB_list h x (List.drop_subset _ _ (List.take_subset _ _ hx))
theorem val_step {o l c j : Int} {d : Rows'} (hr : rOk o l c d) (h8 : l ≤ 8) (j0 : 0 ≤ j) (hj : j < l) : arithOf .or .u64 (arithOf .shl .u64 (valL (segB d o j)) 8) (IntKind.u64.wrap (cellI d (o + j) 0)) = valL (segB d o (arithOf .add .i64 j 1)) := by
  have hr' := hr
  obtain ⟨a0, a1, a2, a3, a4, a5⟩ := hr'
  have hl := sg_len (rOk_take hr j0 (by omega))
  have hM := sg_allM (o := o) (l := j) a4
  obtain ⟨v0, v1⟩ := valL_range j.toNat hl hM
  have hv : valL (segB d o j) < 72057594037927936 := Int.lt_of_lt_of_le v1 (by
    have e : ((256 : Int) ^ j.toNat) = ((256 ^ j.toNat : Nat) : Int) := (Int.natCast_pow 256 _).symm
    rw [e]
    exact Int.ofNat_le.2 (Nat.pow_le_pow_right (n := 256) (j := 7) (by decide) (by omega)))
  have hs := sg_snoc (o := o) (j := j) (d := d) a0 j0 (by omega)
  have hx : cellI d (o + j) 0 ∈ segB d o (j + 1) := by rw [hs]; simp
  obtain ⟨x0, x1⟩ := sg_allM a4 _ hx
  rw [Go.Proofs.add64 (by omega) (by omega), hs, valL_snoc, wrap64u, Int.emod_eq_of_lt x0 (by omega), shl_or64 v0 hv x0 x1]
theorem val_zero {o : Int} {d : Rows'} : valL (segB d o 0) = 0 := by simp [segB, valL]
/-! ### What is read -/
theorem rd_err {m : List Int} {e n : Int} (h : e ≠ 0) : rdTake m e n = (none, m, e) := by rw [rdTake, if_pos h]
theorem rd_neg {m : List Int} {n : Int} (h : n < 0) : rdTake m 0 n = (none, m, 2) := by rw [rdTake, if_neg (by decide), if_pos h]
theorem rd_short {m : List Int} {n : Int} (h0 : 0 ≤ n) (h : (m.length : Int) < n) : rdTake m 0 n = (none, m, 4) := by rw [rdTake, if_neg (by decide), if_neg (by omega), if_pos h]
theorem rd_some {m : List Int} {n : Int} (h0 : 0 ≤ n) (h : n ≤ m.length) : rdTake m 0 n = (some (m.take n.toNat), m.drop n.toNat, 0) := by rw [rdTake, if_neg (by decide), if_neg (by omega), if_neg (by omega)]
theorem take_ok : takeC.ok Tryd.prog := take_of (by simp) fun ρ hg hp => by
  obtain ⟨⟨hr, e0, e1⟩, hn⟩ := hp
  simp [o_take, takeC, rdCells, rM, rPre, rNow, rPost]
  have hl := sg_len hr
  have hr' := hr
  obtain ⟨a0, a1, a2, a3, a4, a5⟩ := hr'
  refine ⟨fun h => ⟨rd_err h, by omega, e1⟩, fun h => ⟨fun hneg => by rw [h, rd_neg hneg], fun hpos => ⟨a1, fun hs => by rw [h, rd_short hpos (by omega)], fun hs => ⟨a0, by omega, hpos, by omega, hs, a2, h.symm, rOk_take hr hpos hs, rOk_drop hr hpos hs, ?_⟩⟩⟩⟩
  rw [h, rd_some hpos (by omega), sg_take hpos hs, sg_drop hr hpos hs]
  rfl
theorem rNum_ok : rNumC.ok Tryd.prog := rNum_of (by simp [take_ok]) fun ρ hg hp => by
  obtain ⟨⟨hr, e0, e1⟩, n0, n8⟩ := hp
  simp [o_rNum, rNumC, rNumN, rNumI, takeC, rdCells, rM, rPre, rNow, rPost]
  have hw : (((ρ 8).i.toNat : Nat) : Int) = (ρ 8).i := by omega
  refine ⟨⟨⟨hr, e0, e1⟩, by unfold i64P; omega⟩, fun u _ hu u0 u1 v _ j _ hv hj => ⟨by omega, fun _ => ?_⟩, fun a _ b _ c _ l _ f _ hra hrc hu => ⟨n0, ⟨n0, val_zero.symm⟩, fun v _ j _ j0 j1 hv => ⟨fun hlt => ?_, fun hge => ?_⟩⟩⟩
  · rw [rdNum, hw, hu]
    exact ⟨hv, hr, rfl, rfl, by omega, u1⟩
  · obtain ⟨a0, a1, a2, a3, a4, a5⟩ := hra
    rw [hv, val_step ⟨a0, a1, a2, a3, a4, a5⟩ n8 j0 hlt]
    have m1 : arithOf .add .i64 j.i 1 = j.i + 1 := by rw [Go.Proofs.add64 (by omega) (by omega)]
    rw [m1]
    exact ⟨j0, a0, by omega, by omega, ⟨by omega, by omega, rfl⟩, by omega⟩
  · have : j.i = (ρ 8).i := by omega
    rw [rdNum, hw, hu]
    exact ⟨by rw [hv, this]; rfl, hrc, rfl, rfl⟩
theorem rdNum_range {m : List Int} {e : Int} {w : Nat} (hM : allM m) : 0 ≤ (rdNum m e w).1 ∧ (rdNum m e w).1 < 256 ^ w := by
  have h0 : (0 : Int) < 256 ^ w := Int.pow_pos (by decide)
  unfold rdNum
  show 0 ≤ valL _ ∧ valL _ < _
  unfold rdTake
  split
  · exact ⟨Int.le_of_eq rfl, h0⟩
  · split
    · exact ⟨Int.le_of_eq rfl, h0⟩
    · split
      · exact ⟨Int.le_of_eq rfl, h0⟩
      · exact valL_range w (by simp; omega) (fun x hx => hM x (List.take_subset _ _ hx))
theorem rU8_ok : rU8C.ok Tryd.prog := rU8_of (by simp [rNum_ok]) fun ρ hg hp => by
  obtain ⟨hr, e0, e1⟩ := hp
  simp [o_rU8, rU8C, rNumFn, rNumC, rdCells, rM, rPre, rNow, rPost]
  refine ⟨⟨hr, e0, e1⟩, fun v _ _ _ _ _ _ _ f _ hv h1 h2 h3 h4 h5 => ⟨?_, h1, h2, h3, h4, h5⟩⟩
  obtain ⟨v0, v1⟩ := rdNum_range (m := segB (ρ 6).d (ρ 2).i (ρ 3).i) (e := (ρ 5).i) (w := 1) (sg_allM hr.2.2.2.2.1)
  have v1 : _ < (256 : Int) := v1
  rw [hv, wrap8]; omega
theorem rU16_ok : rU16C.ok Tryd.prog := rU16_of (by simp [rNum_ok]) fun ρ hg hp => by
  obtain ⟨hr, e0, e1⟩ := hp
  simp [o_rU16, rU16C, rNumFn, rNumC, rdCells, rM, rPre, rNow, rPost]
  refine ⟨⟨hr, e0, e1⟩, fun v _ _ _ _ _ _ _ f _ hv h1 h2 h3 h4 h5 => ⟨?_, h1, h2, h3, h4, h5⟩⟩
  obtain ⟨v0, v1⟩ := rdNum_range (m := segB (ρ 6).d (ρ 2).i (ρ 3).i) (e := (ρ 5).i) (w := 2) (sg_allM hr.2.2.2.2.1)
  have v1 : _ < (65536 : Int) := v1
  rw [hv, wrap16u]; omega
theorem rU32_ok : rU32C.ok Tryd.prog := rU32_of (by simp [rNum_ok]) fun ρ hg hp => by
  obtain ⟨hr, e0, e1⟩ := hp
  simp [o_rU32, rU32C, rNumFn, rNumC, rdCells, rM, rPre, rNow, rPost]
  refine ⟨⟨hr, e0, e1⟩, fun v _ _ _ _ _ _ _ f _ hv h1 h2 h3 h4 h5 => ⟨?_, h1, h2, h3, h4, h5⟩⟩
  obtain ⟨v0, v1⟩ := rdNum_range (m := segB (ρ 6).d (ρ 2).i (ρ 3).i) (e := (ρ 5).i) (w := 4) (sg_allM hr.2.2.2.2.1)
  have v1 : _ < (4294967296 : Int) := v1
  rw [hv, wrap32u]; omega
theorem rU64_ok : rU64C.ok Tryd.prog := rU64_of (by simp [rNum_ok]) fun ρ hg hp => by
  obtain ⟨hr, e0, e1⟩ := hp
  simp [o_rU64, rU64C, rNumFn, rNumC, rdCells, rM, rPre, rNow, rPost]
  exact ⟨hr, e0, e1⟩
theorem cloneO_ok : cloneOC.ok Tryd.prog := cloneO_of (by simp) fun ρ hg hp => by
  have hr : rOk (ρ 1).i (ρ 2).i (ρ 3).i (ρ 4).d := hp
  simp [o_cloneO, cloneOC]
  obtain ⟨a0, a1, a2, a3, a4, a5⟩ := hr
  refine ⟨fun h0 h1 => ?_, fun _ => ⟨a0, a1, a3, by omega, by omega, allB_sub a4, by simp [segB, bI]⟩⟩
  have hl : (ρ 4).d.length = 0 := by rw [h0]; rfl
  exact ⟨by omega, by omega, fun r hr => (by cases hr), by rw [h0]; simp [segB, bI]⟩
theorem cloneN_ok : cloneNC.ok Tryd.prog := cloneN_of (by simp) fun ρ hg hp => by
  simp [o_cloneN, cloneNC]
theorem rawR_ok : rawRC.ok Tryd.prog := rawR_of (by simp [take_ok, cloneN_ok, cloneO_ok]) fun ρ hg hp => by
  obtain ⟨⟨hr, e0, e1⟩, hn⟩ := hp
  simp [o_rawR, rawRC, takeC, cloneNC, cloneOC, rdCells, rM, rPre, rNow, rPost, rRet, rRetHp]
  refine ⟨⟨⟨hr, e0, e1⟩, hn⟩, fun u _ hu u0 u1 => ?_, fun a _ b _ c _ l _ f _ hra hrc hu => ⟨hra, fun d _ hd hB hbI => ?_⟩⟩
  · rw [rdRaw, hu]
    exact ⟨fun r hr => (by cases hr), rfl, hr, rfl, rfl, by omega, u1⟩
  · rw [rdRaw, hu]
    exact ⟨by have := hra.2.1; omega, hB, hbI, hrc, rfl, rfl⟩
theorem rdNum_short {m : List Int} {w : Nat} (h : m.length < w) : rdNum m 0 w = (0, [], m, 4) := by rw [rdNum, rd_short (by omega) (by omega)]; rfl
theorem rdNum_some {m : List Int} {w : Nat} (h : w ≤ m.length) : rdNum m 0 w = (valL (m.take w), [], m.drop w, 0) := by rw [rdNum, rd_some (by omega) (by omega), Int.toNat_natCast]; rfl
theorem rdText_err {m : List Int} {e : Int} (h : e ≠ 0) : rdText m e = (0, [], m, e) := by rw [rdText, if_pos h]
theorem rdText_two {m : List Int} (h : m.length < 2) : rdText m 0 = (0, [], m, 4) := by rw [rdText, if_neg (by decide), if_pos h]
theorem rdText_short {m : List Int} (h : ¬ m.length < 2) (h2 : ((m.drop 2).length : Int) < valL (m.take 2)) : rdText m 0 = (0, [], m, 4) := by rw [rdText, if_neg (by decide), if_neg h, if_pos h2]
theorem rdText_some {m : List Int} (h : ¬ m.length < 2) (h2 : ¬ ((m.drop 2).length : Int) < valL (m.take 2)) : rdText m 0 = (0, (m.drop 2).take (valL (m.take 2)).toNat, (m.drop 2).drop (valL (m.take 2)).toNat, 0) := by rw [rdText, if_neg (by decide), if_neg h, if_neg h2]
theorem val2 {m : List Int} (hM : allM m) (h : ¬ m.length < 2) : 0 ≤ valL (m.take 2) ∧ valL (m.take 2) < 65536 := by
  obtain ⟨v0, v1⟩ := valL_range 2 (l := m.take 2) (by rw [List.length_take]; omega) (fun x hx => hM x (List.take_subset _ _ hx))
  exact ⟨v0, v1⟩
theorem textR_ok : textRC.ok Tryd.prog := textR_of (by simp [take_ok, rNum_ok, cloneN_ok, cloneO_ok]) fun ρ hg hp => by
  obtain ⟨hr, e0, e1⟩ := hp
  simp [o_textR, textRC, takeC, rNumC, cloneNC, cloneOC, rdCells, rM, rPre, rNow, rPost, rRet, rRetHp]
  have hM := sg_allM (o := (ρ 2).i) (l := (ρ 3).i) hr.2.2.2.2.1
  generalize hm : segB (ρ 6).d (ρ 2).i (ρ 3).i = m at hM ⊢
  refine ⟨fun h => ?_, fun h => ⟨⟨hr, e0, e1⟩, fun v _ a _ l _ c _ f _ hv hra hsa hf f0 f1 => ?_⟩⟩
  · rw [rdText_err h]
    exact ⟨fun r hr => (by cases hr), rfl, hr, rfl, rfl, e0, e1⟩
  · rw [h] at hv hsa hf ⊢
    by_cases h2 : m.length < 2
    · rw [rdNum_short h2] at hv hsa hf
      simp only at hv hsa hf
      have hw : IntKind.i64.wrap v.i = 0 := by rw [hv]; rfl
      rw [hsa, hf, hw, rdText_two h2]
      refine ⟨⟨⟨hra, by decide, by decide⟩, by unfold i64P; decide⟩, fun u _ hu u0 u1 => ?_, fun a2 _ b2 _ c2 _ l2 _ f2 _ _ _ hu => ?_⟩
      · rw [rd_err (by decide)] at hu
        simp only [Prod.mk.injEq, true_and] at hu
        refine ⟨fun _ => ⟨fun r hr => (by cases hr), rfl, hr, rfl, by rw [← hu], by omega, u1⟩, fun h0 => by omega⟩
      · rw [rd_err (by decide)] at hu
        simp at hu
    · obtain ⟨w0, w1⟩ := val2 hM h2
      rw [rdNum_some (by omega)] at hv hsa hf
      simp only at hv hsa hf
      have hw : IntKind.i64.wrap v.i = valL (m.take 2) := by rw [hv, Go.Proofs.wrap64 (by omega) (by omega)]
      rw [hsa, hf, hw]
      refine ⟨⟨⟨hra, by decide, by decide⟩, by unfold i64P; omega⟩, fun u _ hu u0 u1 => ?_, fun a2 _ b2 _ c2 _ l2 _ f2 _ hr2 hr3 hu => ?_⟩
      · by_cases h3 : ((m.drop 2).length : Int) < valL (m.take 2)
        · rw [rd_short w0 h3] at hu
          simp only [Prod.mk.injEq, true_and] at hu
          rw [rdText_short h2 h3]
          refine ⟨fun _ => ⟨fun r hr => (by cases hr), rfl, hr, rfl, by rw [← hu], by omega, u1⟩, fun h0 => by omega⟩
        · rw [rd_some w0 (by omega)] at hu
          simp at hu
      · by_cases h3 : ((m.drop 2).length : Int) < valL (m.take 2)
        · rw [rd_short w0 h3] at hu
          simp at hu
        · rw [rd_some w0 (by omega)] at hu
          simp only [Prod.mk.injEq, Option.some.injEq, and_true] at hu
          rw [rdText_some h2 h3, hu.1, hu.2]
          exact ⟨hr2, fun d _ hd hB hbI => ⟨by omega, hB, hbI, hr3, rfl, rfl⟩⟩
theorem op_num {m : List Int} {e k n : Int} (h1 : 1 ≤ k) (h4 : k ≤ 4) : rdOp m e k n = rdNum m e (2 ^ (k.toNat - 1)) := by rw [rdOp, if_pos ⟨h1, h4⟩]
theorem op_raw {m : List Int} {e n : Int} : rdOp m e 5 n = rdRaw m e n := by simp [rdOp]
theorem op_text {m : List Int} {e n : Int} : rdOp m e 6 n = rdText m e := by simp [rdOp]
theorem op_other {m : List Int} {e k n : Int} (h1 : ¬ (1 ≤ k ∧ k ≤ 4)) (h5 : k ≠ 5) (h6 : k ≠ 6) : rdOp m e k n = (0, [], m, e) := by rw [rdOp, if_neg h1, if_neg h5, if_neg h6]
theorem readOp_ok : readOpC.ok Tryd.prog := readOp_of (by simp [rU8_ok, rU16_ok, rU32_ok, rU64_ok, rawR_ok, textR_ok]) fun ρ hg hp => by
  obtain ⟨⟨hr, e0, e1⟩, hk, hn⟩ := hp
  simp [o_readOp, readOpC, rU8C, rU16C, rU32C, rU64C, rNumFn, rawRC, textRC, rdCells, rM, rPre, rNow, rPost, rRet, rRetHp, opV]
  have hM := sg_allM (o := (ρ 2).i) (l := (ρ 3).i) hr.2.2.2.2.1
  generalize segB (ρ 6).d (ρ 2).i (ρ 3).i = m at hM ⊢
  have hP : rOk (ρ 2).i (ρ 3).i (ρ 4).i (ρ 6).d ∧ 0 ≤ (ρ 5).i ∧ (ρ 5).i < 1000 := ⟨hr, e0, e1⟩
  have num : ∀ w : Nat, w ≤ 8 → IntKind.u64.wrap (rdNum m (ρ 5).i w).1 = (rdNum m (ρ 5).i w).1 := fun w h8 => by
    obtain ⟨v0, v1⟩ := rdNum_range (e := (ρ 5).i) (w := w) hM
    have : (256 : Int) ^ w ≤ 18446744073709551616 := by
      have e : ((256 : Int) ^ w) = ((256 ^ w : Nat) : Int) := (Int.natCast_pow 256 _).symm
      rw [e]
      exact Int.ofNat_le.2 (Nat.pow_le_pow_right (n := 256) (j := 8) (by decide) h8)
    rw [wrap64u]; omega
  refine ⟨fun h => ⟨hP, fun v _ _ _ _ _ _ _ f _ hv h1 h2 h3 h4 h5 => ?_⟩, fun k1 => ⟨fun h => ⟨hP, fun v _ _ _ _ _ _ _ f _ hv h1 h2 h3 h4 h5 => ?_⟩, fun k2 => ⟨fun h => ⟨hP, fun v _ _ _ _ _ _ _ f _ hv h1 h2 h3 h4 h5 => ?_⟩, fun k3 => ⟨fun h => ⟨hP, fun v _ _ _ _ _ _ _ f _ hv h1 h2 h3 h4 h5 => ?_⟩, fun k4 => ⟨fun h => ⟨⟨hP, hn⟩, ?_⟩, fun k5 => ⟨fun h => ⟨hP, ?_⟩, fun k6 => ?_⟩⟩⟩⟩⟩⟩
  · rw [h, op_num (by decide) (by decide)]
    exact ⟨by rw [hv]; exact num 1 (by decide), fun r hr => (by cases hr), rfl, h1, h2, h3, h4, h5⟩
  · rw [h, op_num (by decide) (by decide)]
    exact ⟨by rw [hv]; exact num 2 (by decide), fun r hr => (by cases hr), rfl, h1, h2, h3, h4, h5⟩
  · rw [h, op_num (by decide) (by decide)]
    exact ⟨by rw [hv]; exact num 4 (by decide), fun r hr => (by cases hr), rfl, h1, h2, h3, h4, h5⟩
  · rw [h, op_num (by decide) (by decide)]
    exact ⟨hv, fun r hr => (by cases hr), rfl, h1, h2, h3, h4, h5⟩
  · rw [h, op_raw]
    intros
    refine ⟨rfl, ?_⟩
    simp_all
  · rw [h, op_text]
    have h0 : (rdText m (ρ 5).i).1 = 0 := by
      unfold rdText
      split
      · rfl
      · split
        · rfl
        · split <;> rfl
    intros
    refine ⟨h0.symm, ?_⟩
    simp_all
  · rw [op_other (by omega) k5 k6]
    exact ⟨rfl, fun r hr => (by cases hr), rfl, hr, rfl, rfl, e0, e1⟩
theorem newReader_ok : newReaderC.ok Tryd.prog := newReader_of (by simp [cloneB_ok]) fun ρ hg hp => by
  simp [o_newReader, newReaderC, cloneBC]
  exact hp
theorem rest_ok : restC.ok Tryd.prog := rest_of (by simp) fun ρ hg hp => by
  have hp : 0 ≤ (ρ 3).i := hp
  simp [o_rest, restC]
  exact hp
theorem err_ok : errC.ok Tryd.prog := err_of (by simp) fun ρ hg hp => by
  simp [o_err, errC]
theorem endD_ok : endC.ok Tryd.prog := endD_of (by simp [err_ok]) fun ρ hg hp => by
  have hp : 0 ≤ (ρ 3).i := hp
  simp [o_endD, endC, errC, rdCells]
  refine ⟨fun h => by rw [endE, if_pos h], fun h => ⟨hp, fun h2 => by rw [endE, if_neg (by omega), if_pos h2], fun h2 => by rw [endE, if_neg (by omega), if_neg (by omega)]⟩⟩
end Go.Proofs

set_option linter.unusedSimpArgs false
set_option linter.unusedVariables false
namespace Go.Proofs
open Go Go.Eng
set_option maxRecDepth 20000
/-! ### The law -/
end Go.Proofs

set_option linter.unusedSimpArgs false
set_option linter.unusedVariables false
namespace Go.Eng
open Go Go.Proofs
/-- The bytes of the j-th call; of the first n calls. -/
noncomputable def addAt (h : Hp) (D : Rows') (j : Nat) : List Int := (opAdd (cellI D j 0) (cellI D j 1) (opB h D j)).getD []
noncomputable def outN (h : Hp) (D : Rows') (n : Nat) : List Int := (List.range n).flatMap (addAt h D)
def noLong (h : Hp) (D : Rows') (n : Nat) : Prop := ∀ j, j < n → opLong (cellI D j 0) (opB h D j) = false
def lbIn (ρ : Env) : Prop := (ρ 1).i ≤ 200 ∧ opSum (ρ 5).h (ρ 3).d (ρ 3).d.length ≤ 200000 ∧ (∀ j, j < (ρ 3).d.length → (opB (ρ 5).h (ρ 3).d j).length ≤ 70000)
def lawReadBackC : Ctr := { fn := 17, nv := 8, ip := [gIp 6, (1005, 8)], args := [opsS 0], heap := [], ro := opsHp 0 ++ [gHp 6 7], pre := fun ρ => opsIn ρ 0 ∧ gOk ρ 6 7 gR, alts := [lawTrue] }
def lawReadBackI : Inv := { key := 5, nv := 9, env := [(0, opsS 0), (3, .one (.vptr 1000 (.lit 0) 3 0)), (4, iv .i64 (.var 1007))], heap := [.cells 1000 wStr [.vint .i64 (.var 1001), .vbool (.var 1002), .vslice 1003 (.lit 0) (.var 1004) (.var 1005) 1], bHp 1003 1006 1005, .abs 1008 2], inv := (fun ρ => lbIn ρ ∧ 0 ≤ (ρ 1007).i ∧ (ρ 1007).i ≤ (ρ 1).i ∧ (ρ 1001).i = 1048576 ∧ (ρ 1002).b = false ∧ wOk (ρ 1001).i (ρ 1004).i (ρ 1005).i (ρ 1006).d ∧ bI (ρ 1006).d = outN (ρ 5).h (ρ 3).d (ρ 1007).i.toNat ∧ noLong (ρ 5).h (ρ 3).d (ρ 1007).i.toNat), mu := (fun ρ => ((ρ 1).i - (ρ 1007).i).toNat) }
/-- 1000 the Reader, 1001 .. 1007 its state and bytes. -/
def lawReadBackJ : Inv := { key := 15, nv := 10, env := [(0, opsS 0), (7, .one (.vptr 1000 (.lit 0) 2 0)), (8, iv .i64 (.var 1008))], heap := [.cells 1000 rdStr (inV 1001 1002 1003 1004 1005), bHp 1001 1006 1007, .abs 1009 2], inv := (fun ρ => lbIn ρ ∧ 0 ≤ (ρ 1008).i ∧ (ρ 1008).i ≤ (ρ 1).i ∧ noLong (ρ 5).h (ρ 3).d (ρ 3).d.length ∧ rIn (ρ 1002).i (ρ 1003).i (ρ 1004).i (ρ 1007).i (ρ 1006).d ∧ (ρ 1005).i = 0 ∧ outN (ρ 5).h (ρ 3).d (ρ 1008).i.toNat ++ segB (ρ 1006).d (ρ 1002).i (ρ 1003).i = outN (ρ 5).h (ρ 3).d (ρ 3).d.length), mu := (fun ρ => ((ρ 1).i - (ρ 1008).i).toNat) }
end Go.Eng

set_option linter.unusedSimpArgs false
set_option linter.unusedVariables false
set_option maxRecDepth 100000
namespace Go.Proofs
open Go Go.Eng

def o_lawReadBack : Out := (.pre 1 ⟨0, [(5, (.r 5)), (4, (.t (.var 4))), (3, (.t (.var 3))), (2, (.t (.var 2))), (1, (.t (.var 1))), (0, (.r 0))], [((.lit (0)), (.lit (0)))], [], []⟩ (.both (.fresh 8 (.post 1 0 ⟨0, [(5, (.r 5)), (4, (.t (.var 4))), (3, (.t (.var 3))), (2, (.t (.var 2))), (1, (.t (.var 1))), (0, (.r 0))], [((.lit (0)), (.lit (0)))], [], []⟩ 8 (.br (.var 8)
 (.pre 0 ⟨0, [(1, (.t (.var 7))), (0, (.r 6))], [((.lit (1)), (.lit (1)))], [], []⟩ (.both (.post 0 0 ⟨0, [(1, (.t (.var 7))), (0, (.r 6))], [((.lit (1)), (.lit (1)))], [], []⟩ 9 (.ret 0 ⟨8, [], [], [((.bl true), (.bl true))], []⟩)) .top))
 (.pre 2 ⟨0, [(0, (.t (.lit (1048576))))], [], [], []⟩ (.both (.fresh 9 (.fresh 10 (.fresh 11 (.fresh 12 (.post 2 0 ⟨0, [(0, (.t (.lit (1048576))))], [], [], []⟩ 9 (.pack [] 13 (.inv 0 14 ⟨1000, [(1008, (.r 13)), (1006, (.t .dnil)), (1005, (.t (.lit (0)))), (1004, (.t (.lit (0)))), (1003, .nil), (1002, (.t (.bl false))), (1001, (.t (.var 10))), (1007, (.t (.lit (0)))), (1000, (.r 9))], [((.var 1005), (.lit (0))), ((.lit (0)), (.lit (0))), ((.lit (0)), (.lit (0))), ((.var 2), (.var 2)), ((.var 1), (.var 1)), ((.lit (0)), (.lit (0)))], [], []⟩ (.fresh 14 (.fresh 15 (.fresh 16 (.fresh 17 (.fresh 18 (.fresh 19 (.fresh 20 (.fresh 21 (.fresh 22 (.hyp 0 14 (.need (.cmp .leq (.lit (0)) (.var 1)) (.br (.cmp .lss (.var 21) (.var 1))
 (.need (.cmp .leq (.lit (0)) (.var 21)) (.need (.cmp .lss (.var 21) (.dlen (.var 3))) (.br (.cmp .eql (.icell (.var 3) (.var 21) 0) (.lit (6)))
 (.view (.vcell (.var 3) (.var 21) 3) [CK.int .u8] [22, 5] 23 (.br (.cmp .gtr (.dlen (.var 25)) (.lit (65535)))
 (.pre 0 ⟨0, [(1, (.t (.var 7))), (0, (.r 6))], [((.lit (1)), (.lit (1)))], [], []⟩ (.both (.post 0 0 ⟨0, [(1, (.t (.var 7))), (0, (.r 6))], [((.lit (1)), (.lit (1)))], [], []⟩ 26 (.ret 0 ⟨8, [], [], [((.bl true), (.bl true))], []⟩)) .top))
 (.view (.vcell (.var 3) (.var 21) 3) [CK.int .u8] [22, 5] 26 (.know (.cmp .leq (.dlen (.var 20)) (.var 19)) (.pre 3 ⟨0, [(14, (.t (.var 27))), (13, (.t (.var 28))), (6, (.t (.var 20))), (5, (.t (.var 19))), (4, (.t (.var 18))), (3, (.r 17)), (2, (.t (.var 16))), (1, (.t (.var 15))), (12, (.t (.var 27))), (11, (.t (.dlen (.var 28)))), (10, (.r 26)), (9, (.t (.icell (.var 3) (.var 21) 2))), (8, (.t (.icell (.var 3) (.var 21) 1))), (7, (.t (.icell (.var 3) (.var 21) 0))), (0, (.r 14))], [((.var 5), (.var 19)), ((.lit (0)), (.lit (0))), ((.lit (0)), (.lit (0))), ((.lit (0)), (.lit (0)))], [], []⟩ (.both (.fresh 29 (.fresh 30 (.fresh 31 (.fresh 32 (.fresh 33 (.post 3 0 ⟨0, [(14, (.t (.var 27))), (13, (.t (.var 28))), (6, (.t (.var 20))), (5, (.t (.var 19))), (4, (.t (.var 18))), (3, (.r 17)), (2, (.t (.var 16))), (1, (.t (.var 15))), (12, (.t (.var 27))), (11, (.t (.dlen (.var 28)))), (10, (.r 26)), (9, (.t (.icell (.var 3) (.var 21) 2))), (8, (.t (.icell (.var 3) (.var 21) 1))), (7, (.t (.icell (.var 3) (.var 21) 0))), (0, (.r 14))], [((.var 5), (.var 19)), ((.lit (0)), (.lit (0))), ((.lit (0)), (.lit (0))), ((.lit (0)), (.lit (0)))], [], []⟩ 29 (.back 0 14 ⟨1000, [(1008, (.r 22)), (1006, (.t (.var 33))), (1005, (.t (.var 32))), (1004, (.t (.var 31))), (1003, (.r 30)), (1002, (.t (.var 29))), (1001, (.t (.var 15))), (1007, (.t (.arith .add .i64 (.var 21) (.lit (1))))), (1000, (.r 14))], [((.var 1005), (.var 32)), ((.lit (0)), (.lit (0))), ((.lit (0)), (.lit (0))), ((.var 2), (.var 2)), ((.var 1), (.var 1)), ((.lit (0)), (.lit (0)))], [], []⟩))))))) .top))))))
 (.view (.vcell (.var 3) (.var 21) 3) [CK.int .u8] [22, 5] 23 (.know (.cmp .leq (.dlen (.var 20)) (.var 19)) (.pre 3 ⟨0, [(14, (.t (.var 24))), (13, (.t (.var 25))), (6, (.t (.var 20))), (5, (.t (.var 19))), (4, (.t (.var 18))), (3, (.r 17)), (2, (.t (.var 16))), (1, (.t (.var 15))), (12, (.t (.var 24))), (11, (.t (.dlen (.var 25)))), (10, (.r 23)), (9, (.t (.icell (.var 3) (.var 21) 2))), (8, (.t (.icell (.var 3) (.var 21) 1))), (7, (.t (.icell (.var 3) (.var 21) 0))), (0, (.r 14))], [((.var 5), (.var 19)), ((.lit (0)), (.lit (0))), ((.lit (0)), (.lit (0))), ((.lit (0)), (.lit (0)))], [], []⟩ (.both (.fresh 26 (.fresh 27 (.fresh 28 (.fresh 29 (.fresh 30 (.post 3 0 ⟨0, [(14, (.t (.var 24))), (13, (.t (.var 25))), (6, (.t (.var 20))), (5, (.t (.var 19))), (4, (.t (.var 18))), (3, (.r 17)), (2, (.t (.var 16))), (1, (.t (.var 15))), (12, (.t (.var 24))), (11, (.t (.dlen (.var 25)))), (10, (.r 23)), (9, (.t (.icell (.var 3) (.var 21) 2))), (8, (.t (.icell (.var 3) (.var 21) 1))), (7, (.t (.icell (.var 3) (.var 21) 0))), (0, (.r 14))], [((.var 5), (.var 19)), ((.lit (0)), (.lit (0))), ((.lit (0)), (.lit (0))), ((.lit (0)), (.lit (0)))], [], []⟩ 26 (.back 0 14 ⟨1000, [(1008, (.r 22)), (1006, (.t (.var 30))), (1005, (.t (.var 29))), (1004, (.t (.var 28))), (1003, (.r 27)), (1002, (.t (.var 26))), (1001, (.t (.var 15))), (1007, (.t (.arith .add .i64 (.var 21) (.lit (1))))), (1000, (.r 14))], [((.var 1005), (.var 29)), ((.lit (0)), (.lit (0))), ((.lit (0)), (.lit (0))), ((.var 2), (.var 2)), ((.var 1), (.var 1)), ((.lit (0)), (.lit (0)))], [], []⟩))))))) .top)))))))
 (.know (.cmp .leq (.dlen (.var 20)) (.var 19)) (.pre 4 ⟨0, [(6, (.t (.var 20))), (5, (.t (.var 19))), (4, (.t (.var 18))), (3, (.r 17)), (2, (.t (.var 16))), (1, (.t (.var 15))), (0, (.r 14))], [((.var 5), (.var 19)), ((.lit (0)), (.lit (0))), ((.lit (0)), (.lit (0)))], [], []⟩ (.both (.fresh 23 (.fresh 24 (.fresh 25 (.fresh 26 (.fresh 27 (.post 4 0 ⟨0, [(6, (.t (.var 20))), (5, (.t (.var 19))), (4, (.t (.var 18))), (3, (.r 17)), (2, (.t (.var 16))), (1, (.t (.var 15))), (0, (.r 14))], [((.var 5), (.var 19)), ((.lit (0)), (.lit (0))), ((.lit (0)), (.lit (0)))], [], []⟩ 23 (.br (.cmp .neq (.var 26) (.lit (0)))
 (.stuck 7 0 0)
 (.pre 5 ⟨0, [(4, (.t (.var 25))), (3, (.t (.var 27))), (2, (.t (.var 25))), (1, (.t (.var 24))), (0, (.r 23))], [((.lit (0)), (.lit (0)))], [], []⟩ (.both (.fresh 28 (.fresh 29 (.fresh 30 (.fresh 31 (.post 5 0 ⟨0, [(4, (.t (.var 25))), (3, (.t (.var 27))), (2, (.t (.var 25))), (1, (.t (.var 24))), (0, (.r 23))], [((.lit (0)), (.lit (0)))], [], []⟩ 28 (.pack [.arr 23 5 [CK.int .u8] (.var 27) (.var 25), .cells 14 138 [(.vint .i64 (.var 15)), (.vbool (.var 16)), (.vslice 17 (.lit (0)) (.var 18) (.var 19) 1)], .arr 17 5 [CK.int .u8] (.var 20) (.var 19), .abs 22 2] 32 (.inv 1 33 ⟨1000, [(1009, (.r 32)), (1007, (.t (.var 30))), (1006, (.t (.var 31))), (1005, (.t (.lit (0)))), (1004, (.t (.var 30))), (1003, (.t (.var 24))), (1002, (.t (.lit (0)))), (1001, (.r 29)), (1008, (.t (.lit (0)))), (1000, (.r 28))], [((.lit (0)), (.lit (0))), ((.var 2), (.var 2)), ((.var 1), (.var 1)), ((.lit (0)), (.lit (0)))], [], []⟩ (.fresh 33 (.fresh 34 (.fresh 35 (.fresh 36 (.fresh 37 (.fresh 38 (.fresh 39 (.fresh 40 (.fresh 41 (.fresh 42 (.hyp 1 33 (.br (.cmp .lss (.var 41) (.var 1))
 (.need (.cmp .leq (.lit (0)) (.var 41)) (.need (.cmp .lss (.var 41) (.dlen (.var 3))) (.fresh 43 (.view (.vcell (.var 3) (.var 41) 3) [CK.int .u8] [42, 5] 44 (.view (.vcell (.var 3) (.var 41) 3) [CK.int .u8] [42, 5] 47 (.know (.cmp .leq (.dlen (.var 39)) (.var 40)) (.pre 6 ⟨0, [(15, (.t (.var 48))), (14, (.t (.var 49))), (7, (.t (.var 40))), (6, (.t (.var 39))), (5, (.t (.var 38))), (4, (.t (.var 37))), (3, (.t (.var 36))), (2, (.t (.var 35))), (1, (.r 34)), (13, (.t (.var 48))), (12, (.t (.dlen (.var 49)))), (11, (.r 47)), (10, (.t (.dlen (.var 46)))), (9, (.t (.icell (.var 3) (.var 41) 1))), (8, (.t (.icell (.var 3) (.var 41) 0))), (0, (.r 33))], [((.lit (0)), (.lit (0))), ((.lit (0)), (.lit (0)))], [], []⟩ (.both (.fresh 50 (.fresh 51 (.fresh 52 (.fresh 53 (.fresh 54 (.fresh 55 (.fresh 56 (.fresh 57 (.fresh 58 (.post 6 0 ⟨0, [(15, (.t (.var 48))), (14, (.t (.var 49))), (7, (.t (.var 40))), (6, (.t (.var 39))), (5, (.t (.var 38))), (4, (.t (.var 37))), (3, (.t (.var 36))), (2, (.t (.var 35))), (1, (.r 34)), (13, (.t (.var 48))), (12, (.t (.dlen (.var 49)))), (11, (.r 47)), (10, (.t (.dlen (.var 46)))), (9, (.t (.icell (.var 3) (.var 41) 1))), (8, (.t (.icell (.var 3) (.var 41) 0))), (0, (.r 33))], [((.lit (0)), (.lit (0))), ((.lit (0)), (.lit (0)))], [], []⟩ 50 (.br (.cmp .eql (.icell (.var 3) (.var 41) 0) (.lit (1)))
 (.br (.cmp .neq (.var 50) (.arith .and .u64 (.icell (.var 3) (.var 41) 1) (.lit (255))))
 (.stuck 7 0 0)
 (.br (.cmp .eql (.icell (.var 3) (.var 41) 0) (.lit (2)))
 (.br (.cmp .neq (.var 50) (.arith .and .u64 (.icell (.var 3) (.var 41) 1) (.lit (65535))))
 (.stuck 7 0 0)
 (.br (.cmp .eql (.icell (.var 3) (.var 41) 0) (.lit (3)))
 (.br (.cmp .neq (.var 50) (.arith .and .u64 (.icell (.var 3) (.var 41) 1) (.lit (4294967295))))
 (.stuck 7 0 0)
 (.br (.cmp .eql (.icell (.var 3) (.var 41) 0) (.lit (4)))
 (.br (.cmp .neq (.var 50) (.icell (.var 3) (.var 41) 1))
 (.stuck 7 0 0)
 (.br (.cmp .eql (.icell (.var 3) (.var 41) 0) (.lit (5)))
 (.need (.cmp .leq (.lit (0)) (.var 52)) (.need (.cmp .leq (.var 52) (.dlen (.var 54))) (.view (.vcell (.var 3) (.var 41) 3) [CK.int .u8] [42, 5] 59 (.br (.not (.c2 .veq (.c1 .vbytes (.dtake (.var 54) (.var 52))) (.c1 .vbytes (.var 61))))
 (.stuck 7 0 0)
 (.pack [.arr 51 5 [CK.int .u8] (.var 54) (.var 53), .cells 43 77 [(.vint .i64 (.icell (.var 3) (.var 41) 0)), (.vint .u64 (.icell (.var 3) (.var 41) 1)), (.vint .i64 (.dlen (.var 46))), (.vcell (.var 3) (.var 41) 3)], .abs 42 2] 62 (.back 1 33 ⟨1000, [(1009, (.r 62)), (1007, (.t (.var 40))), (1006, (.t (.var 39))), (1005, (.t (.var 58))), (1004, (.t (.var 57))), (1003, (.t (.var 56))), (1002, (.t (.var 55))), (1001, (.r 34)), (1008, (.t (.arith .add .i64 (.var 41) (.lit (1))))), (1000, (.r 33))], [((.lit (0)), (.lit (0))), ((.var 2), (.var 2)), ((.var 1), (.var 1)), ((.lit (0)), (.lit (0)))], [], []⟩))))))
 (.br (.cmp .eql (.icell (.var 3) (.var 41) 0) (.lit (6)))
 (.need (.cmp .leq (.lit (0)) (.var 52)) (.need (.cmp .leq (.var 52) (.dlen (.var 54))) (.view (.vcell (.var 3) (.var 41) 3) [CK.int .u8] [42, 5] 59 (.br (.not (.c2 .veq (.c1 .vbytes (.dtake (.var 54) (.var 52))) (.c1 .vbytes (.var 61))))
 (.stuck 7 0 0)
 (.pack [.arr 51 5 [CK.int .u8] (.var 54) (.var 53), .cells 43 77 [(.vint .i64 (.icell (.var 3) (.var 41) 0)), (.vint .u64 (.icell (.var 3) (.var 41) 1)), (.vint .i64 (.dlen (.var 46))), (.vcell (.var 3) (.var 41) 3)], .abs 42 2] 62 (.back 1 33 ⟨1000, [(1009, (.r 62)), (1007, (.t (.var 40))), (1006, (.t (.var 39))), (1005, (.t (.var 58))), (1004, (.t (.var 57))), (1003, (.t (.var 56))), (1002, (.t (.var 55))), (1001, (.r 34)), (1008, (.t (.arith .add .i64 (.var 41) (.lit (1))))), (1000, (.r 33))], [((.lit (0)), (.lit (0))), ((.var 2), (.var 2)), ((.var 1), (.var 1)), ((.lit (0)), (.lit (0)))], [], []⟩))))))
 (.pack [.arr 51 5 [CK.int .u8] (.var 54) (.var 53), .cells 43 77 [(.vint .i64 (.icell (.var 3) (.var 41) 0)), (.vint .u64 (.icell (.var 3) (.var 41) 1)), (.vint .i64 (.dlen (.var 46))), (.vcell (.var 3) (.var 41) 3)], .abs 42 2] 59 (.back 1 33 ⟨1000, [(1009, (.r 59)), (1007, (.t (.var 40))), (1006, (.t (.var 39))), (1005, (.t (.var 58))), (1004, (.t (.var 57))), (1003, (.t (.var 56))), (1002, (.t (.var 55))), (1001, (.r 34)), (1008, (.t (.arith .add .i64 (.var 41) (.lit (1))))), (1000, (.r 33))], [((.lit (0)), (.lit (0))), ((.var 2), (.var 2)), ((.var 1), (.var 1)), ((.lit (0)), (.lit (0)))], [], []⟩)))))
 (.br (.cmp .eql (.icell (.var 3) (.var 41) 0) (.lit (5)))
 (.need (.cmp .leq (.lit (0)) (.var 52)) (.need (.cmp .leq (.var 52) (.dlen (.var 54))) (.view (.vcell (.var 3) (.var 41) 3) [CK.int .u8] [42, 5] 59 (.br (.not (.c2 .veq (.c1 .vbytes (.dtake (.var 54) (.var 52))) (.c1 .vbytes (.var 61))))
 (.stuck 7 0 0)
 (.pack [.arr 51 5 [CK.int .u8] (.var 54) (.var 53), .cells 43 77 [(.vint .i64 (.icell (.var 3) (.var 41) 0)), (.vint .u64 (.icell (.var 3) (.var 41) 1)), (.vint .i64 (.dlen (.var 46))), (.vcell (.var 3) (.var 41) 3)], .abs 42 2] 62 (.back 1 33 ⟨1000, [(1009, (.r 62)), (1007, (.t (.var 40))), (1006, (.t (.var 39))), (1005, (.t (.var 58))), (1004, (.t (.var 57))), (1003, (.t (.var 56))), (1002, (.t (.var 55))), (1001, (.r 34)), (1008, (.t (.arith .add .i64 (.var 41) (.lit (1))))), (1000, (.r 33))], [((.lit (0)), (.lit (0))), ((.var 2), (.var 2)), ((.var 1), (.var 1)), ((.lit (0)), (.lit (0)))], [], []⟩))))))
 (.br (.cmp .eql (.icell (.var 3) (.var 41) 0) (.lit (6)))
 (.need (.cmp .leq (.lit (0)) (.var 52)) (.need (.cmp .leq (.var 52) (.dlen (.var 54))) (.view (.vcell (.var 3) (.var 41) 3) [CK.int .u8] [42, 5] 59 (.br (.not (.c2 .veq (.c1 .vbytes (.dtake (.var 54) (.var 52))) (.c1 .vbytes (.var 61))))
 (.stuck 7 0 0)
 (.pack [.arr 51 5 [CK.int .u8] (.var 54) (.var 53), .cells 43 77 [(.vint .i64 (.icell (.var 3) (.var 41) 0)), (.vint .u64 (.icell (.var 3) (.var 41) 1)), (.vint .i64 (.dlen (.var 46))), (.vcell (.var 3) (.var 41) 3)], .abs 42 2] 62 (.back 1 33 ⟨1000, [(1009, (.r 62)), (1007, (.t (.var 40))), (1006, (.t (.var 39))), (1005, (.t (.var 58))), (1004, (.t (.var 57))), (1003, (.t (.var 56))), (1002, (.t (.var 55))), (1001, (.r 34)), (1008, (.t (.arith .add .i64 (.var 41) (.lit (1))))), (1000, (.r 33))], [((.lit (0)), (.lit (0))), ((.var 2), (.var 2)), ((.var 1), (.var 1)), ((.lit (0)), (.lit (0)))], [], []⟩))))))
 (.pack [.arr 51 5 [CK.int .u8] (.var 54) (.var 53), .cells 43 77 [(.vint .i64 (.icell (.var 3) (.var 41) 0)), (.vint .u64 (.icell (.var 3) (.var 41) 1)), (.vint .i64 (.dlen (.var 46))), (.vcell (.var 3) (.var 41) 3)], .abs 42 2] 59 (.back 1 33 ⟨1000, [(1009, (.r 59)), (1007, (.t (.var 40))), (1006, (.t (.var 39))), (1005, (.t (.var 58))), (1004, (.t (.var 57))), (1003, (.t (.var 56))), (1002, (.t (.var 55))), (1001, (.r 34)), (1008, (.t (.arith .add .i64 (.var 41) (.lit (1))))), (1000, (.r 33))], [((.lit (0)), (.lit (0))), ((.var 2), (.var 2)), ((.var 1), (.var 1)), ((.lit (0)), (.lit (0)))], [], []⟩))))))
 (.br (.cmp .eql (.icell (.var 3) (.var 41) 0) (.lit (4)))
 (.br (.cmp .neq (.var 50) (.icell (.var 3) (.var 41) 1))
 (.stuck 7 0 0)
 (.br (.cmp .eql (.icell (.var 3) (.var 41) 0) (.lit (5)))
 (.need (.cmp .leq (.lit (0)) (.var 52)) (.need (.cmp .leq (.var 52) (.dlen (.var 54))) (.view (.vcell (.var 3) (.var 41) 3) [CK.int .u8] [42, 5] 59 (.br (.not (.c2 .veq (.c1 .vbytes (.dtake (.var 54) (.var 52))) (.c1 .vbytes (.var 61))))
 (.stuck 7 0 0)
 (.pack [.arr 51 5 [CK.int .u8] (.var 54) (.var 53), .cells 43 77 [(.vint .i64 (.icell (.var 3) (.var 41) 0)), (.vint .u64 (.icell (.var 3) (.var 41) 1)), (.vint .i64 (.dlen (.var 46))), (.vcell (.var 3) (.var 41) 3)], .abs 42 2] 62 (.back 1 33 ⟨1000, [(1009, (.r 62)), (1007, (.t (.var 40))), (1006, (.t (.var 39))), (1005, (.t (.var 58))), (1004, (.t (.var 57))), (1003, (.t (.var 56))), (1002, (.t (.var 55))), (1001, (.r 34)), (1008, (.t (.arith .add .i64 (.var 41) (.lit (1))))), (1000, (.r 33))], [((.lit (0)), (.lit (0))), ((.var 2), (.var 2)), ((.var 1), (.var 1)), ((.lit (0)), (.lit (0)))], [], []⟩))))))
 (.br (.cmp .eql (.icell (.var 3) (.var 41) 0) (.lit (6)))
 (.need (.cmp .leq (.lit (0)) (.var 52)) (.need (.cmp .leq (.var 52) (.dlen (.var 54))) (.view (.vcell (.var 3) (.var 41) 3) [CK.int .u8] [42, 5] 59 (.br (.not (.c2 .veq (.c1 .vbytes (.dtake (.var 54) (.var 52))) (.c1 .vbytes (.var 61))))
 (.stuck 7 0 0)
 (.pack [.arr 51 5 [CK.int .u8] (.var 54) (.var 53), .cells 43 77 [(.vint .i64 (.icell (.var 3) (.var 41) 0)), (.vint .u64 (.icell (.var 3) (.var 41) 1)), (.vint .i64 (.dlen (.var 46))), (.vcell (.var 3) (.var 41) 3)], .abs 42 2] 62 (.back 1 33 ⟨1000, [(1009, (.r 62)), (1007, (.t (.var 40))), (1006, (.t (.var 39))), (1005, (.t (.var 58))), (1004, (.t (.var 57))), (1003, (.t (.var 56))), (1002, (.t (.var 55))), (1001, (.r 34)), (1008, (.t (.arith .add .i64 (.var 41) (.lit (1))))), (1000, (.r 33))], [((.lit (0)), (.lit (0))), ((.var 2), (.var 2)), ((.var 1), (.var 1)), ((.lit (0)), (.lit (0)))], [], []⟩))))))
 (.pack [.arr 51 5 [CK.int .u8] (.var 54) (.var 53), .cells 43 77 [(.vint .i64 (.icell (.var 3) (.var 41) 0)), (.vint .u64 (.icell (.var 3) (.var 41) 1)), (.vint .i64 (.dlen (.var 46))), (.vcell (.var 3) (.var 41) 3)], .abs 42 2] 59 (.back 1 33 ⟨1000, [(1009, (.r 59)), (1007, (.t (.var 40))), (1006, (.t (.var 39))), (1005, (.t (.var 58))), (1004, (.t (.var 57))), (1003, (.t (.var 56))), (1002, (.t (.var 55))), (1001, (.r 34)), (1008, (.t (.arith .add .i64 (.var 41) (.lit (1))))), (1000, (.r 33))], [((.lit (0)), (.lit (0))), ((.var 2), (.var 2)), ((.var 1), (.var 1)), ((.lit (0)), (.lit (0)))], [], []⟩)))))
 (.br (.cmp .eql (.icell (.var 3) (.var 41) 0) (.lit (5)))
 (.need (.cmp .leq (.lit (0)) (.var 52)) (.need (.cmp .leq (.var 52) (.dlen (.var 54))) (.view (.vcell (.var 3) (.var 41) 3) [CK.int .u8] [42, 5] 59 (.br (.not (.c2 .veq (.c1 .vbytes (.dtake (.var 54) (.var 52))) (.c1 .vbytes (.var 61))))
 (.stuck 7 0 0)
 (.pack [.arr 51 5 [CK.int .u8] (.var 54) (.var 53), .cells 43 77 [(.vint .i64 (.icell (.var 3) (.var 41) 0)), (.vint .u64 (.icell (.var 3) (.var 41) 1)), (.vint .i64 (.dlen (.var 46))), (.vcell (.var 3) (.var 41) 3)], .abs 42 2] 62 (.back 1 33 ⟨1000, [(1009, (.r 62)), (1007, (.t (.var 40))), (1006, (.t (.var 39))), (1005, (.t (.var 58))), (1004, (.t (.var 57))), (1003, (.t (.var 56))), (1002, (.t (.var 55))), (1001, (.r 34)), (1008, (.t (.arith .add .i64 (.var 41) (.lit (1))))), (1000, (.r 33))], [((.lit (0)), (.lit (0))), ((.var 2), (.var 2)), ((.var 1), (.var 1)), ((.lit (0)), (.lit (0)))], [], []⟩))))))
 (.br (.cmp .eql (.icell (.var 3) (.var 41) 0) (.lit (6)))
 (.need (.cmp .leq (.lit (0)) (.var 52)) (.need (.cmp .leq (.var 52) (.dlen (.var 54))) (.view (.vcell (.var 3) (.var 41) 3) [CK.int .u8] [42, 5] 59 (.br (.not (.c2 .veq (.c1 .vbytes (.dtake (.var 54) (.var 52))) (.c1 .vbytes (.var 61))))
 (.stuck 7 0 0)
 (.pack [.arr 51 5 [CK.int .u8] (.var 54) (.var 53), .cells 43 77 [(.vint .i64 (.icell (.var 3) (.var 41) 0)), (.vint .u64 (.icell (.var 3) (.var 41) 1)), (.vint .i64 (.dlen (.var 46))), (.vcell (.var 3) (.var 41) 3)], .abs 42 2] 62 (.back 1 33 ⟨1000, [(1009, (.r 62)), (1007, (.t (.var 40))), (1006, (.t (.var 39))), (1005, (.t (.var 58))), (1004, (.t (.var 57))), (1003, (.t (.var 56))), (1002, (.t (.var 55))), (1001, (.r 34)), (1008, (.t (.arith .add .i64 (.var 41) (.lit (1))))), (1000, (.r 33))], [((.lit (0)), (.lit (0))), ((.var 2), (.var 2)), ((.var 1), (.var 1)), ((.lit (0)), (.lit (0)))], [], []⟩))))))
 (.pack [.arr 51 5 [CK.int .u8] (.var 54) (.var 53), .cells 43 77 [(.vint .i64 (.icell (.var 3) (.var 41) 0)), (.vint .u64 (.icell (.var 3) (.var 41) 1)), (.vint .i64 (.dlen (.var 46))), (.vcell (.var 3) (.var 41) 3)], .abs 42 2] 59 (.back 1 33 ⟨1000, [(1009, (.r 59)), (1007, (.t (.var 40))), (1006, (.t (.var 39))), (1005, (.t (.var 58))), (1004, (.t (.var 57))), (1003, (.t (.var 56))), (1002, (.t (.var 55))), (1001, (.r 34)), (1008, (.t (.arith .add .i64 (.var 41) (.lit (1))))), (1000, (.r 33))], [((.lit (0)), (.lit (0))), ((.var 2), (.var 2)), ((.var 1), (.var 1)), ((.lit (0)), (.lit (0)))], [], []⟩)))))))
 (.br (.cmp .eql (.icell (.var 3) (.var 41) 0) (.lit (3)))
 (.br (.cmp .neq (.var 50) (.arith .and .u64 (.icell (.var 3) (.var 41) 1) (.lit (4294967295))))
 (.stuck 7 0 0)
 (.br (.cmp .eql (.icell (.var 3) (.var 41) 0) (.lit (4)))
 (.br (.cmp .neq (.var 50) (.icell (.var 3) (.var 41) 1))
 (.stuck 7 0 0)
 (.br (.cmp .eql (.icell (.var 3) (.var 41) 0) (.lit (5)))
 (.need (.cmp .leq (.lit (0)) (.var 52)) (.need (.cmp .leq (.var 52) (.dlen (.var 54))) (.view (.vcell (.var 3) (.var 41) 3) [CK.int .u8] [42, 5] 59 (.br (.not (.c2 .veq (.c1 .vbytes (.dtake (.var 54) (.var 52))) (.c1 .vbytes (.var 61))))
 (.stuck 7 0 0)
 (.pack [.arr 51 5 [CK.int .u8] (.var 54) (.var 53), .cells 43 77 [(.vint .i64 (.icell (.var 3) (.var 41) 0)), (.vint .u64 (.icell (.var 3) (.var 41) 1)), (.vint .i64 (.dlen (.var 46))), (.vcell (.var 3) (.var 41) 3)], .abs 42 2] 62 (.back 1 33 ⟨1000, [(1009, (.r 62)), (1007, (.t (.var 40))), (1006, (.t (.var 39))), (1005, (.t (.var 58))), (1004, (.t (.var 57))), (1003, (.t (.var 56))), (1002, (.t (.var 55))), (1001, (.r 34)), (1008, (.t (.arith .add .i64 (.var 41) (.lit (1))))), (1000, (.r 33))], [((.lit (0)), (.lit (0))), ((.var 2), (.var 2)), ((.var 1), (.var 1)), ((.lit (0)), (.lit (0)))], [], []⟩))))))
 (.br (.cmp .eql (.icell (.var 3) (.var 41) 0) (.lit (6)))
 (.need (.cmp .leq (.lit (0)) (.var 52)) (.need (.cmp .leq (.var 52) (.dlen (.var 54))) (.view (.vcell (.var 3) (.var 41) 3) [CK.int .u8] [42, 5] 59 (.br (.not (.c2 .veq (.c1 .vbytes (.dtake (.var 54) (.var 52))) (.c1 .vbytes (.var 61))))
 (.stuck 7 0 0)
 (.pack [.arr 51 5 [CK.int .u8] (.var 54) (.var 53), .cells 43 77 [(.vint .i64 (.icell (.var 3) (.var 41) 0)), (.vint .u64 (.icell (.var 3) (.var 41) 1)), (.vint .i64 (.dlen (.var 46))), (.vcell (.var 3) (.var 41) 3)], .abs 42 2] 62 (.back 1 33 ⟨1000, [(1009, (.r 62)), (1007, (.t (.var 40))), (1006, (.t (.var 39))), (1005, (.t (.var 58))), (1004, (.t (.var 57))), (1003, (.t (.var 56))), (1002, (.t (.var 55))), (1001, (.r 34)), (1008, (.t (.arith .add .i64 (.var 41) (.lit (1))))), (1000, (.r 33))], [((.lit (0)), (.lit (0))), ((.var 2), (.var 2)), ((.var 1), (.var 1)), ((.lit (0)), (.lit (0)))], [], []⟩))))))
 (.pack [.arr 51 5 [CK.int .u8] (.var 54) (.var 53), .cells 43 77 [(.vint .i64 (.icell (.var 3) (.var 41) 0)), (.vint .u64 (.icell (.var 3) (.var 41) 1)), (.vint .i64 (.dlen (.var 46))), (.vcell (.var 3) (.var 41) 3)], .abs 42 2] 59 (.back 1 33 ⟨1000, [(1009, (.r 59)), (1007, (.t (.var 40))), (1006, (.t (.var 39))), (1005, (.t (.var 58))), (1004, (.t (.var 57))), (1003, (.t (.var 56))), (1002, (.t (.var 55))), (1001, (.r 34)), (1008, (.t (.arith .add .i64 (.var 41) (.lit (1))))), (1000, (.r 33))], [((.lit (0)), (.lit (0))), ((.var 2), (.var 2)), ((.var 1), (.var 1)), ((.lit (0)), (.lit (0)))], [], []⟩)))))
 (.br (.cmp .eql (.icell (.var 3) (.var 41) 0) (.lit (5)))
 (.need (.cmp .leq (.lit (0)) (.var 52)) (.need (.cmp .leq (.var 52) (.dlen (.var 54))) (.view (.vcell (.var 3) (.var 41) 3) [CK.int .u8] [42, 5] 59 (.br (.not (.c2 .veq (.c1 .vbytes (.dtake (.var 54) (.var 52))) (.c1 .vbytes (.var 61))))
 (.stuck 7 0 0)
 (.pack [.arr 51 5 [CK.int .u8] (.var 54) (.var 53), .cells 43 77 [(.vint .i64 (.icell (.var 3) (.var 41) 0)), (.vint .u64 (.icell (.var 3) (.var 41) 1)), (.vint .i64 (.dlen (.var 46))), (.vcell (.var 3) (.var 41) 3)], .abs 42 2] 62 (.back 1 33 ⟨1000, [(1009, (.r 62)), (1007, (.t (.var 40))), (1006, (.t (.var 39))), (1005, (.t (.var 58))), (1004, (.t (.var 57))), (1003, (.t (.var 56))), (1002, (.t (.var 55))), (1001, (.r 34)), (1008, (.t (.arith .add .i64 (.var 41) (.lit (1))))), (1000, (.r 33))], [((.lit (0)), (.lit (0))), ((.var 2), (.var 2)), ((.var 1), (.var 1)), ((.lit (0)), (.lit (0)))], [], []⟩))))))
 (.br (.cmp .eql (.icell (.var 3) (.var 41) 0) (.lit (6)))
 (.need (.cmp .leq (.lit (0)) (.var 52)) (.need (.cmp .leq (.var 52) (.dlen (.var 54))) (.view (.vcell (.var 3) (.var 41) 3) [CK.int .u8] [42, 5] 59 (.br (.not (.c2 .veq (.c1 .vbytes (.dtake (.var 54) (.var 52))) (.c1 .vbytes (.var 61))))
 (.stuck 7 0 0)
 (.pack [.arr 51 5 [CK.int .u8] (.var 54) (.var 53), .cells 43 77 [(.vint .i64 (.icell (.var 3) (.var 41) 0)), (.vint .u64 (.icell (.var 3) (.var 41) 1)), (.vint .i64 (.dlen (.var 46))), (.vcell (.var 3) (.var 41) 3)], .abs 42 2] 62 (.back 1 33 ⟨1000, [(1009, (.r 62)), (1007, (.t (.var 40))), (1006, (.t (.var 39))), (1005, (.t (.var 58))), (1004, (.t (.var 57))), (1003, (.t (.var 56))), (1002, (.t (.var 55))), (1001, (.r 34)), (1008, (.t (.arith .add .i64 (.var 41) (.lit (1))))), (1000, (.r 33))], [((.lit (0)), (.lit (0))), ((.var 2), (.var 2)), ((.var 1), (.var 1)), ((.lit (0)), (.lit (0)))], [], []⟩))))))
 (.pack [.arr 51 5 [CK.int .u8] (.var 54) (.var 53), .cells 43 77 [(.vint .i64 (.icell (.var 3) (.var 41) 0)), (.vint .u64 (.icell (.var 3) (.var 41) 1)), (.vint .i64 (.dlen (.var 46))), (.vcell (.var 3) (.var 41) 3)], .abs 42 2] 59 (.back 1 33 ⟨1000, [(1009, (.r 59)), (1007, (.t (.var 40))), (1006, (.t (.var 39))), (1005, (.t (.var 58))), (1004, (.t (.var 57))), (1003, (.t (.var 56))), (1002, (.t (.var 55))), (1001, (.r 34)), (1008, (.t (.arith .add .i64 (.var 41) (.lit (1))))), (1000, (.r 33))], [((.lit (0)), (.lit (0))), ((.var 2), (.var 2)), ((.var 1), (.var 1)), ((.lit (0)), (.lit (0)))], [], []⟩))))))
 (.br (.cmp .eql (.icell (.var 3) (.var 41) 0) (.lit (4)))
 (.br (.cmp .neq (.var 50) (.icell (.var 3) (.var 41) 1))
 (.stuck 7 0 0)
 (.br (.cmp .eql (.icell (.var 3) (.var 41) 0) (.lit (5)))
 (.need (.cmp .leq (.lit (0)) (.var 52)) (.need (.cmp .leq (.var 52) (.dlen (.var 54))) (.view (.vcell (.var 3) (.var 41) 3) [CK.int .u8] [42, 5] 59 (.br (.not (.c2 .veq (.c1 .vbytes (.dtake (.var 54) (.var 52))) (.c1 .vbytes (.var 61))))
 (.stuck 7 0 0)
 (.pack [.arr 51 5 [CK.int .u8] (.var 54) (.var 53), .cells 43 77 [(.vint .i64 (.icell (.var 3) (.var 41) 0)), (.vint .u64 (.icell (.var 3) (.var 41) 1)), (.vint .i64 (.dlen (.var 46))), (.vcell (.var 3) (.var 41) 3)], .abs 42 2] 62 (.back 1 33 ⟨1000, [(1009, (.r 62)), (1007, (.t (.var 40))), (1006, (.t (.var 39))), (1005, (.t (.var 58))), (1004, (.t (.var 57))), (1003, (.t (.var 56))), (1002, (.t (.var 55))), (1001, (.r 34)), (1008, (.t (.arith .add .i64 (.var 41) (.lit (1))))), (1000, (.r 33))], [((.lit (0)), (.lit (0))), ((.var 2), (.var 2)), ((.var 1), (.var 1)), ((.lit (0)), (.lit (0)))], [], []⟩))))))
 (.br (.cmp .eql (.icell (.var 3) (.var 41) 0) (.lit (6)))
 (.need (.cmp .leq (.lit (0)) (.var 52)) (.need (.cmp .leq (.var 52) (.dlen (.var 54))) (.view (.vcell (.var 3) (.var 41) 3) [CK.int .u8] [42, 5] 59 (.br (.not (.c2 .veq (.c1 .vbytes (.dtake (.var 54) (.var 52))) (.c1 .vbytes (.var 61))))
 (.stuck 7 0 0)
 (.pack [.arr 51 5 [CK.int .u8] (.var 54) (.var 53), .cells 43 77 [(.vint .i64 (.icell (.var 3) (.var 41) 0)), (.vint .u64 (.icell (.var 3) (.var 41) 1)), (.vint .i64 (.dlen (.var 46))), (.vcell (.var 3) (.var 41) 3)], .abs 42 2] 62 (.back 1 33 ⟨1000, [(1009, (.r 62)), (1007, (.t (.var 40))), (1006, (.t (.var 39))), (1005, (.t (.var 58))), (1004, (.t (.var 57))), (1003, (.t (.var 56))), (1002, (.t (.var 55))), (1001, (.r 34)), (1008, (.t (.arith .add .i64 (.var 41) (.lit (1))))), (1000, (.r 33))], [((.lit (0)), (.lit (0))), ((.var 2), (.var 2)), ((.var 1), (.var 1)), ((.lit (0)), (.lit (0)))], [], []⟩))))))
 (.pack [.arr 51 5 [CK.int .u8] (.var 54) (.var 53), .cells 43 77 [(.vint .i64 (.icell (.var 3) (.var 41) 0)), (.vint .u64 (.icell (.var 3) (.var 41) 1)), (.vint .i64 (.dlen (.var 46))), (.vcell (.var 3) (.var 41) 3)], .abs 42 2] 59 (.back 1 33 ⟨1000, [(1009, (.r 59)), (1007, (.t (.var 40))), (1006, (.t (.var 39))), (1005, (.t (.var 58))), (1004, (.t (.var 57))), (1003, (.t (.var 56))), (1002, (.t (.var 55))), (1001, (.r 34)), (1008, (.t (.arith .add .i64 (.var 41) (.lit (1))))), (1000, (.r 33))], [((.lit (0)), (.lit (0))), ((.var 2), (.var 2)), ((.var 1), (.var 1)), ((.lit (0)), (.lit (0)))], [], []⟩)))))
 (.br (.cmp .eql (.icell (.var 3) (.var 41) 0) (.lit (5)))
 (.need (.cmp .leq (.lit (0)) (.var 52)) (.need (.cmp .leq (.var 52) (.dlen (.var 54))) (.view (.vcell (.var 3) (.var 41) 3) [CK.int .u8] [42, 5] 59 (.br (.not (.c2 .veq (.c1 .vbytes (.dtake (.var 54) (.var 52))) (.c1 .vbytes (.var 61))))
 (.stuck 7 0 0)
 (.pack [.arr 51 5 [CK.int .u8] (.var 54) (.var 53), .cells 43 77 [(.vint .i64 (.icell (.var 3) (.var 41) 0)), (.vint .u64 (.icell (.var 3) (.var 41) 1)), (.vint .i64 (.dlen (.var 46))), (.vcell (.var 3) (.var 41) 3)], .abs 42 2] 62 (.back 1 33 ⟨1000, [(1009, (.r 62)), (1007, (.t (.var 40))), (1006, (.t (.var 39))), (1005, (.t (.var 58))), (1004, (.t (.var 57))), (1003, (.t (.var 56))), (1002, (.t (.var 55))), (1001, (.r 34)), (1008, (.t (.arith .add .i64 (.var 41) (.lit (1))))), (1000, (.r 33))], [((.lit (0)), (.lit (0))), ((.var 2), (.var 2)), ((.var 1), (.var 1)), ((.lit (0)), (.lit (0)))], [], []⟩))))))
 (.br (.cmp .eql (.icell (.var 3) (.var 41) 0) (.lit (6)))
 (.need (.cmp .leq (.lit (0)) (.var 52)) (.need (.cmp .leq (.var 52) (.dlen (.var 54))) (.view (.vcell (.var 3) (.var 41) 3) [CK.int .u8] [42, 5] 59 (.br (.not (.c2 .veq (.c1 .vbytes (.dtake (.var 54) (.var 52))) (.c1 .vbytes (.var 61))))
 (.stuck 7 0 0)
 (.pack [.arr 51 5 [CK.int .u8] (.var 54) (.var 53), .cells 43 77 [(.vint .i64 (.icell (.var 3) (.var 41) 0)), (.vint .u64 (.icell (.var 3) (.var 41) 1)), (.vint .i64 (.dlen (.var 46))), (.vcell (.var 3) (.var 41) 3)], .abs 42 2] 62 (.back 1 33 ⟨1000, [(1009, (.r 62)), (1007, (.t (.var 40))), (1006, (.t (.var 39))), (1005, (.t (.var 58))), (1004, (.t (.var 57))), (1003, (.t (.var 56))), (1002, (.t (.var 55))), (1001, (.r 34)), (1008, (.t (.arith .add .i64 (.var 41) (.lit (1))))), (1000, (.r 33))], [((.lit (0)), (.lit (0))), ((.var 2), (.var 2)), ((.var 1), (.var 1)), ((.lit (0)), (.lit (0)))], [], []⟩))))))
 (.pack [.arr 51 5 [CK.int .u8] (.var 54) (.var 53), .cells 43 77 [(.vint .i64 (.icell (.var 3) (.var 41) 0)), (.vint .u64 (.icell (.var 3) (.var 41) 1)), (.vint .i64 (.dlen (.var 46))), (.vcell (.var 3) (.var 41) 3)], .abs 42 2] 59 (.back 1 33 ⟨1000, [(1009, (.r 59)), (1007, (.t (.var 40))), (1006, (.t (.var 39))), (1005, (.t (.var 58))), (1004, (.t (.var 57))), (1003, (.t (.var 56))), (1002, (.t (.var 55))), (1001, (.r 34)), (1008, (.t (.arith .add .i64 (.var 41) (.lit (1))))), (1000, (.r 33))], [((.lit (0)), (.lit (0))), ((.var 2), (.var 2)), ((.var 1), (.var 1)), ((.lit (0)), (.lit (0)))], [], []⟩))))))))
 (.br (.cmp .eql (.icell (.var 3) (.var 41) 0) (.lit (2)))
 (.br (.cmp .neq (.var 50) (.arith .and .u64 (.icell (.var 3) (.var 41) 1) (.lit (65535))))
 (.stuck 7 0 0)
 (.br (.cmp .eql (.icell (.var 3) (.var 41) 0) (.lit (3)))
 (.br (.cmp .neq (.var 50) (.arith .and .u64 (.icell (.var 3) (.var 41) 1) (.lit (4294967295))))
 (.stuck 7 0 0)
 (.br (.cmp .eql (.icell (.var 3) (.var 41) 0) (.lit (4)))
 (.br (.cmp .neq (.var 50) (.icell (.var 3) (.var 41) 1))
 (.stuck 7 0 0)
 (.br (.cmp .eql (.icell (.var 3) (.var 41) 0) (.lit (5)))
 (.need (.cmp .leq (.lit (0)) (.var 52)) (.need (.cmp .leq (.var 52) (.dlen (.var 54))) (.view (.vcell (.var 3) (.var 41) 3) [CK.int .u8] [42, 5] 59 (.br (.not (.c2 .veq (.c1 .vbytes (.dtake (.var 54) (.var 52))) (.c1 .vbytes (.var 61))))
 (.stuck 7 0 0)
 (.pack [.arr 51 5 [CK.int .u8] (.var 54) (.var 53), .cells 43 77 [(.vint .i64 (.icell (.var 3) (.var 41) 0)), (.vint .u64 (.icell (.var 3) (.var 41) 1)), (.vint .i64 (.dlen (.var 46))), (.vcell (.var 3) (.var 41) 3)], .abs 42 2] 62 (.back 1 33 ⟨1000, [(1009, (.r 62)), (1007, (.t (.var 40))), (1006, (.t (.var 39))), (1005, (.t (.var 58))), (1004, (.t (.var 57))), (1003, (.t (.var 56))), (1002, (.t (.var 55))), (1001, (.r 34)), (1008, (.t (.arith .add .i64 (.var 41) (.lit (1))))), (1000, (.r 33))], [((.lit (0)), (.lit (0))), ((.var 2), (.var 2)), ((.var 1), (.var 1)), ((.lit (0)), (.lit (0)))], [], []⟩))))))
 (.br (.cmp .eql (.icell (.var 3) (.var 41) 0) (.lit (6)))
 (.need (.cmp .leq (.lit (0)) (.var 52)) (.need (.cmp .leq (.var 52) (.dlen (.var 54))) (.view (.vcell (.var 3) (.var 41) 3) [CK.int .u8] [42, 5] 59 (.br (.not (.c2 .veq (.c1 .vbytes (.dtake (.var 54) (.var 52))) (.c1 .vbytes (.var 61))))
 (.stuck 7 0 0)
 (.pack [.arr 51 5 [CK.int .u8] (.var 54) (.var 53), .cells 43 77 [(.vint .i64 (.icell (.var 3) (.var 41) 0)), (.vint .u64 (.icell (.var 3) (.var 41) 1)), (.vint .i64 (.dlen (.var 46))), (.vcell (.var 3) (.var 41) 3)], .abs 42 2] 62 (.back 1 33 ⟨1000, [(1009, (.r 62)), (1007, (.t (.var 40))), (1006, (.t (.var 39))), (1005, (.t (.var 58))), (1004, (.t (.var 57))), (1003, (.t (.var 56))), (1002, (.t (.var 55))), (1001, (.r 34)), (1008, (.t (.arith .add .i64 (.var 41) (.lit (1))))), (1000, (.r 33))], [((.lit (0)), (.lit (0))), ((.var 2), (.var 2)), ((.var 1), (.var 1)), ((.lit (0)), (.lit (0)))], [], []⟩))))))
 (.pack [.arr 51 5 [CK.int .u8] (.var 54) (.var 53), .cells 43 77 [(.vint .i64 (.icell (.var 3) (.var 41) 0)), (.vint .u64 (.icell (.var 3) (.var 41) 1)), (.vint .i64 (.dlen (.var 46))), (.vcell (.var 3) (.var 41) 3)], .abs 42 2] 59 (.back 1 33 ⟨1000, [(1009, (.r 59)), (1007, (.t (.var 40))), (1006, (.t (.var 39))), (1005, (.t (.var 58))), (1004, (.t (.var 57))), (1003, (.t (.var 56))), (1002, (.t (.var 55))), (1001, (.r 34)), (1008, (.t (.arith .add .i64 (.var 41) (.lit (1))))), (1000, (.r 33))], [((.lit (0)), (.lit (0))), ((.var 2), (.var 2)), ((.var 1), (.var 1)), ((.lit (0)), (.lit (0)))], [], []⟩)))))
 (.br (.cmp .eql (.icell (.var 3) (.var 41) 0) (.lit (5)))
 (.need (.cmp .leq (.lit (0)) (.var 52)) (.need (.cmp .leq (.var 52) (.dlen (.var 54))) (.view (.vcell (.var 3) (.var 41) 3) [CK.int .u8] [42, 5] 59 (.br (.not (.c2 .veq (.c1 .vbytes (.dtake (.var 54) (.var 52))) (.c1 .vbytes (.var 61))))
 (.stuck 7 0 0)
 (.pack [.arr 51 5 [CK.int .u8] (.var 54) (.var 53), .cells 43 77 [(.vint .i64 (.icell (.var 3) (.var 41) 0)), (.vint .u64 (.icell (.var 3) (.var 41) 1)), (.vint .i64 (.dlen (.var 46))), (.vcell (.var 3) (.var 41) 3)], .abs 42 2] 62 (.back 1 33 ⟨1000, [(1009, (.r 62)), (1007, (.t (.var 40))), (1006, (.t (.var 39))), (1005, (.t (.var 58))), (1004, (.t (.var 57))), (1003, (.t (.var 56))), (1002, (.t (.var 55))), (1001, (.r 34)), (1008, (.t (.arith .add .i64 (.var 41) (.lit (1))))), (1000, (.r 33))], [((.lit (0)), (.lit (0))), ((.var 2), (.var 2)), ((.var 1), (.var 1)), ((.lit (0)), (.lit (0)))], [], []⟩))))))
 (.br (.cmp .eql (.icell (.var 3) (.var 41) 0) (.lit (6)))
 (.need (.cmp .leq (.lit (0)) (.var 52)) (.need (.cmp .leq (.var 52) (.dlen (.var 54))) (.view (.vcell (.var 3) (.var 41) 3) [CK.int .u8] [42, 5] 59 (.br (.not (.c2 .veq (.c1 .vbytes (.dtake (.var 54) (.var 52))) (.c1 .vbytes (.var 61))))
 (.stuck 7 0 0)
 (.pack [.arr 51 5 [CK.int .u8] (.var 54) (.var 53), .cells 43 77 [(.vint .i64 (.icell (.var 3) (.var 41) 0)), (.vint .u64 (.icell (.var 3) (.var 41) 1)), (.vint .i64 (.dlen (.var 46))), (.vcell (.var 3) (.var 41) 3)], .abs 42 2] 62 (.back 1 33 ⟨1000, [(1009, (.r 62)), (1007, (.t (.var 40))), (1006, (.t (.var 39))), (1005, (.t (.var 58))), (1004, (.t (.var 57))), (1003, (.t (.var 56))), (1002, (.t (.var 55))), (1001, (.r 34)), (1008, (.t (.arith .add .i64 (.var 41) (.lit (1))))), (1000, (.r 33))], [((.lit (0)), (.lit (0))), ((.var 2), (.var 2)), ((.var 1), (.var 1)), ((.lit (0)), (.lit (0)))], [], []⟩))))))
 (.pack [.arr 51 5 [CK.int .u8] (.var 54) (.var 53), .cells 43 77 [(.vint .i64 (.icell (.var 3) (.var 41) 0)), (.vint .u64 (.icell (.var 3) (.var 41) 1)), (.vint .i64 (.dlen (.var 46))), (.vcell (.var 3) (.var 41) 3)], .abs 42 2] 59 (.back 1 33 ⟨1000, [(1009, (.r 59)), (1007, (.t (.var 40))), (1006, (.t (.var 39))), (1005, (.t (.var 58))), (1004, (.t (.var 57))), (1003, (.t (.var 56))), (1002, (.t (.var 55))), (1001, (.r 34)), (1008, (.t (.arith .add .i64 (.var 41) (.lit (1))))), (1000, (.r 33))], [((.lit (0)), (.lit (0))), ((.var 2), (.var 2)), ((.var 1), (.var 1)), ((.lit (0)), (.lit (0)))], [], []⟩))))))
 (.br (.cmp .eql (.icell (.var 3) (.var 41) 0) (.lit (4)))
 (.br (.cmp .neq (.var 50) (.icell (.var 3) (.var 41) 1))
 (.stuck 7 0 0)
 (.br (.cmp .eql (.icell (.var 3) (.var 41) 0) (.lit (5)))
 (.need (.cmp .leq (.lit (0)) (.var 52)) (.need (.cmp .leq (.var 52) (.dlen (.var 54))) (.view (.vcell (.var 3) (.var 41) 3) [CK.int .u8] [42, 5] 59 (.br (.not (.c2 .veq (.c1 .vbytes (.dtake (.var 54) (.var 52))) (.c1 .vbytes (.var 61))))
 (.stuck 7 0 0)
 (.pack [.arr 51 5 [CK.int .u8] (.var 54) (.var 53), .cells 43 77 [(.vint .i64 (.icell (.var 3) (.var 41) 0)), (.vint .u64 (.icell (.var 3) (.var 41) 1)), (.vint .i64 (.dlen (.var 46))), (.vcell (.var 3) (.var 41) 3)], .abs 42 2] 62 (.back 1 33 ⟨1000, [(1009, (.r 62)), (1007, (.t (.var 40))), (1006, (.t (.var 39))), (1005, (.t (.var 58))), (1004, (.t (.var 57))), (1003, (.t (.var 56))), (1002, (.t (.var 55))), (1001, (.r 34)), (1008, (.t (.arith .add .i64 (.var 41) (.lit (1))))), (1000, (.r 33))], [((.lit (0)), (.lit (0))), ((.var 2), (.var 2)), ((.var 1), (.var 1)), ((.lit (0)), (.lit (0)))], [], []⟩))))))
 (.br (.cmp .eql (.icell (.var 3) (.var 41) 0) (.lit (6)))
 (.need (.cmp .leq (.lit (0)) (.var 52)) (.need (.cmp .leq (.var 52) (.dlen (.var 54))) (.view (.vcell (.var 3) (.var 41) 3) [CK.int .u8] [42, 5] 59 (.br (.not (.c2 .veq (.c1 .vbytes (.dtake (.var 54) (.var 52))) (.c1 .vbytes (.var 61))))
 (.stuck 7 0 0)
 (.pack [.arr 51 5 [CK.int .u8] (.var 54) (.var 53), .cells 43 77 [(.vint .i64 (.icell (.var 3) (.var 41) 0)), (.vint .u64 (.icell (.var 3) (.var 41) 1)), (.vint .i64 (.dlen (.var 46))), (.vcell (.var 3) (.var 41) 3)], .abs 42 2] 62 (.back 1 33 ⟨1000, [(1009, (.r 62)), (1007, (.t (.var 40))), (1006, (.t (.var 39))), (1005, (.t (.var 58))), (1004, (.t (.var 57))), (1003, (.t (.var 56))), (1002, (.t (.var 55))), (1001, (.r 34)), (1008, (.t (.arith .add .i64 (.var 41) (.lit (1))))), (1000, (.r 33))], [((.lit (0)), (.lit (0))), ((.var 2), (.var 2)), ((.var 1), (.var 1)), ((.lit (0)), (.lit (0)))], [], []⟩))))))
 (.pack [.arr 51 5 [CK.int .u8] (.var 54) (.var 53), .cells 43 77 [(.vint .i64 (.icell (.var 3) (.var 41) 0)), (.vint .u64 (.icell (.var 3) (.var 41) 1)), (.vint .i64 (.dlen (.var 46))), (.vcell (.var 3) (.var 41) 3)], .abs 42 2] 59 (.back 1 33 ⟨1000, [(1009, (.r 59)), (1007, (.t (.var 40))), (1006, (.t (.var 39))), (1005, (.t (.var 58))), (1004, (.t (.var 57))), (1003, (.t (.var 56))), (1002, (.t (.var 55))), (1001, (.r 34)), (1008, (.t (.arith .add .i64 (.var 41) (.lit (1))))), (1000, (.r 33))], [((.lit (0)), (.lit (0))), ((.var 2), (.var 2)), ((.var 1), (.var 1)), ((.lit (0)), (.lit (0)))], [], []⟩)))))
 (.br (.cmp .eql (.icell (.var 3) (.var 41) 0) (.lit (5)))
 (.need (.cmp .leq (.lit (0)) (.var 52)) (.need (.cmp .leq (.var 52) (.dlen (.var 54))) (.view (.vcell (.var 3) (.var 41) 3) [CK.int .u8] [42, 5] 59 (.br (.not (.c2 .veq (.c1 .vbytes (.dtake (.var 54) (.var 52))) (.c1 .vbytes (.var 61))))
 (.stuck 7 0 0)
 (.pack [.arr 51 5 [CK.int .u8] (.var 54) (.var 53), .cells 43 77 [(.vint .i64 (.icell (.var 3) (.var 41) 0)), (.vint .u64 (.icell (.var 3) (.var 41) 1)), (.vint .i64 (.dlen (.var 46))), (.vcell (.var 3) (.var 41) 3)], .abs 42 2] 62 (.back 1 33 ⟨1000, [(1009, (.r 62)), (1007, (.t (.var 40))), (1006, (.t (.var 39))), (1005, (.t (.var 58))), (1004, (.t (.var 57))), (1003, (.t (.var 56))), (1002, (.t (.var 55))), (1001, (.r 34)), (1008, (.t (.arith .add .i64 (.var 41) (.lit (1))))), (1000, (.r 33))], [((.lit (0)), (.lit (0))), ((.var 2), (.var 2)), ((.var 1), (.var 1)), ((.lit (0)), (.lit (0)))], [], []⟩))))))
 (.br (.cmp .eql (.icell (.var 3) (.var 41) 0) (.lit (6)))
 (.need (.cmp .leq (.lit (0)) (.var 52)) (.need (.cmp .leq (.var 52) (.dlen (.var 54))) (.view (.vcell (.var 3) (.var 41) 3) [CK.int .u8] [42, 5] 59 (.br (.not (.c2 .veq (.c1 .vbytes (.dtake (.var 54) (.var 52))) (.c1 .vbytes (.var 61))))
 (.stuck 7 0 0)
 (.pack [.arr 51 5 [CK.int .u8] (.var 54) (.var 53), .cells 43 77 [(.vint .i64 (.icell (.var 3) (.var 41) 0)), (.vint .u64 (.icell (.var 3) (.var 41) 1)), (.vint .i64 (.dlen (.var 46))), (.vcell (.var 3) (.var 41) 3)], .abs 42 2] 62 (.back 1 33 ⟨1000, [(1009, (.r 62)), (1007, (.t (.var 40))), (1006, (.t (.var 39))), (1005, (.t (.var 58))), (1004, (.t (.var 57))), (1003, (.t (.var 56))), (1002, (.t (.var 55))), (1001, (.r 34)), (1008, (.t (.arith .add .i64 (.var 41) (.lit (1))))), (1000, (.r 33))], [((.lit (0)), (.lit (0))), ((.var 2), (.var 2)), ((.var 1), (.var 1)), ((.lit (0)), (.lit (0)))], [], []⟩))))))
 (.pack [.arr 51 5 [CK.int .u8] (.var 54) (.var 53), .cells 43 77 [(.vint .i64 (.icell (.var 3) (.var 41) 0)), (.vint .u64 (.icell (.var 3) (.var 41) 1)), (.vint .i64 (.dlen (.var 46))), (.vcell (.var 3) (.var 41) 3)], .abs 42 2] 59 (.back 1 33 ⟨1000, [(1009, (.r 59)), (1007, (.t (.var 40))), (1006, (.t (.var 39))), (1005, (.t (.var 58))), (1004, (.t (.var 57))), (1003, (.t (.var 56))), (1002, (.t (.var 55))), (1001, (.r 34)), (1008, (.t (.arith .add .i64 (.var 41) (.lit (1))))), (1000, (.r 33))], [((.lit (0)), (.lit (0))), ((.var 2), (.var 2)), ((.var 1), (.var 1)), ((.lit (0)), (.lit (0)))], [], []⟩)))))))
 (.br (.cmp .eql (.icell (.var 3) (.var 41) 0) (.lit (3)))
 (.br (.cmp .neq (.var 50) (.arith .and .u64 (.icell (.var 3) (.var 41) 1) (.lit (4294967295))))
 (.stuck 7 0 0)
 (.br (.cmp .eql (.icell (.var 3) (.var 41) 0) (.lit (4)))
 (.br (.cmp .neq (.var 50) (.icell (.var 3) (.var 41) 1))
 (.stuck 7 0 0)
 (.br (.cmp .eql (.icell (.var 3) (.var 41) 0) (.lit (5)))
 (.need (.cmp .leq (.lit (0)) (.var 52)) (.need (.cmp .leq (.var 52) (.dlen (.var 54))) (.view (.vcell (.var 3) (.var 41) 3) [CK.int .u8] [42, 5] 59 (.br (.not (.c2 .veq (.c1 .vbytes (.dtake (.var 54) (.var 52))) (.c1 .vbytes (.var 61))))
 (.stuck 7 0 0)
 (.pack [.arr 51 5 [CK.int .u8] (.var 54) (.var 53), .cells 43 77 [(.vint .i64 (.icell (.var 3) (.var 41) 0)), (.vint .u64 (.icell (.var 3) (.var 41) 1)), (.vint .i64 (.dlen (.var 46))), (.vcell (.var 3) (.var 41) 3)], .abs 42 2] 62 (.back 1 33 ⟨1000, [(1009, (.r 62)), (1007, (.t (.var 40))), (1006, (.t (.var 39))), (1005, (.t (.var 58))), (1004, (.t (.var 57))), (1003, (.t (.var 56))), (1002, (.t (.var 55))), (1001, (.r 34)), (1008, (.t (.arith .add .i64 (.var 41) (.lit (1))))), (1000, (.r 33))], [((.lit (0)), (.lit (0))), ((.var 2), (.var 2)), ((.var 1), (.var 1)), ((.lit (0)), (.lit (0)))], [], []⟩))))))
 (.br (.cmp .eql (.icell (.var 3) (.var 41) 0) (.lit (6)))
 (.need (.cmp .leq (.lit (0)) (.var 52)) (.need (.cmp .leq (.var 52) (.dlen (.var 54))) (.view (.vcell (.var 3) (.var 41) 3) [CK.int .u8] [42, 5] 59 (.br (.not (.c2 .veq (.c1 .vbytes (.dtake (.var 54) (.var 52))) (.c1 .vbytes (.var 61))))
 (.stuck 7 0 0)
 (.pack [.arr 51 5 [CK.int .u8] (.var 54) (.var 53), .cells 43 77 [(.vint .i64 (.icell (.var 3) (.var 41) 0)), (.vint .u64 (.icell (.var 3) (.var 41) 1)), (.vint .i64 (.dlen (.var 46))), (.vcell (.var 3) (.var 41) 3)], .abs 42 2] 62 (.back 1 33 ⟨1000, [(1009, (.r 62)), (1007, (.t (.var 40))), (1006, (.t (.var 39))), (1005, (.t (.var 58))), (1004, (.t (.var 57))), (1003, (.t (.var 56))), (1002, (.t (.var 55))), (1001, (.r 34)), (1008, (.t (.arith .add .i64 (.var 41) (.lit (1))))), (1000, (.r 33))], [((.lit (0)), (.lit (0))), ((.var 2), (.var 2)), ((.var 1), (.var 1)), ((.lit (0)), (.lit (0)))], [], []⟩))))))
 (.pack [.arr 51 5 [CK.int .u8] (.var 54) (.var 53), .cells 43 77 [(.vint .i64 (.icell (.var 3) (.var 41) 0)), (.vint .u64 (.icell (.var 3) (.var 41) 1)), (.vint .i64 (.dlen (.var 46))), (.vcell (.var 3) (.var 41) 3)], .abs 42 2] 59 (.back 1 33 ⟨1000, [(1009, (.r 59)), (1007, (.t (.var 40))), (1006, (.t (.var 39))), (1005, (.t (.var 58))), (1004, (.t (.var 57))), (1003, (.t (.var 56))), (1002, (.t (.var 55))), (1001, (.r 34)), (1008, (.t (.arith .add .i64 (.var 41) (.lit (1))))), (1000, (.r 33))], [((.lit (0)), (.lit (0))), ((.var 2), (.var 2)), ((.var 1), (.var 1)), ((.lit (0)), (.lit (0)))], [], []⟩)))))
 (.br (.cmp .eql (.icell (.var 3) (.var 41) 0) (.lit (5)))
 (.need (.cmp .leq (.lit (0)) (.var 52)) (.need (.cmp .leq (.var 52) (.dlen (.var 54))) (.view (.vcell (.var 3) (.var 41) 3) [CK.int .u8] [42, 5] 59 (.br (.not (.c2 .veq (.c1 .vbytes (.dtake (.var 54) (.var 52))) (.c1 .vbytes (.var 61))))
 (.stuck 7 0 0)
 (.pack [.arr 51 5 [CK.int .u8] (.var 54) (.var 53), .cells 43 77 [(.vint .i64 (.icell (.var 3) (.var 41) 0)), (.vint .u64 (.icell (.var 3) (.var 41) 1)), (.vint .i64 (.dlen (.var 46))), (.vcell (.var 3) (.var 41) 3)], .abs 42 2] 62 (.back 1 33 ⟨1000, [(1009, (.r 62)), (1007, (.t (.var 40))), (1006, (.t (.var 39))), (1005, (.t (.var 58))), (1004, (.t (.var 57))), (1003, (.t (.var 56))), (1002, (.t (.var 55))), (1001, (.r 34)), (1008, (.t (.arith .add .i64 (.var 41) (.lit (1))))), (1000, (.r 33))], [((.lit (0)), (.lit (0))), ((.var 2), (.var 2)), ((.var 1), (.var 1)), ((.lit (0)), (.lit (0)))], [], []⟩))))))
 (.br (.cmp .eql (.icell (.var 3) (.var 41) 0) (.lit (6)))
 (.need (.cmp .leq (.lit (0)) (.var 52)) (.need (.cmp .leq (.var 52) (.dlen (.var 54))) (.view (.vcell (.var 3) (.var 41) 3) [CK.int .u8] [42, 5] 59 (.br (.not (.c2 .veq (.c1 .vbytes (.dtake (.var 54) (.var 52))) (.c1 .vbytes (.var 61))))
 (.stuck 7 0 0)
 (.pack [.arr 51 5 [CK.int .u8] (.var 54) (.var 53), .cells 43 77 [(.vint .i64 (.icell (.var 3) (.var 41) 0)), (.vint .u64 (.icell (.var 3) (.var 41) 1)), (.vint .i64 (.dlen (.var 46))), (.vcell (.var 3) (.var 41) 3)], .abs 42 2] 62 (.back 1 33 ⟨1000, [(1009, (.r 62)), (1007, (.t (.var 40))), (1006, (.t (.var 39))), (1005, (.t (.var 58))), (1004, (.t (.var 57))), (1003, (.t (.var 56))), (1002, (.t (.var 55))), (1001, (.r 34)), (1008, (.t (.arith .add .i64 (.var 41) (.lit (1))))), (1000, (.r 33))], [((.lit (0)), (.lit (0))), ((.var 2), (.var 2)), ((.var 1), (.var 1)), ((.lit (0)), (.lit (0)))], [], []⟩))))))
 (.pack [.arr 51 5 [CK.int .u8] (.var 54) (.var 53), .cells 43 77 [(.vint .i64 (.icell (.var 3) (.var 41) 0)), (.vint .u64 (.icell (.var 3) (.var 41) 1)), (.vint .i64 (.dlen (.var 46))), (.vcell (.var 3) (.var 41) 3)], .abs 42 2] 59 (.back 1 33 ⟨1000, [(1009, (.r 59)), (1007, (.t (.var 40))), (1006, (.t (.var 39))), (1005, (.t (.var 58))), (1004, (.t (.var 57))), (1003, (.t (.var 56))), (1002, (.t (.var 55))), (1001, (.r 34)), (1008, (.t (.arith .add .i64 (.var 41) (.lit (1))))), (1000, (.r 33))], [((.lit (0)), (.lit (0))), ((.var 2), (.var 2)), ((.var 1), (.var 1)), ((.lit (0)), (.lit (0)))], [], []⟩))))))
 (.br (.cmp .eql (.icell (.var 3) (.var 41) 0) (.lit (4)))
 (.br (.cmp .neq (.var 50) (.icell (.var 3) (.var 41) 1))
 (.stuck 7 0 0)
 (.br (.cmp .eql (.icell (.var 3) (.var 41) 0) (.lit (5)))
 (.need (.cmp .leq (.lit (0)) (.var 52)) (.need (.cmp .leq (.var 52) (.dlen (.var 54))) (.view (.vcell (.var 3) (.var 41) 3) [CK.int .u8] [42, 5] 59 (.br (.not (.c2 .veq (.c1 .vbytes (.dtake (.var 54) (.var 52))) (.c1 .vbytes (.var 61))))
 (.stuck 7 0 0)
 (.pack [.arr 51 5 [CK.int .u8] (.var 54) (.var 53), .cells 43 77 [(.vint .i64 (.icell (.var 3) (.var 41) 0)), (.vint .u64 (.icell (.var 3) (.var 41) 1)), (.vint .i64 (.dlen (.var 46))), (.vcell (.var 3) (.var 41) 3)], .abs 42 2] 62 (.back 1 33 ⟨1000, [(1009, (.r 62)), (1007, (.t (.var 40))), (1006, (.t (.var 39))), (1005, (.t (.var 58))), (1004, (.t (.var 57))), (1003, (.t (.var 56))), (1002, (.t (.var 55))), (1001, (.r 34)), (1008, (.t (.arith .add .i64 (.var 41) (.lit (1))))), (1000, (.r 33))], [((.lit (0)), (.lit (0))), ((.var 2), (.var 2)), ((.var 1), (.var 1)), ((.lit (0)), (.lit (0)))], [], []⟩))))))
 (.br (.cmp .eql (.icell (.var 3) (.var 41) 0) (.lit (6)))
 (.need (.cmp .leq (.lit (0)) (.var 52)) (.need (.cmp .leq (.var 52) (.dlen (.var 54))) (.view (.vcell (.var 3) (.var 41) 3) [CK.int .u8] [42, 5] 59 (.br (.not (.c2 .veq (.c1 .vbytes (.dtake (.var 54) (.var 52))) (.c1 .vbytes (.var 61))))
 (.stuck 7 0 0)
 (.pack [.arr 51 5 [CK.int .u8] (.var 54) (.var 53), .cells 43 77 [(.vint .i64 (.icell (.var 3) (.var 41) 0)), (.vint .u64 (.icell (.var 3) (.var 41) 1)), (.vint .i64 (.dlen (.var 46))), (.vcell (.var 3) (.var 41) 3)], .abs 42 2] 62 (.back 1 33 ⟨1000, [(1009, (.r 62)), (1007, (.t (.var 40))), (1006, (.t (.var 39))), (1005, (.t (.var 58))), (1004, (.t (.var 57))), (1003, (.t (.var 56))), (1002, (.t (.var 55))), (1001, (.r 34)), (1008, (.t (.arith .add .i64 (.var 41) (.lit (1))))), (1000, (.r 33))], [((.lit (0)), (.lit (0))), ((.var 2), (.var 2)), ((.var 1), (.var 1)), ((.lit (0)), (.lit (0)))], [], []⟩))))))
 (.pack [.arr 51 5 [CK.int .u8] (.var 54) (.var 53), .cells 43 77 [(.vint .i64 (.icell (.var 3) (.var 41) 0)), (.vint .u64 (.icell (.var 3) (.var 41) 1)), (.vint .i64 (.dlen (.var 46))), (.vcell (.var 3) (.var 41) 3)], .abs 42 2] 59 (.back 1 33 ⟨1000, [(1009, (.r 59)), (1007, (.t (.var 40))), (1006, (.t (.var 39))), (1005, (.t (.var 58))), (1004, (.t (.var 57))), (1003, (.t (.var 56))), (1002, (.t (.var 55))), (1001, (.r 34)), (1008, (.t (.arith .add .i64 (.var 41) (.lit (1))))), (1000, (.r 33))], [((.lit (0)), (.lit (0))), ((.var 2), (.var 2)), ((.var 1), (.var 1)), ((.lit (0)), (.lit (0)))], [], []⟩)))))
 (.br (.cmp .eql (.icell (.var 3) (.var 41) 0) (.lit (5)))
 (.need (.cmp .leq (.lit (0)) (.var 52)) (.need (.cmp .leq (.var 52) (.dlen (.var 54))) (.view (.vcell (.var 3) (.var 41) 3) [CK.int .u8] [42, 5] 59 (.br (.not (.c2 .veq (.c1 .vbytes (.dtake (.var 54) (.var 52))) (.c1 .vbytes (.var 61))))
 (.stuck 7 0 0)
 (.pack [.arr 51 5 [CK.int .u8] (.var 54) (.var 53), .cells 43 77 [(.vint .i64 (.icell (.var 3) (.var 41) 0)), (.vint .u64 (.icell (.var 3) (.var 41) 1)), (.vint .i64 (.dlen (.var 46))), (.vcell (.var 3) (.var 41) 3)], .abs 42 2] 62 (.back 1 33 ⟨1000, [(1009, (.r 62)), (1007, (.t (.var 40))), (1006, (.t (.var 39))), (1005, (.t (.var 58))), (1004, (.t (.var 57))), (1003, (.t (.var 56))), (1002, (.t (.var 55))), (1001, (.r 34)), (1008, (.t (.arith .add .i64 (.var 41) (.lit (1))))), (1000, (.r 33))], [((.lit (0)), (.lit (0))), ((.var 2), (.var 2)), ((.var 1), (.var 1)), ((.lit (0)), (.lit (0)))], [], []⟩))))))
 (.br (.cmp .eql (.icell (.var 3) (.var 41) 0) (.lit (6)))
 (.need (.cmp .leq (.lit (0)) (.var 52)) (.need (.cmp .leq (.var 52) (.dlen (.var 54))) (.view (.vcell (.var 3) (.var 41) 3) [CK.int .u8] [42, 5] 59 (.br (.not (.c2 .veq (.c1 .vbytes (.dtake (.var 54) (.var 52))) (.c1 .vbytes (.var 61))))
 (.stuck 7 0 0)
 (.pack [.arr 51 5 [CK.int .u8] (.var 54) (.var 53), .cells 43 77 [(.vint .i64 (.icell (.var 3) (.var 41) 0)), (.vint .u64 (.icell (.var 3) (.var 41) 1)), (.vint .i64 (.dlen (.var 46))), (.vcell (.var 3) (.var 41) 3)], .abs 42 2] 62 (.back 1 33 ⟨1000, [(1009, (.r 62)), (1007, (.t (.var 40))), (1006, (.t (.var 39))), (1005, (.t (.var 58))), (1004, (.t (.var 57))), (1003, (.t (.var 56))), (1002, (.t (.var 55))), (1001, (.r 34)), (1008, (.t (.arith .add .i64 (.var 41) (.lit (1))))), (1000, (.r 33))], [((.lit (0)), (.lit (0))), ((.var 2), (.var 2)), ((.var 1), (.var 1)), ((.lit (0)), (.lit (0)))], [], []⟩))))))
 (.pack [.arr 51 5 [CK.int .u8] (.var 54) (.var 53), .cells 43 77 [(.vint .i64 (.icell (.var 3) (.var 41) 0)), (.vint .u64 (.icell (.var 3) (.var 41) 1)), (.vint .i64 (.dlen (.var 46))), (.vcell (.var 3) (.var 41) 3)], .abs 42 2] 59 (.back 1 33 ⟨1000, [(1009, (.r 59)), (1007, (.t (.var 40))), (1006, (.t (.var 39))), (1005, (.t (.var 58))), (1004, (.t (.var 57))), (1003, (.t (.var 56))), (1002, (.t (.var 55))), (1001, (.r 34)), (1008, (.t (.arith .add .i64 (.var 41) (.lit (1))))), (1000, (.r 33))], [((.lit (0)), (.lit (0))), ((.var 2), (.var 2)), ((.var 1), (.var 1)), ((.lit (0)), (.lit (0)))], [], []⟩)))))))))))))))))) .top))))))))
 (.know (.cmp .leq (.dlen (.var 39)) (.var 40)) (.pre 7 ⟨0, [(5, (.t (.var 38))), (4, (.t (.var 37))), (3, (.t (.var 36))), (2, (.t (.var 35))), (1, (.r 34)), (0, (.r 33))], [((.lit (0)), (.lit (0)))], [], []⟩ (.both (.fresh 43 (.post 7 0 ⟨0, [(5, (.t (.var 38))), (4, (.t (.var 37))), (3, (.t (.var 36))), (2, (.t (.var 35))), (1, (.r 34)), (0, (.r 33))], [((.lit (0)), (.lit (0)))], [], []⟩ 43 (.br (.cmp .eql (.var 43) (.lit (0)))
 (.pre 8 ⟨0, [(5, (.t (.var 38))), (4, (.t (.var 37))), (3, (.t (.var 36))), (2, (.t (.var 35))), (1, (.r 34)), (0, (.r 33))], [((.lit (0)), (.lit (0)))], [], []⟩ (.both (.post 8 0 ⟨0, [(5, (.t (.var 38))), (4, (.t (.var 37))), (3, (.t (.var 36))), (2, (.t (.var 35))), (1, (.r 34)), (0, (.r 33))], [((.lit (0)), (.lit (0)))], [], []⟩ 44 (.br (.cmp .eql (.var 36) (.lit (0)))
 (.pre 0 ⟨0, [(1, (.t (.var 7))), (0, (.r 6))], [((.lit (1)), (.lit (1)))], [], []⟩ (.both (.post 0 0 ⟨0, [(1, (.t (.var 7))), (0, (.r 6))], [((.lit (1)), (.lit (1)))], [], []⟩ 44 (.ret 0 ⟨8, [], [], [((.bl true), (.bl true))], []⟩)) .top))
 (.stuck 7 0 0))) .top))
 (.stuck 7 0 0)))) .top)))))))))))))))))))))) .top))))))))) .top)))))))))))))))))))))) .top))))) .top))
theorem o_lawReadBack_eq : treeOf ⟨Tryd.prog, lawReadBackC, [knownC, heavyC, newWriterC, writeOpC, bytesJC, newReaderC, readOpC, endC, restC], [lawReadBackI, lawReadBackJ]⟩ 100000 Tryd.f17 = o_lawReadBack := by kernel_rfl
theorem lawReadBack_of (hd : ∀ c ∈ ([knownC, heavyC, newWriterC, writeOpC, bytesJC, newReaderC, readOpC, endC, restC] : List Ctr), c.ok Tryd.prog) (h : ∀ ρ : Env, ρ.good → (lawReadBackC).pre ρ → o_lawReadBack.den ⟨Tryd.prog, lawReadBackC, [knownC, heavyC, newWriterC, writeOpC, bytesJC, newReaderC, readOpC, endC, restC], [lawReadBackI, lawReadBackJ]⟩ ρ) : (lawReadBackC).ok Tryd.prog :=
  ok_of_tree Tryd.func17 (fun a w => Tryd.call17 a w) hd 100000 (fun ρ hg hp => by rw [o_lawReadBack_eq]; exact h ρ hg hp)
end Go.Proofs

set_option linter.unusedSimpArgs false
set_option linter.unusedVariables false
namespace Go.Proofs
open Go Go.Eng
set_option maxRecDepth 20000
/-! ### One call -/
theorem back_num {k v n : Int} {t : List Int} (h1 : 1 ≤ k) (h4 : k ≤ 4) (h0 : 0 ≤ v) : rdOp (beL v (2 ^ (k.toNat - 1)) ++ t) 0 k n = (v % 256 ^ (2 ^ (k.toNat - 1)), [], t, 0) := by
  have hl : (beL v (2 ^ (k.toNat - 1))).length = 2 ^ (k.toNat - 1) := beL_len
  rw [op_num h1 h4, rdNum_some (by rw [List.length_append]; omega), List.take_left' hl, List.drop_left' hl, valL_beL _ h0]
theorem back_raw {b t : List Int} : rdOp (b ++ t) 0 5 (b.length : Int) = (0, b, t, 0) := by
  rw [op_raw, rdRaw, rd_some (by omega) (by rw [List.length_append]; omega), Int.toNat_natCast, List.take_left' rfl, List.drop_left' rfl]; rfl
theorem back_text {b t : List Int} {n : Int} (h : b.length ≤ 65535) : rdOp (beL b.length 2 ++ b ++ t) 0 6 n = (0, b, t, 0) := by
  have hl : (beL b.length 2).length = 2 := beL_len
  have e1 : List.take 2 (beL b.length 2 ++ (b ++ t)) = beL b.length 2 := List.take_left' hl
  have e2 : List.drop 2 (beL b.length 2 ++ (b ++ t)) = b ++ t := List.drop_left' hl
  have hv : valL (beL b.length 2) = b.length := by
    rw [valL_beL 2 (by omega), show ((256 : Int) ^ 2) = 65536 from rfl]; omega
  rw [List.append_assoc, op_text, rdText_some (by rw [List.length_append]; omega) (by rw [e1, e2, hv, List.length_append]; omega), e1, e2, hv, Int.toNat_natCast, List.take_left' rfl, List.drop_left' rfl]
/-! ### All calls -/
theorem outN_zero {h : Hp} {D : Rows'} : outN h D 0 = [] := rfl
theorem outN_succ {h : Hp} {D : Rows'} {n : Nat} : outN h D (n + 1) = outN h D n ++ addAt h D n := by simp [outN, List.range_succ, List.flatMap_append]
theorem beL_low {v k : Int} (h1 : 1 ≤ k) (h4 : k ≤ 4) : (beL v (2 ^ (k.toNat - 1))).length ≤ 8 := by
  rw [beL_len]
  have h : k = 1 ∨ k = 2 ∨ k = 3 ∨ k = 4 := by omega
  rcases h with h | h | h | h <;> rw [h] <;> decide
theorem addAt_len {h : Hp} {D : Rows'} {j : Nat} : (addAt h D j).length ≤ (opB h D j).length + 8 := by
  unfold addAt
  by_cases h1 : 1 ≤ cellI D j 0 ∧ cellI D j 0 ≤ 4
  · rw [opAdd_num h1.1 h1.2]
    have := beL_low (v := cellI D j 1) h1.1 h1.2
    show (beL _ _).length ≤ _
    omega
  · by_cases h5 : cellI D j 0 = 5
    · rw [h5, opAdd_raw]; show (opB h D j).length ≤ _; omega
    · by_cases h6 : cellI D j 0 = 6
      · rw [h6, opAdd_text]; show (_ ++ _ : List Int).length ≤ _; rw [List.length_append, beL_len]; omega
      · rw [opAdd_other h1 h5 h6]; show (0 : Nat) ≤ _; omega
theorem outN_len {h : Hp} {D : Rows'} : ∀ {n : Nat}, (outN h D n).length ≤ opSum h D n + 8 * n
  | 0 => by rw [outN_zero]; exact Nat.zero_le _
  | n + 1 => by
    have h1 := outN_len (h := h) (D := D) (n := n)
    have h2 := addAt_len (h := h) (D := D) (j := n)
    rw [outN_succ, List.length_append, opSum_succ]; omega
theorem opSum_le {h : Hp} {D : Rows'} {n : Nat} : ∀ {m : Nat}, n ≤ m → opSum h D n ≤ opSum h D m
  | 0, e => by obtain rfl : n = 0 := by omega
               exact Nat.le_refl _
  | m + 1, e => by
    by_cases he : n = m + 1
    · rw [he]; exact Nat.le_refl _
    · have := opSum_le (h := h) (D := D) (n := n) (m := m) (by omega)
      rw [opSum_succ]; omega
theorem outN_pre {h : Hp} {D : Rows'} {n : Nat} : ∀ {m : Nat}, n ≤ m → ∃ t, outN h D m = outN h D n ++ t
  | 0, e => by obtain rfl : n = 0 := by omega
               exact ⟨[], (List.append_nil _).symm⟩
  | m + 1, e => by
    by_cases he : n = m + 1
    · rw [he]; exact ⟨[], (List.append_nil _).symm⟩
    · obtain ⟨t, ht⟩ := outN_pre (h := h) (D := D) (n := n) (m := m) (by omega)
      exact ⟨t ++ addAt h D m, by rw [outN_succ, ht, List.append_assoc]⟩
/-- What is left before the n-th call begins with its bytes. -/
theorem outN_next {h : Hp} {D : Rows'} {n m : Nat} {r : List Int} (hn : n < m) (e : outN h D n ++ r = outN h D m) : ∃ t, r = addAt h D n ++ t ∧ outN h D (n + 1) ++ t = outN h D m := by
  obtain ⟨t, ht⟩ := outN_pre (h := h) (D := D) (n := n + 1) (m := m) hn
  refine ⟨t, ?_, ht.symm⟩
  rw [ht, outN_succ, List.append_assoc] at e
  exact List.append_cancel_left e
theorem outN_end {h : Hp} {D : Rows'} {m : Nat} {r : List Int} (e : outN h D m ++ r = outN h D m) : r = [] := by
  have := congrArg List.length e
  rw [List.length_append] at this
  exact List.eq_nil_of_length_eq_zero (by omega)
theorem wrote_add {h : Hp} {D : Rows'} {n m : Nat} {i : Int} (hi : i = n) (hn : n < m) (hs : opSum h D m ≤ 200000) (hm : m ≤ 200) (hl : opLong (cellI D n 0) (opB h D n) = false) : wrote 1048576 false (outN h D n) (cellI D n 0) (cellI D n 1) (opB h D n) = (false, outN h D (n + 1)) := by
  have h1 := outN_len (h := h) (D := D) (n := n)
  have h2 := addAt_len (h := h) (D := D) (j := n)
  have h3 := opSum_le (h := h) (D := D) (n := n + 1) (m := m) hn
  rw [opSum_succ] at h3
  rw [outN_succ]
  cases ha : opAdd (cellI D n 0) (cellI D n 1) (opB h D n) with
  | none => rw [wrote_none ha, addAt, ha]; simp
  | some s =>
    have hA : addAt h D n = s := by rw [addAt, ha]; rfl
    rw [hA] at h2 ⊢
    exact (wrote_fits ha rfl hl (by omega)).symm
/-! ### Masks -/
theorem andLow {x : Int} {m k : Nat} (h0 : 0 ≤ x) (h : x < 18446744073709551616) (hm : (BitVec.ofInt 64 (m : Int)).toNat = 2 ^ k - 1) (hk : 2 ^ k ≤ 18446744073709551616) : arithOf .and .u64 x (m : Int) = x % ((2 ^ k : Nat) : Int) := by
  obtain ⟨X, rfl⟩ : ∃ X : Nat, x = X := ⟨x.toNat, by omega⟩
  show IntKind.u64.wrap ((BitVec.ofInt 64 (X : Int) &&& BitVec.ofInt 64 (m : Int)).toNat : Int) = _
  rw [wrap64u, BitVec.toNat_and, BitVec.ofInt_natCast, BitVec.toNat_ofNat, Nat.mod_eq_of_lt (show X < 2 ^ 64 by omega), hm, Nat.and_two_pow_sub_one_eq_mod, ← Int.natCast_emod]
  have : X % 2 ^ k < 2 ^ k := Nat.mod_lt _ (Nat.two_pow_pos _)
  rw [Int.emod_eq_of_lt (by omega) (by omega)]
theorem and8 {x : Int} (h0 : 0 ≤ x) (h : x < 18446744073709551616) : arithOf .and .u64 x 255 = x % 256 := andLow (m := 255) (k := 8) h0 h rfl (by decide)
theorem and16 {x : Int} (h0 : 0 ≤ x) (h : x < 18446744073709551616) : arithOf .and .u64 x 65535 = x % 65536 := andLow (m := 65535) (k := 16) h0 h rfl (by decide)
theorem and32' {x : Int} (h0 : 0 ≤ x) (h : x < 18446744073709551616) : arithOf .and .u64 x 4294967295 = x % 4294967296 := andLow (m := 4294967295) (k := 32) h0 h rfl (by decide)
theorem back_all {h : Hp} {D : Rows'} {j : Nat} {t : List Int} {n : Int} (hn : n = (opB h D j).length) (h0 : 0 ≤ cellI D j 1) (hl : opLong (cellI D j 0) (opB h D j) = false) : ∃ v b, rdOp (addAt h D j ++ t) 0 (cellI D j 0) n = (v, b, t, 0) ∧ (1 ≤ cellI D j 0 → cellI D j 0 ≤ 4 → v = cellI D j 1 % 256 ^ (2 ^ ((cellI D j 0).toNat - 1))) ∧ (cellI D j 0 = 5 ∨ cellI D j 0 = 6 → b = opB h D j) := by
  by_cases h1 : 1 ≤ cellI D j 0 ∧ cellI D j 0 ≤ 4
  · refine ⟨_, [], ?_, fun _ _ => rfl, fun h => by exfalso; omega⟩
    rw [addAt, opAdd_num h1.1 h1.2]
    exact back_num h1.1 h1.2 h0
  · by_cases h5 : cellI D j 0 = 5
    · refine ⟨0, _, ?_, fun _ _ => by exfalso; omega, fun _ => rfl⟩
      rw [addAt, h5, opAdd_raw, hn]
      exact back_raw
    · by_cases h6 : cellI D j 0 = 6
      · refine ⟨0, _, ?_, fun _ _ => by exfalso; omega, fun _ => rfl⟩
        rw [addAt, h6, opAdd_text]
        exact back_text (by
          by_cases e : (opB h D j).length ≤ 65535
          · exact e
          · rw [opLong, decide_eq_false_iff_not] at hl
            exact absurd ⟨h6, by omega⟩ hl)
      · refine ⟨0, [], ?_, fun _ _ => by exfalso; omega, fun h => by exfalso; omega⟩
        rw [addAt, opAdd_other h1 h5 h6]
        exact op_other h1 h5 h6
theorem noLong_succ {h : Hp} {D : Rows'} {n : Nat} (hn : noLong h D n) (hl : opLong (cellI D n 0) (opB h D n) = false) : noLong h D (n + 1) := fun j hj => by
  by_cases e : j = n
  · rw [e]; exact hl
  · exact hn j (by omega)
theorem lawReadBack_ok (hk : knownC.ok Tryd.prog) : lawReadBackC.ok Tryd.prog := lawReadBack_of (by simp [hk, heavy_ok, newWriter_ok, writeOp_ok, bytesJ_ok, newReader_ok, readOp_ok, endD_ok, rest_ok]) fun ρ hg hp => by
  obtain ⟨⟨hl, hl1, hop⟩, hGr, hGd⟩ := hp
  simp only [Nat.reduceAdd] at hl hl1 hop
  simp (config := { maxSteps := 4000000 }) [o_lawReadBack, lawReadBackC, lawReadBackI, lawReadBackJ, lbIn, inV, opV, knownC, heavyC, newWriterC, writeOpC, bytesJC, bytesC, newReaderC, readOpC, endC, restC, rPre, rNow, rM, rdCells, wHeap, wCells, lawTrue, gOk, opsHp, opsS]
  refine ⟨⟨hl, hl1, hop⟩, fun hv _ hhv => ⟨fun _ => ⟨hGr, hGd⟩, fun hvf => ?_⟩⟩
  obtain ⟨h200, hsum, h70⟩ := hhv hvf
  intro _ _ lim0 _ _ _ _ _ hlim0 _ _ _
  refine ⟨⟨⟨h200, hsum, h70⟩, by omega, by omega, ⟨by omega, by omega, rfl, by omega, fun r hr => (by cases hr)⟩, rfl, fun j hj => by exfalso; omega⟩, fun _ _ lm _ f _ _ _ n _ cp _ d _ i _ _ _ _ _ _ i0 i1 hlm hf hw hout hnl => ⟨by omega, fun hlt => ?_, fun hge hcap => ?_⟩⟩
  · obtain ⟨I, hI⟩ : ∃ I : Nat, i.i = I := ⟨i.i.toNat, by omega⟩
    obtain ⟨x, k1, x1, l1, hr, hxB, hox⟩ := op_at hop (j := I) (by omega)
    have h7 := h70 I (by omega)
    rw [hox, bI_len] at h7
    have m1 : arithOf .add .i64 i.i 1 = i.i + 1 := by rw [Go.Proofs.add64 (by omega) (by omega)]
    have hIt : i.i.toNat = I := by omega
    have hIs : (i.i + 1).toNat = I + 1 := by omega
    have hol := outN_len (h := (ρ 5).h) (D := (ρ 3).d) (n := I)
    have hos := opSum_le (h := (ρ 5).h) (D := (ρ 3).d) (n := I) (m := (ρ 3).d.length) (by omega)
    have hdl : d.d.length = (outN (ρ 5).h (ρ 3).d I).length := by rw [← hIt, ← hout, bI_len]
    have hn := hw.2.2.1
    have STEP : ∀ (u u15 u16 u17 : U), opLong (cellI (ρ 3).d I 0) (opB (ρ 5).h (ρ 3).d I) = false → wOk lm.i u15.i u16.i u17.d → (u.b, bI u17.d) = wrote lm.i f.b (bI d.d) (cellI (ρ 3).d i.i 0) (cellI (ρ 3).d i.i 1) (bI x) → (((ρ 1).i ≤ 200 ∧ opSum (ρ 5).h (ρ 3).d (ρ 3).d.length ≤ 200000 ∧ ∀ (j : Nat), j < (ρ 3).d.length → (opB (ρ 5).h (ρ 3).d j).length ≤ 70000) ∧ 0 ≤ arithOf .add .i64 i.i 1 ∧ arithOf .add .i64 i.i 1 ≤ (ρ 1).i ∧ lm.i = 1048576 ∧ u.b = false ∧ wOk lm.i u15.i u16.i u17.d ∧ bI u17.d = outN (ρ 5).h (ρ 3).d (arithOf .add .i64 i.i 1).toNat ∧ noLong (ρ 5).h (ρ 3).d (arithOf .add .i64 i.i 1).toNat) ∧ max ((ρ 1).i - arithOf .add .i64 i.i 1) 0 < (ρ 1).i - i.i := fun u u15 u16 u17 hlo hw2 hwr => by
      rw [hlm, hf, hout, hIt, hI, ← hox, wrote_add rfl (m := (ρ 3).d.length) (by omega) hsum (by omega) hlo] at hwr
      obtain ⟨hu, hb⟩ := Prod.mk.inj hwr
      rw [m1, hIs]
      exact ⟨⟨⟨h200, hsum, h70⟩, by omega, by omega, hlm, hu, hw2, hb, noLong_succ (by rw [← hIt]; exact hnl) hlo⟩, by omega⟩
    rw [← hI] at k1 x1 l1 hr
    have hbx : (opB (ρ 5).h (ρ 3).d I).length = x.length := by rw [hox, bI_len]
    exact ⟨i0, by omega, fun h6 => ⟨x, .inr hr, fun _ => ⟨hGr, hGd⟩, fun hs => ⟨x, .inr hr, fun _ => ⟨⟨hw, k1, x1, by omega, by omega, hxB⟩, fun u _ u15 _ u16 _ u17 _ => STEP u u15 u16 u17 (decide_eq_false fun e => by have := e.2; omega)⟩⟩⟩, fun h6 => ⟨x, .inr hr, fun _ => ⟨⟨hw, k1, x1, by omega, by omega, hxB⟩, fun u _ u15 _ u16 _ u17 _ => STEP u u15 u16 u17 (opLong_no (by rw [← hI]; exact h6))⟩⟩⟩
  have hn := hw.2.2.1
  have hIN : i.i.toNat = (ρ 3).d.length := by omega
  rw [hIN] at hout hnl
  have hol := outN_len (h := (ρ 5).h) (D := (ρ 3).d) (n := (ρ 3).d.length)
  have hdl : d.d.length = (outN (ρ 5).h (ρ 3).d (ρ 3).d.length).length := by rw [← hout, bI_len]
  refine ⟨⟨hw, by omega⟩, fun _ _ bn _ _ _ e _ bd _ hby => ?_⟩
  have hbn : e.i = 0 ∧ bn.i = n.i ∧ bd.d = d.d := by
    rcases hby with ⟨h, _⟩ | ⟨_, h1, h2, h3⟩
    · rw [hf] at h; cases h
    · exact ⟨h1, h2, h3⟩
  obtain ⟨he, hbn, hbd⟩ := hbn
  refine ⟨he, fun _ => ⟨⟨by omega, by rw [hbd]; omega, by omega⟩, fun _ _ _ _ cr _ dr _ hdr _ _ _ => ⟨⟨⟨h200, hsum, h70⟩, by omega, hnl, ?_, ?_⟩, ?_⟩⟩⟩
  · rw [hdr, hbd]
    exact ⟨by omega, fun hc => ⟨by omega, by omega, by omega, by omega, hw.2.2.2.2, by omega⟩⟩
  · rw [hdr, hbd, outN_zero, List.nil_append, segB_all (by omega), hout]
  intro _ _ _ _ o _ l _ c _ e1 _ d1 _ cp _ i _ _ _ _ _ _ i0 i1 _ hin he1 hrest
  refine ⟨fun hlt => ?_, fun hge => ?_⟩
  · obtain ⟨I, hI⟩ : ∃ I : Nat, i.i = I := ⟨i.i.toNat, by omega⟩
    obtain ⟨x, k1, x1, l1, hr, hxB, hox⟩ := op_at hop (j := I) (by omega)
    have h7 := h70 I (by omega)
    rw [hox, bI_len] at h7
    have m1 : arithOf .add .i64 i.i 1 = i.i + 1 := by rw [Go.Proofs.add64 (by omega) (by omega)]
    have hIt : i.i.toNat = I := by omega
    have hIs : (i.i + 1).toNat = I + 1 := by omega
    rw [hIt] at hrest
    obtain ⟨t, ht, hnext⟩ := outN_next (by omega) hrest
    obtain ⟨v, b, hR, hv, hb⟩ := back_all (h := (ρ 5).h) (D := (ρ 3).d) (j := I) (t := t) (n := (x.length : Int)) (by rw [hox, bI_len]) x1.1 (hnl I (by omega))
    rw [← ht, ← hI] at hR
    rw [← hI] at k1 x1 l1 hr hv hb
    refine ⟨i0, by omega, fun _ _ => ⟨x, .inr hr, fun _ _ _ _ => ⟨x, .inr hr, fun _ _ _ _ hc => ⟨⟨⟨hin.2 hc, by omega, by omega⟩, k1, ⟨by omega, by omega⟩⟩, fun rv _ _ _ xl _ _ _ xd _ o3 _ l3 _ c3 _ er _ h39 h41 hBx hx hr1 hs1 he2 _ _ => ?_⟩⟩⟩⟩
    rw [he1, hR] at h39 hx hs1 he2
    simp only at h39 hx hs1 he2
    have hxt : List.take xl.i.toNat xd.d = xd.d := List.take_of_length_le (by omega)
    have LEAF : (((ρ 1).i ≤ 200 ∧ opSum (ρ 5).h (ρ 3).d (ρ 3).d.length ≤ 200000 ∧ ∀ (j : Nat), j < (ρ 3).d.length → (opB (ρ 5).h (ρ 3).d j).length ≤ 70000) ∧ 0 ≤ arithOf .add .i64 i.i 1 ∧ arithOf .add .i64 i.i 1 ≤ (ρ 1).i ∧ noLong (ρ 5).h (ρ 3).d (ρ 3).d.length ∧ rIn o3.i l3.i c3.i cp.i d1.d ∧ er.i = 0 ∧ outN (ρ 5).h (ρ 3).d (arithOf .add .i64 i.i 1).toNat ++ segB d1.d o3.i l3.i = outN (ρ 5).h (ρ 3).d (ρ 3).d.length) ∧ max ((ρ 1).i - arithOf .add .i64 i.i 1) 0 < (ρ 1).i - i.i := by
      rw [m1, hIs, hs1]
      exact ⟨⟨⟨h200, hsum, h70⟩, by omega, by omega, hnl, ⟨hr1.2.1, fun _ => hr1⟩, he2, hnext⟩, by omega⟩
    have STR : cellI (ρ 3).d i.i 0 = 5 ∨ cellI (ρ 3).d i.i 0 = 6 → 0 ≤ xl.i ∧ xl.i ≤ (xd.d.length : Int) ∧ vStr (Value.string { data := (bytesOf (List.take xl.i.toNat xd.d)).toArray }) = vStr (Value.string { data := (bytesOf x).toArray }) := fun h => ⟨by omega, by omega, by rw [bytesOf_bI, bytesOf_bI, hxt, hx, hb h, hox]⟩
    have h14 : ∀ {k : Int}, cellI (ρ 3).d i.i 0 = k → 1 ≤ k → k ≤ 4 → rv.i = cellI (ρ 3).d i.i 1 % 256 ^ (2 ^ (k.toNat - 1)) := fun h h1 h4 => by rw [h39, hv (by omega) (by omega), h]
    have hc : cellI (ρ 3).d i.i 0 = 1 ∨ cellI (ρ 3).d i.i 0 = 2 ∨ cellI (ρ 3).d i.i 0 = 3 ∨ cellI (ρ 3).d i.i 0 = 4 ∨ cellI (ρ 3).d i.i 0 = 5 ∨ cellI (ρ 3).d i.i 0 = 6 ∨ (¬ cellI (ρ 3).d i.i 0 = 1 ∧ ¬ cellI (ρ 3).d i.i 0 = 2 ∧ ¬ cellI (ρ 3).d i.i 0 = 3 ∧ ¬ cellI (ρ 3).d i.i 0 = 4 ∧ ¬ cellI (ρ 3).d i.i 0 = 5 ∧ ¬ cellI (ρ 3).d i.i 0 = 6) := by omega
    rcases hc with h | h | h | h | h | h | ⟨h, h2, h3, h4, h5, h6⟩
    · have := h14 h (by decide) (by decide)
      simp only [h, Int.reduceEq, false_implies, true_implies, not_true_eq_false, not_false_eq_true, true_and, and_true, implies_true]
      exact ⟨by rw [this, and8 x1.1 x1.2]; rfl, fun _ _ _ _ => LEAF⟩
    · have := h14 h (by decide) (by decide)
      simp only [h, Int.reduceEq, false_implies, true_implies, not_true_eq_false, not_false_eq_true, true_and, and_true, implies_true]
      exact ⟨by rw [this, and16 x1.1 x1.2]; rfl, fun _ _ _ _ => LEAF⟩
    · have := h14 h (by decide) (by decide)
      simp only [h, Int.reduceEq, false_implies, true_implies, not_true_eq_false, not_false_eq_true, true_and, and_true, implies_true]
      exact ⟨by rw [this, and32' x1.1 x1.2]; rfl, fun _ _ _ _ => LEAF⟩
    · have := h14 h (by decide) (by decide)
      simp only [h, Int.reduceEq, false_implies, true_implies, not_true_eq_false, not_false_eq_true, true_and, and_true, implies_true]
      exact ⟨by rw [this]; exact Int.emod_eq_of_lt x1.1 x1.2, fun _ _ _ _ => LEAF⟩
    · obtain ⟨s1, s2, s3⟩ := STR (.inl h)
      simp only [h, Int.reduceEq, false_implies, true_implies, not_true_eq_false, not_false_eq_true, true_and, and_true, implies_true]
      exact ⟨s1, s2, x, .inr hr, fun _ _ _ _ => ⟨s3, fun _ _ _ _ => LEAF⟩⟩
    · obtain ⟨s1, s2, s3⟩ := STR (.inr h)
      simp only [h, Int.reduceEq, false_implies, true_implies, not_true_eq_false, not_false_eq_true, true_and, and_true, implies_true]
      exact ⟨s1, s2, x, .inr hr, fun _ _ _ _ => ⟨s3, fun _ _ _ _ => LEAF⟩⟩
    · simp only [h, h2, h3, h4, h5, h6, false_implies, true_implies, not_true_eq_false, not_false_eq_true, true_and, and_true, implies_true]
      exact fun _ _ _ => LEAF
  · intro hc
    have hIN2 : i.i.toNat = (ρ 3).d.length := by omega
    rw [hIN2] at hrest
    have h0 := congrArg List.length (outN_end hrest)
    rw [sg_len (hin.2 hc)] at h0
    have hl0 : l.i = 0 := by have := (hin.2 hc).2.1; simp at h0; omega
    exact ⟨by omega, fun u _ hu => ⟨fun _ => ⟨by omega, fun _ => ⟨hGr, hGd⟩, hl0⟩, by rw [hu, he1, hl0]; rfl⟩⟩
end Go.Proofs

set_option linter.unusedSimpArgs false
set_option linter.unusedVariables false
namespace Go.Eng
open Go Go.ChangeShapes Go.WideShapes Go.ChangeAt Go.RowKit

/-- Of what was there nothing has turned. -/
structure Grew (W w' : World) : Prop where
  os : w'.os = W.os
  out : w'.output = W.output
  blk : ∀ (b : Nat) (o : Obj), W.heap[b]? = some o → w'.heap[b]? = some o

theorem Grew.block {W w' : World} (h : Grew W w') {i : Nat} (hi : i < W.heap.size) : w'.heap[i]? = W.heap[i]? := by
  rw [Array.getElem?_eq_getElem hi]; exact h.blk i _ (Array.getElem?_eq_getElem hi)

theorem Grew.kept {W w' : World} (h : Grew W w') (may : MemPlace → Prop) : W.keptBut w' may := by
  refine ⟨h.os, h.out, fun i hi => ?_⟩
  rw [h.block hi, Array.getElem?_eq_getElem hi]
  cases W.heap[i] <;> simp

theorem Grew.trodAll {H : Type} {enc : TypeId × Value → H} {P : Program} {W W' : World} (hg : Grew W W') (hl : laidOutB P = true) {sp : Nat → Bool} : ∀ {ts : List TypeId} {vs : List Value} {ds : List (DataW H)} {ps : List MemPlace},
    (∀ t ∈ ts, P.readableRec t = true ∧ t < P.types.size) → DataW.TrodAll enc P W 0 (fun _ => true) true ts vs ds ps → (∀ p ∈ ps, p.block < W.heap.size) → (∀ p ∈ ps, sp p.block = true) →
    DataW.TrodAll enc P W' 0 sp true ts vs ds ps
  | [], [], [], _, _, h, _, _ => h
  | _ :: _, _ :: _, _ :: _, _, hT, ⟨p, q, h1, h2, e⟩, hlt, hs => by
    subst e
    refine ⟨p, q, ?_, Grew.trodAll hg hl (fun t ht => hT t (List.mem_cons_of_mem _ ht)) h2 (fun x hx => hlt x (List.mem_append_right _ hx)) (fun x hx => hs x (List.mem_append_right _ hx)), rfl⟩
    have hr := hT _ (List.mem_cons_self ..)
    refine WideElems.Trod_stays hl hr.1 hr.2 h1 (fun x hx => ?_) (fun x hx => hs x (List.mem_append_left _ hx))
    have hb := hg.block (hlt x (List.mem_append_left _ hx))
    cases x with
    | cell b o => exact World.cell?_of_block (w := W) hb
    | map b => exact hb

/-- The call's contract, at the whole memory as its frame. -/
theorem law_calls {P : Program} {c : Ctr} (hok : c.ok P) (hheap : c.heap = []) (halts : ∀ al ∈ c.alts, al.ret = .one (.vbool (.bl true))) {ρ : Env} (hg : ρ.good) (W : World)
    (hro : ∀ x ∈ c.ro, x.roden ρ (fun b => W.heap[b]?)) (hpre : c.pre ρ) :
    Calls P c.fn (c.args.map (SV.den ρ)).toArray W fun e W' => e = .returned (.bool true) ∧ Grew W W' := by
  have h := hok.2 ρ W ⟨fun b => W.heap[b]?, W.os, W.output⟩ Hp.emp hg (Hp.disj_emp _)
    ⟨fun b o hb => by simpa [Hp.union, Hp.emp] using hb, rfl, rfl⟩ (by rw [hheap]; trivial) hro hpre
  refine h.mono fun e w' hq => ?_
  obtain ⟨ai, al, ρ', hal, _, _, rfl, _, hO, _, _, hsub, hwi⟩ := hq
  refine ⟨by rw [halts al (List.mem_of_getElem? hal)]; rfl, ⟨hwi.1, hwi.2, fun b o hb => hsub b o ?_⟩⟩
  simp [Hp.union, hb]

theorem law_post {H : Type} {enc : TypeId × Value → H} {P : Program} {f : Func} {s : ChangeSpec} {W W' : World} {args : Array Value} {ds gs : List (DataW H)} {before : List MemPlace} {bt : TypeId}
    (hl : laidOutB P = true) (hT : ∀ t ∈ f.params.toList, P.readableRec t = true ∧ t < P.types.size) (hvars : s.vars = []) (hrt : f.resultTypes = #[bt]) (hbt : P.underlying bt = some .bool)
    (hfn : ∀ ds' : List (DataW H), ds'.length = f.params.size → s.fn H ds' = { results := [.lit (.bool true)], args := ds' })
    (hW : DataW.Whole enc P f.params.toList s.vars false W args.toList ds gs before) (hg : Grew W W') : s.post enc P f false true false false W args (.bool true) W' := by
  have hlt := hW.lt
  have hW0 := hW
  obtain ⟨p, q, hA, hV, hpq, hz, hn⟩ := hW
  rw [hvars] at hV
  obtain ⟨rfl, rfl⟩ := trodVars_none hV
  have hlen : ds.length = f.params.size := by
    have : ∀ {ts : List TypeId} {vs : List Value} {ds : List (DataW H)} {ps : List MemPlace}, DataW.TrodAll enc P W 0 (fun _ => true) true ts vs ds ps → ds.length = ts.length := by
      intro ts
      induction ts with
      | nil => intro vs ds ps h; cases vs <;> cases ds <;> simp_all [DataW.TrodAll]
      | cons t ts ih =>
        intro vs ds ps h
        cases vs <;> cases ds <;> simp_all [DataW.TrodAll]
        obtain ⟨p, q, _, h2, _⟩ := h
        exact ih h2
    simpa using this hA
  have hlt' : ∀ x ∈ p, x.block < W.heap.size := fun x hx => hlt x (by rw [hpq]; exact List.mem_append_left _ hx)
  refine ⟨ds, [], before, [], p, [], hW0, ?_, ?_, ?_, hg.kept _, fun h => by cases h⟩
  · rw [List.append_nil, hfn ds hlen, hrt]
    exact ⟨[], [], ⟨1, by simp [DataW.trod, hbt, Value.cells]⟩, rfl, rfl⟩
  · rw [List.append_nil, hfn ds hlen]
    exact hg.trodAll hl hT hA hlt' (fun x hx => by simpa using hlt' x hx)
  · rw [List.append_nil, hfn ds hlen, hvars]
    rfl

/-- What is asked of a law's call. -/
theorem law_call {H : Type} {enc : TypeId × Value → H} {P : Program} {f : Func} {s : ChangeSpec} {c : Ctr} {W : World} {args : Array Value} {ds gs : List (DataW H)} {before : List MemPlace} {bt : TypeId} {ρ : Env}
    (hok : c.ok P) (hheap : c.heap = []) (halts : ∀ al ∈ c.alts, al.ret = .one (.vbool (.bl true)))
    (hl : laidOutB P = true) (hT : ∀ t ∈ f.params.toList, P.readableRec t = true ∧ t < P.types.size) (hvars : s.vars = []) (hrt : f.resultTypes = #[bt]) (hbt : P.underlying bt = some .bool)
    (hfn : ∀ ds' : List (DataW H), ds'.length = f.params.size → s.fn H ds' = { results := [.lit (.bool true)], args := ds' })
    (hW : DataW.Whole enc P f.params.toList s.vars false W args.toList ds gs before)
    (hg : ρ.good) (hargs : args = (c.args.map (SV.den ρ)).toArray) (hro : ∀ x ∈ c.ro, x.roden ρ (fun b => W.heap[b]?)) (hpre : c.pre ρ) :
    Calls P c.fn args W fun e W' => ∃ v, e = .returned v ∧ s.post enc P f false true false false W args v W' := by
  rw [hargs]
  refine (law_calls hok hheap halts hg W hro hpre).mono fun e W' ⟨he, hgr⟩ => ⟨_, he, ?_⟩
  rw [← hargs]
  exact law_post hl hT hvars hrt hbt hfn hW hgr
end Go.Eng

set_option linter.unusedSimpArgs false
set_option linter.unusedVariables false
namespace Go.Eng
open Go Go.ChangeShapes Go.WideShapes Go.ChangeAt Go.RowKit

def patFs (P : Program) (f : TypeId → Option (List CK)) : List Field → Nat → Option (List CK)
  | [], _ => some []
  | x :: fs, off =>
    if Nat.beq x.offset off then
      match f x.type with
      | some p => if Nat.beq p.length (P.cellsOf x.type) then (patFs P f fs (off + p.length)).map (p ++ ·) else none
      | none => none
    else none
def patArr (p : List CK) : Nat → List CK
  | 0 => []
  | n + 1 => p ++ patArr p n
/-- The kinds of a type's cells. -/
def patP (P : Program) : Nat → TypeId → Option (List CK)
  | 0, _ => none
  | n + 1, t =>
    match P.underlying t with
    | some (.int k) => some [.int k]
    | some .bool => some [.bool]
    | some .string => some [.any]
    | some (.slice _) => some [.any]
    | some (.pointer _) => some [.any]
    | some (.struct fs) => match patFs P (patP P n) fs.toList 0 with
      | some p => if Nat.beq p.length (P.cellsOf t) then some p else none
      | none => none
    | some (.array m e) => match patP P n e with
      | some p => if Nat.beq p.length (P.cellsOf e) && Nat.beq (P.cellsOf t) (m * P.cellsOf e) then some (patArr p m) else none
      | none => none
    | _ => none

theorem fitsRow_append {p q : List CK} {cs : List Value} (h1 : fitsRow p (cs.take p.length)) (h2 : fitsRow q (cs.drop p.length)) : fitsRow (p ++ q) cs := by
  obtain ⟨a1, a2⟩ := h1
  obtain ⟨b1, b2⟩ := h2
  have hle : p.length ≤ cs.length := by simp at a1; omega
  refine ⟨by simp at a1 b1 ⊢; omega, fun c k v hk hv => ?_⟩
  by_cases hc : c < p.length
  · rw [List.getElem?_append_left hc] at hk
    exact a2 c k v hk (by rw [List.getElem?_take, if_pos hc]; exact hv)
  · rw [List.getElem?_append_right (by omega)] at hk
    exact b2 (c - p.length) k v hk (by rw [List.getElem?_drop, show p.length + (c - p.length) = c by omega]; exact hv)

section
variable {H : Type} {enc : TypeId × Value → H} {P : Program} {w : World} {base : Nat} {spare : Nat → Bool} {held : Bool}

theorem fits_one_any {v : Value} (h : v.oneCell' = true) : fitsRow [.any] [v] := ⟨rfl, fun c k v' hk hv => by
  cases c with
  | zero => simp at hk hv; subst hk; subst hv; exact h
  | succ c => simp at hk⟩

theorem patFs_fits {f : TypeId → Option (List CK)} {cs : List Value} (hf : ∀ t p, f t = some p → ∀ cs', (∃ fuel x, DataW.trod enc P w base spare held fuel t cs' = some x) → fitsRow p cs') :
    ∀ {fs : List Field} {off : Nat} {p : List CK}, patFs P f fs off = some p → (∀ x ∈ fs, ∃ fuel y, DataW.trod enc P w base spare held fuel x.type ((cs.drop x.offset).take (P.cellsOf x.type)) = some y) → off + p.length = cs.length → fitsRow p (cs.drop off)
  | [], off, p, h, _, hl => by
    simp only [patFs, Option.some.injEq] at h; subst h
    simp at hl
    refine ⟨by simp; omega, fun c k v hk => by simp at hk⟩
  | x :: fs, off, p, h, ht, hl => by
    simp only [patFs] at h
    split at h
    · rename_i ho
      have ho := Nat.eq_of_beq_eq_true ho
      split at h
      · rename_i p1 hp1
        split at h
        · rename_i hc
          have hc := Nat.eq_of_beq_eq_true hc
          simp only [Option.map_eq_some_iff] at h
          obtain ⟨p2, hp2, rfl⟩ := h
          simp only [List.length_append] at hl
          have h1 := hf x.type p1 hp1 _ (ht x (List.mem_cons_self ..))
          rw [ho, ← hc] at h1
          have h2 := patFs_fits hf hp2 (fun y hy => ht y (List.mem_cons_of_mem _ hy)) (by omega)
          exact fitsRow_append h1 (by rw [List.drop_drop]; exact h2)
        · simp at h
      · simp at h
    · simp at h

theorem patArr_fits {p : List CK} : ∀ {m : Nat} {cs : List Value}, cs.length = m * p.length → (∀ i, i < m → fitsRow p ((cs.drop (i * p.length)).take p.length)) → fitsRow (patArr p m) cs
  | 0, cs, hl, _ => by
    simp at hl; subst hl
    exact ⟨rfl, fun c k v hk => by simp [patArr] at hk⟩
  | m + 1, cs, hl, h => by
    simp only [patArr]
    refine fitsRow_append (by simpa using h 0 (by omega)) (patArr_fits (by rw [List.length_drop, hl, Nat.add_mul]; omega) fun i hi => ?_)
    rw [List.drop_drop, show p.length + i * p.length = (i + 1) * p.length by rw [Nat.add_mul]; omega]
    exact h (i + 1) (by omega)

theorem trod_fits : ∀ (n : Nat) {t : TypeId} {pat : List CK}, patP P n t = some pat → ∀ cs, (∃ fuel x, DataW.trod enc P w base spare held fuel t cs = some x) → fitsRow pat cs
  | 0, t, pat, h, _, _ => by simp [patP] at h
  | n + 1, t, pat, h, cs, ⟨fuel, x, hx⟩ => by
    simp only [patP] at h
    split at h
    · rename_i k hu
      simp only [Option.some.injEq] at h; subst h
      obtain ⟨z, rfl, _, _⟩ := DataW.trod_int hu hx
      refine ⟨rfl, fun c k' v hk hv => ?_⟩
      cases c with
      | zero => simp at hk hv; subst hk; subst hv; simp [CK.fits]
      | succ c => simp at hk
    · rename_i hu
      simp only [Option.some.injEq] at h; subst h
      cases fuel with
      | zero => simp [DataW.trod] at hx
      | succ m =>
        unfold DataW.trod at hx
        rw [hu] at hx
        split at hx <;> simp_all
        refine ⟨rfl, fun c k' v hk hv => ?_⟩
        cases c with
        | zero => simp at hk hv; subst hk; subst hv; simp [CK.fits]
        | succ c => simp at hk
    · rename_i hu
      simp only [Option.some.injEq] at h; subst h
      cases fuel with
      | zero => simp [DataW.trod] at hx
      | succ m =>
        unfold DataW.trod at hx
        rw [hu] at hx
        split at hx <;> simp_all
        exact fits_one_any rfl
    · rename_i e hu
      simp only [Option.some.injEq] at h; subst h
      rcases DataW.trod_slice hu hx with ⟨rfl, _⟩ | ⟨a, len, cap, elems, rest, m, _, rfl, _⟩
      · exact fits_one_any rfl
      · exact fits_one_any rfl
    · rename_i e hu
      simp only [Option.some.injEq] at h; subst h
      cases fuel with
      | zero => simp [DataW.trod] at hx
      | succ m =>
        unfold DataW.trod at hx
        rw [hu] at hx
        split at hx <;> simp_all
        all_goals exact fits_one_any rfl
    · rename_i fs hu
      split at h
      · rename_i p hp
        split at h
        · rename_i hc
          have hc := Nat.eq_of_beq_eq_true hc
          simp only [Option.some.injEq] at h; subst h
          obtain ⟨xs, m, _, _, hl, hxl, hall⟩ := DataW.trod_struct hu hx
          have := patFs_fits (cs := cs) (f := patP P n) (fun t p hp cs' hh => trod_fits n hp cs' hh) hp (fun y hy => by
            obtain ⟨i, hi⟩ := List.getElem?_of_mem hy
            have hi' : fs[i]? = some y := by simpa using hi
            have h1 := hall i y hi'
            have hlt : i < xs.length := by
              rw [hxl]; exact (Array.getElem?_eq_some_iff.1 hi').1
            exact ⟨m, xs[i], by rw [h1]; simp [hlt]⟩) (by omega)
          simpa using this
        · simp at h
      · simp at h
    · rename_i m e hu
      split at h
      · rename_i p hp
        split at h
        · rename_i hc
          simp only [Bool.and_eq_true] at hc
          have hc1 := Nat.eq_of_beq_eq_true hc.1
          have hc2 := Nat.eq_of_beq_eq_true hc.2
          simp only [Option.some.injEq] at h; subst h
          obtain ⟨xs, k, _, _, hl, hxl, hall⟩ := DataW.trod_array hu hx
          refine patArr_fits (by rw [hl, hc2, hc1]) fun i hi => ?_
          have h1 := hall i hi
          rw [← hc1] at h1
          exact trod_fits n hp _ ⟨k, xs[i]'(by omega), by rw [h1]; simp [hxl, hi]⟩
        · simp at h
      · simp at h
    · simp at h

theorem cells?_get {a : Addr} {n : Nat} {cs : List Value} (h : w.cells? base a n = some cs) : cs.length = n ∧ ∀ i, i < n → w.cell? (a.add i) = cs[i]? := by
  unfold World.cells? at h
  split at h
  · exact ⟨by simpa using mapM_some_length h, fun i hi => by simpa using mapM_some_get h i i (by simp [hi])⟩
  · simp at h

/-- A slice that reads as data: its rows in memory, each of which reads; what it is read as. -/
theorem open_rows {t e : TypeId} {pat : List CK} {n : Nat} {v : Value} {d : DataW H} {ps : List MemPlace} (ht : P.underlying t = some (.slice e)) (hpat : patP P n e = some pat) (hce : P.cellsOf e = pat.length) (hpos : 0 < pat.length)
    {fuel : Nat} (hsp : ∀ b, spare b = true) (hf : DataW.trod enc P w base spare held fuel t [v] = some (d, ps)) :
    ∃ rows : List (List Value), Rd (fun b => w.heap[b]?) pat v rows ∧ (∀ row ∈ rows, ∃ fuel x, DataW.trod enc P w base spare held fuel e row = some x) ∧
      ((d = .nil ∧ rows = []) ∨ ∃ elems sp, d = .slice elems sp ∧ elems.length = rows.length ∧ ∀ (i : Nat) (row : List Value), rows[i]? = some row → ∃ fuel x, DataW.trod enc P w base spare held fuel e row = some x ∧ elems[i]? = some x.1) := by
  rcases DataW.trod_slice ht hf with ⟨h1, h2⟩ | ⟨a, len, cap, elems, rest, m, _, h1, h2, hb, hlc, hcm, hel, hall, hrest, _⟩
  · simp at h1 h2
    exact ⟨[], .inl ⟨_, h1, rfl⟩, by simp, .inl ⟨h2.1, rfl⟩⟩
  · simp at h1 h2
    subst h1
    have hrow : ∀ i, i < len → ∃ cs x, w.cells? base (a.add (i * P.cellsOf e)) (P.cellsOf e) = some cs ∧ DataW.trod enc P w base spare held m e cs = some x ∧ elems[i]? = some x := fun i hi => by
      have := hall i hi
      rw [List.getElem?_eq_getElem (by omega)] at this
      obtain ⟨cs, g1, g2⟩ := Option.bind_eq_some_iff.1 this
      exact ⟨cs, _, g1, g2, List.getElem?_eq_getElem _⟩
    let rows : List (List Value) := (List.range len).map fun i => ((w.cells? base (a.add (i * P.cellsOf e)) (P.cellsOf e)).getD [])
    have hget : ∀ i row, rows[i]? = some row → i < len ∧ w.cells? base (a.add (i * P.cellsOf e)) (P.cellsOf e) = some row := fun i row hr => by
      simp only [rows, List.getElem?_map, Option.map_eq_some_iff] at hr
      obtain ⟨j, hj, rfl⟩ := hr
      have hlt : i < len := by
        have := (List.getElem?_eq_some_iff.1 hj).1; simpa using this
      rw [List.getElem?_range hlt] at hj
      simp only [Option.some.injEq] at hj; subst hj
      obtain ⟨cs, x, g1, _, _⟩ := hrow i hlt
      exact ⟨hlt, by rw [g1]; rfl⟩
    have hrl : rows.length = len := by simp [rows]
    have htr : ∀ row ∈ rows, ∃ fuel x, DataW.trod enc P w base spare held fuel e row = some x := fun row hr => by
      obtain ⟨i, hi⟩ := List.getElem?_of_mem hr
      obtain ⟨hlt, hc⟩ := hget i row hi
      obtain ⟨cs, x, g1, g2, _⟩ := hrow i hlt
      rw [hc] at g1
      simp only [Option.some.injEq] at g1; subst g1
      exact ⟨m, x, g2⟩
    refine ⟨rows, ?_, htr, .inr ⟨_, _, h2.1, by simp [hel, hrl], fun i row hi => ?_⟩⟩
    rotate_left
    · obtain ⟨hlt, hc⟩ := hget i row hi
      obtain ⟨cs, x, g1, g2, g3⟩ := hrow i hlt
      rw [hc] at g1
      simp only [Option.some.injEq] at g1; subst g1
      exact ⟨m, x, g2, by simp [g3]⟩
    by_cases hcap : cap = 0
    · have hl0 : len = 0 := by omega
      have : rows = [] := by apply List.eq_nil_of_length_eq_zero; omega
      exact .inl ⟨some a, by rw [hl0, hcap], this⟩
    have hfirst : ∃ cs, w.cells? base (a.add 0) (P.cellsOf e) = some cs := by
      by_cases hl : 0 < len
      · obtain ⟨cs, _, g1, _, _⟩ := hrow 0 hl
        rw [Nat.zero_mul] at g1
        exact ⟨cs, g1⟩
      · obtain ⟨r1, r2⟩ := hrest (hsp _)
        have := r2 0 (by omega)
        rw [show (len + 0) * P.cellsOf e = 0 by rw [show len + 0 = 0 by omega]; simp, List.getElem?_eq_getElem (by omega)] at this
        obtain ⟨cs, g1, _⟩ := Option.bind_eq_some_iff.1 this
        exact ⟨cs, g1⟩
    obtain ⟨cs0, hc0⟩ := hfirst
    obtain ⟨hl0, hg0⟩ := cells?_get hc0
    have h00 := hg0 0 (by omega)
    rw [show (a.add 0).add 0 = a from rfl, List.getElem?_eq_getElem (by omega)] at h00
    obtain ⟨ab, ao, asp⟩ := a
    have hblk0 := h00
    unfold World.cell? at hblk0
    split at hblk0
    · rename_i c ty fr hblk
      simp only at hblk
      have hsp0 : asp = none := by
        cases asp with
        | none => rfl
        | some s => simp at hblk0
      subst hsp0
      refine .inr ⟨ab, ao, cap, c, ty, fr, by rw [hrl], by omega, hblk, fun i row hi => ?_⟩
      obtain ⟨hlt, hc⟩ := hget i row hi
      refine ⟨trod_fits n hpat row (htr row (List.mem_of_getElem? hi)), fun k x hk => ?_⟩
      obtain ⟨hl1, hg⟩ := cells?_get hc
      have hkl : k < P.cellsOf e := by
        rw [← hl1]; exact (List.getElem?_eq_some_iff.1 hk).1
      have := hg k hkl
      rw [hk, hce] at this
      rw [Go.Eng.addr_add, Go.Eng.addr_add, cell_of_heap hblk] at this
      exact this
    · simp at hblk0
end

/-- What the form says of a slice argument: it lies at a block that is there. -/
theorem okWide_slice {P : Program} {w : World} {r : Go.Reach} {b : Nat} {t e : TypeId} {v : Value} (ht : P.underlying t = some (.slice e)) (h : Value.okWide P w r b t v) :
    v.cells = #[v] ∧ ∀ a len cap, v = .slice (some a) len cap → a.spot = none ∧ (w.shape? a.block).isSome = true := by
  simp only [Value.okWide, ht, Cell.okWide, Cell.ok] at h
  cases v <;> simp_all [Value.cells]
  rename_i a len cap
  intro a' ha
  subst ha
  obtain ⟨_, _, _, h1, row, cells, h2, _⟩ := h
  exact ⟨h1, by rw [h2]; rfl⟩
end Go.Eng
