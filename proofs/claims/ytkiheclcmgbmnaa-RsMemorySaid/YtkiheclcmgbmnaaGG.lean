import Derived.Test.YtkiheclcmgbmnaaYM
import Derived.Test.YtkiheclcmgbmnaaProg
import Derived.Test.YtkiheclcmgbmnaaGJ
set_option linter.unusedSimpArgs false
set_option linter.unusedVariables false
set_option maxRecDepth 100000
namespace Go.Proofs
open Go Go.Eng

def o_rank57 : Out := (.fresh 9 (.br (.and (.cmp .eql (.dlen (.var 1)) (.lit (0))) (.isnil 0))
 (.stuck 7 0 0)
 (.pre 0 ⟨0, [(6, (.t (.var 8))), (5, (.t (.var 7))), (4, (.t (.var 6))), (3, (.t (.var 5))), (2, (.r 4)), (1, (.t (.var 3))), (0, (.t (.var 2)))], [((.lit (0)), (.lit (0)))], [], []⟩ (.both (.fresh 10 (.post 0 0 ⟨0, [(6, (.t (.var 8))), (5, (.t (.var 7))), (4, (.t (.var 6))), (3, (.t (.var 5))), (2, (.r 4)), (1, (.t (.var 3))), (0, (.t (.var 2)))], [((.lit (0)), (.lit (0)))], [], []⟩ 10 (.br (.not (.var 10))
 (.ret 0 ⟨9, [(9, (.t (.var 1)))], [((.lit (1)), (.lit (1))), ((.lit (2)), (.lit (2))), ((.lit (0)), (.lit (0)))], [], []⟩)
 (.both (.pre 2 ⟨0, [(6, (.t (.var 8))), (5, (.t (.var 7))), (4, (.t (.var 6))), (3, (.t (.var 5))), (2, (.r 4)), (1, (.t (.var 3))), (0, (.t (.var 2)))], [((.lit (0)), (.lit (0)))], [], []⟩ (.both (.fresh 11 (.fresh 12 (.fresh 13 (.post 2 0 ⟨0, [(6, (.t (.var 8))), (5, (.t (.var 7))), (4, (.t (.var 6))), (3, (.t (.var 5))), (2, (.r 4)), (1, (.t (.var 3))), (0, (.t (.var 2)))], [((.lit (0)), (.lit (0)))], [], []⟩ 11 (.both (.pre 1 ⟨0, [(1, (.t (.lit (0)))), (0, (.t (.var 2)))], [], [], []⟩ (.both (.fresh 14 (.fresh 15 (.fresh 16 (.fresh 17 (.post 1 0 ⟨0, [(1, (.t (.lit (0)))), (0, (.t (.var 2)))], [], [], []⟩ 14 (.both (.pre 3 ⟨0, [(15, (.t (.var 16))), (14, (.t (.var 17))), (8, (.t (.var 12))), (7, (.t (.var 13))), (1, (.t (.var 1))), (13, (.t (.var 16))), (12, (.t (.var 15))), (11, (.r 14)), (10, (.t (.lit (0)))), (9, (.t (.var 2))), (6, (.t (.var 12))), (5, (.t (.var 5))), (4, (.r 11)), (3, (.t (.var 3))), (2, (.t (.var 2))), (0, (.r 0))], [((.lit (1)), (.lit (1))), ((.lit (0)), (.lit (0))), ((.lit (0)), (.lit (0))), ((.lit (0)), (.lit (0)))], [], []⟩ (.both (.fresh 18 (.fresh 19 (.fresh 20 (.fresh 21 (.post 3 0 ⟨0, [(15, (.t (.var 16))), (14, (.t (.var 17))), (8, (.t (.var 12))), (7, (.t (.var 13))), (1, (.t (.var 1))), (13, (.t (.var 16))), (12, (.t (.var 15))), (11, (.r 14)), (10, (.t (.lit (0)))), (9, (.t (.var 2))), (6, (.t (.var 12))), (5, (.t (.var 5))), (4, (.r 11)), (3, (.t (.var 3))), (2, (.t (.var 2))), (0, (.r 0))], [((.lit (1)), (.lit (1))), ((.lit (0)), (.lit (0))), ((.lit (0)), (.lit (0))), ((.lit (0)), (.lit (0)))], [], []⟩ 18 (.ret 1 ⟨9, [(10, (.t (.var 19))), (9, (.t (.var 18)))], [((.lit (1)), (.lit (1))), ((.lit (0)), (.lit (0)))], [], []⟩)))))) .top)) .top)))))) .top)) .top))))) .top)) .top)))) .top))))
theorem o_rank57_eq : treeOf ⟨Try.prog, rank57C, [valid36C, zero82C, cloneKC, elim83C], []⟩ 100000 Try.f57 = o_rank57 := by kernel_rfl
theorem rank57_of (hd : ∀ c ∈ ([valid36C, zero82C, cloneKC, elim83C] : List Ctr), c.ok Try.prog) (h : ∀ ρ : Env, ρ.good → (rank57C).pre ρ → o_rank57.den ⟨Try.prog, rank57C, [valid36C, zero82C, cloneKC, elim83C], []⟩ ρ) : (rank57C).ok Try.prog :=
  ok_of_tree Try.func57 (fun a w => Try.call57 a w) hd 100000 (fun ρ hg hp => by rw [o_rank57_eq]; exact h ρ hg hp)
def o_invM : Out := (.fresh 9 (.fresh 10 (.br (.and (.cmp .eql (.dlen (.var 1)) (.lit (0))) (.isnil 0))
 (.ret 0 ⟨9, [(16, (.t .dnil)), (15, (.t (.var 1))), (14, (.t (.lit (1)))), (13, (.t (.lit (0)))), (12, (.t (.lit (0)))), (11, .nil), (10, (.t (.lit (0)))), (9, (.t (.lit (0))))], [((.var 13), (.lit (0))), ((.lit (1)), (.lit (1))), ((.lit (0)), (.lit (0)))], [], []⟩)
 (.pre 0 ⟨0, [(6, (.t (.var 8))), (5, (.t (.var 7))), (4, (.t (.var 6))), (3, (.t (.var 5))), (2, (.r 4)), (1, (.t (.var 3))), (0, (.t (.var 2)))], [((.lit (0)), (.lit (0)))], [], []⟩ (.both (.fresh 11 (.post 0 0 ⟨0, [(6, (.t (.var 8))), (5, (.t (.var 7))), (4, (.t (.var 6))), (3, (.t (.var 5))), (2, (.r 4)), (1, (.t (.var 3))), (0, (.t (.var 2)))], [((.lit (0)), (.lit (0)))], [], []⟩ 11 (.br (.not (.var 11))
 (.ret 0 ⟨9, [(16, (.t .dnil)), (15, (.t (.var 1))), (14, (.t (.lit (2)))), (13, (.t (.lit (0)))), (12, (.t (.lit (0)))), (11, .nil), (10, (.t (.lit (0)))), (9, (.t (.lit (0))))], [((.var 13), (.lit (0))), ((.lit (1)), (.lit (1))), ((.lit (0)), (.lit (0)))], [], []⟩)
 (.br (.cmp .neq (.var 2) (.var 3))
 (.ret 0 ⟨9, [(16, (.t .dnil)), (15, (.t (.var 1))), (14, (.t (.lit (10)))), (13, (.t (.lit (0)))), (12, (.t (.lit (0)))), (11, .nil), (10, (.t (.lit (0)))), (9, (.t (.lit (0))))], [((.var 13), (.lit (0))), ((.lit (1)), (.lit (1))), ((.lit (0)), (.lit (0)))], [], []⟩)
 (.pre 1 ⟨0, [(0, (.t (.var 2)))], [], [], []⟩ (.both (.fresh 12 (.fresh 13 (.fresh 14 (.fresh 15 (.post 1 0 ⟨0, [(0, (.t (.var 2)))], [], [], []⟩ 12 (.fresh 16 (.both (.pre 2 ⟨0, [(6, (.t (.var 8))), (5, (.t (.var 7))), (4, (.t (.var 6))), (3, (.t (.var 5))), (2, (.r 4)), (1, (.t (.var 3))), (0, (.t (.var 2)))], [((.lit (0)), (.lit (0)))], [], []⟩ (.both (.fresh 17 (.fresh 18 (.fresh 19 (.post 2 0 ⟨0, [(6, (.t (.var 8))), (5, (.t (.var 7))), (4, (.t (.var 6))), (3, (.t (.var 5))), (2, (.r 4)), (1, (.t (.var 3))), (0, (.t (.var 2)))], [((.lit (0)), (.lit (0)))], [], []⟩ 17 (.both (.pre 3 ⟨0, [(15, (.t (.var 14))), (14, (.t (.var 15))), (8, (.t (.var 18))), (7, (.t (.var 19))), (1, (.t (.var 1))), (13, (.t (.var 14))), (12, (.t (.var 13))), (11, (.r 12)), (10, (.t (.var 2))), (9, (.t (.var 2))), (6, (.t (.var 18))), (5, (.t (.var 5))), (4, (.r 17)), (3, (.t (.var 3))), (2, (.t (.var 2))), (0, (.r 0))], [((.lit (1)), (.lit (1))), ((.lit (0)), (.lit (0))), ((.lit (0)), (.lit (0))), ((.lit (0)), (.lit (0)))], [], []⟩ (.both (.fresh 20 (.fresh 21 (.fresh 22 (.fresh 23 (.post 3 0 ⟨0, [(15, (.t (.var 14))), (14, (.t (.var 15))), (8, (.t (.var 18))), (7, (.t (.var 19))), (1, (.t (.var 1))), (13, (.t (.var 14))), (12, (.t (.var 13))), (11, (.r 12)), (10, (.t (.var 2))), (9, (.t (.var 2))), (6, (.t (.var 18))), (5, (.t (.var 5))), (4, (.r 17)), (3, (.t (.var 3))), (2, (.t (.var 2))), (0, (.r 0))], [((.lit (1)), (.lit (1))), ((.lit (0)), (.lit (0))), ((.lit (0)), (.lit (0))), ((.lit (0)), (.lit (0)))], [], []⟩ 20 (.br (.cmp .lss (.var 20) (.var 2))
 (.ret 0 ⟨9, [(16, (.t .dnil)), (15, (.t (.var 21))), (14, (.t (.lit (11)))), (13, (.t (.lit (0)))), (12, (.t (.lit (0)))), (11, .nil), (10, (.t (.lit (0)))), (9, (.t (.lit (0))))], [((.var 13), (.lit (0))), ((.lit (1)), (.lit (1))), ((.lit (0)), (.lit (0)))], [], []⟩)
 (.ret 0 ⟨9, [(16, (.t (.var 23))), (15, (.t (.var 21))), (14, (.t (.lit (0)))), (13, (.t (.var 14))), (12, (.t (.var 13))), (11, (.r 12)), (10, (.t (.var 2))), (9, (.t (.var 2)))], [((.var 13), (.var 14)), ((.lit (1)), (.lit (1))), ((.lit (0)), (.lit (0)))], [], []⟩))))))) .top)) .top))))) .top)) .top))))))) .top)))))) .top)))))
theorem o_invM_eq : treeOf ⟨Try.prog, invMC, [valid36C, identGC, cloneKC, elim83C], []⟩ 100000 Try.f55 = o_invM := by kernel_rfl
theorem invM_of (hd : ∀ c ∈ ([valid36C, identGC, cloneKC, elim83C] : List Ctr), c.ok Try.prog) (h : ∀ ρ : Env, ρ.good → (invMC).pre ρ → o_invM.den ⟨Try.prog, invMC, [valid36C, identGC, cloneKC, elim83C], []⟩ ρ) : (invMC).ok Try.prog :=
  ok_of_tree Try.func55 (fun a w => Try.call55 a w) hd 100000 (fun ρ hg hp => by rw [o_invM_eq]; exact h ρ hg hp)
def o_choose64 : Out := (.fresh 7 (.inv 0 8 ⟨1000, [(1004, (.t .dnil)), (1003, (.t (.lit (0)))), (1002, (.t (.lit (0)))), (1001, (.t (.lit (0)))), (1000, (.r 7))], [((.var 1002), (.lit (0))), ((.lit (0)), (.lit (0))), ((.var 4), (.var 4)), ((.var 3), (.var 3)), ((.lit (0)), (.lit (0))), ((.var 1), (.var 1)), ((.var 0), (.var 0))], [], []⟩ (.fresh 8 (.fresh 9 (.fresh 10 (.fresh 11 (.fresh 12 (.hyp 0 8 (.br (.cmp .lss (.var 11) (.var 1))
 (.fresh 13 (.need (.cmp .eql (.var 9) (.dlen (.var 12))) (.need (.cmp .leq (.tims (.lit (8)) (.plus (.var 9) (.lit (1)))) (.lit (140737488355328))) (.fresh 14 (.fresh 15 (.back 0 8 ⟨1000, [(1004, (.t (.dapp (.var 12) (.rcons (.vint .i64 (.var 11)) .rnil)))), (1003, (.t (.arith .add .i64 (.var 11) (.lit (1))))), (1002, (.t (.var 15))), (1001, (.t (.plus (.var 9) (.lit (1))))), (1000, (.r 14))], [((.var 1002), (.var 15)), ((.lit (0)), (.lit (0))), ((.var 4), (.var 4)), ((.var 3), (.var 3)), ((.lit (0)), (.lit (0))), ((.var 1), (.var 1)), ((.var 0), (.var 0))], [], []⟩))))))
 (.fresh 13 (.inv 1 14 ⟨1000, [(1007, (.t (.var 12))), (1003, (.t .dnil)), (1008, (.t (.lit (0)))), (1006, (.t (.var 10))), (1005, (.t (.var 9))), (1004, (.r 8)), (1002, (.t (.lit (0)))), (1001, (.t (.lit (0)))), (1000, (.r 13))], [((.var 1006), (.var 10)), ((.var 1002), (.lit (0))), ((.lit (0)), (.lit (0))), ((.lit (0)), (.lit (0))), ((.var 4), (.var 4)), ((.var 3), (.var 3)), ((.lit (0)), (.lit (0))), ((.var 0), (.var 0))], [], []⟩ (.fresh 14 (.fresh 15 (.fresh 16 (.fresh 17 (.fresh 18 (.fresh 19 (.fresh 20 (.fresh 21 (.fresh 22 (.hyp 1 14 (.br (.cmp .lss (.var 22) (.var 0))
 (.need (.cmp .leq (.lit (0)) (.var 3)) (.br (.cmp .lss (.var 22) (.var 3))
 (.need (.cmp .leq (.lit (0)) (.var 22)) (.need (.cmp .lss (.var 22) (.dlen (.var 5))) (.need (.cmp .leq (.lit (0)) (.var 19)) (.need (.cmp .neq (.var 19) (.lit (0))) (.br (.cmp .lss (.arith .rem .i64 (.icell (.var 5) (.var 22) 0) (.var 19)) (.lit (0)))
 (.need (.cmp .leq (.lit (0)) (.arith .add .i64 (.arith .rem .i64 (.icell (.var 5) (.var 22) 0) (.var 19)) (.var 19))) (.need (.cmp .lss (.arith .add .i64 (.arith .rem .i64 (.icell (.var 5) (.var 22) 0) (.var 19)) (.var 19)) (.var 19)) (.need (.cmp .lss (.arith .add .i64 (.arith .rem .i64 (.icell (.var 5) (.var 22) 0) (.var 19)) (.var 19)) (.dlen (.var 21))) (.fresh 23 (.need (.cmp .eql (.var 15) (.dlen (.var 17))) (.need (.cmp .leq (.tims (.lit (8)) (.plus (.var 15) (.lit (1)))) (.lit (140737488355328))) (.fresh 24 (.fresh 25 (.know (.cmp .leq (.dlen (.var 21)) (.var 20)) (.need (.cmp .leq (.lit (0)) (.var 20)) (.need (.cmp .leq (.arith .add .i64 (.arith .rem .i64 (.icell (.var 5) (.var 22) 0) (.var 19)) (.var 19)) (.var 20)) (.need (.cmp .leq (.lit (0)) (.arith .add .i64 (.arith .add .i64 (.arith .rem .i64 (.icell (.var 5) (.var 22) 0) (.var 19)) (.var 19)) (.lit (1)))) (.need (.cmp .leq (.arith .add .i64 (.arith .add .i64 (.arith .rem .i64 (.icell (.var 5) (.var 22) 0) (.var 19)) (.var 19)) (.lit (1))) (.var 19)) (.need (.cmp .leq (.var 19) (.var 20)) (.both (.fresh 26 (.both (.need (.cmp .leq (.arith .add .i64 (.arith .rem .i64 (.icell (.var 5) (.var 22) 0) (.var 19)) (.var 19)) (.dlen (.var 21))) (.need (.cmp .leq (.tims (.lit (8)) (.arith .add .i64 (.arith .rem .i64 (.icell (.var 5) (.var 22) 0) (.var 19)) (.var 19))) (.lit (140737488355328))) (.fresh 27 (.fresh 28 (.both (.need (.cmp .eql (.arith .add .i64 (.arith .rem .i64 (.icell (.var 5) (.var 22) 0) (.var 19)) (.var 19)) (.dlen (.dtake (.var 21) (.arith .add .i64 (.arith .rem .i64 (.icell (.var 5) (.var 22) 0) (.var 19)) (.var 19))))) (.need (.cmp .leq (.lit (0)) (.ife (.var 20) (.arith .add .i64 (.arith .add .i64 (.arith .rem .i64 (.icell (.var 5) (.var 22) 0) (.var 19)) (.var 19)) (.lit (1))) (.lit (0)) (.arith .add .i64 (.arith .add .i64 (.arith .rem .i64 (.icell (.var 5) (.var 22) 0) (.var 19)) (.var 19)) (.lit (1))))) (.need (.cmp .leq (.lit (0)) (.minus (.var 19) (.arith .add .i64 (.arith .add .i64 (.arith .rem .i64 (.icell (.var 5) (.var 22) 0) (.var 19)) (.var 19)) (.lit (1))))) (.need (.cmp .leq (.plus (.ife (.var 20) (.arith .add .i64 (.arith .add .i64 (.arith .rem .i64 (.icell (.var 5) (.var 22) 0) (.var 19)) (.var 19)) (.lit (1))) (.lit (0)) (.arith .add .i64 (.arith .add .i64 (.arith .rem .i64 (.icell (.var 5) (.var 22) 0) (.var 19)) (.var 19)) (.lit (1)))) (.minus (.var 19) (.arith .add .i64 (.arith .add .i64 (.arith .rem .i64 (.icell (.var 5) (.var 22) 0) (.var 19)) (.var 19)) (.lit (1))))) (.dlen (.var 21))) (.need (.cmp .leq (.tims (.lit (8)) (.plus (.arith .add .i64 (.arith .rem .i64 (.icell (.var 5) (.var 22) 0) (.var 19)) (.var 19)) (.minus (.var 19) (.arith .add .i64 (.arith .add .i64 (.arith .rem .i64 (.icell (.var 5) (.var 22) 0) (.var 19)) (.var 19)) (.lit (1)))))) (.lit (140737488355328))) (.fresh 29 (.fresh 30 (.both (.back 1 14 ⟨1000, [(1007, (.t (.dapp (.dtake (.var 21) (.arith .add .i64 (.arith .rem .i64 (.icell (.var 5) (.var 22) 0) (.var 19)) (.var 19))) (.dtake (.ddrop (.var 21) (.ife (.var 20) (.arith .add .i64 (.arith .add .i64 (.arith .rem .i64 (.icell (.var 5) (.var 22) 0) (.var 19)) (.var 19)) (.lit (1))) (.lit (0)) (.arith .add .i64 (.arith .add .i64 (.arith .rem .i64 (.icell (.var 5) (.var 22) 0) (.var 19)) (.var 19)) (.lit (1))))) (.minus (.var 19) (.arith .add .i64 (.arith .add .i64 (.arith .rem .i64 (.icell (.var 5) (.var 22) 0) (.var 19)) (.var 19)) (.lit (1)))))))), (1003, (.t (.dapp (.var 17) (.rcons (.vint .i64 (.icell (.var 21) (.arith .add .i64 (.arith .rem .i64 (.icell (.var 5) (.var 22) 0) (.var 19)) (.var 19)) 0)) .rnil)))), (1008, (.t (.arith .add .i64 (.var 22) (.lit (1))))), (1006, (.t (.var 30))), (1005, (.t (.plus (.arith .add .i64 (.arith .rem .i64 (.icell (.var 5) (.var 22) 0) (.var 19)) (.var 19)) (.minus (.var 19) (.arith .add .i64 (.arith .add .i64 (.arith .rem .i64 (.icell (.var 5) (.var 22) 0) (.var 19)) (.var 19)) (.lit (1))))))), (1004, (.r 29)), (1002, (.t (.var 25))), (1001, (.t (.plus (.var 15) (.lit (1))))), (1000, (.r 24))], [((.var 1006), (.var 30)), ((.var 1002), (.var 25)), ((.lit (0)), (.lit (0))), ((.lit (0)), (.lit (0))), ((.var 4), (.var 4)), ((.var 3), (.var 3)), ((.lit (0)), (.lit (0))), ((.var 0), (.var 0))], [], []⟩) .top)))))))) .top))))) .top)) .top)))))))))))))))
 (.need (.cmp .leq (.lit (0)) (.arith .rem .i64 (.icell (.var 5) (.var 22) 0) (.var 19))) (.need (.cmp .lss (.arith .rem .i64 (.icell (.var 5) (.var 22) 0) (.var 19)) (.var 19)) (.need (.cmp .lss (.arith .rem .i64 (.icell (.var 5) (.var 22) 0) (.var 19)) (.dlen (.var 21))) (.fresh 23 (.need (.cmp .eql (.var 15) (.dlen (.var 17))) (.need (.cmp .leq (.tims (.lit (8)) (.plus (.var 15) (.lit (1)))) (.lit (140737488355328))) (.fresh 24 (.fresh 25 (.know (.cmp .leq (.dlen (.var 21)) (.var 20)) (.need (.cmp .leq (.lit (0)) (.var 20)) (.need (.cmp .leq (.arith .rem .i64 (.icell (.var 5) (.var 22) 0) (.var 19)) (.var 20)) (.need (.cmp .leq (.lit (0)) (.arith .add .i64 (.arith .rem .i64 (.icell (.var 5) (.var 22) 0) (.var 19)) (.lit (1)))) (.need (.cmp .leq (.arith .add .i64 (.arith .rem .i64 (.icell (.var 5) (.var 22) 0) (.var 19)) (.lit (1))) (.var 19)) (.need (.cmp .leq (.var 19) (.var 20)) (.both (.fresh 26 (.both (.need (.cmp .leq (.arith .rem .i64 (.icell (.var 5) (.var 22) 0) (.var 19)) (.dlen (.var 21))) (.need (.cmp .leq (.tims (.lit (8)) (.arith .rem .i64 (.icell (.var 5) (.var 22) 0) (.var 19))) (.lit (140737488355328))) (.fresh 27 (.fresh 28 (.both (.need (.cmp .eql (.arith .rem .i64 (.icell (.var 5) (.var 22) 0) (.var 19)) (.dlen (.dtake (.var 21) (.arith .rem .i64 (.icell (.var 5) (.var 22) 0) (.var 19))))) (.need (.cmp .leq (.lit (0)) (.ife (.var 20) (.arith .add .i64 (.arith .rem .i64 (.icell (.var 5) (.var 22) 0) (.var 19)) (.lit (1))) (.lit (0)) (.arith .add .i64 (.arith .rem .i64 (.icell (.var 5) (.var 22) 0) (.var 19)) (.lit (1))))) (.need (.cmp .leq (.lit (0)) (.minus (.var 19) (.arith .add .i64 (.arith .rem .i64 (.icell (.var 5) (.var 22) 0) (.var 19)) (.lit (1))))) (.need (.cmp .leq (.plus (.ife (.var 20) (.arith .add .i64 (.arith .rem .i64 (.icell (.var 5) (.var 22) 0) (.var 19)) (.lit (1))) (.lit (0)) (.arith .add .i64 (.arith .rem .i64 (.icell (.var 5) (.var 22) 0) (.var 19)) (.lit (1)))) (.minus (.var 19) (.arith .add .i64 (.arith .rem .i64 (.icell (.var 5) (.var 22) 0) (.var 19)) (.lit (1))))) (.dlen (.var 21))) (.need (.cmp .leq (.tims (.lit (8)) (.plus (.arith .rem .i64 (.icell (.var 5) (.var 22) 0) (.var 19)) (.minus (.var 19) (.arith .add .i64 (.arith .rem .i64 (.icell (.var 5) (.var 22) 0) (.var 19)) (.lit (1)))))) (.lit (140737488355328))) (.fresh 29 (.fresh 30 (.both (.back 1 14 ⟨1000, [(1007, (.t (.dapp (.dtake (.var 21) (.arith .rem .i64 (.icell (.var 5) (.var 22) 0) (.var 19))) (.dtake (.ddrop (.var 21) (.ife (.var 20) (.arith .add .i64 (.arith .rem .i64 (.icell (.var 5) (.var 22) 0) (.var 19)) (.lit (1))) (.lit (0)) (.arith .add .i64 (.arith .rem .i64 (.icell (.var 5) (.var 22) 0) (.var 19)) (.lit (1))))) (.minus (.var 19) (.arith .add .i64 (.arith .rem .i64 (.icell (.var 5) (.var 22) 0) (.var 19)) (.lit (1)))))))), (1003, (.t (.dapp (.var 17) (.rcons (.vint .i64 (.icell (.var 21) (.arith .rem .i64 (.icell (.var 5) (.var 22) 0) (.var 19)) 0)) .rnil)))), (1008, (.t (.arith .add .i64 (.var 22) (.lit (1))))), (1006, (.t (.var 30))), (1005, (.t (.plus (.arith .rem .i64 (.icell (.var 5) (.var 22) 0) (.var 19)) (.minus (.var 19) (.arith .add .i64 (.arith .rem .i64 (.icell (.var 5) (.var 22) 0) (.var 19)) (.lit (1))))))), (1004, (.r 29)), (1002, (.t (.var 25))), (1001, (.t (.plus (.var 15) (.lit (1))))), (1000, (.r 24))], [((.var 1006), (.var 30)), ((.var 1002), (.var 25)), ((.lit (0)), (.lit (0))), ((.lit (0)), (.lit (0))), ((.var 4), (.var 4)), ((.var 3), (.var 3)), ((.lit (0)), (.lit (0))), ((.var 0), (.var 0))], [], []⟩) .top)))))))) .top))))) .top)) .top))))))))))))))))))))
 (.need (.cmp .lss (.lit (0)) (.var 19)) (.need (.cmp .lss (.lit (0)) (.dlen (.var 21))) (.fresh 23 (.need (.cmp .eql (.var 15) (.dlen (.var 17))) (.need (.cmp .leq (.tims (.lit (8)) (.plus (.var 15) (.lit (1)))) (.lit (140737488355328))) (.fresh 24 (.fresh 25 (.know (.cmp .leq (.dlen (.var 21)) (.var 20)) (.need (.cmp .leq (.lit (0)) (.var 19)) (.need (.cmp .leq (.lit (0)) (.var 20)) (.need (.cmp .leq (.lit (1)) (.var 19)) (.need (.cmp .leq (.var 19) (.var 20)) (.both (.fresh 26 (.both (.need (.cmp .leq (.lit (0)) (.dlen (.var 21))) (.need (.cmp .leq (.tims (.lit (8)) (.lit (0))) (.lit (140737488355328))) (.fresh 27 (.fresh 28 (.both (.need (.cmp .eql (.lit (0)) (.dlen (.dtake (.var 21) (.lit (0))))) (.need (.cmp .leq (.lit (0)) (.ife (.var 20) (.lit (1)) (.lit (0)) (.lit (1)))) (.need (.cmp .leq (.lit (0)) (.minus (.var 19) (.lit (1)))) (.need (.cmp .leq (.plus (.ife (.var 20) (.lit (1)) (.lit (0)) (.lit (1))) (.minus (.var 19) (.lit (1)))) (.dlen (.var 21))) (.need (.cmp .leq (.tims (.lit (8)) (.minus (.var 19) (.lit (1)))) (.lit (140737488355328))) (.fresh 29 (.fresh 30 (.both (.back 1 14 ⟨1000, [(1007, (.t (.dapp (.dtake (.var 21) (.lit (0))) (.dtake (.ddrop (.var 21) (.ife (.var 20) (.lit (1)) (.lit (0)) (.lit (1)))) (.minus (.var 19) (.lit (1))))))), (1003, (.t (.dapp (.var 17) (.rcons (.vint .i64 (.icell (.var 21) (.lit (0)) 0)) .rnil)))), (1008, (.t (.arith .add .i64 (.var 22) (.lit (1))))), (1006, (.t (.var 30))), (1005, (.t (.minus (.var 19) (.lit (1))))), (1004, (.r 29)), (1002, (.t (.var 25))), (1001, (.t (.plus (.var 15) (.lit (1))))), (1000, (.r 24))], [((.var 1006), (.var 30)), ((.var 1002), (.var 25)), ((.lit (0)), (.lit (0))), ((.lit (0)), (.lit (0))), ((.var 4), (.var 4)), ((.var 3), (.var 3)), ((.lit (0)), (.lit (0))), ((.var 0), (.var 0))], [], []⟩) .top)))))))) .top))))) .top)) .top)))))))))))))))
 (.need (.cmp .eql (.var 0) (.var 15)) (.ret 0 ⟨7, [(9, (.t (.var 17))), (8, (.t (.var 16))), (7, (.r 14))], [((.var 8), (.var 16)), ((.var 0), (.var 15)), ((.lit (0)), (.lit (0)))], [], []⟩))))))))))))))))))))))))
theorem o_choose64_eq : treeOf ⟨Try.prog, choose64C, [], [choose64I, choose64J]⟩ 100000 Try.f64 = o_choose64 := by kernel_rfl
theorem choose64_of (hd : ∀ c ∈ ([] : List Ctr), c.ok Try.prog) (h : ∀ ρ : Env, ρ.good → (choose64C).pre ρ → o_choose64.den ⟨Try.prog, choose64C, [], [choose64I, choose64J]⟩ ρ) : (choose64C).ok Try.prog :=
  ok_of_tree Try.func64 (fun a w => Try.call64 a w) hd 100000 (fun ρ hg hp => by rw [o_choose64_eq]; exact h ρ hg hp)
def o_lawAnyRows : Out := (.br (.cmp .lss (.var 0) (.lit (1)))
 (.pre 7 ⟨0, [], [], [], []⟩ (.both (.post 7 0 ⟨0, [], [], [], []⟩ 7 (.ret 0 ⟨7, [], [], [((.bl true), (.bl true))], []⟩)) .top))
 (.br (.cmp .gtr (.var 0) (.var 1))
 (.pre 7 ⟨0, [], [], [], []⟩ (.both (.post 7 0 ⟨0, [], [], [], []⟩ 7 (.ret 0 ⟨7, [], [], [((.bl true), (.bl true))], []⟩)) .top))
 (.br (.cmp .gtr (.var 1) (.lit (40)))
 (.pre 7 ⟨0, [], [], [], []⟩ (.both (.post 7 0 ⟨0, [], [], [], []⟩ 7 (.ret 0 ⟨7, [], [], [((.bl true), (.bl true))], []⟩)) .top))
 (.need (.cmp .leq (.lit (0)) (.var 3)) (.br (.cmp .gtr (.var 3) (.lit (40)))
 (.pre 7 ⟨0, [], [], [], []⟩ (.both (.post 7 0 ⟨0, [], [], [], []⟩ 7 (.ret 0 ⟨7, [], [], [((.bl true), (.bl true))], []⟩)) .top))
 (.pre 0 ⟨0, [], [], [], []⟩ (.both (.fresh 7 (.fresh 8 (.post 0 0 ⟨0, [], [], [], []⟩ 7 (.pre 1 ⟨0, [(6, (.t (.var 6))), (5, (.t (.var 5))), (4, (.t (.var 4))), (3, (.t (.var 3))), (2, (.r 2)), (1, (.t (.var 1))), (0, (.t (.var 0)))], [((.lit (0)), (.lit (0)))], [], []⟩ (.both (.fresh 9 (.fresh 10 (.fresh 11 (.post 1 0 ⟨0, [(6, (.t (.var 6))), (5, (.t (.var 5))), (4, (.t (.var 4))), (3, (.t (.var 3))), (2, (.r 2)), (1, (.t (.var 1))), (0, (.t (.var 0)))], [((.lit (0)), (.lit (0)))], [], []⟩ 9 (.pre 2 ⟨0, [(1, (.t (.var 8))), (3, (.t (.var 0))), (2, (.t (.var 1))), (0, (.r 7))], [((.lit (1)), (.lit (1))), ((.lit (0)), (.lit (0)))], [], []⟩ (.both (.fresh 12 (.fresh 13 (.fresh 14 (.fresh 15 (.fresh 16 (.post 2 0 ⟨0, [(1, (.t (.var 8))), (3, (.t (.var 0))), (2, (.t (.var 1))), (0, (.r 7))], [((.lit (1)), (.lit (1))), ((.lit (0)), (.lit (0)))], [], []⟩ 12 (.fresh 17 (.pre 3 ⟨0, [(1, (.t (.var 15))), (3, (.t (.var 1))), (2, (.t (.var 0))), (0, (.r 7))], [((.lit (1)), (.lit (1))), ((.lit (0)), (.lit (0)))], [], []⟩ (.both (.fresh 18 (.fresh 19 (.fresh 20 (.fresh 21 (.fresh 22 (.fresh 23 (.post 3 0 ⟨0, [(1, (.t (.var 15))), (3, (.t (.var 1))), (2, (.t (.var 0))), (0, (.r 7))], [((.lit (1)), (.lit (1))), ((.lit (0)), (.lit (0)))], [], []⟩ 18 (.fresh 24 (.pre 4 ⟨0, [(11, (.t (.var 10))), (10, (.t (.var 11))), (6, (.t (.var 14))), (5, (.t (.var 16))), (9, (.t (.var 10))), (8, (.t (.var 0))), (7, (.r 9)), (4, (.t (.var 14))), (3, (.t (.var 13))), (2, (.r 12)), (1, (.t (.var 0))), (0, (.t (.var 1)))], [((.lit (0)), (.lit (0))), ((.lit (0)), (.lit (0)))], [], []⟩ (.both (.fresh 25 (.fresh 26 (.fresh 27 (.fresh 28 (.post 4 0 ⟨0, [(11, (.t (.var 10))), (10, (.t (.var 11))), (6, (.t (.var 14))), (5, (.t (.var 16))), (9, (.t (.var 10))), (8, (.t (.var 0))), (7, (.r 9)), (4, (.t (.var 14))), (3, (.t (.var 13))), (2, (.r 12)), (1, (.t (.var 0))), (0, (.t (.var 1)))], [((.lit (0)), (.lit (0))), ((.lit (0)), (.lit (0)))], [], []⟩ 25 (.fresh 29 (.pre 4 ⟨0, [(11, (.t (.var 10))), (10, (.t (.var 11))), (6, (.t (.var 20))), (5, (.t (.var 22))), (9, (.t (.var 10))), (8, (.t (.var 0))), (7, (.r 9)), (4, (.t (.var 20))), (3, (.t (.var 19))), (2, (.r 18)), (1, (.t (.var 0))), (0, (.t (.var 1)))], [((.lit (0)), (.lit (0))), ((.lit (0)), (.lit (0)))], [], []⟩ (.both (.fresh 30 (.fresh 31 (.fresh 32 (.fresh 33 (.post 4 0 ⟨0, [(11, (.t (.var 10))), (10, (.t (.var 11))), (6, (.t (.var 20))), (5, (.t (.var 22))), (9, (.t (.var 10))), (8, (.t (.var 0))), (7, (.r 9)), (4, (.t (.var 20))), (3, (.t (.var 19))), (2, (.r 18)), (1, (.t (.var 0))), (0, (.t (.var 1)))], [((.lit (0)), (.lit (0))), ((.lit (0)), (.lit (0)))], [], []⟩ 30 (.fresh 34 (.pre 5 ⟨0, [(8, (.t (.var 27))), (7, (.t (.var 28))), (1, (.t (.var 21))), (6, (.t (.var 27))), (5, (.t (.var 26))), (4, (.r 25)), (3, (.t (.var 0))), (2, (.t (.var 0))), (0, (.r 7))], [((.lit (1)), (.lit (1))), ((.lit (0)), (.lit (0))), ((.lit (0)), (.lit (0)))], [], []⟩ (.both (.fresh 35 (.fresh 36 (.fresh 37 (.fresh 38 (.fresh 39 (.post 5 0 ⟨0, [(8, (.t (.var 27))), (7, (.t (.var 28))), (1, (.t (.var 21))), (6, (.t (.var 27))), (5, (.t (.var 26))), (4, (.r 25)), (3, (.t (.var 0))), (2, (.t (.var 0))), (0, (.r 7))], [((.lit (1)), (.lit (1))), ((.lit (0)), (.lit (0))), ((.lit (0)), (.lit (0)))], [], []⟩ 35 (.fresh 40 (.pre 5 ⟨0, [(8, (.t (.var 32))), (7, (.t (.var 33))), (1, (.t (.var 38))), (6, (.t (.var 32))), (5, (.t (.var 31))), (4, (.r 30)), (3, (.t (.var 0))), (2, (.t (.var 0))), (0, (.r 7))], [((.lit (1)), (.lit (1))), ((.lit (0)), (.lit (0))), ((.lit (0)), (.lit (0)))], [], []⟩ (.both (.fresh 41 (.fresh 42 (.fresh 43 (.fresh 44 (.fresh 45 (.post 5 0 ⟨0, [(8, (.t (.var 32))), (7, (.t (.var 33))), (1, (.t (.var 38))), (6, (.t (.var 32))), (5, (.t (.var 31))), (4, (.r 30)), (3, (.t (.var 0))), (2, (.t (.var 0))), (0, (.r 7))], [((.lit (1)), (.lit (1))), ((.lit (0)), (.lit (0))), ((.lit (0)), (.lit (0)))], [], []⟩ 41 (.fresh 46 (.pre 6 ⟨0, [(8, (.t (.var 32))), (7, (.t (.var 33))), (1, (.t (.var 44))), (6, (.t (.var 32))), (5, (.t (.var 31))), (4, (.r 30)), (3, (.t (.var 0))), (2, (.t (.var 0))), (0, (.r 7))], [((.lit (1)), (.lit (1))), ((.lit (0)), (.lit (0))), ((.lit (0)), (.lit (0)))], [], []⟩ (.both (.fresh 47 (.fresh 48 (.post 6 0 ⟨0, [(8, (.t (.var 32))), (7, (.t (.var 33))), (1, (.t (.var 44))), (6, (.t (.var 32))), (5, (.t (.var 31))), (4, (.r 30)), (3, (.t (.var 0))), (2, (.t (.var 0))), (0, (.r 7))], [((.lit (1)), (.lit (1))), ((.lit (0)), (.lit (0))), ((.lit (0)), (.lit (0)))], [], []⟩ 47 (.br (.cmp .eql (.var 47) (.var 0))
 (.pre 7 ⟨0, [], [], [], []⟩ (.both (.post 7 0 ⟨0, [], [], [], []⟩ 49 (.ret 0 ⟨7, [], [], [((.bl true), (.bl true))], []⟩)) .top))
 (.stuck 7 0 0))))) .top))))))))) .top))))))))) .top)))))))) .top)))))))) .top)))))))))) .top))))))))) .top)))))) .top))))) .top)))))))
theorem o_lawAnyRows_eq : treeOf ⟨Try.prog, lawAnyRowsC, [newFieldC, choose64C, vanderGC, genKC, selGC, invGC, rankGC, knownC], []⟩ 100000 Try.f19 = o_lawAnyRows := by kernel_rfl
theorem lawAnyRows_of (hd : ∀ c ∈ ([newFieldC, choose64C, vanderGC, genKC, selGC, invGC, rankGC, knownC] : List Ctr), c.ok Try.prog) (h : ∀ ρ : Env, ρ.good → (lawAnyRowsC).pre ρ → o_lawAnyRows.den ⟨Try.prog, lawAnyRowsC, [newFieldC, choose64C, vanderGC, genKC, selGC, invGC, rankGC, knownC], []⟩ ρ) : (lawAnyRowsC).ok Try.prog :=
  ok_of_tree Try.func19 (fun a w => Try.call19 a w) hd 100000 (fun ρ hg hp => by rw [o_lawAnyRows_eq]; exact h ρ hg hp)
end Go.Proofs

/- Ranks, rows that are chosen, inverses that undo: proofs. -/
set_option linter.unusedSimpArgs false
set_option linter.unusedVariables false
namespace Go.Proofs
open Go Go.Eng
/-! ### Choosing -/
theorem choose_perm {o l R : List Int} {j : Nat} (hj : j < l.length) (h : (o ++ l).Perm R) : ((o ++ [l.getD j 0]) ++ (l.take j ++ l.drop (j + 1))).Perm R := by
  rw [← List.eraseIdx_eq_take_drop_succ, List.append_assoc]
  refine (List.Perm.append_left o ?_).trans h
  have e : l.getD j 0 = l[j] := by rw [List.getD_eq_getElem?_getD, List.getElem?_eq_getElem hj]; rfl
  rw [e]
  have h3 : l = l.take j ++ l[j] :: l.drop (j + 1) := by rw [← List.drop_eq_getElem_cons hj, List.take_append_drop]
  rw [List.eraseIdx_eq_take_drop_succ]
  refine List.Perm.trans ?_ (List.Perm.of_eq h3.symm)
  show (l[j] :: (l.take j ++ l.drop (j + 1))).Perm _
  exact List.perm_middle.symm
theorem range_nodup {n : Nat} : (rangeI n).Nodup := List.pairwise_map.2 (List.nodup_range.imp fun h e => h (by omega))
theorem range_mem {n : Nat} {x : Int} (h : x ∈ rangeI n) : 0 ≤ x ∧ x < n := by
  obtain ⟨m, hm, rfl⟩ := List.mem_map.1 h
  have := List.mem_range.1 hm
  omega
theorem range_snoc {n : Nat} : rangeI (n + 1) = rangeI n ++ [(n : Int)] := by simp [rangeI, List.range_succ]
theorem range_len {n : Nat} : (rangeI n).length = n := by simp [rangeI]
theorem chosen {o l : List Int} {n k : Nat} (h : (o ++ l).Perm (rangeI n)) (hk : o.length = k) : o.length = k ∧ o.Nodup ∧ ∀ x ∈ o, 0 ≤ x ∧ x < (n : Int) :=
  ⟨hk, (List.nodup_append.1 (h.nodup_iff.2 range_nodup)).1, fun x hx => range_mem (h.mem_iff.1 (List.mem_append_left _ hx))⟩
theorem genK_ok : genKC.ok Try.prog := Ctr.ok_less gen35_ok rfl rfl rfl rfl rfl (fun _ h => h.1) fun ρ ρ' ai al hp hag hal hpost => by
  match ai, hal with
  | 0, hal =>
    exfalso
    obtain rfl := Option.some.inj hal
    obtain ⟨_, h2⟩ : _ ∧ (sizesB ((ρ'.upto 5) 2).i ((ρ'.upto 5) 3).i = true → (topE ((ρ'.upto 5) 2).i.toNat ((ρ'.upto 5) 3).i.toNat).2.2 < ((ρ'.upto 5) 2).i.toNat) := hpost
    have e := upto_at (m := 5) (nv := 4) hag (by omega)
    rw [e 2 (by omega), e 3 (by omega)] at h2
    obtain ⟨k1, k2, k3⟩ := sizesB_iff.1 hp.2
    have := h2 hp.2
    rw [top_rank (by omega) (by omega)] at this
    omega
  | 1, hal => exact ⟨0, hal⟩
  | n + 2, hal => cases hal
theorem selG_ok : selGC.ok Try.prog := Ctr.ok_less sel62_ok rfl rfl rfl rfl rfl (fun _ h => h.1) fun ρ ρ' ai al hp hag hal hpost => by
  match ai, hal with
  | 0, hal =>
    exfalso
    obtain rfl := Option.some.inj hal
    have h2 : selBad ((ρ'.upto 12) 0).i ((ρ'.upto 12) 1).i ((ρ'.upto 12) 3).i ((ρ'.upto 12) 8).i ((ρ'.upto 12) 0).i (iI ((ρ'.upto 12) 10).d) := hpost
    have e := upto_at (m := 12) (nv := 12) hag (by omega)
    rw [e 0 (by omega), e 1 (by omega), e 3 (by omega), e 8 (by omega), e 10 (by omega)] at h2
    exact hp.2 h2
  | 1, hal => exact ⟨0, hal⟩
  | n + 2, hal => cases hal
theorem invG_ok : invGC.ok Try.prog := Ctr.ok_less inverse55_ok rfl rfl rfl rfl rfl (fun _ h => h.1) fun ρ ρ' ai al hp hag hal hpost => by
  match ai, hal with
  | 0, hal =>
    exfalso
    obtain rfl := Option.some.inj hal
    have e := upto_at (m := 11) (nv := 9) hag (by omega)
    obtain ⟨_, h2⟩ := hpost
    simp only [show (9 + 2 : Nat) = 11 from rfl, show inverse55C.nv = 9 from rfl] at h2
    rw [e 2 (by omega), e 3 (by omega), e 5 (by omega), e 7 (by omega)] at h2
    obtain ⟨_, p1, p2, p3⟩ := hp
    rcases h2 with ⟨h, _⟩ | ⟨_, h, _⟩ | ⟨_, _, h, _⟩
    · exact h p1
    · exact h p2
    · rw [p3] at h; omega
  | 1, hal => exact ⟨0, hal⟩
  | n + 2, hal => cases hal
theorem prodG_ok : prodGC.ok Try.prog := Ctr.ok_less prod49_ok rfl rfl rfl rfl rfl (fun _ h => h.1) fun ρ ρ' ai al hp hag hal hpost => by
  have e := upto_at (m := 17) (nv := 16) hag (by omega)
  obtain ⟨_, p1, p2, p3⟩ := hp
  match ai, hal with
  | 0, hal =>
    exfalso
    obtain rfl := Option.some.inj hal
    obtain ⟨_, h2⟩ := hpost
    simp only [show (16 + 1 : Nat) = 17 from rfl, show prod49C.nv = 16 from rfl] at h2
    rw [e 2 (by omega), e 3 (by omega), e 5 (by omega), e 9 (by omega), e 10 (by omega), e 12 (by omega)] at h2
    exact h2 ⟨p1, p2⟩
  | 1, hal =>
    exfalso
    obtain rfl := Option.some.inj hal
    obtain ⟨_, _, _, h2⟩ := hpost
    simp only [show (16 + 1 : Nat) = 17 from rfl, show prod49C.nv = 16 from rfl] at h2
    rw [e 3 (by omega), e 9 (by omega)] at h2
    exact h2 p3
  | 2, hal => exact ⟨0, hal⟩
  | n + 3, hal => cases hal
theorem rank57_ok : rank57C.ok Try.prog := rank57_of (by simp [valid36_ok, zero82_ok, cloneK_ok, elim83_ok]) fun ρ hg hp => by
  obtain ⟨hf, l0, l1, l2, hB⟩ := hp
  have hne := (fieldD_ne hf).1
  simp [o_rank57, rank57C, valid36C, zero82C, cloneKC, clone84C, elim83C]
  refine ⟨fun h => (hne h).elim, fun _ => ⟨l0, fun v _ hv => ⟨fun hb => ⟨hf, fun h => ?_⟩, fun hb => ?_⟩⟩⟩
  · have := hv.2 h
    rw [hb] at this; cases this
  obtain ⟨r1, r2, c1, c2, hl⟩ := hv.1 hb
  have vA : validM (ρ 2).i (ρ 3).i (ρ 5).i := hv.1 hb
  have hbd := mul_bound (x := (ρ 2).i) (y := (ρ 3).i) (by omega) r2 (by omega) c2
  refine ⟨⟨l0, l2, by unfold Go.Eng.big; omega⟩, fun cc _ dd _ hdd hcap => ⟨⟨by omega, by omega⟩, fun zl _ zc _ zd _ z1 z2 z3 => ?_⟩⟩
  have hlen : dd.d.length = (ρ 5).i.toNat := by rw [hdd, List.length_take]; omega
  have hz : zd.d = [] := by rw [z3, z1]; rfl
  have hdA : fullM (ρ 2).i (ρ 3).i (ρ 5).i cc.i dd.d := ⟨⟨by omega, r2, by omega, c2, hl, by omega, by omega, by rw [hdd]; exact allB_take hB⟩, by omega⟩
  have hdZ : fullM (ρ 2).i 0 zl.i zc.i zd.d := ⟨⟨by omega, r2, by omega, by omega, by omega, by omega, by rw [hz]; simp; omega, by rw [hz]; exact fun r hr => by cases hr⟩, by rw [hz]; simp; omega⟩
  refine ⟨⟨hf, hdA, hdZ⟩, fun rk _ f2 _ d2 _ b2 _ hf2 hA2 hB2 k0 k1 he => ⟨hf2, vA, ?_⟩⟩
  have h3 : rk.i.toNat = (elimN (ρ 2).i.toNat (ρ 3).i.toNat 0 (bI dd.d) (bI zd.d) (ρ 3).i.toNat).2.2 := congrArg (fun x => x.2.2) he
  rw [hdd, bI_take, hz] at h3
  rw [rankE, ← show bI ([] : Rows') = [] from rfl, ← h3]
  omega
theorem rankG_ok : rankGC.ok Try.prog := Ctr.ok_less rank57_ok rfl rfl rfl rfl rfl (fun _ h => h.1) fun ρ ρ' ai al hp hag hal hpost => by
  match ai, hal with
  | 0, hal =>
    exfalso
    obtain rfl := Option.some.inj hal
    have e := upto_at (m := 10) (nv := 9) hag (by omega)
    obtain ⟨_, h2⟩ := hpost
    simp only [show (9 + 1 : Nat) = 10 from rfl, show rank57C.nv = 9 from rfl] at h2
    rw [e 2 (by omega), e 3 (by omega), e 5 (by omega)] at h2
    exact h2 hp.2
  | 1, hal => exact ⟨0, hal⟩
  | n + 2, hal => cases hal
theorem invM_ok : invMC.ok Try.prog := invM_of (by simp [valid36_ok, identG_ok, cloneK_ok, elim83_ok]) fun ρ hg hp => by
  obtain ⟨⟨hf, l0, l1, l2, hB⟩, vA, hrc⟩ := hp
  have hne := (fieldD_ne hf).1
  simp [o_invM, invMC, inverse55C, valid36C, identGC, ident40C, cloneKC, clone84C, elim83C]
  have vA' := vA
  obtain ⟨r1, r2, c1, c2, hl⟩ := vA'
  have hbd := mul_bound (x := (ρ 2).i) (y := (ρ 3).i) (by omega) r2 (by omega) c2
  refine ⟨fun h => (hne h).elim, fun _ => ⟨l0, fun v _ hv => ⟨hv.2 vA, fun _ => ⟨hrc, fun _ => ⟨⟨r1, r2⟩, fun l _ cp _ d _ _ _ hM hL hI => ⟨⟨l0, l2, by unfold Go.Eng.big; omega⟩, fun cc _ dd _ hdd hcap => ?_⟩⟩⟩⟩⟩⟩
  have hlen : dd.d.length = (ρ 5).i.toNat := by rw [hdd, List.length_take]; omega
  refine ⟨⟨hf, ⟨⟨by omega, r2, by omega, c2, hl, by omega, by omega, by rw [hdd]; exact allB_take hB⟩, by omega⟩, hM, hL⟩, fun rk _ f2 _ d2 _ b2 _ hf2 hA2 hB2 k0 k1 he => ?_⟩
  have hE : elimN (ρ 2).i.toNat (ρ 3).i.toNat (ρ 2).i.toNat (bI dd.d) (bI d.d) (ρ 3).i.toNat = invE ((bI (ρ 7).d).take (ρ 5).i.toNat) (ρ 2).i.toNat := by
    rw [invE, hdd, bI_take, hI, hrc]
  rw [hE] at he
  rw [← he]
  exact ⟨fun h => ⟨hf2, by simp only; omega⟩, fun h => ⟨hf2, by simp only; omega, hB2, rfl⟩⟩
theorem iI_app {a b : Rows'} : iI (a ++ b) = iI a ++ iI b := by simp [iI]
theorem choose_perm' {o d : Rows'} {j : Int} {R : List Int} (h0 : 0 ≤ j) (h1 : j < d.length) {x y : Nat} (hx : (x = j.toNat + 1 ∧ y = d.length - (j.toNat + 1)) ∨ (y = 0 ∧ d.length = j.toNat + 1)) (hp : (iI o ++ iI d).Perm R) :
    (iI (o ++ [[.int .i64 (cellI d j 0)]]) ++ iI (d.take j.toNat ++ (d.drop x).take y)).Perm R := by
  have e : (d.drop x).take y = d.drop (j.toNat + 1) := by
    rcases hx with ⟨rfl, rfl⟩ | ⟨rfl, h⟩
    · exact List.take_of_length_le (by rw [List.length_drop]; omega)
    · rw [List.take_zero, List.drop_eq_nil_of_le (by omega)]
  rw [e, iI_app, iI_app]
  have e2 : iI [[.int .i64 (cellI d j 0)]] = [(iI d).getD j.toNat 0] := by rw [iI_get h0 h1]; rfl
  have e3 : iI (d.take j.toNat) = (iI d).take j.toNat := by simp [iI, List.map_take]
  have e4 : iI (d.drop (j.toNat + 1)) = (iI d).drop (j.toNat + 1) := by simp [iI, List.map_drop]
  rw [e2, e3, e4]
  exact choose_perm (by rw [iI_len]; omega) hp
theorem choose64_ok : choose64C.ok Try.prog := choose64_of (by simp) fun ρ hg hp => by
  obtain ⟨k0, k1, k2, n0, n1, n2⟩ := hp
  simp (config := { maxSteps := 4000000 }) [o_choose64, choose64C, choose64I, choose64J]
  refine ⟨⟨by omega, rfl⟩, fun l _ i _ d _ i0 i1 hl hd => ⟨fun hi => ?_, fun hi => ?_⟩⟩
  · have hlen : (iI d.d).length = i.i.toNat := by rw [hd, range_len]
    rw [iI_len] at hlen
    rw [add64 (by omega) (by omega)]
    refine ⟨hl, by omega, ⟨by omega, by omega, hl, ?_⟩, by omega⟩
    rw [iI_app, hd, show (i.i + 1).toNat = i.i.toNat + 1 by omega, range_snoc]
    congr 1
    show [i.i] = _
    rw [Int.toNat_of_nonneg i0]
  have hin : i.i = (ρ 1).i := by omega
  refine ⟨⟨k0, hl, by rw [hd, hin]; exact List.Perm.refl _⟩, fun ol _ o _ dl _ cp _ e _ j _ j0 j1 hol hdl hoi hp => ?_⟩
  have htot := hp.length_eq
  rw [List.length_append, range_len, iI_len, iI_len] at htot
  refine ⟨fun hj => ⟨n0, fun hjn => ⟨j0, by omega, by omega, by omega, fun hneg => ?_, fun hpos => ?_⟩, fun hjn => ⟨by omega, by omega, hol, by omega, fun hcap => ?_⟩⟩, fun hj => ⟨by omega, by omega, chosen hp (by rw [iI_len]; omega)⟩⟩
  · have hlt : -dl.i < arithOf .rem .i64 (cellI (ρ 5).d j.i 0) dl.i := Int.lt_tmod_of_pos _ (by omega)
    generalize arithOf .rem .i64 (cellI (ρ 5).d j.i 0) dl.i = q at hneg hlt ⊢
    rw [add64 (x := q) (y := dl.i) (by omega) (by omega), add64 (x := q + dl.i) (y := 1) (by omega) (by omega), add64 (x := j.i) (y := 1) (by omega) (by omega)]
    refine ⟨by omega, by omega, by omega, hol, by omega, fun hcap => ?_⟩
    by_cases hc : cp.i = q + dl.i + 1
    · simp only [if_pos hc]
      exact ⟨by omega, by omega, by omega, by omega, by omega, by omega, by omega, by omega, by omega, by omega, by omega, by omega, ⟨by omega, by omega, hol, by omega, by omega, choose_perm' (by omega) (by omega) (.inr ⟨by omega, by omega⟩) hp⟩, by omega⟩
    · simp only [if_neg hc]
      exact ⟨by omega, by omega, by omega, by omega, by omega, by omega, by omega, by omega, by omega, by omega, by omega, by omega, ⟨by omega, by omega, hol, by omega, by omega, choose_perm' (by omega) (by omega) (.inl ⟨by omega, by omega⟩) hp⟩, by omega⟩
  · have hlt : arithOf .rem .i64 (cellI (ρ 5).d j.i 0) dl.i < dl.i := Int.tmod_lt_of_pos _ (by omega)
    generalize arithOf .rem .i64 (cellI (ρ 5).d j.i 0) dl.i = q at hpos hlt ⊢
    rw [add64 (x := q) (y := 1) (by omega) (by omega), add64 (x := j.i) (y := 1) (by omega) (by omega)]
    refine ⟨by omega, by omega, by omega, hol, by omega, fun hcap => ?_⟩
    by_cases hc : cp.i = q + 1
    · simp only [if_pos hc]
      exact ⟨by omega, by omega, by omega, by omega, by omega, by omega, by omega, by omega, by omega, by omega, by omega, by omega, ⟨by omega, by omega, hol, by omega, by omega, choose_perm' (by omega) (by omega) (.inr ⟨by omega, by omega⟩) hp⟩, by omega⟩
    · simp only [if_neg hc]
      exact ⟨by omega, by omega, by omega, by omega, by omega, by omega, by omega, by omega, by omega, by omega, by omega, by omega, ⟨by omega, by omega, hol, by omega, by omega, choose_perm' (by omega) (by omega) (.inl ⟨by omega, by omega⟩) hp⟩, by omega⟩
  · rw [add64 (x := j.i) (y := 1) (by omega) (by omega)]
    by_cases hc : cp.i = 1
    · have hP := choose_perm' (o := o.d) (d := e.d) (j := 0) (x := 0) (y := dl.i.toNat - 1) (by omega) (by omega) (.inr ⟨by omega, by omega⟩) hp
      simp at hP
      simp [hc]
      exact ⟨by omega, by omega, by omega, by omega, by omega, by omega, ⟨by omega, by omega, hol, by omega, by omega, hP⟩, by omega⟩
    · have hP := choose_perm' (o := o.d) (d := e.d) (j := 0) (x := 1) (y := dl.i.toNat - 1) (by omega) (by omega) (.inl ⟨by omega, by omega⟩) hp
      simp at hP
      simp [hc]
      exact ⟨by omega, by omega, by omega, by omega, by omega, by omega, by omega, ⟨by omega, by omega, hol, by omega, by omega, hP⟩, by omega⟩
theorem lawAnyRows_ok : lawAnyRowsC.ok Try.prog := lawAnyRows_of (by simp [newField_ok, choose64_ok, vanderG_ok, genK_ok, selG_ok, invG_ok, rankG_ok, known_ok]) fun ρ hg hp => by
  obtain ⟨n0, n1, n2⟩ := hp
  simp (config := { maxSteps := 4000000 }) [o_lawAnyRows, lawAnyRowsC, lawIs, lawRet, newFieldC, choose64C, vanderGC, vander45C, genKC, gen35C, selGC, sel62C, invGC, inverse55C, rankGC, rank57C, knownC]
  intro h1 hk ht
  refine ⟨n0, fun hn => ?_⟩
  intro f _ hf
  refine ⟨⟨by omega, hk, by omega, n0, by omega, n2⟩, fun rs _ hrl hch => ⟨⟨.inl hf, by unfold vanderBad; omega⟩, fun vl _ vc _ vf _ vd _ hvf _ hvM hvL hvE => ⟨⟨hvf, sizesB_iff.2 ⟨h1, hk, by omega⟩⟩, fun gl _ gc _ gf _ gd _ hgf hsz hgM hgr hgE => ?_⟩⟩⟩
  have hall : ∀ x ∈ iI rs.d, 0 ≤ x ∧ x < (ρ 1).i := fun x hx => by
    have := hch.2.2 x hx
    omega
  obtain ⟨hgM, hgL⟩ := hgM
  have hvM' := hvM
  have hgM' := hgM
  obtain ⟨v1, v2, v3, v4, v5, v6, v7, v8⟩ := hvM'
  obtain ⟨g1, g2, g3, g4, g5, g6, g7, g8⟩ := hgM'
  have hokv : selOk (ρ 1).i (ρ 0).i vl.i (ρ 0).i := ⟨⟨by omega, by omega, h1, by omega, v5⟩, h1, by omega⟩
  have hokg : selOk (ρ 1).i (ρ 0).i gl.i (ρ 0).i := ⟨⟨by omega, by omega, h1, by omega, g5⟩, h1, by omega⟩
  have hbv := mul_bound (x := (ρ 1).i) (y := (ρ 0).i) (by omega) v2 (by omega) v4
  refine ⟨⟨⟨by omega, v6, v7, v8, by omega, by omega⟩, selBad_not hokv hall⟩, fun al _ ac _ ad _ _ haM haL haE => ⟨⟨⟨by omega, g6, g7, g8, by omega, by omega⟩, selBad_not hokg hall⟩, fun bl _ bc _ bd _ _ hbM hbL hbE => ?_⟩⟩
  obtain ⟨a1, a2, a3, a4, a5, a6, a7, a8⟩ := haM
  obtain ⟨b1, b2, b3, b4, b5, b6, b7, b8⟩ := hbM
  have hbk := mul_bound (x := (ρ 0).i) (y := (ρ 0).i) (by omega) a2 (by omega) a4
  have ra : (invE ((bI ad.d).take al.i.toNat) (ρ 0).i.toNat).2.2 = (ρ 0).i.toNat := by
    rw [List.take_of_length_le (by rw [bI_len]; omega), haE, hvE]
    exact rows_vander hch (by omega) (by omega)
  have rb : (invE ((bI bd.d).take bl.i.toNat) (ρ 0).i.toNat).2.2 = (ρ 0).i.toNat := by
    rw [List.take_of_length_le (by rw [bI_len]; omega), hbE, hgE]
    exact rows_gen hch (by omega) (by omega) (by omega)
  have va : validM (ρ 0).i (ρ 0).i al.i := ⟨h1, a2, h1, a4, a5⟩
  have vb : validM (ρ 0).i (ρ 0).i bl.i := ⟨h1, b2, h1, b4, b5⟩
  refine ⟨⟨⟨hgf, by omega, a6, a7, a8⟩, va, ra⟩, fun _ _ _ _ f2 _ _ _ hf2 _ _ _ _ => ⟨⟨⟨hf2, by omega, b6, b7, b8⟩, vb, rb⟩, fun _ _ _ _ f3 _ _ _ hf3 _ _ _ _ => ⟨⟨⟨hf3, by omega, b6, b7, b8⟩, vb⟩, fun n _ _ _ _ _ hn => ?_⟩⟩⟩
  rw [hn, rank_inv, rb]
  omega
end Go.Proofs
