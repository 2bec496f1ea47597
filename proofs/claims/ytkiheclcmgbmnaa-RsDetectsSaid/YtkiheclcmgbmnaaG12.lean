/- Texts WO, WQ, WR, V2, WM, WP, WS, WT, WU, WV. -/
import Derived.Test.YtkiheclcmgbmnaaG11
import Derived.Test.YtkiheclcmgbmnaaProg
import Derived.Test.YtkiheclcmgbmnaaG10
import Derived.Test.YtkiheclcmgbmnaaG9
import Derived.Test.YtkiheclcmgbmnaaG5
set_option linter.unusedSimpArgs false
set_option linter.unusedVariables false
set_option maxRecDepth 100000
namespace Go.Proofs
open Go Go.Eng

def o_grow98 : Out := (.br (.cmp .lss (.var 0) (.lit (0)))
 (.stuck 15 0 0)
 (.br (.cmp .gtr (.arith .sub .i64 (.var 0) (.lit (0))) (.lit (0)))
 (.need (.cmp .leq (.lit (0)) (.arith .sub .i64 (.var 0) (.lit (0)))) (.need (.cmp .leq (.tims (.lit (1)) (.arith .sub .i64 (.var 0) (.lit (0)))) (.lit (140737488355328))) (.fresh 1 (.fresh 2 (.know (.cmp .leq (.dlen (.drep (.arith .sub .i64 (.var 0) (.lit (0))) (.rcons (.vint .u8 (.lit (0))) .rnil))) (.var 2)) (.need (.cmp .leq (.lit (0)) (.var 2)) (.ret 0 ⟨1, [(2, (.t (.drep (.arith .sub .i64 (.var 0) (.lit (0))) (.rcons (.vint .u8 (.lit (0))) .rnil)))), (3, (.t (.var 2))), (1, (.r 1))], [((.var 3), (.var 2)), ((.lit (0)), (.lit (0))), ((.lit (0)), (.lit (0)))], [], []⟩)))))))
 (.ret 0 ⟨1, [(2, (.t .dnil)), (3, (.t (.lit (0)))), (1, .nil)], [((.var 3), (.lit (0))), ((.lit (0)), (.lit (0))), ((.lit (0)), (.lit (0)))], [], []⟩)))
theorem o_grow98_eq : treeOf ⟨Try.prog, grow98C, [], []⟩ 100000 Try.f98 = o_grow98 := by kernel_rfl
theorem grow98_of (hd : ∀ c ∈ ([] : List Ctr), c.ok Try.prog) (h : ∀ ρ : Env, ρ.good → (grow98C).pre ρ → o_grow98.den ⟨Try.prog, grow98C, [], []⟩ ρ) : (grow98C).ok Try.prog :=
  ok_of_tree Try.func98 (fun a w => Try.call98 a w) hd 100000 (fun ρ hg hp => by rw [o_grow98_eq]; exact h ρ hg hp)
def o_concat92 : Out := (.need (.cmp .leq (.lit (0)) (.var 1)) (.inv 0 6 ⟨1000, [(1000, (.t (.lit (0)))), (1001, (.t (.lit (0))))], [((.var 1), (.var 1)), ((.var 2), (.var 2)), ((.var 1), (.var 1)), ((.lit (0)), (.lit (0))), ((.var 2), (.var 2)), ((.var 1), (.var 1)), ((.lit (0)), (.lit (0)))], [], []⟩ (.fresh 6 (.fresh 7 (.hyp 0 6 (.br (.cmp .lss (.var 6) (.var 1))
 (.need (.cmp .leq (.lit (0)) (.var 6)) (.need (.cmp .lss (.var 6) (.dlen (.var 3))) (.view (.vcell (.var 3) (.var 6) 0) [CK.int .u8] [5] 8 (.br (.cmp .lss (.arith .add .i64 (.var 7) (.dlen (.var 10))) (.lit (0)))
 (.stuck 15 0 0)
 (.back 0 6 ⟨1000, [(1000, (.t (.arith .add .i64 (.var 6) (.lit (1))))), (1001, (.t (.arith .add .i64 (.var 7) (.dlen (.var 10)))))], [((.var 1), (.var 1)), ((.var 2), (.var 2)), ((.var 1), (.var 1)), ((.lit (0)), (.lit (0))), ((.var 2), (.var 2)), ((.var 1), (.var 1)), ((.lit (0)), (.lit (0)))], [], []⟩)))))
 (.pre 0 ⟨0, [(0, (.t (.var 7)))], [], [], []⟩ (.both (.fresh 8 (.fresh 9 (.fresh 10 (.post 0 0 ⟨0, [(0, (.t (.var 7)))], [], [], []⟩ 8 (.inv 1 11 ⟨1000, [(1003, (.t (.var 9))), (1004, (.t (.lit (0)))), (1002, (.t (.var 10))), (1001, (.t (.lit (0)))), (1000, (.r 8))], [((.var 1002), (.var 10)), ((.var 1), (.var 1)), ((.var 2), (.var 2)), ((.var 1), (.var 1)), ((.lit (0)), (.lit (0))), ((.lit (0)), (.lit (0)))], [], []⟩ (.fresh 11 (.fresh 12 (.fresh 13 (.fresh 14 (.fresh 15 (.hyp 1 11 (.br (.cmp .lss (.var 15) (.var 1))
 (.need (.cmp .leq (.lit (0)) (.var 15)) (.need (.cmp .lss (.var 15) (.dlen (.var 3))) (.view (.vcell (.var 3) (.var 15) 0) [CK.int .u8] [5] 16 (.need (.cmp .eql (.var 12) (.dlen (.dtake (.var 14) (.var 12)))) (.need (.cmp .leq (.tims (.lit (1)) (.plus (.var 12) (.dlen (.var 18)))) (.lit (140737488355328))) (.fresh 19 (.fresh 20 (.back 1 11 ⟨1000, [(1003, (.t (.dapp (.dtake (.var 14) (.var 12)) (.var 18)))), (1004, (.t (.arith .add .i64 (.var 15) (.lit (1))))), (1002, (.t (.var 20))), (1001, (.t (.plus (.var 12) (.dlen (.var 18))))), (1000, (.r 19))], [((.var 1002), (.var 20)), ((.var 1), (.var 1)), ((.var 2), (.var 2)), ((.var 1), (.var 1)), ((.lit (0)), (.lit (0))), ((.lit (0)), (.lit (0)))], [], []⟩))))))))
 (.ret 0 ⟨6, [(9, (.t (.var 14))), (8, (.t (.var 13))), (7, (.t (.var 12))), (6, (.r 11))], [((.var 8), (.var 13)), ((.lit (0)), (.lit (0)))], [], []⟩))))))))))))) .top))))))))
theorem o_concat92_eq : treeOf ⟨Try.prog, concat92C, [grow98C], [concat92I, concat92J]⟩ 100000 Try.f92 = o_concat92 := by kernel_rfl
theorem concat92_of (hd : ∀ c ∈ ([grow98C] : List Ctr), c.ok Try.prog) (h : ∀ ρ : Env, ρ.good → (concat92C).pre ρ → o_concat92.den ⟨Try.prog, concat92C, [grow98C], [concat92I, concat92J]⟩ ρ) : (concat92C).ok Try.prog :=
  ok_of_tree Try.func92 (fun a w => Try.call92 a w) hd 100000 (fun ρ hg hp => by rw [o_concat92_eq]; exact h ρ hg hp)
def o_decode69 : Out := (.br (.and (.cmp .eql (.dlen (.var 1)) (.lit (0))) (.isnil 0))
 (.ret 0 ⟨11, [(12, (.t (.var 1))), (11, (.t (.lit (1))))], [((.lit (1)), (.lit (1)))], [], []⟩)
 (.pre 0 ⟨0, [(1, (.t (.var 3))), (0, (.t (.var 2)))], [], [], []⟩ (.both (.fresh 11 (.post 0 0 ⟨0, [(1, (.t (.var 3))), (0, (.t (.var 2)))], [], [], []⟩ 11 (.br (.not (.var 11))
 (.ret 0 ⟨11, [(12, (.t (.var 1))), (11, (.t (.lit (2))))], [((.lit (1)), (.lit (1)))], [], []⟩)
 (.br (.cmp .lss (.var 4) (.lit (0)))
 (.ret 0 ⟨11, [(12, (.t (.var 1))), (11, (.t (.lit (2))))], [((.lit (1)), (.lit (1)))], [], []⟩)
 (.br (.cmp .gtr (.var 4) (.lit (8192)))
 (.ret 0 ⟨11, [(12, (.t (.var 1))), (11, (.t (.lit (2))))], [((.lit (1)), (.lit (1)))], [], []⟩)
 (.pre 1 ⟨0, [(1, (.t (.var 4))), (0, (.t (.var 2)))], [], [], []⟩ (.both (.fresh 12 (.fresh 13 (.post 1 0 ⟨0, [(1, (.t (.var 4))), (0, (.t (.var 2)))], [], [], []⟩ 12 (.pre 2 ⟨0, [(8, (.r 10)), (7, (.t (.var 9))), (6, (.t (.var 8))), (5, (.t (.var 7))), (4, (.t (.var 6))), (3, (.r 5)), (2, (.t (.var 12))), (1, (.t (.var 3))), (0, (.t (.var 2)))], [((.lit (0)), (.lit (0)))], [], []⟩ (.both (.fresh 14 (.post 2 0 ⟨0, [(8, (.r 10)), (7, (.t (.var 9))), (6, (.t (.var 8))), (5, (.t (.var 7))), (4, (.t (.var 6))), (3, (.r 5)), (2, (.t (.var 12))), (1, (.t (.var 3))), (0, (.t (.var 2)))], [((.lit (0)), (.lit (0)))], [], []⟩ 14 (.br (.cmp .neq (.var 14) (.lit (0)))
 (.ret 0 ⟨11, [(12, (.t (.var 1))), (11, (.t (.var 14)))], [((.lit (1)), (.lit (1)))], [], []⟩)
 (.pre 3 ⟨0, [(9, (.r 10)), (8, (.t (.var 9))), (7, (.t (.var 8))), (1, (.t (.var 1))), (6, (.t (.var 7))), (5, (.t (.var 6))), (4, (.r 5)), (3, (.t (.var 3))), (2, (.t (.var 2))), (0, (.r 0))], [((.lit (1)), (.lit (1))), ((.lit (0)), (.lit (0))), ((.lit (0)), (.lit (0)))], [], []⟩ (.both (.fresh 15 (.fresh 16 (.fresh 17 (.fresh 18 (.fresh 19 (.fresh 20 (.fresh 21 (.fresh 22 (.post 3 0 ⟨0, [(9, (.r 10)), (8, (.t (.var 9))), (7, (.t (.var 8))), (1, (.t (.var 1))), (6, (.t (.var 7))), (5, (.t (.var 6))), (4, (.r 5)), (3, (.t (.var 3))), (2, (.t (.var 2))), (0, (.r 0))], [((.lit (1)), (.lit (1))), ((.lit (0)), (.lit (0))), ((.lit (0)), (.lit (0)))], [], []⟩ 15 (.fresh 23 (.pre 4 ⟨0, [(5, (.r 21)), (4, (.t (.var 2))), (3, (.t (.var 20))), (2, (.t (.var 2))), (1, (.t (.var 2))), (0, (.r 15))], [((.lit (0)), (.lit (0)))], [], []⟩ (.both (.fresh 24 (.fresh 25 (.fresh 26 (.fresh 27 (.post 4 0 ⟨0, [(5, (.r 21)), (4, (.t (.var 2))), (3, (.t (.var 20))), (2, (.t (.var 2))), (1, (.t (.var 2))), (0, (.r 15))], [((.lit (0)), (.lit (0)))], [], []⟩ 24 (.know (.cmp .leq (.dlen (.var 27)) (.var 26)) (.need (.cmp .leq (.lit (0)) (.var 25)) (.need (.cmp .leq (.lit (0)) (.var 26)) (.need (.cmp .leq (.lit (0)) (.var 4)) (.need (.cmp .leq (.var 4) (.var 26)) (.ret 1 ⟨11, [(14, (.t (.var 26))), (13, (.t (.var 27))), (12, (.t (.var 19))), (11, (.r 24))], [((.lit (1)), (.lit (1))), ((.lit (0)), (.lit (0))), ((.var 4), (.var 4)), ((.var 4), (.var 4)), ((.lit (0)), (.lit (0)))], [], []⟩))))))))))) .top)))))))))))) .top))))) .top))))) .top))))))) .top)))
theorem o_decode69_eq : treeOf ⟨Try.prog, decode69C, [sizes74C, piece26C, check88C, solve89C, concat92C], []⟩ 100000 Try.f69 = o_decode69 := by kernel_rfl
theorem decode69_of (hd : ∀ c ∈ ([sizes74C, piece26C, check88C, solve89C, concat92C] : List Ctr), c.ok Try.prog) (h : ∀ ρ : Env, ρ.good → (decode69C).pre ρ → o_decode69.den ⟨Try.prog, decode69C, [sizes74C, piece26C, check88C, solve89C, concat92C], []⟩ ρ) : (decode69C).ok Try.prog :=
  ok_of_tree Try.func69 (fun a w => Try.call69 a w) hd 100000 (fun ρ hg hp => by rw [o_decode69_eq]; exact h ρ hg hp)
def o_join70 : Out := (.pre 0 ⟨0, [(1, (.t (.var 1))), (0, (.t (.var 0)))], [], [], []⟩ (.both (.fresh 9 (.post 0 0 ⟨0, [(1, (.t (.var 1))), (0, (.t (.var 0)))], [], [], []⟩ 9 (.br (.not (.var 9))
 (.ret 0 ⟨9, [(9, (.t (.lit (2))))], [], [], []⟩)
 (.br (.cmp .lss (.var 2) (.lit (0)))
 (.ret 0 ⟨9, [(9, (.t (.lit (2))))], [], [], []⟩)
 (.br (.cmp .gtr (.var 2) (.lit (8192)))
 (.ret 0 ⟨9, [(9, (.t (.lit (2))))], [], [], []⟩)
 (.pre 1 ⟨0, [(1, (.t (.var 2))), (0, (.t (.var 0)))], [], [], []⟩ (.both (.fresh 10 (.fresh 11 (.post 1 0 ⟨0, [(1, (.t (.var 2))), (0, (.t (.var 0)))], [], [], []⟩ 10 (.pre 2 ⟨0, [(8, (.r 8)), (7, (.t (.var 7))), (6, (.t (.var 6))), (5, (.t (.var 5))), (4, (.t (.var 4))), (3, (.r 3)), (2, (.t (.var 10))), (1, (.t (.var 1))), (0, (.t (.var 0)))], [((.lit (0)), (.lit (0)))], [], []⟩ (.both (.fresh 12 (.post 2 0 ⟨0, [(8, (.r 8)), (7, (.t (.var 7))), (6, (.t (.var 6))), (5, (.t (.var 5))), (4, (.t (.var 4))), (3, (.r 3)), (2, (.t (.var 10))), (1, (.t (.var 1))), (0, (.t (.var 0)))], [((.lit (0)), (.lit (0)))], [], []⟩ 12 (.br (.cmp .neq (.var 12) (.lit (0)))
 (.ret 0 ⟨9, [(9, (.t (.var 12)))], [], [], []⟩)
 (.fresh 13 (.inv 0 14 ⟨1000, [(1003, (.t .dnil)), (1004, (.t (.lit (0)))), (1002, (.t (.lit (0)))), (1001, (.t (.lit (0)))), (1000, (.r 13))], [((.var 1002), (.lit (0))), ((.lit (0)), (.lit (0))), ((.var 5), (.var 5)), ((.var 4), (.var 4)), ((.lit (0)), (.lit (0))), ((.var 2), (.var 2)), ((.var 0), (.var 0))], [], []⟩ (.fresh 14 (.fresh 15 (.fresh 16 (.fresh 17 (.fresh 18 (.hyp 0 14 (.br (.cmp .lss (.var 18) (.var 0))
 (.pre 3 ⟨0, [(7, (.r 8)), (5, (.t (.var 7))), (4, (.t (.var 6))), (6, (.t (.conv .u8 (.var 18)))), (3, (.t (.var 5))), (2, (.t (.var 4))), (1, (.r 3)), (0, (.t (.var 0)))], [((.lit (0)), (.lit (0)))], [], []⟩ (.both (.fresh 19 (.fresh 20 (.fresh 21 (.fresh 22 (.post 3 0 ⟨0, [(7, (.r 8)), (5, (.t (.var 7))), (4, (.t (.var 6))), (6, (.t (.conv .u8 (.var 18)))), (3, (.t (.var 5))), (2, (.t (.var 4))), (1, (.r 3)), (0, (.t (.var 0)))], [((.lit (0)), (.lit (0)))], [], []⟩ 19 (.need (.cmp .eql (.var 15) (.dlen (.var 17))) (.need (.cmp .leq (.lit (0)) (.var 20)) (.need (.cmp .leq (.var 20) (.dlen (.var 22))) (.need (.cmp .leq (.tims (.lit (1)) (.plus (.var 15) (.var 20))) (.lit (140737488355328))) (.fresh 23 (.fresh 24 (.back 0 14 ⟨1000, [(1003, (.t (.dapp (.var 17) (.dtake (.var 22) (.var 20))))), (1004, (.t (.arith .add .i64 (.var 18) (.lit (1))))), (1002, (.t (.var 24))), (1001, (.t (.plus (.var 15) (.var 20)))), (1000, (.r 23))], [((.var 1002), (.var 24)), ((.lit (0)), (.lit (0))), ((.var 5), (.var 5)), ((.var 4), (.var 4)), ((.lit (0)), (.lit (0))), ((.var 2), (.var 2)), ((.var 0), (.var 0))], [], []⟩)))))))))))) .top))
 (.know (.cmp .leq (.dlen (.var 17)) (.var 16)) (.need (.cmp .leq (.lit (0)) (.var 15)) (.need (.cmp .leq (.lit (0)) (.var 16)) (.need (.cmp .leq (.lit (0)) (.var 2)) (.need (.cmp .leq (.var 2) (.var 16)) (.ret 1 ⟨9, [(11, (.t (.var 17))), (10, (.t (.var 16))), (9, (.r 14))], [((.var 10), (.var 16)), ((.lit (0)), (.lit (0))), ((.var 2), (.var 2)), ((.lit (0)), (.lit (0)))], [], []⟩)))))))))))))))))) .top))))) .top))))))) .top))
theorem o_join70_eq : treeOf ⟨Try.prog, join70C, [sizes29C, len27C, check93C, value94C], [join70I]⟩ 100000 Try.f70 = o_join70 := by kernel_rfl
theorem join70_of (hd : ∀ c ∈ ([sizes29C, len27C, check93C, value94C] : List Ctr), c.ok Try.prog) (h : ∀ ρ : Env, ρ.good → (join70C).pre ρ → o_join70.den ⟨Try.prog, join70C, [sizes29C, len27C, check93C, value94C], [join70I]⟩ ρ) : (join70C).ok Try.prog :=
  ok_of_tree Try.func70 (fun a w => Try.call70 a w) hd 100000 (fun ρ hg hp => by rw [o_join70_eq]; exact h ρ hg hp)
def o_lawDecodes : Out := (.fresh 28 (.pre 0 ⟨0, [(5, (.r 27)), (4, (.t (.var 26))), (3, (.t (.var 25))), (2, (.t (.var 18))), (1, (.t (.var 17))), (0, (.r 16))], [((.lit (0)), (.lit (0)))], [], []⟩ (.both (.post 0 0 ⟨0, [(5, (.r 27)), (4, (.t (.var 26))), (3, (.t (.var 25))), (2, (.t (.var 18))), (1, (.t (.var 17))), (0, (.r 16))], [((.lit (0)), (.lit (0)))], [], []⟩ 29 (.pre 6 ⟨0, [], [], [], []⟩ (.both (.post 6 0 ⟨0, [], [], [], []⟩ 29 (.ret 0 ⟨28, [], [], [((.bl true), (.bl true))], []⟩)) .top))) (.both (.fresh 29 (.fresh 30 (.fresh 31 (.fresh 32 (.post 0 1 ⟨0, [(5, (.r 27)), (4, (.t (.var 26))), (3, (.t (.var 25))), (2, (.t (.var 18))), (1, (.t (.var 17))), (0, (.r 16))], [((.lit (0)), (.lit (0)))], [], []⟩ 29 (.br (.cmp .gtr (.var 0) (.lit (60)))
 (.pre 1 ⟨0, [(1, (.t (.var 1))), (0, (.t (.var 0)))], [], [], []⟩ (.both (.fresh 33 (.post 1 0 ⟨0, [(1, (.t (.var 1))), (0, (.t (.var 0)))], [], [], []⟩ 33 (.br (.var 33)
 (.pre 6 ⟨0, [], [], [], []⟩ (.both (.post 6 0 ⟨0, [], [], [], []⟩ 34 (.ret 0 ⟨28, [], [], [((.bl true), (.bl true))], []⟩)) .top))
 (.both (.pre 2 ⟨0, [], [], [], []⟩ (.both (.fresh 34 (.fresh 35 (.post 2 0 ⟨0, [], [], [], []⟩ 34 (.both (.pre 3 ⟨0, [(10, (.r 32)), (9, (.t (.var 30))), (8, (.t (.var 31))), (1, (.t (.var 35))), (7, (.t (.var 30))), (6, (.t (.var 17))), (5, (.r 29)), (4, (.t (.var 2))), (3, (.t (.var 1))), (2, (.t (.var 0))), (0, (.r 34))], [((.lit (1)), (.lit (1))), ((.lit (0)), (.lit (0))), ((.lit (0)), (.lit (0)))], [], []⟩ (.both (.fresh 36 (.fresh 37 (.post 3 0 ⟨0, [(10, (.r 32)), (9, (.t (.var 30))), (8, (.t (.var 31))), (1, (.t (.var 35))), (7, (.t (.var 30))), (6, (.t (.var 17))), (5, (.r 29)), (4, (.t (.var 2))), (3, (.t (.var 1))), (2, (.t (.var 0))), (0, (.r 34))], [((.lit (1)), (.lit (1))), ((.lit (0)), (.lit (0))), ((.lit (0)), (.lit (0)))], [], []⟩ 36 (.pre 4 ⟨0, [(8, (.r 27)), (7, (.t (.var 26))), (6, (.t (.var 25))), (5, (.t (.var 18))), (4, (.t (.var 17))), (3, (.r 16)), (2, (.t (.var 2))), (1, (.t (.var 1))), (0, (.t (.var 0)))], [((.lit (0)), (.lit (0)))], [], []⟩ (.both (.fresh 38 (.post 4 0 ⟨0, [(8, (.r 27)), (7, (.t (.var 26))), (6, (.t (.var 25))), (5, (.t (.var 18))), (4, (.t (.var 17))), (3, (.r 16)), (2, (.t (.var 2))), (1, (.t (.var 1))), (0, (.t (.var 0)))], [((.lit (0)), (.lit (0)))], [], []⟩ 38 (.br (.cmp .eql (.var 36) (.var 38))
 (.br (.c2 .veq (.c1 .vbytes .dnil) (.c1 .vbytes .dnil))
 (.pre 5 ⟨0, [(11, (.r 27)), (9, (.t (.var 26))), (8, (.t (.var 25))), (4, (.t (.var 30))), (3, (.t (.var 31))), (10, (.r 32)), (7, (.t (.var 18))), (6, (.t (.var 17))), (5, (.r 16)), (2, (.t (.var 30))), (1, (.t (.var 17))), (0, (.r 29))], [((.lit (0)), (.lit (0))), ((.lit (0)), (.lit (0)))], [], []⟩ (.both (.fresh 39 (.post 5 0 ⟨0, [(11, (.r 27)), (9, (.t (.var 26))), (8, (.t (.var 25))), (4, (.t (.var 30))), (3, (.t (.var 31))), (10, (.r 32)), (7, (.t (.var 18))), (6, (.t (.var 17))), (5, (.r 16)), (2, (.t (.var 30))), (1, (.t (.var 17))), (0, (.r 29))], [((.lit (0)), (.lit (0))), ((.lit (0)), (.lit (0)))], [], []⟩ 39 (.br (.var 39)
 (.pre 6 ⟨0, [], [], [], []⟩ (.both (.post 6 0 ⟨0, [], [], [], []⟩ 40 (.ret 0 ⟨28, [], [], [((.bl true), (.bl true))], []⟩)) .top))
 (.stuck 7 0 0)))) .top))
 (.stuck 7 0 0))
 (.stuck 7 0 0)))) (.both (.fresh 38 (.fresh 39 (.fresh 40 (.post 4 1 ⟨0, [(8, (.r 27)), (7, (.t (.var 26))), (6, (.t (.var 25))), (5, (.t (.var 18))), (4, (.t (.var 17))), (3, (.r 16)), (2, (.t (.var 2))), (1, (.t (.var 1))), (0, (.t (.var 0)))], [((.lit (0)), (.lit (0)))], [], []⟩ 38 (.br (.cmp .eql (.var 36) (.lit (0)))
 (.need (.cmp .leq (.lit (0)) (.var 2)) (.need (.cmp .leq (.var 2) (.dlen (.var 40))) (.br (.c2 .veq (.c1 .vbytes .dnil) (.c1 .vbytes (.dtake (.var 40) (.var 2))))
 (.pre 5 ⟨0, [(11, (.r 27)), (9, (.t (.var 26))), (8, (.t (.var 25))), (4, (.t (.var 30))), (3, (.t (.var 31))), (10, (.r 32)), (7, (.t (.var 18))), (6, (.t (.var 17))), (5, (.r 16)), (2, (.t (.var 30))), (1, (.t (.var 17))), (0, (.r 29))], [((.lit (0)), (.lit (0))), ((.lit (0)), (.lit (0)))], [], []⟩ (.both (.fresh 41 (.post 5 0 ⟨0, [(11, (.r 27)), (9, (.t (.var 26))), (8, (.t (.var 25))), (4, (.t (.var 30))), (3, (.t (.var 31))), (10, (.r 32)), (7, (.t (.var 18))), (6, (.t (.var 17))), (5, (.r 16)), (2, (.t (.var 30))), (1, (.t (.var 17))), (0, (.r 29))], [((.lit (0)), (.lit (0))), ((.lit (0)), (.lit (0)))], [], []⟩ 41 (.br (.var 41)
 (.pre 6 ⟨0, [], [], [], []⟩ (.both (.post 6 0 ⟨0, [], [], [], []⟩ 42 (.ret 0 ⟨28, [], [], [((.bl true), (.bl true))], []⟩)) .top))
 (.stuck 7 0 0)))) .top))
 (.stuck 7 0 0))))
 (.stuck 7 0 0)))))) .top)))))) (.both (.fresh 36 (.fresh 37 (.fresh 38 (.fresh 39 (.post 3 1 ⟨0, [(10, (.r 32)), (9, (.t (.var 30))), (8, (.t (.var 31))), (1, (.t (.var 35))), (7, (.t (.var 30))), (6, (.t (.var 17))), (5, (.r 29)), (4, (.t (.var 2))), (3, (.t (.var 1))), (2, (.t (.var 0))), (0, (.r 34))], [((.lit (1)), (.lit (1))), ((.lit (0)), (.lit (0))), ((.lit (0)), (.lit (0)))], [], []⟩ 36 (.pre 4 ⟨0, [(8, (.r 27)), (7, (.t (.var 26))), (6, (.t (.var 25))), (5, (.t (.var 18))), (4, (.t (.var 17))), (3, (.r 16)), (2, (.t (.var 2))), (1, (.t (.var 1))), (0, (.t (.var 0)))], [((.lit (0)), (.lit (0)))], [], []⟩ (.both (.fresh 40 (.post 4 0 ⟨0, [(8, (.r 27)), (7, (.t (.var 26))), (6, (.t (.var 25))), (5, (.t (.var 18))), (4, (.t (.var 17))), (3, (.r 16)), (2, (.t (.var 2))), (1, (.t (.var 1))), (0, (.t (.var 0)))], [((.lit (0)), (.lit (0)))], [], []⟩ 40 (.br (.cmp .eql (.lit (0)) (.var 40))
 (.need (.cmp .leq (.lit (0)) (.var 2)) (.need (.cmp .leq (.var 2) (.dlen (.var 38))) (.br (.c2 .veq (.c1 .vbytes (.dtake (.var 38) (.var 2))) (.c1 .vbytes .dnil))
 (.pre 5 ⟨0, [(11, (.r 27)), (9, (.t (.var 26))), (8, (.t (.var 25))), (4, (.t (.var 30))), (3, (.t (.var 31))), (10, (.r 32)), (7, (.t (.var 18))), (6, (.t (.var 17))), (5, (.r 16)), (2, (.t (.var 30))), (1, (.t (.var 17))), (0, (.r 29))], [((.lit (0)), (.lit (0))), ((.lit (0)), (.lit (0)))], [], []⟩ (.both (.fresh 41 (.post 5 0 ⟨0, [(11, (.r 27)), (9, (.t (.var 26))), (8, (.t (.var 25))), (4, (.t (.var 30))), (3, (.t (.var 31))), (10, (.r 32)), (7, (.t (.var 18))), (6, (.t (.var 17))), (5, (.r 16)), (2, (.t (.var 30))), (1, (.t (.var 17))), (0, (.r 29))], [((.lit (0)), (.lit (0))), ((.lit (0)), (.lit (0)))], [], []⟩ 41 (.br (.var 41)
 (.pre 6 ⟨0, [], [], [], []⟩ (.both (.post 6 0 ⟨0, [], [], [], []⟩ 42 (.ret 0 ⟨28, [], [], [((.bl true), (.bl true))], []⟩)) .top))
 (.stuck 7 0 0)))) .top))
 (.stuck 7 0 0))))
 (.stuck 7 0 0)))) (.both (.fresh 40 (.fresh 41 (.fresh 42 (.post 4 1 ⟨0, [(8, (.r 27)), (7, (.t (.var 26))), (6, (.t (.var 25))), (5, (.t (.var 18))), (4, (.t (.var 17))), (3, (.r 16)), (2, (.t (.var 2))), (1, (.t (.var 1))), (0, (.t (.var 0)))], [((.lit (0)), (.lit (0)))], [], []⟩ 40 (.need (.cmp .leq (.lit (0)) (.var 2)) (.need (.cmp .leq (.var 2) (.dlen (.var 38))) (.need (.cmp .leq (.var 2) (.dlen (.var 42))) (.br (.c2 .veq (.c1 .vbytes (.dtake (.var 38) (.var 2))) (.c1 .vbytes (.dtake (.var 42) (.var 2))))
 (.pre 5 ⟨0, [(11, (.r 27)), (9, (.t (.var 26))), (8, (.t (.var 25))), (4, (.t (.var 30))), (3, (.t (.var 31))), (10, (.r 32)), (7, (.t (.var 18))), (6, (.t (.var 17))), (5, (.r 16)), (2, (.t (.var 30))), (1, (.t (.var 17))), (0, (.r 29))], [((.lit (0)), (.lit (0))), ((.lit (0)), (.lit (0)))], [], []⟩ (.both (.fresh 43 (.post 5 0 ⟨0, [(11, (.r 27)), (9, (.t (.var 26))), (8, (.t (.var 25))), (4, (.t (.var 30))), (3, (.t (.var 31))), (10, (.r 32)), (7, (.t (.var 18))), (6, (.t (.var 17))), (5, (.r 16)), (2, (.t (.var 30))), (1, (.t (.var 17))), (0, (.r 29))], [((.lit (0)), (.lit (0))), ((.lit (0)), (.lit (0)))], [], []⟩ 43 (.br (.var 43)
 (.pre 6 ⟨0, [], [], [], []⟩ (.both (.post 6 0 ⟨0, [], [], [], []⟩ 44 (.ret 0 ⟨28, [], [], [((.bl true), (.bl true))], []⟩)) .top))
 (.stuck 7 0 0)))) .top))
 (.stuck 7 0 0))))))))) .top)))))))) .top))) .top)))) .top)) .top)))) .top))
 (.both (.pre 2 ⟨0, [], [], [], []⟩ (.both (.fresh 33 (.fresh 34 (.post 2 0 ⟨0, [], [], [], []⟩ 33 (.both (.pre 3 ⟨0, [(10, (.r 32)), (9, (.t (.var 30))), (8, (.t (.var 31))), (1, (.t (.var 34))), (7, (.t (.var 30))), (6, (.t (.var 17))), (5, (.r 29)), (4, (.t (.var 2))), (3, (.t (.var 1))), (2, (.t (.var 0))), (0, (.r 33))], [((.lit (1)), (.lit (1))), ((.lit (0)), (.lit (0))), ((.lit (0)), (.lit (0)))], [], []⟩ (.both (.fresh 35 (.fresh 36 (.post 3 0 ⟨0, [(10, (.r 32)), (9, (.t (.var 30))), (8, (.t (.var 31))), (1, (.t (.var 34))), (7, (.t (.var 30))), (6, (.t (.var 17))), (5, (.r 29)), (4, (.t (.var 2))), (3, (.t (.var 1))), (2, (.t (.var 0))), (0, (.r 33))], [((.lit (1)), (.lit (1))), ((.lit (0)), (.lit (0))), ((.lit (0)), (.lit (0)))], [], []⟩ 35 (.pre 4 ⟨0, [(8, (.r 27)), (7, (.t (.var 26))), (6, (.t (.var 25))), (5, (.t (.var 18))), (4, (.t (.var 17))), (3, (.r 16)), (2, (.t (.var 2))), (1, (.t (.var 1))), (0, (.t (.var 0)))], [((.lit (0)), (.lit (0)))], [], []⟩ (.both (.fresh 37 (.post 4 0 ⟨0, [(8, (.r 27)), (7, (.t (.var 26))), (6, (.t (.var 25))), (5, (.t (.var 18))), (4, (.t (.var 17))), (3, (.r 16)), (2, (.t (.var 2))), (1, (.t (.var 1))), (0, (.t (.var 0)))], [((.lit (0)), (.lit (0)))], [], []⟩ 37 (.br (.cmp .eql (.var 35) (.var 37))
 (.br (.c2 .veq (.c1 .vbytes .dnil) (.c1 .vbytes .dnil))
 (.pre 5 ⟨0, [(11, (.r 27)), (9, (.t (.var 26))), (8, (.t (.var 25))), (4, (.t (.var 30))), (3, (.t (.var 31))), (10, (.r 32)), (7, (.t (.var 18))), (6, (.t (.var 17))), (5, (.r 16)), (2, (.t (.var 30))), (1, (.t (.var 17))), (0, (.r 29))], [((.lit (0)), (.lit (0))), ((.lit (0)), (.lit (0)))], [], []⟩ (.both (.fresh 38 (.post 5 0 ⟨0, [(11, (.r 27)), (9, (.t (.var 26))), (8, (.t (.var 25))), (4, (.t (.var 30))), (3, (.t (.var 31))), (10, (.r 32)), (7, (.t (.var 18))), (6, (.t (.var 17))), (5, (.r 16)), (2, (.t (.var 30))), (1, (.t (.var 17))), (0, (.r 29))], [((.lit (0)), (.lit (0))), ((.lit (0)), (.lit (0)))], [], []⟩ 38 (.br (.var 38)
 (.pre 6 ⟨0, [], [], [], []⟩ (.both (.post 6 0 ⟨0, [], [], [], []⟩ 39 (.ret 0 ⟨28, [], [], [((.bl true), (.bl true))], []⟩)) .top))
 (.stuck 7 0 0)))) .top))
 (.stuck 7 0 0))
 (.stuck 7 0 0)))) (.both (.fresh 37 (.fresh 38 (.fresh 39 (.post 4 1 ⟨0, [(8, (.r 27)), (7, (.t (.var 26))), (6, (.t (.var 25))), (5, (.t (.var 18))), (4, (.t (.var 17))), (3, (.r 16)), (2, (.t (.var 2))), (1, (.t (.var 1))), (0, (.t (.var 0)))], [((.lit (0)), (.lit (0)))], [], []⟩ 37 (.br (.cmp .eql (.var 35) (.lit (0)))
 (.need (.cmp .leq (.lit (0)) (.var 2)) (.need (.cmp .leq (.var 2) (.dlen (.var 39))) (.br (.c2 .veq (.c1 .vbytes .dnil) (.c1 .vbytes (.dtake (.var 39) (.var 2))))
 (.pre 5 ⟨0, [(11, (.r 27)), (9, (.t (.var 26))), (8, (.t (.var 25))), (4, (.t (.var 30))), (3, (.t (.var 31))), (10, (.r 32)), (7, (.t (.var 18))), (6, (.t (.var 17))), (5, (.r 16)), (2, (.t (.var 30))), (1, (.t (.var 17))), (0, (.r 29))], [((.lit (0)), (.lit (0))), ((.lit (0)), (.lit (0)))], [], []⟩ (.both (.fresh 40 (.post 5 0 ⟨0, [(11, (.r 27)), (9, (.t (.var 26))), (8, (.t (.var 25))), (4, (.t (.var 30))), (3, (.t (.var 31))), (10, (.r 32)), (7, (.t (.var 18))), (6, (.t (.var 17))), (5, (.r 16)), (2, (.t (.var 30))), (1, (.t (.var 17))), (0, (.r 29))], [((.lit (0)), (.lit (0))), ((.lit (0)), (.lit (0)))], [], []⟩ 40 (.br (.var 40)
 (.pre 6 ⟨0, [], [], [], []⟩ (.both (.post 6 0 ⟨0, [], [], [], []⟩ 41 (.ret 0 ⟨28, [], [], [((.bl true), (.bl true))], []⟩)) .top))
 (.stuck 7 0 0)))) .top))
 (.stuck 7 0 0))))
 (.stuck 7 0 0)))))) .top)))))) (.both (.fresh 35 (.fresh 36 (.fresh 37 (.fresh 38 (.post 3 1 ⟨0, [(10, (.r 32)), (9, (.t (.var 30))), (8, (.t (.var 31))), (1, (.t (.var 34))), (7, (.t (.var 30))), (6, (.t (.var 17))), (5, (.r 29)), (4, (.t (.var 2))), (3, (.t (.var 1))), (2, (.t (.var 0))), (0, (.r 33))], [((.lit (1)), (.lit (1))), ((.lit (0)), (.lit (0))), ((.lit (0)), (.lit (0)))], [], []⟩ 35 (.pre 4 ⟨0, [(8, (.r 27)), (7, (.t (.var 26))), (6, (.t (.var 25))), (5, (.t (.var 18))), (4, (.t (.var 17))), (3, (.r 16)), (2, (.t (.var 2))), (1, (.t (.var 1))), (0, (.t (.var 0)))], [((.lit (0)), (.lit (0)))], [], []⟩ (.both (.fresh 39 (.post 4 0 ⟨0, [(8, (.r 27)), (7, (.t (.var 26))), (6, (.t (.var 25))), (5, (.t (.var 18))), (4, (.t (.var 17))), (3, (.r 16)), (2, (.t (.var 2))), (1, (.t (.var 1))), (0, (.t (.var 0)))], [((.lit (0)), (.lit (0)))], [], []⟩ 39 (.br (.cmp .eql (.lit (0)) (.var 39))
 (.need (.cmp .leq (.lit (0)) (.var 2)) (.need (.cmp .leq (.var 2) (.dlen (.var 37))) (.br (.c2 .veq (.c1 .vbytes (.dtake (.var 37) (.var 2))) (.c1 .vbytes .dnil))
 (.pre 5 ⟨0, [(11, (.r 27)), (9, (.t (.var 26))), (8, (.t (.var 25))), (4, (.t (.var 30))), (3, (.t (.var 31))), (10, (.r 32)), (7, (.t (.var 18))), (6, (.t (.var 17))), (5, (.r 16)), (2, (.t (.var 30))), (1, (.t (.var 17))), (0, (.r 29))], [((.lit (0)), (.lit (0))), ((.lit (0)), (.lit (0)))], [], []⟩ (.both (.fresh 40 (.post 5 0 ⟨0, [(11, (.r 27)), (9, (.t (.var 26))), (8, (.t (.var 25))), (4, (.t (.var 30))), (3, (.t (.var 31))), (10, (.r 32)), (7, (.t (.var 18))), (6, (.t (.var 17))), (5, (.r 16)), (2, (.t (.var 30))), (1, (.t (.var 17))), (0, (.r 29))], [((.lit (0)), (.lit (0))), ((.lit (0)), (.lit (0)))], [], []⟩ 40 (.br (.var 40)
 (.pre 6 ⟨0, [], [], [], []⟩ (.both (.post 6 0 ⟨0, [], [], [], []⟩ 41 (.ret 0 ⟨28, [], [], [((.bl true), (.bl true))], []⟩)) .top))
 (.stuck 7 0 0)))) .top))
 (.stuck 7 0 0))))
 (.stuck 7 0 0)))) (.both (.fresh 39 (.fresh 40 (.fresh 41 (.post 4 1 ⟨0, [(8, (.r 27)), (7, (.t (.var 26))), (6, (.t (.var 25))), (5, (.t (.var 18))), (4, (.t (.var 17))), (3, (.r 16)), (2, (.t (.var 2))), (1, (.t (.var 1))), (0, (.t (.var 0)))], [((.lit (0)), (.lit (0)))], [], []⟩ 39 (.need (.cmp .leq (.lit (0)) (.var 2)) (.need (.cmp .leq (.var 2) (.dlen (.var 37))) (.need (.cmp .leq (.var 2) (.dlen (.var 41))) (.br (.c2 .veq (.c1 .vbytes (.dtake (.var 37) (.var 2))) (.c1 .vbytes (.dtake (.var 41) (.var 2))))
 (.pre 5 ⟨0, [(11, (.r 27)), (9, (.t (.var 26))), (8, (.t (.var 25))), (4, (.t (.var 30))), (3, (.t (.var 31))), (10, (.r 32)), (7, (.t (.var 18))), (6, (.t (.var 17))), (5, (.r 16)), (2, (.t (.var 30))), (1, (.t (.var 17))), (0, (.r 29))], [((.lit (0)), (.lit (0))), ((.lit (0)), (.lit (0)))], [], []⟩ (.both (.fresh 42 (.post 5 0 ⟨0, [(11, (.r 27)), (9, (.t (.var 26))), (8, (.t (.var 25))), (4, (.t (.var 30))), (3, (.t (.var 31))), (10, (.r 32)), (7, (.t (.var 18))), (6, (.t (.var 17))), (5, (.r 16)), (2, (.t (.var 30))), (1, (.t (.var 17))), (0, (.r 29))], [((.lit (0)), (.lit (0))), ((.lit (0)), (.lit (0)))], [], []⟩ 42 (.br (.var 42)
 (.pre 6 ⟨0, [], [], [], []⟩ (.both (.post 6 0 ⟨0, [], [], [], []⟩ 43 (.ret 0 ⟨28, [], [], [((.bl true), (.bl true))], []⟩)) .top))
 (.stuck 7 0 0)))) .top))
 (.stuck 7 0 0))))))))) .top)))))))) .top))) .top)))) .top)) .top))))))) .top))))
theorem o_lawDecodes_eq : treeOf ⟨Try.prog, lawDecodesC, [mine68C, sizes29C, newFieldC, decode69C, join70C, same33Q, knownC], []⟩ 100000 Try.f23 = o_lawDecodes := by kernel_rfl
theorem lawDecodes_of (hd : ∀ c ∈ ([mine68C, sizes29C, newFieldC, decode69C, join70C, same33Q, knownC] : List Ctr), c.ok Try.prog) (h : ∀ ρ : Env, ρ.good → (lawDecodesC).pre ρ → o_lawDecodes.den ⟨Try.prog, lawDecodesC, [mine68C, sizes29C, newFieldC, decode69C, join70C, same33Q, knownC], []⟩ ρ) : (lawDecodesC).ok Try.prog :=
  ok_of_tree Try.func23 (fun a w => Try.call23 a w) hd 100000 (fun ρ hg hp => by rw [o_lawDecodes_eq]; exact h ρ hg hp)
end Go.Proofs

set_option linter.unusedSimpArgs false
set_option linter.unusedVariables false
namespace Go.Proofs
open Go Go.Eng
set_option maxRecDepth 100000
theorem grow98_ok : grow98C.ok Try.prog := grow98_of (by simp) fun ρ hg hp => by
  obtain ⟨n0, n1⟩ := hp
  simp (config := { maxSteps := 4000000 }) [o_grow98, grow98C]
  rw [sub64 (by omega) (by omega)]
  exact ⟨n0, fun _ _ => ⟨by omega, by omega, fun u _ h => by omega⟩⟩
theorem allB_app {a b : Rows'} (h : allB a) (h' : allB b) : allB (a ++ b) := fun r hr => (List.mem_append.1 hr).elim (h r) (h' r)
theorem bI_app {a b : Rows'} : bI (a ++ b) = bI a ++ bI b := by simp [bI]
theorem concat92_ok : concat92C.ok Try.prog := concat92_of (by simp [grow98_ok]) fun ρ hg hp => by
  obtain ⟨n0, n1, nd, hr1, hcol⟩ := hp
  simp (config := { maxSteps := 4000000 }) [o_concat92, concat92C, concat92I, concat92J, grow98C]
  have hle : ∀ i : Nat, (i : Int) ≤ (ρ 1).i → (catN (colF (ρ 5).h (ρ 3).d) i).length ≤ i * 9000 := fun i hi => catN_le fun j hj => (hcol j (by omega)).2
  have hat : ∀ i : Int, 0 ≤ i → i < (ρ 1).i → ∃ d, Rd (ρ 5).h kB (cellV (ρ 3).d i 0) d ∧ allB d ∧ colF (ρ 5).h (ρ 3).d i.toNat = bI d ∧ d.length ≤ 9000 := fun i i0 i1 => by
    obtain ⟨d, h1, h2, h3⟩ := col_at (hcol i.toNat (by omega)).1 i0
    refine ⟨d, h1, h2, h3, ?_⟩
    have := (hcol i.toNat (by omega)).2
    rwa [h3, bI_len] at this
  have hnext : ∀ i : Int, 0 ≤ i → catN (colF (ρ 5).h (ρ 3).d) (i + 1).toNat = catN (colF (ρ 5).h (ρ 3).d) i.toNat ++ colF (ρ 5).h (ρ 3).d i.toNat := fun i i0 => by
    rw [show (i + 1).toNat = i.toNat + 1 by omega]; rfl
  refine ⟨n0, ⟨n0, rfl⟩, fun i _ t _ i0 i1 ht => ⟨fun hi => ?_, fun hi => ?_⟩⟩
  · obtain ⟨d, h1, h2, h3, h4⟩ := hat i.i i0 hi
    have h5 := hle i.i.toNat (by omega)
    have e1 : arithOf .add .i64 t.i (d.length : Int) = t.i + d.length := add64 (by omega) (by omega)
    have e2 : arithOf .add .i64 i.i 1 = i.i + 1 := add64 (by omega) (by omega)
    refine ⟨i0, by omega, d, h1, ?_⟩
    rw [e1, e2]
    exact ⟨by omega, fun _ => ⟨⟨by omega, by omega, by rw [hnext _ i0, List.length_append, h3, bI_len]; omega⟩, by omega⟩⟩
  · have h5 := hle i.i.toNat (by omega)
    refine ⟨⟨by omega, by omega⟩, ⟨n0, rfl, fun r hr => (by cases hr), rfl⟩, fun l _ D _ j _ j0 j1 hl hlD hB hb => ⟨fun hj => ?_, fun hj => ?_⟩⟩
    · obtain ⟨d, h1, h2, h3, h4⟩ := hat j.i j0 hj
      have h6 := hle j.i.toNat (by omega)
      have hmin : min l.i.toNat D.d.length = l.i.toNat := Nat.min_eq_left (by omega)
      rw [hmin]
      have e2 : arithOf .add .i64 j.i 1 = j.i + 1 := add64 (by omega) (by omega)
      rw [e2]
      have htk : (D.d.take l.i.toNat ++ d).take (l.i + (d.length : Int)).toNat = D.d.take l.i.toNat ++ d := List.take_of_length_le (by rw [List.length_append, List.length_take, hmin]; omega)
      refine ⟨j0, by omega, d, h1, ?_⟩
      rw [htk]
      exact ⟨by omega, by omega, ⟨by omega, by omega, by rw [hnext _ j0, List.length_append, h3, bI_len]; omega, by omega, allB_app hB h2, by rw [bI_app, hb, hnext _ j0, h3]⟩, by omega⟩
    · have he : j.i = (ρ 1).i := by omega
      rw [he] at hl hb
      exact ⟨hl, hlD, hB, hb⟩
theorem dec_len {h : Hp} {D : Rows'} {k total n size : Int} (hp : pcPre h D n) (hd : decK h D k total size n) (h0 : 0 ≤ size) : size.toNat ≤ k.toNat * pcN h D 0 ∧ pcN h D 0 ≤ 8192 ∧ 1 ≤ k ∧ k ≤ 255 := by
  obtain ⟨P, hl⟩ := pcInD hp hd
  have h1 := P.k1
  have h2 := P.k2
  have h3 := P.k3
  have h8 := P.sol.2.2.2.2.2.1
  refine ⟨?_, h8, h1, by omega⟩
  rw [hl]
  exact pieceLen_ge (by omega)
theorem piece_pl {k size : Int} {a b : Int} (k1 : 1 ≤ k) (k2 : k ≤ 255) (s0 : 0 ≤ size) (s1 : size ≤ 8192) (h : ¬ pieceBad k size → a = (size + k - 1).tdiv k ∧ b = 0) : a = plI k size ∧ b = 0 := by
  obtain ⟨h1, h2⟩ := h (by unfold pieceBad; omega)
  refine ⟨?_, h2⟩
  have hd := pieceLen_tdiv (k := k) (n := size.toNat) k1
  rw [Int.toNat_of_nonneg s0] at hd
  rw [h1, hd]; rfl
theorem decode69_ok : decode69C.ok Try.prog := decode69_of (by simp [sizes74_ok, piece26_ok, check88_ok, solve89_ok, concat92_ok]) fun ρ hg hp => by
  obtain ⟨hf, hpre⟩ := hp
  have hpre' := hpre
  obtain ⟨n0, n1, hpc⟩ := hpre'
  simp (config := { maxSteps := 4000000 }) [o_decode69, decode69C, sizes74C, piece26C, check88C, chkOf, solve89C, genW, concat92C]
  refine ⟨fun h => (field_some hf h).elim, fun _ b _ hb => ⟨fun h => ⟨hf, .inl ⟨.inl (by rw [← hb, h]), rfl⟩⟩, fun h => ⟨fun hi => ⟨hf, .inl ⟨.inr (.inl hi), rfl⟩⟩, fun s0 => ⟨fun hi => ⟨hf, .inl ⟨.inr (.inr hi), rfl⟩⟩, fun s1 l _ e0 _ _ hl => ?_⟩⟩⟩⟩
  have hs : sizesB (ρ 2).i (ρ 3).i = true := by rw [← hb, h]
  obtain ⟨k1, k2, k3⟩ := sizesB_iff.1 hs
  obtain ⟨hl, _⟩ := piece_pl k1 (by omega) s0 s1 hl
  rw [hl]
  refine ⟨⟨k3, n0, n1, hpc⟩, fun e _ he => ⟨fun hne => ⟨hf, .inr ⟨hs, s0, s1, he, hne⟩⟩, fun he0 => ?_⟩⟩
  rw [he0] at he
  have hK : decK (ρ 10).h (ρ 8).d (ρ 2).i (ρ 3).i (ρ 4).i (ρ 6).i := ⟨hs, s0, s1, he⟩
  obtain ⟨P, hN⟩ := pcInD hpre hK
  obtain ⟨hd1, hd2, _, _⟩ := dec_len hpre hK s0
  refine ⟨⟨hf, P.sol⟩, fun _ _ _ _ f1 _ C _ H _ _ _ hf1 hCl hCr ht _ _ => ?_⟩
  obtain ⟨c1, c2, c3⟩ := P.cat ht
  refine ⟨⟨by omega, by omega, by omega, hCr, fun j hj => ⟨(c1 j (by omega)).1, by rw [(c1 j (by omega)).2]; omega⟩⟩, fun m _ cp _ d _ hm hmd hB hb hcp => ?_⟩
  rw [c2] at hm hb
  rw [c3] at hm
  have htk : (d.d.take (ρ 4).i.toNat) = (d.d.take m.i.toNat).take (ρ 4).i.toNat := by rw [List.take_take, Nat.min_eq_left (by omega)]
  exact ⟨by omega, by omega, s0, by omega, hf1, hK, by omega, by rw [htk]; exact allB_take hB, by rw [htk, bI_take, hb]⟩
theorem join70_ok : join70C.ok Try.prog := join70_of (by simp [sizes29_ok, len27_ok, check93_ok, value94_ok]) fun ρ hg hp => by
  obtain ⟨hpre, hcap⟩ := hp
  have hpre' := hpre
  obtain ⟨n0, n1, hpc⟩ := hpre'
  simp (config := { maxSteps := 4000000 }) [o_join70, join70C, join70I, sizes29C, sizes74C, len27C, piece26C, check93C, chkOf, value94C]
  refine fun b _ hb => ⟨fun h => .inl ⟨.inl (by rw [← hb, h]), rfl⟩, fun h => ⟨fun hi => .inl ⟨.inr (.inl hi), rfl⟩, fun s0 => ⟨fun hi => .inl ⟨.inr (.inr hi), rfl⟩, fun s1 l _ e0 _ _ hl => ?_⟩⟩⟩
  have hs : sizesB (ρ 0).i (ρ 1).i = true := by rw [← hb, h]
  obtain ⟨k1, k2, k3⟩ := sizesB_iff.1 hs
  obtain ⟨hl, _⟩ := piece_pl k1 (by omega) s0 s1 hl
  rw [hl]
  refine ⟨⟨k3, n0, n1, hpc⟩, fun e _ he => ⟨fun hne => .inr ⟨hs, s0, s1, he, hne⟩, fun he0 => ?_⟩⟩
  rw [he0] at he
  have hK : decK (ρ 8).h (ρ 6).d (ρ 0).i (ρ 1).i (ρ 2).i (ρ 4).i := ⟨hs, s0, s1, he⟩
  obtain ⟨P, hN⟩ := pcInD hpre hK
  obtain ⟨hd1, hd2, _, _⟩ := dec_len hpre hK s0
  obtain ⟨v1, v2, v3, v4, v5⟩ := P.value
  have hkn := P.kn
  refine ⟨⟨hK, by omega, fun r hr => (by cases hr), rfl⟩, fun m _ cp _ d _ i _ _ i0 i1 hm hB hb => ⟨fun hi => ?_, fun hi hcp => ?_⟩⟩
  · rw [wrapB_in i0 (by omega)]
    refine ⟨⟨k1, by omega, hkn, hcap, n1, v5, v1, v2, v3, v4, ⟨i0, by omega⟩⟩, fun a _ x _ ha hx hxB hxe => ?_⟩
    have hdl : d.d.length = i.i.toNat * pcN (ρ 8).h (ρ 6).d 0 := by rw [← bI_len, hb]; exact catN_len fun j _ => val_len
    have hdb : i.i.toNat * pcN (ρ 8).h (ρ 6).d 0 ≤ 255 * 8192 := Nat.mul_le_mul (by omega) hd2
    have e2 : arithOf .add .i64 i.i 1 = i.i + 1 := add64 (by omega) (by omega)
    have htk : x.d.take a.i.toNat = x.d := List.take_of_length_le (by omega)
    rw [e2, htk]
    refine ⟨hm, by omega, by omega, by omega, ⟨hK, by omega, by omega, by omega, allB_app hB hxB, ?_⟩, by omega⟩
    rw [bI_app, hb, hxe, show (i.i + 1).toNat = i.i.toNat + 1 by omega, catN]
    congr 1
    rw [Int.toNat_of_nonneg i0]
    rfl
  · have he : i.i = (ρ 0).i := by omega
    rw [he] at hb
    have hdl : d.d.length = (ρ 0).i.toNat * pcN (ρ 8).h (ρ 6).d 0 := by rw [← bI_len, hb]; exact catN_len fun j _ => val_len
    exact ⟨by omega, by omega, s0, by omega, hK, by omega, allB_take hB, by rw [bI_take, hb]; rfl⟩
end Go.Proofs

set_option linter.unusedSimpArgs false
set_option linter.unusedVariables false
namespace Go.Proofs
open Go Go.Eng
variable {h h' : Hp} {D D' : Rows'} {k total n size e e' : Int}
theorem decE_same (hs : samePc h h' D D' n.toNat n.toNat) (hr : decE h D k total size n e) : decE h' D' k total size n e := by
  rcases hr with hr | ⟨h1, h2, h3, h4, h5⟩
  · exact .inl hr
  · exact .inr ⟨h1, h2, h3, chkH_same hs h4, h5⟩
theorem decK_same (hs : samePc h h' D D' n.toNat n.toNat) (hr : decK h D k total size n) : decK h' D' k total size n := ⟨hr.1, hr.2.1, hr.2.2.1, chkH_same hs hr.2.2.2⟩
theorem decE_eq (hr : decE h D k total size n e) (hr' : decE h D k total size n e') : e = e' := by
  rcases hr with ⟨h1, rfl⟩ | ⟨h1, h2, h3, h4, h5⟩ <;> rcases hr' with ⟨g1, rfl⟩ | ⟨g1, g2, g3, g4, g5⟩
  · rfl
  · rcases h1 with h1 | h1 | h1
    · rw [h1] at g1; cases g1
    · omega
    · omega
  · rcases g1 with g1 | g1 | g1
    · rw [g1] at h1; cases h1
    · omega
    · omega
  · exact chkH_eq h4 g4
theorem decE_K (hr : decE h D k total size n e) (hk : decK h D k total size n) : False := by
  obtain ⟨g1, g2, g3, g4⟩ := hk
  rcases hr with ⟨h1, rfl⟩ | ⟨h1, h2, h3, h4, h5⟩
  · rcases h1 with h1 | h1 | h1
    · rw [h1] at g1; cases g1
    · omega
    · omega
  · exact h5 (chkH_eq h4 g4)
theorem decL_same {m kk : Nat} (hs : samePc h h' D D' m m) (h1 : 1 ≤ kk) (hk : kk ≤ m) : decL h D kk = decL h' D' kk := catN_congr fun j hj => same_val hs h1 hk _
set_option maxRecDepth 100000 in
set_option maxHeartbeats 4000000 in
theorem lawDecodes_ok : lawDecodesC.ok Try.prog := lawDecodes_of (by simp [mine68_ok, sizes29_ok, newField_ok, decode69_ok, join70_ok, same33q_ok, known_ok]) fun ρ hg hp => by
  obtain ⟨⟨w0, w1, w2, w3, ⟨d0, d1, d2, d3⟩, ⟨o0, o1, o2, o3⟩, _, hm, ⟨p0, p1, p2⟩, hpc⟩, hcap⟩ := hp
  simp (config := { maxSteps := 40000000 }) [o_lawDecodes, lawDecodesC, lawIs, lawRet, newFieldC, mine68C, sizes29C, sizes74C, decode69C, join70C, same33Q, same33Of, knownC]
  have hpre0 : pcPre (ρ 27).h (ρ 25).d (ρ 17).i := ⟨p0, p1, hpc⟩
  refine ⟨⟨p0, p1, hpc⟩, fun D _ h _ h60 hL hDl hpD hs => ?_⟩
  have hpre : pcPre h.h D.d (ρ 17).i := ⟨p0, p1, hpD⟩
  refine ⟨fun hk b _ hb hbf f0 _ hf0 => ?_, fun hk f0 _ hf0 => ?_⟩
  all_goals
    refine ⟨⟨.inl hf0, hpre⟩, fun e _ f1 _ hf hE => ⟨⟨hpre0, hcap⟩, fun e2 _ hE2 => ⟨fun _ => ⟨⟨p0, p1, p0, hpD, hpc⟩, fun t _ ht => ht.2 hs⟩, decE_eq (decE_same hs hE) hE2⟩, fun d _ hK _ _ _ => (decE_K (decE_same hs hE) hK).elim⟩, fun f1 _ a _ hf hK ha1 ha2 ha3 => ⟨⟨hpre0, hcap⟩, fun e2 _ hE2 => (decE_K hE2 (decK_same hs hK)).elim, fun c _ hK2 hc1 hc2 hc3 => ⟨hK.2.1, ha1, hc1, fun _ => ⟨⟨p0, p1, p0, hpD, hpc⟩, fun t _ ht => ht.2 hs⟩, ?_⟩⟩⟩
    obtain ⟨k1, k2⟩ := chkH_k hK.1 hK.2.2.2
    rw [bytesOf_eq, bytesOf_eq, ha3, hc3, decL_same hs k1 k2]
end Go.Proofs

set_option linter.unusedSimpArgs false
set_option linter.unusedVariables false
namespace Go.Proofs
open Go Go.Eng
theorem bI_other {d : Rows'} {a m : Int} (h0 : 0 ≤ a) (h1 : a < d.length) : bI (putD d a 0 [.int .u8 (arithOf .xor .u8 (cellI d a 0) m)]) = otherL (bI d) a m := by
  rw [bI_put, otherL, List.getD_eq_getElem?_getD, bI_get h0 h1]; rfl
end Go.Proofs

set_option linter.unusedSimpArgs false
set_option linter.unusedVariables false
namespace Go.Eng
open Go Go.Proofs
/-! ### Pieces in memory of one's own, in order -/
def decodeGC : Ctr := { decode69C with ro := [pcHp 5 8 9, .abs 10 2], pre := fun ρ => decode69C.pre ρ ∧ decK (ρ 10).h (ρ 8).d (ρ 2).i (ρ 3).i (ρ 4).i (ρ 6).i, alts := decode69C.alts.drop 1 }
def rebuildGC : Ctr := { rebuild71C with ro := [pcHp 4 8 9, .abs 10 2], pre := fun ρ => rebuild71C.pre ρ ∧ rebK (ρ 10).h (ρ 8).d (ρ 2).i (ρ 3).i (ρ 5).i (ρ 7).i, alts := rebuild71C.alts.drop 1 }
/-- All memory is taken as the pieces' bytes. -/
def consistentO : Ctr := { consistent67C with ip := [(1004, 9)], heap := [.abs 9 2, fHp 1], ro := [pcHp 4 7 8], alts := consistent67C.alts.map (Alt.withAbs 9 2) }
/-! ### The law about the first pieces -/
def lawSystematicC : Ctr := lawIs 5 7 [iv .i64 (.var 0), iv .i64 (.var 1), dataS] [bHp 2 5 6] fun ρ => matIn (ρ 3).i (ρ 4).i (ρ 5).d
noncomputable def bytesStr (l : List Int) : List UInt8 := l.map fun x => UInt8.ofNat x.toNat
/-- 1000 the round, 1001 the string, 1002 .. 1005 the pieces, 1006 their bytes. -/
def sysI : Inv := { key := 9, nv := 7, env := [(0, iv .i64 (.var 0)), (1, iv .i64 (.var 1)), (2, dataS), (7, pcS 1002 1 1003), (9, iv .i64 (.var 1005)), (11, .one (.c1 .sval (.var 1001))), (12, iv .i64 (.var 1000))], heap := [pcHp 1002 1004 1003, .abs 1006 2], inv := (fun ρ => (1 ≤ (ρ 0).i ∧ (ρ 0).i ≤ (ρ 1).i ∧ (ρ 1).i ≤ 60) ∧ 0 ≤ (ρ 1000).i ∧ (ρ 1000).i ≤ (ρ 1).i ∧ (ρ 1005).i = (pieceLen (ρ 0).i.toNat (ρ 5).d.length : Nat) ∧ (ρ 1004).d.length = (ρ 1).i.toNat ∧ encAt (ρ 1006).h (ρ 1004).d (ρ 1).i.toNat (encP (ρ 0).i.toNat (ρ 1).i.toNat (bI (ρ 5).d)) ∧
  vStr (ρ 1001).v = bytesStr (catN (encP (ρ 0).i.toNat (ρ 1).i.toNat (bI (ρ 5).d)) (min (ρ 1000).i.toNat (ρ 0).i.toNat))), mu := (fun ρ => ((ρ 1).i - (ρ 1000).i).toNat) }
def sysJ : Inv := { key := 16, nv := 2, env := [(2, dataS), (11, .one (.c1 .sval (.var 1001))), (13, iv .i64 (.var 1000))], heap := [], inv := (fun ρ => (ρ 5).d.length ≤ (ρ 1000).i ∧ (ρ 1000).i ≤ (vStr (ρ 1001).v).length ∧ vStr (ρ 1001).v = bytesStr (fullL (bI (ρ 5).d) ((ρ 0).i.toNat * pieceLen (ρ 0).i.toNat (ρ 5).d.length))), mu := (fun ρ => ((vStr (ρ 1001).v).length - (ρ 1000).i).toNat) }
/-! ### The law about what any pieces determine -/
def lawRecoversC : Ctr := lawCase 25
def recBase : List (Nat × SV) := [(3, iv .i64 (.var 0)), (4, iv .i64 (.var 1)), (5, cData), (7, fArgR 1000), (8, pcS 1002 1 1003)]
def recHp : List SH := [fHpR 1000 1001, pcHp 1002 1004 1003, .abs 1005 2]
noncomputable def recF (ρ : Env) : Nat → List Int := encP (ρ 0).i.toNat (ρ 1).i.toNat (bI (ρ 19).d)
def recW (ρ : Env) : Prop := (1 ≤ (ρ 0).i ∧ (ρ 0).i ≤ (ρ 1).i ∧ (ρ 1).i ≤ 30 ∧ (ρ 5).i ≤ 2000) ∧ fieldD (ρ 1001).d ∧ (ρ 1004).d.length = (ρ 1).i.toNat ∧ encAt (ρ 1005).h (ρ 1004).d (ρ 1).i.toNat (recF ρ)
/-- 1000, 1001 the field, 1002 .. 1005 the pieces, 1006 .. 1009 the chosen ones, 1010 .. 1012 the numbers, 1013 the round. -/
def recA : Inv := { key := 11, nv := 14, env := recBase ++ [(10, pcS 1006 1007 1008), (11, .one (.vslice 1010 (.lit 0) (.var 0) (.var 1012) 1)), (12, iv .i64 (.var 1013))], heap := recHp ++ [pcHp 1006 1009 1008, iHp 1010 1011 1012], inv := (fun ρ => recW ρ ∧ 0 ≤ (ρ 1013).i ∧ (ρ 1013).i ≤ (ρ 0).i ∧ (ρ 1007).i = (ρ 1013).i ∧ (ρ 1011).d.length = (ρ 0).i.toNat ∧ chooseOk (ρ 0).i.toNat (ρ 1).i.toNat (iI (ρ 1011).d) ∧ chosenIn (ρ 1004).d (ρ 1009).d (iI (ρ 1011).d) (ρ 1013).i.toNat), mu := (fun ρ => ((ρ 0).i - (ρ 1013).i).toNat) }
/-- 1010 the round. -/
def recB : Inv := { key := 18, nv := 11, env := [(3, iv .i64 (.var 0)), (4, iv .i64 (.var 1)), (7, fArgR 1000), (8, pcS 1002 1 1003), (10, pcS 1006 1007 1008), (14, iv .i64 (.var 1010))], heap := recHp ++ [pcHp 1006 1009 1008], inv := (fun ρ => recW ρ ∧ 0 ≤ (ρ 1010).i ∧ (ρ 1010).i ≤ (ρ 1).i ∧ (ρ 1007).i = (ρ 0).i ∧ ∃ rs, chooseOk (ρ 0).i.toNat (ρ 1).i.toNat rs ∧ chosenIn (ρ 1004).d (ρ 1009).d rs (ρ 0).i.toNat), mu := (fun ρ => ((ρ 1).i - (ρ 1010).i).toNat) }
/-! ### The law about changed pieces -/
def lawDetectsC : Ctr := { lawCase 22 with ip := [(1000, 9), (1001, 9)] }
/-- The same, of k + 1 numbers. -/
def detA : Inv := { key := 11, nv := 15, env := [(3, iv .i64 (.var 0)), (4, iv .i64 (.var 1)), (7, iv .i64 (.var 13)), (8, iv .i64 (.var 14)), (9, iv .u8 (.var 15)), (10, fArgR 1000), (11, pcS 1002 1 1003), (13, pcS 1006 1007 1008), (14, .one (.vslice 1010 (.lit 0) (.var 1014) (.var 1012) 1)), (15, iv .i64 (.var 1013))], heap := recHp ++ [pcHp 1006 1009 1008, iHp 1010 1011 1012], inv := (fun ρ => recW ρ ∧ (ρ 0).i < (ρ 1).i ∧ (ρ 1014).i = (ρ 0).i + 1 ∧ 0 ≤ (ρ 1013).i ∧ (ρ 1013).i ≤ (ρ 0).i + 1 ∧ (ρ 1007).i = (ρ 1013).i ∧ (ρ 1011).d.length = (ρ 0).i.toNat + 1 ∧ chooseOk ((ρ 0).i.toNat + 1) (ρ 1).i.toNat (iI (ρ 1011).d) ∧ chosenIn (ρ 1004).d (ρ 1009).d (iI (ρ 1011).d) (ρ 1013).i.toNat), mu := (fun ρ => ((ρ 0).i + 1 - (ρ 1013).i).toNat) }
end Go.Eng

set_option linter.unusedSimpArgs false
set_option linter.unusedVariables false
set_option maxRecDepth 100000
namespace Go.Proofs
open Go Go.Eng

def o_lawSystematic : Out := (.br (.cmp .lss (.var 0) (.lit (1)))
 (.pre 3 ⟨0, [], [], [], []⟩ (.both (.post 3 0 ⟨0, [], [], [], []⟩ 7 (.ret 0 ⟨7, [], [], [((.bl true), (.bl true))], []⟩)) .top))
 (.br (.cmp .gtr (.var 0) (.var 1))
 (.pre 3 ⟨0, [], [], [], []⟩ (.both (.post 3 0 ⟨0, [], [], [], []⟩ 7 (.ret 0 ⟨7, [], [], [((.bl true), (.bl true))], []⟩)) .top))
 (.br (.cmp .gtr (.var 1) (.lit (60)))
 (.pre 3 ⟨0, [], [], [], []⟩ (.both (.post 3 0 ⟨0, [], [], [], []⟩ 7 (.ret 0 ⟨7, [], [], [((.bl true), (.bl true))], []⟩)) .top))
 (.need (.cmp .leq (.lit (0)) (.var 3)) (.br (.cmp .gtr (.var 3) (.lit (8192)))
 (.pre 3 ⟨0, [], [], [], []⟩ (.both (.post 3 0 ⟨0, [], [], [], []⟩ 7 (.ret 0 ⟨7, [], [], [((.bl true), (.bl true))], []⟩)) .top))
 (.pre 0 ⟨0, [], [], [], []⟩ (.both (.fresh 7 (.fresh 8 (.post 0 0 ⟨0, [], [], [], []⟩ 7 (.fresh 9 (.need (.cmp .leq (.var 3) (.dlen (.var 5))) (.need (.cmp .leq (.tims (.lit (1)) (.var 3)) (.lit (140737488355328))) (.fresh 10 (.fresh 11 (.pre 1 ⟨0, [(8, (.t (.var 11))), (7, (.t (.dtake (.var 5) (.var 3)))), (1, (.t (.var 8))), (6, (.t (.var 11))), (5, (.t (.var 3))), (4, (.r 10)), (3, (.t (.var 1))), (2, (.t (.var 0))), (0, (.r 7))], [((.lit (1)), (.lit (1))), ((.lit (0)), (.lit (0))), ((.lit (0)), (.lit (0)))], [], []⟩ (.both (.fresh 12 (.fresh 13 (.fresh 14 (.fresh 15 (.fresh 16 (.post 1 0 ⟨0, [(8, (.t (.var 11))), (7, (.t (.dtake (.var 5) (.var 3)))), (1, (.t (.var 8))), (6, (.t (.var 11))), (5, (.t (.var 3))), (4, (.r 10)), (3, (.t (.var 1))), (2, (.t (.var 0))), (0, (.r 7))], [((.lit (1)), (.lit (1))), ((.lit (0)), (.lit (0))), ((.lit (0)), (.lit (0)))], [], []⟩ 12 (.pre 2 ⟨0, [(1, (.t (.var 3))), (0, (.t (.var 0)))], [], [], []⟩ (.both (.fresh 17 (.fresh 18 (.post 2 0 ⟨0, [(1, (.t (.var 3))), (0, (.t (.var 0)))], [], [], []⟩ 17 (.br (.cmp .neq (.var 18) (.lit (0)))
 (.stuck 7 0 0)
 (.need (.cmp .leq (.lit (0)) (.var 1)) (.br (.cmp .lss (.arith .mul .i64 (.var 0) (.var 17)) (.var 3))
 (.stuck 7 0 0)
 (.br (.cmp .geq (.arith .sub .i64 (.arith .mul .i64 (.var 0) (.var 17)) (.var 3)) (.var 0))
 (.stuck 7 0 0)
 (.pack [.arr 7 98 [CK.int .u32, CK.int .i32, CK.int .u32, CK.int .u8, CK.int .u8, CK.int .u8, CK.int .u8, CK.int .u8, CK.int .u8, CK.int .u8, CK.int .u8, CK.int .u8, CK.int .u8, CK.int .u8, CK.int .u8, CK.int .u8, CK.int .u8, CK.int .u8, CK.int .u8, CK.int .u8, CK.int .u8, CK.int .u8, CK.int .u8, CK.int .u8, CK.int .u8, CK.int .u8, CK.int .u8, CK.int .u8, CK.int .u8, CK.int .u8, CK.int .u8, CK.int .u8, CK.int .u8, CK.int .u8, CK.int .u8, CK.int .u8, CK.int .u8, CK.int .u8, CK.int .u8, CK.int .u8, CK.int .u8, CK.int .u8, CK.int .u8, CK.int .u8, CK.int .u8, CK.int .u8, CK.int .u8, CK.int .u8, CK.int .u8, CK.int .u8, CK.int .u8, CK.int .u8, CK.int .u8, CK.int .u8, CK.int .u8, CK.int .u8, CK.int .u8, CK.int .u8, CK.int .u8, CK.int .u8, CK.int .u8, CK.int .u8, CK.int .u8, CK.int .u8, CK.int .u8, CK.int .u8, CK.int .u8, CK.int .u8, CK.int .u8, CK.int .u8, CK.int .u8, CK.int .u8, CK.int .u8, CK.int .u8, CK.int .u8, CK.int .u8, CK.int .u8, CK.int .u8, CK.int .u8, CK.int .u8, CK.int .u8, CK.int .u8, CK.int .u8, CK.int .u8, CK.int .u8, CK.int .u8, CK.int .u8, CK.int .u8, CK.int .u8, CK.int .u8, CK.int .u8, CK.int .u8, CK.int .u8, CK.int .u8, CK.int .u8, CK.int .u8, CK.int .u8, CK.int .u8, CK.int .u8, CK.int .u8, CK.int .u8, CK.int .u8, CK.int .u8, CK.int .u8, CK.int .u8, CK.int .u8, CK.int .u8, CK.int .u8, CK.int .u8, CK.int .u8, CK.int .u8, CK.int .u8, CK.int .u8, CK.int .u8, CK.int .u8, CK.int .u8, CK.int .u8, CK.int .u8, CK.int .u8, CK.int .u8, CK.int .u8, CK.int .u8, CK.int .u8, CK.int .u8, CK.int .u8, CK.int .u8, CK.int .u8, CK.int .u8, CK.int .u8, CK.int .u8, CK.int .u8, CK.int .u8, CK.int .u8, CK.int .u8, CK.int .u8, CK.int .u8, CK.int .u8, CK.int .u8, CK.int .u8, CK.int .u8, CK.int .u8, CK.int .u8, CK.int .u8, CK.int .u8, CK.int .u8, CK.int .u8, CK.int .u8, CK.int .u8, CK.int .u8, CK.int .u8, CK.int .u8, CK.int .u8, CK.int .u8, CK.int .u8, CK.int .u8, CK.int .u8, CK.int .u8, CK.int .u8, CK.int .u8, CK.int .u8, CK.int .u8, CK.int .u8, CK.int .u8, CK.int .u8, CK.int .u8, CK.int .u8, CK.int .u8, CK.int .u8, CK.int .u8, CK.int .u8, CK.int .u8, CK.int .u8, CK.int .u8, CK.int .u8, CK.int .u8, CK.int .u8, CK.int .u8, CK.int .u8, CK.int .u8, CK.int .u8, CK.int .u8, CK.int .u8, CK.int .u8, CK.int .u8, CK.int .u8, CK.int .u8, CK.int .u8, CK.int .u8, CK.int .u8, CK.int .u8, CK.int .u8, CK.int .u8, CK.int .u8, CK.int .u8, CK.int .u8, CK.int .u8, CK.int .u8, CK.int .u8, CK.int .u8, CK.int .u8, CK.int .u8, CK.int .u8, CK.int .u8, CK.int .u8, CK.int .u8, CK.int .u8, CK.int .u8, CK.int .u8, CK.int .u8, CK.int .u8, CK.int .u8, CK.int .u8, CK.int .u8, CK.int .u8, CK.int .u8, CK.int .u8, CK.int .u8, CK.int .u8, CK.int .u8, CK.int .u8, CK.int .u8, CK.int .u8, CK.int .u8, CK.int .u8, CK.int .u8, CK.int .u8, CK.int .u8, CK.int .u8, CK.int .u8, CK.int .u8, CK.int .u8, CK.int .u8, CK.int .u8, CK.int .u8, CK.int .u8, CK.int .u8, CK.int .u8, CK.int .u8, CK.int .u8, CK.int .u8, CK.int .u8, CK.int .u8, CK.int .u8, CK.int .u8, CK.int .u8, CK.int .u8, CK.int .u8, CK.int .u8, CK.int .u8, CK.int .u8, CK.int .u8, CK.int .u8, CK.int .u8, CK.int .u8, CK.int .u8, CK.int .u8, CK.int .u8, CK.int .u8, CK.int .u8, CK.int .u8, CK.int .u8, CK.int .u8, CK.int .u8, CK.int .u8, CK.int .u8, CK.int .u8, CK.int .u8, CK.int .u8, CK.int .u8, CK.int .u8, CK.int .u8, CK.int .u8, CK.int .u8, CK.int .u8, CK.int .u8, CK.int .u8, CK.int .u8, CK.int .u8, CK.int .u8, CK.int .u8, CK.int .u8, CK.int .u8, CK.int .u8, CK.int .u8, CK.int .u8, CK.int .u8, CK.int .u8, CK.int .u8, CK.int .u8, CK.int .u8, CK.int .u8, CK.int .u8, CK.int .u8, CK.int .u8, CK.int .u8, CK.int .u8, CK.int .u8, CK.int .u8, CK.int .u8, CK.int .u8, CK.int .u8, CK.int .u8, CK.int .u8, CK.int .u8, CK.int .u8, CK.int .u8, CK.int .u8, CK.int .u8, CK.int .u8, CK.int .u8, CK.int .u8, CK.int .u8, CK.int .u8, CK.int .u8, CK.int .u8, CK.int .u8, CK.int .u8, CK.int .u8, CK.int .u8, CK.int .u8, CK.int .u8, CK.int .u8, CK.int .u8, CK.int .u8, CK.int .u8, CK.int .u8, CK.int .u8, CK.int .u8, CK.int .u8, CK.int .u8, CK.int .u8, CK.int .u8, CK.int .u8, CK.int .u8, CK.int .u8, CK.int .u8, CK.int .u8, CK.int .u8, CK.int .u8, CK.int .u8, CK.int .u8, CK.int .u8, CK.int .u8, CK.int .u8, CK.int .u8, CK.int .u8, CK.int .u8, CK.int .u8, CK.int .u8, CK.int .u8, CK.int .u8, CK.int .u8, CK.int .u8, CK.int .u8, CK.int .u8, CK.int .u8, CK.int .u8, CK.int .u8, CK.int .u8, CK.int .u8, CK.int .u8, CK.int .u8, CK.int .u8, CK.int .u8, CK.int .u8, CK.int .u8, CK.int .u8, CK.int .u8, CK.int .u8, CK.int .u8, CK.int .u8, CK.int .u8, CK.int .u8, CK.int .u8, CK.int .u8, CK.int .u8, CK.int .u8, CK.int .u8, CK.int .u8, CK.int .u8, CK.int .u8, CK.int .u8, CK.int .u8, CK.int .u8, CK.int .u8, CK.int .u8, CK.int .u8, CK.int .u8, CK.int .u8, CK.int .u8, CK.int .u8, CK.int .u8, CK.int .u8, CK.int .u8, CK.int .u8, CK.int .u8, CK.int .u8, CK.int .u8, CK.int .u8, CK.int .u8, CK.int .u8, CK.int .u8, CK.int .u8, CK.int .u8, CK.int .u8, CK.int .u8, CK.int .u8, CK.int .u8, CK.int .u8, CK.int .u8, CK.int .u8, CK.int .u8, CK.int .u8, CK.int .u8, CK.int .u8, CK.int .u8, CK.int .u8, CK.int .u8, CK.int .u8, CK.int .u8, CK.int .u8, CK.int .u8, CK.int .u8, CK.int .u8, CK.int .u8, CK.int .u8, CK.int .u8, CK.int .u8, CK.int .u8, CK.int .u8, CK.int .u8, CK.int .u8, CK.int .u8, CK.int .u8, CK.int .u8, CK.int .u8, CK.int .u8, CK.int .u8, CK.int .u8, CK.int .u8, CK.int .u8, CK.int .u8, CK.int .u8, CK.int .u8, CK.int .u8, CK.int .u8, CK.int .u8, CK.int .u8, CK.int .u8, CK.int .u8, CK.int .u8, CK.int .u8, CK.int .u8, CK.int .u8, CK.int .u8, CK.int .u8, CK.int .u8, CK.int .u8, CK.int .u8, CK.int .u8, CK.int .u8, CK.int .u8, CK.int .u8, CK.int .u8, CK.int .u8, CK.int .u8, CK.int .u8, CK.int .u8, CK.int .u8, CK.int .u8, CK.int .u8, CK.int .u8, CK.int .u8, CK.int .u8, CK.int .u8, CK.int .u8, CK.int .u8, CK.int .u8, CK.int .u8, CK.int .u8, CK.int .u8, CK.int .u8, CK.int .u8, CK.int .u8, CK.int .u8, CK.int .u8, CK.int .u8, CK.int .u8, CK.int .u8, CK.int .u8, CK.int .u8, CK.int .u8, CK.int .u8, CK.int .u8, CK.int .u8, CK.int .u8, CK.int .u8, CK.int .u8, CK.int .u8, CK.int .u8, CK.int .u8, CK.int .u8, CK.int .u8, CK.int .u8, CK.int .u8, CK.int .u8, CK.int .u8, CK.int .u8, CK.int .u8, CK.int .u8, CK.int .u8, CK.int .u8, CK.int .u8, CK.int .i64, CK.int .i64, CK.int .i64, CK.int .i64, CK.int .i64, CK.int .i64, CK.int .i64, CK.int .i64, CK.int .i64, CK.int .i64, CK.int .i64, CK.int .i64, CK.int .i64, CK.int .i64, CK.int .i64, CK.int .i64, CK.int .i64, CK.int .i64, CK.int .i64, CK.int .i64, CK.int .i64, CK.int .i64, CK.int .i64, CK.int .i64, CK.int .i64, CK.int .i64, CK.int .i64, CK.int .i64, CK.int .i64, CK.int .i64, CK.int .i64, CK.int .i64, CK.int .i64, CK.int .i64, CK.int .i64, CK.int .i64, CK.int .i64, CK.int .i64, CK.int .i64, CK.int .i64, CK.int .i64, CK.int .i64, CK.int .i64, CK.int .i64, CK.int .i64, CK.int .i64, CK.int .i64, CK.int .i64, CK.int .i64, CK.int .i64, CK.int .i64, CK.int .i64, CK.int .i64, CK.int .i64, CK.int .i64, CK.int .i64, CK.int .i64, CK.int .i64, CK.int .i64, CK.int .i64, CK.int .i64, CK.int .i64, CK.int .i64, CK.int .i64, CK.int .i64, CK.int .i64, CK.int .i64, CK.int .i64, CK.int .i64, CK.int .i64, CK.int .i64, CK.int .i64, CK.int .i64, CK.int .i64, CK.int .i64, CK.int .i64, CK.int .i64, CK.int .i64, CK.int .i64, CK.int .i64, CK.int .i64, CK.int .i64, CK.int .i64, CK.int .i64, CK.int .i64, CK.int .i64, CK.int .i64, CK.int .i64, CK.int .i64, CK.int .i64, CK.int .i64, CK.int .i64, CK.int .i64, CK.int .i64, CK.int .i64, CK.int .i64, CK.int .i64, CK.int .i64, CK.int .i64, CK.int .i64, CK.int .i64, CK.int .i64, CK.int .i64, CK.int .i64, CK.int .i64, CK.int .i64, CK.int .i64, CK.int .i64, CK.int .i64, CK.int .i64, CK.int .i64, CK.int .i64, CK.int .i64, CK.int .i64, CK.int .i64, CK.int .i64, CK.int .i64, CK.int .i64, CK.int .i64, CK.int .i64, CK.int .i64, CK.int .i64, CK.int .i64, CK.int .i64, CK.int .i64, CK.int .i64, CK.int .i64, CK.int .i64, CK.int .i64, CK.int .i64, CK.int .i64, CK.int .i64, CK.int .i64, CK.int .i64, CK.int .i64, CK.int .i64, CK.int .i64, CK.int .i64, CK.int .i64, CK.int .i64, CK.int .i64, CK.int .i64, CK.int .i64, CK.int .i64, CK.int .i64, CK.int .i64, CK.int .i64, CK.int .i64, CK.int .i64, CK.int .i64, CK.int .i64, CK.int .i64, CK.int .i64, CK.int .i64, CK.int .i64, CK.int .i64, CK.int .i64, CK.int .i64, CK.int .i64, CK.int .i64, CK.int .i64, CK.int .i64, CK.int .i64, CK.int .i64, CK.int .i64, CK.int .i64, CK.int .i64, CK.int .i64, CK.int .i64, CK.int .i64, CK.int .i64, CK.int .i64, CK.int .i64, CK.int .i64, CK.int .i64, CK.int .i64, CK.int .i64, CK.int .i64, CK.int .i64, CK.int .i64, CK.int .i64, CK.int .i64, CK.int .i64, CK.int .i64, CK.int .i64, CK.int .i64, CK.int .i64, CK.int .i64, CK.int .i64, CK.int .i64, CK.int .i64, CK.int .i64, CK.int .i64, CK.int .i64, CK.int .i64, CK.int .i64, CK.int .i64, CK.int .i64, CK.int .i64, CK.int .i64, CK.int .i64, CK.int .i64, CK.int .i64, CK.int .i64, CK.int .i64, CK.int .i64, CK.int .i64, CK.int .i64, CK.int .i64, CK.int .i64, CK.int .i64, CK.int .i64, CK.int .i64, CK.int .i64, CK.int .i64, CK.int .i64, CK.int .i64, CK.int .i64, CK.int .i64, CK.int .i64, CK.int .i64, CK.int .i64, CK.int .i64, CK.int .i64, CK.int .i64, CK.int .i64, CK.int .i64, CK.int .i64, CK.int .i64, CK.int .i64, CK.int .i64, CK.int .i64, CK.int .i64, CK.int .i64, CK.int .i64, CK.int .i64, CK.int .i64, CK.int .i64, CK.int .i64, CK.int .i64, CK.int .i64, CK.int .i64, CK.int .i64, CK.int .i64, CK.int .i64, CK.int .i64, CK.int .i64, CK.int .i64, CK.int .i64, CK.int .i64, CK.int .i64, CK.int .i64, CK.int .i64, CK.int .i64, CK.int .i64, CK.int .i64] (.var 14) (.lit (1)), .abs 16 2, .arr 10 5 [CK.int .u8] (.dtake (.var 5) (.var 3)) (.var 11)] 19 (.inv 0 20 ⟨1000, [(1006, (.r 19)), (1004, (.t (.var 15))), (1000, (.t (.lit (0)))), (1001, (.t (.vstr []))), (1005, (.t (.var 17))), (1003, (.t (.var 13))), (1002, (.r 12))], [((.var 1003), (.var 13)), ((.var 1), (.var 1)), ((.lit (0)), (.lit (0))), ((.var 4), (.var 4)), ((.var 3), (.var 3)), ((.lit (0)), (.lit (0))), ((.var 1), (.var 1)), ((.var 0), (.var 0))], [], []⟩ (.fresh 20 (.fresh 21 (.fresh 22 (.fresh 23 (.fresh 24 (.fresh 25 (.fresh 26 (.hyp 0 20 (.br (.cmp .lss (.var 20) (.var 1))
 (.need (.cmp .leq (.lit (0)) (.var 20)) (.need (.cmp .lss (.var 20) (.dlen (.var 24))) (.br (.cmp .neq (.icell (.var 24) (.var 20) 0) (.var 20))
 (.stuck 7 0 0)
 (.view (.vcell (.var 24) (.var 20) 1) [CK.int .u8] [26] 27 (.br (.cmp .neq (.dlen (.var 29)) (.var 25))
 (.stuck 7 0 0)
 (.br (.cmp .lss (.var 20) (.var 0))
 (.view (.vcell (.var 24) (.var 20) 1) [CK.int .u8] [26] 30 (.need (.cmp .leq (.plus (.c1 .slen (.c1 .sval (.var 21))) (.dlen (.var 32))) (.lit (9223372036854775807))) (.back 0 20 ⟨1000, [(1006, (.r 26)), (1004, (.t (.var 24))), (1000, (.t (.arith .add .i64 (.var 20) (.lit (1))))), (1001, (.t (.c2 .sapp (.c1 .sval (.var 21)) (.c1 .vbytes (.var 32))))), (1005, (.t (.var 25))), (1003, (.t (.var 23))), (1002, (.r 22))], [((.var 1003), (.var 23)), ((.var 1), (.var 1)), ((.lit (0)), (.lit (0))), ((.var 4), (.var 4)), ((.var 3), (.var 3)), ((.lit (0)), (.lit (0))), ((.var 1), (.var 1)), ((.var 0), (.var 0))], [], []⟩)))
 (.back 0 20 ⟨1000, [(1006, (.r 26)), (1004, (.t (.var 24))), (1000, (.t (.arith .add .i64 (.var 20) (.lit (1))))), (1001, (.t (.c1 .sval (.var 21)))), (1005, (.t (.var 25))), (1003, (.t (.var 23))), (1002, (.r 22))], [((.var 1003), (.var 23)), ((.var 1), (.var 1)), ((.lit (0)), (.lit (0))), ((.var 4), (.var 4)), ((.var 3), (.var 3)), ((.lit (0)), (.lit (0))), ((.var 1), (.var 1)), ((.var 0), (.var 0))], [], []⟩)))))))
 (.inv 1 27 ⟨1000, [(1000, (.t (.var 3))), (1001, (.t (.c1 .sval (.var 21))))], [((.var 4), (.var 4)), ((.var 3), (.var 3)), ((.lit (0)), (.lit (0)))], [], []⟩ (.fresh 27 (.fresh 28 (.hyp 1 27 (.br (.cmp .lss (.var 27) (.c1 .slen (.c1 .sval (.var 28))))
 (.need (.cmp .leq (.lit (0)) (.var 27)) (.br (.cmp .neq (.c2 .sat (.c1 .sval (.var 28)) (.var 27)) (.lit (0)))
 (.stuck 7 0 0)
 (.back 1 27 ⟨1000, [(1000, (.t (.arith .add .i64 (.var 27) (.lit (1))))), (1001, (.t (.c1 .sval (.var 28))))], [((.var 4), (.var 4)), ((.var 3), (.var 3)), ((.lit (0)), (.lit (0)))], [], []⟩)))
 (.need (.cmp .leq (.var 3) (.c1 .slen (.c1 .sval (.var 28)))) (.br (.c2 .veq (.c3 .ssub (.c1 .sval (.var 28)) (.lit (0)) (.var 3)) (.c1 .vbytes (.dtake (.var 5) (.var 3))))
 (.both (.pre 3 ⟨0, [], [], [], []⟩ (.both (.post 3 0 ⟨0, [], [], [], []⟩ 29 (.ret 0 ⟨7, [], [], [((.bl true), (.bl true))], []⟩)) .top)) .top)
 (.both (.stuck 7 0 0) .top)))))))))))))))))))))))))) .top)))))))) .top)))))))))) .top)))))))
theorem o_lawSystematic_eq : treeOf ⟨Try.prog, lawSystematicC, [newFieldC, encGC, piece26C, knownC], [sysI, sysJ]⟩ 100000 Try.f5 = o_lawSystematic := by kernel_rfl
theorem lawSystematic_of (hd : ∀ c ∈ ([newFieldC, encGC, piece26C, knownC] : List Ctr), c.ok Try.prog) (h : ∀ ρ : Env, ρ.good → (lawSystematicC).pre ρ → o_lawSystematic.den ⟨Try.prog, lawSystematicC, [newFieldC, encGC, piece26C, knownC], [sysI, sysJ]⟩ ρ) : (lawSystematicC).ok Try.prog :=
  ok_of_tree Try.func5 (fun a w => Try.call5 a w) hd 100000 (fun ρ hg hp => by rw [o_lawSystematic_eq]; exact h ρ hg hp)
def o_lawRecovers : Out := (.fresh 28 (.br (.cmp .lss (.var 0) (.lit (1)))
 (.pre 5 ⟨0, [], [], [], []⟩ (.both (.post 5 0 ⟨0, [], [], [], []⟩ 29 (.ret 0 ⟨28, [], [], [((.bl true), (.bl true))], []⟩)) .top))
 (.br (.cmp .gtr (.var 0) (.var 1))
 (.pre 5 ⟨0, [], [], [], []⟩ (.both (.post 5 0 ⟨0, [], [], [], []⟩ 29 (.ret 0 ⟨28, [], [], [((.bl true), (.bl true))], []⟩)) .top))
 (.br (.cmp .gtr (.var 1) (.lit (30)))
 (.pre 5 ⟨0, [], [], [], []⟩ (.both (.post 5 0 ⟨0, [], [], [], []⟩ 29 (.ret 0 ⟨28, [], [], [((.bl true), (.bl true))], []⟩)) .top))
 (.need (.cmp .leq (.lit (0)) (.var 5)) (.br (.cmp .gtr (.var 5) (.lit (2000)))
 (.pre 5 ⟨0, [], [], [], []⟩ (.both (.post 5 0 ⟨0, [], [], [], []⟩ 29 (.ret 0 ⟨28, [], [], [((.bl true), (.bl true))], []⟩)) .top))
 (.need (.cmp .leq (.lit (0)) (.var 11)) (.br (.cmp .gtr (.var 11) (.lit (60)))
 (.pre 5 ⟨0, [], [], [], []⟩ (.both (.post 5 0 ⟨0, [], [], [], []⟩ 29 (.ret 0 ⟨28, [], [], [((.bl true), (.bl true))], []⟩)) .top))
 (.pre 0 ⟨0, [], [], [], []⟩ (.both (.fresh 29 (.fresh 30 (.post 0 0 ⟨0, [], [], [], []⟩ 29 (.fresh 31 (.need (.cmp .leq (.var 5) (.dlen (.var 19))) (.need (.cmp .leq (.tims (.lit (1)) (.var 5)) (.lit (140737488355328))) (.fresh 32 (.fresh 33 (.pre 1 ⟨0, [(8, (.t (.var 33))), (7, (.t (.dtake (.var 19) (.var 5)))), (1, (.t (.var 30))), (6, (.t (.var 33))), (5, (.t (.var 5))), (4, (.r 32)), (3, (.t (.var 1))), (2, (.t (.var 0))), (0, (.r 29))], [((.lit (1)), (.lit (1))), ((.lit (0)), (.lit (0))), ((.lit (0)), (.lit (0)))], [], []⟩ (.both (.fresh 34 (.fresh 35 (.fresh 36 (.fresh 37 (.fresh 38 (.post 1 0 ⟨0, [(8, (.t (.var 33))), (7, (.t (.dtake (.var 19) (.var 5)))), (1, (.t (.var 30))), (6, (.t (.var 33))), (5, (.t (.var 5))), (4, (.r 32)), (3, (.t (.var 1))), (2, (.t (.var 0))), (0, (.r 29))], [((.lit (1)), (.lit (1))), ((.lit (0)), (.lit (0))), ((.lit (0)), (.lit (0)))], [], []⟩ 34 (.need (.cmp .leq (.lit (0)) (.var 1)) (.fresh 39 (.pre 2 ⟨0, [(6, (.t (.var 24))), (5, (.t (.var 23))), (4, (.t (.var 12))), (3, (.t (.var 11))), (2, (.r 10)), (1, (.t (.var 1))), (0, (.t (.var 0)))], [((.lit (0)), (.lit (0)))], [], []⟩ (.both (.fresh 40 (.fresh 41 (.fresh 42 (.post 2 0 ⟨0, [(6, (.t (.var 24))), (5, (.t (.var 23))), (4, (.t (.var 12))), (3, (.t (.var 11))), (2, (.r 10)), (1, (.t (.var 1))), (0, (.t (.var 0)))], [((.lit (0)), (.lit (0)))], [], []⟩ 40 (.pack [.abs 38 2, .arr 32 5 [CK.int .u8] (.dtake (.var 19) (.var 5)) (.var 33), .cells 28 39 [(.vint .i64 (.var 0)), (.vint .i64 (.var 1)), (.vint .i64 (.var 2)), (.vint .i64 (.var 3)), (.vslice 4 (.lit (0)) (.var 5) (.var 6) 1), (.vslice 7 (.lit (0)) (.var 8) (.var 9) 1), (.vslice 10 (.lit (0)) (.var 11) (.var 12) 1), (.vint .i64 (.var 13)), (.vint .i64 (.var 14)), (.vint .u8 (.var 15)), (.vslice 16 (.lit (0)) (.var 17) (.var 18) 2)]] 43 (.inv 0 44 ⟨1000, [(1011, (.t (.var 42))), (1009, (.t .dnil)), (1005, (.r 43)), (1004, (.t (.var 37))), (1001, (.t (.var 36))), (1013, (.t (.lit (0)))), (1012, (.t (.var 41))), (1010, (.r 40)), (1008, (.t (.lit (0)))), (1007, (.t (.lit (0)))), (1006, (.r 39)), (1003, (.t (.var 35))), (1002, (.r 34)), (1000, (.r 29))], [((.var 1012), (.var 41)), ((.var 1008), (.lit (0))), ((.var 1003), (.var 35)), ((.lit (1)), (.lit (1))), ((.var 0), (.var 0)), ((.lit (0)), (.lit (0))), ((.lit (0)), (.lit (0))), ((.var 1), (.var 1)), ((.lit (0)), (.lit (0))), ((.lit (0)), (.lit (0))), ((.var 6), (.var 6)), ((.var 5), (.var 5)), ((.lit (0)), (.lit (0))), ((.var 1), (.var 1)), ((.var 0), (.var 0))], [], []⟩ (.fresh 44 (.fresh 45 (.fresh 46 (.fresh 47 (.fresh 48 (.fresh 49 (.fresh 50 (.fresh 51 (.fresh 52 (.fresh 53 (.fresh 54 (.fresh 55 (.fresh 56 (.fresh 57 (.hyp 0 44 (.br (.cmp .lss (.var 57) (.var 0))
 (.need (.cmp .leq (.lit (0)) (.var 57)) (.need (.cmp .lss (.var 57) (.dlen (.var 55))) (.need (.cmp .leq (.lit (0)) (.icell (.var 55) (.var 57) 0)) (.need (.cmp .lss (.icell (.var 55) (.var 57) 0) (.var 1)) (.need (.cmp .lss (.icell (.var 55) (.var 57) 0) (.dlen (.var 48))) (.fresh 58 (.need (.cmp .eql (.var 51) (.dlen (.var 53))) (.need (.cmp .leq (.tims (.lit (32)) (.plus (.var 51) (.lit (1)))) (.lit (140737488355328))) (.fresh 59 (.fresh 60 (.pack [.cells 58 36 [(.vint .i64 (.icell (.var 48) (.icell (.var 55) (.var 57) 0) 0)), (.vcell (.var 48) (.icell (.var 55) (.var 57) 0) 1)], .abs 49 2] 61 (.back 0 44 ⟨1000, [(1011, (.t (.var 55))), (1009, (.t (.dapp (.var 53) (.rcons (.vint .i64 (.icell (.var 48) (.icell (.var 55) (.var 57) 0) 0)) (.rcons (.vcell (.var 48) (.icell (.var 55) (.var 57) 0) 1) .rnil))))), (1005, (.r 61)), (1004, (.t (.var 48))), (1001, (.t (.var 45))), (1013, (.t (.arith .add .i64 (.var 57) (.lit (1))))), (1012, (.t (.var 56))), (1010, (.r 54)), (1008, (.t (.var 60))), (1007, (.t (.plus (.var 51) (.lit (1))))), (1006, (.r 59)), (1003, (.t (.var 47))), (1002, (.r 46)), (1000, (.r 44))], [((.var 1012), (.var 56)), ((.var 1008), (.var 60)), ((.var 1003), (.var 47)), ((.lit (1)), (.lit (1))), ((.var 0), (.var 0)), ((.lit (0)), (.lit (0))), ((.lit (0)), (.lit (0))), ((.var 1), (.var 1)), ((.lit (0)), (.lit (0))), ((.lit (0)), (.lit (0))), ((.var 6), (.var 6)), ((.var 5), (.var 5)), ((.lit (0)), (.lit (0))), ((.var 1), (.var 1)), ((.var 0), (.var 0))], [], []⟩))))))))))))
 (.pre 3 ⟨0, [(10, (.r 49)), (9, (.t (.var 52))), (8, (.t (.var 53))), (1, (.t (.var 45))), (7, (.t (.var 52))), (6, (.t (.var 51))), (5, (.r 50)), (4, (.t (.var 5))), (3, (.t (.var 1))), (2, (.t (.var 0))), (0, (.r 44))], [((.lit (1)), (.lit (1))), ((.lit (0)), (.lit (0))), ((.lit (0)), (.lit (0)))], [], []⟩ (.both (.fresh 58 (.fresh 59 (.fresh 60 (.fresh 61 (.post 3 0 ⟨0, [(10, (.r 49)), (9, (.t (.var 52))), (8, (.t (.var 53))), (1, (.t (.var 45))), (7, (.t (.var 52))), (6, (.t (.var 51))), (5, (.r 50)), (4, (.t (.var 5))), (3, (.t (.var 1))), (2, (.t (.var 0))), (0, (.r 44))], [((.lit (1)), (.lit (1))), ((.lit (0)), (.lit (0))), ((.lit (0)), (.lit (0)))], [], []⟩ 58 (.need (.cmp .leq (.var 5) (.dlen (.var 60))) (.br (.not (.c2 .veq (.c1 .vbytes (.dtake (.var 60) (.var 5))) (.c1 .vbytes (.dtake (.var 19) (.var 5)))))
 (.stuck 7 0 0)
 (.pack [.arr 58 5 [CK.int .u8] (.var 60) (.var 61), .abs 49 2, .arr 54 3 [CK.int .i64] (.var 55) (.var 56)] 62 (.inv 1 63 ⟨1000, [(1009, (.t (.var 53))), (1005, (.r 62)), (1004, (.t (.var 48))), (1001, (.t (.var 59))), (1010, (.t (.lit (0)))), (1008, (.t (.var 52))), (1007, (.t (.var 51))), (1006, (.r 50)), (1003, (.t (.var 47))), (1002, (.r 46)), (1000, (.r 44))], [((.var 1008), (.var 52)), ((.var 1003), (.var 47)), ((.lit (1)), (.lit (1))), ((.lit (0)), (.lit (0))), ((.var 1), (.var 1)), ((.lit (0)), (.lit (0))), ((.lit (0)), (.lit (0))), ((.var 1), (.var 1)), ((.var 0), (.var 0))], [], []⟩ (.fresh 63 (.fresh 64 (.fresh 65 (.fresh 66 (.fresh 67 (.fresh 68 (.fresh 69 (.fresh 70 (.fresh 71 (.fresh 72 (.fresh 73 (.hyp 1 63 (.br (.cmp .lss (.var 73) (.var 1))
 (.pre 4 ⟨0, [(10, (.r 68)), (9, (.t (.var 71))), (8, (.t (.var 72))), (1, (.t (.var 64))), (7, (.t (.var 73))), (6, (.t (.var 71))), (5, (.t (.var 70))), (4, (.r 69)), (3, (.t (.var 1))), (2, (.t (.var 0))), (0, (.r 63))], [((.lit (1)), (.lit (1))), ((.lit (0)), (.lit (0))), ((.lit (0)), (.lit (0)))], [], []⟩ (.both (.fresh 74 (.fresh 75 (.fresh 76 (.fresh 77 (.fresh 78 (.post 4 0 ⟨0, [(10, (.r 68)), (9, (.t (.var 71))), (8, (.t (.var 72))), (1, (.t (.var 64))), (7, (.t (.var 73))), (6, (.t (.var 71))), (5, (.t (.var 70))), (4, (.r 69)), (3, (.t (.var 1))), (2, (.t (.var 0))), (0, (.r 63))], [((.lit (1)), (.lit (1))), ((.lit (0)), (.lit (0))), ((.lit (0)), (.lit (0)))], [], []⟩ 74 (.fresh 79 (.need (.cmp .leq (.lit (0)) (.var 75)) (.need (.cmp .leq (.var 75) (.dlen (.var 78))) (.need (.cmp .leq (.lit (0)) (.var 73)) (.need (.cmp .lss (.var 73) (.dlen (.var 67))) (.both (.view (.vcell (.var 67) (.var 73) 1) [CK.int .u8] [68, 27] 80 (.br (.not (.c2 .veq (.c1 .vbytes (.dtake (.var 78) (.var 75))) (.c1 .vbytes (.var 82))))
 (.stuck 7 0 0)
 (.pack [.cells 79 36 [(.vint .i64 (.var 73)), (.vslice 74 (.lit (0)) (.var 75) (.var 76) 1)], .arr 74 5 [CK.int .u8] (.var 78) (.var 76), .abs 68 2] 83 (.back 1 63 ⟨1000, [(1009, (.t (.var 72))), (1005, (.r 83)), (1004, (.t (.var 67))), (1001, (.t (.var 77))), (1010, (.t (.arith .add .i64 (.var 73) (.lit (1))))), (1008, (.t (.var 71))), (1007, (.t (.var 70))), (1006, (.r 69)), (1003, (.t (.var 66))), (1002, (.r 65)), (1000, (.r 63))], [((.var 1008), (.var 71)), ((.var 1003), (.var 66)), ((.lit (1)), (.lit (1))), ((.lit (0)), (.lit (0))), ((.var 1), (.var 1)), ((.lit (0)), (.lit (0))), ((.lit (0)), (.lit (0))), ((.var 1), (.var 1)), ((.var 0), (.var 0))], [], []⟩)))) .top)))))))))))) .top))
 (.pre 5 ⟨0, [], [], [], []⟩ (.both (.post 5 0 ⟨0, [], [], [], []⟩ 74 (.ret 0 ⟨28, [], [], [((.bl true), (.bl true))], []⟩)) .top)))))))))))))))))))))))) .top)))))))))))))))))))))))) .top)))))))))) .top)))))))))) .top))))))))))
theorem o_lawRecovers_eq : treeOf ⟨Try.prog, lawRecoversC, [newFieldC, encGC, choose64C, decodeGC, rebuildGC, knownC], [recA, recB]⟩ 100000 Try.f25 = o_lawRecovers := by kernel_rfl
theorem lawRecovers_of (hd : ∀ c ∈ ([newFieldC, encGC, choose64C, decodeGC, rebuildGC, knownC] : List Ctr), c.ok Try.prog) (h : ∀ ρ : Env, ρ.good → (lawRecoversC).pre ρ → o_lawRecovers.den ⟨Try.prog, lawRecoversC, [newFieldC, encGC, choose64C, decodeGC, rebuildGC, knownC], [recA, recB]⟩ ρ) : (lawRecoversC).ok Try.prog :=
  ok_of_tree Try.func25 (fun a w => Try.call25 a w) hd 100000 (fun ρ hg hp => by rw [o_lawRecovers_eq]; exact h ρ hg hp)
def o_lawDetects : Out := (.fresh 28 (.br (.cmp .lss (.var 0) (.lit (1)))
 (.pre 4 ⟨0, [], [], [], []⟩ (.both (.post 4 0 ⟨0, [], [], [], []⟩ 29 (.ret 0 ⟨28, [], [], [((.bl true), (.bl true))], []⟩)) .top))
 (.br (.cmp .geq (.var 0) (.var 1))
 (.pre 4 ⟨0, [], [], [], []⟩ (.both (.post 4 0 ⟨0, [], [], [], []⟩ 29 (.ret 0 ⟨28, [], [], [((.bl true), (.bl true))], []⟩)) .top))
 (.br (.cmp .gtr (.var 1) (.lit (30)))
 (.pre 4 ⟨0, [], [], [], []⟩ (.both (.post 4 0 ⟨0, [], [], [], []⟩ 29 (.ret 0 ⟨28, [], [], [((.bl true), (.bl true))], []⟩)) .top))
 (.need (.cmp .leq (.lit (0)) (.var 5)) (.br (.cmp .gtr (.var 5) (.lit (2000)))
 (.pre 4 ⟨0, [], [], [], []⟩ (.both (.post 4 0 ⟨0, [], [], [], []⟩ 29 (.ret 0 ⟨28, [], [], [((.bl true), (.bl true))], []⟩)) .top))
 (.need (.cmp .leq (.lit (0)) (.var 11)) (.br (.cmp .gtr (.var 11) (.lit (60)))
 (.pre 4 ⟨0, [], [], [], []⟩ (.both (.post 4 0 ⟨0, [], [], [], []⟩ 29 (.ret 0 ⟨28, [], [], [((.bl true), (.bl true))], []⟩)) .top))
 (.pre 0 ⟨0, [], [], [], []⟩ (.both (.fresh 29 (.fresh 30 (.post 0 0 ⟨0, [], [], [], []⟩ 29 (.fresh 31 (.need (.cmp .leq (.var 5) (.dlen (.var 19))) (.need (.cmp .leq (.tims (.lit (1)) (.var 5)) (.lit (140737488355328))) (.fresh 32 (.fresh 33 (.pre 1 ⟨0, [(8, (.t (.var 33))), (7, (.t (.dtake (.var 19) (.var 5)))), (1, (.t (.var 30))), (6, (.t (.var 33))), (5, (.t (.var 5))), (4, (.r 32)), (3, (.t (.var 1))), (2, (.t (.var 0))), (0, (.r 29))], [((.lit (1)), (.lit (1))), ((.lit (0)), (.lit (0))), ((.lit (0)), (.lit (0)))], [], []⟩ (.both (.fresh 34 (.fresh 35 (.fresh 36 (.fresh 37 (.fresh 38 (.post 1 0 ⟨0, [(8, (.t (.var 33))), (7, (.t (.dtake (.var 19) (.var 5)))), (1, (.t (.var 30))), (6, (.t (.var 33))), (5, (.t (.var 5))), (4, (.r 32)), (3, (.t (.var 1))), (2, (.t (.var 0))), (0, (.r 29))], [((.lit (1)), (.lit (1))), ((.lit (0)), (.lit (0))), ((.lit (0)), (.lit (0)))], [], []⟩ 34 (.need (.cmp .leq (.lit (0)) (.var 1)) (.fresh 39 (.pre 2 ⟨0, [(6, (.t (.var 24))), (5, (.t (.var 23))), (4, (.t (.var 12))), (3, (.t (.var 11))), (2, (.r 10)), (1, (.t (.var 1))), (0, (.t (.arith .add .i64 (.var 0) (.lit (1)))))], [((.lit (0)), (.lit (0)))], [], []⟩ (.both (.fresh 40 (.fresh 41 (.fresh 42 (.post 2 0 ⟨0, [(6, (.t (.var 24))), (5, (.t (.var 23))), (4, (.t (.var 12))), (3, (.t (.var 11))), (2, (.r 10)), (1, (.t (.var 1))), (0, (.t (.arith .add .i64 (.var 0) (.lit (1)))))], [((.lit (0)), (.lit (0)))], [], []⟩ 40 (.pack [.abs 38 2, .arr 32 5 [CK.int .u8] (.dtake (.var 19) (.var 5)) (.var 33), .cells 28 39 [(.vint .i64 (.var 0)), (.vint .i64 (.var 1)), (.vint .i64 (.var 2)), (.vint .i64 (.var 3)), (.vslice 4 (.lit (0)) (.var 5) (.var 6) 1), (.vslice 7 (.lit (0)) (.var 8) (.var 9) 1), (.vslice 10 (.lit (0)) (.var 11) (.var 12) 1), (.vint .i64 (.var 13)), (.vint .i64 (.var 14)), (.vint .u8 (.var 15)), (.vslice 16 (.lit (0)) (.var 17) (.var 18) 2)]] 43 (.inv 0 44 ⟨1000, [(1011, (.t (.var 42))), (1009, (.t .dnil)), (1005, (.r 43)), (1004, (.t (.var 37))), (1001, (.t (.var 36))), (1013, (.t (.lit (0)))), (1012, (.t (.var 41))), (1014, (.t (.arith .add .i64 (.var 0) (.lit (1))))), (1010, (.r 40)), (1008, (.t (.lit (0)))), (1007, (.t (.lit (0)))), (1006, (.r 39)), (1003, (.t (.var 35))), (1002, (.r 34)), (1000, (.r 29))], [((.var 1012), (.var 41)), ((.var 1008), (.lit (0))), ((.var 1003), (.var 35)), ((.lit (1)), (.lit (1))), ((.lit (0)), (.lit (0))), ((.lit (0)), (.lit (0))), ((.var 1), (.var 1)), ((.lit (0)), (.lit (0))), ((.lit (0)), (.lit (0))), ((.var 15), (.var 15)), ((.var 14), (.var 14)), ((.var 13), (.var 13)), ((.var 1), (.var 1)), ((.var 0), (.var 0))], [], []⟩ (.fresh 44 (.fresh 45 (.fresh 46 (.fresh 47 (.fresh 48 (.fresh 49 (.fresh 50 (.fresh 51 (.fresh 52 (.fresh 53 (.fresh 54 (.fresh 55 (.fresh 56 (.fresh 57 (.fresh 58 (.hyp 0 44 (.br (.cmp .leq (.var 57) (.var 0))
 (.need (.cmp .leq (.lit (0)) (.var 57)) (.need (.cmp .lss (.var 57) (.var 58)) (.need (.cmp .lss (.var 57) (.dlen (.var 55))) (.need (.cmp .leq (.lit (0)) (.icell (.var 55) (.var 57) 0)) (.need (.cmp .lss (.icell (.var 55) (.var 57) 0) (.var 1)) (.need (.cmp .lss (.icell (.var 55) (.var 57) 0) (.dlen (.var 48))) (.fresh 59 (.need (.cmp .eql (.var 51) (.dlen (.var 53))) (.need (.cmp .leq (.tims (.lit (32)) (.plus (.var 51) (.lit (1)))) (.lit (140737488355328))) (.fresh 60 (.fresh 61 (.pack [.cells 59 36 [(.vint .i64 (.icell (.var 48) (.icell (.var 55) (.var 57) 0) 0)), (.vcell (.var 48) (.icell (.var 55) (.var 57) 0) 1)], .abs 49 2] 62 (.back 0 44 ⟨1000, [(1011, (.t (.var 55))), (1009, (.t (.dapp (.var 53) (.rcons (.vint .i64 (.icell (.var 48) (.icell (.var 55) (.var 57) 0) 0)) (.rcons (.vcell (.var 48) (.icell (.var 55) (.var 57) 0) 1) .rnil))))), (1005, (.r 62)), (1004, (.t (.var 48))), (1001, (.t (.var 45))), (1013, (.t (.arith .add .i64 (.var 57) (.lit (1))))), (1012, (.t (.var 56))), (1014, (.t (.var 58))), (1010, (.r 54)), (1008, (.t (.var 61))), (1007, (.t (.plus (.var 51) (.lit (1))))), (1006, (.r 60)), (1003, (.t (.var 47))), (1002, (.r 46)), (1000, (.r 44))], [((.var 1012), (.var 56)), ((.var 1008), (.var 61)), ((.var 1003), (.var 47)), ((.lit (1)), (.lit (1))), ((.lit (0)), (.lit (0))), ((.lit (0)), (.lit (0))), ((.var 1), (.var 1)), ((.lit (0)), (.lit (0))), ((.lit (0)), (.lit (0))), ((.var 15), (.var 15)), ((.var 14), (.var 14)), ((.var 13), (.var 13)), ((.var 1), (.var 1)), ((.var 0), (.var 0))], [], []⟩)))))))))))))
 (.pack [.arr 46 36 [CK.int .i64, CK.any] (.var 48) (.var 47), .abs 49 2, .arr 54 3 [CK.int .i64] (.var 55) (.var 56)] 59 (.pre 3 ⟨0, [(8, (.t (.var 52))), (7, (.t (.var 53))), (1, (.t (.var 45))), (9, (.r 59)), (6, (.t (.var 52))), (5, (.t (.var 51))), (4, (.r 50)), (3, (.t (.var 1))), (2, (.t (.var 0))), (0, (.r 44))], [((.lit (1)), (.lit (1))), ((.lit (0)), (.lit (0))), ((.lit (0)), (.lit (0)))], [], []⟩ (.both (.fresh 60 (.fresh 61 (.fresh 62 (.post 3 0 ⟨0, [(8, (.t (.var 52))), (7, (.t (.var 53))), (1, (.t (.var 45))), (9, (.r 59)), (6, (.t (.var 52))), (5, (.t (.var 51))), (4, (.r 50)), (3, (.t (.var 1))), (2, (.t (.var 0))), (0, (.r 44))], [((.lit (1)), (.lit (1))), ((.lit (0)), (.lit (0))), ((.lit (0)), (.lit (0)))], [], []⟩ 60 (.br (.not (.var 60))
 (.stuck 7 0 0)
 (.br (.cmp .neq (.var 61) (.lit (0)))
 (.stuck 7 0 0)
 (.need (.cmp .lss (.lit (0)) (.var 51)) (.need (.cmp .lss (.lit (0)) (.dlen (.var 53))) (.view (.vcell (.var 53) (.lit (0)) 1) [CK.int .u8] [59, 27] 63 (.br (.cmp .lss (.var 13) (.lit (0)))
 (.pre 4 ⟨0, [], [], [], []⟩ (.both (.post 4 0 ⟨0, [], [], [], []⟩ 66 (.ret 0 ⟨28, [], [], [((.bl true), (.bl true))], []⟩)) .top))
 (.br (.cmp .gtr (.var 13) (.var 0))
 (.pre 4 ⟨0, [], [], [], []⟩ (.both (.post 4 0 ⟨0, [], [], [], []⟩ 66 (.ret 0 ⟨28, [], [], [((.bl true), (.bl true))], []⟩)) .top))
 (.br (.cmp .lss (.var 14) (.lit (0)))
 (.pre 4 ⟨0, [], [], [], []⟩ (.both (.post 4 0 ⟨0, [], [], [], []⟩ 66 (.ret 0 ⟨28, [], [], [((.bl true), (.bl true))], []⟩)) .top))
 (.br (.cmp .geq (.var 14) (.dlen (.var 65)))
 (.pre 4 ⟨0, [], [], [], []⟩ (.both (.post 4 0 ⟨0, [], [], [], []⟩ 66 (.ret 0 ⟨28, [], [], [((.bl true), (.bl true))], []⟩)) .top))
 (.br (.cmp .eql (.var 15) (.lit (0)))
 (.pre 4 ⟨0, [], [], [], []⟩ (.both (.post 4 0 ⟨0, [], [], [], []⟩ 66 (.ret 0 ⟨28, [], [], [((.bl true), (.bl true))], []⟩)) .top))
 (.fresh 66 (.need (.cmp .leq (.lit (0)) (.var 13)) (.need (.cmp .lss (.var 13) (.var 51)) (.need (.cmp .lss (.var 13) (.dlen (.var 53))) (.view (.vcell (.var 53) (.var 13) 1) [CK.int .u8] [59, 27] 67 (.need (.cmp .leq (.tims (.lit (1)) (.dlen (.var 69))) (.lit (140737488355328))) (.fresh 70 (.fresh 71 (.need (.cmp .leq (.lit (0)) (.var 14)) (.need (.cmp .lss (.var 14) (.dlen (.var 69))) (.pack [.arr 70 5 [CK.int .u8] (.dput (.var 69) (.var 14) 0 (.rcons (.vint .u8 (.arith .xor .u8 (.icell (.var 69) (.var 14) 0) (.var 15))) .rnil)) (.var 71), .abs 59 2] 72 (.pre 3 ⟨0, [(8, (.t (.var 52))), (7, (.t (.dput (.var 53) (.var 13) 1 (.rcons (.vslice 70 (.lit (0)) (.dlen (.var 69)) (.var 71) 1) .rnil)))), (1, (.t (.var 62))), (9, (.r 72)), (6, (.t (.var 52))), (5, (.t (.var 51))), (4, (.r 50)), (3, (.t (.var 1))), (2, (.t (.var 0))), (0, (.r 44))], [((.lit (1)), (.lit (1))), ((.lit (0)), (.lit (0))), ((.lit (0)), (.lit (0)))], [], []⟩ (.both (.fresh 73 (.fresh 74 (.fresh 75 (.post 3 0 ⟨0, [(8, (.t (.var 52))), (7, (.t (.dput (.var 53) (.var 13) 1 (.rcons (.vslice 70 (.lit (0)) (.dlen (.var 69)) (.var 71) 1) .rnil)))), (1, (.t (.var 62))), (9, (.r 72)), (6, (.t (.var 52))), (5, (.t (.var 51))), (4, (.r 50)), (3, (.t (.var 1))), (2, (.t (.var 0))), (0, (.r 44))], [((.lit (1)), (.lit (1))), ((.lit (0)), (.lit (0))), ((.lit (0)), (.lit (0)))], [], []⟩ 73 (.br (.not (.var 73))
 (.br (.cmp .eql (.var 74) (.lit (0)))
 (.pre 4 ⟨0, [], [], [], []⟩ (.both (.post 4 0 ⟨0, [], [], [], []⟩ 76 (.ret 0 ⟨28, [], [], [((.bl true), (.bl true))], []⟩)) .top))
 (.stuck 7 0 0))
 (.stuck 7 0 0)))))) .top))))))))))))))))))))))))))) .top)))))))))))))))))))))))))) .top)))))))))) .top)))))))))) .top))))))))))
theorem o_lawDetects_eq : treeOf ⟨Try.prog, lawDetectsC, [newFieldC, encGC, choose64C, consistentO, knownC], [detA]⟩ 100000 Try.f22 = o_lawDetects := by kernel_rfl
theorem lawDetects_of (hd : ∀ c ∈ ([newFieldC, encGC, choose64C, consistentO, knownC] : List Ctr), c.ok Try.prog) (h : ∀ ρ : Env, ρ.good → (lawDetectsC).pre ρ → o_lawDetects.den ⟨Try.prog, lawDetectsC, [newFieldC, encGC, choose64C, consistentO, knownC], [detA]⟩ ρ) : (lawDetectsC).ok Try.prog :=
  ok_of_tree Try.func22 (fun a w => Try.call22 a w) hd 100000 (fun ρ hg hp => by rw [o_lawDetects_eq]; exact h ρ hg hp)
end Go.Proofs

set_option linter.unusedSimpArgs false
set_option linter.unusedVariables false
namespace Go.Proofs
open Go Go.Eng
theorem decodeG_ok : decodeGC.ok Try.prog := by
  refine Ctr.ok_less (c := { decode69C with ro := [pcHp 5 8 9, .abs 10 2], pre := fun ρ => decode69C.pre ρ ∧ decK (ρ 10).h (ρ 8).d (ρ 2).i (ρ 3).i (ρ 4).i (ρ 6).i }) (Ctr.ok_tags decode69_ok rfl rfl rfl rfl (fun x hx => ?_) (fun ρ h => h.1) rfl) rfl rfl rfl rfl rfl (fun ρ h => h) fun ρ ρ' ai al hp hag hal hpost => ?_
  · simp only [decode69C, List.mem_cons, List.not_mem_nil, or_false] at hx
    rcases hx with rfl | rfl
    · exact .inl (by simp)
    · exact .inr ⟨10, 4, 2, rfl, by simp⟩
  · have hK := hp.2
    match ai, hal with
    | 0, hal =>
      cases Option.some.inj hal
      have hE := hpost.2
      simp only [Env.upto] at hE
      simp (config := { decide := true }) at hE
      rw [hag 10 (by decide), hag 8 (by decide), hag 2 (by decide), hag 3 (by decide), hag 4 (by decide), hag 6 (by decide)] at hE
      exact (decE_K hE hK).elim
    | 1, hal => exact ⟨0, hal⟩
    | n + 2, hal => cases hal
theorem rebuildG_ok : rebuildGC.ok Try.prog := by
  refine Ctr.ok_less (c := { rebuild71C with ro := [pcHp 4 8 9, .abs 10 2], pre := fun ρ => rebuild71C.pre ρ ∧ rebK (ρ 10).h (ρ 8).d (ρ 2).i (ρ 3).i (ρ 5).i (ρ 7).i }) (Ctr.ok_tags rebuild71_ok rfl rfl rfl rfl (fun x hx => ?_) (fun ρ h => h.1) rfl) rfl rfl rfl rfl rfl (fun ρ h => h) fun ρ ρ' ai al hp hag hal hpost => ?_
  · simp only [rebuild71C, List.mem_cons, List.not_mem_nil, or_false] at hx
    rcases hx with rfl | rfl
    · exact .inl (by simp)
    · exact .inr ⟨10, 4, 2, rfl, by simp⟩
  · have hK := hp.2
    match ai, hal with
    | 0, hal =>
      cases Option.some.inj hal
      have hE := hpost.2
      simp only [Env.upto] at hE
      simp (config := { decide := true }) at hE
      rw [hag 10 (by decide), hag 8 (by decide), hag 2 (by decide), hag 3 (by decide), hag 5 (by decide), hag 7 (by decide)] at hE
      exact (rebE_K hE hK).elim
    | 1, hal => exact ⟨0, hal⟩
    | n + 2, hal => cases hal
theorem consistentO_ok : consistentO.ok Try.prog := Ctr.ok_own consistent67_ok (n := 9) (t := 2) (by decide) rfl rfl rfl rfl (fun x hx => by
  simp only [consistent67C, List.mem_cons, List.not_mem_nil, or_false] at hx
  rcases hx with rfl | rfl
  · exact .inl (by simp [consistentO])
  · exact .inr ⟨4, rfl⟩) (fun ρ h => h) rfl
end Go.Proofs

set_option linter.unusedSimpArgs false
set_option linter.unusedVariables false
namespace Go.Proofs
open Go Go.Eng
set_option maxRecDepth 100000 in
set_option maxHeartbeats 4000000 in
set_option pp.deepTerms true in
set_option pp.maxSteps 1000000 in
theorem lawSystematic_ok : lawSystematicC.ok Try.prog := lawSystematic_of (by simp [newField_ok, encG_ok, piece26_ok, known_ok]) fun ρ hg hp => by
  obtain ⟨a0, a1, a2, a3, a4⟩ := hp
  simp (config := { maxSteps := 40000000 }) [o_lawSystematic, lawSystematicC, lawIs, lawRet, newFieldC, encGC, encC, encode31C, piece26C, sysI, sysJ, knownC, vStr_mk]
  intro k1 k2 k3
  refine ⟨a0, fun h8 u0 _ f0 _ hf0 u1 _ => ⟨by omega, by omega, fun u2 _ u3 _ => ?_⟩⟩
  have hte : (ρ 5).d.take (ρ 3).i.toNat = (ρ 5).d := List.take_of_length_le (by omega)
  rw [hte, Nat.min_eq_left (by omega)]
  have hs : sizesB (ρ 0).i (ρ 1).i = true := sizesB_iff.2 ⟨k1, k2, by omega⟩
  have hbb : bytesL (bI (ρ 5).d) := allB_list a3
  refine ⟨⟨⟨.inl hf0, by omega, a3⟩, hs, h8⟩, fun u4 _ u5 _ f1 _ D _ H _ hf1 _ _ hD hE l _ e _ _ hl => ?_⟩
  obtain ⟨hl, he⟩ := piece_pl k1 (by omega) a0 h8 hl
  have hge := pieceLen_ge (k := (ρ 0).i.toNat) (n := (ρ 5).d.length) (by omega)
  have hlt := pieceLen_lt (k := (ρ 0).i.toNat) (n := (ρ 5).d.length) (by omega)
  have hpl : l.i = (pieceLen (ρ 0).i.toNat (ρ 5).d.length : Nat) := by rw [hl, plI, show (ρ 3).i.toNat = (ρ 5).d.length by omega]
  have hmul : arithOf .mul .i64 (ρ 0).i l.i = (((ρ 0).i.toNat * pieceLen (ρ 0).i.toNat (ρ 5).d.length : Nat) : Int) := by
    have h1 : (ρ 0).i * l.i = (((ρ 0).i.toNat * pieceLen (ρ 0).i.toNat (ρ 5).d.length : Nat) : Int) := by
      rw [hpl, Int.natCast_mul, Int.toNat_of_nonneg (by omega)]
    rw [mul64 (by omega) (by omega), h1]
  rw [hmul, sub64 (by omega) (by omega)]
  refine ⟨he, fun _ => ⟨by omega, by omega, fun _ => ⟨by omega, fun _ H2 _ hst => ?_⟩⟩⟩
  obtain ⟨hb, lb, db⟩ := star_mem_abs hst (n := 16) (t := 2) (by simp)
  have hE2 := encAt_mono hE (Hp.le_trans (by simpa using db) lb : Hp.le H.h H2.h)
  refine ⟨⟨⟨k1, k2, k3⟩, by omega, hpl, hD, hE2, rfl⟩, ?_⟩
  clear hE hE2 hst lb db hf1 hD
  intro i _ sv _ D _ m _ H _ _ _ _ i0 i1 hm hD hE hsv
  have hall := enc_cat (k := (ρ 0).i.toNat) (total := (ρ 1).i.toNat) (data := bI (ρ 5).d) (by omega) (by omega) (by omega) hbb
  rw [bI_len] at hall
  refine ⟨fun hi => ?_, fun hi => ?_⟩
  · obtain ⟨v, d, e1, e2, e3, e4⟩ := hE i.i.toNat (by omega)
    have hI := (enc_pc hE).2 i.i.toNat (by omega)
    have hc0 : cellI D.d i.i 0 = i.i := by simp only [cellI, cellV, e1, Option.getD_some, List.getElem?_cons_zero, vInt]; omega
    have hc1 : cellV D.d i.i 1 = v := by simp only [cellV, e1, Option.getD_some]; rfl
    have hdl : d.length = pieceLen (ρ 0).i.toNat (ρ 5).d.length := by
      rw [← bI_len, e3, (enc_facts (by omega) (by omega) (by omega) hbb _).1, bI_len]
    have ha : arithOf .add .i64 i.i 1 = i.i + 1 := add64 (by omega) (by omega)
    rw [hc0, hc1, ha]
    refine ⟨i0, by omega, rfl, fun _ => ⟨d, e2, by omega, fun _ => ⟨fun hk => ⟨d, e2, ?_, ⟨⟨k1, k2, k3⟩, by omega, by omega, hm, hD, hE, ?_⟩, by omega⟩, fun hk => ⟨⟨⟨k1, k2, k3⟩, by omega, by omega, hm, hD, hE, ?_⟩, by omega⟩⟩⟩⟩
    · rw [hsv, bytesStr, List.length_map]
      have h5 : (catN (encP (ρ 0).i.toNat (ρ 1).i.toNat (bI (ρ 5).d)) (min i.i.toNat (ρ 0).i.toNat)).length ≤ min i.i.toNat (ρ 0).i.toNat * 8192 := catN_le fun j hj => by
        rw [(enc_facts (by omega) (by omega) (by omega) hbb _).1, bI_len]
        have := pieceLen_le (k := (ρ 0).i.toNat) (n := (ρ 5).d.length) (by omega)
        omega
      have h6 : min i.i.toNat (ρ 0).i.toNat ≤ 60 := by omega
      have := pieceLen_le (k := (ρ 0).i.toNat) (n := (ρ 5).d.length) (by omega)
      omega
    · rw [hsv, Nat.min_eq_left (by omega), show min (i.i + 1).toNat (ρ 0).i.toNat = i.i.toNat + 1 by omega, catN, bytesOf_eq, e3, bytesStr, bytesStr, List.map_append]
    · rw [hsv, Nat.min_eq_right (by omega), Nat.min_eq_right (by omega)]
  · rw [Nat.min_eq_right (by omega), hall] at hsv
    rw [hsv]
    have hfl : (fullL (bI (ρ 5).d) ((ρ 0).i.toNat * pieceLen (ρ 0).i.toNat (ρ 5).d.length)).length = (ρ 0).i.toNat * pieceLen (ρ 0).i.toNat (ρ 5).d.length := (full_facts hbb (by rw [bI_len]; exact hge)).1
    refine ⟨⟨by omega, by rw [bytesStr, List.length_map, hfl]; omega, rfl⟩, fun j _ t _ j0 j1 ht => ?_⟩
    rw [ht]
    rw [ht] at j1
    have hbl : (bytesStr (fullL (bI (ρ 5).d) ((ρ 0).i.toNat * pieceLen (ρ 0).i.toNat (ρ 5).d.length))).length = (ρ 0).i.toNat * pieceLen (ρ 0).i.toNat (ρ 5).d.length := by rw [bytesStr, List.length_map, hfl]
    rw [hbl] at j1 ⊢
    refine ⟨fun hj => ⟨by omega, ?_, fun _ => ?_⟩, fun hj => ⟨by omega, ?_⟩⟩
    · have hge2 : ((ρ 5).d.length : Int) ≤ j.i := by omega
      have hz : (fullL (bI (ρ 5).d) ((ρ 0).i.toNat * pieceLen (ρ 0).i.toNat (ρ 5).d.length))[j.i.toNat]? = some 0 := by
        rw [fullL, List.getElem?_append_right (by rw [bI_len]; omega), List.getElem?_replicate, if_pos (by rw [bI_len]; omega)]
      rw [bytesStr, List.getElem?_map, hz]
      rfl
    · have ha : arithOf .add .i64 j.i 1 = j.i + 1 := add64 (by omega) (by omega)
      rw [ha]
      exact ⟨⟨by omega, by omega, rfl⟩, by omega⟩
    · rw [bytesOf_eq, bytesStr, ← List.map_take, show (ρ 3).i.toNat = (bI (ρ 5).d).length by rw [bI_len]; omega, full_take]
end Go.Proofs

set_option linter.unusedSimpArgs false
set_option linter.unusedVariables false
namespace Go.Proofs
open Go Go.Eng
/-- What chosen pieces are good for. -/
theorem chosen_dec {h : Hp} {D D' : Rows'} {k total : Int} {data : List Int} {rs : List Int} (k1 : 1 ≤ k) (k2 : k ≤ total) (k3 : total ≤ 255) (hb : bytesL data) (h8 : data.length ≤ 8192) (he : encAt h D total.toNat (encP k.toNat total.toNat data)) (hc : chooseOk k.toNat total.toNat rs) (hd : chosenIn D D' rs k.toNat) :
    pcPre h D' k ∧ decK h D' k total (data.length : Int) k ∧ (∀ x : Int, 0 ≤ x → x < total → rebK h D' k total k x ∧ valL h D' k.toNat x = encP k.toNat total.toNat data x.toNat) ∧ pcN h D' 0 = pieceLen k.toNat data.length ∧ (decL h D' k.toNat).take data.length = data := by
  obtain ⟨hpc, hI⟩ := chosen_pc he hc hd
  have hs : sizesB k total = true := sizesB_iff.2 ⟨k1, k2, k3⟩
  have hL : ∀ j, j < k.toNat → pcN h D' j = pieceLen k.toNat data.length := fun j hj => by
    unfold pcN
    rw [(hI j hj).2, (enc_facts (by omega) (by omega) (by omega) hb _).1]
  have hpl := pieceLen_le (k := k.toNat) (n := data.length) (by omega)
  have hkt : (total.toNat : Int) = total := by omega
  have hkk : ((k.toNat : Nat) : Int) = k := by omega
  have hchk : ∀ len : Int, (len = -1 ∨ len = (pieceLen k.toNat data.length : Int)) → chkH h D' k total len k 0 := fun len hl => by
    have := chosen_chk (k := k) (h := h) (n := k.toNat) (t := total.toNat) (by omega) hc (fun j hj => (hI j hj).1) hL (by omega) hl (by omega)
    rwa [hkt, hkk] at this
  have hidx : idxL D' k.toNat = rs := by
    rw [chosen_idx (m := k.toNat) (by rw [hc.1]; exact Nat.le_refl _) (fun j hj => (hI j hj).1) (Nat.le_refl _), List.take_of_length_le (by rw [hc.1]; exact Nat.le_refl _)]
  have hval : ∀ x : Int, 0 ≤ x → x < total → valL h D' k.toNat x = encP k.toNat total.toNat data x.toNat := fun x x0 x1 => by
    have := enc_val (x := x.toNat) hc (by omega) (by omega) (by omega) hb (f := pcD h D') (fun j hj => (hI j hj).2) (by omega)
    rw [Int.toNat_of_nonneg x0] at this
    unfold valL
    rw [hidx, hL 0 (by omega), this]
  refine ⟨⟨by omega, by omega, hpc⟩, ⟨hs, by omega, by omega, hchk _ (.inr (by unfold plI; simp))⟩, fun x x0 x1 => ⟨⟨hs, x0, x1, hchk _ (.inl rfl)⟩, hval x x0 x1⟩, hL 0 (by omega), ?_⟩
  rw [decL, catN_congr (g := encP k.toNat total.toNat data) fun j hj => by rw [hval _ (by omega) (by omega)]; simp, enc_cat (by omega) (by omega) (by omega) hb, full_take]
theorem iI_at {d : Rows'} {i : Int} (i0 : 0 ≤ i) (i1 : i < d.length) : cellI d i 0 = (iI d).getD i.toNat 0 := by
  have hl : i.toNat < d.length := by omega
  rw [iI, List.getD_eq_getElem?_getD, List.getElem?_map, List.getElem?_eq_getElem hl]
  simp only [cellI, cellV, rowI, List.getElem?_eq_getElem hl, Option.map_some, Option.getD_some]
theorem chosen_snoc {h : Hp} {D D' : Rows'} {rs : List Int} {n i t : Nat} {f : Nat → List Int} {r : Int} (he : encAt h D t f) (hc : chooseOk n t rs) (hd : chosenIn D D' rs i) (hi : i < n) (hr : r = rs.getD i 0) : (0 ≤ r ∧ r < t) ∧ chosenIn D (D' ++ [[.int .i64 (cellI D r 0), cellV D r 1]]) rs (i + 1) := by
  have hm := hc.2.2 (rs.getD i 0) (getD_mem (by have := hc.1; omega))
  rw [← hr] at hm
  obtain ⟨v, d, e, _⟩ := he r.toNat (by omega)
  refine ⟨hm, by rw [List.length_append, hd.1]; rfl, fun j hj => ?_⟩
  by_cases hji : j < i
  · rw [List.getElem?_append_left (by rw [hd.1]; exact hji)]
    exact hd.2 j hji
  · obtain rfl : j = i := by omega
    rw [List.getElem?_append_right (by rw [hd.1]; exact Nat.le_refl _), hd.1, Nat.sub_self, ← hr, e]
    simp only [List.getElem?_cons_zero, cellI, cellV, e, Option.getD_some, vInt]
    rfl
set_option maxRecDepth 100000 in
set_option maxHeartbeats 4000000 in
theorem lawRecovers_ok : lawRecoversC.ok Try.prog := lawRecovers_of (by simp [newField_ok, encG_ok, choose64_ok, decodeG_ok, rebuildG_ok, known_ok]) fun ρ hg hp => by
  obtain ⟨w0, w1, w2, w3, ⟨d0, d1, d2, d3⟩, ⟨o0, o1, o2, o3⟩, ⟨b0, b1, b2⟩, hm, ⟨p0, p1, p2⟩, hpc⟩ := hp
  simp (config := { maxSteps := 40000000 }) [o_lawRecovers, lawRecoversC, lawCase, lawIs, lawRet, newFieldC, encGC, encC, encode31C, choose64C, decodeGC, decode69C, rebuildGC, rebuild71C, recA, recB, recW, recF, knownC, vStr_mk]
  intro _ _ k1 k2 k3
  have hte : (ρ 19).d.take (ρ 5).i.toNat = (ρ 19).d := List.take_of_length_le (by omega)
  have hs : sizesB (ρ 0).i (ρ 1).i = true := sizesB_iff.2 ⟨k1, k2, by omega⟩
  have hbb : bytesL (bI (ρ 19).d) := allB_list d3
  have h5 : (ρ 5).i = ((bI (ρ 19).d).length : Int) := by rw [bI_len]; exact d2
  rw [hte, Nat.min_eq_left (by omega)]
  refine ⟨d0, fun h20 => ⟨b0, fun h60 _ _ f0 _ hf0 _ _ => ⟨by omega, by omega, fun _ _ _ _ => ⟨⟨⟨.inl hf0, by omega, d3⟩, hs, by omega⟩, fun _ _ _ _ f1 _ D _ H _ hf1 _ _ hD hE => ⟨by omega, fun _ _ => ⟨⟨by omega, k2, by omega, b0, by omega, b2⟩, fun _ _ _ _ R _ hR hch H2 _ hst => ?_⟩⟩⟩⟩⟩⟩
  obtain ⟨hb, lb, db⟩ := star_mem_abs hst (n := 38) (t := 2) (by simp)
  have hE2 := encAt_mono hE (Hp.le_trans (by simpa using db) lb : Hp.le H.h H2.h)
  refine ⟨⟨⟨⟨k1, k2, k3, h20⟩, hf1, hD, hE2⟩, by omega, hR, hch, rfl, fun j hj => by omega⟩, ?_⟩
  clear hE hE2 hst lb db hf1 hD hch hR
  intro _ _ f _ _ _ _ _ D _ H _ _ _ n _ _ _ E _ _ _ R _ _ _ i _ _ _ _ _ hf hD hE i0 i1 hn hR hch hin
  have hnl : E.d.length = i.i.toNat := hin.1
  have ha : ∀ x : Int, 0 ≤ x → x < 300 → arithOf .add .i64 x 1 = x + 1 := fun x _ _ => add64 (by omega) (by omega)
  refine ⟨fun hi => ?_, fun hi => ?_⟩
  · have hat := iI_at (d := R.d) (i := i.i) i0 (by omega)
    obtain ⟨⟨r0, r1⟩, hsn⟩ := chosen_snoc hE hch hin (by omega) hat
    rw [ha _ i0 (by omega)]
    refine ⟨i0, by omega, r0, by omega, by omega, fun _ _ => ⟨by omega, by omega, fun _ _ _ _ H3 _ hst => ?_⟩⟩
    obtain ⟨hb, lb, db⟩ := star_mem_abs hst (n := 49) (t := 2) (by simp)
    have hE3 := encAt_mono hE (Hp.le_trans (by simpa using db) lb : Hp.le H.h H3.h)
    exact ⟨⟨⟨⟨k1, k2, k3, h20⟩, hf, hD, hE3⟩, by omega, by omega, by omega, hR, hch, by rw [show (i.i + 1).toNat = i.i.toNat + 1 by omega]; exact hsn⟩, by omega⟩
  · have hik : i.i = (ρ 0).i := by omega
    rw [hik] at hn hin
    obtain ⟨g1, g2, _, _, g5⟩ := chosen_dec k1 k2 (by omega) hbb (by omega) hE hch hin
    rw [hn, h5]
    refine ⟨⟨⟨hf, g1⟩, g2⟩, fun _ _ f2 _ d _ _ _ hf2 _ hdl hdB hdb => ?_⟩
    rw [Int.toNat_natCast] at hdb hdB ⊢
    rw [g5] at hdb
    have hstr : bytesOf (d.d.take (bI (ρ 19).d).length) = bytesOf (ρ 19).d := by
      rw [bytesOf_eq, bytesOf_eq, hdb]
    refine ⟨hdl, hstr, fun _ H3 _ hst => ?_⟩
    obtain ⟨hb, lb, db⟩ := star_mem_abs hst (n := 49) (t := 2) (by simp)
    have hE3 := encAt_mono hE (Hp.le_trans (by simpa using db) lb : Hp.le H.h H3.h)
    refine ⟨⟨⟨⟨k1, k2, k3, by omega⟩, hf2, hD, hE3⟩, by omega, rfl, _, hch, hin⟩, ?_⟩
    clear hE3 hst lb db hf2 hf hD hin hE g1 g2 g5 hch hR hn hdl hdB hdb hstr
    intro _ _ f _ _ _ _ _ D _ H _ _ _ n _ _ _ E _ i _ _ _ _ _ hf hD hE i0 i1 hn rs hch hin hi
    obtain ⟨g1, _, g3, g4, _⟩ := chosen_dec k1 k2 (by omega) hbb (by omega) hE hch hin
    obtain ⟨gK, gV⟩ := g3 i.i i0 hi
    rw [hn, ha _ i0 (by omega)]
    obtain ⟨v, e, e1, e2, e3, e4⟩ := hE i.i.toNat (by omega)
    have hc1 : cellV D.d i.i 1 = v := by simp only [cellV, e1, Option.getD_some]; rfl
    rw [hc1]
    refine ⟨⟨⟨hf, g1⟩, gK⟩, fun _ _ l _ _ _ f3 _ d _ hf3 _ hl hdl hdB hdb _ _ => ⟨by omega, by omega, i0, by omega, e, .inl e2, fun _ _ _ _ => ⟨?_, fun _ H4 _ hst => ?_⟩⟩⟩
    · rw [List.take_of_length_le (by omega), bytesOf_eq, bytesOf_eq, hdb, gV, e3]
    · obtain ⟨hb, lb, db⟩ := star_mem_abs hst (n := 68) (t := 2) (by simp)
      have hE4 := encAt_mono hE (Hp.le_trans (by simpa using db) lb : Hp.le H.h H4.h)
      exact ⟨⟨⟨⟨k1, k2, k3, by omega⟩, hf3, hD, hE4⟩, by omega, by omega, rfl, rs, hch, hin⟩, by omega⟩
end Go.Proofs

set_option linter.unusedSimpArgs false
set_option linter.unusedVariables false
namespace Go.Proofs
open Go Go.Eng
/-- One of the pieces gets other bytes. -/
theorem put_pc {h h' : Hp} {E d : Rows'} {n : Nat} {w : Int} {v : Value} (hp : pcOk h E n) (hl : Hp.le h h') (hw : w.toNat < n) (hE : E.length = n) (hr : Rd h' kB v d) (hB : allB d) :
    pcOk h' (putD E w 1 [v]) n ∧ (∀ j, j < n → pcI (putD E w 1 [v]) j = pcI E j) ∧ (∀ j, j < n → j ≠ w.toNat → pcD h' (putD E w 1 [v]) j = pcD h E j) ∧ pcD h' (putD E w 1 [v]) w.toNat = bI d := by
  have hother : ∀ j, j ≠ w.toNat → (putD E w 1 [v])[j]? = E[j]? := fun j hj => by
    unfold putD; rw [List.getElem?_set_ne (by omega)]
  obtain ⟨a0, v0, d0, e0, r0, b0⟩ := hp w.toNat hw
  have hsame : (putD E w 1 [v])[w.toNat]? = some [.int .i64 a0, v] := by
    unfold putD
    rw [List.getElem?_set_self (by omega), e0]
    rfl
  refine ⟨fun j hj => ?_, fun j hj => ?_, fun j hj hjw => ?_, ?_⟩
  · by_cases hjw : j = w.toNat
    · subst hjw
      exact ⟨a0, v, d, hsame, hr, hB⟩
    · obtain ⟨a, u, e, h1, h2, h3⟩ := hp j hj
      exact ⟨a, u, e, by rw [hother j hjw]; exact h1, Rd_mono h2 hl, h3⟩
  · by_cases hjw : j = w.toNat
    · subst hjw
      simp only [pcI, cellI, cellV, Int.toNat_natCast, hsame, e0, Option.getD_some, List.getElem?_cons_zero]
    · simp only [pcI, cellI, cellV, Int.toNat_natCast, hother j hjw]
  · obtain ⟨a, u, e, h1, h2, h3⟩ := hp j hj
    have e1 : cellV (putD E w 1 [v]) (j : Int) 1 = u := by simp only [cellV, Int.toNat_natCast, hother j hjw, h1, Option.getD_some]; rfl
    have e2 : cellV E (j : Int) 1 = u := by simp only [cellV, Int.toNat_natCast, h1, Option.getD_some]; rfl
    rw [pcD, pcD, e1, e2, rdL_eq h2, rdL_eq (Rd_mono h2 hl)]
  · have e1 : cellV (putD E w 1 [v]) (w.toNat : Int) 1 = v := by simp only [cellV, Int.toNat_natCast, hsame, Option.getD_some]; rfl
    rw [pcD, e1, rdL_eq hr]
/-- k + 1 pieces in order: only whether they agree is open. -/
theorem chosen_con {h : Hp} {E : Rows'} {k total : Int} {rs : List Int} {l : Nat} {b : Bool} {e : Int} (k1 : 1 ≤ k) (k2 : k < total) (k3 : total ≤ 255) (hc : chooseOk (k.toNat + 1) total.toNat rs) (hI : ∀ j, j < k.toNat + 1 → pcI E j = rs.getD j 0) (hL : ∀ j, j < k.toNat + 1 → pcN h E j = l) (h8 : l ≤ 8192)
    (hr : conP h E k total (k + 1) b e) : e = 0 ∧ (b = true ↔ ∀ j, j < k.toNat + 1 → mixN (pcD h E) (wgtL (rs.take k.toNat) (rs.getD j 0)) l k.toNat = pcD h E j) := by
  have hs : sizesB k total = true := sizesB_iff.2 ⟨k1, by omega, k3⟩
  have hkt : (total.toNat : Int) = total := by omega
  have hkk : ((k.toNat + 1 : Nat) : Int) = k + 1 := by omega
  have hchk : chkH h E k total (-1) (k + 1) 0 := by
    have := chosen_chk (k := k) (h := h) (n := k.toNat + 1) (t := total.toNat) (by omega) hc hI hL h8 (.inl rfl) (by omega)
    rwa [hkt, hkk] at this
  rcases hr with ⟨h1, h2, h3⟩ | ⟨h1, h2, h3, h4⟩ | ⟨h1, h2, h3, h4⟩
  · rw [hs] at h1; cases h1
  · exact (h3 (chkH_eq h2 hchk)).elim
  · refine ⟨h3, h4.trans ?_⟩
    have hidx : idxL E k.toNat = rs.take k.toNat := chosen_idx (by rw [hc.1]; omega) hI (by omega)
    have hv : ∀ x : Int, valL h E k.toNat x = mixN (pcD h E) (wgtL (rs.take k.toNat) x) l k.toNat := fun x => by unfold valL; rw [hidx, hL 0 (by omega)]
    unfold agreeP
    rw [show (k + 1).toNat = k.toNat + 1 by omega]
    constructor
    · intro ha j hj
      rw [← hv, ← hI j hj]; exact ha j hj
    · intro ha j hj
      rw [hI j hj, hv]; exact ha j hj
set_option maxRecDepth 100000 in
set_option maxHeartbeats 4000000 in
theorem lawDetects_ok : lawDetectsC.ok Try.prog := lawDetects_of (by simp [newField_ok, encG_ok, choose64_ok, consistentO_ok, known_ok]) fun ρ hg hp => by
  obtain ⟨w0, w1, w2, w3, ⟨d0, d1, d2, d3⟩, ⟨o0, o1, o2, o3⟩, ⟨b0, b1, b2⟩, hm, ⟨p0, p1, p2⟩, hpc⟩ := hp
  simp (config := { maxSteps := 40000000 }) [o_lawDetects, lawDetectsC, lawCase, lawIs, lawRet, newFieldC, encGC, encC, encode31C, choose64C, consistentO, consistent67C, Alt.withAbs, detA, recW, recF, knownC, vStr_mk]
  intro _ _ k1 k2 k3
  have hte : (ρ 19).d.take (ρ 5).i.toNat = (ρ 19).d := List.take_of_length_le (by omega)
  have hs : sizesB (ρ 0).i (ρ 1).i = true := sizesB_iff.2 ⟨k1, by omega, by omega⟩
  have hbb : bytesL (bI (ρ 19).d) := allB_list d3
  have ha : ∀ x : Int, 0 ≤ x → x < 300 → arithOf .add .i64 x 1 = x + 1 := fun x _ _ => add64 (by omega) (by omega)
  rw [hte, Nat.min_eq_left (by omega), ha (ρ 0).i (by omega) (by omega)]
  refine ⟨d0, fun h20 => ⟨b0, fun h60 _ _ f0 _ hf0 _ _ => ⟨by omega, by omega, fun _ _ _ _ => ⟨⟨⟨.inl hf0, by omega, d3⟩, hs, by omega⟩, fun _ _ _ _ f1 _ D _ H _ hf1 _ _ hD hE => ⟨by omega, fun _ _ => ⟨⟨by omega, by omega, by omega, b0, by omega, b2⟩, fun _ _ _ _ R _ hR hch H2 _ hst => ?_⟩⟩⟩⟩⟩⟩
  rw [show ((ρ 0).i + 1).toNat = (ρ 0).i.toNat + 1 by omega] at hR hch
  obtain ⟨hb, lb, db⟩ := star_mem_abs hst (n := 38) (t := 2) (by simp)
  have hE2 := encAt_mono hE (Hp.le_trans (by simpa using db) lb : Hp.le H.h H2.h)
  refine ⟨⟨⟨⟨k1, by omega, k3, h20⟩, hf1, hD, hE2⟩, k2, rfl, by omega, hR, hch, rfl, fun j hj => by omega⟩, ?_⟩
  clear hE hE2 hst lb db hf1 hD hch hR
  intro _ _ f _ _ _ _ _ D _ H _ _ _ n _ _ _ E _ _ _ R _ _ _ i _ t _ _ _ _ _ hf hD hE _ ht i0 i1 hn hR hch hin
  have hnl : E.d.length = i.i.toNat := hin.1
  refine ⟨fun hi => ?_, fun hi H3 _ hst => ?_⟩
  · have hat := iI_at (d := R.d) (i := i.i) i0 (by omega)
    obtain ⟨⟨r0, r1⟩, hsn⟩ := chosen_snoc hE hch hin (by omega) hat
    rw [ha _ i0 (by omega)]
    refine ⟨i0, by omega, by omega, r0, by omega, by omega, fun _ _ => ⟨by omega, by omega, fun _ _ _ _ H3 _ hst => ?_⟩⟩
    obtain ⟨hb, lb, db⟩ := star_mem_abs hst (n := 49) (t := 2) (by simp)
    have hE3 := encAt_mono hE (Hp.le_trans (by simpa using db) lb : Hp.le H.h H3.h)
    exact ⟨⟨⟨⟨k1, by omega, k3, h20⟩, hf, hD, hE3⟩, k2, ht, by omega, by omega, by omega, hR, hch, by rw [show (i.i + 1).toNat = i.i.toNat + 1 by omega]; exact hsn⟩, by omega⟩
  · obtain ⟨hb, lb, db⟩ := star_mem_abs hst (n := 49) (t := 2) (by simp)
    have hE3 := encAt_mono hE (Hp.le_trans (by simpa using db) lb : Hp.le H.h H3.h)
    have hik : i.i = (ρ 0).i + 1 := by omega
    have hkn : ((ρ 0).i + 1).toNat = (ρ 0).i.toNat + 1 := by omega
    rw [hik] at hn hin
    rw [hkn] at hin
    rw [hn]
    obtain ⟨hpcE, hIE⟩ := chosen_pc hE3 hch hin
    have hpl := pieceLen_le (k := (ρ 0).i.toNat) (n := (bI (ρ 19).d).length) (by omega)
    rw [bI_len] at hpl
    have henc : ∀ r, (encP (ρ 0).i.toNat (ρ 1).i.toNat (bI (ρ 19).d) r).length = pieceLen (ρ 0).i.toNat (ρ 19).d.length ∧ bytesL (encP (ρ 0).i.toNat (ρ 1).i.toNat (bI (ρ 19).d) r) := fun r => by
      obtain ⟨e1, e2, _⟩ := enc_facts (k := (ρ 0).i.toNat) (total := (ρ 1).i.toNat) (by omega) (by omega) (by omega) hbb r
      exact ⟨by rw [e1, bI_len], e2⟩
    have hLE : ∀ j, j < (ρ 0).i.toNat + 1 → pcN H3.h E.d j = pieceLen (ρ 0).i.toNat (ρ 19).d.length := fun j hj => by
      unfold pcN; rw [(hIE j hj).2, (henc _).1]
    obtain ⟨ht1, ht2⟩ := choose_take (k := (ρ 0).i.toNat) hch (by omega)
    have hval : ∀ j, j < (ρ 0).i.toNat + 1 → mixN (pcD H3.h E.d) (wgtL ((iI R.d).take (ρ 0).i.toNat) ((iI R.d).getD j 0)) (pieceLen (ρ 0).i.toNat (ρ 19).d.length) (ρ 0).i.toNat = pcD H3.h E.d j := fun j hj => by
      have hm := hch.2.2 ((iI R.d).getD j 0) (getD_mem (by have := hch.1; omega))
      have := enc_val (x := ((iI R.d).getD j 0).toNat) ht1 (by omega) (by omega) (by omega) hbb (f := pcD H3.h E.d) (fun m hm => by rw [(hIE m (by omega)).2, ht2 m hm]) (by omega)
      rw [Int.toNat_of_nonneg hm.1, bI_len] at this
      rw [this, (hIE j hj).2]
    refine ⟨⟨hf, by omega, by omega, by rw [hkn]; exact hpcE⟩, fun b _ e _ f2 _ hf2 hcon => ?_⟩
    obtain ⟨he, hb⟩ := chosen_con k1 k2 (by omega) hch (fun j hj => (hIE j hj).1) hLE (by omega) hcon
    refine ⟨hb.2 hval, fun _ => ⟨he, fun _ => ⟨by omega, by omega, ?_⟩⟩⟩
    obtain ⟨v0, q0, x1, x2, x3, x4, x5⟩ := pc_at hpcE (j := 0) (by omega)
    have x2' : cellV E.d 0 1 = v0 := x2
    refine ⟨q0, .inl (by rw [x2']; exact x3), fun _ _ _ _ w0 w1 at0 at1 m0 _ _ => ⟨w0, by omega, by omega, ?_⟩⟩
    have hwl : (ρ 13).i.toNat < (ρ 0).i.toNat + 1 := by omega
    obtain ⟨v1, q1, y1, y2, y3, y4, y5⟩ := pc_at hpcE hwl
    rw [Int.toNat_of_nonneg w0] at y2
    have hl0 : q0.length = pieceLen (ρ 0).i.toNat (ρ 19).d.length := by
      have := hLE 0 (by omega); unfold pcN at this; rw [← bI_len, ← x5]; exact this
    have hl1 : q1.length = pieceLen (ρ 0).i.toNat (ρ 19).d.length := by
      have := hLE _ hwl; unfold pcN at this; rw [← bI_len, ← y5]; exact this
    refine ⟨q1, .inl (by rw [y2]; exact y3), fun _ _ _ _ => ⟨by omega, fun r _ cp _ => ⟨at0, by omega, fun H4 _ hst => ?_⟩⟩⟩
    obtain ⟨hx, lx, dx⟩ := star_mem hst (List.mem_cons_self ..)
    have hr := arr_Rd (n := q1.length) (k := cp.i.toNat) dx lx (by simp [T.den, O3.den, putD]) (by simp [T.den])
    obtain ⟨hb4, lb4, db4⟩ := star_mem_abs hst (n := 59) (t := 2) (by simp)
    have hle : Hp.le H3.h H4.h := Hp.le_trans (by simpa using db4) lb4
    have hr : Rd H4.h kB (.slice (addrOf r.r 0) q1.length cp.i.toNat) (putD q1 (ρ 14).i 0 [.int .u8 (arithOf .xor .u8 (cellI q1 (ρ 14).i 0) (ρ 15).i)]) := by
      simpa [kB, T.den, O1.den, O2.den, O3.den, O0.den] using hr
    obtain ⟨n1, n2, n3, n4⟩ := put_pc hpcE hle hwl hin.1 hr (allB_put y4 xorB_range.1 xorB_range.2)
    rw [bI_other at0 (by omega)] at n4
    have hob : bytesL (otherL (bI q1) (ρ 14).i (ρ 15).i) := other_bytes (allB_list y4)
    have hol : (otherL (bI q1) (ρ 14).i (ρ 15).i).length = pieceLen (ρ 0).i.toNat (ρ 19).d.length := by rw [otherL, List.length_set, bI_len, hl1]
    have hpcg : ∀ j, j < (ρ 0).i.toNat + 1 → (pcD H4.h (putD E.d (ρ 13).i 1 [.slice (addrOf r.r 0) q1.length cp.i.toNat]) j).length = pieceLen (ρ 0).i.toNat (ρ 19).d.length ∧ bytesL (pcD H4.h (putD E.d (ρ 13).i 1 [.slice (addrOf r.r 0) q1.length cp.i.toNat]) j) := fun j hj => by
      by_cases hjw : j = (ρ 13).i.toNat
      · rw [hjw, n4]; exact ⟨hol, hob⟩
      · rw [n3 j hj hjw, (hIE j hj).2]; exact henc _
    refine ⟨⟨hf2, by omega, by omega, by rw [hkn]; exact n1⟩, fun b2 _ e2 _ f3 _ hf3 hcon2 => ?_⟩
    obtain ⟨he2, hb2⟩ := chosen_con k1 k2 (by omega) hch (fun j hj => by rw [n2 j hj]; exact (hIE j hj).1) (fun j hj => (hpcg j hj).1) (by omega) hcon2
    refine ⟨fun _ => he2, ?_⟩
    rw [Bool.eq_false_iff]
    intro hbt
    have hall := hb2.1 hbt
    have hpe : pieceLen (ρ 0).i.toNat (ρ 19).d.length = pieceLen (ρ 0).i.toNat (bI (ρ 19).d).length := by rw [bI_len]
    rw [hpe] at hall hpcg
    refine enc_detect (g := pcD H4.h (putD E.d (ρ 13).i 1 [.slice (addrOf r.r 0) q1.length cp.i.toNat])) hch (by omega) (by omega) (by omega) hbb hwl hpcg (fun j hj hjw => by rw [n3 j hj hjw, (hIE j hj).2]) ?_ hall
    rw [n4, ← (hIE _ hwl).2, y5]
    exact fun h => other_ne (allB_list y4) at0 (by rw [bI_len]; omega) hm m0 h.symm
end Go.Proofs
