import Derived.Test.YtkiheclcmgbmnaaZB
import Derived.Test.YtkiheclcmgbmnaaProg
set_option linter.unusedSimpArgs false
set_option linter.unusedVariables false
set_option maxRecDepth 100000
namespace Go.Proofs
open Go Go.Eng

def o_sizes74 : Out := (.br (.cmp .leq (.lit (1)) (.var 0))
 (.br (.cmp .leq (.var 0) (.var 1))
 (.ret 0 ⟨2, [(2, (.t (.cmp .leq (.var 1) (.lit (255)))))], [], [], []⟩)
 (.ret 0 ⟨2, [(2, (.t (.bl false)))], [], [], []⟩))
 (.ret 0 ⟨2, [(2, (.t (.bl false)))], [], [], []⟩))
theorem o_sizes74_eq : treeOf ⟨Try.prog, sizes74C, [], []⟩ 100000 Try.f74 = o_sizes74 := by kernel_rfl
theorem sizes74_of (hd : ∀ c ∈ ([] : List Ctr), c.ok Try.prog) (h : ∀ ρ : Env, ρ.good → (sizes74C).pre ρ → o_sizes74.den ⟨Try.prog, sizes74C, [], []⟩ ρ) : (sizes74C).ok Try.prog :=
  ok_of_tree Try.func74 (fun a w => Try.call74 a w) hd 100000 (fun ρ hg hp => by rw [o_sizes74_eq]; exact h ρ hg hp)
def o_piece26 : Out := (.br (.cmp .lss (.var 0) (.lit (1)))
 (.ret 0 ⟨2, [(3, (.t (.lit (2)))), (2, (.t (.lit (0))))], [], [], []⟩)
 (.br (.cmp .gtr (.var 0) (.lit (255)))
 (.ret 0 ⟨2, [(3, (.t (.lit (2)))), (2, (.t (.lit (0))))], [], [], []⟩)
 (.br (.cmp .lss (.var 1) (.lit (0)))
 (.ret 0 ⟨2, [(3, (.t (.lit (2)))), (2, (.t (.lit (0))))], [], [], []⟩)
 (.br (.cmp .gtr (.var 1) (.lit (8192)))
 (.ret 0 ⟨2, [(3, (.t (.lit (2)))), (2, (.t (.lit (0))))], [], [], []⟩)
 (.need (.cmp .neq (.var 0) (.lit (0))) (.ret 0 ⟨2, [(3, (.t (.lit (0)))), (2, (.t (.arith .quo .i64 (.arith .sub .i64 (.arith .add .i64 (.var 1) (.var 0)) (.lit (1))) (.var 0))))], [], [], []⟩))))))
theorem o_piece26_eq : treeOf ⟨Try.prog, piece26C, [], []⟩ 100000 Try.f26 = o_piece26 := by kernel_rfl
theorem piece26_of (hd : ∀ c ∈ ([] : List Ctr), c.ok Try.prog) (h : ∀ ρ : Env, ρ.good → (piece26C).pre ρ → o_piece26.den ⟨Try.prog, piece26C, [], []⟩ ρ) : (piece26C).ok Try.prog :=
  ok_of_tree Try.func26 (fun a w => Try.call26 a w) hd 100000 (fun ρ hg hp => by rw [o_piece26_eq]; exact h ρ hg hp)
def o_zero82 : Out := (.fresh 2 (.need (.cmp .leq (.lit (0)) (.arith .mul .i64 (.var 0) (.var 1))) (.need (.cmp .leq (.tims (.lit (1)) (.arith .mul .i64 (.var 0) (.var 1))) (.lit (281474976710656))) (.fresh 3 (.ret 0 ⟨2, [(5, (.t (.drep (.arith .mul .i64 (.var 0) (.var 1)) (.rcons (.vint .u8 (.lit (0))) .rnil)))), (4, (.t (.arith .mul .i64 (.var 0) (.var 1)))), (3, (.t (.arith .mul .i64 (.var 0) (.var 1)))), (2, (.r 3))], [((.var 4), (.arith .mul .i64 (.var 0) (.var 1))), ((.lit (0)), (.lit (0))), ((.var 1), (.var 1)), ((.var 0), (.var 0))], [], []⟩)))))
theorem o_zero82_eq : treeOf ⟨Try.prog, zero82C, [], []⟩ 100000 Try.f82 = o_zero82 := by kernel_rfl
theorem zero82_of (hd : ∀ c ∈ ([] : List Ctr), c.ok Try.prog) (h : ∀ ρ : Env, ρ.good → (zero82C).pre ρ → o_zero82.den ⟨Try.prog, zero82C, [], []⟩ ρ) : (zero82C).ok Try.prog :=
  ok_of_tree Try.func82 (fun a w => Try.call82 a w) hd 100000 (fun ρ hg hp => by rw [o_zero82_eq]; exact h ρ hg hp)
def o_row75 : Out := (.fresh 8 (.need (.cmp .leq (.lit (0)) (.var 3)) (.need (.cmp .leq (.lit (0)) (.var 4)) (.need (.cmp .leq (.lit (0)) (.arith .mul .i64 (.var 7) (.var 1))) (.need (.cmp .leq (.arith .mul .i64 (.var 7) (.var 1)) (.arith .mul .i64 (.arith .add .i64 (.var 7) (.lit (1))) (.var 1))) (.need (.cmp .leq (.arith .mul .i64 (.arith .add .i64 (.var 7) (.lit (1))) (.var 1)) (.var 4)) (.ret 0 ⟨8, [(10, (.t (.minus (.arith .mul .i64 (.arith .add .i64 (.var 7) (.lit (1))) (.var 1)) (.arith .mul .i64 (.var 7) (.var 1))))), (9, (.t (.minus (.arith .mul .i64 (.arith .add .i64 (.var 7) (.lit (1))) (.var 1)) (.arith .mul .i64 (.var 7) (.var 1))))), (8, (.t (.ife (.arith .mul .i64 (.arith .add .i64 (.var 7) (.lit (1))) (.var 1)) (.arith .mul .i64 (.var 7) (.var 1)) (.lit (0)) (.arith .mul .i64 (.var 7) (.var 1)))))], [], [], []⟩)))))))
theorem o_row75_eq : treeOf ⟨Try.prog, row75C, [], []⟩ 100000 Try.f75 = o_row75 := by kernel_rfl
theorem row75_of (hd : ∀ c ∈ ([] : List Ctr), c.ok Try.prog) (h : ∀ ρ : Env, ρ.good → (row75C).pre ρ → o_row75.den ⟨Try.prog, row75C, [], []⟩ ρ) : (row75C).ok Try.prog :=
  ok_of_tree Try.func75 (fun a w => Try.call75 a w) hd 100000 (fun ρ hg hp => by rw [o_row75_eq]; exact h ρ hg hp)
def o_valid36 : Out := (.fresh 7 (.br (.cmp .geq (.var 0) (.lit (1)))
 (.br (.cmp .leq (.var 0) (.lit (255)))
 (.br (.cmp .geq (.var 1) (.lit (1)))
 (.br (.cmp .leq (.var 1) (.lit (255)))
 (.need (.cmp .leq (.lit (0)) (.var 3)) (.ret 0 ⟨7, [(7, (.t (.cmp .eql (.var 3) (.arith .mul .i64 (.var 0) (.var 1)))))], [], [], []⟩))
 (.ret 0 ⟨7, [(7, (.t (.bl false)))], [], [], []⟩))
 (.ret 0 ⟨7, [(7, (.t (.bl false)))], [], [], []⟩))
 (.ret 0 ⟨7, [(7, (.t (.bl false)))], [], [], []⟩))
 (.ret 0 ⟨7, [(7, (.t (.bl false)))], [], [], []⟩)))
theorem o_valid36_eq : treeOf ⟨Try.prog, valid36C, [], []⟩ 100000 Try.f36 = o_valid36 := by kernel_rfl
theorem valid36_of (hd : ∀ c ∈ ([] : List Ctr), c.ok Try.prog) (h : ∀ ρ : Env, ρ.good → (valid36C).pre ρ → o_valid36.den ⟨Try.prog, valid36C, [], []⟩ ρ) : (valid36C).ok Try.prog :=
  ok_of_tree Try.func36 (fun a w => Try.call36 a w) hd 100000 (fun ρ hg hp => by rw [o_valid36_eq]; exact h ρ hg hp)
def o_clone84 : Out := (.fresh 7 (.fresh 8 (.both (.fresh 9 (.both (.need (.cmp .leq (.lit (0)) (.var 3)) (.need (.cmp .leq (.var 3) (.dlen (.var 5))) (.need (.cmp .leq (.tims (.lit (1)) (.var 3)) (.lit (140737488355328))) (.fresh 10 (.fresh 11 (.both (.both (.ret 0 ⟨7, [(9, (.t (.dtake (.var 5) (.var 3)))), (8, (.t (.var 11))), (7, (.r 10))], [((.var 8), (.var 11)), ((.var 3), (.var 3)), ((.lit (0)), (.lit (0))), ((.var 1), (.var 1)), ((.var 0), (.var 0))], [], []⟩) .top) .top)))))) .top)) .top)))
theorem o_clone84_eq : treeOf ⟨Try.prog, clone84C, [], []⟩ 100000 Try.f84 = o_clone84 := by kernel_rfl
theorem clone84_of (hd : ∀ c ∈ ([] : List Ctr), c.ok Try.prog) (h : ∀ ρ : Env, ρ.good → (clone84C).pre ρ → o_clone84.den ⟨Try.prog, clone84C, [], []⟩ ρ) : (clone84C).ok Try.prog :=
  ok_of_tree Try.func84 (fun a w => Try.call84 a w) hd 100000 (fun ρ hg hp => by rw [o_clone84_eq]; exact h ρ hg hp)
def o_addTo : Out := (.br (.cmp .eql (.var 14) (.lit (0)))
 (.ret 0 ⟨15, [(16, (.t (.var 6))), (15, (.t (.var 1)))], [((.var 7), (.var 7)), ((.lit (1)), (.lit (1)))], [], []⟩)
 (.need (.cmp .leq (.lit (0)) (.var 10)) (.inv 0 15 ⟨1000, [(1002, (.t (.var 6))), (1001, (.t (.var 1))), (1000, (.t (.lit (0))))], [((.var 7), (.var 7)), ((.lit (1)), (.lit (1))), ((.var 10), (.var 10)), ((.var 11), (.var 11)), ((.var 10), (.var 10)), ((.var 9), (.var 9)), ((.var 14), (.var 14)), ((.var 5), (.var 5)), ((.var 4), (.var 4)), ((.var 3), (.var 3)), ((.lit (0)), (.lit (0)))], [], []⟩ (.fresh 15 (.fresh 16 (.fresh 17 (.hyp 0 15 (.br (.cmp .lss (.var 15) (.var 10))
 (.need (.cmp .leq (.lit (0)) (.var 15)) (.need (.cmp .leq (.lit (0)) (.var 9)) (.need (.cmp .leq (.lit (0)) (.plus (.var 9) (.var 15))) (.need (.cmp .lss (.plus (.var 9) (.var 15)) (.dlen (.var 12))) (.need (.cmp .lss (.var 15) (.var 4)) (.need (.cmp .leq (.lit (0)) (.var 3)) (.need (.cmp .leq (.lit (0)) (.plus (.var 3) (.var 15))) (.need (.cmp .lss (.plus (.var 3) (.var 15)) (.dlen (.var 17))) (.both (.pre 0 ⟨0, [(1, (.t (.var 16))), (3, (.t (.icell (.var 12) (.plus (.var 9) (.var 15)) 0))), (2, (.t (.var 14))), (0, (.r 0))], [((.lit (1)), (.lit (1))), ((.lit (0)), (.lit (0)))], [], []⟩ (.both (.fresh 18 (.fresh 19 (.post 0 0 ⟨0, [(1, (.t (.var 16))), (3, (.t (.icell (.var 12) (.plus (.var 9) (.var 15)) 0))), (2, (.t (.var 14))), (0, (.r 0))], [((.lit (1)), (.lit (1))), ((.lit (0)), (.lit (0)))], [], []⟩ 18 (.both (.back 0 15 ⟨1000, [(1002, (.t (.dput (.var 17) (.plus (.var 3) (.var 15)) 0 (.rcons (.vint .u8 (.arith .xor .u8 (.icell (.var 17) (.plus (.var 3) (.var 15)) 0) (.var 18))) .rnil)))), (1001, (.t (.var 19))), (1000, (.t (.arith .add .i64 (.var 15) (.lit (1)))))], [((.var 7), (.var 7)), ((.lit (1)), (.lit (1))), ((.var 10), (.var 10)), ((.var 11), (.var 11)), ((.var 10), (.var 10)), ((.var 9), (.var 9)), ((.var 14), (.var 14)), ((.var 5), (.var 5)), ((.var 4), (.var 4)), ((.var 3), (.var 3)), ((.lit (0)), (.lit (0)))], [], []⟩) .top)))) .top)) .top)))))))))
 (.ret 0 ⟨15, [(16, (.t (.var 17))), (15, (.t (.var 16)))], [((.var 7), (.var 7)), ((.lit (1)), (.lit (1)))], [], []⟩)))))))))
theorem o_addTo_eq : treeOf ⟨Try.prog, addToC, [mulC], [addToI]⟩ 100000 Try.f76 = o_addTo := by kernel_rfl
theorem addTo_of (hd : ∀ c ∈ ([mulC] : List Ctr), c.ok Try.prog) (h : ∀ ρ : Env, ρ.good → (addToC).pre ρ → o_addTo.den ⟨Try.prog, addToC, [mulC], [addToI]⟩ ρ) : (addToC).ok Try.prog :=
  ok_of_tree Try.func76 (fun a w => Try.call76 a w) hd 100000 (fun ρ hg hp => by rw [o_addTo_eq]; exact h ρ hg hp)
def o_addToSame : Out := (.br (.cmp .eql (.var 11) (.lit (0)))
 (.ret 0 ⟨12, [(13, (.t (.var 6))), (12, (.t (.var 1)))], [((.var 7), (.var 7)), ((.lit (1)), (.lit (1)))], [], []⟩)
 (.need (.cmp .leq (.lit (0)) (.var 9)) (.inv 0 12 ⟨1000, [(1002, (.t (.var 6))), (1001, (.t (.var 1))), (1000, (.t (.lit (0))))], [((.var 7), (.var 7)), ((.lit (1)), (.lit (1))), ((.var 9), (.var 9)), ((.var 10), (.var 10)), ((.var 9), (.var 9)), ((.var 8), (.var 8)), ((.var 11), (.var 11)), ((.var 5), (.var 5)), ((.var 4), (.var 4)), ((.var 3), (.var 3)), ((.lit (0)), (.lit (0)))], [], []⟩ (.fresh 12 (.fresh 13 (.fresh 14 (.hyp 0 12 (.br (.cmp .lss (.var 12) (.var 9))
 (.need (.cmp .leq (.lit (0)) (.var 12)) (.need (.cmp .leq (.lit (0)) (.var 8)) (.need (.cmp .leq (.lit (0)) (.plus (.var 8) (.var 12))) (.need (.cmp .lss (.plus (.var 8) (.var 12)) (.dlen (.var 14))) (.need (.cmp .lss (.var 12) (.var 4)) (.need (.cmp .leq (.lit (0)) (.var 3)) (.need (.cmp .leq (.lit (0)) (.plus (.var 3) (.var 12))) (.need (.cmp .lss (.plus (.var 3) (.var 12)) (.dlen (.var 14))) (.both (.pre 0 ⟨0, [(1, (.t (.var 13))), (3, (.t (.icell (.var 14) (.plus (.var 8) (.var 12)) 0))), (2, (.t (.var 11))), (0, (.r 0))], [((.lit (1)), (.lit (1))), ((.lit (0)), (.lit (0)))], [], []⟩ (.both (.fresh 15 (.fresh 16 (.post 0 0 ⟨0, [(1, (.t (.var 13))), (3, (.t (.icell (.var 14) (.plus (.var 8) (.var 12)) 0))), (2, (.t (.var 11))), (0, (.r 0))], [((.lit (1)), (.lit (1))), ((.lit (0)), (.lit (0)))], [], []⟩ 15 (.both (.back 0 12 ⟨1000, [(1002, (.t (.dput (.var 14) (.plus (.var 3) (.var 12)) 0 (.rcons (.vint .u8 (.arith .xor .u8 (.icell (.var 14) (.plus (.var 3) (.var 12)) 0) (.var 15))) .rnil)))), (1001, (.t (.var 16))), (1000, (.t (.arith .add .i64 (.var 12) (.lit (1)))))], [((.var 7), (.var 7)), ((.lit (1)), (.lit (1))), ((.var 9), (.var 9)), ((.var 10), (.var 10)), ((.var 9), (.var 9)), ((.var 8), (.var 8)), ((.var 11), (.var 11)), ((.var 5), (.var 5)), ((.var 4), (.var 4)), ((.var 3), (.var 3)), ((.lit (0)), (.lit (0)))], [], []⟩) .top)))) .top)) .top)))))))))
 (.ret 0 ⟨12, [(13, (.t (.var 14))), (12, (.t (.var 13)))], [((.var 7), (.var 7)), ((.lit (1)), (.lit (1)))], [], []⟩)))))))))
theorem o_addToSame_eq : treeOf ⟨Try.prog, addToS, [mulC], [addToSI]⟩ 100000 Try.f76 = o_addToSame := by kernel_rfl
theorem addToSame_of (hd : ∀ c ∈ ([mulC] : List Ctr), c.ok Try.prog) (h : ∀ ρ : Env, ρ.good → (addToS).pre ρ → o_addToSame.den ⟨Try.prog, addToS, [mulC], [addToSI]⟩ ρ) : (addToS).ok Try.prog :=
  ok_of_tree Try.func76 (fun a w => Try.call76 a w) hd 100000 (fun ρ hg hp => by rw [o_addToSame_eq]; exact h ρ hg hp)
def o_scale : Out := (.need (.cmp .leq (.lit (0)) (.var 4)) (.inv 0 9 ⟨1000, [(1002, (.t (.var 6))), (1001, (.t (.var 1))), (1000, (.t (.lit (0))))], [((.var 7), (.var 7)), ((.lit (1)), (.lit (1))), ((.var 4), (.var 4)), ((.var 5), (.var 5)), ((.var 4), (.var 4)), ((.var 3), (.var 3)), ((.var 8), (.var 8)), ((.var 5), (.var 5)), ((.var 4), (.var 4)), ((.var 3), (.var 3)), ((.lit (0)), (.lit (0)))], [], []⟩ (.fresh 9 (.fresh 10 (.fresh 11 (.hyp 0 9 (.br (.cmp .lss (.var 9) (.var 4))
 (.need (.cmp .leq (.lit (0)) (.var 9)) (.need (.cmp .leq (.lit (0)) (.var 3)) (.need (.cmp .leq (.lit (0)) (.plus (.var 3) (.var 9))) (.need (.cmp .lss (.plus (.var 3) (.var 9)) (.dlen (.var 11))) (.pre 0 ⟨0, [(1, (.t (.var 10))), (3, (.t (.var 8))), (2, (.t (.icell (.var 11) (.plus (.var 3) (.var 9)) 0))), (0, (.r 0))], [((.lit (1)), (.lit (1))), ((.lit (0)), (.lit (0)))], [], []⟩ (.both (.fresh 12 (.fresh 13 (.post 0 0 ⟨0, [(1, (.t (.var 10))), (3, (.t (.var 8))), (2, (.t (.icell (.var 11) (.plus (.var 3) (.var 9)) 0))), (0, (.r 0))], [((.lit (1)), (.lit (1))), ((.lit (0)), (.lit (0)))], [], []⟩ 12 (.back 0 9 ⟨1000, [(1002, (.t (.dput (.var 11) (.plus (.var 3) (.var 9)) 0 (.rcons (.vint .u8 (.var 12)) .rnil)))), (1001, (.t (.var 13))), (1000, (.t (.arith .add .i64 (.var 9) (.lit (1)))))], [((.var 7), (.var 7)), ((.lit (1)), (.lit (1))), ((.var 4), (.var 4)), ((.var 5), (.var 5)), ((.var 4), (.var 4)), ((.var 3), (.var 3)), ((.var 8), (.var 8)), ((.var 5), (.var 5)), ((.var 4), (.var 4)), ((.var 3), (.var 3)), ((.lit (0)), (.lit (0)))], [], []⟩)))) .top))))))
 (.ret 0 ⟨9, [(10, (.t (.var 11))), (9, (.t (.var 10)))], [((.var 7), (.var 7)), ((.lit (1)), (.lit (1)))], [], []⟩))))))))
theorem o_scale_eq : treeOf ⟨Try.prog, scaleC, [mulC], [scaleI]⟩ 100000 Try.f97 = o_scale := by kernel_rfl
theorem scale_of (hd : ∀ c ∈ ([mulC] : List Ctr), c.ok Try.prog) (h : ∀ ρ : Env, ρ.good → (scaleC).pre ρ → o_scale.den ⟨Try.prog, scaleC, [mulC], [scaleI]⟩ ρ) : (scaleC).ok Try.prog :=
  ok_of_tree Try.func97 (fun a w => Try.call97 a w) hd 100000 (fun ρ hg hp => by rw [o_scale_eq]; exact h ρ hg hp)
def o_inv51 : Out := (.br (.and (.cmp .eql (.dlen (.var 1)) (.lit (0))) (.isnil 0))
 (.ret 0 ⟨3, [(5, (.t (.var 1))), (4, (.t (.lit (1)))), (3, (.t (.lit (0))))], [((.lit (1)), (.lit (1)))], [], []⟩)
 (.br (.cmp .eql (.var 2) (.lit (0)))
 (.ret 0 ⟨3, [(5, (.t (.var 1))), (4, (.t (.lit (2)))), (3, (.t (.lit (0))))], [((.lit (1)), (.lit (1)))], [], []⟩)
 (.need (.cmp .lss (.lit (0)) (.dlen (.var 1))) (.pre 0 ⟨0, [(1, (.t (.var 1))), (0, (.r 0))], [((.lit (1)), (.lit (1))), ((.lit (0)), (.lit (0))), ((.lit (0)), (.lit (0)))], [], []⟩ (.both (.fresh 3 (.post 0 0 ⟨0, [(1, (.t (.var 1))), (0, (.r 0))], [((.lit (1)), (.lit (1))), ((.lit (0)), (.lit (0))), ((.lit (0)), (.lit (0)))], [], []⟩ 3 (.need (.cmp .lss (.lit (0)) (.dlen (.var 3))) (.need (.cmp .leq (.lit (0)) (.var 2)) (.need (.cmp .lss (.var 2) (.lit (256))) (.need (.cmp .leq (.lit (0)) (.arith .sub .i64 (.lit (255)) (.c2 (.xint 513) (.var 3) (.var 2)))) (.need (.cmp .lss (.arith .sub .i64 (.lit (255)) (.c2 (.xint 513) (.var 3) (.var 2))) (.lit (510))) (.ret 0 ⟨3, [(5, (.t (.var 3))), (4, (.t (.lit (0)))), (3, (.t (.c2 (.xint 3) (.var 3) (.arith .sub .i64 (.lit (255)) (.c2 (.xint 513) (.var 3) (.var 2))))))], [((.lit (1)), (.lit (1)))], [], []⟩)))))))) .top)))))
theorem o_inv51_eq : treeOf ⟨Try.prog, inv51C, [onceC], []⟩ 100000 Try.f51 = o_inv51 := by kernel_rfl
theorem inv51_of (hd : ∀ c ∈ ([onceC] : List Ctr), c.ok Try.prog) (h : ∀ ρ : Env, ρ.good → (inv51C).pre ρ → o_inv51.den ⟨Try.prog, inv51C, [onceC], []⟩ ρ) : (inv51C).ok Try.prog :=
  ok_of_tree Try.func51 (fun a w => Try.call51 a w) hd 100000 (fun ρ hg hp => by rw [o_inv51_eq]; exact h ρ hg hp)
def o_pow37 : Out := (.br (.and (.cmp .eql (.dlen (.var 1)) (.lit (0))) (.isnil 0))
 (.ret 0 ⟨4, [(5, (.t (.var 1))), (4, (.t (.lit (0))))], [((.lit (1)), (.lit (1)))], [], []⟩)
 (.br (.cmp .leq (.var 3) (.lit (0)))
 (.ret 0 ⟨4, [(5, (.t (.var 1))), (4, (.t (.lit (1))))], [((.lit (1)), (.lit (1)))], [], []⟩)
 (.br (.cmp .eql (.var 2) (.lit (0)))
 (.ret 0 ⟨4, [(5, (.t (.var 1))), (4, (.t (.lit (0))))], [((.lit (1)), (.lit (1)))], [], []⟩)
 (.need (.cmp .lss (.lit (0)) (.dlen (.var 1))) (.pre 0 ⟨0, [(1, (.t (.var 1))), (0, (.r 0))], [((.lit (1)), (.lit (1))), ((.lit (0)), (.lit (0))), ((.lit (0)), (.lit (0)))], [], []⟩ (.both (.fresh 4 (.post 0 0 ⟨0, [(1, (.t (.var 1))), (0, (.r 0))], [((.lit (1)), (.lit (1))), ((.lit (0)), (.lit (0))), ((.lit (0)), (.lit (0)))], [], []⟩ 4 (.need (.cmp .lss (.lit (0)) (.dlen (.var 4))) (.need (.cmp .leq (.lit (0)) (.var 2)) (.need (.cmp .lss (.var 2) (.lit (256))) (.need (.cmp .leq (.lit (0)) (.arith .rem .i64 (.arith .mul .i64 (.c2 (.xint 513) (.var 4) (.var 2)) (.arith .rem .i64 (.var 3) (.lit (255)))) (.lit (255)))) (.need (.cmp .lss (.arith .rem .i64 (.arith .mul .i64 (.c2 (.xint 513) (.var 4) (.var 2)) (.arith .rem .i64 (.var 3) (.lit (255)))) (.lit (255))) (.lit (510))) (.ret 0 ⟨4, [(5, (.t (.var 4))), (4, (.t (.c2 (.xint 3) (.var 4) (.arith .rem .i64 (.arith .mul .i64 (.c2 (.xint 513) (.var 4) (.var 2)) (.arith .rem .i64 (.var 3) (.lit (255)))) (.lit (255))))))], [((.lit (1)), (.lit (1)))], [], []⟩)))))))) .top))))))
theorem o_pow37_eq : treeOf ⟨Try.prog, pow37C, [onceC], []⟩ 100000 Try.f37 = o_pow37 := by kernel_rfl
theorem pow37_of (hd : ∀ c ∈ ([onceC] : List Ctr), c.ok Try.prog) (h : ∀ ρ : Env, ρ.good → (pow37C).pre ρ → o_pow37.den ⟨Try.prog, pow37C, [onceC], []⟩ ρ) : (pow37C).ok Try.prog :=
  ok_of_tree Try.func37 (fun a w => Try.call37 a w) hd 100000 (fun ρ hg hp => by rw [o_pow37_eq]; exact h ρ hg hp)
def o_div52 : Out := (.pre 0 ⟨0, [(1, (.t (.var 1))), (2, (.t (.var 3))), (0, (.r 0))], [((.lit (1)), (.lit (1))), ((.lit (0)), (.lit (0)))], [], []⟩ (.both (.fresh 4 (.fresh 5 (.fresh 6 (.post 0 0 ⟨0, [(1, (.t (.var 1))), (2, (.t (.var 3))), (0, (.r 0))], [((.lit (1)), (.lit (1))), ((.lit (0)), (.lit (0)))], [], []⟩ 4 (.br (.cmp .neq (.var 5) (.lit (0)))
 (.ret 0 ⟨4, [(6, (.t (.var 6))), (5, (.t (.var 5))), (4, (.t (.lit (0))))], [((.lit (1)), (.lit (1)))], [], []⟩)
 (.pre 1 ⟨0, [(1, (.t (.var 6))), (3, (.t (.var 4))), (2, (.t (.var 2))), (0, (.r 0))], [((.lit (1)), (.lit (1))), ((.lit (0)), (.lit (0)))], [], []⟩ (.both (.fresh 7 (.fresh 8 (.post 1 0 ⟨0, [(1, (.t (.var 6))), (3, (.t (.var 4))), (2, (.t (.var 2))), (0, (.r 0))], [((.lit (1)), (.lit (1))), ((.lit (0)), (.lit (0)))], [], []⟩ 7 (.ret 0 ⟨4, [(6, (.t (.var 8))), (5, (.t (.lit (0)))), (4, (.t (.var 7)))], [((.lit (1)), (.lit (1)))], [], []⟩)))) .top))))))) .top))
theorem o_div52_eq : treeOf ⟨Try.prog, div52C, [inv51C, mulC], []⟩ 100000 Try.f52 = o_div52 := by kernel_rfl
theorem div52_of (hd : ∀ c ∈ ([inv51C, mulC] : List Ctr), c.ok Try.prog) (h : ∀ ρ : Env, ρ.good → (div52C).pre ρ → o_div52.den ⟨Try.prog, div52C, [inv51C, mulC], []⟩ ρ) : (div52C).ok Try.prog :=
  ok_of_tree Try.func52 (fun a w => Try.call52 a w) hd 100000 (fun ρ hg hp => by rw [o_div52_eq]; exact h ρ hg hp)
def o_add34 : Out := (.ret 0 ⟨2, [], [((.arith .xor .u8 (.var 0) (.var 1)), (.arith .xor .u8 (.var 0) (.var 1)))], [], []⟩)
theorem o_add34_eq : treeOf ⟨Try.prog, add34C, [], []⟩ 100000 Try.f34 = o_add34 := by kernel_rfl
theorem add34_of (hd : ∀ c ∈ ([] : List Ctr), c.ok Try.prog) (h : ∀ ρ : Env, ρ.good → (add34C).pre ρ → o_add34.den ⟨Try.prog, add34C, [], []⟩ ρ) : (add34C).ok Try.prog :=
  ok_of_tree Try.func34 (fun a w => Try.call34 a w) hd 100000 (fun ρ hg hp => by rw [o_add34_eq]; exact h ρ hg hp)
end Go.Proofs
