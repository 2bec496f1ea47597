/- Texts DK, DL, BA, BB, ZG, DM, ZJ, ZU, DO, BC, BE, DU, BF, BG. -/
import Derived.Test.YtelcnkclppkicaaDoorG5
import Derived.Test.YtelcnkclppkicaaDoorProg
set_option linter.unusedSimpArgs false
set_option linter.unusedVariables false
set_option maxRecDepth 100000
namespace Go.Proofs
open Go Go.Eng

def o_crc : Out := (.fresh 6 (.inv 0 7 ⟨1000, [(1001, (.t (.rcons (.vint .u32 (.lit (0))) (.rcons (.vint .u32 (.lit (0))) (.rcons (.vint .u32 (.lit (0))) (.rcons (.vint .u32 (.lit (0))) (.rcons (.vint .u32 (.lit (0))) (.rcons (.vint .u32 (.lit (0))) (.rcons (.vint .u32 (.lit (0))) (.rcons (.vint .u32 (.lit (0))) (.rcons (.vint .u32 (.lit (0))) (.rcons (.vint .u32 (.lit (0))) (.rcons (.vint .u32 (.lit (0))) (.rcons (.vint .u32 (.lit (0))) (.rcons (.vint .u32 (.lit (0))) (.rcons (.vint .u32 (.lit (0))) (.rcons (.vint .u32 (.lit (0))) (.rcons (.vint .u32 (.lit (0))) .rnil)))))))))))))))))), (1002, (.t (.lit (0)))), (1000, (.r 6))], [((.lit (1)), (.lit (1))), ((.var 3), (.var 3)), ((.var 2), (.var 2)), ((.var 1), (.var 1))], [], []⟩ (.fresh 7 (.fresh 8 (.fresh 9 (.hyp 0 7 (.br (.cmp .lss (.var 9) (.lit (16)))
 (.inv 1 10 ⟨1000, [(1001, (.t (.var 8))), (1004, (.t (.lit (0)))), (1003, (.t (.conv .u32 (.var 9)))), (1002, (.t (.var 9))), (1000, (.r 7))], [((.lit (1)), (.lit (1))), ((.var 1002), (.var 9)), ((.lit (0)), (.lit (0))), ((.var 3), (.var 3)), ((.var 2), (.var 2)), ((.var 1), (.var 1))], [], []⟩ (.fresh 10 (.fresh 11 (.fresh 12 (.fresh 13 (.fresh 14 (.hyp 1 10 (.br (.cmp .lss (.var 14) (.lit (4)))
 (.back 1 10 ⟨1000, [(1001, (.t (.var 11))), (1004, (.t (.arith .add .i64 (.var 14) (.lit (1))))), (1003, (.t (.arith .xor .u32 (.arith .shr .u32 (.var 13) (.lit (1))) (.arith .mul .u32 (.lit (2197175160)) (.arith .and .u32 (.var 13) (.lit (1))))))), (1002, (.t (.var 12))), (1000, (.r 10))], [((.lit (1)), (.lit (1))), ((.var 1002), (.var 12)), ((.lit (0)), (.lit (0))), ((.var 3), (.var 3)), ((.var 2), (.var 2)), ((.var 1), (.var 1))], [], []⟩)
 (.need (.cmp .leq (.lit (0)) (.var 12)) (.need (.cmp .lss (.var 12) (.lit (16))) (.need (.cmp .lss (.lit (0)) (.dlen (.var 11))) (.back 0 7 ⟨1000, [(1001, (.t (.c3 (.xput 0) (.var 11) (.var 12) (.vint .u32 (.var 13))))), (1002, (.t (.arith .add .i64 (.var 12) (.lit (1))))), (1000, (.r 10))], [((.lit (1)), (.lit (1))), ((.lit (0)), (.lit (0))), ((.var 3), (.var 3)), ((.var 2), (.var 2)), ((.var 1), (.var 1))], [], []⟩))))))))))))
 (.need (.cmp .leq (.lit (0)) (.var 2)) (.inv 2 10 ⟨1000, [(1001, (.t (.var 8))), (1003, (.t (.lit (0)))), (1002, (.t (.lit (4294967295)))), (1000, (.r 7))], [((.lit (1)), (.lit (1))), ((.var 2), (.var 2)), ((.var 3), (.var 3)), ((.var 2), (.var 2)), ((.var 1), (.var 1)), ((.lit (0)), (.lit (0)))], [], []⟩ (.fresh 10 (.fresh 11 (.fresh 12 (.fresh 13 (.hyp 2 10 (.br (.cmp .lss (.var 13) (.var 2))
 (.need (.cmp .leq (.lit (0)) (.var 13)) (.need (.cmp .leq (.lit (0)) (.var 1)) (.need (.cmp .leq (.lit (0)) (.plus (.var 1) (.var 13))) (.need (.cmp .lss (.plus (.var 1) (.var 13)) (.dlen (.var 4))) (.need (.cmp .leq (.lit (0)) (.arith .and .u32 (.arith .xor .u32 (.var 12) (.conv .u32 (.icell (.var 4) (.plus (.var 1) (.var 13)) 0))) (.lit (15)))) (.need (.cmp .lss (.arith .and .u32 (.arith .xor .u32 (.var 12) (.conv .u32 (.icell (.var 4) (.plus (.var 1) (.var 13)) 0))) (.lit (15))) (.lit (16))) (.need (.cmp .lss (.lit (0)) (.dlen (.var 11))) (.need (.cmp .leq (.lit (0)) (.arith .and .u32 (.arith .xor .u32 (.c2 (.xint 0) (.var 11) (.arith .and .u32 (.arith .xor .u32 (.var 12) (.conv .u32 (.icell (.var 4) (.plus (.var 1) (.var 13)) 0))) (.lit (15)))) (.arith .shr .u32 (.arith .xor .u32 (.var 12) (.conv .u32 (.icell (.var 4) (.plus (.var 1) (.var 13)) 0))) (.lit (4)))) (.lit (15)))) (.need (.cmp .lss (.arith .and .u32 (.arith .xor .u32 (.c2 (.xint 0) (.var 11) (.arith .and .u32 (.arith .xor .u32 (.var 12) (.conv .u32 (.icell (.var 4) (.plus (.var 1) (.var 13)) 0))) (.lit (15)))) (.arith .shr .u32 (.arith .xor .u32 (.var 12) (.conv .u32 (.icell (.var 4) (.plus (.var 1) (.var 13)) 0))) (.lit (4)))) (.lit (15))) (.lit (16))) (.back 2 10 ⟨1000, [(1001, (.t (.var 11))), (1003, (.t (.arith .add .i64 (.var 13) (.lit (1))))), (1002, (.t (.arith .xor .u32 (.c2 (.xint 0) (.var 11) (.arith .and .u32 (.arith .xor .u32 (.c2 (.xint 0) (.var 11) (.arith .and .u32 (.arith .xor .u32 (.var 12) (.conv .u32 (.icell (.var 4) (.plus (.var 1) (.var 13)) 0))) (.lit (15)))) (.arith .shr .u32 (.arith .xor .u32 (.var 12) (.conv .u32 (.icell (.var 4) (.plus (.var 1) (.var 13)) 0))) (.lit (4)))) (.lit (15)))) (.arith .shr .u32 (.arith .xor .u32 (.c2 (.xint 0) (.var 11) (.arith .and .u32 (.arith .xor .u32 (.var 12) (.conv .u32 (.icell (.var 4) (.plus (.var 1) (.var 13)) 0))) (.lit (15)))) (.arith .shr .u32 (.arith .xor .u32 (.var 12) (.conv .u32 (.icell (.var 4) (.plus (.var 1) (.var 13)) 0))) (.lit (4)))) (.lit (4)))))), (1000, (.r 10))], [((.lit (1)), (.lit (1))), ((.var 2), (.var 2)), ((.var 3), (.var 3)), ((.var 2), (.var 2)), ((.var 1), (.var 1)), ((.lit (0)), (.lit (0)))], [], []⟩))))))))))
 (.ret 0 ⟨6, [(6, (.t (.arith .xor .u32 (.lit (4294967295)) (.var 12))))], [], [], []⟩))))))))))))))))
theorem o_crc_eq : treeOf ⟨Tryd.prog, crcC, [], [crcI, crcJ, crcK]⟩ 100000 Tryd.f29 = o_crc := by kernel_rfl
theorem crc_of (hd : ∀ c ∈ ([] : List Ctr), c.ok Tryd.prog) (h : ∀ ρ : Env, ρ.good → (crcC).pre ρ → o_crc.den ⟨Tryd.prog, crcC, [], [crcI, crcJ, crcK]⟩ ρ) : (crcC).ok Tryd.prog :=
  ok_of_tree Tryd.func29 (fun a w => Tryd.call29 a w) hd 100000 (fun ρ hg hp => by rw [o_crc_eq]; exact h ρ hg hp)
def o_hex : Out := (.fresh 1 (.need (.cmp .leq (.tims (.lit (1)) (.lit (64))) (.lit (281474976710656))) (.fresh 2 (.inv 0 3 ⟨1000, [(1003, (.t (.drep (.lit (0)) (.rcons (.vint .u8 (.lit (0))) .rnil)))), (1004, (.t (.lit (0)))), (1002, (.t (.lit (64)))), (1001, (.t (.lit (0)))), (1000, (.r 2))], [((.var 1002), (.lit (64))), ((.c2 (.xint 31) (.var 0) (.lit (0))), (.c2 (.xint 31) (.var 0) (.lit (0)))), ((.c2 (.xint 30) (.var 0) (.lit (0))), (.c2 (.xint 30) (.var 0) (.lit (0)))), ((.c2 (.xint 29) (.var 0) (.lit (0))), (.c2 (.xint 29) (.var 0) (.lit (0)))), ((.c2 (.xint 28) (.var 0) (.lit (0))), (.c2 (.xint 28) (.var 0) (.lit (0)))), ((.c2 (.xint 27) (.var 0) (.lit (0))), (.c2 (.xint 27) (.var 0) (.lit (0)))), ((.c2 (.xint 26) (.var 0) (.lit (0))), (.c2 (.xint 26) (.var 0) (.lit (0)))), ((.c2 (.xint 25) (.var 0) (.lit (0))), (.c2 (.xint 25) (.var 0) (.lit (0)))), ((.c2 (.xint 24) (.var 0) (.lit (0))), (.c2 (.xint 24) (.var 0) (.lit (0)))), ((.c2 (.xint 23) (.var 0) (.lit (0))), (.c2 (.xint 23) (.var 0) (.lit (0)))), ((.c2 (.xint 22) (.var 0) (.lit (0))), (.c2 (.xint 22) (.var 0) (.lit (0)))), ((.c2 (.xint 21) (.var 0) (.lit (0))), (.c2 (.xint 21) (.var 0) (.lit (0)))), ((.c2 (.xint 20) (.var 0) (.lit (0))), (.c2 (.xint 20) (.var 0) (.lit (0)))), ((.c2 (.xint 19) (.var 0) (.lit (0))), (.c2 (.xint 19) (.var 0) (.lit (0)))), ((.c2 (.xint 18) (.var 0) (.lit (0))), (.c2 (.xint 18) (.var 0) (.lit (0)))), ((.c2 (.xint 17) (.var 0) (.lit (0))), (.c2 (.xint 17) (.var 0) (.lit (0)))), ((.c2 (.xint 16) (.var 0) (.lit (0))), (.c2 (.xint 16) (.var 0) (.lit (0)))), ((.c2 (.xint 15) (.var 0) (.lit (0))), (.c2 (.xint 15) (.var 0) (.lit (0)))), ((.c2 (.xint 14) (.var 0) (.lit (0))), (.c2 (.xint 14) (.var 0) (.lit (0)))), ((.c2 (.xint 13) (.var 0) (.lit (0))), (.c2 (.xint 13) (.var 0) (.lit (0)))), ((.c2 (.xint 12) (.var 0) (.lit (0))), (.c2 (.xint 12) (.var 0) (.lit (0)))), ((.c2 (.xint 11) (.var 0) (.lit (0))), (.c2 (.xint 11) (.var 0) (.lit (0)))), ((.c2 (.xint 10) (.var 0) (.lit (0))), (.c2 (.xint 10) (.var 0) (.lit (0)))), ((.c2 (.xint 9) (.var 0) (.lit (0))), (.c2 (.xint 9) (.var 0) (.lit (0)))), ((.c2 (.xint 8) (.var 0) (.lit (0))), (.c2 (.xint 8) (.var 0) (.lit (0)))), ((.c2 (.xint 7) (.var 0) (.lit (0))), (.c2 (.xint 7) (.var 0) (.lit (0)))), ((.c2 (.xint 6) (.var 0) (.lit (0))), (.c2 (.xint 6) (.var 0) (.lit (0)))), ((.c2 (.xint 5) (.var 0) (.lit (0))), (.c2 (.xint 5) (.var 0) (.lit (0)))), ((.c2 (.xint 4) (.var 0) (.lit (0))), (.c2 (.xint 4) (.var 0) (.lit (0)))), ((.c2 (.xint 3) (.var 0) (.lit (0))), (.c2 (.xint 3) (.var 0) (.lit (0)))), ((.c2 (.xint 2) (.var 0) (.lit (0))), (.c2 (.xint 2) (.var 0) (.lit (0)))), ((.c2 (.xint 1) (.var 0) (.lit (0))), (.c2 (.xint 1) (.var 0) (.lit (0)))), ((.c2 (.xint 0) (.var 0) (.lit (0))), (.c2 (.xint 0) (.var 0) (.lit (0)))), ((.lit (0)), (.lit (0)))], [], []⟩ (.fresh 3 (.fresh 4 (.fresh 5 (.fresh 6 (.fresh 7 (.hyp 0 3 (.br (.cmp .lss (.var 7) (.lit (32)))
 (.need (.cmp .leq (.lit (0)) (.var 7)) (.need (.cmp .leq (.lit (0)) (.arith .shr .u8 (.c2 (.xint 0) (.rcons (.vint .u8 (.c2 (.xint 0) (.var 0) (.lit (0)))) (.rcons (.vint .u8 (.c2 (.xint 1) (.var 0) (.lit (0)))) (.rcons (.vint .u8 (.c2 (.xint 2) (.var 0) (.lit (0)))) (.rcons (.vint .u8 (.c2 (.xint 3) (.var 0) (.lit (0)))) (.rcons (.vint .u8 (.c2 (.xint 4) (.var 0) (.lit (0)))) (.rcons (.vint .u8 (.c2 (.xint 5) (.var 0) (.lit (0)))) (.rcons (.vint .u8 (.c2 (.xint 6) (.var 0) (.lit (0)))) (.rcons (.vint .u8 (.c2 (.xint 7) (.var 0) (.lit (0)))) (.rcons (.vint .u8 (.c2 (.xint 8) (.var 0) (.lit (0)))) (.rcons (.vint .u8 (.c2 (.xint 9) (.var 0) (.lit (0)))) (.rcons (.vint .u8 (.c2 (.xint 10) (.var 0) (.lit (0)))) (.rcons (.vint .u8 (.c2 (.xint 11) (.var 0) (.lit (0)))) (.rcons (.vint .u8 (.c2 (.xint 12) (.var 0) (.lit (0)))) (.rcons (.vint .u8 (.c2 (.xint 13) (.var 0) (.lit (0)))) (.rcons (.vint .u8 (.c2 (.xint 14) (.var 0) (.lit (0)))) (.rcons (.vint .u8 (.c2 (.xint 15) (.var 0) (.lit (0)))) (.rcons (.vint .u8 (.c2 (.xint 16) (.var 0) (.lit (0)))) (.rcons (.vint .u8 (.c2 (.xint 17) (.var 0) (.lit (0)))) (.rcons (.vint .u8 (.c2 (.xint 18) (.var 0) (.lit (0)))) (.rcons (.vint .u8 (.c2 (.xint 19) (.var 0) (.lit (0)))) (.rcons (.vint .u8 (.c2 (.xint 20) (.var 0) (.lit (0)))) (.rcons (.vint .u8 (.c2 (.xint 21) (.var 0) (.lit (0)))) (.rcons (.vint .u8 (.c2 (.xint 22) (.var 0) (.lit (0)))) (.rcons (.vint .u8 (.c2 (.xint 23) (.var 0) (.lit (0)))) (.rcons (.vint .u8 (.c2 (.xint 24) (.var 0) (.lit (0)))) (.rcons (.vint .u8 (.c2 (.xint 25) (.var 0) (.lit (0)))) (.rcons (.vint .u8 (.c2 (.xint 26) (.var 0) (.lit (0)))) (.rcons (.vint .u8 (.c2 (.xint 27) (.var 0) (.lit (0)))) (.rcons (.vint .u8 (.c2 (.xint 28) (.var 0) (.lit (0)))) (.rcons (.vint .u8 (.c2 (.xint 29) (.var 0) (.lit (0)))) (.rcons (.vint .u8 (.c2 (.xint 30) (.var 0) (.lit (0)))) (.rcons (.vint .u8 (.c2 (.xint 31) (.var 0) (.lit (0)))) .rnil)))))))))))))))))))))))))))))))) (.var 7)) (.lit (4)))) (.need (.cmp .lss (.arith .shr .u8 (.c2 (.xint 0) (.rcons (.vint .u8 (.c2 (.xint 0) (.var 0) (.lit (0)))) (.rcons (.vint .u8 (.c2 (.xint 1) (.var 0) (.lit (0)))) (.rcons (.vint .u8 (.c2 (.xint 2) (.var 0) (.lit (0)))) (.rcons (.vint .u8 (.c2 (.xint 3) (.var 0) (.lit (0)))) (.rcons (.vint .u8 (.c2 (.xint 4) (.var 0) (.lit (0)))) (.rcons (.vint .u8 (.c2 (.xint 5) (.var 0) (.lit (0)))) (.rcons (.vint .u8 (.c2 (.xint 6) (.var 0) (.lit (0)))) (.rcons (.vint .u8 (.c2 (.xint 7) (.var 0) (.lit (0)))) (.rcons (.vint .u8 (.c2 (.xint 8) (.var 0) (.lit (0)))) (.rcons (.vint .u8 (.c2 (.xint 9) (.var 0) (.lit (0)))) (.rcons (.vint .u8 (.c2 (.xint 10) (.var 0) (.lit (0)))) (.rcons (.vint .u8 (.c2 (.xint 11) (.var 0) (.lit (0)))) (.rcons (.vint .u8 (.c2 (.xint 12) (.var 0) (.lit (0)))) (.rcons (.vint .u8 (.c2 (.xint 13) (.var 0) (.lit (0)))) (.rcons (.vint .u8 (.c2 (.xint 14) (.var 0) (.lit (0)))) (.rcons (.vint .u8 (.c2 (.xint 15) (.var 0) (.lit (0)))) (.rcons (.vint .u8 (.c2 (.xint 16) (.var 0) (.lit (0)))) (.rcons (.vint .u8 (.c2 (.xint 17) (.var 0) (.lit (0)))) (.rcons (.vint .u8 (.c2 (.xint 18) (.var 0) (.lit (0)))) (.rcons (.vint .u8 (.c2 (.xint 19) (.var 0) (.lit (0)))) (.rcons (.vint .u8 (.c2 (.xint 20) (.var 0) (.lit (0)))) (.rcons (.vint .u8 (.c2 (.xint 21) (.var 0) (.lit (0)))) (.rcons (.vint .u8 (.c2 (.xint 22) (.var 0) (.lit (0)))) (.rcons (.vint .u8 (.c2 (.xint 23) (.var 0) (.lit (0)))) (.rcons (.vint .u8 (.c2 (.xint 24) (.var 0) (.lit (0)))) (.rcons (.vint .u8 (.c2 (.xint 25) (.var 0) (.lit (0)))) (.rcons (.vint .u8 (.c2 (.xint 26) (.var 0) (.lit (0)))) (.rcons (.vint .u8 (.c2 (.xint 27) (.var 0) (.lit (0)))) (.rcons (.vint .u8 (.c2 (.xint 28) (.var 0) (.lit (0)))) (.rcons (.vint .u8 (.c2 (.xint 29) (.var 0) (.lit (0)))) (.rcons (.vint .u8 (.c2 (.xint 30) (.var 0) (.lit (0)))) (.rcons (.vint .u8 (.c2 (.xint 31) (.var 0) (.lit (0)))) .rnil)))))))))))))))))))))))))))))))) (.var 7)) (.lit (4))) (.lit (16))) (.need (.cmp .leq (.lit (0)) (.arith .and .u8 (.c2 (.xint 0) (.rcons (.vint .u8 (.c2 (.xint 0) (.var 0) (.lit (0)))) (.rcons (.vint .u8 (.c2 (.xint 1) (.var 0) (.lit (0)))) (.rcons (.vint .u8 (.c2 (.xint 2) (.var 0) (.lit (0)))) (.rcons (.vint .u8 (.c2 (.xint 3) (.var 0) (.lit (0)))) (.rcons (.vint .u8 (.c2 (.xint 4) (.var 0) (.lit (0)))) (.rcons (.vint .u8 (.c2 (.xint 5) (.var 0) (.lit (0)))) (.rcons (.vint .u8 (.c2 (.xint 6) (.var 0) (.lit (0)))) (.rcons (.vint .u8 (.c2 (.xint 7) (.var 0) (.lit (0)))) (.rcons (.vint .u8 (.c2 (.xint 8) (.var 0) (.lit (0)))) (.rcons (.vint .u8 (.c2 (.xint 9) (.var 0) (.lit (0)))) (.rcons (.vint .u8 (.c2 (.xint 10) (.var 0) (.lit (0)))) (.rcons (.vint .u8 (.c2 (.xint 11) (.var 0) (.lit (0)))) (.rcons (.vint .u8 (.c2 (.xint 12) (.var 0) (.lit (0)))) (.rcons (.vint .u8 (.c2 (.xint 13) (.var 0) (.lit (0)))) (.rcons (.vint .u8 (.c2 (.xint 14) (.var 0) (.lit (0)))) (.rcons (.vint .u8 (.c2 (.xint 15) (.var 0) (.lit (0)))) (.rcons (.vint .u8 (.c2 (.xint 16) (.var 0) (.lit (0)))) (.rcons (.vint .u8 (.c2 (.xint 17) (.var 0) (.lit (0)))) (.rcons (.vint .u8 (.c2 (.xint 18) (.var 0) (.lit (0)))) (.rcons (.vint .u8 (.c2 (.xint 19) (.var 0) (.lit (0)))) (.rcons (.vint .u8 (.c2 (.xint 20) (.var 0) (.lit (0)))) (.rcons (.vint .u8 (.c2 (.xint 21) (.var 0) (.lit (0)))) (.rcons (.vint .u8 (.c2 (.xint 22) (.var 0) (.lit (0)))) (.rcons (.vint .u8 (.c2 (.xint 23) (.var 0) (.lit (0)))) (.rcons (.vint .u8 (.c2 (.xint 24) (.var 0) (.lit (0)))) (.rcons (.vint .u8 (.c2 (.xint 25) (.var 0) (.lit (0)))) (.rcons (.vint .u8 (.c2 (.xint 26) (.var 0) (.lit (0)))) (.rcons (.vint .u8 (.c2 (.xint 27) (.var 0) (.lit (0)))) (.rcons (.vint .u8 (.c2 (.xint 28) (.var 0) (.lit (0)))) (.rcons (.vint .u8 (.c2 (.xint 29) (.var 0) (.lit (0)))) (.rcons (.vint .u8 (.c2 (.xint 30) (.var 0) (.lit (0)))) (.rcons (.vint .u8 (.c2 (.xint 31) (.var 0) (.lit (0)))) .rnil)))))))))))))))))))))))))))))))) (.var 7)) (.lit (15)))) (.need (.cmp .lss (.arith .and .u8 (.c2 (.xint 0) (.rcons (.vint .u8 (.c2 (.xint 0) (.var 0) (.lit (0)))) (.rcons (.vint .u8 (.c2 (.xint 1) (.var 0) (.lit (0)))) (.rcons (.vint .u8 (.c2 (.xint 2) (.var 0) (.lit (0)))) (.rcons (.vint .u8 (.c2 (.xint 3) (.var 0) (.lit (0)))) (.rcons (.vint .u8 (.c2 (.xint 4) (.var 0) (.lit (0)))) (.rcons (.vint .u8 (.c2 (.xint 5) (.var 0) (.lit (0)))) (.rcons (.vint .u8 (.c2 (.xint 6) (.var 0) (.lit (0)))) (.rcons (.vint .u8 (.c2 (.xint 7) (.var 0) (.lit (0)))) (.rcons (.vint .u8 (.c2 (.xint 8) (.var 0) (.lit (0)))) (.rcons (.vint .u8 (.c2 (.xint 9) (.var 0) (.lit (0)))) (.rcons (.vint .u8 (.c2 (.xint 10) (.var 0) (.lit (0)))) (.rcons (.vint .u8 (.c2 (.xint 11) (.var 0) (.lit (0)))) (.rcons (.vint .u8 (.c2 (.xint 12) (.var 0) (.lit (0)))) (.rcons (.vint .u8 (.c2 (.xint 13) (.var 0) (.lit (0)))) (.rcons (.vint .u8 (.c2 (.xint 14) (.var 0) (.lit (0)))) (.rcons (.vint .u8 (.c2 (.xint 15) (.var 0) (.lit (0)))) (.rcons (.vint .u8 (.c2 (.xint 16) (.var 0) (.lit (0)))) (.rcons (.vint .u8 (.c2 (.xint 17) (.var 0) (.lit (0)))) (.rcons (.vint .u8 (.c2 (.xint 18) (.var 0) (.lit (0)))) (.rcons (.vint .u8 (.c2 (.xint 19) (.var 0) (.lit (0)))) (.rcons (.vint .u8 (.c2 (.xint 20) (.var 0) (.lit (0)))) (.rcons (.vint .u8 (.c2 (.xint 21) (.var 0) (.lit (0)))) (.rcons (.vint .u8 (.c2 (.xint 22) (.var 0) (.lit (0)))) (.rcons (.vint .u8 (.c2 (.xint 23) (.var 0) (.lit (0)))) (.rcons (.vint .u8 (.c2 (.xint 24) (.var 0) (.lit (0)))) (.rcons (.vint .u8 (.c2 (.xint 25) (.var 0) (.lit (0)))) (.rcons (.vint .u8 (.c2 (.xint 26) (.var 0) (.lit (0)))) (.rcons (.vint .u8 (.c2 (.xint 27) (.var 0) (.lit (0)))) (.rcons (.vint .u8 (.c2 (.xint 28) (.var 0) (.lit (0)))) (.rcons (.vint .u8 (.c2 (.xint 29) (.var 0) (.lit (0)))) (.rcons (.vint .u8 (.c2 (.xint 30) (.var 0) (.lit (0)))) (.rcons (.vint .u8 (.c2 (.xint 31) (.var 0) (.lit (0)))) .rnil)))))))))))))))))))))))))))))))) (.var 7)) (.lit (15))) (.lit (16))) (.both (.fresh 8 (.both (.need (.cmp .eql (.var 4) (.dlen (.var 6))) (.need (.cmp .leq (.tims (.lit (1)) (.plus (.var 4) (.lit (2)))) (.lit (140737488355328))) (.fresh 9 (.fresh 10 (.both (.back 0 3 ⟨1000, [(1003, (.t (.dapp (.var 6) (.dapp (.rcons (.vint .u8 (.c2 .sat (.vstr [48, 49, 50, 51, 52, 53, 54, 55, 56, 57, 97, 98, 99, 100, 101, 102]) (.arith .shr .u8 (.c2 (.xint 0) (.rcons (.vint .u8 (.c2 (.xint 0) (.var 0) (.lit (0)))) (.rcons (.vint .u8 (.c2 (.xint 1) (.var 0) (.lit (0)))) (.rcons (.vint .u8 (.c2 (.xint 2) (.var 0) (.lit (0)))) (.rcons (.vint .u8 (.c2 (.xint 3) (.var 0) (.lit (0)))) (.rcons (.vint .u8 (.c2 (.xint 4) (.var 0) (.lit (0)))) (.rcons (.vint .u8 (.c2 (.xint 5) (.var 0) (.lit (0)))) (.rcons (.vint .u8 (.c2 (.xint 6) (.var 0) (.lit (0)))) (.rcons (.vint .u8 (.c2 (.xint 7) (.var 0) (.lit (0)))) (.rcons (.vint .u8 (.c2 (.xint 8) (.var 0) (.lit (0)))) (.rcons (.vint .u8 (.c2 (.xint 9) (.var 0) (.lit (0)))) (.rcons (.vint .u8 (.c2 (.xint 10) (.var 0) (.lit (0)))) (.rcons (.vint .u8 (.c2 (.xint 11) (.var 0) (.lit (0)))) (.rcons (.vint .u8 (.c2 (.xint 12) (.var 0) (.lit (0)))) (.rcons (.vint .u8 (.c2 (.xint 13) (.var 0) (.lit (0)))) (.rcons (.vint .u8 (.c2 (.xint 14) (.var 0) (.lit (0)))) (.rcons (.vint .u8 (.c2 (.xint 15) (.var 0) (.lit (0)))) (.rcons (.vint .u8 (.c2 (.xint 16) (.var 0) (.lit (0)))) (.rcons (.vint .u8 (.c2 (.xint 17) (.var 0) (.lit (0)))) (.rcons (.vint .u8 (.c2 (.xint 18) (.var 0) (.lit (0)))) (.rcons (.vint .u8 (.c2 (.xint 19) (.var 0) (.lit (0)))) (.rcons (.vint .u8 (.c2 (.xint 20) (.var 0) (.lit (0)))) (.rcons (.vint .u8 (.c2 (.xint 21) (.var 0) (.lit (0)))) (.rcons (.vint .u8 (.c2 (.xint 22) (.var 0) (.lit (0)))) (.rcons (.vint .u8 (.c2 (.xint 23) (.var 0) (.lit (0)))) (.rcons (.vint .u8 (.c2 (.xint 24) (.var 0) (.lit (0)))) (.rcons (.vint .u8 (.c2 (.xint 25) (.var 0) (.lit (0)))) (.rcons (.vint .u8 (.c2 (.xint 26) (.var 0) (.lit (0)))) (.rcons (.vint .u8 (.c2 (.xint 27) (.var 0) (.lit (0)))) (.rcons (.vint .u8 (.c2 (.xint 28) (.var 0) (.lit (0)))) (.rcons (.vint .u8 (.c2 (.xint 29) (.var 0) (.lit (0)))) (.rcons (.vint .u8 (.c2 (.xint 30) (.var 0) (.lit (0)))) (.rcons (.vint .u8 (.c2 (.xint 31) (.var 0) (.lit (0)))) .rnil)))))))))))))))))))))))))))))))) (.var 7)) (.lit (4))))) .rnil) (.rcons (.vint .u8 (.c2 .sat (.vstr [48, 49, 50, 51, 52, 53, 54, 55, 56, 57, 97, 98, 99, 100, 101, 102]) (.arith .and .u8 (.c2 (.xint 0) (.rcons (.vint .u8 (.c2 (.xint 0) (.var 0) (.lit (0)))) (.rcons (.vint .u8 (.c2 (.xint 1) (.var 0) (.lit (0)))) (.rcons (.vint .u8 (.c2 (.xint 2) (.var 0) (.lit (0)))) (.rcons (.vint .u8 (.c2 (.xint 3) (.var 0) (.lit (0)))) (.rcons (.vint .u8 (.c2 (.xint 4) (.var 0) (.lit (0)))) (.rcons (.vint .u8 (.c2 (.xint 5) (.var 0) (.lit (0)))) (.rcons (.vint .u8 (.c2 (.xint 6) (.var 0) (.lit (0)))) (.rcons (.vint .u8 (.c2 (.xint 7) (.var 0) (.lit (0)))) (.rcons (.vint .u8 (.c2 (.xint 8) (.var 0) (.lit (0)))) (.rcons (.vint .u8 (.c2 (.xint 9) (.var 0) (.lit (0)))) (.rcons (.vint .u8 (.c2 (.xint 10) (.var 0) (.lit (0)))) (.rcons (.vint .u8 (.c2 (.xint 11) (.var 0) (.lit (0)))) (.rcons (.vint .u8 (.c2 (.xint 12) (.var 0) (.lit (0)))) (.rcons (.vint .u8 (.c2 (.xint 13) (.var 0) (.lit (0)))) (.rcons (.vint .u8 (.c2 (.xint 14) (.var 0) (.lit (0)))) (.rcons (.vint .u8 (.c2 (.xint 15) (.var 0) (.lit (0)))) (.rcons (.vint .u8 (.c2 (.xint 16) (.var 0) (.lit (0)))) (.rcons (.vint .u8 (.c2 (.xint 17) (.var 0) (.lit (0)))) (.rcons (.vint .u8 (.c2 (.xint 18) (.var 0) (.lit (0)))) (.rcons (.vint .u8 (.c2 (.xint 19) (.var 0) (.lit (0)))) (.rcons (.vint .u8 (.c2 (.xint 20) (.var 0) (.lit (0)))) (.rcons (.vint .u8 (.c2 (.xint 21) (.var 0) (.lit (0)))) (.rcons (.vint .u8 (.c2 (.xint 22) (.var 0) (.lit (0)))) (.rcons (.vint .u8 (.c2 (.xint 23) (.var 0) (.lit (0)))) (.rcons (.vint .u8 (.c2 (.xint 24) (.var 0) (.lit (0)))) (.rcons (.vint .u8 (.c2 (.xint 25) (.var 0) (.lit (0)))) (.rcons (.vint .u8 (.c2 (.xint 26) (.var 0) (.lit (0)))) (.rcons (.vint .u8 (.c2 (.xint 27) (.var 0) (.lit (0)))) (.rcons (.vint .u8 (.c2 (.xint 28) (.var 0) (.lit (0)))) (.rcons (.vint .u8 (.c2 (.xint 29) (.var 0) (.lit (0)))) (.rcons (.vint .u8 (.c2 (.xint 30) (.var 0) (.lit (0)))) (.rcons (.vint .u8 (.c2 (.xint 31) (.var 0) (.lit (0)))) .rnil)))))))))))))))))))))))))))))))) (.var 7)) (.lit (15))))) .rnil))))), (1004, (.t (.arith .add .i64 (.var 7) (.lit (1))))), (1002, (.t (.var 10))), (1001, (.t (.plus (.var 4) (.lit (2))))), (1000, (.r 9))], [((.var 1002), (.var 10)), ((.c2 (.xint 31) (.var 0) (.lit (0))), (.c2 (.xint 31) (.var 0) (.lit (0)))), ((.c2 (.xint 30) (.var 0) (.lit (0))), (.c2 (.xint 30) (.var 0) (.lit (0)))), ((.c2 (.xint 29) (.var 0) (.lit (0))), (.c2 (.xint 29) (.var 0) (.lit (0)))), ((.c2 (.xint 28) (.var 0) (.lit (0))), (.c2 (.xint 28) (.var 0) (.lit (0)))), ((.c2 (.xint 27) (.var 0) (.lit (0))), (.c2 (.xint 27) (.var 0) (.lit (0)))), ((.c2 (.xint 26) (.var 0) (.lit (0))), (.c2 (.xint 26) (.var 0) (.lit (0)))), ((.c2 (.xint 25) (.var 0) (.lit (0))), (.c2 (.xint 25) (.var 0) (.lit (0)))), ((.c2 (.xint 24) (.var 0) (.lit (0))), (.c2 (.xint 24) (.var 0) (.lit (0)))), ((.c2 (.xint 23) (.var 0) (.lit (0))), (.c2 (.xint 23) (.var 0) (.lit (0)))), ((.c2 (.xint 22) (.var 0) (.lit (0))), (.c2 (.xint 22) (.var 0) (.lit (0)))), ((.c2 (.xint 21) (.var 0) (.lit (0))), (.c2 (.xint 21) (.var 0) (.lit (0)))), ((.c2 (.xint 20) (.var 0) (.lit (0))), (.c2 (.xint 20) (.var 0) (.lit (0)))), ((.c2 (.xint 19) (.var 0) (.lit (0))), (.c2 (.xint 19) (.var 0) (.lit (0)))), ((.c2 (.xint 18) (.var 0) (.lit (0))), (.c2 (.xint 18) (.var 0) (.lit (0)))), ((.c2 (.xint 17) (.var 0) (.lit (0))), (.c2 (.xint 17) (.var 0) (.lit (0)))), ((.c2 (.xint 16) (.var 0) (.lit (0))), (.c2 (.xint 16) (.var 0) (.lit (0)))), ((.c2 (.xint 15) (.var 0) (.lit (0))), (.c2 (.xint 15) (.var 0) (.lit (0)))), ((.c2 (.xint 14) (.var 0) (.lit (0))), (.c2 (.xint 14) (.var 0) (.lit (0)))), ((.c2 (.xint 13) (.var 0) (.lit (0))), (.c2 (.xint 13) (.var 0) (.lit (0)))), ((.c2 (.xint 12) (.var 0) (.lit (0))), (.c2 (.xint 12) (.var 0) (.lit (0)))), ((.c2 (.xint 11) (.var 0) (.lit (0))), (.c2 (.xint 11) (.var 0) (.lit (0)))), ((.c2 (.xint 10) (.var 0) (.lit (0))), (.c2 (.xint 10) (.var 0) (.lit (0)))), ((.c2 (.xint 9) (.var 0) (.lit (0))), (.c2 (.xint 9) (.var 0) (.lit (0)))), ((.c2 (.xint 8) (.var 0) (.lit (0))), (.c2 (.xint 8) (.var 0) (.lit (0)))), ((.c2 (.xint 7) (.var 0) (.lit (0))), (.c2 (.xint 7) (.var 0) (.lit (0)))), ((.c2 (.xint 6) (.var 0) (.lit (0))), (.c2 (.xint 6) (.var 0) (.lit (0)))), ((.c2 (.xint 5) (.var 0) (.lit (0))), (.c2 (.xint 5) (.var 0) (.lit (0)))), ((.c2 (.xint 4) (.var 0) (.lit (0))), (.c2 (.xint 4) (.var 0) (.lit (0)))), ((.c2 (.xint 3) (.var 0) (.lit (0))), (.c2 (.xint 3) (.var 0) (.lit (0)))), ((.c2 (.xint 2) (.var 0) (.lit (0))), (.c2 (.xint 2) (.var 0) (.lit (0)))), ((.c2 (.xint 1) (.var 0) (.lit (0))), (.c2 (.xint 1) (.var 0) (.lit (0)))), ((.c2 (.xint 0) (.var 0) (.lit (0))), (.c2 (.xint 0) (.var 0) (.lit (0)))), ((.lit (0)), (.lit (0)))], [], []⟩) .top))))) .top)) .top))))))
 (.need (.cmp .leq (.lit (0)) (.var 4)) (.need (.cmp .leq (.var 4) (.dlen (.var 6))) (.ret 0 ⟨1, [(1, (.t (.c1 .vbytes (.dtake (.var 6) (.var 4)))))], [], [], []⟩))))))))))))))
theorem o_hex_eq : treeOf ⟨Tryd.prog, hexC, [], [hexI]⟩ 100000 Tryd.f54 = o_hex := by kernel_rfl
theorem hex_of (hd : ∀ c ∈ ([] : List Ctr), c.ok Tryd.prog) (h : ∀ ρ : Env, ρ.good → (hexC).pre ρ → o_hex.den ⟨Tryd.prog, hexC, [], [hexI]⟩ ρ) : (hexC).ok Tryd.prog :=
  ok_of_tree Tryd.func54 (fun a w => Tryd.call54 a w) hd 100000 (fun ρ hg hp => by rw [o_hex_eq]; exact h ρ hg hp)
end Go.Proofs

set_option linter.unusedSimpArgs false
set_option linter.unusedVariables false
namespace Go.Proofs
open Go Go.Eng
/-! ### The sum is linear -/
theorem crc1_xor (a b : W32) : crc1 (a ^^^ b) = crc1 a ^^^ crc1 b := by
  unfold crc1
  rw [BitVec.getLsbD_xor]
  cases a.getLsbD 0 <;> cases b.getLsbD 0 <;> simp [BitVec.ushiftRight_xor_distrib] <;> (try ac_rfl)
  · generalize a >>> 1 = x
    generalize b >>> 1 = y
    rw [show x ^^^ 2197175160#32 ^^^ (y ^^^ 2197175160#32) = x ^^^ y ^^^ (2197175160#32 ^^^ 2197175160#32) by ac_rfl]
    simp
theorem crcN_xor (a b : W32) : ∀ n, crcN n (a ^^^ b) = crcN n a ^^^ crcN n b
  | 0 => rfl
  | n + 1 => by rw [crcN, crcN, crcN, crcN_xor a b n, crc1_xor]
theorem crcN_add (r : W32) (m : Nat) : ∀ n, crcN (m + n) r = crcN n (crcN m r)
  | 0 => rfl
  | n + 1 => by rw [← Nat.add_assoc, crcN, crcN, crcN_add r m n]
theorem crc1_even {a : W32} (h : a.getLsbD 0 = false) : crc1 a = a >>> 1 := by unfold crc1; rw [h]; rfl
theorem crcN_high (a : W32) : crcN 4 (a >>> 4 <<< 4) = a >>> 4 := by
  have h : ∀ i, i < 4 → (a >>> 4 <<< 4).getLsbD i = false := fun i hi => by simp [hi]
  have e1 : crcN 1 (a >>> 4 <<< 4) = a >>> 4 <<< 4 >>> 1 := crc1_even (h 0 (by omega))
  have e2 : crcN 2 (a >>> 4 <<< 4) = a >>> 4 <<< 4 >>> 1 >>> 1 := by
    rw [show crcN 2 (a >>> 4 <<< 4) = crc1 (crcN 1 (a >>> 4 <<< 4)) from rfl, e1]; exact crc1_even (by simp)
  have e3 : crcN 3 (a >>> 4 <<< 4) = a >>> 4 <<< 4 >>> 1 >>> 1 >>> 1 := by
    rw [show crcN 3 (a >>> 4 <<< 4) = crc1 (crcN 2 (a >>> 4 <<< 4)) from rfl, e2]; exact crc1_even (by simp)
  rw [show crcN 4 (a >>> 4 <<< 4) = crc1 (crcN 3 (a >>> 4 <<< 4)) from rfl, e3, crc1_even (by simp)]
  apply BitVec.eq_of_getLsbD_eq
  intro i hi
  simp only [BitVec.getLsbD_ushiftRight, BitVec.getLsbD_shiftLeft]
  by_cases h1 : i + 4 < 32
  · rw [decide_eq_true (by omega), decide_eq_false (by omega), show 4 + (1 + (1 + (1 + (1 + i))) - 4) = 4 + i by omega]; rfl
  · rw [decide_eq_false (show ¬ 1 + (1 + (1 + (1 + i))) < 32 by omega), BitVec.getLsbD_of_ge a (4 + i) (by omega)]; rfl
theorem low_high (a : W32) : a = (a &&& 15#32) ^^^ (a >>> 4 <<< 4) := by
  apply BitVec.eq_of_getLsbD_eq
  intro i hi
  have h15 : ∀ i : Nat, i < 32 → (15#32).getLsbD i = decide (i < 4) := by decide
  simp only [BitVec.getLsbD_xor, BitVec.getLsbD_and, BitVec.getLsbD_shiftLeft, BitVec.getLsbD_ushiftRight, h15 i hi]
  by_cases h : i < 4
  · simp [h, hi]
  · simp [h, hi, show 4 + (i - 4) = i by omega]
/-- Half a byte at a time. -/
theorem crc_nibble (a : W32) : crcN 4 a = crcN 4 (a &&& 15#32) ^^^ a >>> 4 := by
  conv => lhs; rw [low_high a]
  rw [crcN_xor, crcN_high]
theorem and15 {x : Int} : arithOf .and .u32 x 15 = ofW (toW x &&& 15#32) := and32 (y := 15)
theorem and15_lt (a : W32) : (a &&& 15#32).toNat < 16 := by
  rw [BitVec.toNat_and]
  exact Nat.lt_of_le_of_lt Nat.and_le_right (by decide)
theorem tab_get {d : List (List Value)} (h : tabOk d 16) (a : W32) : cellX d (a &&& 15#32).toNat = ofW (crcN 4 (a &&& 15#32)) := by
  rw [h.2 _ (and15_lt a)]
  congr 2
  apply BitVec.eq_of_toNat_eq
  rw [BitVec.toNat_ofNat]
  have := and15_lt a
  omega
theorem shr4 {x : Int} (h : isW x) : arithOf .shr .u32 x 4 = ofW (toW x >>> 4) := shr32 (n := 4) h (by decide)
theorem shr1 {x : Int} (h : isW x) : arithOf .shr .u32 x 1 = ofW (toW x >>> 1) := shr32 (n := 1) h (by decide)
/-- One step of the table's word. -/
theorem crc_bit {a : W32} : arithOf .xor .u32 (arithOf .shr .u32 (ofW a) 1) (arithOf .mul .u32 2197175160 (arithOf .and .u32 (ofW a) 1)) = ofW (crc1 a) := by
  have h1 : arithOf .and .u32 (ofW a) 1 = ofW (a &&& 1#32) := by rw [and32, toW_ofW]; rfl
  rw [shr1 isW_ofW, toW_ofW, h1, xor32, toW_ofW]
  refine congrArg ofW ?_
  unfold crc1
  cases h : a.getLsbD 0
  · have h0 : a &&& 1#32 = 0#32 := by
      apply BitVec.eq_of_getLsbD_eq
      intro i hi
      have h15 : ∀ i : Nat, i < 32 → (1#32).getLsbD i = decide (i = 0) := by decide
      rw [BitVec.getLsbD_and, h15 i hi]
      by_cases e : i = 0
      · subst e; rw [h]; rfl
      · simp [e]
    rw [h0]
    show a >>> 1 ^^^ 0#32 = _
    simp
  · have h0 : a &&& 1#32 = 1#32 := by
      apply BitVec.eq_of_getLsbD_eq
      intro i hi
      have h15 : ∀ i : Nat, i < 32 → (1#32).getLsbD i = decide (i = 0) := by decide
      rw [BitVec.getLsbD_and, h15 i hi]
      by_cases e : i = 0
      · subst e; rw [h]; rfl
      · simp [e]
    rw [h0]
    rfl
/-- One byte by two halves. -/
theorem crc_byte {d : List (List Value)} (h : tabOk d 16) (a : W32) : arithOf .xor .u32 (cellX d (arithOf .and .u32 (arithOf .xor .u32 (cellX d (arithOf .and .u32 (ofW a) 15).toNat) (arithOf .shr .u32 (ofW a) 4)) 15).toNat) (arithOf .shr .u32 (arithOf .xor .u32 (cellX d (arithOf .and .u32 (ofW a) 15).toNat) (arithOf .shr .u32 (ofW a) 4)) 4) = ofW (crcN 8 a) := by
  have hn : ∀ b : W32, (ofW (b &&& 15#32)).toNat = (b &&& 15#32).toNat := fun b => Int.toNat_natCast _
  have h1 : arithOf .xor .u32 (cellX d (arithOf .and .u32 (ofW a) 15).toNat) (arithOf .shr .u32 (ofW a) 4) = ofW (crcN 4 a) := by
    rw [and15, toW_ofW, hn, tab_get h, shr4 isW_ofW, toW_ofW, xor32, toW_ofW, toW_ofW, ← crc_nibble]
  rw [h1, and15, toW_ofW, hn, tab_get h, shr4 isW_ofW, toW_ofW, xor32, toW_ofW, toW_ofW, ← crc_nibble, show (8 : Nat) = 4 + 4 from rfl, crcN_add]
theorem and15_range (x : Int) : 0 ≤ arithOf .and .u32 x 15 ∧ arithOf .and .u32 x 15 < 16 := by
  rw [and15]
  have := and15_lt (toW x)
  unfold ofW
  omega
theorem crcL_app (r : W32) (m s : List Int) : crcL r (m ++ s) = crcL (crcL r m) s := List.foldl_append
/-! ### Digits -/
def hexT : List UInt8 := [48, 49, 50, 51, 52, 53, 54, 55, 56, 57, 97, 98, 99, 100, 101, 102]
theorem hex_nums : ∀ b : Fin 256, 0 ≤ arithOf .shr .u8 (b.val : Int) 4 ∧ arithOf .shr .u8 (b.val : Int) 4 < 16 ∧ 0 ≤ arithOf .and .u8 (b.val : Int) 15 ∧ arithOf .and .u8 (b.val : Int) 15 < 16 ∧ hexT[(arithOf .shr .u8 (b.val : Int) 4).toNat]?.getD 0 = hexD ((b.val : Int) / 16) ∧ hexT[(arithOf .and .u8 (b.val : Int) 15).toNat]?.getD 0 = hexD ((b.val : Int) % 16) := by decide +kernel
theorem hex_num {x : Int} (h0 : 0 ≤ x) (h1 : x < 256) : 0 ≤ arithOf .shr .u8 x 4 ∧ arithOf .shr .u8 x 4 < 16 ∧ 0 ≤ arithOf .and .u8 x 15 ∧ arithOf .and .u8 x 15 < 16 ∧ hexT[(arithOf .shr .u8 x 4).toNat]?.getD 0 = hexD (x / 16) ∧ hexT[(arithOf .and .u8 x 15).toNat]?.getD 0 = hexD (x % 16) := by
  have := hex_nums ⟨x.toNat, by omega⟩
  rw [show (((⟨x.toNat, by omega⟩ : Fin 256).val : Nat) : Int) = x by simp; omega] at this
  exact this
theorem hexL_snoc {l : List Int} {n : Nat} (h : n < l.length) : hexL (l.take (n + 1)) = hexL (l.take n) ++ hexB (l[n]?.getD 0) := by
  rw [List.take_add_one, hexL, List.flatMap_append, ← hexL, List.getElem?_eq_getElem h]
  simp
theorem hexL_len : ∀ {l : List Int}, (hexL l).length = 2 * l.length
  | [] => rfl
  | x :: l => by
    show (hexB x ++ hexL l).length = _
    rw [List.length_append, hexL_len]; simp [hexB]; omega
theorem bytesOf_len {d : List (List Value)} : (bytesOf d).length = d.length := by simp [bytesOf]
theorem bytesOf_two {d : List (List Value)} {a b : UInt8} : bytesOf (d ++ [[.int .u8 (a.toNat : Int)], [.int .u8 (b.toNat : Int)]]) = bytesOf d ++ [a, b] := by
  simp [bytesOf, vInt]
end Go.Proofs

set_option linter.unusedSimpArgs false
set_option linter.unusedVariables false
namespace Go.Proofs
open Go Go.Eng
theorem crc1_zero {x : W32} (h : crc1 x = 0#32) : x = 0#32 := by
  unfold crc1 at h
  split at h
  · have h31 := congrArg (·.getLsbD 31) h
    simp at h31
  · rename_i h0
    apply BitVec.eq_of_getLsbD_eq
    intro i hi
    cases i with
    | zero => simpa using h0
    | succ i =>
      have h1 := congrArg (·.getLsbD i) h
      simp only [BitVec.getLsbD_ushiftRight, BitVec.getLsbD_zero] at h1 ⊢
      rw [Nat.add_comm]; exact h1
theorem crc1_inj {a b : W32} (h : crc1 a = crc1 b) : a = b := by
  have h1 : crc1 (a ^^^ b) = 0#32 := by rw [crc1_xor, h, BitVec.xor_self]
  exact BitVec.xor_eq_zero_iff.1 (crc1_zero h1)
theorem crcN_inj {a b : W32} : ∀ {n : Nat}, crcN n a = crcN n b → a = b
  | 0, h => h
  | n + 1, h => crcN_inj (n := n) (crc1_inj h)
theorem xor_cancel {a b c : W32} (h : a ^^^ c = b ^^^ c) : a = b := by
  have := congrArg (· ^^^ c) h
  simpa [BitVec.xor_assoc] using this
theorem crcB_inj {r s : W32} {x : Int} (h : crcB r x = crcB s x) : r = s := xor_cancel (crcN_inj h)
theorem crcL_inj {r s : W32} : ∀ {m : List Int}, crcL r m = crcL s m → r = s
  | [], h => h
  | x :: m, h => crcB_inj (crcL_inj (m := m) h)
theorem crcN_zero : ∀ n, crcN n 0#32 = 0#32
  | 0 => rfl
  | n + 1 => by rw [crcN, crcN_zero n]; decide
theorem crcN_up : ∀ (n : Nat) {y : W32}, n ≤ 32 → y.toNat < 2 ^ (32 - n) → crcN n (y <<< n) = y
  | 0, y, _, _ => by simp [crcN]
  | n + 1, y, hn, hy => by
    have hy' : y.toNat < 2 ^ 31 := Nat.lt_of_lt_of_le hy (Nat.pow_le_pow_right (by decide) (by omega))
    have h2 : (y <<< 1).toNat = 2 * y.toNat := by
      rw [BitVec.toNat_shiftLeft, Nat.shiftLeft_eq, Nat.mod_eq_of_lt (by omega)]; omega
    have e : y <<< (n + 1) = (y <<< 1) <<< n := by rw [Nat.add_comm, BitVec.shiftLeft_add]
    rw [crcN, e, crcN_up n (y := y <<< 1) (by omega) (by
      rw [h2, show 32 - n = (32 - (n + 1)) + 1 by omega, Nat.pow_succ]; omega)]
    unfold crc1
    rw [show (y <<< 1).getLsbD 0 = false by simp]
    apply BitVec.eq_of_toNat_eq
    simp only [Bool.false_eq_true, if_false]
    rw [BitVec.toNat_ushiftRight, h2, Nat.shiftRight_eq_div_pow]; omega
theorem low_high8 (a : W32) : a = (a &&& 255#32) ^^^ (a >>> 8 <<< 8) := by
  apply BitVec.eq_of_getLsbD_eq
  intro i hi
  have h15 : ∀ i : Nat, i < 32 → (255#32).getLsbD i = decide (i < 8) := by decide
  simp only [BitVec.getLsbD_xor, BitVec.getLsbD_and, BitVec.getLsbD_shiftLeft, BitVec.getLsbD_ushiftRight, h15 i hi]
  by_cases h : i < 8
  · simp [h, hi]
  · simp [h, hi, show 8 + (i - 8) = i by omega]
/-- One byte of a mask that lies at the front. -/
theorem mask_step {m c : W32} {x : Int} {k : Nat} (hc : c = crcN (8 * k) m ^^^ m >>> (8 * k)) (hx : toW x = (m >>> (8 * k)) &&& 255#32) : crcB c x = crcN (8 * (k + 1)) m ^^^ m >>> (8 * (k + 1)) := by
  have e1 : c ^^^ toW x = crcN (8 * k) m ^^^ (m >>> (8 * k) >>> 8 <<< 8) := by
    rw [hc, hx]
    have h := low_high8 (m >>> (8 * k))
    generalize m >>> (8 * k) = z at h ⊢
    generalize hz : z &&& 255#32 = u at h ⊢
    generalize hy : z >>> 8 <<< 8 = v at h ⊢
    rw [h, BitVec.xor_assoc, show u ^^^ v ^^^ u = v ^^^ (u ^^^ u) by ac_rfl, BitVec.xor_self, BitVec.xor_zero]
  rw [crcB, e1, crcN_xor, crcN_up 8 (by decide), ← crcN_add, ← BitVec.shiftRight_add]
  · rfl
  · rw [BitVec.toNat_ushiftRight, Nat.shiftRight_eq_div_pow]
    have := (m >>> (8 * k)).isLt
    omega
theorem crcB_xor {a b : W32} {x y z : Int} (h : toW z = toW x ^^^ toW y) : crcB (a ^^^ b) z = crcB a x ^^^ crcB b y := by
  unfold crcB
  rw [h, ← crcN_xor]
  congr 1
  ac_rfl
/-- Four bytes into which a mask is added change the sum. -/
theorem burst4 {m r : W32} {b0 b1 b2 b3 c0 c1 c2 c3 m0 m1 m2 m3 : Int} (hm : m ≠ 0#32) (h0 : toW m0 = m &&& 255#32) (h1 : toW m1 = (m >>> 8) &&& 255#32) (h2 : toW m2 = (m >>> 16) &&& 255#32) (h3 : toW m3 = (m >>> 24) &&& 255#32)
    (e0 : toW c0 = toW b0 ^^^ toW m0) (e1 : toW c1 = toW b1 ^^^ toW m1) (e2 : toW c2 = toW b2 ^^^ toW m2) (e3 : toW c3 = toW b3 ^^^ toW m3) : crcL r [c0, c1, c2, c3] ≠ crcL r [b0, b1, b2, b3] := by
  intro h
  have s1 : crcB 0#32 m0 = crcN 8 m ^^^ m >>> 8 := mask_step (k := 0) (by show (0#32 : W32) = m ^^^ m >>> 0; simp) (by simpa using h0)
  have s2 := mask_step (k := 1) s1 h1
  have s3 := mask_step (k := 2) s2 h2
  have s4 := mask_step (k := 3) s3 h3
  have hz : crcB (crcB (crcB (crcB 0#32 m0) m1) m2) m3 = crcN 32 m := by
    rw [s4, show m >>> (8 * (3 + 1)) = 0#32 by apply BitVec.eq_of_getLsbD_eq; intro i hi; simp [BitVec.getLsbD_ushiftRight], BitVec.xor_zero]
  have hr : r = r ^^^ 0#32 := by simp
  have : crcL r [c0, c1, c2, c3] = crcL r [b0, b1, b2, b3] ^^^ crcN 32 m := by
    rw [← hz]
    show crcB (crcB (crcB (crcB r c0) c1) c2) c3 = crcB (crcB (crcB (crcB r b0) b1) b2) b3 ^^^ _
    conv => lhs; rw [hr]
    rw [crcB_xor e0, crcB_xor e1, crcB_xor e2, crcB_xor e3]
  rw [h] at this
  have h5 : crcN 32 m = 0#32 := by
    have h6 := congrArg (crcL r [b0, b1, b2, b3] ^^^ ·) this
    simp only [BitVec.xor_self, ← BitVec.xor_assoc, BitVec.zero_xor] at h6
    exact h6.symm
  exact hm (crcN_inj (h5.trans (crcN_zero 32).symm))
theorem crcL_app' (r : W32) (m s : List Int) : crcL r (m ++ s) = crcL (crcL r m) s := List.foldl_append
theorem burst_ne {m : W32} {p s : List Int} {b0 b1 b2 b3 c0 c1 c2 c3 m0 m1 m2 m3 : Int} {r : W32} (hm : m ≠ 0#32) (h0 : toW m0 = m &&& 255#32) (h1 : toW m1 = (m >>> 8) &&& 255#32) (h2 : toW m2 = (m >>> 16) &&& 255#32) (h3 : toW m3 = (m >>> 24) &&& 255#32)
    (e0 : toW c0 = toW b0 ^^^ toW m0) (e1 : toW c1 = toW b1 ^^^ toW m1) (e2 : toW c2 = toW b2 ^^^ toW m2) (e3 : toW c3 = toW b3 ^^^ toW m3) : crcL r (p ++ ([c0, c1, c2, c3] ++ s)) ≠ crcL r (p ++ ([b0, b1, b2, b3] ++ s)) := by
  intro h
  rw [crcL_app', crcL_app', crcL_app', crcL_app'] at h
  exact burst4 hm h0 h1 h2 h3 e0 e1 e2 e3 (crcL_inj h)
def byteAt (m : Int) (k : Nat) : Int := IntKind.u8.wrap (arithOf .shr .u32 m (8 * (k : Int)))
/-- The message after the first i bytes of the mask were added at place a. -/
def mixAt (l : List Int) (a : Nat) (m : Int) (i : Nat) : List Int := l.mapIdx fun j x => if a ≤ j ∧ j < a + i then arithOf .xor .u8 x (byteAt m (j - a)) else x
theorem mixAt_zero {l : List Int} {a : Nat} {m : Int} : mixAt l a m 0 = l := by
  unfold mixAt
  refine List.ext_getElem (by simp) fun j h1 h2 => ?_
  rw [List.getElem_mapIdx, if_neg (by omega)]
theorem mixAt_len {l : List Int} {a : Nat} {m : Int} {i : Nat} : (mixAt l a m i).length = l.length := by simp [mixAt]
theorem mixAt_get {l : List Int} {a : Nat} {m : Int} {i j : Nat} (h : j < l.length) : (mixAt l a m i)[j]? = some (if a ≤ j ∧ j < a + i then arithOf .xor .u8 l[j] (byteAt m (j - a)) else l[j]) := by
  simp [mixAt, List.getElem?_mapIdx, h]
theorem mixAt_next {l : List Int} {a : Nat} {m : Int} {i : Nat} (h : a + i < l.length) : mixAt l a m (i + 1) = (mixAt l a m i).set (a + i) (arithOf .xor .u8 l[a + i] (byteAt m i)) := by
  refine List.ext_getElem? fun j => ?_
  by_cases hj : j < l.length
  · rw [mixAt_get hj, List.getElem?_set, mixAt_len, mixAt_get hj]
    by_cases e : a + i = j
    · subst e
      rw [if_pos rfl, if_pos h, if_pos (by omega), show a + i - a = i by omega]
    · rw [if_neg e]
      by_cases h1 : a ≤ j ∧ j < a + i
      · rw [if_pos h1, if_pos (by omega)]
      · rw [if_neg h1, if_neg (by omega)]
  · rw [List.getElem?_eq_none (by rw [mixAt_len]; omega), List.getElem?_eq_none (by rw [List.length_set, mixAt_len]; omega)]
theorem toW_byteAt {m : Int} {k : Nat} (h0 : 0 ≤ m) (h1 : m < 4294967296) (hk : k < 4) : toW (byteAt m k) = (toW m >>> (8 * k)) &&& 255#32 := by
  obtain ⟨M, rfl⟩ : ∃ M : Nat, m = M := ⟨m.toNat, by omega⟩
  have e1 : arithOf .shr .u32 (M : Int) (8 * (k : Int)) = ((M / 2 ^ (8 * k) : Nat) : Int) := by
    rw [show (8 * (k : Int)) = ((8 * k : Nat) : Int) by omega]
    have := shr32 (x := (M : Int)) (n := 8 * k) ⟨h0, h1⟩ (by omega)
    rw [this]
    unfold toW ofW
    rw [BitVec.ofInt_natCast, BitVec.toNat_ushiftRight, BitVec.toNat_ofNat, Nat.mod_eq_of_lt (by omega), Nat.shiftRight_eq_div_pow]
  rw [byteAt, e1, wrap8]
  unfold toW
  apply BitVec.eq_of_toNat_eq
  rw [BitVec.ofInt_natCast, show (((M / 2 ^ (8 * k) : Nat) : Int) % 256) = ((M / 2 ^ (8 * k) % 256 : Nat) : Int) by omega, BitVec.ofInt_natCast, BitVec.toNat_ofNat, BitVec.toNat_and, BitVec.toNat_ushiftRight, BitVec.toNat_ofNat, Nat.mod_eq_of_lt (show M < 2 ^ 32 by omega), Nat.shiftRight_eq_div_pow]
  rw [show (255#32).toNat = 2 ^ 8 - 1 from rfl, Nat.and_two_pow_sub_one_eq_mod]
  omega
theorem mask_ne {m : Int} (h0 : 0 ≤ m) (h1 : m < 4294967296) (h : m ≠ 0) : toW m ≠ 0#32 := by
  obtain ⟨M, rfl⟩ : ∃ M : Nat, m = M := ⟨m.toNat, by omega⟩
  intro e
  have := congrArg BitVec.toNat e
  unfold toW at this
  rw [BitVec.ofInt_natCast, BitVec.toNat_ofNat, Nat.mod_eq_of_lt (by omega)] at this
  simp at this
  omega
theorem xor8_toWb {a b : Int} (a0 : 0 ≤ a) (a1 : a < 256) (b0 : 0 ≤ b) (b1 : b < 256) : toW (arithOf .xor .u8 a b) = toW a ^^^ toW b := by
  obtain ⟨m, rfl⟩ : ∃ m : Nat, a = m := ⟨a.toNat, by omega⟩
  obtain ⟨n, rfl⟩ : ∃ n : Nat, b = n := ⟨b.toNat, by omega⟩
  have hx : m ^^^ n < 2 ^ 8 := Nat.xor_lt_two_pow (by omega) (by omega)
  have h1 : arithOf .xor .u8 (m : Int) (n : Int) = ((m ^^^ n : Nat) : Int) := by
    show IntKind.u8.wrap ((BitVec.ofInt 8 (m : Int) ^^^ BitVec.ofInt 8 (n : Int)).toNat : Int) = _
    rw [wrap8, BitVec.toNat_xor, BitVec.ofInt_natCast, BitVec.ofInt_natCast, BitVec.toNat_ofNat, BitVec.toNat_ofNat, Nat.mod_eq_of_lt (show m < 2 ^ 8 by omega), Nat.mod_eq_of_lt (show n < 2 ^ 8 by omega)]
    omega
  rw [h1]
  unfold toW
  rw [BitVec.ofInt_natCast, BitVec.ofInt_natCast, BitVec.ofInt_natCast]
  apply BitVec.eq_of_toNat_eq
  rw [BitVec.toNat_xor, BitVec.toNat_ofNat, BitVec.toNat_ofNat, BitVec.toNat_ofNat, Nat.mod_eq_of_lt (show m < 2 ^ 32 by omega), Nat.mod_eq_of_lt (show n < 2 ^ 32 by omega), Nat.mod_eq_of_lt (by omega)]
/-- A mask in four bytes changes the checksum. -/
theorem crcF_mix {l : List Int} {a : Nat} {m : Int} (hl : a + 4 ≤ l.length) (hb : allM l) (h0 : 0 ≤ m) (h1 : m < 4294967296) (h : m ≠ 0) : crcF l ≠ crcF (mixAt l a m 4) := by
  obtain ⟨p, q, hp, hq⟩ : ∃ p q, l = p ++ q ∧ p.length = a := ⟨l.take a, l.drop a, (List.take_append_drop a l).symm, by rw [List.length_take]; omega⟩
  match q, hp with
  | b0 :: b1 :: b2 :: b3 :: s, hp =>
    have hm : mixAt l a m 4 = p ++ ([arithOf .xor .u8 b0 (byteAt m 0), arithOf .xor .u8 b1 (byteAt m 1), arithOf .xor .u8 b2 (byteAt m 2), arithOf .xor .u8 b3 (byteAt m 3)] ++ s) := by
      refine List.ext_getElem? fun j => ?_
      by_cases hj : j < l.length
      · rw [mixAt_get hj]
        have hg : l[j]? = some l[j] := List.getElem?_eq_getElem hj
        generalize hx : l[j] = x at hg ⊢
        rw [hp] at hg
        by_cases ha : j < a
        · rw [List.getElem?_append_left (by omega)] at hg ⊢
          rw [if_neg (by omega), hg]
        · rw [List.getElem?_append_right (by omega)] at hg ⊢
          rw [hq] at hg ⊢
          obtain ⟨k, rfl⟩ : ∃ k, j = a + k := ⟨j - a, by omega⟩
          rw [show a + k - a = k by omega] at hg ⊢
          match k with
          | 0 | 1 | 2 | 3 =>
            rw [if_pos (by omega)]
            simp at hg ⊢
            rw [hg]
          | k + 4 =>
            rw [if_neg (by omega)]
            simp at hg ⊢
            exact hg.symm
      · rw [List.getElem?_eq_none (by rw [mixAt_len]; omega), List.getElem?_eq_none (by rw [hp] at hj; simp at hj ⊢; omega)]
    have hx : ∀ k, k < 4 → 0 ≤ byteAt m k ∧ byteAt m k < 256 := fun k _ => by rw [byteAt, wrap8]; omega
    have hbb : ∀ x, x ∈ [b0, b1, b2, b3] → 0 ≤ x ∧ x < 256 := fun x hx => hb x (by rw [hp]; simp at hx ⊢; rcases hx with h | h | h | h <;> simp [h])
    have g0 := hbb b0 (by simp)
    have g1 := hbb b1 (by simp)
    have g2 := hbb b2 (by simp)
    have g3 := hbb b3 (by simp)
    have x0 := hx 0 (by decide)
    have x1 := hx 1 (by decide)
    have x2 := hx 2 (by decide)
    have x3 := hx 3 (by decide)
    intro e
    unfold crcF at e
    have e2 : crcL 0xffffffff#32 l = crcL 0xffffffff#32 (mixAt l a m 4) := by
      have := congrArg (fun z : W32 => ~~~ z) e
      simpa using this
    rw [hm, hp] at e2
    exact burst_ne (mask_ne h0 h1 h) (by simpa using toW_byteAt (k := 0) h0 h1 (by decide)) (toW_byteAt (k := 1) h0 h1 (by decide)) (toW_byteAt (k := 2) h0 h1 (by decide)) (toW_byteAt (k := 3) h0 h1 (by decide))
      (xor8_toWb g0.1 g0.2 x0.1 x0.2) (xor8_toWb g1.1 g1.2 x1.1 x1.2) (xor8_toWb g2.1 g2.2 x2.1 x2.2) (xor8_toWb g3.1 g3.2 x3.1 x3.2) e2.symm
  | [], hp => rw [hp] at hl; simp at hl; omega
  | [_], hp => rw [hp] at hl; simp at hl; omega
  | [_, _], hp => rw [hp] at hl; simp at hl; omega
  | [_, _, _], hp => rw [hp] at hl; simp at hl; omega
end Go.Proofs

set_option linter.unusedSimpArgs false
set_option linter.unusedVariables false
namespace Go.Eng
open Go
/-- A digit's value, or -1. -/
def hexV (c : Int) : Int := if 48 ≤ c ∧ c ≤ 57 then c - 48 else if 97 ≤ c ∧ c ≤ 102 then c - 87 else -1
def chr (s : List UInt8) (j : Nat) : Int := ((s[j]?.getD 0).toNat : Int)
/-- The bytes that the first i digits give. -/
def hexAcc (s : List UInt8) (i : Nat) : List Int := (List.range 32).map fun j => if 2 * j + 1 < i then hexV (chr s (2 * j)) * 16 + hexV (chr s (2 * j + 1)) else if 2 * j < i then hexV (chr s (2 * j)) else 0
def hexAll (s : List UInt8) (i : Nat) : Prop := ∀ j, j < i → 0 ≤ hexV (chr s j)
/-- The answer to a string: an error, or the digest. -/
def parsed (s : List UInt8) (e : Int) (d : List Int) : Prop := (s.length < 64 ∧ e = 4 ∧ d = List.replicate 32 0) ∨ (64 < s.length ∧ e = 3 ∧ d = List.replicate 32 0) ∨ (s.length = 64 ∧ ¬ hexAll s 64 ∧ e = 5 ∧ d = List.replicate 32 0) ∨ (s.length = 64 ∧ hexAll s 64 ∧ e = 0 ∧ d = hexAcc s 64)
end Go.Eng
namespace Go.Proofs
open Go Go.Eng
theorem parsed_one {s : List UInt8} {e f : Int} {d g : List Int} (h : parsed s e d) (k : parsed s f g) : e = f ∧ d = g := by
  rcases h with ⟨a, b, c⟩ | ⟨a, b, c⟩ | ⟨a, n, b, c⟩ | ⟨a, n, b, c⟩ <;> rcases k with ⟨a', b', c'⟩ | ⟨a', b', c'⟩ | ⟨a', n', b', c'⟩ | ⟨a', n', b', c'⟩ <;> first | (exfalso; omega) | exact ⟨by omega, by rw [c, c']⟩ | exact absurd n n' | exact absurd n' n
theorem hexV_range (c : Int) : -1 ≤ hexV c ∧ hexV c < 16 := by
  unfold hexV
  split
  · omega
  · split <;> omega
theorem hexAcc_len {s : List UInt8} {i : Nat} : (hexAcc s i).length = 32 := by simp [hexAcc]
theorem hexAcc_get {s : List UInt8} {i j : Nat} (h : j < 32) : (hexAcc s i).getD j 0 = if 2 * j + 1 < i then hexV (chr s (2 * j)) * 16 + hexV (chr s (2 * j + 1)) else if 2 * j < i then hexV (chr s (2 * j)) else 0 := by
  simp [hexAcc, List.getD_eq_getElem?_getD, h]
theorem hexAcc_zero {s : List UInt8} : hexAcc s 0 = List.replicate 32 0 := by
  refine List.ext_getElem (by simp [hexAcc]) fun j h1 h2 => ?_
  rw [List.getElem_replicate]
  simp [hexAcc]
theorem hexAll_next {s : List UInt8} {i : Nat} (h : hexAll s i) (h1 : 0 ≤ hexV (chr s i)) : hexAll s (i + 1) := fun j hj => by
  by_cases e : j = i
  · rw [e]; exact h1
  · exact h j (by omega)
theorem shl_or : ∀ a b : Fin 16, arithOf .or .u8 (arithOf .shl .u8 (a.val : Int) 4) (b.val : Int) = (a.val : Int) * 16 + (b.val : Int) := by decide +kernel
theorem shl_or' {a b : Int} (a0 : 0 ≤ a) (a1 : a < 16) (b0 : 0 ≤ b) (b1 : b < 16) : arithOf .or .u8 (arithOf .shl .u8 a 4) b = a * 16 + b := by
  have := shl_or ⟨a.toNat, by omega⟩ ⟨b.toNat, by omega⟩
  simp only at this
  rw [show ((a.toNat : Nat) : Int) = a by omega, show ((b.toNat : Nat) : Int) = b by omega] at this
  exact this
/-- The byte that takes in one more digit. -/
theorem hexAcc_step {s : List UInt8} {i : Nat} (hi : i < 64) (h : hexAll s i) (h1 : 0 ≤ hexV (chr s i)) : arithOf .or .u8 (arithOf .shl .u8 ((hexAcc s i).getD (i / 2) 0) 4) (hexV (chr s i)) = (hexAcc s (i + 1)).getD (i / 2) 0 := by
  rw [hexAcc_get (by omega), hexAcc_get (by omega), if_neg (by omega)]
  have r := hexV_range (chr s i)
  by_cases e : i % 2 = 0
  · rw [if_neg (by omega), if_neg (by omega), if_pos (by omega), shl_or' (by omega) (by omega) h1 r.2, show 2 * (i / 2) = i by omega]; omega
  · have h2 := h (i - 1) (by omega)
    have r2 := hexV_range (chr s (i - 1))
    rw [if_pos (by omega), if_pos (by omega), show 2 * (i / 2) = i - 1 by omega, show i - 1 + 1 = i by omega, shl_or' h2 r2.2 h1 r.2]
theorem hexAcc_same {s : List UInt8} {i j : Nat} (hj : j < 32) (h : j ≠ i / 2) : (hexAcc s (i + 1)).getD j 0 = (hexAcc s i).getD j 0 := by
  rw [hexAcc_get hj, hexAcc_get hj]
  by_cases h1 : 2 * j + 1 < i
  · rw [if_pos h1, if_pos (by omega)]
  · rw [if_neg h1, if_neg (by omega)]
    by_cases h2 : 2 * j < i
    · omega
    · rw [if_neg (by omega), if_neg h2]
theorem hexAcc_byte {s : List UInt8} (h : hexAll s 64) : ∀ x ∈ hexAcc s 64, 0 ≤ x ∧ x < 256 := fun x hx => by
  obtain ⟨j, hj, rfl⟩ := List.mem_map.1 hx
  have hj := List.mem_range.1 hj
  have r1 := hexV_range (chr s (2 * j))
  have r2 := hexV_range (chr s (2 * j + 1))
  have s1 := h (2 * j) (by omega)
  have s2 := h (2 * j + 1) (by omega)
  rw [if_pos (by omega)]; omega
theorem hexD_V : ∀ c : Fin 256, 0 ≤ hexV (c.val : Int) → hexD (hexV (c.val : Int)) = UInt8.ofNat c.val := by decide +kernel
theorem hexD_chr {s : List UInt8} {j : Nat} (hj : j < s.length) (h : 0 ≤ hexV (chr s j)) : hexD (hexV (chr s j)) = s[j] := by
  have e : chr s j = ((s[j].toNat : Nat) : Int) := by simp [chr, hj]
  rw [e] at h ⊢
  have := hexD_V ⟨s[j].toNat, s[j].toNat_lt⟩ h
  rw [this]; simp
/-- The digits of what was read are what was read. -/
theorem hex_back {s : List UInt8} (hl : s.length = 64) (h : hexAll s 64) : hexL (hexAcc s 64) = s := by
  have key : ∀ n, n ≤ 32 → hexL ((hexAcc s 64).take n) = s.take (2 * n) := by
    intro n
    induction n with
    | zero => intro _; simp [hexL]
    | succ n ih =>
      intro hn
      rw [hexL_snoc (by rw [hexAcc_len]; omega), ih (by omega), ← List.getD_eq_getElem?_getD, hexAcc_get (by omega), if_pos (by omega)]
      have r1 := hexV_range (chr s (2 * n))
      have r2 := hexV_range (chr s (2 * n + 1))
      have s1 := h (2 * n) (by omega)
      have s2 := h (2 * n + 1) (by omega)
      rw [hexB, show (hexV (chr s (2 * n)) * 16 + hexV (chr s (2 * n + 1))) / 16 = hexV (chr s (2 * n)) by omega, show (hexV (chr s (2 * n)) * 16 + hexV (chr s (2 * n + 1))) % 16 = hexV (chr s (2 * n + 1)) by omega,
        hexD_chr (by omega) s1, hexD_chr (by omega) s2, show 2 * (n + 1) = 2 * n + 1 + 1 by omega, List.take_add_one (i := 2 * n + 1), List.take_add_one (i := 2 * n), List.getElem?_eq_getElem (by omega), List.getElem?_eq_getElem (by omega), List.append_assoc]
      rfl
  have := key 32 (by omega)
  rw [List.take_of_length_le (by rw [hexAcc_len]; omega), List.take_of_length_le (by omega)] at this
  exact this
theorem hexD_range : ∀ b : Fin 16, hexV ((hexD (b.val : Int)).toNat : Int) = (b.val : Int) := by decide +kernel
theorem hexV_D {x : Int} (h0 : 0 ≤ x) (h1 : x < 16) : hexV ((hexD x).toNat : Int) = x := by
  have := hexD_range ⟨x.toNat, by omega⟩
  simp only at this
  rwa [show ((x.toNat : Nat) : Int) = x by omega] at this
theorem chr_hexL : ∀ {l : List Int} {j : Nat}, j < l.length → allM l → chr (hexL l) (2 * j) = ((hexD (l.getD j 0 / 16)).toNat : Int) ∧ chr (hexL l) (2 * j + 1) = ((hexD (l.getD j 0 % 16)).toNat : Int)
  | x :: l, 0, _, _ => by constructor <;> rfl
  | x :: l, j + 1, h, hm => by
    have := chr_hexL (l := l) (j := j) (by simpa using h) (fun y hy => hm y (List.mem_cons_of_mem _ hy))
    have e : hexL (x :: l) = hexD (x / 16) :: hexD (x % 16) :: hexL l := rfl
    simp only [chr, e, show 2 * (j + 1) = 2 * j + 1 + 1 by omega, List.getElem?_cons_succ, List.getD_cons_succ] at this ⊢
    exact this
/-- What a digest's digits give back. -/
theorem parsed_hexL {l : List Int} (hl : l.length = 32) (hm : allM l) : parsed (hexL l) 0 l := by
  have hb : ∀ j, j < 32 → 0 ≤ l.getD j 0 ∧ l.getD j 0 < 256 := fun j hj => by
    have : l.getD j 0 ∈ l := by rw [List.getD_eq_getElem?_getD, List.getElem?_eq_getElem (by omega)]; simp
    exact hm _ this
  have hv : ∀ j, j < 32 → hexV (chr (hexL l) (2 * j)) = l.getD j 0 / 16 ∧ hexV (chr (hexL l) (2 * j + 1)) = l.getD j 0 % 16 := fun j hj => by
    obtain ⟨c1, c2⟩ := chr_hexL (l := l) (j := j) (by omega) hm
    have := hb j hj
    exact ⟨by rw [c1, hexV_D (by omega) (by omega)], by rw [c2, hexV_D (by omega) (by omega)]⟩
  refine .inr (.inr (.inr ⟨by rw [hexL_len]; omega, fun j hj => ?_, rfl, ?_⟩))
  · have := hv (j / 2) (by omega)
    have := hb (j / 2) (by omega)
    by_cases e : j % 2 = 0
    · rw [show j = 2 * (j / 2) by omega]; omega
    · rw [show j = 2 * (j / 2) + 1 by omega]; omega
  · refine List.ext_getElem (by rw [hexAcc_len]; omega) fun j h1 h2 => ?_
    have hj : j < 32 := by omega
    have e1 := hexAcc_get (s := hexL l) (i := 64) hj
    rw [if_pos (by omega), (hv j hj).1, (hv j hj).2] at e1
    rw [List.getD_eq_getElem?_getD, List.getElem?_eq_getElem (by rw [hexAcc_len]; omega), List.getD_eq_getElem?_getD, List.getElem?_eq_getElem h1] at e1
    simp at e1
    rw [e1]; omega
end Go.Proofs

set_option linter.unusedSimpArgs false
set_option linter.unusedVariables false
namespace Go.Eng
open Go

/-! ### What they compute -/
/-- The first n places filled, the others 0. -/
def fillTo (f : Nat → Int) (len n : Nat) : List Int := (List.range len).map fun i => if i < n then f i else 0
def identTo (n m : Nat) : List Int := (List.range (n * n)).map fun t => if t / n = t % n ∧ t / n < m then 1 else 0
def vanderF (cols : Nat) (i : Nat) : Int := powF (i / cols : Nat) (i % cols : Nat)
def vanderL (rows cols : Nat) : List Int := fillTo (vanderF cols) (rows * cols) (rows * cols)
/-- The product after t additions of rows. -/
def prodN (a b : List Int) (ra ca cb : Nat) : Nat → List Int
  | 0 => List.replicate (ra * cb) 0
  | t + 1 => addToL (prodN a b ra ca cb t) (t / ca * cb) (seg b (t % ca * cb) cb) (a.getD t 0)
def prodL (a b : List Int) (ra ca cb : Nat) : List Int := prodN a b ra ca cb (ra * ca)
/-- The row of the pivot. -/
def pivF (a : List Int) (ca c : Nat) : Nat → Nat → Nat
  | p, 0 => p
  | p, n + 1 => if a.getD (p * ca + c) 0 = 0 then pivF a ca c (p + 1) n else p
def elimRows (ca cb rank c : Nat) (a b : List Int) : Nat → List Int × List Int
  | 0 => (a, b)
  | i + 1 =>
    let s := elimRows ca cb rank c a b i
    if i = rank then s else
      (addToL s.1 (i * ca) (seg s.1 (rank * ca) ca) (s.1.getD (i * ca + c) 0), addToL s.2 (i * cb) (seg s.2 (rank * cb) cb) (s.1.getD (i * ca + c) 0))
def swapR (ca cb rank p : Nat) (a b : List Int) : List Int × List Int :=
  if p = rank then (a, b) else (addToL a (rank * ca) (seg a (p * ca) ca) 1, addToL b (rank * cb) (seg b (p * cb) cb) 1)
def scaleR (ca cb rank c : Nat) (a b : List Int) : List Int × List Int :=
  (scaleL a (rank * ca) ca (invF (a.getD (rank * ca + c) 0)), scaleL b (rank * cb) cb (invF (a.getD (rank * ca + c) 0)))
/-- The pivot's row is brought up and scaled. -/
def elimMid (rows ca cb c : Nat) (s : List Int × List Int × Nat) : List Int × List Int :=
  let s1 := swapR ca cb s.2.2 (pivF s.1 ca c s.2.2 (rows - s.2.2)) s.1 s.2.1
  scaleR ca cb s.2.2 c s1.1 s1.2
def elimStep (rows ca cb c : Nat) (s : List Int × List Int × Nat) : List Int × List Int × Nat :=
  if rows ≤ s.2.2 then s else
    if pivF s.1 ca c s.2.2 (rows - s.2.2) = rows then s else
      let s3 := elimRows ca cb s.2.2 c (elimMid rows ca cb c s).1 (elimMid rows ca cb c s).2 rows
      (s3.1, s3.2, s.2.2 + 1)
def elimN (rows ca cb : Nat) (a b : List Int) : Nat → List Int × List Int × Nat
  | 0 => (a, b, 0)
  | c + 1 => elimStep rows ca cb c (elimN rows ca cb a b c)

/-! ### Contracts -/
def mRet (a b : T) (r l c : Nat) : Bool × List T := (true, [.vint .i64 a, .vint .i64 b, .vslice r (.lit 0) (.var l) (.var c) 1])
def nilM : Bool × List T := (true, [.vint .i64 (.lit 0), .vint .i64 (.lit 0), .vnils])
def eRet (t : T) : Bool × List T := (false, [.vint .i64 t])
def ident40C : Ctr := { fn := 139, nv := 1, args := [iv .i64 (.var 0)], heap := [], ro := [], pre := fun _ => True, alts := [
  { k := 0, ret := .tup [nilM, eRet (.lit 2)], heap := [], post := fun ρ => (ρ 0).i < 1 ∨ 255 < (ρ 0).i },
  { k := 4, ret := .tup [mRet (.var 0) (.var 0) 1 2 3, eRet (.lit 0)], heap := [bHp 1 4 3], post := fun ρ => 1 ≤ (ρ 0).i ∧ (ρ 0).i ≤ 255 ∧ matOk (ρ 0).i (ρ 0).i (ρ 2).i (ρ 3).i (ρ 4).d ∧ (ρ 2).i = (ρ 4).d.length ∧ bI (ρ 4).d = identTo (ρ 0).i.toNat (ρ 0).i.toNat }] }
/-- 1000 the round, 1001 .. 1004 the matrix, 1005 its box. -/
def ident40I : Inv := { key := 5, nv := 7, env := [(0, iv .i64 (.var 0)), (2, .one (.vptr 1006 (.lit 0) 3 0)), (4, .one (.vptr 1005 (.lit 0) 3 0)), (16, iv .i64 (.var 0)), (17, iv .i64 (.var 1000))], heap := [.cells 1005 160 [.vint .i64 (.var 0), .vint .i64 (.var 0), .vslice 1001 (.lit 0) (.var 1002) (.var 1003) 1], .cells 1006 160 [.vint .i64 (.lit 0), .vint .i64 (.lit 0), .vnils], bHp 1001 1004 1003], inv := (fun ρ => 1 ≤ (ρ 0).i ∧ (ρ 0).i ≤ 255 ∧ 0 ≤ (ρ 1000).i ∧ (ρ 1000).i ≤ (ρ 0).i ∧ matOk (ρ 0).i (ρ 0).i (ρ 1002).i (ρ 1003).i (ρ 1004).d ∧ (ρ 1002).i = (ρ 1004).d.length ∧ bI (ρ 1004).d = identTo (ρ 0).i.toNat (ρ 1000).i.toNat), mu := (fun ρ => ((ρ 0).i - (ρ 1000).i).toNat) }
def vanderBad (r c : Int) : Prop := r < 1 ∨ 255 < r ∨ c < 1 ∨ 255 < c
def vander45C : Ctr := { fn := 126, nv := 4, args := [fArg, iv .i64 (.var 2), iv .i64 (.var 3)], heap := [fHp 1], ro := [], pre := fun ρ => fieldD (ρ 1).d, alts := [
  { k := 1, ret := .tup [nilM, eRet (.lit 2)], heap := [fHp 4], post := fun ρ => fieldD (ρ 4).d ∧ vanderBad (ρ 2).i (ρ 3).i },
  { k := 5, ret := .tup [mRet (.var 2) (.var 3) 4 5 6, eRet (.lit 0)], heap := [fHp 7, bHp 4 8 6], post := fun ρ => fieldD (ρ 7).d ∧ ¬ vanderBad (ρ 2).i (ρ 3).i ∧ matOk (ρ 2).i (ρ 3).i (ρ 5).i (ρ 6).i (ρ 8).d ∧ (ρ 5).i = (ρ 8).d.length ∧ bI (ρ 8).d = vanderL (ρ 2).i.toNat (ρ 3).i.toNat }] }
def vandHp : List SH := [fHp 1006, .cells 1007 160 [.vint .i64 (.lit 0), .vint .i64 (.lit 0), .vnils], .cells 1005 160 [.vint .i64 (.var 2), .vint .i64 (.var 3), .vslice 1001 (.lit 0) (.var 1002) (.var 1003) 1], bHp 1001 1004 1003]
def vandInv (ρ : Env) (n : Int) : Prop := ¬ vanderBad (ρ 2).i (ρ 3).i ∧ fieldD (ρ 1006).d ∧ matOk (ρ 2).i (ρ 3).i (ρ 1002).i (ρ 1003).i (ρ 1004).d ∧ (ρ 1002).i = (ρ 1004).d.length ∧ bI (ρ 1004).d = fillTo (vanderF (ρ 3).i.toNat) ((ρ 2).i.toNat * (ρ 3).i.toNat) n.toNat
/-- 1000 the row, 1001 .. 1004 the matrix, 1005 its box, 1006 the field. -/
def vander45I : Inv := { key := 7, nv := 8, env := [(0, fArg), (1, iv .i64 (.var 2)), (2, iv .i64 (.var 3)), (6, .one (.vptr 1007 (.lit 0) 3 0)), (8, .one (.vptr 1005 (.lit 0) 3 0)), (32, iv .i64 (.var 2)), (33, iv .i64 (.var 1000))], heap := vandHp, inv := (fun ρ => 0 ≤ (ρ 1000).i ∧ (ρ 1000).i ≤ (ρ 2).i ∧ vandInv ρ ((ρ 1000).i * (ρ 3).i)), mu := (fun ρ => ((ρ 2).i - (ρ 1000).i).toNat) }
/-- 1008 the column. -/
def vander45J : Inv := { key := 10, nv := 9, env := [(0, fArg), (1, iv .i64 (.var 2)), (2, iv .i64 (.var 3)), (6, .one (.vptr 1007 (.lit 0) 3 0)), (8, .one (.vptr 1005 (.lit 0) 3 0)), (32, iv .i64 (.var 2)), (33, iv .i64 (.var 1000)), (9, iv .i64 (.var 1000)), (36, iv .i64 (.var 3)), (37, iv .i64 (.var 1008))], heap := vandHp, inv := (fun ρ => 0 ≤ (ρ 1000).i ∧ (ρ 1000).i < (ρ 2).i ∧ 0 ≤ (ρ 1008).i ∧ (ρ 1008).i ≤ (ρ 3).i ∧ vandInv ρ ((ρ 1000).i * (ρ 3).i + (ρ 1008).i) ∧ (ρ 1000).i = (ρ 10).i), mu := (fun ρ => ((ρ 3).i - (ρ 1008).i).toNat) }
/-- Two matrices: a at 2 .. 8, b at 9 .. 15. -/
def argA : SV := mArg 2 3 4 5 6
def argB : SV := mArg 9 10 11 12 13
def validM (r c l : Int) : Prop := 1 ≤ r ∧ r ≤ 255 ∧ 1 ≤ c ∧ c ≤ 255 ∧ l = r * c
def prod49C : Ctr := { fn := 128, nv := 16, args := [fArg, argA, argB], heap := [fHp 1], ro := [bHp 4 7 8, bHp 11 14 15], pre := fun ρ => fieldD (ρ 1).d ∧ 0 ≤ (ρ 5).i ∧ (ρ 5).i ≤ (ρ 6).i ∧ (ρ 5).i ≤ (ρ 7).d.length ∧ allB (ρ 7).d ∧ 0 ≤ (ρ 12).i ∧ (ρ 12).i ≤ (ρ 13).i ∧ (ρ 12).i ≤ (ρ 14).d.length ∧ allB (ρ 14).d, alts := [
  { k := 1, ret := .tup [nilM, eRet (.lit 2)], heap := [fHp 16], post := fun ρ => fieldD (ρ 16).d ∧ ¬ (validM (ρ 2).i (ρ 3).i (ρ 5).i ∧ validM (ρ 9).i (ρ 10).i (ρ 12).i) },
  { k := 1, ret := .tup [nilM, eRet (.lit 10)], heap := [fHp 16], post := fun ρ => fieldD (ρ 16).d ∧ validM (ρ 2).i (ρ 3).i (ρ 5).i ∧ validM (ρ 9).i (ρ 10).i (ρ 12).i ∧ (ρ 3).i ≠ (ρ 9).i },
  { k := 5, ret := .tup [mRet (.var 2) (.var 10) 16 17 18, eRet (.lit 0)], heap := [fHp 19, bHp 16 20 18], post := fun ρ => fieldD (ρ 19).d ∧ validM (ρ 2).i (ρ 3).i (ρ 5).i ∧ validM (ρ 9).i (ρ 10).i (ρ 12).i ∧ (ρ 3).i = (ρ 9).i ∧ matOk (ρ 2).i (ρ 10).i (ρ 17).i (ρ 18).i (ρ 20).d ∧ (ρ 17).i = (ρ 20).d.length ∧ bI (ρ 20).d = prodL ((bI (ρ 7).d).take (ρ 5).i.toNat) ((bI (ρ 14).d).take (ρ 12).i.toNat) (ρ 2).i.toNat (ρ 3).i.toNat (ρ 10).i.toNat }] }
def zBox (r : Nat) : SH := .cells r 160 [.vint .i64 (.lit 0), .vint .i64 (.lit 0), .vnils]
def boxM (r a b s l c : Nat) : SH := .cells r 160 [.vint .i64 (.var a), .vint .i64 (.var b), .vslice s (.lit 0) (.var l) (.var c) 1]
def prodHp : List SH := [fHp 1006, zBox 1009, boxM 1007 2 3 4 5 6, boxM 1008 9 10 11 12 13, boxM 1005 2 10 1001 1002 1003, bHp 1001 1004 1003]
def prodEnv : List (Nat × SV) := [(0, fArg), (6, .one (.vptr 1009 (.lit 0) 3 0)), (4, .one (.vptr 1007 (.lit 0) 3 0)), (5, .one (.vptr 1008 (.lit 0) 3 0)), (8, .one (.vptr 1005 (.lit 0) 3 0)), (36, iv .i64 (.var 2)), (37, iv .i64 (.var 1000))]
def prodInv (ρ : Env) (t : Int) : Prop := validM (ρ 2).i (ρ 3).i (ρ 5).i ∧ validM (ρ 9).i (ρ 10).i (ρ 12).i ∧ (ρ 3).i = (ρ 9).i ∧ fieldD (ρ 1006).d ∧ matOk (ρ 2).i (ρ 10).i (ρ 1002).i (ρ 1003).i (ρ 1004).d ∧ (ρ 1002).i = (ρ 1004).d.length ∧ bI (ρ 1004).d = prodN ((bI (ρ 7).d).take (ρ 5).i.toNat) ((bI (ρ 14).d).take (ρ 12).i.toNat) (ρ 2).i.toNat (ρ 3).i.toNat (ρ 10).i.toNat t.toNat
def prod49I : Inv := { key := 9, nv := 10, env := prodEnv, heap := prodHp, inv := (fun ρ => 0 ≤ (ρ 1000).i ∧ (ρ 1000).i ≤ (ρ 2).i ∧ prodInv ρ ((ρ 1000).i * (ρ 3).i)), mu := (fun ρ => ((ρ 2).i - (ρ 1000).i).toNat) }
/-- 1009 the round, 1010 .. 1012 the row's place, length and capacity. -/
def prod49J : Inv := { key := 12, nv := 14, env := prodEnv ++ [(9, iv .i64 (.var 1000)), (42, bSl 4 1011 1012 1013), (43, iv .i64 (.var 1012)), (44, iv .i64 (.var 1010))], heap := prodHp, inv := (fun ρ => 0 ≤ (ρ 1000).i ∧ (ρ 1000).i < (ρ 2).i ∧ 0 ≤ (ρ 1010).i ∧ (ρ 1010).i ≤ (ρ 3).i ∧ (ρ 1011).i = (ρ 1000).i * (ρ 3).i ∧ (ρ 1012).i = (ρ 3).i ∧ prodInv ρ ((ρ 1000).i * (ρ 3).i + (ρ 1010).i) ∧ (ρ 1000).i = (ρ 26).i), mu := (fun ρ => ((ρ 3).i - (ρ 1010).i).toNat) }
end Go.Eng

set_option linter.unusedSimpArgs false
set_option linter.unusedVariables false
namespace Go.Eng
open Go
/-! ### Writers -/
def wStr : Nat := 138
def wrA : SV := .one (.vptr 0 (.lit 0) 3 0)
def wCells (l f r n c : Nat) : SH := .cells 0 wStr [.vint .i64 (.var l), .vbool (.var f), .vslice r (.lit 0) (.var n) (.var c) 1]
/-- What a Writer is: its limit, whether it failed, what it contains. -/
def wOk (lim : Int) (n c : Int) (d : List (List Value)) : Prop := 0 ≤ lim ∧ lim < 9223372036854775808 ∧ n = d.length ∧ n ≤ lim ∧ allB d
def wFull (lim : Int) (f : Bool) (m : List Int) (k : Int) : Bool := f || decide (lim - m.length < k)
/-- After bytes s were appended. -/
def wThen (lim : Int) (f : Bool) (m s : List Int) : Bool × List Int := if wFull lim f m s.length then (true, m) else (false, m ++ s)
def wHeap (l f r n c d : Nat) : List SH := [wCells l f r n c, bHp r d c]
def roomC : Ctr := { fn := 113, nv := 8, args := [wrA, iv .i64 (.var 7)], heap := wHeap 1 2 3 4 5 6, ro := [], pre := fun ρ => wOk (ρ 1).i (ρ 4).i (ρ 5).i (ρ 6).d ∧ 0 ≤ (ρ 7).i ∧ (ρ 7).i < 1152921504606846976, alts := [
  { k := 2, ret := .one (.vbool (.var 8)), heap := wHeap 1 9 3 4 5 6, post := fun ρ => (ρ 9).b = wFull (ρ 1).i (ρ 2).b (bI (ρ 6).d) (ρ 7).i ∧ (ρ 8).b = !(ρ 9).b }] }
def wPost (ρ : Env) (n : Nat) (s : List Int) : Prop := wOk (ρ 1).i (ρ (n + 2)).i (ρ (n + 3)).i (ρ (n + 4)).d ∧ ((ρ n).b, bI (ρ (n + 4)).d) = wThen (ρ 1).i (ρ 2).b (bI (ρ 6).d) s
def numberC : Ctr := { fn := 112, nv := 9, args := [wrA, .one (.vint .u64 (.var 7)), iv .i64 (.var 8)], heap := wHeap 1 2 3 4 5 6, ro := [], pre := fun ρ => wOk (ρ 1).i (ρ 4).i (ρ 5).i (ρ 6).d ∧ (ρ 4).i + 8 ≤ 140737488355328 ∧ 0 ≤ (ρ 8).i ∧ (ρ 8).i ≤ 8 ∧ 0 ≤ (ρ 7).i ∧ (ρ 7).i < 18446744073709551616, alts := [
  { k := 5, ret := .tup [], heap := wHeap 1 9 10 11 12 13, post := fun ρ => wPost ρ 9 (beL (ρ 7).i (ρ 8).i.toNat) }] }
/-- 1000 .. 1003 the bytes, 1004 the number. -/
def numberI : Inv := { key := 2, nv := 5, env := [(0, wrA), (1, .one (.vint .u64 (.var 7))), (2, iv .i64 (.var 8)), (6, iv .i64 (.var 1004))], heap := [.cells 0 wStr [.vint .i64 (.var 1), .vbool (.bl false), .vslice 1000 (.lit 0) (.var 1001) (.var 1002) 1], bHp 1000 1003 1002], inv := (fun ρ => -1 ≤ (ρ 1004).i ∧ (ρ 1004).i < (ρ 8).i ∧ (ρ 1001).i = (ρ 1003).d.length ∧ (ρ 2).b = false ∧ (ρ 8).i ≤ (ρ 1).i - (ρ 4).i ∧ allB (ρ 1003).d ∧ bI (ρ 1003).d = bI (ρ 6).d ++ (beL (ρ 7).i (ρ 8).i.toNat).take ((ρ 8).i - 1 - (ρ 1004).i).toNat), mu := (fun ρ => ((ρ 1004).i + 1).toNat) }
def numFn (fn : Nat) (k : IntKind) (n : Nat) : Ctr := { fn := fn, nv := 8, args := [wrA, .one (.vint k (.var 7))], heap := wHeap 1 2 3 4 5 6, ro := [], pre := fun ρ => wOk (ρ 1).i (ρ 4).i (ρ 5).i (ρ 6).d ∧ (ρ 4).i + 8 ≤ 140737488355328 ∧ 0 ≤ (ρ 7).i ∧ (ρ 7).i < 256 ^ n, alts := [
  { k := 5, ret := .tup [], heap := wHeap 1 8 9 10 11 12, post := fun ρ => wPost ρ 8 (beL (ρ 7).i n) }] }
def u8C : Ctr := numFn 76 .u8 1
def u16C : Ctr := numFn 75 .u16 2
def newWriterC : Ctr := { fn := 49, nv := 1, args := [iv .i64 (.var 0)], heap := [], ro := [], pre := fun _ => True, alts := [
  { k := 4, ret := .one (.vptr 1 (.lit 0) 3 0), heap := [.cells 1 wStr [.vint .i64 (.var 2), .vbool (.bl false), .vnils]], post := fun ρ => (ρ 2).i = max 0 (ρ 0).i }] }
/-- The same where the bytes are a digest of its own. -/
def raw32C : Ctr := { fn := 77, nv := 9, args := [wrA, .one (.vslice 7 (.lit 0) (.lit 32) (.lit 32) 1)], heap := wHeap 1 2 3 4 5 6, ro := [dgHp 7 8], pre := fun ρ => wOk (ρ 1).i (ρ 4).i (ρ 5).i (ρ 6).d ∧ (ρ 4).i + 32 ≤ 140737488355328 ∧ oneRow (ρ 8).d 32 ∧ allM (rowL (ρ 8).d 32), alts := [
  { k := 5, ret := .tup [], heap := wHeap 1 9 10 11 12 13, post := fun ρ => wPost ρ 9 (rowL (ρ 8).d 32) }] }
def kMan : List CK := List.replicate 4 (.int .i64) ++ (List.replicate 32 (.int .u8) ++ [.any])
def manHp (r d : Nat) : SH := .arr r 27 kMan (.var d) (.lit 1)
def rawMC : Ctr := { fn := 77, nv := 9, args := [wrA, .one (.vslice 7 (.lit 4) (.lit 32) (.lit 32) 1)], heap := wHeap 1 2 3 4 5 6, ro := [manHp 7 8], pre := fun ρ => wOk (ρ 1).i (ρ 4).i (ρ 5).i (ρ 6).d ∧ (ρ 4).i + 32 ≤ 140737488355328 ∧ oneRow (ρ 8).d 37 ∧ allM ((rowL (ρ 8).d 36).drop 4), alts := [
  { k := 5, ret := .tup [], heap := wHeap 1 9 10 11 12 13, post := fun ρ => wPost ρ 9 ((rowL (ρ 8).d 36).drop 4) }] }
def bytesC : Ctr := { fn := 52, nv := 7, args := [wrA], heap := [], ro := wHeap 1 2 3 4 5 6, pre := fun ρ => wOk (ρ 1).i (ρ 4).i (ρ 5).i (ρ 6).d ∧ (ρ 4).i ≤ 140737488355328, alts := [
  { k := 0, ret := .tup [(false, [.vnils]), eRet (.lit 3)], heap := [], post := fun ρ => (ρ 2).b = true },
  { k := 4, ret := .tup [(false, [.vslice 7 (.lit 0) (.var 4) (.var 8) 1]), eRet (.lit 0)], heap := [bHp 7 9 8], post := fun ρ => (ρ 2).b = false ∧ (ρ 9).d = (ρ 6).d }] }
def cloneBC : Ctr := { fn := 88, nv := 5, args := [.one (.vslice 0 (.lit 0) (.var 1) (.var 2) 1)], heap := [], ro := [bHp 0 3 4], pre := fun ρ => 0 ≤ (ρ 1).i ∧ (ρ 1).i = (ρ 3).d.length ∧ (ρ 1).i ≤ 140737488355328, alts := [
  { k := 3, ret := .one (.vslice 5 (.lit 0) (.var 1) (.var 6) 1), heap := [bHp 5 7 6], post := fun ρ => (ρ 7).d = (ρ 3).d }] }
end Go.Eng

set_option linter.unusedSimpArgs false
set_option linter.unusedVariables false
namespace Go.Eng
open Go

/-- An identity of a size that is allowed; powers of sizes that are. -/
def identGC : Ctr := { ident40C with pre := fun ρ => 1 ≤ (ρ 0).i ∧ (ρ 0).i ≤ 255, alts := ident40C.alts.drop 1 }
def vanderGC : Ctr := { vander45C with pre := fun ρ => fieldD (ρ 1).d ∧ ¬ vanderBad (ρ 2).i (ρ 3).i, alts := vander45C.alts.drop 1 }
/-- A copy, whose capacity is told of. -/
def cloneKC : Ctr := { clone84C with alts := [{ k := 3, ret := .agg [.vint .i64 (.var 0), .vint .i64 (.var 1), .vslice 7 (.lit 0) (.var 3) (.var 8) 1], heap := [bHp 7 9 8], post := fun ρ => (ρ 9).d = (ρ 5).d.take (ρ 3).i.toNat ∧ ((ρ 9).d.length : Int) ≤ (ρ 8).i }] }
def fullM (r c l cap : Int) (d : Rows') : Prop := matOk r c l cap d ∧ l = d.length
def elim83C : Ctr := { fn := 140, nv := 16, args := [fArg, argA, argB], heap := [fHp 1, bHp 4 7 8, bHp 11 14 15], ro := [], pre := fun ρ => fieldD (ρ 1).d ∧ fullM (ρ 2).i (ρ 3).i (ρ 5).i (ρ 6).i (ρ 7).d ∧ fullM (ρ 9).i (ρ 10).i (ρ 12).i (ρ 13).i (ρ 14).d ∧ (ρ 9).i = (ρ 2).i, alts := [
  { k := 4, ret := iv .i64 (.var 16), heap := [fHp 17, bHp 4 18 8, bHp 11 19 15], post := fun ρ => fieldD (ρ 17).d ∧ fullM (ρ 2).i (ρ 3).i (ρ 5).i (ρ 6).i (ρ 18).d ∧ fullM (ρ 9).i (ρ 10).i (ρ 12).i (ρ 13).i (ρ 19).d ∧ 0 ≤ (ρ 16).i ∧ (ρ 16).i ≤ (ρ 2).i ∧ (bI (ρ 18).d, bI (ρ 19).d, (ρ 16).i.toNat) = elimN (ρ 2).i.toNat (ρ 3).i.toNat (ρ 10).i.toNat (bI (ρ 7).d) (bI (ρ 14).d) (ρ 3).i.toNat }] }
def elimHp : List SH := [fHp 1002, boxM 1003 2 3 4 5 6, boxM 1004 9 10 11 12 13, bHp 4 1005 8, bHp 11 1006 15]
def elimEnv : List (Nat × SV) := [(0, fArg), (4, .one (.vptr 1003 (.lit 0) 3 0)), (5, .one (.vptr 1004 (.lit 0) 3 0)), (7, iv .i64 (.var 1000)), (8, iv .i64 (.var 1001))]
/-- The matrices are in order; the rank and the column. -/
def elimW (r ca cb l1 c1 l2 c2 rank c : Int) (f da db : Rows') : Prop := fieldD f ∧ fullM r ca l1 c1 da ∧ fullM r cb l2 c2 db ∧ 0 ≤ rank ∧ rank ≤ r ∧ 0 ≤ c ∧ c ≤ ca
def elimO (r ca cb l1 c1 l2 c2 rank c : Int) (f da db a0 b0 : Rows') : Prop := elimW r ca cb l1 c1 l2 c2 rank c f da db ∧ (bI da, bI db, rank.toNat) = elimN r.toNat ca.toNat cb.toNat (bI a0) (bI b0) c.toNat
def elim83I : Inv := { key := 3, nv := 7, env := elimEnv, heap := elimHp, inv := (fun ρ => elimO (ρ 2).i (ρ 3).i (ρ 10).i (ρ 5).i (ρ 6).i (ρ 12).i (ρ 13).i (ρ 1000).i (ρ 1001).i (ρ 1002).d (ρ 1005).d (ρ 1006).d (ρ 7).d (ρ 14).d), mu := (fun ρ => ((ρ 3).i - (ρ 1001).i).toNat) }
/-- 1007 the row that is looked at. -/
def elimP (r ca cb l1 c1 l2 c2 rank c p : Int) (f da db a0 b0 : Rows') : Prop := elimO r ca cb l1 c1 l2 c2 rank c f da db a0 b0 ∧ rank < r ∧ c < ca ∧ rank ≤ p ∧ p ≤ r ∧ pivF (bI da) ca.toNat c.toNat p.toNat (r.toNat - p.toNat) = pivF (bI da) ca.toNat c.toNat rank.toNat (r.toNat - rank.toNat)
def elim83J : Inv := { key := 6, nv := 8, env := elimEnv ++ [(9, iv .i64 (.var 1007))], heap := elimHp, inv := (fun ρ => elimP (ρ 2).i (ρ 3).i (ρ 10).i (ρ 5).i (ρ 6).i (ρ 12).i (ρ 13).i (ρ 1000).i (ρ 1001).i (ρ 1007).i (ρ 1002).d (ρ 1005).d (ρ 1006).d (ρ 7).d (ρ 14).d ∧ (ρ 1001).i = (ρ 19).i), mu := (fun ρ => ((ρ 2).i - (ρ 1007).i).toNat) }
/-- 1007 the row from which is taken. -/
def elimQ (r ca cb l1 c1 l2 c2 rank c i : Int) (f da db a0 b0 : Rows') : Prop :=
  elimW r ca cb l1 c1 l2 c2 rank c f da db ∧ rank < r ∧ c < ca ∧ 0 ≤ i ∧ i ≤ r ∧ ∃ s, s = elimN r.toNat ca.toNat cb.toNat (bI a0) (bI b0) c.toNat ∧ s.2.2 = rank.toNat ∧
    pivF s.1 ca.toNat c.toNat rank.toNat (r.toNat - rank.toNat) ≠ r.toNat ∧
    (bI da, bI db) = elimRows ca.toNat cb.toNat rank.toNat c.toNat (elimMid r.toNat ca.toNat cb.toNat c.toNat s).1 (elimMid r.toNat ca.toNat cb.toNat c.toNat s).2 i.toNat
def elim83K : Inv := { key := 16, nv := 8, env := elimEnv ++ [(97, iv .i64 (.var 2)), (98, iv .i64 (.var 1007))], heap := elimHp, inv := (fun ρ => elimQ (ρ 2).i (ρ 3).i (ρ 10).i (ρ 5).i (ρ 6).i (ρ 12).i (ρ 13).i (ρ 1000).i (ρ 1001).i (ρ 1007).i (ρ 1002).d (ρ 1005).d (ρ 1006).d (ρ 7).d (ρ 14).d ∧ (ρ 1001).i = (ρ 19).i), mu := (fun ρ => ((ρ 2).i - (ρ 1007).i).toNat) }
/-- The elimination of a square matrix beside the identity. -/
def invE (m : List Int) (n : Nat) : List Int × List Int × Nat := elimN n n n m (identTo n n) n
def inverse55C : Ctr := { fn := 127, nv := 9, args := [fArg, argA], heap := [fHp 1], ro := [bHp 4 7 8], pre := fun ρ => fieldD (ρ 1).d ∧ 0 ≤ (ρ 5).i ∧ (ρ 5).i ≤ (ρ 6).i ∧ (ρ 5).i ≤ (ρ 7).d.length ∧ allB (ρ 7).d, alts := [
  { k := 2, ret := .tup [nilM, eRet (.var 9)], heap := [fHp 10], post := fun ρ => fieldD (ρ 10).d ∧ ((¬ validM (ρ 2).i (ρ 3).i (ρ 5).i ∧ (ρ 9).i = 2) ∨ (validM (ρ 2).i (ρ 3).i (ρ 5).i ∧ (ρ 2).i ≠ (ρ 3).i ∧ (ρ 9).i = 10) ∨ (validM (ρ 2).i (ρ 3).i (ρ 5).i ∧ (ρ 2).i = (ρ 3).i ∧ (invE ((bI (ρ 7).d).take (ρ 5).i.toNat) (ρ 2).i.toNat).2.2 < (ρ 2).i.toNat ∧ (ρ 9).i = 11)) },
  { k := 5, ret := .tup [mRet (.var 2) (.var 2) 9 10 11, eRet (.lit 0)], heap := [fHp 12, bHp 9 13 11], post := fun ρ => fieldD (ρ 12).d ∧ validM (ρ 2).i (ρ 3).i (ρ 5).i ∧ (ρ 2).i = (ρ 3).i ∧ fullM (ρ 2).i (ρ 2).i (ρ 10).i (ρ 11).i (ρ 13).d ∧ (invE ((bI (ρ 7).d).take (ρ 5).i.toNat) (ρ 2).i.toNat).2.2 = (ρ 2).i.toNat ∧ bI (ρ 13).d = (invE ((bI (ρ 7).d).take (ρ 5).i.toNat) (ρ 2).i.toNat).2.1 }] }
def topE (k total : Nat) : List Int × List Int × Nat := invE ((vanderL total k).take (k * k)) k
def genL (k total : Nat) : List Int := prodL (vanderL total k) (topE k total).2.1 total k k
def gen35C : Ctr := { fn := 105, nv := 4, args := [fArg, iv .i64 (.var 2), iv .i64 (.var 3)], heap := [fHp 1], ro := [], pre := fun ρ => fieldD (ρ 1).d, alts := [
  { k := 1, ret := .tup [nilM, eRet (.lit 2)], heap := [fHp 4], post := fun ρ => fieldD (ρ 4).d ∧ (sizesB (ρ 2).i (ρ 3).i = true → (topE (ρ 2).i.toNat (ρ 3).i.toNat).2.2 < (ρ 2).i.toNat) },
  { k := 6, ret := .tup [mRet (.var 3) (.var 2) 4 5 6, eRet (.lit 0)], heap := [fHp 7, bHp 4 8 6, .abs 9 2], post := fun ρ => fieldD (ρ 7).d ∧ sizesB (ρ 2).i (ρ 3).i = true ∧ fullM (ρ 3).i (ρ 2).i (ρ 5).i (ρ 6).i (ρ 8).d ∧ (topE (ρ 2).i.toNat (ρ 3).i.toNat).2.2 = (ρ 2).i.toNat ∧ bI (ρ 8).d = genL (ρ 2).i.toNat (ρ 3).i.toNat }] }
end Go.Eng

set_option linter.unusedSimpArgs false
set_option linter.unusedVariables false
namespace Go.Eng
open Go

/-- A generator of sizes that are allowed, if the square of the first rows has full rank. -/
def genGC : Ctr := { gen35C with pre := fun ρ => fieldD (ρ 1).d ∧ sizesB (ρ 2).i (ρ 3).i = true ∧ (topE (ρ 2).i.toNat (ρ 3).i.toNat).2.2 = (ρ 2).i.toNat, alts := gen35C.alts.drop 1 }
/-! ### Encode, plainly -/
def fullL (data : List Int) (n : Nat) : List Int := data ++ List.replicate (n - data.length) 0
def pieceLen (k len : Nat) : Nat := (len + k - 1) / k
def pieceN (g full : List Int) (k l i : Nat) : Nat → List Int
  | 0 => List.replicate l 0
  | j + 1 => addToL (pieceN g full k l i j) 0 (seg full (j * l) l) (g.getD (i * k + j) 0)
/-- Piece i of an object. -/
def encP (k total : Nat) (data : List Int) (i : Nat) : List Int :=
  pieceN (genL k total) (fullL data (k * pieceLen k data.length)) k (pieceLen k data.length) i k
def kPiece : List CK := [.int .i64, .any]
/-- The first n pieces. -/
def encAt (h : Hp) (D : Rows') (n : Nat) (f : Nat → List Int) : Prop := ∀ j, j < n → ∃ v d, D[j]? = some [.int .i64 j, v] ∧ Rd h kB v d ∧ bI d = f j ∧ allB d
def encode31C : Ctr := { fn := 72, nv := 9, args := [fArg, iv .i64 (.var 2), iv .i64 (.var 3), .one (.vslice 4 (.lit 0) (.var 5) (.var 6) 1)], heap := [fHp 1], ro := [bHp 4 7 8], pre := fun ρ => fieldD (ρ 1).d ∧ (ρ 5).i = (ρ 7).d.length ∧ allB (ρ 7).d ∧ (sizesB (ρ 2).i (ρ 3).i = true → (topE (ρ 2).i.toNat (ρ 3).i.toNat).2.2 = (ρ 2).i.toNat), alts := [
  { k := 2, ret := .tup [(false, [.vnils]), eRet (.var 9)], heap := [fHp 10], post := fun ρ => fieldD (ρ 10).d ∧ ((sizesB (ρ 2).i (ρ 3).i = false ∧ (ρ 9).i = 2) ∨ (sizesB (ρ 2).i (ρ 3).i = true ∧ 8192 < (ρ 5).i ∧ (ρ 9).i = 3)) },
  { k := 5, ret := .tup [(false, [.vslice 9 (.lit 0) (.var 3) (.var 10) 2]), eRet (.lit 0)], heap := [fHp 11, .arr 9 45 kPiece (.var 12) (.var 10), .abs 13 2], post := fun ρ => fieldD (ρ 11).d ∧ sizesB (ρ 2).i (ρ 3).i = true ∧ (ρ 5).i ≤ 8192 ∧ (ρ 12).d.length = (ρ 3).i.toNat ∧ encAt (ρ 13).h (ρ 12).d (ρ 3).i.toNat (encP (ρ 2).i.toNat (ρ 3).i.toNat (bI (ρ 7).d)) }] }
def encHp : List SH := [fHp 1008, boxM 1004 3 2 1009 1010 1011, bHp 1009 1012 1011, bHp 1001 1013 1003, .arr 1005 45 kPiece (.var 1014) (.var 1006)]
def encEnv : List (Nat × SV) := [(0, fArg), (10, iv .i64 (.var 1000)), (12, .one (.vslice 1001 (.lit 0) (.var 1002) (.var 1003) 1)), (13, .one (.vptr 1004 (.lit 0) 3 0)), (15, .one (.vslice 1005 (.lit 0) (.var 3) (.var 1006) 2)), (53, iv .i64 (.var 3)), (54, iv .i64 (.var 1007))]
/-- What stands while pieces are made: the piece's length, the object with its zeros, the generator. -/
def encW (k total len l lf cf lg cg i : Int) (f dg df D data : Rows') : Prop :=
  fieldD f ∧ sizesB k total = true ∧ len ≤ 8192 ∧ len = data.length ∧ allB data ∧ l = (pieceLen k.toNat data.length : Nat) ∧ l ≤ 8192 ∧ lf = k * l ∧ lf = df.length ∧ allB df ∧ bI df = fullL (bI data) (k.toNat * l.toNat) ∧
    fullM total k lg cg dg ∧ bI dg = genL k.toNat total.toNat ∧ D.length = total.toNat ∧ (∀ row ∈ D, row.length = 2) ∧ 0 ≤ i ∧ i ≤ total
def encode31I : Inv := { key := 13, nv := 16, env := encEnv, heap := encHp ++ [.abs 1015 2], inv := (fun ρ => encW (ρ 2).i (ρ 3).i (ρ 5).i (ρ 1000).i (ρ 1002).i (ρ 1003).i (ρ 1010).i (ρ 1011).i (ρ 1007).i (ρ 1008).d (ρ 1012).d (ρ 1013).d (ρ 1014).d (ρ 7).d ∧ encAt (ρ 1015).h (ρ 1014).d (ρ 1007).i.toNat (encP (ρ 2).i.toNat (ρ 3).i.toNat (bI (ρ 7).d))), mu := (fun ρ => ((ρ 3).i - (ρ 1007).i).toNat) }
/-- 1016 .. 1018 the piece, 1019 .. 1021 the generator's row, 1022 the round. -/
def encode31J : Inv := { key := 17, nv := 23, env := encEnv ++ [(16, iv .i64 (.var 1007)), (17, .one (.vslice 1016 (.lit 0) (.var 1000) (.var 1017) 1)), (61, bSl 1009 1019 1020 1021), (62, iv .i64 (.var 1020)), (63, iv .i64 (.var 1022))], heap := encHp ++ [bHp 1016 1018 1017, .abs 1015 2], inv := (fun ρ => encW (ρ 2).i (ρ 3).i (ρ 5).i (ρ 1000).i (ρ 1002).i (ρ 1003).i (ρ 1010).i (ρ 1011).i (ρ 1007).i (ρ 1008).d (ρ 1012).d (ρ 1013).d (ρ 1014).d (ρ 7).d ∧ encAt (ρ 1015).h (ρ 1014).d (ρ 1007).i.toNat (encP (ρ 2).i.toNat (ρ 3).i.toNat (bI (ρ 7).d)) ∧ (ρ 1007).i = (ρ 29).i ∧ (ρ 1007).i < (ρ 3).i ∧ (ρ 1019).i = (ρ 1007).i * (ρ 2).i ∧ (ρ 1020).i = (ρ 2).i ∧ 0 ≤ (ρ 1022).i ∧ (ρ 1022).i ≤ (ρ 2).i ∧ (ρ 1018).d.length = (ρ 1000).i.toNat ∧ allB (ρ 1018).d ∧ bI (ρ 1018).d = pieceN (bI (ρ 1012).d) (bI (ρ 1013).d) (ρ 2).i.toNat (ρ 1000).i.toNat (ρ 1007).i.toNat (ρ 1022).i.toNat), mu := (fun ρ => ((ρ 2).i - (ρ 1022).i).toNat) }
end Go.Eng

set_option linter.unusedSimpArgs false
set_option linter.unusedVariables false
namespace Go.Eng
open Go
def sizes3 (k n t : Int) : Bool := decide (1 ≤ k ∧ k ≤ n ∧ n ≤ t ∧ t ≤ 255)
def manOk (k n t s l : Int) : Bool := sizes3 k n t && decide (0 ≤ s ∧ s ≤ 8192 ∧ l = t)
def sizes3C : Ctr := { fn := 71, nv := 3, args := [iv .i64 (.var 0), iv .i64 (.var 1), iv .i64 (.var 2)], heap := [], ro := [], pre := fun _ => True, alts := [
  { k := 1, ret := .one (.vbool (.var 3)), heap := [], post := fun ρ => (ρ 3).b = sizes3 (ρ 0).i (ρ 1).i (ρ 2).i }] }
/-- A manifest: four numbers, a digest, digests. -/
def manT (k n t s o r l c : Nat) : List T := [.vint .i64 (.var k), .vint .i64 (.var n), .vint .i64 (.var t), .vint .i64 (.var s)] ++ (cellsT .u8 o 32 ++ [.vslice r (.lit 0) (.var l) (.var c) 32])
def dgsHp (r d c : Nat) : SH := .arr r 24 k32 (.var d) (.var c)
def manV : SV := .agg (manT 0 1 2 3 4 5 6 7)
def rowB (row : List Value) : List Int := (List.range 32).map fun j => rowI row j
def dgs (d : List (List Value)) : List (List Int) := d.map rowB
def dgsOk (d : List (List Value)) : Prop := ∀ row ∈ d, row.length = 32 ∧ allM (rowB row)
def checkMC : Ctr := { fn := 37, nv := 10, args := [manV], heap := [], ro := [dgsHp 5 8 9], pre := fun ρ => 0 ≤ (ρ 6).i, alts := [
  { k := 1, ret := iv .i64 (.var 10), heap := [], post := fun ρ => (ρ 10).i = if manOk (ρ 0).i (ρ 1).i (ρ 2).i (ρ 3).i (ρ 6).i then 0 else 2 }] }
def pieceIn (i : Int) : List Int := [(i.fdiv 256) % 256, i % 256]
def pieceDgC : Ctr := { fn := 41, nv := 9, ip := [gIp 7], args := [iv .i64 (.var 0), bSl 1 2 3 4], heap := [], ro := [bHp 1 5 6, gHp 7 8], pre := fun ρ => 0 ≤ (ρ 2).i ∧ 0 ≤ (ρ 3).i ∧ (ρ 3).i ≤ (ρ 4).i ∧ (ρ 3).i < 576460752303423488 ∧ (ρ 2).i + (ρ 3).i ≤ (ρ 5).d.length ∧ allB (ρ 5).d ∧ gOk ρ 7 8 gR, alts := [
  { k := 1, ret := dgV 9, heap := [], post := fun ρ => rowL (ρ 9).d 32 = sha (pieceIn (ρ 0).i ++ segB (ρ 5).d (ρ 2).i (ρ 3).i) }] }
def manHead (k n t s : Int) (o : List Int) : List Int := beL 19713 2 ++ (beL (k % 256) 1 ++ (beL (n % 256) 1 ++ (beL (t % 256) 1 ++ (beL (s % 65536) 2 ++ o))))
def encManC : Ctr := { fn := 28, nv := 10, args := [manV], heap := [], ro := [dgsHp 5 8 9], pre := fun ρ => 0 ≤ (ρ 6).i ∧ (ρ 6).i = (ρ 8).d.length ∧ allM (rowL (ρ 4).d 32) ∧ dgsOk (ρ 8).d, alts := [
  { k := 0, ret := .tup [(false, [.vnils]), eRet (.lit 2)], heap := [], post := fun ρ => manOk (ρ 0).i (ρ 1).i (ρ 2).i (ρ 3).i (ρ 6).i = false },
  { k := 4, ret := .tup [(false, [.vslice 10 (.lit 0) (.var 11) (.var 12) 1]), eRet (.lit 0)], heap := [bHp 10 13 12], post := fun ρ => manOk (ρ 0).i (ρ 1).i (ρ 2).i (ρ 3).i (ρ 6).i = true ∧ (ρ 11).i = (ρ 13).d.length ∧ allB (ρ 13).d ∧ bI (ρ 13).d = manHead (ρ 0).i (ρ 1).i (ρ 2).i (ρ 3).i (rowL (ρ 4).d 32) ++ (dgs (ρ 8).d).flatten }] }
/-- 1000 .. 1006 the Writer, 1007 the number. -/
def encManI : Inv := { key := 12, nv := 8, env := [(5, .one (.vptr 1000 (.lit 0) 3 0)), (45, .one (.vslice 5 (.lit 0) (.var 6) (.var 7) 32)), (46, iv .i64 (.var 6)), (47, iv .i64 (.var 1007))], heap := [.cells 1000 wStr [.vint .i64 (.var 1001), .vbool (.var 1002), .vslice 1003 (.lit 0) (.var 1004) (.var 1005) 1], bHp 1003 1006 1005], inv := (fun ρ => manOk (ρ 0).i (ρ 1).i (ρ 2).i (ρ 3).i (ρ 6).i = true ∧ 0 ≤ (ρ 1007).i ∧ (ρ 1007).i ≤ (ρ 6).i ∧ (ρ 1001).i = 39 + 32 * (ρ 2).i ∧ (ρ 1002).b = false ∧ wOk (ρ 1001).i (ρ 1004).i (ρ 1005).i (ρ 1006).d ∧ bI (ρ 1006).d = manHead (ρ 0).i (ρ 1).i (ρ 2).i (ρ 3).i (rowL (ρ 4).d 32) ++ ((dgs (ρ 8).d).take (ρ 1007).i.toNat).flatten), mu := (fun ρ => ((ρ 6).i - (ρ 1007).i).toNat) }
/-! ### Make -/
def manZ (r : Nat) : SH := .cells r 27 (List.replicate 4 (.vint .i64 (.lit 0)) ++ (List.replicate 32 (.vint .u8 (.lit 0)) ++ [.vnils]))
def manZV : Bool × List T := (true, List.replicate 4 (.vint .i64 (.lit 0)) ++ (List.replicate 32 (.vint .u8 (.lit 0)) ++ [.vnils]))
def madeAt (f : Nat → List Int) (n : Nat) : List (List Int) := (List.range n).map fun (i : Nat) => sha (pieceIn i ++ f i)
def makeC : Ctr := { fn := 23, nv := 12, ip := [gIp 10], ow := [1003], args := [fArg, iv .i64 (.var 2), iv .i64 (.var 3), iv .i64 (.var 4), .one (.vslice 5 (.lit 0) (.var 6) (.var 7) 1)], heap := [fHp 1], ro := [bHp 5 8 9, gHp 10 11], pre := fun ρ => fieldD (ρ 1).d ∧ (ρ 6).i = (ρ 8).d.length ∧ (ρ 6).i ≤ (ρ 7).i ∧ allB (ρ 8).d ∧ gOk ρ 10 11 gR ∧ (sizesB (ρ 2).i (ρ 4).i = true → (topE (ρ 2).i.toNat (ρ 4).i.toNat).2.2 = (ρ 2).i.toNat), alts := [
  { k := 2, ret := .tup [manZV, (false, [.vnils]), eRet (.var 12)], heap := [fHp 13], post := fun ρ => fieldD (ρ 13).d ∧ ((sizes3 (ρ 2).i (ρ 3).i (ρ 4).i = false ∧ (ρ 12).i = 2) ∨ (sizes3 (ρ 2).i (ρ 3).i (ρ 4).i = true ∧ 8192 < (ρ 6).i ∧ (ρ 12).i = 3)) },
  { k := 9, ret := .tup [(true, manT 2 3 4 6 12 13 4 14), (false, [.vslice 15 (.lit 0) (.var 4) (.var 16) 2]), eRet (.lit 0)], heap := [fHp 17, dgsHp 13 18 14, .arr 15 45 kPiece (.var 19) (.var 16), .abs 20 2], post := fun ρ => fieldD (ρ 17).d ∧ sizes3 (ρ 2).i (ρ 3).i (ρ 4).i = true ∧ (ρ 6).i ≤ 8192 ∧ (ρ 19).d.length = (ρ 4).i.toNat ∧ encAt (ρ 20).h (ρ 19).d (ρ 4).i.toNat (encP (ρ 2).i.toNat (ρ 4).i.toNat (bI (ρ 8).d)) ∧ rowL (ρ 12).d 32 = sha (bI (ρ 8).d) ∧ dgsOk (ρ 18).d ∧ dgs (ρ 18).d = madeAt (encP (ρ 2).i.toNat (ρ 4).i.toNat (bI (ρ 8).d)) (ρ 4).i.toNat }] }
def makeI : Inv := { key := 10, nv := 12, env := [(0, fArg), (10, .one (.vptr 1000 (.lit 0) 37 0)), (13, .one (.vslice 1001 (.lit 0) (.var 4) (.var 1009) 2)), (15, .one (.vptr 1002 (.lit 0) 37 0)), (47, .one (.vslice 1001 (.lit 0) (.var 4) (.var 1009) 2)), (48, iv .i64 (.var 4)), (49, iv .i64 (.var 1005))], heap := [fHp 1010, manZ 1000, .cells 1002 27 (manT 2 3 4 6 1003 1004 1005 1006), dgsHp 1004 1007 1006, .arr 1001 45 kPiece (.var 1008) (.var 1009), .abs 1011 2], inv := (fun ρ => fieldD (ρ 1010).d ∧ sizes3 (ρ 2).i (ρ 3).i (ρ 4).i = true ∧ (ρ 6).i ≤ 8192 ∧ 0 ≤ (ρ 1005).i ∧ (ρ 1005).i ≤ (ρ 4).i ∧ (ρ 1008).d.length = (ρ 4).i.toNat ∧ encAt (ρ 1011).h (ρ 1008).d (ρ 4).i.toNat (encP (ρ 2).i.toNat (ρ 4).i.toNat (bI (ρ 8).d)) ∧ rowL (ρ 1003).d 32 = sha (bI (ρ 8).d) ∧ (ρ 1005).i = (ρ 1007).d.length ∧ dgsOk (ρ 1007).d ∧ dgs (ρ 1007).d = madeAt (encP (ρ 2).i.toNat (ρ 4).i.toNat (bI (ρ 8).d)) (ρ 1005).i.toNat), mu := (fun ρ => ((ρ 4).i - (ρ 1005).i).toNat) }
def knownC : Ctr := { fn := 22, nv := 2, ip := [gIp 0], args := [], heap := [], ro := [gHp 0 1], pre := fun ρ => gOk ρ 0 1 gR, alts := [{ k := 0, ret := .one (.vbool (.bl true)), heap := [], post := fun _ => True }] }
end Go.Eng

set_option linter.unusedSimpArgs false
set_option linter.unusedVariables false
namespace Go.Eng
open Go Go.Proofs
theorem Rd_unique {h : Hp} {pat : List CK} {v : Value} {d d' : Rows'} (h1 : Rd h pat v d) (h2 : Rd h pat v d') : d = d' := by
  rcases h1 with ⟨a, e1, rfl⟩ | ⟨b, o, cap, c, ty, fr, e1, l1, hb1, r1⟩ <;> rcases h2 with ⟨a', e2, rfl⟩ | ⟨b', o', cap', c', ty', fr', e2, l2, hb2, r2⟩
  · rfl
  · rw [e1] at e2
    simp only [Value.slice.injEq] at e2
    exact (List.length_eq_zero_iff.1 e2.2.1.symm).symm
  · rw [e1] at e2
    simp only [Value.slice.injEq] at e2
    exact List.length_eq_zero_iff.1 e2.2.1
  · rw [e1] at e2
    simp only [Value.slice.injEq, Option.some.injEq, Addr.mk.injEq] at e2
    obtain ⟨⟨rfl, rfl, _⟩, hl, rfl⟩ := e2
    rw [hb1] at hb2
    simp only [Option.some.injEq, Obj.cells.injEq] at hb2
    obtain ⟨rfl, rfl, rfl⟩ := hb2
    apply List.ext_getElem hl
    intro i i1 i2
    obtain ⟨f1, g1⟩ := r1 i _ (List.getElem?_eq_getElem i1)
    obtain ⟨f2, g2⟩ := r2 i _ (List.getElem?_eq_getElem i2)
    apply List.ext_getElem (by rw [f1.1, f2.1])
    intro k k1 k2
    have a1 := g1 k _ (List.getElem?_eq_getElem k1)
    have a2 := g2 k _ (List.getElem?_eq_getElem k2)
    rw [a1] at a2
    exact Option.some.inj a2
/-- What a slice of bytes reads as. -/
noncomputable def rdL (h : Hp) (v : Value) : List Int := open Classical in if hx : ∃ d, Rd h kB v d then bI hx.choose else []
theorem rdL_eq {h : Hp} {v : Value} {d : Rows'} (hr : Rd h kB v d) : rdL h v = bI d := by
  have hx : ∃ d, Rd h kB v d := ⟨d, hr⟩
  unfold rdL
  rw [dif_pos hx, Rd_unique hx.choose_spec hr]
end Go.Eng
namespace Go.Proofs
open Go Go.Eng
end Go.Proofs
namespace Go.Eng
open Go Go.Proofs
/-- The first n rows are slices of bytes. -/
def ptOk (h : Hp) (D : Rows') (n : Nat) : Prop := ∀ j, j < n → ∃ v d, D[j]? = some [v] ∧ Rd h kB v d ∧ allB d
noncomputable def ptD (h : Hp) (D : Rows') (j : Nat) : List Int := rdL h (cellV D j 0)
def kPart : List CK := [.any]
end Go.Eng
namespace Go.Proofs
open Go Go.Eng
theorem pt_at {h : Hp} {D : Rows'} {n j : Nat} (hp : ptOk h D n) (hj : j < n) : ∃ v d, D[j]? = some [v] ∧ cellV D j 0 = v ∧ Rd h kB v d ∧ allB d ∧ ptD h D j = bI d := by
  obtain ⟨v, d, e, hr, hb⟩ := hp j hj
  have h1 : cellV D (j : Int) 0 = v := by simp [cellV, e]
  exact ⟨v, d, e, h1, hr, hb, by rw [ptD, h1, rdL_eq hr]⟩
end Go.Proofs

set_option linter.unusedSimpArgs false
set_option linter.unusedVariables false
namespace Go.Eng
open Go
end Go.Eng
namespace Go.Proofs
open Go Go.Eng
theorem wrap64u {x : Int} : IntKind.u64.wrap x = x % 18446744073709551616 := by
  unfold IntKind.wrap
  rfl
end Go.Proofs

set_option linter.unusedSimpArgs false
set_option linter.unusedVariables false
namespace Go.Eng
open Go
/-- Bytes that are an argument. -/
def bS (r : Nat) : SV := .one (.vslice r (.lit 0) (.var (r + 1)) (.var (r + 2)) 1)
def bSHp (r : Nat) : SH := bHp r (r + 3) (r + 4)
def bSIn (ρ : Env) (r : Nat) : Prop := (ρ (r + 1)).i = (ρ (r + 3)).d.length ∧ (ρ (r + 1)).i ≤ 140737488351232 ∧ allB (ρ (r + 3)).d
def w3 (a b c : Int) : Int := arithOf .xor .u8 (arithOf .xor .u8 a b) c
def x3 : List Int → List Int → List Int → List Int
  | a :: al, b :: bl, c :: cl => w3 a b c :: x3 al bl cl
  | _, _, _ => []
def lawTrue : Alt := { k := 0, ret := .one (.vbool (.bl true)), heap := [], post := fun _ => True }
def lawAffineC : Ctr := { fn := 6, nv := 17, ip := [gIp 15], args := [bS 0, bS 5, bS 10], heap := [], ro := [bSHp 0, bSHp 5, bSHp 10, gHp 15 16], pre := fun ρ => bSIn ρ 0 ∧ bSIn ρ 5 ∧ bSIn ρ 10 ∧ gOk ρ 15 16 gR, alts := [lawTrue] }
def lawAffineI : Inv := { key := 5, nv := 5, env := [(0, bS 0), (1, bS 5), (2, bS 10), (7, .one (.vslice 1000 (.lit 0) (.var 1001) (.var 1002) 1)), (8, iv .i64 (.var 1003))], heap := [bHp 1000 1004 1002], inv := (fun ρ => 0 ≤ (ρ 1003).i ∧ (ρ 1003).i ≤ (ρ 1).i ∧ (ρ 1).i ≤ 20000 ∧ (ρ 6).i = (ρ 1).i ∧ (ρ 11).i = (ρ 1).i ∧ (ρ 1001).i = (ρ 1003).i ∧ (ρ 1001).i = (ρ 1004).d.length ∧ allB (ρ 1004).d ∧ bI (ρ 1004).d = x3 ((bI (ρ 3).d).take (ρ 1003).i.toNat) ((bI (ρ 8).d).take (ρ 1003).i.toNat) ((bI (ρ 13).d).take (ρ 1003).i.toNat)), mu := (fun ρ => ((ρ 1).i - (ρ 1003).i).toNat) }
end Go.Eng

set_option linter.unusedSimpArgs false
set_option linter.unusedVariables false
namespace Go.Eng
open Go Go.Proofs
def i64P (x : Int) : Prop := -9223372036854775808 ≤ x ∧ x < 9223372036854775808
end Go.Eng

set_option linter.unusedSimpArgs false
set_option linter.unusedVariables false
namespace Go.Eng
open Go Go.Proofs
def lawBurstC : Ctr := { fn := 5, nv := 9, ip := [gIp 7, (1005, 9)], args := [bS 0, iv .i64 (.var 5), .one (.vint .u32 (.var 6))], heap := [], ro := [bSHp 0, gHp 7 8], pre := fun ρ => bSIn ρ 0 ∧ i64P (ρ 5).i ∧ (0 ≤ (ρ 6).i ∧ (ρ 6).i < 4294967296) ∧ gOk ρ 7 8 gR, alts := [lawTrue] }
def lawBurstI : Inv := { key := 5, nv := 5, env := [(0, bS 0), (1, iv .i64 (.var 5)), (2, .one (.vint .u32 (.var 6))), (7, .one (.vslice 1000 (.lit 0) (.var 1001) (.var 1002) 1)), (8, iv .i64 (.var 1003))], heap := [bHp 1000 1004 1002], inv := (fun ρ => 0 ≤ (ρ 1003).i ∧ (ρ 1003).i ≤ 4 ∧ 0 ≤ (ρ 5).i ∧ (ρ 5).i + 4 ≤ (ρ 1).i ∧ (ρ 1).i ≤ 20000 ∧ (ρ 6).i ≠ 0 ∧ (ρ 1001).i = (ρ 1004).d.length ∧ allB (ρ 1004).d ∧ bI (ρ 1004).d = mixAt (bI (ρ 3).d) (ρ 5).i.toNat (ρ 6).i (ρ 1003).i.toNat), mu := (fun ρ => (4 - (ρ 1003).i).toNat) }
/-! ### Digits -/
def parseHexC : Ctr := { fn := 55, nv := 1, args := [strV 0], heap := [], ro := [], pre := fun _ => True, alts := [
  { k := 2, ret := .tup [(true, cellsT .u8 1 32), eRet (.var 2)], heap := [], post := fun ρ => parsed (vStr (ρ 0).v) (ρ 2).i (rowL (ρ 1).d 32) }] }
def hexIn (ρ : Env) (r i : Nat) : Prop := 0 ≤ (ρ i).i ∧ (ρ i).i ≤ 64 ∧ (vStr (ρ 0).v).length = 64 ∧ hexAll (vStr (ρ 0).v) (ρ i).i.toNat ∧ oneRow (ρ r).d 32 ∧ rowL (ρ r).d 32 = hexAcc (vStr (ρ 0).v) (ρ i).i.toNat
def parseHexI : Inv := { key := 7, nv := 4, env := [(0, strV 0), (2, dgP 1000), (4, dgP 1001), (18, iv .i64 (.var 1003))], heap := [dgZ 1000, dgHp 1001 1002], inv := (fun ρ => hexIn ρ 1002 1003), mu := (fun ρ => (64 - (ρ 1003).i).toNat) }
def ofDigitsI : Inv := { key := 7, nv := 4, env := [(0, strV 0), (2, dgP 1000), (4, dgP 1001), (5, iv .i64 (.var 1003))], heap := [dgZ 1000, dgHp 1001 1002], inv := (fun ρ => hexIn ρ 1002 1003), mu := (fun ρ => (64 - (ρ 1003).i).toNat) }
def digitI : Inv := { key := 2, nv := 1, env := [(0, .one (.vint .u8 (.var 0))), (3, iv .i64 (.var 1000))], heap := [], inv := (fun ρ => 0 ≤ (ρ 1000).i ∧ (ρ 1000).i ≤ 16 ∧ (hexV (ρ 0).i < 0 ∨ (ρ 1000).i ≤ hexV (ρ 0).i)), mu := (fun ρ => (16 - (ρ 1000).i).toNat) }
def digitsI : Inv := { key := 3, nv := 4, env := [(1, dgP 1000), (3, strV 1002), (4, iv .i64 (.var 1003))], heap := [dgHp 1000 1001], inv := (fun ρ => 0 ≤ (ρ 1003).i ∧ (ρ 1003).i ≤ 32 ∧ oneRow (ρ 1001).d 32 ∧ rowL (ρ 1001).d 32 = rowL (ρ 0).d 32 ∧ vStr (ρ 1002).v = hexL ((rowL (ρ 0).d 32).take (ρ 1003).i.toNat)), mu := (fun ρ => (32 - (ρ 1003).i).toNat) }
def digitC : Ctr := { fn := 89, nv := 1, args := [.one (.vint .u8 (.var 0))], heap := [], ro := [], pre := fun ρ => 0 ≤ (ρ 0).i ∧ (ρ 0).i < 256, alts := [
  { k := 1, ret := iv .i64 (.var 1), heap := [], post := fun ρ => (ρ 1).i = hexV (ρ 0).i }] }
def ofDigitsC : Ctr := { fn := 56, nv := 1, args := [strV 0], heap := [], ro := [], pre := fun _ => True, alts := [
  { k := 2, ret := .tup [(true, cellsT .u8 1 32), eRet (.var 2)], heap := [], post := fun ρ => parsed (vStr (ρ 0).v) (ρ 2).i (rowL (ρ 1).d 32) }] }
def digitsC : Ctr := { fn := 57, nv := 1, args := [dgV 0], heap := [], ro := [], pre := fun ρ => allM (rowL (ρ 0).d 32), alts := [
  { k := 1, ret := strV 1, heap := [], post := fun ρ => vStr (ρ 1).v = hexL (rowL (ρ 0).d 32) }] }
def lawHexC : Ctr := { fn := 12, nv := 4, ip := [gIp 2], args := [dgV 0, strV 1], heap := [], ro := [gHp 2 3], pre := fun ρ => allM (rowL (ρ 0).d 32) ∧ gOk ρ 2 3 gR, alts := [lawTrue] }
def lawHexOnlyC : Ctr := { fn := 13, nv := 3, ip := [gIp 1], args := [strV 0], heap := [], ro := [gHp 1 2], pre := fun ρ => gOk ρ 1 2 gR, alts := [lawTrue] }
/-! ### Parts -/
def lawStreamC : Ctr := { fn := 7, nv := 8, ip := [gIp 6, (1005, 9)], args := [bS 0], heap := [], ro := [.arr 0 22 kPart (.var 3) (.var 4), .abs 5 6, gHp 6 7], pre := fun ρ => (ρ 1).i = (ρ 3).d.length ∧ (ρ 1).i ≤ 5864062014634 ∧ ptOk (ρ 5).h (ρ 3).d (ρ 3).d.length ∧ gOk ρ 6 7 gR, alts := [lawTrue] }
def allS : SV := .one (.vslice 1002 (.lit 0) (.var 1003) (.var 1004) 1)
/-- 1000, 1001 the hash; 1002 .. 1005 all so far; 1006 the number; 1007 what is left over. -/
def streamI : Inv := { key := 8, nv := 8, env := [(0, bS 0), (3, hArg 1000), (4, allS), (5, iv .i64 (.var 1006))], heap := [hHp 1000 1001, bHp 1002 1005 1004, .abs 1007 2], inv := (fun ρ => 0 ≤ (ρ 1006).i ∧ (ρ 1006).i ≤ (ρ 1).i ∧ (ρ 1).i ≤ 200 ∧ (ρ 1003).i = (ρ 1005).d.length ∧ (ρ 1003).i ≤ 20000 ∧ allB (ρ 1005).d ∧ hashOf (ρ 1001).d (bI (ρ 1005).d)), mu := (fun ρ => ((ρ 1).i - (ρ 1006).i).toNat) }
/-- 1008 .. 1011 the part; 1012 the place in it. -/
def streamJ : Inv := { key := 15, nv := 13, env := [(0, bS 0), (3, hArg 1000), (4, allS), (5, iv .i64 (.var 1006)), (6, .one (.vslice 1008 (.lit 0) (.var 1009) (.var 1010) 1)), (7, iv .i64 (.var 1012))], heap := [hHp 1000 1001, bHp 1002 1005 1004, bHp 1008 1011 1010, .abs 1007 2], inv := (fun ρ => 0 ≤ (ρ 1006).i ∧ (ρ 1006).i < (ρ 1).i ∧ (ρ 1).i ≤ 200 ∧ (ρ 1003).i = (ρ 1005).d.length ∧ (ρ 1003).i ≤ 20000 ∧ allB (ρ 1005).d ∧ (ρ 1003).i + (ptD (ρ 5).h (ρ 3).d (ρ 1006).i.toNat).length ≤ 20000 ∧ hashOf (ρ 1001).d (bI (ρ 1005).d ++ ptD (ρ 5).h (ρ 3).d (ρ 1006).i.toNat) ∧ (ρ 1006).i = (ρ 18).i ∧ (ρ 1009).i = (ρ 1011).d.length ∧ (ρ 1009).i ≤ 20000 ∧ 0 ≤ (ρ 1012).i ∧ (ρ 1012).i ≤ (ρ 1009).i), mu := (fun ρ => ((ρ 1009).i - (ρ 1012).i).toNat) }
end Go.Eng
