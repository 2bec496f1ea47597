/- Laws about the field: contracts. -/
import Derived.Test.YtkiheclcmgbmnaaGA
import Derived.Test.YtkiheclcmgbmnaaProg
import Derived.Test.YtkiheclcmgbmnaaGD
import Derived.Test.YtkiheclcmgbmnaaGC
set_option linter.unusedSimpArgs false
set_option linter.unusedVariables false
namespace Go.Eng
open Go

def lawIs (fn nv : Nat) (args : List SV) (ro : List SH) (pre : Env → Prop) : Ctr := { fn := fn, nv := nv, args := args, heap := [], ro := ro, pre := pre, alts := [lawRet] }
def byteP (x : Int) : Prop := 0 ≤ x ∧ x < 256
/-! ### Sizes -/
def len27C : Ctr := { piece26C with fn := 27 }
def len27I : Inv := { key := 4, nv := 1, env := [(0, iv .i64 (.var 0)), (1, iv .i64 (.var 1)), (6, iv .i64 (.var 1000))], heap := [], inv := (fun ρ => ¬ pieceBad (ρ 0).i (ρ 1).i ∧ 0 ≤ (ρ 1000).i ∧ (ρ 1000).i ≤ (ρ 1).i ∧ ((ρ 1000).i = 0 ∨ (ρ 0).i * ((ρ 1000).i - 1) < (ρ 1).i)), mu := (fun ρ => ((ρ 1).i - (ρ 1000).i).toNat) }
def lawSizesC : Ctr := lawIs 3 2 [iv .i64 (.var 0), iv .i64 (.var 1)] [] fun _ => True
/-! ### Products bit by bit -/
def timesStep (b : Int) (i : Nat) (s : Int × Int) : Int × Int :=
  (if arithOf .and .u8 s.1 128 = 0 then arithOf .shl .u8 s.1 1 else arithOf .xor .u8 (arithOf .shl .u8 s.1 1) 29,
   if arithOf .and .u8 b (arithOf .shl .u8 1 i) = 0 then s.2 else arithOf .xor .u8 s.2 s.1)
def timesN (a b : Int) : Nat → Int × Int
  | 0 => (a, 0)
  | i + 1 => timesStep b i (timesN a b i)
def times53C : Ctr := { fn := 53, nv := 2, args := [iv .u8 (.var 0), iv .u8 (.var 1)], heap := [], ro := [], pre := fun ρ => byteP (ρ 0).i ∧ byteP (ρ 1).i, alts := [{ k := 1, ret := iv .u8 (.var 2), heap := [], post := fun ρ => (ρ 2).i = mulF (ρ 0).i (ρ 1).i }] }
/-- 1000 the first factor, 1001 the sum, 1002 the round. -/
def times53I : Inv := { key := 3, nv := 3, env := [(0, iv .u8 (.var 1000)), (1, iv .u8 (.var 1)), (5, iv .u8 (.var 1001)), (6, iv .i64 (.var 1002))], heap := [], inv := (fun ρ => 0 ≤ (ρ 1002).i ∧ (ρ 1002).i ≤ 8 ∧ ((ρ 1000).i, (ρ 1001).i) = timesN (ρ 0).i (ρ 1).i (ρ 1002).i.toNat), mu := (fun ρ => (8 - (ρ 1002).i).toNat) }
def over54C : Ctr := { fn := 54, nv := 1, args := [iv .u8 (.var 0)], heap := [], ro := [], pre := fun ρ => byteP (ρ 0).i, alts := [{ k := 1, ret := iv .u8 (.var 1), heap := [], post := fun ρ => (ρ 1).i = invF (ρ 0).i }] }
def over54I : Inv := { key := 2, nv := 1, env := [(0, iv .u8 (.var 0)), (3, iv .i64 (.var 1000))], heap := [], inv := (fun ρ => 1 ≤ (ρ 1000).i ∧ (ρ 1000).i ≤ 256 ∧ ∀ j : Int, 1 ≤ j → j < (ρ 1000).i → mulF (ρ 0).i j ≠ 1), mu := (fun ρ => (256 - (ρ 1000).i).toNat) }
def power38C : Ctr := { fn := 38, nv := 2, args := [iv .u8 (.var 0), iv .i64 (.var 1)], heap := [], ro := [], pre := fun ρ => byteP (ρ 0).i ∧ (ρ 1).i < 9223372036854775808, alts := [{ k := 1, ret := iv .u8 (.var 2), heap := [], post := fun ρ => (ρ 2).i = powF (ρ 0).i (ρ 1).i }] }
/-- 1000 the power, 1001 the round. -/
def power38I : Inv := { key := 7, nv := 2, env := [(0, iv .u8 (.var 0)), (1, iv .i64 (.var 1)), (5, iv .u8 (.var 1000)), (6, iv .i64 (.var 1001))], heap := [], inv := (fun ρ => 0 < (ρ 1).i ∧ ¬ (ρ 0).i = 0 ∧ 0 ≤ (ρ 1001).i ∧ (ρ 1001).i ≤ (ρ 1).i.tmod 255 ∧ (ρ 1000).i = powF (ρ 0).i (ρ 1001).i), mu := (fun ρ => ((ρ 1).i.tmod 255 - (ρ 1001).i).toNat) }
def lawMultipliesC : Ctr := lawIs 13 2 [iv .u8 (.var 0), iv .u8 (.var 1)] [] fun ρ => byteP (ρ 0).i ∧ byteP (ρ 1).i
def lawFieldC : Ctr := lawIs 14 3 [iv .u8 (.var 0), iv .u8 (.var 1), iv .u8 (.var 2)] [] fun ρ => byteP (ρ 0).i ∧ byteP (ρ 1).i ∧ byteP (ρ 2).i
def lawPowersC : Ctr := lawIs 9 2 [iv .u8 (.var 0), iv .i64 (.var 1)] [] fun ρ => byteP (ρ 0).i ∧ (ρ 1).i < 9223372036854775808
def lawExponentsC : Ctr := lawIs 10 3 [iv .u8 (.var 0), iv .u16 (.var 1), iv .u16 (.var 2)] [] fun ρ => byteP (ρ 0).i ∧ 0 ≤ (ρ 1).i ∧ (ρ 1).i < 65536 ∧ 0 ≤ (ρ 2).i ∧ (ρ 2).i < 65536
/-- 1000 the field's region, 1001 its rows, 1002 the round. -/
def lawExponentsI : Inv := { key := 5, nv := 3, env := [(0, iv .u8 (.var 0)), (7, .one (.vptr 1000 (.lit 0) 769 0)), (8, iv .i64 (.var 1002))], heap := [.arr 1000 98 kField (.var 1001) (.lit 1)], inv := (fun ρ => fieldD (ρ 1001).d ∧ 0 ≤ (ρ 1002).i ∧ (ρ 1002).i ≤ 255 ∧ ∀ j : Int, 0 ≤ j → j < (ρ 1002).i → powF 2 j ≠ (ρ 0).i), mu := (fun ρ => (255 - (ρ 1002).i).toNat) }
/-! ### Values of polynomials -/
def hornerL (x : Int) : List Int → Int
  | [] => 0
  | c :: l => xorB (mulF (hornerL x l) x) c
/-- The coefficients: region 2, length 3, capacity 4, rows 5, their capacity 6; the element 7. -/
def eval60C : Ctr := { fn := 60, nv := 8, args := [fArg, .one (.vslice 2 (.lit 0) (.var 3) (.var 4) 1), iv .u8 (.var 7)], heap := [fHp 1], ro := [bHp 2 5 6], pre := fun ρ => fieldD (ρ 1).d ∧ 0 ≤ (ρ 3).i ∧ (ρ 3).i ≤ big ∧ (ρ 3).i = (ρ 5).d.length ∧ allB (ρ 5).d ∧ byteP (ρ 7).i, alts := [{ k := 2, ret := iv .u8 (.var 8), heap := [fHp 9], post := fun ρ => fieldD (ρ 9).d ∧ (ρ 8).i = hornerL (ρ 7).i (bI (ρ 5).d) }] }
/-- 1000 the value, 1001 the round, 1002 the field. -/
def eval60I : Inv := { key := 5, nv := 3, env := [(0, fArg), (1, .one (.vslice 2 (.lit 0) (.var 3) (.var 4) 1)), (2, iv .u8 (.var 7)), (7, iv .u8 (.var 1000)), (8, iv .i64 (.var 1001))], heap := [fHp 1002], inv := (fun ρ => fieldD (ρ 1002).d ∧ -1 ≤ (ρ 1001).i ∧ (ρ 1001).i < (ρ 3).i ∧ (ρ 1000).i = hornerL (ρ 7).i ((bI (ρ 5).d).drop ((ρ 1001).i + 1).toNat)), mu := (fun ρ => ((ρ 1001).i + 1).toNat) }
def at61C : Ctr := { fn := 61, nv := 6, args := [.one (.vslice 0 (.lit 0) (.var 1) (.var 2) 1), iv .u8 (.var 5)], heap := [], ro := [bHp 0 3 4], pre := fun ρ => 0 ≤ (ρ 1).i ∧ (ρ 1).i ≤ big ∧ (ρ 1).i = (ρ 3).d.length ∧ allB (ρ 3).d ∧ byteP (ρ 5).i, alts := [{ k := 1, ret := iv .u8 (.var 6), heap := [], post := fun ρ => (ρ 6).i = hornerL (ρ 5).i (bI (ρ 3).d) }] }
/-- 1000 the sum, 1001 the power, 1002 the round. -/
def at61I : Inv := { key := 3, nv := 3, env := [(0, .one (.vslice 0 (.lit 0) (.var 1) (.var 2) 1)), (1, iv .u8 (.var 5)), (5, iv .u8 (.var 1000)), (6, iv .u8 (.var 1001)), (7, iv .i64 (.var 1002))], heap := [], inv := (fun ρ => byteP (ρ 1000).i ∧ byteP (ρ 1001).i ∧ 0 ≤ (ρ 1002).i ∧ (ρ 1002).i ≤ (ρ 1).i ∧ hornerL (ρ 5).i (bI (ρ 3).d) = xorB (ρ 1000).i (mulF (ρ 1001).i (hornerL (ρ 5).i ((bI (ρ 3).d).drop (ρ 1002).i.toNat)))), mu := (fun ρ => ((ρ 1).i - (ρ 1002).i).toNat) }
def lawEvaluatesC : Ctr := lawIs 17 6 [.one (.vslice 0 (.lit 0) (.var 1) (.var 2) 1), iv .u8 (.var 5)] [bHp 0 3 4] fun ρ => 0 ≤ (ρ 1).i ∧ (ρ 1).i ≤ 140737488351232 ∧ (ρ 1).i = (ρ 3).d.length ∧ allB (ρ 3).d ∧ byteP (ρ 5).i
end Go.Eng

set_option linter.unusedSimpArgs false
set_option linter.unusedVariables false
set_option maxRecDepth 100000
namespace Go.Proofs
open Go Go.Eng

def o_len27 : Out := (.br (.cmp .lss (.var 0) (.lit (1)))
 (.ret 0 ⟨2, [(3, (.t (.lit (2)))), (2, (.t (.lit (0))))], [], [], []⟩)
 (.br (.cmp .gtr (.var 0) (.lit (255)))
 (.ret 0 ⟨2, [(3, (.t (.lit (2)))), (2, (.t (.lit (0))))], [], [], []⟩)
 (.br (.cmp .lss (.var 1) (.lit (0)))
 (.ret 0 ⟨2, [(3, (.t (.lit (2)))), (2, (.t (.lit (0))))], [], [], []⟩)
 (.br (.cmp .gtr (.var 1) (.lit (8192)))
 (.ret 0 ⟨2, [(3, (.t (.lit (2)))), (2, (.t (.lit (0))))], [], [], []⟩)
 (.inv 0 2 ⟨1000, [(1000, (.t (.lit (0))))], [((.var 1), (.var 1)), ((.var 0), (.var 0))], [], []⟩ (.fresh 2 (.hyp 0 2 (.br (.cmp .lss (.arith .mul .i64 (.var 0) (.var 2)) (.var 1))
 (.back 0 2 ⟨1000, [(1000, (.t (.arith .add .i64 (.var 2) (.lit (1)))))], [((.var 1), (.var 1)), ((.var 0), (.var 0))], [], []⟩)
 (.ret 0 ⟨2, [(3, (.t (.lit (0)))), (2, (.t (.var 2)))], [], [], []⟩)))))))))
theorem o_len27_eq : treeOf ⟨Try.prog, len27C, [], [len27I]⟩ 100000 Try.f27 = o_len27 := by kernel_rfl
theorem len27_of (hd : ∀ c ∈ ([] : List Ctr), c.ok Try.prog) (h : ∀ ρ : Env, ρ.good → (len27C).pre ρ → o_len27.den ⟨Try.prog, len27C, [], [len27I]⟩ ρ) : (len27C).ok Try.prog :=
  ok_of_tree Try.func27 (fun a w => Try.call27 a w) hd 100000 (fun ρ hg hp => by rw [o_len27_eq]; exact h ρ hg hp)
def o_lawSizes : Out := (.pre 0 ⟨0, [(1, (.t (.var 1))), (0, (.t (.var 0)))], [], [], []⟩ (.both (.fresh 2 (.fresh 3 (.post 0 0 ⟨0, [(1, (.t (.var 1))), (0, (.t (.var 0)))], [], [], []⟩ 2 (.pre 1 ⟨0, [(1, (.t (.var 1))), (0, (.t (.var 0)))], [], [], []⟩ (.both (.fresh 4 (.fresh 5 (.post 1 0 ⟨0, [(1, (.t (.var 1))), (0, (.t (.var 0)))], [], [], []⟩ 4 (.br (.cmp .eql (.var 2) (.var 4))
 (.br (.cmp .eql (.var 3) (.var 5))
 (.pre 2 ⟨0, [], [], [], []⟩ (.both (.post 2 0 ⟨0, [], [], [], []⟩ 6 (.ret 0 ⟨2, [], [], [((.bl true), (.bl true))], []⟩)) .top))
 (.stuck 7 0 0))
 (.stuck 7 0 0))))) .top))))) .top))
theorem o_lawSizes_eq : treeOf ⟨Try.prog, lawSizesC, [piece26C, len27C, knownC], []⟩ 100000 Try.f3 = o_lawSizes := by kernel_rfl
theorem lawSizes_of (hd : ∀ c ∈ ([piece26C, len27C, knownC] : List Ctr), c.ok Try.prog) (h : ∀ ρ : Env, ρ.good → (lawSizesC).pre ρ → o_lawSizes.den ⟨Try.prog, lawSizesC, [piece26C, len27C, knownC], []⟩ ρ) : (lawSizesC).ok Try.prog :=
  ok_of_tree Try.func3 (fun a w => Try.call3 a w) hd 100000 (fun ρ hg hp => by rw [o_lawSizes_eq]; exact h ρ hg hp)
def o_times53 : Out := (.inv 0 2 ⟨1000, [(1002, (.t (.lit (0)))), (1001, (.t (.lit (0)))), (1000, (.t (.var 0)))], [((.var 1), (.var 1))], [], []⟩ (.fresh 2 (.fresh 3 (.fresh 4 (.hyp 0 2 (.br (.cmp .lss (.var 4) (.lit (8)))
 (.need (.cmp .geq (.conv .u64 (.var 4)) (.lit (0))) (.br (.cmp .neq (.arith .and .u8 (.var 1) (.arith .shl .u8 (.lit (1)) (.conv .u64 (.var 4)))) (.lit (0)))
 (.br (.cmp .neq (.arith .and .u8 (.var 2) (.lit (128))) (.lit (0)))
 (.back 0 2 ⟨1000, [(1002, (.t (.arith .add .i64 (.var 4) (.lit (1))))), (1001, (.t (.arith .xor .u8 (.var 3) (.var 2)))), (1000, (.t (.arith .xor .u8 (.arith .shl .u8 (.var 2) (.lit (1))) (.lit (29)))))], [((.var 1), (.var 1))], [], []⟩)
 (.back 0 2 ⟨1000, [(1002, (.t (.arith .add .i64 (.var 4) (.lit (1))))), (1001, (.t (.arith .xor .u8 (.var 3) (.var 2)))), (1000, (.t (.arith .shl .u8 (.var 2) (.lit (1)))))], [((.var 1), (.var 1))], [], []⟩))
 (.br (.cmp .neq (.arith .and .u8 (.var 2) (.lit (128))) (.lit (0)))
 (.back 0 2 ⟨1000, [(1002, (.t (.arith .add .i64 (.var 4) (.lit (1))))), (1001, (.t (.var 3))), (1000, (.t (.arith .xor .u8 (.arith .shl .u8 (.var 2) (.lit (1))) (.lit (29)))))], [((.var 1), (.var 1))], [], []⟩)
 (.back 0 2 ⟨1000, [(1002, (.t (.arith .add .i64 (.var 4) (.lit (1))))), (1001, (.t (.var 3))), (1000, (.t (.arith .shl .u8 (.var 2) (.lit (1)))))], [((.var 1), (.var 1))], [], []⟩))))
 (.ret 0 ⟨2, [(2, (.t (.var 3)))], [], [], []⟩)))))))
theorem o_times53_eq : treeOf ⟨Try.prog, times53C, [], [times53I]⟩ 100000 Try.f53 = o_times53 := by kernel_rfl
theorem times53_of (hd : ∀ c ∈ ([] : List Ctr), c.ok Try.prog) (h : ∀ ρ : Env, ρ.good → (times53C).pre ρ → o_times53.den ⟨Try.prog, times53C, [], [times53I]⟩ ρ) : (times53C).ok Try.prog :=
  ok_of_tree Try.func53 (fun a w => Try.call53 a w) hd 100000 (fun ρ hg hp => by rw [o_times53_eq]; exact h ρ hg hp)
def o_over54 : Out := (.inv 0 1 ⟨1000, [(1000, (.t (.lit (1))))], [((.var 0), (.var 0))], [], []⟩ (.fresh 1 (.hyp 0 1 (.br (.cmp .lss (.var 1) (.lit (256)))
 (.pre 0 ⟨0, [(1, (.t (.conv .u8 (.var 1)))), (0, (.t (.var 0)))], [], [], []⟩ (.both (.fresh 2 (.post 0 0 ⟨0, [(1, (.t (.conv .u8 (.var 1)))), (0, (.t (.var 0)))], [], [], []⟩ 2 (.br (.cmp .eql (.var 2) (.lit (1)))
 (.ret 0 ⟨1, [(1, (.t (.conv .u8 (.var 1))))], [], [], []⟩)
 (.back 0 1 ⟨1000, [(1000, (.t (.arith .add .i64 (.var 1) (.lit (1)))))], [((.var 0), (.var 0))], [], []⟩)))) .top))
 (.ret 0 ⟨1, [(1, (.t (.lit (0))))], [], [], []⟩)))))
theorem o_over54_eq : treeOf ⟨Try.prog, over54C, [times53C], [over54I]⟩ 100000 Try.f54 = o_over54 := by kernel_rfl
theorem over54_of (hd : ∀ c ∈ ([times53C] : List Ctr), c.ok Try.prog) (h : ∀ ρ : Env, ρ.good → (over54C).pre ρ → o_over54.den ⟨Try.prog, over54C, [times53C], [over54I]⟩ ρ) : (over54C).ok Try.prog :=
  ok_of_tree Try.func54 (fun a w => Try.call54 a w) hd 100000 (fun ρ hg hp => by rw [o_over54_eq]; exact h ρ hg hp)
def o_power38 : Out := (.br (.cmp .leq (.var 1) (.lit (0)))
 (.ret 0 ⟨2, [(2, (.t (.lit (1))))], [], [], []⟩)
 (.br (.cmp .eql (.var 0) (.lit (0)))
 (.ret 0 ⟨2, [(2, (.t (.lit (0))))], [], [], []⟩)
 (.inv 0 2 ⟨1000, [(1001, (.t (.lit (0)))), (1000, (.t (.lit (1))))], [((.var 1), (.var 1)), ((.var 0), (.var 0))], [], []⟩ (.fresh 2 (.fresh 3 (.hyp 0 2 (.br (.cmp .lss (.var 3) (.arith .rem .i64 (.var 1) (.lit (255))))
 (.pre 0 ⟨0, [(1, (.t (.var 0))), (0, (.t (.var 2)))], [], [], []⟩ (.both (.fresh 4 (.post 0 0 ⟨0, [(1, (.t (.var 0))), (0, (.t (.var 2)))], [], [], []⟩ 4 (.back 0 2 ⟨1000, [(1001, (.t (.arith .add .i64 (.var 3) (.lit (1))))), (1000, (.t (.var 4)))], [((.var 1), (.var 1)), ((.var 0), (.var 0))], [], []⟩))) .top))
 (.ret 0 ⟨2, [(2, (.t (.var 2)))], [], [], []⟩))))))))
theorem o_power38_eq : treeOf ⟨Try.prog, power38C, [times53C], [power38I]⟩ 100000 Try.f38 = o_power38 := by kernel_rfl
theorem power38_of (hd : ∀ c ∈ ([times53C] : List Ctr), c.ok Try.prog) (h : ∀ ρ : Env, ρ.good → (power38C).pre ρ → o_power38.den ⟨Try.prog, power38C, [times53C], [power38I]⟩ ρ) : (power38C).ok Try.prog :=
  ok_of_tree Try.func38 (fun a w => Try.call38 a w) hd 100000 (fun ρ hg hp => by rw [o_power38_eq]; exact h ρ hg hp)
def o_lawMultiplies : Out := (.pre 0 ⟨0, [], [], [], []⟩ (.both (.fresh 2 (.fresh 3 (.post 0 0 ⟨0, [], [], [], []⟩ 2 (.pre 1 ⟨0, [(1, (.t (.var 3))), (2, (.t (.var 0))), (0, (.r 2))], [((.lit (1)), (.lit (1))), ((.lit (0)), (.lit (0)))], [], []⟩ (.both (.fresh 4 (.fresh 5 (.fresh 6 (.post 1 0 ⟨0, [(1, (.t (.var 3))), (2, (.t (.var 0))), (0, (.r 2))], [((.lit (1)), (.lit (1))), ((.lit (0)), (.lit (0)))], [], []⟩ 4 (.pre 2 ⟨0, [(1, (.t (.var 6))), (3, (.t (.var 1))), (2, (.t (.var 0))), (0, (.r 2))], [((.lit (1)), (.lit (1))), ((.lit (0)), (.lit (0)))], [], []⟩ (.both (.fresh 7 (.fresh 8 (.fresh 9 (.post 2 0 ⟨0, [(1, (.t (.var 6))), (3, (.t (.var 1))), (2, (.t (.var 0))), (0, (.r 2))], [((.lit (1)), (.lit (1))), ((.lit (0)), (.lit (0)))], [], []⟩ 7 (.pre 3 ⟨0, [(1, (.t (.var 1))), (0, (.t (.var 0)))], [], [], []⟩ (.both (.post 3 0 ⟨0, [(1, (.t (.var 1))), (0, (.t (.var 0)))], [], [], []⟩ 10 (.pre 4 ⟨0, [(1, (.t (.var 9))), (3, (.t (.var 1))), (2, (.t (.var 0))), (0, (.r 2))], [((.lit (1)), (.lit (1))), ((.lit (0)), (.lit (0)))], [], []⟩ (.both (.fresh 10 (.fresh 11 (.post 4 0 ⟨0, [(1, (.t (.var 9))), (3, (.t (.var 1))), (2, (.t (.var 0))), (0, (.r 2))], [((.lit (1)), (.lit (1))), ((.lit (0)), (.lit (0)))], [], []⟩ 10 (.pre 5 ⟨0, [(1, (.t (.var 1))), (0, (.t (.var 0)))], [], [], []⟩ (.both (.fresh 12 (.post 5 0 ⟨0, [(1, (.t (.var 1))), (0, (.t (.var 0)))], [], [], []⟩ 12 (.br (.cmp .neq (.var 10) (.var 12))
 (.stuck 7 0 0)
 (.pre 6 ⟨0, [(0, (.t (.var 0)))], [], [], []⟩ (.both (.fresh 13 (.post 6 0 ⟨0, [(0, (.t (.var 0)))], [], [], []⟩ 13 (.br (.cmp .neq (.var 4) (.var 13))
 (.stuck 7 0 0)
 (.br (.not (.beq (.cmp .eql (.var 5) (.lit (0))) (.cmp .neq (.var 0) (.lit (0)))))
 (.stuck 7 0 0)
 (.br (.not (.beq (.cmp .eql (.var 8) (.lit (0))) (.cmp .neq (.var 1) (.lit (0)))))
 (.stuck 7 0 0)
 (.br (.cmp .neq (.var 0) (.lit (0)))
 (.br (.cmp .neq (.var 1) (.lit (0)))
 (.pre 6 ⟨0, [(0, (.t (.var 1)))], [], [], []⟩ (.both (.fresh 14 (.post 6 0 ⟨0, [(0, (.t (.var 1)))], [], [], []⟩ 14 (.pre 5 ⟨0, [(1, (.t (.var 14))), (0, (.t (.var 0)))], [], [], []⟩ (.both (.fresh 15 (.post 5 0 ⟨0, [(1, (.t (.var 14))), (0, (.t (.var 0)))], [], [], []⟩ 15 (.br (.cmp .eql (.var 7) (.var 15))
 (.pre 7 ⟨0, [], [], [], []⟩ (.both (.post 7 0 ⟨0, [], [], [], []⟩ 16 (.ret 0 ⟨2, [], [], [((.bl true), (.bl true))], []⟩)) .top))
 (.stuck 7 0 0)))) .top)))) .top))
 (.br (.cmp .eql (.var 8) (.lit (2)))
 (.pre 6 ⟨0, [(0, (.t (.var 1)))], [], [], []⟩ (.both (.fresh 14 (.post 6 0 ⟨0, [(0, (.t (.var 1)))], [], [], []⟩ 14 (.pre 5 ⟨0, [(1, (.t (.var 14))), (0, (.t (.var 0)))], [], [], []⟩ (.both (.fresh 15 (.post 5 0 ⟨0, [(1, (.t (.var 14))), (0, (.t (.var 0)))], [], [], []⟩ 15 (.br (.cmp .eql (.var 7) (.var 15))
 (.pre 7 ⟨0, [], [], [], []⟩ (.both (.post 7 0 ⟨0, [], [], [], []⟩ 16 (.ret 0 ⟨2, [], [], [((.bl true), (.bl true))], []⟩)) .top))
 (.stuck 7 0 0)))) .top)))) .top))
 (.stuck 7 0 0)))
 (.br (.cmp .eql (.var 5) (.lit (2)))
 (.br (.cmp .neq (.var 1) (.lit (0)))
 (.pre 6 ⟨0, [(0, (.t (.var 1)))], [], [], []⟩ (.both (.fresh 14 (.post 6 0 ⟨0, [(0, (.t (.var 1)))], [], [], []⟩ 14 (.pre 5 ⟨0, [(1, (.t (.var 14))), (0, (.t (.var 0)))], [], [], []⟩ (.both (.fresh 15 (.post 5 0 ⟨0, [(1, (.t (.var 14))), (0, (.t (.var 0)))], [], [], []⟩ 15 (.br (.cmp .eql (.var 7) (.var 15))
 (.pre 7 ⟨0, [], [], [], []⟩ (.both (.post 7 0 ⟨0, [], [], [], []⟩ 16 (.ret 0 ⟨2, [], [], [((.bl true), (.bl true))], []⟩)) .top))
 (.stuck 7 0 0)))) .top)))) .top))
 (.br (.cmp .eql (.var 8) (.lit (2)))
 (.pre 6 ⟨0, [(0, (.t (.var 1)))], [], [], []⟩ (.both (.fresh 14 (.post 6 0 ⟨0, [(0, (.t (.var 1)))], [], [], []⟩ 14 (.pre 5 ⟨0, [(1, (.t (.var 14))), (0, (.t (.var 0)))], [], [], []⟩ (.both (.fresh 15 (.post 5 0 ⟨0, [(1, (.t (.var 14))), (0, (.t (.var 0)))], [], [], []⟩ 15 (.br (.cmp .eql (.var 7) (.var 15))
 (.pre 7 ⟨0, [], [], [], []⟩ (.both (.post 7 0 ⟨0, [], [], [], []⟩ 16 (.ret 0 ⟨2, [], [], [((.bl true), (.bl true))], []⟩)) .top))
 (.stuck 7 0 0)))) .top)))) .top))
 (.stuck 7 0 0)))
 (.stuck 7 0 0)))))))) .top))))) .top))))) .top))) .top)))))) .top)))))) .top))))) .top))
theorem o_lawMultiplies_eq : treeOf ⟨Try.prog, lawMultipliesC, [newFieldC, inv51C, div52C, add34C, mulC, times53C, over54C, knownC], []⟩ 100000 Try.f13 = o_lawMultiplies := by kernel_rfl
theorem lawMultiplies_of (hd : ∀ c ∈ ([newFieldC, inv51C, div52C, add34C, mulC, times53C, over54C, knownC] : List Ctr), c.ok Try.prog) (h : ∀ ρ : Env, ρ.good → (lawMultipliesC).pre ρ → o_lawMultiplies.den ⟨Try.prog, lawMultipliesC, [newFieldC, inv51C, div52C, add34C, mulC, times53C, over54C, knownC], []⟩ ρ) : (lawMultipliesC).ok Try.prog :=
  ok_of_tree Try.func13 (fun a w => Try.call13 a w) hd 100000 (fun ρ hg hp => by rw [o_lawMultiplies_eq]; exact h ρ hg hp)
def o_lawField : Out := (.pre 0 ⟨0, [], [], [], []⟩ (.both (.fresh 3 (.fresh 4 (.post 0 0 ⟨0, [], [], [], []⟩ 3 (.pre 1 ⟨0, [(1, (.t (.var 4))), (3, (.t (.var 1))), (2, (.t (.var 0))), (0, (.r 3))], [((.lit (1)), (.lit (1))), ((.lit (0)), (.lit (0)))], [], []⟩ (.both (.fresh 5 (.fresh 6 (.post 1 0 ⟨0, [(1, (.t (.var 4))), (3, (.t (.var 1))), (2, (.t (.var 0))), (0, (.r 3))], [((.lit (1)), (.lit (1))), ((.lit (0)), (.lit (0)))], [], []⟩ 5 (.pre 1 ⟨0, [(1, (.t (.var 6))), (3, (.t (.var 0))), (2, (.t (.var 1))), (0, (.r 3))], [((.lit (1)), (.lit (1))), ((.lit (0)), (.lit (0)))], [], []⟩ (.both (.fresh 7 (.fresh 8 (.post 1 0 ⟨0, [(1, (.t (.var 6))), (3, (.t (.var 0))), (2, (.t (.var 1))), (0, (.r 3))], [((.lit (1)), (.lit (1))), ((.lit (0)), (.lit (0)))], [], []⟩ 7 (.br (.cmp .neq (.var 5) (.var 7))
 (.stuck 7 0 0)
 (.pre 1 ⟨0, [(1, (.t (.var 8))), (3, (.t (.var 1))), (2, (.t (.var 0))), (0, (.r 3))], [((.lit (1)), (.lit (1))), ((.lit (0)), (.lit (0)))], [], []⟩ (.both (.fresh 9 (.fresh 10 (.post 1 0 ⟨0, [(1, (.t (.var 8))), (3, (.t (.var 1))), (2, (.t (.var 0))), (0, (.r 3))], [((.lit (1)), (.lit (1))), ((.lit (0)), (.lit (0)))], [], []⟩ 9 (.pre 1 ⟨0, [(1, (.t (.var 10))), (3, (.t (.var 2))), (2, (.t (.var 9))), (0, (.r 3))], [((.lit (1)), (.lit (1))), ((.lit (0)), (.lit (0)))], [], []⟩ (.both (.fresh 11 (.fresh 12 (.post 1 0 ⟨0, [(1, (.t (.var 10))), (3, (.t (.var 2))), (2, (.t (.var 9))), (0, (.r 3))], [((.lit (1)), (.lit (1))), ((.lit (0)), (.lit (0)))], [], []⟩ 11 (.pre 1 ⟨0, [(1, (.t (.var 12))), (3, (.t (.var 2))), (2, (.t (.var 1))), (0, (.r 3))], [((.lit (1)), (.lit (1))), ((.lit (0)), (.lit (0)))], [], []⟩ (.both (.fresh 13 (.fresh 14 (.post 1 0 ⟨0, [(1, (.t (.var 12))), (3, (.t (.var 2))), (2, (.t (.var 1))), (0, (.r 3))], [((.lit (1)), (.lit (1))), ((.lit (0)), (.lit (0)))], [], []⟩ 13 (.pre 1 ⟨0, [(1, (.t (.var 14))), (3, (.t (.var 13))), (2, (.t (.var 0))), (0, (.r 3))], [((.lit (1)), (.lit (1))), ((.lit (0)), (.lit (0)))], [], []⟩ (.both (.fresh 15 (.fresh 16 (.post 1 0 ⟨0, [(1, (.t (.var 14))), (3, (.t (.var 13))), (2, (.t (.var 0))), (0, (.r 3))], [((.lit (1)), (.lit (1))), ((.lit (0)), (.lit (0)))], [], []⟩ 15 (.br (.cmp .neq (.var 11) (.var 15))
 (.stuck 7 0 0)
 (.pre 1 ⟨0, [(1, (.t (.var 16))), (3, (.t (.lit (1)))), (2, (.t (.var 0))), (0, (.r 3))], [((.lit (1)), (.lit (1))), ((.lit (0)), (.lit (0)))], [], []⟩ (.both (.fresh 17 (.fresh 18 (.post 1 0 ⟨0, [(1, (.t (.var 16))), (3, (.t (.lit (1)))), (2, (.t (.var 0))), (0, (.r 3))], [((.lit (1)), (.lit (1))), ((.lit (0)), (.lit (0)))], [], []⟩ 17 (.br (.cmp .neq (.var 17) (.var 0))
 (.stuck 7 0 0)
 (.pre 1 ⟨0, [(1, (.t (.var 18))), (3, (.t (.lit (0)))), (2, (.t (.var 0))), (0, (.r 3))], [((.lit (1)), (.lit (1))), ((.lit (0)), (.lit (0)))], [], []⟩ (.both (.fresh 19 (.fresh 20 (.post 1 0 ⟨0, [(1, (.t (.var 18))), (3, (.t (.lit (0)))), (2, (.t (.var 0))), (0, (.r 3))], [((.lit (1)), (.lit (1))), ((.lit (0)), (.lit (0)))], [], []⟩ 19 (.br (.cmp .neq (.var 19) (.lit (0)))
 (.stuck 7 0 0)
 (.pre 2 ⟨0, [(1, (.t (.var 2))), (0, (.t (.var 1)))], [], [], []⟩ (.both (.post 2 0 ⟨0, [(1, (.t (.var 2))), (0, (.t (.var 1)))], [], [], []⟩ 21 (.pre 1 ⟨0, [(1, (.t (.var 20))), (3, (.t (.arith .xor .u8 (.var 1) (.var 2)))), (2, (.t (.var 0))), (0, (.r 3))], [((.lit (1)), (.lit (1))), ((.lit (0)), (.lit (0)))], [], []⟩ (.both (.fresh 21 (.fresh 22 (.post 1 0 ⟨0, [(1, (.t (.var 20))), (3, (.t (.arith .xor .u8 (.var 1) (.var 2)))), (2, (.t (.var 0))), (0, (.r 3))], [((.lit (1)), (.lit (1))), ((.lit (0)), (.lit (0)))], [], []⟩ 21 (.pre 1 ⟨0, [(1, (.t (.var 22))), (3, (.t (.var 1))), (2, (.t (.var 0))), (0, (.r 3))], [((.lit (1)), (.lit (1))), ((.lit (0)), (.lit (0)))], [], []⟩ (.both (.fresh 23 (.fresh 24 (.post 1 0 ⟨0, [(1, (.t (.var 22))), (3, (.t (.var 1))), (2, (.t (.var 0))), (0, (.r 3))], [((.lit (1)), (.lit (1))), ((.lit (0)), (.lit (0)))], [], []⟩ 23 (.pre 1 ⟨0, [(1, (.t (.var 24))), (3, (.t (.var 2))), (2, (.t (.var 0))), (0, (.r 3))], [((.lit (1)), (.lit (1))), ((.lit (0)), (.lit (0)))], [], []⟩ (.both (.fresh 25 (.fresh 26 (.post 1 0 ⟨0, [(1, (.t (.var 24))), (3, (.t (.var 2))), (2, (.t (.var 0))), (0, (.r 3))], [((.lit (1)), (.lit (1))), ((.lit (0)), (.lit (0)))], [], []⟩ 25 (.pre 2 ⟨0, [(1, (.t (.var 25))), (0, (.t (.var 23)))], [], [], []⟩ (.both (.post 2 0 ⟨0, [(1, (.t (.var 25))), (0, (.t (.var 23)))], [], [], []⟩ 27 (.br (.cmp .neq (.var 21) (.arith .xor .u8 (.var 23) (.var 25)))
 (.stuck 7 0 0)
 (.br (.cmp .eql (.var 1) (.lit (0)))
 (.pre 4 ⟨0, [], [], [], []⟩ (.both (.post 4 0 ⟨0, [], [], [], []⟩ 27 (.ret 0 ⟨3, [], [], [((.bl true), (.bl true))], []⟩)) .top))
 (.pre 1 ⟨0, [(1, (.t (.var 26))), (3, (.t (.var 1))), (2, (.t (.var 0))), (0, (.r 3))], [((.lit (1)), (.lit (1))), ((.lit (0)), (.lit (0)))], [], []⟩ (.both (.fresh 27 (.fresh 28 (.post 1 0 ⟨0, [(1, (.t (.var 26))), (3, (.t (.var 1))), (2, (.t (.var 0))), (0, (.r 3))], [((.lit (1)), (.lit (1))), ((.lit (0)), (.lit (0)))], [], []⟩ 27 (.pre 3 ⟨0, [(1, (.t (.var 28))), (3, (.t (.var 1))), (2, (.t (.var 27))), (0, (.r 3))], [((.lit (1)), (.lit (1))), ((.lit (0)), (.lit (0)))], [], []⟩ (.both (.fresh 29 (.fresh 30 (.fresh 31 (.post 3 0 ⟨0, [(1, (.t (.var 28))), (3, (.t (.var 1))), (2, (.t (.var 27))), (0, (.r 3))], [((.lit (1)), (.lit (1))), ((.lit (0)), (.lit (0)))], [], []⟩ 29 (.br (.cmp .eql (.var 30) (.lit (0)))
 (.br (.cmp .eql (.var 29) (.var 0))
 (.br (.cmp .eql (.var 0) (.lit (0)))
 (.pre 4 ⟨0, [], [], [], []⟩ (.both (.post 4 0 ⟨0, [], [], [], []⟩ 32 (.ret 0 ⟨3, [], [], [((.bl true), (.bl true))], []⟩)) .top))
 (.pre 1 ⟨0, [(1, (.t (.var 31))), (3, (.t (.var 1))), (2, (.t (.var 0))), (0, (.r 3))], [((.lit (1)), (.lit (1))), ((.lit (0)), (.lit (0)))], [], []⟩ (.both (.fresh 32 (.fresh 33 (.post 1 0 ⟨0, [(1, (.t (.var 31))), (3, (.t (.var 1))), (2, (.t (.var 0))), (0, (.r 3))], [((.lit (1)), (.lit (1))), ((.lit (0)), (.lit (0)))], [], []⟩ 32 (.br (.cmp .neq (.var 32) (.lit (0)))
 (.pre 4 ⟨0, [], [], [], []⟩ (.both (.post 4 0 ⟨0, [], [], [], []⟩ 34 (.ret 0 ⟨3, [], [], [((.bl true), (.bl true))], []⟩)) .top))
 (.stuck 7 0 0))))) .top)))
 (.stuck 7 0 0))
 (.stuck 7 0 0)))))) .top))))) .top))))) .top))))) .top))))) .top))))) .top))) .top)))))) .top)))))) .top)))))) .top))))) .top))))) .top))))) .top)))))) .top))))) .top))))) .top))
theorem o_lawField_eq : treeOf ⟨Try.prog, lawFieldC, [newFieldC, mulC, add34C, div52C, knownC], []⟩ 100000 Try.f14 = o_lawField := by kernel_rfl
theorem lawField_of (hd : ∀ c ∈ ([newFieldC, mulC, add34C, div52C, knownC] : List Ctr), c.ok Try.prog) (h : ∀ ρ : Env, ρ.good → (lawFieldC).pre ρ → o_lawField.den ⟨Try.prog, lawFieldC, [newFieldC, mulC, add34C, div52C, knownC], []⟩ ρ) : (lawFieldC).ok Try.prog :=
  ok_of_tree Try.func14 (fun a w => Try.call14 a w) hd 100000 (fun ρ hg hp => by rw [o_lawField_eq]; exact h ρ hg hp)
def o_lawPowers : Out := (.pre 0 ⟨0, [], [], [], []⟩ (.both (.fresh 2 (.fresh 3 (.post 0 0 ⟨0, [], [], [], []⟩ 2 (.pre 1 ⟨0, [(1, (.t (.var 3))), (3, (.t (.var 1))), (2, (.t (.var 0))), (0, (.r 2))], [((.lit (1)), (.lit (1))), ((.lit (0)), (.lit (0)))], [], []⟩ (.both (.fresh 4 (.fresh 5 (.post 1 0 ⟨0, [(1, (.t (.var 3))), (3, (.t (.var 1))), (2, (.t (.var 0))), (0, (.r 2))], [((.lit (1)), (.lit (1))), ((.lit (0)), (.lit (0)))], [], []⟩ 4 (.pre 2 ⟨0, [(1, (.t (.var 1))), (0, (.t (.var 0)))], [], [], []⟩ (.both (.fresh 6 (.post 2 0 ⟨0, [(1, (.t (.var 1))), (0, (.t (.var 0)))], [], [], []⟩ 6 (.br (.cmp .eql (.var 4) (.var 6))
 (.pre 3 ⟨0, [], [], [], []⟩ (.both (.post 3 0 ⟨0, [], [], [], []⟩ 7 (.ret 0 ⟨2, [], [], [((.bl true), (.bl true))], []⟩)) .top))
 (.stuck 7 0 0)))) .top))))) .top))))) .top))
theorem o_lawPowers_eq : treeOf ⟨Try.prog, lawPowersC, [newFieldC, pow37C, power38C, knownC], []⟩ 100000 Try.f9 = o_lawPowers := by kernel_rfl
theorem lawPowers_of (hd : ∀ c ∈ ([newFieldC, pow37C, power38C, knownC] : List Ctr), c.ok Try.prog) (h : ∀ ρ : Env, ρ.good → (lawPowersC).pre ρ → o_lawPowers.den ⟨Try.prog, lawPowersC, [newFieldC, pow37C, power38C, knownC], []⟩ ρ) : (lawPowersC).ok Try.prog :=
  ok_of_tree Try.func9 (fun a w => Try.call9 a w) hd 100000 (fun ρ hg hp => by rw [o_lawPowers_eq]; exact h ρ hg hp)
def o_lawExponents : Out := (.pre 0 ⟨0, [], [], [], []⟩ (.both (.fresh 3 (.fresh 4 (.post 0 0 ⟨0, [], [], [], []⟩ 3 (.pre 1 ⟨0, [(1, (.t (.var 4))), (3, (.t (.arith .add .i64 (.conv .i64 (.var 1)) (.conv .i64 (.var 2))))), (2, (.t (.var 0))), (0, (.r 3))], [((.lit (1)), (.lit (1))), ((.lit (0)), (.lit (0)))], [], []⟩ (.both (.fresh 5 (.fresh 6 (.post 1 0 ⟨0, [(1, (.t (.var 4))), (3, (.t (.arith .add .i64 (.conv .i64 (.var 1)) (.conv .i64 (.var 2))))), (2, (.t (.var 0))), (0, (.r 3))], [((.lit (1)), (.lit (1))), ((.lit (0)), (.lit (0)))], [], []⟩ 5 (.pre 1 ⟨0, [(1, (.t (.var 6))), (3, (.t (.conv .i64 (.var 1)))), (2, (.t (.var 0))), (0, (.r 3))], [((.lit (1)), (.lit (1))), ((.lit (0)), (.lit (0)))], [], []⟩ (.both (.fresh 7 (.fresh 8 (.post 1 0 ⟨0, [(1, (.t (.var 6))), (3, (.t (.conv .i64 (.var 1)))), (2, (.t (.var 0))), (0, (.r 3))], [((.lit (1)), (.lit (1))), ((.lit (0)), (.lit (0)))], [], []⟩ 7 (.pre 1 ⟨0, [(1, (.t (.var 8))), (3, (.t (.conv .i64 (.var 2)))), (2, (.t (.var 0))), (0, (.r 3))], [((.lit (1)), (.lit (1))), ((.lit (0)), (.lit (0)))], [], []⟩ (.both (.fresh 9 (.fresh 10 (.post 1 0 ⟨0, [(1, (.t (.var 8))), (3, (.t (.conv .i64 (.var 2)))), (2, (.t (.var 0))), (0, (.r 3))], [((.lit (1)), (.lit (1))), ((.lit (0)), (.lit (0)))], [], []⟩ 9 (.pre 2 ⟨0, [(1, (.t (.var 10))), (3, (.t (.var 9))), (2, (.t (.var 7))), (0, (.r 3))], [((.lit (1)), (.lit (1))), ((.lit (0)), (.lit (0)))], [], []⟩ (.both (.fresh 11 (.fresh 12 (.post 2 0 ⟨0, [(1, (.t (.var 10))), (3, (.t (.var 9))), (2, (.t (.var 7))), (0, (.r 3))], [((.lit (1)), (.lit (1))), ((.lit (0)), (.lit (0)))], [], []⟩ 11 (.br (.cmp .neq (.var 5) (.var 11))
 (.stuck 7 0 0)
 (.inv 0 13 ⟨1000, [(1001, (.t (.var 12))), (1002, (.t (.lit (0)))), (1000, (.r 3))], [((.lit (1)), (.lit (1))), ((.lit (0)), (.lit (0))), ((.var 0), (.var 0))], [], []⟩ (.fresh 13 (.fresh 14 (.fresh 15 (.hyp 0 13 (.br (.cmp .lss (.var 15) (.lit (255)))
 (.pre 1 ⟨0, [(1, (.t (.var 14))), (3, (.t (.var 15))), (2, (.t (.lit (2)))), (0, (.r 13))], [((.lit (1)), (.lit (1))), ((.lit (0)), (.lit (0)))], [], []⟩ (.both (.fresh 16 (.fresh 17 (.post 1 0 ⟨0, [(1, (.t (.var 14))), (3, (.t (.var 15))), (2, (.t (.lit (2)))), (0, (.r 13))], [((.lit (1)), (.lit (1))), ((.lit (0)), (.lit (0)))], [], []⟩ 16 (.br (.cmp .eql (.var 16) (.var 0))
 (.br (.cmp .neq (.var 0) (.lit (0)))
 (.pre 3 ⟨0, [], [], [], []⟩ (.both (.post 3 0 ⟨0, [], [], [], []⟩ 18 (.ret 0 ⟨3, [], [], [((.bl true), (.bl true))], []⟩)) .top))
 (.stuck 7 0 0))
 (.back 0 13 ⟨1000, [(1001, (.t (.var 17))), (1002, (.t (.arith .add .i64 (.var 15) (.lit (1))))), (1000, (.r 13))], [((.lit (1)), (.lit (1))), ((.lit (0)), (.lit (0))), ((.var 0), (.var 0))], [], []⟩))))) .top))
 (.br (.cmp .eql (.var 0) (.lit (0)))
 (.pre 3 ⟨0, [], [], [], []⟩ (.both (.post 3 0 ⟨0, [], [], [], []⟩ 16 (.ret 0 ⟨3, [], [], [((.bl true), (.bl true))], []⟩)) .top))
 (.stuck 7 0 0)))))))))))) .top))))) .top))))) .top))))) .top))))) .top))
theorem o_lawExponents_eq : treeOf ⟨Try.prog, lawExponentsC, [newFieldC, pow37C, mulC, knownC], [lawExponentsI]⟩ 100000 Try.f10 = o_lawExponents := by kernel_rfl
theorem lawExponents_of (hd : ∀ c ∈ ([newFieldC, pow37C, mulC, knownC] : List Ctr), c.ok Try.prog) (h : ∀ ρ : Env, ρ.good → (lawExponentsC).pre ρ → o_lawExponents.den ⟨Try.prog, lawExponentsC, [newFieldC, pow37C, mulC, knownC], [lawExponentsI]⟩ ρ) : (lawExponentsC).ok Try.prog :=
  ok_of_tree Try.func10 (fun a w => Try.call10 a w) hd 100000 (fun ρ hg hp => by rw [o_lawExponents_eq]; exact h ρ hg hp)
def o_eval60 : Out := (.br (.and (.cmp .eql (.dlen (.var 1)) (.lit (0))) (.isnil 0))
 (.ret 0 ⟨8, [(9, (.t (.var 1))), (8, (.t (.lit (0))))], [((.lit (1)), (.lit (1)))], [], []⟩)
 (.need (.cmp .leq (.lit (0)) (.var 3)) (.inv 0 8 ⟨1000, [(1002, (.t (.var 1))), (1001, (.t (.arith .sub .i64 (.var 3) (.lit (1))))), (1000, (.t (.lit (0))))], [((.lit (1)), (.lit (1))), ((.var 7), (.var 7)), ((.var 4), (.var 4)), ((.var 3), (.var 3)), ((.lit (0)), (.lit (0))), ((.lit (0)), (.lit (0)))], [], []⟩ (.fresh 8 (.fresh 9 (.fresh 10 (.hyp 0 8 (.br (.cmp .geq (.var 9) (.lit (0)))
 (.need (.cmp .leq (.lit (0)) (.var 9)) (.need (.cmp .lss (.var 9) (.var 3)) (.need (.cmp .lss (.var 9) (.dlen (.var 5))) (.both (.pre 0 ⟨0, [(1, (.t (.var 10))), (3, (.t (.var 7))), (2, (.t (.var 8))), (0, (.r 0))], [((.lit (1)), (.lit (1))), ((.lit (0)), (.lit (0)))], [], []⟩ (.both (.fresh 11 (.fresh 12 (.post 0 0 ⟨0, [(1, (.t (.var 10))), (3, (.t (.var 7))), (2, (.t (.var 8))), (0, (.r 0))], [((.lit (1)), (.lit (1))), ((.lit (0)), (.lit (0)))], [], []⟩ 11 (.back 0 8 ⟨1000, [(1002, (.t (.var 12))), (1001, (.t (.arith .sub .i64 (.var 9) (.lit (1))))), (1000, (.t (.arith .xor .u8 (.var 11) (.icell (.var 5) (.var 9) 0))))], [((.lit (1)), (.lit (1))), ((.var 7), (.var 7)), ((.var 4), (.var 4)), ((.var 3), (.var 3)), ((.lit (0)), (.lit (0))), ((.lit (0)), (.lit (0)))], [], []⟩)))) .top)) .top))))
 (.ret 0 ⟨8, [(9, (.t (.var 10))), (8, (.t (.var 8)))], [((.lit (1)), (.lit (1)))], [], []⟩)))))))))
theorem o_eval60_eq : treeOf ⟨Try.prog, eval60C, [mulC], [eval60I]⟩ 100000 Try.f60 = o_eval60 := by kernel_rfl
theorem eval60_of (hd : ∀ c ∈ ([mulC] : List Ctr), c.ok Try.prog) (h : ∀ ρ : Env, ρ.good → (eval60C).pre ρ → o_eval60.den ⟨Try.prog, eval60C, [mulC], [eval60I]⟩ ρ) : (eval60C).ok Try.prog :=
  ok_of_tree Try.func60 (fun a w => Try.call60 a w) hd 100000 (fun ρ hg hp => by rw [o_eval60_eq]; exact h ρ hg hp)
def o_at61 : Out := (.inv 0 6 ⟨1000, [(1002, (.t (.lit (0)))), (1001, (.t (.lit (1)))), (1000, (.t (.lit (0))))], [((.var 5), (.var 5)), ((.var 2), (.var 2)), ((.var 1), (.var 1)), ((.lit (0)), (.lit (0)))], [], []⟩ (.fresh 6 (.fresh 7 (.fresh 8 (.hyp 0 6 (.need (.cmp .leq (.lit (0)) (.var 1)) (.br (.cmp .lss (.var 8) (.var 1))
 (.need (.cmp .leq (.lit (0)) (.var 8)) (.need (.cmp .lss (.var 8) (.dlen (.var 3))) (.pre 0 ⟨0, [(1, (.t (.var 7))), (0, (.t (.icell (.var 3) (.var 8) 0)))], [], [], []⟩ (.both (.fresh 9 (.post 0 0 ⟨0, [(1, (.t (.var 7))), (0, (.t (.icell (.var 3) (.var 8) 0)))], [], [], []⟩ 9 (.pre 0 ⟨0, [(1, (.t (.var 5))), (0, (.t (.var 7)))], [], [], []⟩ (.both (.fresh 10 (.post 0 0 ⟨0, [(1, (.t (.var 5))), (0, (.t (.var 7)))], [], [], []⟩ 10 (.back 0 6 ⟨1000, [(1002, (.t (.arith .add .i64 (.var 8) (.lit (1))))), (1001, (.t (.var 10))), (1000, (.t (.arith .xor .u8 (.var 6) (.var 9))))], [((.var 5), (.var 5)), ((.var 2), (.var 2)), ((.var 1), (.var 1)), ((.lit (0)), (.lit (0)))], [], []⟩))) .top)))) .top))))
 (.ret 0 ⟨6, [(6, (.t (.var 6)))], [], [], []⟩))))))))
theorem o_at61_eq : treeOf ⟨Try.prog, at61C, [times53C], [at61I]⟩ 100000 Try.f61 = o_at61 := by kernel_rfl
theorem at61_of (hd : ∀ c ∈ ([times53C] : List Ctr), c.ok Try.prog) (h : ∀ ρ : Env, ρ.good → (at61C).pre ρ → o_at61.den ⟨Try.prog, at61C, [times53C], [at61I]⟩ ρ) : (at61C).ok Try.prog :=
  ok_of_tree Try.func61 (fun a w => Try.call61 a w) hd 100000 (fun ρ hg hp => by rw [o_at61_eq]; exact h ρ hg hp)
def o_lawEvaluates : Out := (.need (.cmp .leq (.lit (0)) (.var 1)) (.br (.cmp .gtr (.var 1) (.lit (4096)))
 (.pre 3 ⟨0, [], [], [], []⟩ (.both (.post 3 0 ⟨0, [], [], [], []⟩ 6 (.ret 0 ⟨6, [], [], [((.bl true), (.bl true))], []⟩)) .top))
 (.pre 0 ⟨0, [], [], [], []⟩ (.both (.fresh 6 (.fresh 7 (.post 0 0 ⟨0, [], [], [], []⟩ 6 (.fresh 8 (.need (.cmp .leq (.var 1) (.dlen (.var 3))) (.need (.cmp .leq (.tims (.lit (1)) (.var 1)) (.lit (140737488355328))) (.fresh 9 (.fresh 10 (.pre 1 ⟨0, [(6, (.t (.var 10))), (5, (.t (.dtake (.var 3) (.var 1)))), (1, (.t (.var 7))), (7, (.t (.var 5))), (4, (.t (.var 10))), (3, (.t (.var 1))), (2, (.r 9)), (0, (.r 6))], [((.lit (1)), (.lit (1))), ((.lit (0)), (.lit (0))), ((.lit (0)), (.lit (0)))], [], []⟩ (.both (.fresh 11 (.fresh 12 (.post 1 0 ⟨0, [(6, (.t (.var 10))), (5, (.t (.dtake (.var 3) (.var 1)))), (1, (.t (.var 7))), (7, (.t (.var 5))), (4, (.t (.var 10))), (3, (.t (.var 1))), (2, (.r 9)), (0, (.r 6))], [((.lit (1)), (.lit (1))), ((.lit (0)), (.lit (0))), ((.lit (0)), (.lit (0)))], [], []⟩ 11 (.pre 2 ⟨0, [(4, (.t (.var 4))), (3, (.t (.var 3))), (5, (.t (.var 5))), (2, (.t (.var 2))), (1, (.t (.var 1))), (0, (.r 0))], [((.lit (0)), (.lit (0)))], [], []⟩ (.both (.fresh 13 (.post 2 0 ⟨0, [(4, (.t (.var 4))), (3, (.t (.var 3))), (5, (.t (.var 5))), (2, (.t (.var 2))), (1, (.t (.var 1))), (0, (.r 0))], [((.lit (0)), (.lit (0)))], [], []⟩ 13 (.br (.cmp .eql (.var 11) (.var 13))
 (.pre 3 ⟨0, [], [], [], []⟩ (.both (.post 3 0 ⟨0, [], [], [], []⟩ 14 (.ret 0 ⟨6, [], [], [((.bl true), (.bl true))], []⟩)) .top))
 (.stuck 7 0 0)))) .top))))) .top)))))))))) .top))))
theorem o_lawEvaluates_eq : treeOf ⟨Try.prog, lawEvaluatesC, [newFieldC, eval60C, at61C, knownC], []⟩ 100000 Try.f17 = o_lawEvaluates := by kernel_rfl
theorem lawEvaluates_of (hd : ∀ c ∈ ([newFieldC, eval60C, at61C, knownC] : List Ctr), c.ok Try.prog) (h : ∀ ρ : Env, ρ.good → (lawEvaluatesC).pre ρ → o_lawEvaluates.den ⟨Try.prog, lawEvaluatesC, [newFieldC, eval60C, at61C, knownC], []⟩ ρ) : (lawEvaluatesC).ok Try.prog :=
  ok_of_tree Try.func17 (fun a w => Try.call17 a w) hd 100000 (fun ρ hg hp => by rw [o_lawEvaluates_eq]; exact h ρ hg hp)
end Go.Proofs

/- Laws about the field: proofs. -/
set_option linter.unusedSimpArgs false
set_option linter.unusedVariables false
namespace Go.Proofs
open Go Go.Eng

/-! ### Sizes -/
theorem ceil_eq {k n c : Int} (hk : 1 ≤ k) (h0 : 0 ≤ c) (h1 : n ≤ k * c) (h2 : c = 0 ∨ k * (c - 1) < n) (hn : 0 ≤ n) : c = (n + k - 1).tdiv k := by
  rw [Int.tdiv_eq_ediv_of_nonneg (by omega)]
  symm
  rw [Int.ediv_eq_iff_of_pos (by omega)]
  rw [Int.mul_sub, Int.mul_one] at h2
  rw [Int.mul_comm] at h1
  rcases h2 with rfl | h2
  · omega
  · rw [Int.mul_comm] at h2; omega
theorem len27_ok : len27C.ok Try.prog := len27_of (by simp) fun ρ hg hp => by
  simp [o_len27, len27C, len27I, piece26C]
  have hpb : pieceBad (ρ 0).i (ρ 1).i ↔ (ρ 0).i < 1 ∨ 255 < (ρ 0).i ∨ (ρ 1).i < 0 ∨ 8192 < (ρ 1).i := Iff.rfl
  refine ⟨fun h => hpb.2 (by omega), fun h1 => ⟨fun h => hpb.2 (by omega), fun h2 => ⟨fun h => hpb.2 (by omega), fun h3 => ⟨fun h => hpb.2 (by omega), fun h4 => ⟨⟨?_, h3⟩, fun u _ hnb u0 u1 u2 => ⟨fun h => ?_, fun h => ⟨fun hb => (hnb hb).elim, fun _ => ?_⟩⟩⟩⟩⟩⟩⟩
  · rw [hpb]; omega
  · have hb := mul_bound (x := (ρ 0).i) (y := u.i) (by omega) h2 u0 (show u.i ≤ 8192 by omega)
    rw [mul64 (by omega) (by omega)] at h
    have hlt : u.i < (ρ 1).i := by
      have := Int.mul_le_mul_of_nonneg_right h1 u0
      omega
    rw [add64 (by omega) (by omega)]
    refine ⟨⟨hnb, by omega, by omega, .inr ?_⟩, by omega⟩
    rw [show u.i + 1 - 1 = u.i by omega]; exact h
  · have hb := mul_bound (x := (ρ 0).i) (y := u.i) (by omega) h2 u0 (show u.i ≤ 8192 by omega)
    rw [mul64 (by omega) (by omega)] at h
    exact ceil_eq h1 u0 h u2 h3
theorem lawSizes_ok : lawSizesC.ok Try.prog := lawSizes_of (by simp [piece26_ok, len27_ok, known_ok]) fun ρ hg hp => by
  simp [o_lawSizes, lawSizesC, lawIs, lawRet, len27C, piece26C, knownC]
  intro u _ v _ h1 h2 u' _ v' _ h3 h4
  by_cases hb : pieceBad (ρ 0).i (ρ 1).i
  · rw [(h1 hb).1, (h1 hb).2, (h3 hb).1, (h3 hb).2]; simp
  · rw [(h2 hb).1, (h2 hb).2, (h4 hb).1, (h4 hb).2]; simp

/-! ### Products bit by bit -/
theorem twice_eq' : ∀ i : Fin 256, (if arithOf .and .u8 (i.val : Int) 128 = 0 then arithOf .shl .u8 (i.val : Int) 1 else arithOf .xor .u8 (arithOf .shl .u8 (i.val : Int) 1) 29) = ofF (xt (toF (i.val : Int))) := by decide +kernel
theorem bit_eq' : ∀ b : Fin 256, ∀ i : Fin 8, toF ((b.val % 2 ^ (i.val + 1) : Nat) : Int) = if arithOf .and .u8 (b.val : Int) (arithOf .shl .u8 1 (i.val : Int)) = 0 then toF ((b.val % 2 ^ i.val : Nat) : Int) else toF ((b.val % 2 ^ i.val : Nat) : Int) ^^^ expF i.val := by decide +kernel
theorem twice_eq {x : Int} (h : isB x) : (if arithOf .and .u8 x 128 = 0 then arithOf .shl .u8 x 1 else arithOf .xor .u8 (arithOf .shl .u8 x 1) 29) = ofF (xt (toF x)) := by
  have := twice_eq' ⟨x.toNat, by have := h.2; have := h.1; omega⟩
  simp only [Int.toNat_of_nonneg h.1] at this
  exact this
theorem expF_succ {n : Nat} : expF (n + 1) = fmul (expF n) 2 := by
  have : (2 : F) = expF 1 := by decide
  rw [this, fmul_exp]
theorem timesN_eq {a b : Int} (ha : isB a) (hb : isB b) : ∀ i : Nat, i ≤ 8 → timesN a b i = (ofF (fmul (toF a) (expF i)), ofF (fmul (toF a) (toF ((b.toNat % 2 ^ i : Nat) : Int))))
  | 0, _ => by
    rw [timesN, expF_zero, fmul_one, ofF_toF ha, Nat.pow_zero, Nat.mod_one]
    rw [show toF ((0 : Nat) : Int) = 0 by rfl, fmul_zero]; rfl
  | i + 1, hi => by
    rw [timesN, timesN_eq ha hb i (by omega), timesStep]
    simp only
    rw [twice_eq ofF_isB, toF_ofF, ← fmul_two, fmul_assoc, ← expF_succ]
    have h := bit_eq' ⟨b.toNat, by have := hb.2; have := hb.1; omega⟩ ⟨i, by omega⟩
    simp only [Int.toNat_of_nonneg hb.1] at h
    rw [h]
    split
    · rfl
    · rw [xor_fmul]
      congr 1
      have := xorB_F (x := ofF (fmul (toF a) (toF ((b.toNat % 2 ^ i : Nat) : Int)))) (y := ofF (fmul (toF a) (expF i)))
      rw [toF_ofF, toF_ofF] at this
      exact this
theorem timesN_mulF {a b : Int} (ha : isB a) (hb : isB b) : (timesN a b 8).2 = mulF a b := by
  rw [timesN_eq ha hb 8 (Nat.le_refl _), mulF_F ha hb]
  simp only
  congr 2
  obtain ⟨h0, h1⟩ := hb
  congr 1
  omega
theorem times53_ok : times53C.ok Try.prog := times53_of (by simp) fun ρ hg hp => by
  obtain ⟨ha, hb⟩ := hp
  simp [o_times53, times53C, times53I]
  refine ⟨rfl, fun x _ y _ i _ i0 i1 he => ⟨fun hi => ?_, fun hi => ?_⟩⟩
  · have hw : IntKind.u64.wrap i.i = i.i := by simp [IntKind.wrap, IntKind.bits, IntKind.signed]; omega
    rw [hw, add64 (by omega) (by omega), show (i.i + 1).toNat = i.i.toNat + 1 by omega, timesN, ← he, timesStep]
    simp only [Int.toNat_of_nonneg i0]
    refine ⟨i0, fun h1 => ⟨fun h2 => ⟨⟨by omega, by omega, ?_⟩, by omega⟩, fun h2 => ⟨⟨by omega, by omega, ?_⟩, by omega⟩⟩, fun h1 => ⟨fun h2 => ⟨⟨by omega, by omega, ?_⟩, by omega⟩, fun h2 => ⟨⟨by omega, by omega, ?_⟩, by omega⟩⟩⟩ <;> simp [h1, h2]
  · rw [← timesN_mulF ha hb, show (8 : Nat) = i.i.toNat by omega, ← he]
theorem fmul_eq_one {x y : F} (h : fmul x y = 1) : y = finv x := by
  by_cases hx : x = 0
  · rw [hx, zero_fmul] at h; exact absurd h (by decide)
  · have h1 : fmul (finv x) (fmul x y) = finv x := by rw [h, fmul_one]
    rw [← fmul_assoc, fmul_comm (x := finv x), fmul_finv hx, one_fmul] at h1
    exact h1
theorem over54_ok : over54C.ok Try.prog := over54_of (by simp [times53_ok]) fun ρ hg hp => by
  have ha : isB (ρ 0).i := hp
  simp [o_over54, over54C, over54I, times53C]
  have hw : ∀ x : Int, 0 ≤ x → x < 256 → IntKind.u8.wrap x = x := fun x h0 h1 => by simp [IntKind.wrap, IntKind.bits, IntKind.signed]; omega
  refine ⟨fun j h0 h1 => by omega, fun i _ i0 i1 hn => ⟨fun hi => ?_, fun hi => ?_⟩⟩
  · rw [hw _ (by omega) hi, add64 (by omega) (by omega)]
    have hb : isB i.i := ⟨by omega, hi⟩
    refine ⟨⟨ha, hb⟩, fun m _ hm => ⟨fun h1 => ?_, fun h1 => ⟨⟨by omega, by omega, fun j j0 j1 => ?_⟩, by omega⟩⟩⟩
    · refine toF_inj hb (invF_isB ha) ?_
      rw [toF_invF ha]
      refine fmul_eq_one ?_
      rw [← toF_mulF ha hb, ← hm, h1]; rfl
    · by_cases hj : j = i.i
      · rw [hj, ← hm]; exact h1
      · exact hn j j0 (by omega)
  · by_cases h0 : (ρ 0).i = 0
    · rw [h0]; rfl
    · have hx : toF (ρ 0).i ≠ 0 := fun h => h0 ((toF_eq_zero ha).1 h)
      have hi1 : 1 ≤ invF (ρ 0).i := by
        have hz := invF_isB ha
        have : invF (ρ 0).i ≠ 0 := fun h => finv_ne hx (by rw [← toF_invF ha, h]; rfl)
        have := hz.1
        omega
      refine (hn (invF (ρ 0).i) hi1 (by have := (invF_isB ha).2; omega) ?_).elim
      rw [mulF_F ha (invF_isB ha), toF_invF ha, fmul_finv hx]; rfl
theorem fpow_mod {x : F} (hx : x ≠ 0) {n : Nat} : fpow x (n % 255) = fpow x n := by
  obtain ⟨a, _, rfl⟩ := exists_exp hx
  rw [fpow_exp, fpow_exp]
  refine expF_congr ?_
  rw [Nat.mul_mod, Nat.mod_mod, ← Nat.mul_mod]
theorem power38_ok : power38C.ok Try.prog := power38_of (by simp [times53_ok]) fun ρ hg hp => by
  obtain ⟨ha, he⟩ := hp
  simp [o_power38, power38C, power38I, times53C]
  refine ⟨fun h => by rw [powF, if_pos h], fun h0 => ⟨fun h => by rw [powF, if_neg (by omega), if_pos h], fun hz => ?_⟩⟩
  have hx : toF (ρ 0).i ≠ 0 := fun h => hz ((toF_eq_zero ha).1 h)
  have hr : (ρ 1).i.tmod 255 = (ρ 1).i % 255 := Int.tmod_eq_emod_of_nonneg (by omega)
  have hrem : arithOf .rem .i64 (ρ 1).i 255 = (ρ 1).i.tmod 255 := rfl
  rw [hrem, hr]
  refine ⟨⟨h0, hz, by omega, by rw [powF, if_pos (by omega)]⟩, fun p _ i _ _ _ i0 i1 hp => ⟨fun hi => ?_, fun hi => ?_⟩⟩
  · have hpB : isB p.i := by rw [hp]; exact powF_isB ha (by omega)
    rw [add64 (by omega) (by omega)]
    refine ⟨⟨hpB, ha⟩, fun q _ hq => ⟨⟨h0, hz, by omega, by omega, ?_⟩, by omega⟩⟩
    rw [hq, mulF_F hpB ha, hp, powF_F ha (by omega), powF_F ha (by omega), toF_ofF, show (i.i + 1).toNat = i.i.toNat + 1 by omega, fpow]
  · have : i.i = (ρ 1).i % 255 := by omega
    rw [hp, powF_F ha (by omega), powF_F ha he, this, ← fpow_mod hx (n := (ρ 1).i.toNat)]
    congr 2
    omega
theorem lawMultiplies_ok : lawMultipliesC.ok Try.prog := lawMultiplies_of (by simp [newField_ok, inv51_ok, div52_ok, add34_ok, mul_ok, times53_ok, over54_ok, known_ok]) fun ρ hg hp => by
  obtain ⟨ha, hb⟩ := hp
  simp [o_lawMultiplies, lawMultipliesC, lawIs, lawRet, newFieldC, inv51C, div52C, add34C, mulC, times53C, over54C, knownC]
  have hq : ∀ {u : U} {v : U}, u.i = mulF (ρ 0).i (invF (ρ 1).i) → byteP (ρ 1).i ∧ ∀ (w : U), w.good → w.i = invF (ρ 1).i → (byteP (ρ 0).i ∧ byteP w.i) ∧ ∀ (z : U), z.good → z.i = mulF (ρ 0).i w.i → u.i = z.i :=
    fun hu => ⟨hb, fun w _ hw => ⟨⟨ha, by rw [hw]; exact invF_isB hb⟩, fun z _ hz => by rw [hu, hz, hw]⟩⟩
  refine fun f _ hf => ⟨⟨.inl hf, ha⟩, fun u _ u1 _ f2 _ hf2 hu hu1 => ⟨⟨hf2, ha.1, ha.2, hb⟩, fun u3 _ u4 _ f5 _ hf5 hu3 hu4 => ⟨⟨hf5, ha.1, ha.2, hb⟩, fun u6 _ f7 _ hf7 hu6 => ⟨⟨ha, hb⟩, fun u8 _ hu8 => ⟨by rw [hu6, hu8], fun _ => ⟨ha, fun u9 _ hu9 => ⟨by rw [hu, hu9], fun _ => ⟨?_, fun _ => ⟨?_, fun _ => ⟨fun h0 => ⟨fun h1 => hq (v := u) hu3, fun h1 => ⟨fun _ => hq (v := u) hu3, ?_⟩⟩, fun h0 => ⟨fun _ => ⟨fun h1 => hq (v := u) hu3, fun h1 => ⟨fun _ => hq (v := u) hu3, ?_⟩⟩, ?_⟩⟩⟩⟩⟩⟩⟩⟩⟩⟩⟩
  · rw [hu1]; by_cases h : (ρ 0).i = 0 <;> simp [cmpOf, h]
  · rw [hu4]; by_cases h : (ρ 1).i = 0 <;> simp [cmpOf, h]
  · rw [hu4, if_pos h1]
  · rw [hu4, if_pos h1]
  · rw [hu1, if_pos h0]
theorem lawField_ok : lawFieldC.ok Try.prog := lawField_of (by simp [newField_ok, div52_ok, add34_ok, mul_ok, known_ok]) fun ρ hg hp => by
  obtain ⟨ha, hb, hc⟩ := hp
  simp [o_lawField, lawFieldC, lawIs, lawRet, newFieldC, div52C, add34C, mulC, knownC]
  have hx1 : mulF (ρ 0).i 1 = (ρ 0).i := by
    refine toF_inj (mulF_isB ha ⟨by omega, by omega⟩) ha ?_
    rw [toF_mulF ha ⟨by omega, by omega⟩, show toF 1 = 1 by rfl, fmul_one]
  refine fun f _ hf => ⟨⟨.inl hf, ha.1, ha.2, hb⟩, fun u _ f1 _ hf1 hu => ⟨⟨hf1, hb.1, hb.2, ha⟩, fun u2 _ f3 _ hf3 hu2 => ⟨?_, fun _ => ⟨⟨hf3, ha.1, ha.2, hb⟩, fun v _ f4 _ hf4 hv => ⟨⟨hf4, ?_, ?_, hc⟩, fun u5 _ f6 _ hf6 hu5 => ⟨⟨hf6, hb.1, hb.2, hc⟩, fun w _ f7 _ hf7 hw => ⟨⟨hf7, ha.1, ha.2, ?_, ?_⟩, fun u8 _ f9 _ hf9 hu8 => ⟨?_, fun _ => ⟨⟨hf9, ha⟩, fun u10 _ f10 _ hf10 hu10 => ⟨by rw [hu10, hx1], fun _ => ⟨⟨hf10, ha⟩, fun u11 _ f11 _ hf11 hu11 => ⟨by rw [hu11, mulF_zero'], fun _ => ⟨⟨hf11, ha.1, ha.2, xorB_isB⟩, fun u12 _ f12 _ hf12 hu12 => ⟨⟨hf12, ha.1, ha.2, hb⟩, fun u13 _ f14 _ hf14 hu13 => ⟨⟨hf14, ha.1, ha.2, hc⟩, fun u15 _ f16 _ hf16 hu15 => ⟨?_, fun _ h1 => ⟨⟨hf16, ha.1, ha.2, hb⟩, fun q _ f17 _ hf17 hq => ⟨⟨hf17, ?_, ?_, hb⟩, fun u18 _ u19 _ f20 _ hf20 hu18 hu19 => ⟨fun _ => ⟨fun _ h0 => ⟨⟨hf20, ha.1, ha.2, hb⟩, fun z _ f21 _ hf21 hz => ?_⟩, ?_⟩, ?_⟩⟩⟩⟩⟩⟩⟩⟩⟩⟩⟩⟩⟩⟩⟩⟩⟩⟩⟩
  · rw [hu, hu2, mulF_F ha hb, mulF_F hb ha, fmul_comm]
  · rw [hv]; exact (mulF_isB ha hb).1
  · rw [hv]; exact (mulF_isB ha hb).2
  · rw [hw]; exact (mulF_isB hb hc).1
  · rw [hw]; exact (mulF_isB hb hc).2
  · rw [hu5, hu8, hv, hw, mulF_F (mulF_isB ha hb) hc, mulF_F ha (mulF_isB hb hc), toF_mulF ha hb, toF_mulF hb hc, fmul_assoc]
  · rw [hu12, hu13, hu15]
    show mulF _ (xorB _ _) = xorB _ _
    rw [mulF_F ha xorB_isB, toF_xorB, xor_fmul, xorB_F, toF_mulF ha hb, toF_mulF ha hc]
  · rw [hq]; exact (mulF_isB ha hb).1
  · rw [hq]; exact (mulF_isB ha hb).2
  · have hx : toF (ρ 0).i ≠ 0 := fun h => h0 ((toF_eq_zero ha).1 h)
    have hy : toF (ρ 1).i ≠ 0 := fun h => h1 ((toF_eq_zero hb).1 h)
    rw [hz]
    intro h
    refine fmul_ne_zero hx hy ?_
    rw [← toF_mulF ha hb, h]; rfl
  · have hy : toF (ρ 1).i ≠ 0 := fun h => h1 ((toF_eq_zero hb).1 h)
    rw [hu18, hq]
    refine toF_inj (mulF_isB (mulF_isB ha hb) (invF_isB hb)) ha ?_
    rw [toF_mulF (mulF_isB ha hb) (invF_isB hb), toF_mulF ha hb, toF_invF hb, fmul_assoc, fmul_finv hy, fmul_one]
  · rw [hu19, if_neg h1]
theorem lawPowers_ok : lawPowersC.ok Try.prog := lawPowers_of (by simp [newField_ok, pow37_ok, power38_ok, known_ok]) fun ρ hg hp => by
  obtain ⟨ha, he⟩ := hp
  simp [o_lawPowers, lawPowersC, lawIs, lawRet, newFieldC, pow37C, power38C, knownC]
  refine fun f _ hf => ⟨⟨.inl hf, ha.1, ha.2, he⟩, fun u _ f2 _ _ hu => ⟨⟨ha, he⟩, fun v _ hv => by rw [hu, hv]⟩⟩
theorem pow2 {j : Int} (h : 0 ≤ j) (h2 : j < 9223372036854775808 := by omega) : powF 2 j = ofF (expF j.toNat) := by
  rw [powF_F ⟨by omega, by omega⟩ h2, show toF 2 = expF 1 by decide, fpow_exp, Nat.one_mul]
theorem lawExponents_ok : lawExponentsC.ok Try.prog := lawExponents_of (by simp [newField_ok, pow37_ok, mul_ok, known_ok]) fun ρ hg hp => by
  obtain ⟨ha, m0, m1, n0, n1⟩ := hp
  simp [o_lawExponents, lawExponentsC, lawExponentsI, lawIs, lawRet, newFieldC, pow37C, mulC, knownC]
  have hw : ∀ x : Int, 0 ≤ x → x < 65536 → IntKind.i64.wrap x = x := fun x h0 h1 => wrap64 (by omega) (by omega)
  rw [hw _ m0 m1, hw _ n0 n1, add64 (by omega) (by omega)]
  refine fun f _ hf => ⟨⟨.inl hf, ha.1, ha.2, by omega⟩, fun u _ f1 _ hf1 hu => ⟨⟨hf1, ha.1, ha.2, by omega⟩, fun u2 _ f3 _ hf3 hu2 => ⟨⟨hf3, ha.1, ha.2, by omega⟩, fun u4 _ f5 _ hf5 hu4 => ⟨⟨hf5, ?_⟩, fun u6 _ f7 _ hf7 hu6 => ⟨?_, fun _ => ⟨⟨hf7, fun j h0 h1 => by omega⟩, fun f8 _ i _ hfd i0 i1 hn => ⟨fun hi => ⟨⟨hfd, by omega⟩, fun v _ f9 _ hf9 hv => ⟨fun h => ?_, fun h => ?_⟩⟩, fun hi => ?_⟩⟩⟩⟩⟩⟩⟩
  · rw [hu2, hu4]
    have h1 := powF_isB (e := (ρ 1).i) ha (by omega)
    have h2 := powF_isB (e := (ρ 2).i) ha (by omega)
    exact ⟨h1.1, h1.2, h2⟩
  · rw [hu, hu6, hu2, hu4, mulF_F (powF_isB ha (by omega)) (powF_isB ha (by omega)), powF_F ha (by omega), powF_F ha (by omega), powF_F ha (by omega), toF_ofF, toF_ofF, ← fpow_add, Int.toNat_add m0 n0]
  · rw [← h, hv, pow2 i0]
    intro h0
    exact expF_ne (ofF_inj (h0.trans ofF_zero.symm))
  · rw [add64 (by omega) (by omega)]
    refine ⟨⟨hf9, by omega, by omega, fun j j0 j1 => ?_⟩, by omega⟩
    by_cases hj : j = i.i
    · rw [hj, ← hv]; exact h
    · exact hn j j0 (by omega)
  · by_cases h0 : (ρ 0).i = 0
    · exact h0
    · have hx : toF (ρ 0).i ≠ 0 := fun h => h0 ((toF_eq_zero ha).1 h)
      have hl := logF_lt (x := toF (ρ 0).i)
      refine (hn (logF (toF (ρ 0).i) : Nat) (by omega) (by omega) ?_).elim
      rw [pow2 (by omega), Int.toNat_natCast, exp_logF hx, ofF_toF ha]
theorem horner_isB {x : Int} (hx : isB x) : ∀ {l : List Int}, (∀ y ∈ l, isB y) → isB (hornerL x l)
  | [], _ => ⟨by simp [hornerL], by simp [hornerL]⟩
  | _ :: _, _ => xorB_isB
theorem eval60_ok : eval60C.ok Try.prog := eval60_of (by simp [mul_ok]) fun ρ hg hp => by
  obtain ⟨hf, l0, l1, l2, hB, hx⟩ := hp
  simp [o_eval60, eval60C, eval60I, mulC]
  have hne := (fieldD_ne hf).1
  have hlb : (bI (ρ 5).d).length = (ρ 3).i.toNat := by rw [bI_len]; omega
  unfold Go.Eng.big at l1
  refine ⟨fun h => (hne h).elim, fun _ => ⟨l0, ?_⟩⟩
  rw [sub64 (by omega) (by omega)]
  refine ⟨⟨hf, by omega, by omega, ?_⟩, fun v _ i _ f _ hfd i0 i1 hv => ⟨fun hi => ?_, fun hi => ?_⟩⟩
  · rw [List.drop_eq_nil_of_le (by rw [hlb]; omega)]; rfl
  · have hB' := allB_list hB
    have hvB : isB v.i := by rw [hv]; exact horner_isB hx (fun x h => hB' x (List.mem_of_mem_drop h))
    rw [sub64 (by omega) (by omega)]
    refine ⟨hi, i1, by omega, ⟨hfd, hvB.1, hvB.2, hx⟩, fun m _ f2 _ hf2 hm => ⟨⟨hf2, by omega, by omega, ?_⟩, by omega⟩⟩
    have hget := bI_get (d := (ρ 5).d) (i := i.i) hi (by omega)
    obtain ⟨hlt, hge⟩ := List.getElem?_eq_some_iff.1 hget
    rw [show (i.i - 1 + 1).toNat = i.i.toNat by omega, List.drop_eq_getElem_cons hlt, hge, hornerL, hm, hv, show (i.i + 1).toNat = i.i.toNat + 1 by omega]
    rfl
  · refine ⟨hfd, ?_⟩
    rw [hv, show (i.i + 1).toNat = 0 by omega, List.drop_zero]
theorem at61_ok : at61C.ok Try.prog := at61_of (by simp [times53_ok]) fun ρ hg hp => by
  obtain ⟨l0, l1, l2, hB, hx⟩ := hp
  simp [o_at61, at61C, at61I, times53C]
  have hlb : (bI (ρ 3).d).length = (ρ 1).i.toNat := by rw [bI_len]; omega
  have hB' := allB_list hB
  have hH : ∀ n, isB (hornerL (ρ 5).i ((bI (ρ 3).d).drop n)) := fun n => horner_isB hx fun x h => hB' x (List.mem_of_mem_drop h)
  unfold Go.Eng.big at l1
  refine ⟨⟨by unfold byteP; omega, by unfold byteP; omega, l0, ?_⟩, fun a _ p _ i _ ha hp i0 i1 he => ⟨l0, fun hi => ?_, fun hi => ?_⟩⟩
  · have h0 := hH 0
    rw [List.drop_zero] at h0
    refine toF_inj h0 xorB_isB ?_
    rw [toF_xorB, toF_mulF ⟨by omega, by omega⟩ h0, toF_zero, show toF 1 = 1 by rfl, one_fmul]; simp
  · have hcell := allB_get hB (i := i.i) i0 (by omega)
    rw [add64 (by omega) (by omega)]
    refine ⟨i0, by omega, ⟨hcell, hp⟩, fun m _ hm => ⟨⟨hp, hx⟩, fun q _ hq => ⟨⟨xorB_isB, by rw [hq]; exact mulF_isB hp hx, by omega, by omega, ?_⟩, by omega⟩⟩⟩
    rw [he]
    have hget := bI_get (d := (ρ 3).d) (i := i.i) i0 (by omega)
    obtain ⟨hlt, hge⟩ := List.getElem?_eq_some_iff.1 hget
    rw [List.drop_eq_getElem_cons hlt, hge, hornerL, show (i.i + 1).toNat = i.i.toNat + 1 by omega, hm, hq]
    have h1 := hH (i.i.toNat + 1)
    refine toF_inj xorB_isB xorB_isB ?_
    show toF (xorB a.i _) = toF (xorB (xorB a.i _) _)
    rw [toF_xorB, toF_xorB, toF_xorB, toF_mulF hp xorB_isB, toF_xorB, toF_mulF h1 hx, toF_mulF hcell hp, toF_mulF (mulF_isB hp hx) h1, toF_mulF hp hx, xor_fmul, BitVec.xor_assoc]
    congr 1
    rw [BitVec.xor_comm, fmul_comm (x := toF (cellI _ _ _))]
    congr 1
    rw [fmul_comm (x := toF (hornerL _ _)), ← fmul_assoc]
  · rw [he, show i.i.toNat = (bI (ρ 3).d).length by omega, List.drop_length, hornerL, mulF_zero']
    exact (xorB_zero ha.1 ha.2).symm
theorem lawEvaluates_ok : lawEvaluatesC.ok Try.prog := lawEvaluates_of (by simp [newField_ok, eval60_ok, at61_ok, known_ok]) fun ρ hg hp => by
  obtain ⟨l0, l1, l2, hB, hx⟩ := hp
  simp [o_lawEvaluates, lawEvaluatesC, lawIs, lawRet, newFieldC, eval60C, at61C, knownC]
  refine ⟨l0, fun hle f _ hf => ⟨by omega, by omega, ⟨.inl hf, l0, by unfold Go.Eng.big; omega, by omega, allB_take hB, hx⟩, fun u _ f2 _ _ hu => ⟨⟨l0, by unfold Go.Eng.big; omega, l2, hB, hx⟩, fun v _ hv => ?_⟩⟩⟩
  rw [hu, hv, List.take_of_length_le (by omega)]
end Go.Proofs
