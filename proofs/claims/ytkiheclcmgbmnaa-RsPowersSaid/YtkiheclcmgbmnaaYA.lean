/- Laws about the field: contracts. -/
import Derived.Test.YtkiheclcmgbmnaaZU
set_option linter.unusedSimpArgs false
set_option linter.unusedVariables false
namespace Go.Eng
open Go

def lawIs (fn nv : Nat) (args : List SV) (ro : List SH) (pre : Env → Prop) : Ctr := { fn := fn, nv := nv, args := args, heap := [], ro := ro, pre := pre, alts := [lawRet] }
def byteP (x : Int) : Prop := 0 ≤ x ∧ x < 256
/-! ### Sizes -/
def len27C : Ctr := { piece26C with fn := 27 }
def len27I : Inv := { key := 4, nv := 1, env := [(0, iv .i64 (.var 0)), (1, iv .i64 (.var 1)), (6, iv .i64 (.var 1000))], heap := [], inv := (fun ρ => ¬ pieceBad (ρ 0).i (ρ 1).i ∧ 0 ≤ (ρ 1000).i ∧ (ρ 1000).i ≤ (ρ 1).i ∧ ((ρ 1000).i = 0 ∨ (ρ 0).i * ((ρ 1000).i - 1) < (ρ 1).i)), mu := (fun ρ => ((ρ 1).i - (ρ 1000).i).toNat) }
def lawSizesC : Ctr := lawIs 3 2 [iv .i64 (.var 0), iv .i64 (.var 1)] [] fun _ => True
/-! ### Products bit by bit -/
def timesStep (b : Int) (i : Nat) (s : Int × Int) : Int × Int :=
  (if arithOf .and .u8 s.1 128 = 0 then arithOf .shl .u8 s.1 1 else arithOf .xor .u8 (arithOf .shl .u8 s.1 1) 29,
   if arithOf .and .u8 b (arithOf .shl .u8 1 i) = 0 then s.2 else arithOf .xor .u8 s.2 s.1)
def timesN (a b : Int) : Nat → Int × Int
  | 0 => (a, 0)
  | i + 1 => timesStep b i (timesN a b i)
def times53C : Ctr := { fn := 53, nv := 2, args := [iv .u8 (.var 0), iv .u8 (.var 1)], heap := [], ro := [], pre := fun ρ => byteP (ρ 0).i ∧ byteP (ρ 1).i, alts := [{ k := 1, ret := iv .u8 (.var 2), heap := [], post := fun ρ => (ρ 2).i = mulF (ρ 0).i (ρ 1).i }] }
/-- 1000 the first factor, 1001 the sum, 1002 the round. -/
def times53I : Inv := { key := 3, nv := 3, env := [(0, iv .u8 (.var 1000)), (1, iv .u8 (.var 1)), (5, iv .u8 (.var 1001)), (6, iv .i64 (.var 1002))], heap := [], inv := (fun ρ => 0 ≤ (ρ 1002).i ∧ (ρ 1002).i ≤ 8 ∧ ((ρ 1000).i, (ρ 1001).i) = timesN (ρ 0).i (ρ 1).i (ρ 1002).i.toNat), mu := (fun ρ => (8 - (ρ 1002).i).toNat) }
def over54C : Ctr := { fn := 54, nv := 1, args := [iv .u8 (.var 0)], heap := [], ro := [], pre := fun ρ => byteP (ρ 0).i, alts := [{ k := 1, ret := iv .u8 (.var 1), heap := [], post := fun ρ => (ρ 1).i = invF (ρ 0).i }] }
def over54I : Inv := { key := 2, nv := 1, env := [(0, iv .u8 (.var 0)), (3, iv .i64 (.var 1000))], heap := [], inv := (fun ρ => 1 ≤ (ρ 1000).i ∧ (ρ 1000).i ≤ 256 ∧ ∀ j : Int, 1 ≤ j → j < (ρ 1000).i → mulF (ρ 0).i j ≠ 1), mu := (fun ρ => (256 - (ρ 1000).i).toNat) }
def power38C : Ctr := { fn := 38, nv := 2, args := [iv .u8 (.var 0), iv .i64 (.var 1)], heap := [], ro := [], pre := fun ρ => byteP (ρ 0).i ∧ (ρ 1).i < 9223372036854775808, alts := [{ k := 1, ret := iv .u8 (.var 2), heap := [], post := fun ρ => (ρ 2).i = powF (ρ 0).i (ρ 1).i }] }
/-- 1000 the power, 1001 the round. -/
def power38I : Inv := { key := 7, nv := 2, env := [(0, iv .u8 (.var 0)), (1, iv .i64 (.var 1)), (5, iv .u8 (.var 1000)), (6, iv .i64 (.var 1001))], heap := [], inv := (fun ρ => 0 < (ρ 1).i ∧ ¬ (ρ 0).i = 0 ∧ 0 ≤ (ρ 1001).i ∧ (ρ 1001).i ≤ (ρ 1).i.tmod 255 ∧ (ρ 1000).i = powF (ρ 0).i (ρ 1001).i), mu := (fun ρ => ((ρ 1).i.tmod 255 - (ρ 1001).i).toNat) }
def lawMultipliesC : Ctr := lawIs 13 2 [iv .u8 (.var 0), iv .u8 (.var 1)] [] fun ρ => byteP (ρ 0).i ∧ byteP (ρ 1).i
def lawFieldC : Ctr := lawIs 14 3 [iv .u8 (.var 0), iv .u8 (.var 1), iv .u8 (.var 2)] [] fun ρ => byteP (ρ 0).i ∧ byteP (ρ 1).i ∧ byteP (ρ 2).i
def lawPowersC : Ctr := lawIs 9 2 [iv .u8 (.var 0), iv .i64 (.var 1)] [] fun ρ => byteP (ρ 0).i ∧ (ρ 1).i < 9223372036854775808
def lawExponentsC : Ctr := lawIs 10 3 [iv .u8 (.var 0), iv .u16 (.var 1), iv .u16 (.var 2)] [] fun ρ => byteP (ρ 0).i ∧ 0 ≤ (ρ 1).i ∧ (ρ 1).i < 65536 ∧ 0 ≤ (ρ 2).i ∧ (ρ 2).i < 65536
/-- 1000 the field's region, 1001 its rows, 1002 the round. -/
def lawExponentsI : Inv := { key := 5, nv := 3, env := [(0, iv .u8 (.var 0)), (7, .one (.vptr 1000 (.lit 0) 769 0)), (8, iv .i64 (.var 1002))], heap := [.arr 1000 98 kField (.var 1001) (.lit 1)], inv := (fun ρ => fieldD (ρ 1001).d ∧ 0 ≤ (ρ 1002).i ∧ (ρ 1002).i ≤ 255 ∧ ∀ j : Int, 0 ≤ j → j < (ρ 1002).i → powF 2 j ≠ (ρ 0).i), mu := (fun ρ => (255 - (ρ 1002).i).toNat) }
/-! ### Values of polynomials -/
def hornerL (x : Int) : List Int → Int
  | [] => 0
  | c :: l => xorB (mulF (hornerL x l) x) c
/-- The coefficients: region 2, length 3, capacity 4, rows 5, their capacity 6; the element 7. -/
def eval60C : Ctr := { fn := 60, nv := 8, args := [fArg, .one (.vslice 2 (.lit 0) (.var 3) (.var 4) 1), iv .u8 (.var 7)], heap := [fHp 1], ro := [bHp 2 5 6], pre := fun ρ => fieldD (ρ 1).d ∧ 0 ≤ (ρ 3).i ∧ (ρ 3).i ≤ big ∧ (ρ 3).i = (ρ 5).d.length ∧ allB (ρ 5).d ∧ byteP (ρ 7).i, alts := [{ k := 2, ret := iv .u8 (.var 8), heap := [fHp 9], post := fun ρ => fieldD (ρ 9).d ∧ (ρ 8).i = hornerL (ρ 7).i (bI (ρ 5).d) }] }
/-- 1000 the value, 1001 the round, 1002 the field. -/
def eval60I : Inv := { key := 5, nv := 3, env := [(0, fArg), (1, .one (.vslice 2 (.lit 0) (.var 3) (.var 4) 1)), (2, iv .u8 (.var 7)), (7, iv .u8 (.var 1000)), (8, iv .i64 (.var 1001))], heap := [fHp 1002], inv := (fun ρ => fieldD (ρ 1002).d ∧ -1 ≤ (ρ 1001).i ∧ (ρ 1001).i < (ρ 3).i ∧ (ρ 1000).i = hornerL (ρ 7).i ((bI (ρ 5).d).drop ((ρ 1001).i + 1).toNat)), mu := (fun ρ => ((ρ 1001).i + 1).toNat) }
def at61C : Ctr := { fn := 61, nv := 6, args := [.one (.vslice 0 (.lit 0) (.var 1) (.var 2) 1), iv .u8 (.var 5)], heap := [], ro := [bHp 0 3 4], pre := fun ρ => 0 ≤ (ρ 1).i ∧ (ρ 1).i ≤ big ∧ (ρ 1).i = (ρ 3).d.length ∧ allB (ρ 3).d ∧ byteP (ρ 5).i, alts := [{ k := 1, ret := iv .u8 (.var 6), heap := [], post := fun ρ => (ρ 6).i = hornerL (ρ 5).i (bI (ρ 3).d) }] }
/-- 1000 the sum, 1001 the power, 1002 the round. -/
def at61I : Inv := { key := 3, nv := 3, env := [(0, .one (.vslice 0 (.lit 0) (.var 1) (.var 2) 1)), (1, iv .u8 (.var 5)), (5, iv .u8 (.var 1000)), (6, iv .u8 (.var 1001)), (7, iv .i64 (.var 1002))], heap := [], inv := (fun ρ => byteP (ρ 1000).i ∧ byteP (ρ 1001).i ∧ 0 ≤ (ρ 1002).i ∧ (ρ 1002).i ≤ (ρ 1).i ∧ hornerL (ρ 5).i (bI (ρ 3).d) = xorB (ρ 1000).i (mulF (ρ 1001).i (hornerL (ρ 5).i ((bI (ρ 3).d).drop (ρ 1002).i.toNat)))), mu := (fun ρ => ((ρ 1).i - (ρ 1002).i).toNat) }
def lawEvaluatesC : Ctr := lawIs 17 6 [.one (.vslice 0 (.lit 0) (.var 1) (.var 2) 1), iv .u8 (.var 5)] [bHp 0 3 4] fun ρ => 0 ≤ (ρ 1).i ∧ (ρ 1).i ≤ 140737488351232 ∧ (ρ 1).i = (ρ 3).d.length ∧ allB (ρ 3).d ∧ byteP (ρ 5).i
end Go.Eng
