/- Interpolation passes through its points: contracts. -/
import Derived.Test.YtkiheclcmgbmnaaV9
set_option linter.unusedSimpArgs false
set_option linter.unusedVariables false
namespace Go.Eng
open Go Go.Proofs
/-- Where the points differ there is no error. -/
def interpGC : Ctr := { interp65C with pre := fun ρ => interp65C.pre ρ ∧ goodP (ρ 5).d, alts := interp65C.alts.drop 1 }
/-- The points are the polynomial's values from s on. -/
def ptsOk (s : Int) (l : List Int) (d : Rows') : Prop := (∀ row ∈ d, row.length = 2) ∧ ∀ j : Int, 0 ≤ j → j < d.length → cellI d j 0 = (s + j) % 256 ∧ cellI d j 1 = hornerL (cellI d j 0) l
def lawPassesC : Ctr := { lawIs 21 6 [pSl 0 1 2, iv .u8 (.var 5)] [bHp 0 3 4] (fun ρ => 0 ≤ (ρ 1).i ∧ (ρ 1).i ≤ 140737488351232 ∧ (ρ 1).i = (ρ 3).d.length ∧ allB (ρ 3).d ∧ byteP (ρ 5).i) with ip := [(1000, 9), (1001, 9)] }
/-- 1000 .. 1003 the points, 1004 the round, 1005, 1006 the field. -/
def lawPassesI : Inv := { key := 6, nv := 7, env := [(0, pSl 0 1 2), (1, iv .u8 (.var 5)), (5, .one (.vptr 1005 (.lit 0) 769 0)), (6, qSl 1000 1001 1002), (7, iv .i64 (.var 1004))], heap := [.arr 1005 98 kField (.var 1006) (.lit 1), pHp 1000 1003 1002], inv := (fun ρ => fieldD (ρ 1006).d ∧ 1 ≤ (ρ 1).i ∧ (ρ 1).i ≤ 255 ∧ 0 ≤ (ρ 1004).i ∧ (ρ 1004).i ≤ (ρ 1).i ∧ (ρ 1001).i = (ρ 1004).i ∧ (ρ 1001).i = (ρ 1003).d.length ∧ ptsOk (ρ 5).i (bI (ρ 3).d) (ρ 1003).d), mu := (fun ρ => ((ρ 1).i - (ρ 1004).i).toNat) }
/-- 1007 .. 1010 the coefficients. -/
def lawPassesJ : Inv := { key := 18, nv := 11, env := [(5, .one (.vptr 1005 (.lit 0) 769 0)), (6, qSl 1000 1001 1002), (9, pSl 1007 1008 1009), (11, iv .i64 (.var 1004))], heap := [.arr 1005 98 kField (.var 1006) (.lit 1), pHp 1000 1003 1002, bHp 1007 1010 1009], inv := (fun ρ => fieldD (ρ 1006).d ∧ 0 ≤ (ρ 1004).i ∧ (ρ 1004).i ≤ (ρ 1001).i ∧ (ρ 1001).i = (ρ 1003).d.length ∧ (ρ 1001).i ≤ 255 ∧ (ρ 1008).i = (ρ 1010).d.length ∧ allB (ρ 1010).d ∧ allP (ρ 1003).d ∧ thruP (ρ 1003).d (bI (ρ 1010).d)), mu := (fun ρ => ((ρ 1001).i - (ρ 1004).i).toNat) }
end Go.Eng
