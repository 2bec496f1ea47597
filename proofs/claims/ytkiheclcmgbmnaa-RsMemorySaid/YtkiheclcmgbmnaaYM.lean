/- Ranks, rows that are chosen, inverses that undo: contracts. -/
import Derived.Test.YtkiheclcmgbmnaaYD
import Derived.Test.YtkiheclcmgbmnaaGJ
set_option linter.unusedSimpArgs false
set_option linter.unusedVariables false
namespace Go.Eng
open Go Go.Proofs

def rank57C : Ctr := { fn := 57, nv := 9, args := [fArg, argA], heap := [fHp 1], ro := [bHp 4 7 8], pre := inverse55C.pre, alts := [
  { k := 1, ret := .tup [(false, [.vint .i64 (.lit 0)]), eRet (.lit 2)], heap := [fHp 9], post := fun ρ => fieldD (ρ 9).d ∧ ¬ validM (ρ 2).i (ρ 3).i (ρ 5).i },
  { k := 2, ret := .tup [(false, [.vint .i64 (.var 9)]), eRet (.lit 0)], heap := [fHp 10], post := fun ρ => fieldD (ρ 10).d ∧ validM (ρ 2).i (ρ 3).i (ρ 5).i ∧ (ρ 9).i = (rankE ((bI (ρ 7).d).take (ρ 5).i.toNat) (ρ 2).i.toNat (ρ 3).i.toNat : Nat) }] }
/-! ### The same where no error comes -/
def rankGC : Ctr := { rank57C with pre := fun ρ => inverse55C.pre ρ ∧ validM (ρ 2).i (ρ 3).i (ρ 5).i, alts := rank57C.alts.drop 1 }
def genKC : Ctr := { gen35C with pre := fun ρ => fieldD (ρ 1).d ∧ sizesB (ρ 2).i (ρ 3).i = true, alts := gen35C.alts.drop 1 }
def selGC : Ctr := { sel62C with pre := fun ρ => sel62C.pre ρ ∧ ¬ selBad (ρ 0).i (ρ 1).i (ρ 3).i (ρ 8).i (ρ 0).i (iI (ρ 10).d), alts := sel62C.alts.drop 1 }
def invGC : Ctr := { inverse55C with pre := fun ρ => inverse55C.pre ρ ∧ validM (ρ 2).i (ρ 3).i (ρ 5).i ∧ (ρ 2).i = (ρ 3).i ∧ (invE ((bI (ρ 7).d).take (ρ 5).i.toNat) (ρ 2).i.toNat).2.2 = (ρ 2).i.toNat, alts := inverse55C.alts.drop 1 }
def prodGC : Ctr := { prod49C with pre := fun ρ => prod49C.pre ρ ∧ validM (ρ 2).i (ρ 3).i (ρ 5).i ∧ validM (ρ 9).i (ρ 10).i (ρ 12).i ∧ (ρ 3).i = (ρ 9).i, alts := prod49C.alts.drop 2 }
/-- The inverse of a square, or its error, as one answer. -/
def invMC : Ctr := { inverse55C with pre := fun ρ => inverse55C.pre ρ ∧ validM (ρ 2).i (ρ 3).i (ρ 5).i ∧ (ρ 2).i = (ρ 3).i, alts := [
  { k := 8, ret := .tup [(true, [.vint .i64 (.var 9), .vint .i64 (.var 10), .vslice 11 (.lit 0) (.var 12) (.var 13) 1]), eRet (.var 14)], heap := [fHp 15, bHp 11 16 13], post := fun ρ => fieldD (ρ 15).d ∧
    (((invE ((bI (ρ 7).d).take (ρ 5).i.toNat) (ρ 2).i.toNat).2.2 < (ρ 2).i.toNat ∧ (ρ 14).i = 11) ∨ ((invE ((bI (ρ 7).d).take (ρ 5).i.toNat) (ρ 2).i.toNat).2.2 = (ρ 2).i.toNat ∧ (ρ 14).i = 0 ∧ (ρ 9).i = (ρ 2).i ∧ (ρ 10).i = (ρ 2).i ∧ fullM (ρ 2).i (ρ 2).i (ρ 12).i (ρ 13).i (ρ 16).d ∧ bI (ρ 16).d = (invE ((bI (ρ 7).d).take (ρ 5).i.toNat) (ρ 2).i.toNat).2.1)) }] }
def lawInverseUndoesC : Ctr := { lawIs 16 7 [mArgA] [bHp 2 5 6] (fun ρ => matIn (ρ 3).i (ρ 4).i (ρ 5).d) with ip := [(1000, 9), (1001, 9)] }
/-! ### Rows that are chosen -/
def rangeI (n : Nat) : List Int := (List.range n).map fun (m : Nat) => (m : Int)
def byS : SV := .one (.vslice 2 (.lit 0) (.var 3) (.var 4) 1)
def choose64C : Ctr := { fn := 64, nv := 7, ip := [(55, 2), (60, 2)], args := [iv .i64 (.var 0), iv .i64 (.var 1), byS], heap := [], ro := [iHp 2 5 6], pre := fun ρ => 0 ≤ (ρ 0).i ∧ (ρ 0).i ≤ (ρ 1).i ∧ (ρ 1).i ≤ 255 ∧ 0 ≤ (ρ 3).i ∧ (ρ 3).i ≤ 255 ∧ (ρ 3).i = (ρ 5).d.length, alts := [
  { k := 3, ret := .one (.vslice 7 (.lit 0) (.var 0) (.var 8) 1), heap := [iHp 7 9 8], post := fun ρ => (ρ 9).d.length = (ρ 0).i.toNat ∧ chooseOk (ρ 0).i.toNat (ρ 1).i.toNat (iI (ρ 9).d) }] }
def choose64I : Inv := { key := 3, nv := 5, env := [(0, iv .i64 (.var 0)), (1, iv .i64 (.var 1)), (2, byS), (7, .one (.vslice 1000 (.lit 0) (.var 1001) (.var 1002) 1)), (8, iv .i64 (.var 1003))], heap := [iHp 1000 1004 1002], inv := (fun ρ => 0 ≤ (ρ 1003).i ∧ (ρ 1003).i ≤ (ρ 1).i ∧ (ρ 1001).i = (ρ 1004).d.length ∧ iI (ρ 1004).d = rangeI (ρ 1003).i.toNat), mu := (fun ρ => ((ρ 1).i - (ρ 1003).i).toNat) }
/-- 1000 .. 1003 the chosen ones, 1004 .. 1007 what is left, 1008 the round. -/
def choose64J : Inv := { key := 8, nv := 9, env := [(0, iv .i64 (.var 0)), (2, byS), (9, .one (.vslice 1000 (.lit 0) (.var 1001) (.var 1002) 1)), (7, .one (.vslice 1004 (.lit 0) (.var 1005) (.var 1006) 1)), (10, iv .i64 (.var 1008))], heap := [iHp 1000 1003 1002, iHp 1004 1007 1006], inv := (fun ρ => 0 ≤ (ρ 1008).i ∧ (ρ 1008).i ≤ (ρ 0).i ∧ (ρ 1001).i = (ρ 1003).d.length ∧ (ρ 1005).i = (ρ 1007).d.length ∧ (ρ 1001).i = (ρ 1008).i ∧ (iI (ρ 1003).d ++ iI (ρ 1007).d).Perm (rangeI (ρ 1).i.toNat)), mu := (fun ρ => ((ρ 0).i - (ρ 1008).i).toNat) }
def lawAnyRowsC : Ctr := lawIs 19 7 [iv .i64 (.var 0), iv .i64 (.var 1), byS] [iHp 2 5 6] fun ρ => 0 ≤ (ρ 3).i ∧ (ρ 3).i ≤ 17592186043904 ∧ (ρ 3).i = (ρ 5).d.length
end Go.Eng
