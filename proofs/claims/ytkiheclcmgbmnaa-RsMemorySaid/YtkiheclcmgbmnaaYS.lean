/- Sums of objects, different objects: contracts. -/
import Derived.Test.YtkiheclcmgbmnaaYR
set_option linter.unusedSimpArgs false
set_option linter.unusedVariables false
namespace Go.Eng
open Go Go.Proofs

def encGC : Ctr := { encode31C with pre := fun ρ => encC.pre ρ ∧ sizesB (ρ 2).i (ρ 3).i = true ∧ (ρ 5).i ≤ 8192, alts := encode31C.alts.drop 1 }
/-! ### The input of a law: 0 .. 3 K, Total, Size, Index; 4 .. 6, 19 Data; 7 .. 9, 21 Other; 10 .. 12, 23 By; 13 Which, 14 At, 15 Mask; 16 .. 18, 25 Pieces; 27 what they lie in -/
def caseArg : SV := .agg [.vint .i64 (.var 0), .vint .i64 (.var 1), .vint .i64 (.var 2), .vint .i64 (.var 3), .vslice 4 (.lit 0) (.var 5) (.var 6) 1, .vslice 7 (.lit 0) (.var 8) (.var 9) 1, .vslice 10 (.lit 0) (.var 11) (.var 12) 1, .vint .i64 (.var 13), .vint .i64 (.var 14), .vint .u8 (.var 15), .vslice 16 (.lit 0) (.var 17) (.var 18) 2]
def caseRo : List SH := [bHp 4 19 20, bHp 7 21 22, iHp 10 23 24, pcHp 16 25 26, .abs 27 6]
def intIn (l : Int) (d : Rows') : Prop := 0 ≤ l ∧ l ≤ 17592186043904 ∧ l = d.length
def caseP (k total size index ld lo lb w a m lp : Int) (dd od bd pd : Rows') (h : Hp) : Prop :=
  (-9223372036854775808 ≤ k ∧ k < 9223372036854775808) ∧ (-9223372036854775808 ≤ total ∧ total < 9223372036854775808) ∧ (-9223372036854775808 ≤ size ∧ size < 9223372036854775808) ∧ (-9223372036854775808 ≤ index ∧ index < 9223372036854775808) ∧
    (0 ≤ ld ∧ ld ≤ 140737488351232 ∧ ld = dd.length ∧ allB dd) ∧ (0 ≤ lo ∧ lo ≤ 140737488351232 ∧ lo = od.length ∧ allB od) ∧ intIn lb bd ∧ byteP m ∧ intIn lp pd ∧ pcOk h pd lp.toNat
def caseIn (ρ : Env) : Prop := caseP (ρ 0).i (ρ 1).i (ρ 2).i (ρ 3).i (ρ 5).i (ρ 8).i (ρ 11).i (ρ 13).i (ρ 14).i (ρ 15).i (ρ 17).i (ρ 19).d (ρ 21).d (ρ 23).d (ρ 25).d (ρ 27).h
def cData : SV := .one (.vslice 4 (.lit 0) (.var 5) (.var 6) 1)
def cOther : SV := .one (.vslice 7 (.lit 0) (.var 8) (.var 9) 1)
def lawCase (fn : Nat) : Ctr := lawIs fn 28 [caseArg] caseRo caseIn
def xorTo (a b : List Int) (n : Nat) : List Int := (List.range a.length).map fun i => if i < n then xorB (a.getD i 0) (b.getD i 0) else a.getD i 0
def lawLinearC : Ctr := { lawCase 6 with ip := [(1002, 9)] }
def fHpR (r n : Nat) : SH := .arr r 98 kField (.var n) (.lit 1)
def fArgR (r : Nat) : SV := .one (.vptr r (.lit 0) 769 0)
/-- 1001 .. the sum so far. -/
def linI : Inv := { key := 7, nv := 6, env := [(3, iv .i64 (.var 0)), (4, iv .i64 (.var 1)), (5, cData), (6, cOther), (7, fArgR 1000), (8, .one (.vslice 1001 (.lit 0) (.var 5) (.var 1002) 1)), (9, iv .i64 (.var 1003))], heap := [fHpR 1000 1004, bHp 1001 1005 1002], inv := (fun ρ => fieldD (ρ 1004).d ∧ (ρ 1005).d.length = (ρ 5).i.toNat ∧ allB (ρ 1005).d ∧ 0 ≤ (ρ 1003).i ∧ (ρ 1003).i ≤ (ρ 5).i ∧ bI (ρ 1005).d = xorTo (bI (ρ 19).d) (bI (ρ 21).d) (ρ 1003).i.toNat), mu := (fun ρ => ((ρ 5).i - (ρ 1003).i).toNat) }
def linEnv : List (Nat × SV) := [(4, iv .i64 (.var 1)), (10, pcS 1000 1 1001), (12, pcS 1003 1 1004), (14, pcS 1006 1 1007), (16, iv .i64 (.var 1009))]
def linHp : List SH := [pcHp 1000 1002 1001, pcHp 1003 1005 1004, pcHp 1006 1008 1007, .abs 1010 2]
def linP (k total i : Int) (da db : List Int) (A B C : Rows') (h : Hp) : Prop := 0 ≤ i ∧ i ≤ total ∧ A.length = total.toNat ∧ B.length = total.toNat ∧ C.length = total.toNat ∧ encAt h A total.toNat (encP k.toNat total.toNat da) ∧ encAt h B total.toNat (encP k.toNat total.toNat db) ∧ encAt h C total.toNat (encP k.toNat total.toNat (xorTo da db da.length))
def linJ : Inv := { key := 16, nv := 11, env := linEnv, heap := linHp, inv := (fun ρ => linP (ρ 0).i (ρ 1).i (ρ 1009).i (bI (ρ 19).d) (bI (ρ 21).d) (ρ 1002).d (ρ 1005).d (ρ 1008).d (ρ 1010).h), mu := (fun ρ => ((ρ 1).i - (ρ 1009).i).toNat) }
/-- 1011 the byte. -/
def linK : Inv := { key := 21, nv := 12, env := linEnv ++ [(17, iv .i64 (.var 1011))], heap := linHp, inv := (fun ρ => linP (ρ 0).i (ρ 1).i (ρ 1009).i (bI (ρ 19).d) (bI (ρ 21).d) (ρ 1002).d (ρ 1005).d (ρ 1008).d (ρ 1010).h ∧ (ρ 1009).i < (ρ 1).i ∧ (ρ 1009).i = (ρ 71).i ∧ 0 ≤ (ρ 1011).i ∧ (ρ 1011).i ≤ (pieceLen (ρ 0).i.toNat (ρ 19).d.length : Nat)), mu := (fun ρ => (pieceLen (ρ 0).i.toNat (ρ 19).d.length - (ρ 1011).i).toNat) }
/-! ### Different objects -/
def lawDistanceC : Ctr := lawCase 7
def cntD (f g : Nat → List Int) (n : Nat) : Nat := ((List.range n).filter fun j => decide (f j ≠ g j)).length
/-- The object with one byte changed. -/
def otherL (d : List Int) (a m : Int) : List Int := d.set a.toNat (xorB (d.getD a.toNat 0) m)
def disI : Inv := { key := 13, nv := 9, env := [(3, iv .i64 (.var 0)), (4, iv .i64 (.var 1)), (10, pcS 1000 1 1001), (12, pcS 1003 1 1004), (14, iv .i64 (.var 1006)), (15, iv .i64 (.var 1007))], heap := [pcHp 1000 1002 1001, pcHp 1003 1005 1004, .abs 1008 2], inv := (fun ρ => 0 ≤ (ρ 1007).i ∧ (ρ 1007).i ≤ (ρ 1).i ∧ encAt (ρ 1008).h (ρ 1002).d (ρ 1).i.toNat (encP (ρ 0).i.toNat (ρ 1).i.toNat (bI (ρ 19).d)) ∧ encAt (ρ 1008).h (ρ 1005).d (ρ 1).i.toNat (encP (ρ 0).i.toNat (ρ 1).i.toNat (otherL (bI (ρ 19).d) (ρ 14).i (ρ 15).i)) ∧
  (ρ 1006).i = (cntD (encP (ρ 0).i.toNat (ρ 1).i.toNat (bI (ρ 19).d)) (encP (ρ 0).i.toNat (ρ 1).i.toNat (otherL (bI (ρ 19).d) (ρ 14).i (ρ 15).i)) (ρ 1007).i.toNat : Nat)), mu := (fun ρ => ((ρ 1).i - (ρ 1007).i).toNat) }
end Go.Eng
