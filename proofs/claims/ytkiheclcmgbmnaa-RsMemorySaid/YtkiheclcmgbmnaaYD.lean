/- Matrices of the reference, and laws about matrices: contracts. -/
import Derived.Test.YtkiheclcmgbmnaaGE
import Derived.Test.YtkiheclcmgbmnaaGD
set_option linter.unusedSimpArgs false
set_option linter.unusedVariables false
namespace Go.Eng
open Go Go.Proofs

def good43C : Ctr := { valid36C with fn := 43 }
def own42R : Ctr := { clone84C with fn := 42 }
def own42C : Ctr := { cloneKC with fn := 42 }
def large48C : Ctr := { fn := 48, nv := 7, args := [mArg 0 1 2 3 4], heap := [], ro := [bHp 2 5 6], pre := fun ρ => 0 ≤ (ρ 3).i, alts := [{ k := 1, ret := .one (.vbool (.var 7)), heap := [], post := fun ρ => (ρ 7).b = true ↔ (60 < (ρ 0).i ∨ 60 < (ρ 1).i ∨ 3600 < (ρ 3).i) }] }
def sameMP (r c l r' c' l' : Int) (d d' : Rows') : Prop := r = r' ∧ c = c' ∧ (bI d).take l.toNat = (bI d').take l'.toNat
def same44C : Ctr := { fn := 44, nv := 14, args := [mArg 0 1 2 3 4, mArg 7 8 9 10 11], heap := [], ro := [bHp 2 5 6, bHp 9 12 13], pre := fun ρ => 0 ≤ (ρ 3).i ∧ (ρ 3).i ≤ (ρ 5).d.length ∧ allB (ρ 5).d ∧ 0 ≤ (ρ 10).i ∧ (ρ 10).i ≤ (ρ 12).d.length ∧ allB (ρ 12).d, alts := [{ k := 1, ret := .one (.vbool (.var 14)), heap := [], post := fun ρ => (ρ 14).b = true ↔ sameMP (ρ 0).i (ρ 1).i (ρ 3).i (ρ 7).i (ρ 8).i (ρ 10).i (ρ 5).d (ρ 12).d }] }
def same59C : Ctr := { same44C with fn := 59 }
def unit41C : Ctr := { ident40C with fn := 41 }
def unit41I : Inv := { key := 5, nv := 7, env := [(0, iv .i64 (.var 0)), (2, .one (.vptr 1006 (.lit 0) 3 0)), (4, .one (.vslice 1001 (.lit 0) (.var 1002) (.var 1003) 1)), (5, iv .i64 (.var 1000))], heap := [zBox 1006, bHp 1001 1004 1003], inv := ident40I.inv, mu := ident40I.mu }
/-! ### Powers -/
def powers46C : Ctr := { fn := 46, nv := 2, args := [iv .i64 (.var 0), iv .i64 (.var 1)], heap := [], ro := [], pre := fun _ => True, alts := [
  { k := 0, ret := .tup [nilM, eRet (.lit 2)], heap := [], post := fun ρ => vanderBad (ρ 0).i (ρ 1).i },
  { k := 4, ret := .tup [mRet (.var 0) (.var 1) 2 3 4, eRet (.lit 0)], heap := [bHp 2 5 4], post := fun ρ => ¬ vanderBad (ρ 0).i (ρ 1).i ∧ (ρ 3).i = (ρ 5).d.length ∧ bI (ρ 5).d = vanderL (ρ 0).i.toNat (ρ 1).i.toNat }] }
def growP (r c l n : Int) (d : Rows') (full : List Int) : Prop := ¬ vanderBad r c ∧ l = d.length ∧ bI d = full.take n.toNat
/-- 1000 the row, 1001 .. 1004 the cells so far, 1005 the result's box. -/
def powers46I : Inv := { key := 5, nv := 6, env := [(0, iv .i64 (.var 0)), (1, iv .i64 (.var 1)), (4, .one (.vptr 1005 (.lit 0) 3 0)), (6, .one (.vslice 1001 (.lit 0) (.var 1002) (.var 1003) 1)), (7, iv .i64 (.var 1000))], heap := [zBox 1005, bHp 1001 1004 1003], inv := (fun ρ => 0 ≤ (ρ 1000).i ∧ (ρ 1000).i ≤ (ρ 0).i ∧ growP (ρ 0).i (ρ 1).i (ρ 1002).i ((ρ 1000).i * (ρ 1).i) (ρ 1004).d (vanderL (ρ 0).i.toNat (ρ 1).i.toNat)), mu := (fun ρ => ((ρ 0).i - (ρ 1000).i).toNat) }
/-- 1006 the power, 1007 the column. -/
def powers46J : Inv := { key := 9, nv := 8, env := powers46I.env ++ [(8, iv .u8 (.var 1006)), (9, iv .i64 (.var 1007))], heap := powers46I.heap, inv := (fun ρ => 0 ≤ (ρ 1000).i ∧ (ρ 1000).i < (ρ 0).i ∧ 0 ≤ (ρ 1007).i ∧ (ρ 1007).i ≤ (ρ 1).i ∧ (ρ 1000).i = (ρ 4).i ∧ (ρ 1006).i = powF (ρ 1000).i (ρ 1007).i ∧ growP (ρ 0).i (ρ 1).i (ρ 1002).i ((ρ 1000).i * (ρ 1).i + (ρ 1007).i) (ρ 1004).d (vanderL (ρ 0).i.toNat (ρ 1).i.toNat)), mu := (fun ρ => ((ρ 1).i - (ρ 1007).i).toNat) }
/-! ### Products -/
/-- The cells after t products have been added. -/
def mulN (a b : List Int) (ra ca cb : Nat) : Nat → List Int
  | 0 => List.replicate (ra * cb) 0
  | t + 1 => let s := mulN a b ra ca cb t; s.set (t / ca) (xorB (s.getD (t / ca) 0) (mulF (a.getD (t / ca / cb * ca + t % ca) 0) (b.getD (t % ca * cb + t / ca % cb) 0)))
def mArgA : SV := mArg 0 1 2 3 4
def mArgB : SV := mArg 7 8 9 10 11
def mul50C : Ctr := { fn := 50, nv := 14, args := [mArgA, mArgB], heap := [], ro := [bHp 2 5 6, bHp 9 12 13], pre := fun ρ => 0 ≤ (ρ 3).i ∧ (ρ 3).i ≤ (ρ 5).d.length ∧ allB (ρ 5).d ∧ 0 ≤ (ρ 10).i ∧ (ρ 10).i ≤ (ρ 12).d.length ∧ allB (ρ 12).d, alts := [
  { k := 0, ret := .tup [nilM, eRet (.lit 2)], heap := [], post := fun ρ => ¬ (validM (ρ 0).i (ρ 1).i (ρ 3).i ∧ validM (ρ 7).i (ρ 8).i (ρ 10).i) },
  { k := 0, ret := .tup [nilM, eRet (.lit 10)], heap := [], post := fun ρ => validM (ρ 0).i (ρ 1).i (ρ 3).i ∧ validM (ρ 7).i (ρ 8).i (ρ 10).i ∧ (ρ 1).i ≠ (ρ 7).i },
  { k := 4, ret := .tup [mRet (.var 0) (.var 8) 14 15 16, eRet (.lit 0)], heap := [bHp 14 17 16], post := fun ρ => validM (ρ 0).i (ρ 1).i (ρ 3).i ∧ validM (ρ 7).i (ρ 8).i (ρ 10).i ∧ (ρ 1).i = (ρ 7).i ∧ matOk (ρ 0).i (ρ 8).i (ρ 15).i (ρ 16).i (ρ 17).d ∧ (ρ 15).i = (ρ 17).d.length ∧ bI (ρ 17).d = prodL ((bI (ρ 5).d).take (ρ 3).i.toNat) ((bI (ρ 12).d).take (ρ 10).i.toNat) (ρ 0).i.toNat (ρ 1).i.toNat (ρ 8).i.toNat }] }
def mulHp : List SH := [zBox 1005, boxM 1006 0 1 2 3 4, boxM 1007 7 8 9 10 11, bHp 1001 1004 1003]
def mulEnv : List (Nat × SV) := [(2, .one (.vptr 1006 (.lit 0) 3 0)), (3, .one (.vptr 1007 (.lit 0) 3 0)), (4, .one (.vptr 1005 (.lit 0) 3 0)), (6, .one (.vslice 1001 (.lit 0) (.var 1002) (.var 1003) 1)), (7, iv .i64 (.var 1000))]
def mulP (ra ca la ca' cb lb l cap t : Int) (d da db : Rows') : Prop := validM ra ca la ∧ validM ca' cb lb ∧ ca = ca' ∧ matOk ra cb l cap d ∧ l = d.length ∧ bI d = mulN ((bI da).take la.toNat) ((bI db).take lb.toNat) ra.toNat ca.toNat cb.toNat t.toNat
def mul50I : Inv := { key := 7, nv := 8, env := mulEnv, heap := mulHp, inv := (fun ρ => 0 ≤ (ρ 1000).i ∧ (ρ 1000).i ≤ (ρ 0).i ∧ mulP (ρ 0).i (ρ 1).i (ρ 3).i (ρ 7).i (ρ 8).i (ρ 10).i (ρ 1002).i (ρ 1003).i ((ρ 1000).i * (ρ 8).i * (ρ 1).i) (ρ 1004).d (ρ 5).d (ρ 12).d), mu := (fun ρ => ((ρ 0).i - (ρ 1000).i).toNat) }
/-- 1008 the column. -/
def mul50J : Inv := { key := 10, nv := 9, env := mulEnv ++ [(8, iv .i64 (.var 1008))], heap := mulHp, inv := (fun ρ => 0 ≤ (ρ 1000).i ∧ (ρ 1000).i < (ρ 0).i ∧ 0 ≤ (ρ 1008).i ∧ (ρ 1008).i ≤ (ρ 8).i ∧ (ρ 1000).i = (ρ 20).i ∧ mulP (ρ 0).i (ρ 1).i (ρ 3).i (ρ 7).i (ρ 8).i (ρ 10).i (ρ 1002).i (ρ 1003).i (((ρ 1000).i * (ρ 8).i + (ρ 1008).i) * (ρ 1).i) (ρ 1004).d (ρ 5).d (ρ 12).d), mu := (fun ρ => ((ρ 8).i - (ρ 1008).i).toNat) }
/-- 1009 the number in the sum. -/
def mul50K : Inv := { key := 13, nv := 10, env := mulEnv ++ [(8, iv .i64 (.var 1008)), (9, iv .i64 (.var 1009))], heap := mulHp, inv := (fun ρ => 0 ≤ (ρ 1000).i ∧ (ρ 1000).i < (ρ 0).i ∧ 0 ≤ (ρ 1008).i ∧ (ρ 1008).i < (ρ 8).i ∧ 0 ≤ (ρ 1009).i ∧ (ρ 1009).i ≤ (ρ 1).i ∧ (ρ 1000).i = (ρ 28).i ∧ (ρ 1008).i = (ρ 36).i ∧ mulP (ρ 0).i (ρ 1).i (ρ 3).i (ρ 7).i (ρ 8).i (ρ 10).i (ρ 1002).i (ρ 1003).i (((ρ 1000).i * (ρ 8).i + (ρ 1008).i) * (ρ 1).i + (ρ 1009).i) (ρ 1004).d (ρ 5).d (ρ 12).d), mu := (fun ρ => ((ρ 1).i - (ρ 1009).i).toNat) }
def matIn (l cap : Int) (d : Rows') : Prop := 0 ≤ l ∧ l ≤ 140737488351232 ∧ l = d.length ∧ allB d ∧ l ≤ cap
def lawProductsC : Ctr := lawIs 12 14 [mArgA, mArgB] [bHp 2 5 6, bHp 9 12 13] fun ρ => matIn (ρ 3).i (ρ 4).i (ρ 5).d ∧ matIn (ρ 10).i (ρ 11).i (ρ 12).d
/-! ### Rows that are selected -/
def kI : List CK := [.int .i64]
def iHp (r d c : Nat) : SH := .arr r 3 kI (.var d) (.var c)
def iI (d : Rows') : List Int := d.map fun r => rowI r 0
/-- The rows of the numbers rs, one behind the other. -/
def selL (m : List Int) (cols : Nat) (rs : List Int) : List Int := rs.flatMap fun r => seg m (r.toNat * cols) cols
def selBad (r c l : Int) (n rows : Int) (rs : List Int) : Prop := ¬ validM r c l ∨ n = 0 ∨ 255 < n ∨ ∃ x ∈ rs, x < 0 ∨ rows ≤ x
/-- Matrix 0 .. 6; numbers 7 (region), 8, 9, rows 10, their capacity 11. -/
def sel62C : Ctr := { fn := 62, nv := 12, args := [mArgA, .one (.vslice 7 (.lit 0) (.var 8) (.var 9) 1)], heap := [], ro := [bHp 2 5 6, iHp 7 10 11], pre := fun ρ => 0 ≤ (ρ 3).i ∧ (ρ 3).i ≤ (ρ 4).i ∧ (ρ 3).i ≤ (ρ 5).d.length ∧ allB (ρ 5).d ∧ 0 ≤ (ρ 8).i ∧ (ρ 8).i = (ρ 10).d.length, alts := [
  { k := 0, ret := .tup [nilM, eRet (.lit 2)], heap := [], post := fun ρ => selBad (ρ 0).i (ρ 1).i (ρ 3).i (ρ 8).i (ρ 0).i (iI (ρ 10).d) },
  { k := 4, ret := .tup [mRet (.var 8) (.var 1) 12 13 14, eRet (.lit 0)], heap := [bHp 12 15 14], post := fun ρ => ¬ selBad (ρ 0).i (ρ 1).i (ρ 3).i (ρ 8).i (ρ 0).i (iI (ρ 10).d) ∧ matOk (ρ 8).i (ρ 1).i (ρ 13).i (ρ 14).i (ρ 15).d ∧ (ρ 13).i = (ρ 15).d.length ∧ bI (ρ 15).d = selL (bI (ρ 5).d) (ρ 1).i.toNat (iI (ρ 10).d) }] }
def selOk (r c l n : Int) : Prop := validM r c l ∧ 1 ≤ n ∧ n ≤ 255
/-- Numbers so far are rows. -/
def sel62I : Inv := { key := 4, nv := 3, env := [(1, .one (.vslice 7 (.lit 0) (.var 8) (.var 9) 1)), (2, .one (.vptr 1001 (.lit 0) 3 0)), (4, .one (.vptr 1002 (.lit 0) 3 0)), (25, .one (.vslice 7 (.lit 0) (.var 8) (.var 9) 1)), (26, iv .i64 (.var 8)), (27, iv .i64 (.var 1000))], heap := [zBox 1002, boxM 1001 0 1 2 3 4], inv := (fun ρ => selOk (ρ 0).i (ρ 1).i (ρ 3).i (ρ 8).i ∧ 0 ≤ (ρ 1000).i ∧ (ρ 1000).i ≤ (ρ 8).i ∧ ∀ x ∈ (iI (ρ 10).d).take (ρ 1000).i.toNat, 0 ≤ x ∧ x < (ρ 0).i), mu := (fun ρ => ((ρ 8).i - (ρ 1000).i).toNat) }
/-- The first rows are copied: 1003 .. 1006 the new matrix, 1007 its box. -/
def sel62J : Inv := { key := 11, nv := 8, env := [(2, .one (.vptr 1001 (.lit 0) 3 0)), (4, .one (.vptr 1002 (.lit 0) 3 0)), (8, .one (.vptr 1007 (.lit 0) 3 0)), (46, .one (.vslice 7 (.lit 0) (.var 8) (.var 9) 1)), (47, iv .i64 (.var 8)), (48, iv .i64 (.var 1000))], heap := [zBox 1002, boxM 1001 0 1 2 3 4, boxM 1007 8 1 1003 1004 1005, bHp 1003 1006 1005], inv := (fun ρ => selOk (ρ 0).i (ρ 1).i (ρ 3).i (ρ 8).i ∧ 0 ≤ (ρ 1000).i ∧ (ρ 1000).i ≤ (ρ 8).i ∧ (∀ x ∈ iI (ρ 10).d, 0 ≤ x ∧ x < (ρ 0).i) ∧ matOk (ρ 8).i (ρ 1).i (ρ 1004).i (ρ 1005).i (ρ 1006).d ∧ (ρ 1004).i = (ρ 1006).d.length ∧ (bI (ρ 1006).d).take ((ρ 1000).i * (ρ 1).i).toNat = selL (bI (ρ 5).d) (ρ 1).i.toNat ((iI (ρ 10).d).take (ρ 1000).i.toNat)), mu := (fun ρ => ((ρ 8).i - (ρ 1000).i).toNat) }
def pick63C : Ctr := { sel62C with fn := 63, pre := fun ρ => 0 ≤ (ρ 3).i ∧ (ρ 3).i ≤ (ρ 5).d.length ∧ allB (ρ 5).d ∧ 0 ≤ (ρ 8).i ∧ (ρ 8).i = (ρ 10).d.length, alts := [
  { k := 0, ret := .tup [nilM, eRet (.lit 2)], heap := [], post := fun ρ => selBad (ρ 0).i (ρ 1).i (ρ 3).i (ρ 8).i (ρ 0).i (iI (ρ 10).d) },
  { k := 4, ret := .tup [mRet (.var 8) (.var 1) 12 13 14, eRet (.lit 0)], heap := [bHp 12 15 14], post := fun ρ => ¬ selBad (ρ 0).i (ρ 1).i (ρ 3).i (ρ 8).i (ρ 0).i (iI (ρ 10).d) ∧ (ρ 13).i = (ρ 15).d.length ∧ bI (ρ 15).d = selL (bI (ρ 5).d) (ρ 1).i.toNat (iI (ρ 10).d) }] }
/-- 1003 .. 1006 the cells so far. -/
def pick63I : Inv := { key := 5, nv := 7, env := [(1, .one (.vslice 7 (.lit 0) (.var 8) (.var 9) 1)), (2, .one (.vptr 1001 (.lit 0) 3 0)), (4, .one (.vptr 1002 (.lit 0) 3 0)), (6, .one (.vslice 1003 (.lit 0) (.var 1004) (.var 1005) 1)), (7, iv .i64 (.var 1000))], heap := [zBox 1002, boxM 1001 0 1 2 3 4, bHp 1003 1006 1005], inv := (fun ρ => selOk (ρ 0).i (ρ 1).i (ρ 3).i (ρ 8).i ∧ 0 ≤ (ρ 1000).i ∧ (ρ 1000).i ≤ (ρ 8).i ∧ (∀ x ∈ (iI (ρ 10).d).take (ρ 1000).i.toNat, 0 ≤ x ∧ x < (ρ 0).i) ∧ (ρ 1004).i = (ρ 1006).d.length ∧ (ρ 1004).i = (ρ 1000).i * (ρ 1).i ∧ bI (ρ 1006).d = selL (bI (ρ 5).d) (ρ 1).i.toNat ((iI (ρ 10).d).take (ρ 1000).i.toNat)), mu := (fun ρ => ((ρ 8).i - (ρ 1000).i).toNat) }
/-- 1007 the column. -/
def pick63J : Inv := { key := 10, nv := 8, env := pick63I.env ++ [(8, iv .i64 (.var 1007))], heap := pick63I.heap, inv := (fun ρ => selOk (ρ 0).i (ρ 1).i (ρ 3).i (ρ 8).i ∧ 0 ≤ (ρ 1000).i ∧ (ρ 1000).i < (ρ 8).i ∧ (∀ x ∈ (iI (ρ 10).d).take ((ρ 1000).i.toNat + 1), 0 ≤ x ∧ x < (ρ 0).i) ∧ 0 ≤ (ρ 1007).i ∧ (ρ 1007).i ≤ (ρ 1).i ∧ (ρ 1000).i = (ρ 16).i ∧ (ρ 1004).i = (ρ 1006).d.length ∧ (ρ 1004).i = (ρ 1000).i * (ρ 1).i + (ρ 1007).i ∧ bI (ρ 1006).d = selL (bI (ρ 5).d) (ρ 1).i.toNat ((iI (ρ 10).d).take (ρ 1000).i.toNat) ++ seg (bI (ρ 5).d) (((iI (ρ 10).d).getD (ρ 1000).i.toNat 0).toNat * (ρ 1).i.toNat) (ρ 1007).i.toNat), mu := (fun ρ => ((ρ 1).i - (ρ 1007).i).toNat) }
def lawSelectsC : Ctr := lawIs 18 12 [mArgA, .one (.vslice 7 (.lit 0) (.var 8) (.var 9) 1)] [bHp 2 5 6, iHp 7 10 11] fun ρ => matIn (ρ 3).i (ρ 4).i (ρ 5).d ∧ 0 ≤ (ρ 8).i ∧ (ρ 8).i ≤ 17592186043904 ∧ (ρ 8).i = (ρ 10).d.length
/-! ### The basis -/
def firstL (n : Nat) : List Int := (List.range n).map fun (m : Nat) => (m : Int)
def wgtL (xs : List Int) (x : Int) : List Int := (List.range xs.length).map fun i => ofF (lagF xs.length (fun m => toF (xs.getD m 0)) (toF x) i)
def distL (xs : List Int) : Prop := Go.Proofs.distinct xs.length fun m => toF (xs.getD m 0)
def first79C : Ctr := { fn := 79, nv := 1, args := [iv .i64 (.var 0)], heap := [], ro := [], pre := fun ρ => 0 ≤ (ρ 0).i ∧ (ρ 0).i ≤ 255, alts := [{ k := 3, ret := .one (.vslice 1 (.lit 0) (.var 0) (.var 2) 1), heap := [bHp 1 3 2], post := fun ρ => bI (ρ 3).d = firstL (ρ 0).i.toNat }] }
def first79I : Inv := { key := 3, nv := 4, env := [(0, iv .i64 (.var 0)), (3, .one (.vslice 1001 (.lit 0) (.var 1000) (.var 1002) 1)), (4, iv .i64 (.var 1000))], heap := [bHp 1001 1003 1002], inv := (fun ρ => 0 ≤ (ρ 1000).i ∧ (ρ 1000).i ≤ (ρ 0).i ∧ bI (ρ 1003).d = firstL (ρ 1000).i.toNat), mu := (fun ρ => ((ρ 0).i - (ρ 1000).i).toNat) }
/-- The points: region 0, length 1, capacity 2, rows 3, their capacity 4; the place 5. -/
def wgt78C : Ctr := { fn := 78, nv := 6, args := [.one (.vslice 0 (.lit 0) (.var 1) (.var 2) 1), iv .u8 (.var 5)], heap := [], ro := [bHp 0 3 4], pre := fun ρ => 0 ≤ (ρ 1).i ∧ (ρ 1).i ≤ 256 ∧ (ρ 1).i = (ρ 3).d.length ∧ allB (ρ 3).d ∧ byteP (ρ 5).i ∧ distL (bI (ρ 3).d), alts := [{ k := 3, ret := .one (.vslice 6 (.lit 0) (.var 1) (.var 7) 1), heap := [bHp 6 8 7], post := fun ρ => (ρ 1).i ≤ (ρ 7).i ∧ bI (ρ 8).d = wgtL (bI (ρ 3).d) (ρ 5).i }] }
def wgtEnv : List (Nat × SV) := [(0, .one (.vslice 0 (.lit 0) (.var 1) (.var 2) 1)), (1, iv .u8 (.var 5)), (5, .one (.vslice 1000 (.lit 0) (.var 1) (.var 1001) 1))]
def wgtX (d : Rows') (m : Nat) : F := toF ((bI d).getD m 0)
/-- No point so far is the place. -/
def wgt78I : Inv := { key := 3, nv := 4, env := wgtEnv ++ [(6, iv .i64 (.var 1003))], heap := [bHp 1000 1002 1001], inv := (fun ρ => (ρ 1).i ≤ (ρ 1001).i ∧ (ρ 1002).d = List.replicate (ρ 1).i.toNat [.int .u8 0] ∧ 0 ≤ (ρ 1003).i ∧ (ρ 1003).i ≤ (ρ 1).i ∧ ∀ m : Nat, (m : Int) < (ρ 1003).i → toF (ρ 5).i ≠ wgtX (ρ 3).d m), mu := (fun ρ => ((ρ 1).i - (ρ 1003).i).toNat) }
def notIn (n : Int) (x : Int) (d : Rows') : Prop := ∀ m : Nat, (m : Int) < n → toF x ≠ wgtX d m
/-- 1003 the product, 1004 the round. -/
def wgt78J : Inv := { key := 10, nv := 5, env := wgtEnv ++ [(7, iv .u8 (.var 1003)), (8, iv .i64 (.var 1004))], heap := [bHp 1000 1002 1001], inv := (fun ρ => (ρ 1).i ≤ (ρ 1001).i ∧ (ρ 1002).d = List.replicate (ρ 1).i.toNat [.int .u8 0] ∧ notIn (ρ 1).i (ρ 5).i (ρ 3).d ∧ 0 ≤ (ρ 1004).i ∧ (ρ 1004).i ≤ (ρ 1).i ∧ byteP (ρ 1003).i ∧ toF (ρ 1003).i = fprod (fun m => toF (ρ 5).i ^^^ wgtX (ρ 3).d m) (ρ 1004).i.toNat), mu := (fun ρ => ((ρ 1).i - (ρ 1004).i).toNat) }
def wgtP (n x abv i : Int) (dw d : Rows') : Prop := notIn n x d ∧ byteP abv ∧ toF abv = fprod (fun m => toF x ^^^ wgtX d m) n.toNat ∧ dw.length = n.toNat ∧ 0 ≤ i ∧ i ≤ n ∧ bI dw = fillTo (fun j => ofF (lagF n.toNat (wgtX d) (toF x) j)) n.toNat i.toNat
def wgt78K : Inv := { key := 14, nv := 5, env := wgtEnv ++ [(7, iv .u8 (.var 1003)), (9, iv .i64 (.var 1004))], heap := [bHp 1000 1002 1001], inv := (fun ρ => (ρ 1).i ≤ (ρ 1001).i ∧ wgtP (ρ 1).i (ρ 5).i (ρ 1003).i (ρ 1004).i (ρ 1002).d (ρ 3).d), mu := (fun ρ => ((ρ 1).i - (ρ 1004).i).toNat) }
/-- 1005 the product below, 1006 the round. -/
def wgt78L : Inv := { key := 18, nv := 7, env := wgtEnv ++ [(7, iv .u8 (.var 1003)), (9, iv .i64 (.var 1004)), (10, iv .u8 (.var 1005)), (11, iv .i64 (.var 1006))], heap := [bHp 1000 1002 1001], inv := (fun ρ => (ρ 1).i ≤ (ρ 1001).i ∧ wgtP (ρ 1).i (ρ 5).i (ρ 1003).i (ρ 1004).i (ρ 1002).d (ρ 3).d ∧ (ρ 1004).i < (ρ 1).i ∧ (ρ 1004).i = (ρ 20).i ∧ 0 ≤ (ρ 1006).i ∧ (ρ 1006).i ≤ (ρ 1).i ∧ byteP (ρ 1005).i ∧ toF (ρ 1005).i = fmul (toF (ρ 5).i ^^^ wgtX (ρ 3).d (ρ 1004).i.toNat) (fprod (fun m => if m = (ρ 1004).i.toNat then 1 else wgtX (ρ 3).d (ρ 1004).i.toNat ^^^ wgtX (ρ 3).d m) (ρ 1006).i.toNat)), mu := (fun ρ => ((ρ 1).i - (ρ 1006).i).toNat) }
def sizes29C : Ctr := { sizes74C with fn := 29 }
def basis47C : Ctr := { fn := 47, nv := 2, args := [iv .i64 (.var 0), iv .i64 (.var 1)], heap := [], ro := [], pre := fun _ => True, alts := [
  { k := 0, ret := .tup [nilM, eRet (.lit 2)], heap := [], post := fun ρ => sizesB (ρ 0).i (ρ 1).i = false },
  { k := 5, ret := .tup [mRet (.var 1) (.var 0) 2 3 4, eRet (.lit 0)], heap := [bHp 2 5 4, .abs 6 2], post := fun ρ => sizesB (ρ 0).i (ρ 1).i = true ∧ (ρ 3).i = (ρ 5).d.length ∧ bI (ρ 5).d = genL (ρ 0).i.toNat (ρ 1).i.toNat }] }
def basis47I : Inv := { key := 5, nv := 7, env := [(0, iv .i64 (.var 0)), (1, iv .i64 (.var 1)), (4, .one (.vptr 1005 (.lit 0) 3 0)), (6, .one (.vslice 1001 (.lit 0) (.var 1002) (.var 1003) 1)), (7, iv .i64 (.var 1000))], heap := [zBox 1005, bHp 1001 1004 1003, .abs 1006 2], inv := (fun ρ => sizesB (ρ 0).i (ρ 1).i = true ∧ 0 ≤ (ρ 1000).i ∧ (ρ 1000).i ≤ (ρ 1).i ∧ (ρ 1002).i = (ρ 1004).d.length ∧ bI (ρ 1004).d = (genL (ρ 0).i.toNat (ρ 1).i.toNat).take ((ρ 1000).i.toNat * (ρ 0).i.toNat)), mu := (fun ρ => ((ρ 1).i - (ρ 1000).i).toNat) }
def lawShapesC : Ctr := lawIs 11 9 [mArgA, iv .i64 (.var 7), iv .i64 (.var 8)] [bHp 2 5 6] fun ρ => matIn (ρ 3).i (ρ 4).i (ρ 5).d
end Go.Eng
