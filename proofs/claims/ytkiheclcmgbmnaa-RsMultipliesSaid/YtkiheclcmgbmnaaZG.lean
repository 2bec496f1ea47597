/- Matrices over the field: contracts of the greater calls. -/
import Derived.Test.YtkiheclcmgbmnaaZB
set_option linter.unusedSimpArgs false
set_option linter.unusedVariables false
namespace Go.Eng
open Go

/-! ### What they compute -/
/-- The first n places filled, the others 0. -/
def fillTo (f : Nat → Int) (len n : Nat) : List Int := (List.range len).map fun i => if i < n then f i else 0
def identTo (n m : Nat) : List Int := (List.range (n * n)).map fun t => if t / n = t % n ∧ t / n < m then 1 else 0
def vanderF (cols : Nat) (i : Nat) : Int := powF (i / cols : Nat) (i % cols : Nat)
def vanderL (rows cols : Nat) : List Int := fillTo (vanderF cols) (rows * cols) (rows * cols)
/-- The product after t additions of rows. -/
def prodN (a b : List Int) (ra ca cb : Nat) : Nat → List Int
  | 0 => List.replicate (ra * cb) 0
  | t + 1 => addToL (prodN a b ra ca cb t) (t / ca * cb) (seg b (t % ca * cb) cb) (a.getD t 0)
def prodL (a b : List Int) (ra ca cb : Nat) : List Int := prodN a b ra ca cb (ra * ca)
/-- The row of the pivot. -/
def pivF (a : List Int) (ca c : Nat) : Nat → Nat → Nat
  | p, 0 => p
  | p, n + 1 => if a.getD (p * ca + c) 0 = 0 then pivF a ca c (p + 1) n else p
def elimRows (ca cb rank c : Nat) (a b : List Int) : Nat → List Int × List Int
  | 0 => (a, b)
  | i + 1 =>
    let s := elimRows ca cb rank c a b i
    if i = rank then s else
      (addToL s.1 (i * ca) (seg s.1 (rank * ca) ca) (s.1.getD (i * ca + c) 0), addToL s.2 (i * cb) (seg s.2 (rank * cb) cb) (s.1.getD (i * ca + c) 0))
def swapR (ca cb rank p : Nat) (a b : List Int) : List Int × List Int :=
  if p = rank then (a, b) else (addToL a (rank * ca) (seg a (p * ca) ca) 1, addToL b (rank * cb) (seg b (p * cb) cb) 1)
def scaleR (ca cb rank c : Nat) (a b : List Int) : List Int × List Int :=
  (scaleL a (rank * ca) ca (invF (a.getD (rank * ca + c) 0)), scaleL b (rank * cb) cb (invF (a.getD (rank * ca + c) 0)))
/-- The pivot's row is brought up and scaled. -/
def elimMid (rows ca cb c : Nat) (s : List Int × List Int × Nat) : List Int × List Int :=
  let s1 := swapR ca cb s.2.2 (pivF s.1 ca c s.2.2 (rows - s.2.2)) s.1 s.2.1
  scaleR ca cb s.2.2 c s1.1 s1.2
def elimStep (rows ca cb c : Nat) (s : List Int × List Int × Nat) : List Int × List Int × Nat :=
  if rows ≤ s.2.2 then s else
    if pivF s.1 ca c s.2.2 (rows - s.2.2) = rows then s else
      let s3 := elimRows ca cb s.2.2 c (elimMid rows ca cb c s).1 (elimMid rows ca cb c s).2 rows
      (s3.1, s3.2, s.2.2 + 1)
def elimN (rows ca cb : Nat) (a b : List Int) : Nat → List Int × List Int × Nat
  | 0 => (a, b, 0)
  | c + 1 => elimStep rows ca cb c (elimN rows ca cb a b c)

/-! ### Contracts -/
def mRet (a b : T) (r l c : Nat) : Bool × List T := (true, [.vint .i64 a, .vint .i64 b, .vslice r (.lit 0) (.var l) (.var c) 1])
def nilM : Bool × List T := (true, [.vint .i64 (.lit 0), .vint .i64 (.lit 0), .vnils])
def eRet (t : T) : Bool × List T := (false, [.vint .i64 t])
def ident40C : Ctr := { fn := 40, nv := 1, args := [iv .i64 (.var 0)], heap := [], ro := [], pre := fun _ => True, alts := [
  { k := 0, ret := .tup [nilM, eRet (.lit 2)], heap := [], post := fun ρ => (ρ 0).i < 1 ∨ 255 < (ρ 0).i },
  { k := 4, ret := .tup [mRet (.var 0) (.var 0) 1 2 3, eRet (.lit 0)], heap := [bHp 1 4 3], post := fun ρ => 1 ≤ (ρ 0).i ∧ (ρ 0).i ≤ 255 ∧ matOk (ρ 0).i (ρ 0).i (ρ 2).i (ρ 3).i (ρ 4).d ∧ (ρ 2).i = (ρ 4).d.length ∧ bI (ρ 4).d = identTo (ρ 0).i.toNat (ρ 0).i.toNat }] }
/-- 1000 the round, 1001 .. 1004 the matrix, 1005 its box. -/
def ident40I : Inv := { key := 5, nv := 7, env := [(0, iv .i64 (.var 0)), (2, .one (.vptr 1006 (.lit 0) 3 0)), (4, .one (.vptr 1005 (.lit 0) 3 0)), (16, iv .i64 (.var 0)), (17, iv .i64 (.var 1000))], heap := [.cells 1005 43 [.vint .i64 (.var 0), .vint .i64 (.var 0), .vslice 1001 (.lit 0) (.var 1002) (.var 1003) 1], .cells 1006 43 [.vint .i64 (.lit 0), .vint .i64 (.lit 0), .vnils], bHp 1001 1004 1003], inv := (fun ρ => 1 ≤ (ρ 0).i ∧ (ρ 0).i ≤ 255 ∧ 0 ≤ (ρ 1000).i ∧ (ρ 1000).i ≤ (ρ 0).i ∧ matOk (ρ 0).i (ρ 0).i (ρ 1002).i (ρ 1003).i (ρ 1004).d ∧ (ρ 1002).i = (ρ 1004).d.length ∧ bI (ρ 1004).d = identTo (ρ 0).i.toNat (ρ 1000).i.toNat), mu := (fun ρ => ((ρ 0).i - (ρ 1000).i).toNat) }
def vanderBad (r c : Int) : Prop := r < 1 ∨ 255 < r ∨ c < 1 ∨ 255 < c
def vander45C : Ctr := { fn := 45, nv := 4, args := [fArg, iv .i64 (.var 2), iv .i64 (.var 3)], heap := [fHp 1], ro := [], pre := fun ρ => fieldD (ρ 1).d, alts := [
  { k := 1, ret := .tup [nilM, eRet (.lit 2)], heap := [fHp 4], post := fun ρ => fieldD (ρ 4).d ∧ vanderBad (ρ 2).i (ρ 3).i },
  { k := 5, ret := .tup [mRet (.var 2) (.var 3) 4 5 6, eRet (.lit 0)], heap := [fHp 7, bHp 4 8 6], post := fun ρ => fieldD (ρ 7).d ∧ ¬ vanderBad (ρ 2).i (ρ 3).i ∧ matOk (ρ 2).i (ρ 3).i (ρ 5).i (ρ 6).i (ρ 8).d ∧ (ρ 5).i = (ρ 8).d.length ∧ bI (ρ 8).d = vanderL (ρ 2).i.toNat (ρ 3).i.toNat }] }
def vandHp : List SH := [fHp 1006, .cells 1007 43 [.vint .i64 (.lit 0), .vint .i64 (.lit 0), .vnils], .cells 1005 43 [.vint .i64 (.var 2), .vint .i64 (.var 3), .vslice 1001 (.lit 0) (.var 1002) (.var 1003) 1], bHp 1001 1004 1003]
def vandInv (ρ : Env) (n : Int) : Prop := ¬ vanderBad (ρ 2).i (ρ 3).i ∧ fieldD (ρ 1006).d ∧ matOk (ρ 2).i (ρ 3).i (ρ 1002).i (ρ 1003).i (ρ 1004).d ∧ (ρ 1002).i = (ρ 1004).d.length ∧ bI (ρ 1004).d = fillTo (vanderF (ρ 3).i.toNat) ((ρ 2).i.toNat * (ρ 3).i.toNat) n.toNat
/-- 1000 the row, 1001 .. 1004 the matrix, 1005 its box, 1006 the field. -/
def vander45I : Inv := { key := 7, nv := 8, env := [(0, fArg), (1, iv .i64 (.var 2)), (2, iv .i64 (.var 3)), (6, .one (.vptr 1007 (.lit 0) 3 0)), (8, .one (.vptr 1005 (.lit 0) 3 0)), (32, iv .i64 (.var 2)), (33, iv .i64 (.var 1000))], heap := vandHp, inv := (fun ρ => 0 ≤ (ρ 1000).i ∧ (ρ 1000).i ≤ (ρ 2).i ∧ vandInv ρ ((ρ 1000).i * (ρ 3).i)), mu := (fun ρ => ((ρ 2).i - (ρ 1000).i).toNat) }
/-- 1008 the column. -/
def vander45J : Inv := { key := 10, nv := 9, env := [(0, fArg), (1, iv .i64 (.var 2)), (2, iv .i64 (.var 3)), (6, .one (.vptr 1007 (.lit 0) 3 0)), (8, .one (.vptr 1005 (.lit 0) 3 0)), (32, iv .i64 (.var 2)), (33, iv .i64 (.var 1000)), (9, iv .i64 (.var 1000)), (36, iv .i64 (.var 3)), (37, iv .i64 (.var 1008))], heap := vandHp, inv := (fun ρ => 0 ≤ (ρ 1000).i ∧ (ρ 1000).i < (ρ 2).i ∧ 0 ≤ (ρ 1008).i ∧ (ρ 1008).i ≤ (ρ 3).i ∧ vandInv ρ ((ρ 1000).i * (ρ 3).i + (ρ 1008).i) ∧ (ρ 1000).i = (ρ 10).i), mu := (fun ρ => ((ρ 3).i - (ρ 1008).i).toNat) }
/-- Two matrices: a at 2 .. 8, b at 9 .. 15. -/
def argA : SV := mArg 2 3 4 5 6
def argB : SV := mArg 9 10 11 12 13
def validM (r c l : Int) : Prop := 1 ≤ r ∧ r ≤ 255 ∧ 1 ≤ c ∧ c ≤ 255 ∧ l = r * c
def prod49C : Ctr := { fn := 49, nv := 16, args := [fArg, argA, argB], heap := [fHp 1], ro := [bHp 4 7 8, bHp 11 14 15], pre := fun ρ => fieldD (ρ 1).d ∧ 0 ≤ (ρ 5).i ∧ (ρ 5).i ≤ (ρ 6).i ∧ (ρ 5).i ≤ (ρ 7).d.length ∧ allB (ρ 7).d ∧ 0 ≤ (ρ 12).i ∧ (ρ 12).i ≤ (ρ 13).i ∧ (ρ 12).i ≤ (ρ 14).d.length ∧ allB (ρ 14).d, alts := [
  { k := 1, ret := .tup [nilM, eRet (.lit 2)], heap := [fHp 16], post := fun ρ => fieldD (ρ 16).d ∧ ¬ (validM (ρ 2).i (ρ 3).i (ρ 5).i ∧ validM (ρ 9).i (ρ 10).i (ρ 12).i) },
  { k := 1, ret := .tup [nilM, eRet (.lit 10)], heap := [fHp 16], post := fun ρ => fieldD (ρ 16).d ∧ validM (ρ 2).i (ρ 3).i (ρ 5).i ∧ validM (ρ 9).i (ρ 10).i (ρ 12).i ∧ (ρ 3).i ≠ (ρ 9).i },
  { k := 5, ret := .tup [mRet (.var 2) (.var 10) 16 17 18, eRet (.lit 0)], heap := [fHp 19, bHp 16 20 18], post := fun ρ => fieldD (ρ 19).d ∧ validM (ρ 2).i (ρ 3).i (ρ 5).i ∧ validM (ρ 9).i (ρ 10).i (ρ 12).i ∧ (ρ 3).i = (ρ 9).i ∧ matOk (ρ 2).i (ρ 10).i (ρ 17).i (ρ 18).i (ρ 20).d ∧ (ρ 17).i = (ρ 20).d.length ∧ bI (ρ 20).d = prodL ((bI (ρ 7).d).take (ρ 5).i.toNat) ((bI (ρ 14).d).take (ρ 12).i.toNat) (ρ 2).i.toNat (ρ 3).i.toNat (ρ 10).i.toNat }] }
def zBox (r : Nat) : SH := .cells r 43 [.vint .i64 (.lit 0), .vint .i64 (.lit 0), .vnils]
def boxM (r a b s l c : Nat) : SH := .cells r 43 [.vint .i64 (.var a), .vint .i64 (.var b), .vslice s (.lit 0) (.var l) (.var c) 1]
def prodHp : List SH := [fHp 1006, zBox 1009, boxM 1007 2 3 4 5 6, boxM 1008 9 10 11 12 13, boxM 1005 2 10 1001 1002 1003, bHp 1001 1004 1003]
def prodEnv : List (Nat × SV) := [(0, fArg), (6, .one (.vptr 1009 (.lit 0) 3 0)), (4, .one (.vptr 1007 (.lit 0) 3 0)), (5, .one (.vptr 1008 (.lit 0) 3 0)), (8, .one (.vptr 1005 (.lit 0) 3 0)), (36, iv .i64 (.var 2)), (37, iv .i64 (.var 1000))]
def prodInv (ρ : Env) (t : Int) : Prop := validM (ρ 2).i (ρ 3).i (ρ 5).i ∧ validM (ρ 9).i (ρ 10).i (ρ 12).i ∧ (ρ 3).i = (ρ 9).i ∧ fieldD (ρ 1006).d ∧ matOk (ρ 2).i (ρ 10).i (ρ 1002).i (ρ 1003).i (ρ 1004).d ∧ (ρ 1002).i = (ρ 1004).d.length ∧ bI (ρ 1004).d = prodN ((bI (ρ 7).d).take (ρ 5).i.toNat) ((bI (ρ 14).d).take (ρ 12).i.toNat) (ρ 2).i.toNat (ρ 3).i.toNat (ρ 10).i.toNat t.toNat
def prod49I : Inv := { key := 9, nv := 10, env := prodEnv, heap := prodHp, inv := (fun ρ => 0 ≤ (ρ 1000).i ∧ (ρ 1000).i ≤ (ρ 2).i ∧ prodInv ρ ((ρ 1000).i * (ρ 3).i)), mu := (fun ρ => ((ρ 2).i - (ρ 1000).i).toNat) }
/-- 1009 the round, 1010 .. 1012 the row's place, length and capacity. -/
def prod49J : Inv := { key := 12, nv := 14, env := prodEnv ++ [(9, iv .i64 (.var 1000)), (42, bSl 4 1011 1012 1013), (43, iv .i64 (.var 1012)), (44, iv .i64 (.var 1010))], heap := prodHp, inv := (fun ρ => 0 ≤ (ρ 1000).i ∧ (ρ 1000).i < (ρ 2).i ∧ 0 ≤ (ρ 1010).i ∧ (ρ 1010).i ≤ (ρ 3).i ∧ (ρ 1011).i = (ρ 1000).i * (ρ 3).i ∧ (ρ 1012).i = (ρ 3).i ∧ prodInv ρ ((ρ 1000).i * (ρ 3).i + (ρ 1010).i) ∧ (ρ 1000).i = (ρ 26).i), mu := (fun ρ => ((ρ 3).i - (ρ 1010).i).toNat) }
end Go.Eng
