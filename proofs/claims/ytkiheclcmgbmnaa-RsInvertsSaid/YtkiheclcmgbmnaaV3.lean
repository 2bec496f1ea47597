/- The reference's elimination, its inverses and ranks: contracts. -/
import Derived.Test.YtkiheclcmgbmnaaYS
import Derived.Test.YtkiheclcmgbmnaaW9
import Derived.Test.YtkiheclcmgbmnaaGD
set_option linter.unusedSimpArgs false
set_option linter.unusedVariables false
namespace Go.Eng
open Go Go.Proofs
/-- Rows as a matrix. -/
def matT (M : Nat → List Int) : Mat := fun i j => toF ((M i).getD j 0)
def augRow (a b : List Int) (ca cb i : Nat) : List Int := seg a (i * ca) ca ++ seg b (i * cb) cb
/-- Brought to steps so far. -/
def redT (rows wide : Nat) (T0 : Mat) (c rank : Nat) (M : Nat → List Int) : Prop := Ech rows wide T0 (matT M) c rank ∧ ∀ i, i < rows → (M i).length = wide
/-- In a step: the rows span the same, the columns so far are as they were. -/
def redS (rows wide : Nat) (T0 : Mat) (c rank : Nat) (M : Nat → List Int) : Prop :=
  ∃ M0, redT rows wide T0 c rank M0 ∧ Same rows wide (matT M0) (matT M) ∧ (∀ c', c' < c → ∀ i, i < rows → matT M i c' = matT M0 i c') ∧ ∀ i, i < rows → (M i).length = wide
def put1 (M : Nat → List Int) (i : Nat) (l : List Int) : Nat → List Int := fun j => if j = i then l else M j
def redPre (ρ : Env) : Prop := validM (ρ 0).i (ρ 1).i (ρ 3).i ∧ (ρ 3).i ≤ (ρ 4).i ∧ (ρ 10).i ≤ (ρ 11).i ∧ (ρ 3).i ≤ (ρ 5).d.length ∧ allB (ρ 5).d ∧ (ρ 7).i = (ρ 0).i ∧ 0 ≤ (ρ 8).i ∧ (ρ 8).i ≤ 255 ∧ (ρ 10).i = (ρ 0).i * (ρ 8).i ∧ (ρ 10).i ≤ (ρ 12).d.length ∧ allB (ρ 12).d
noncomputable def redT0 (ρ : Env) : Mat := augL (ρ 1).i.toNat (ρ 8).i.toNat (bI (ρ 5).d) (bI (ρ 12).d)
def reduce85C : Ctr := { fn := 85, nv := 14, args := [mArgA, mArgB], heap := [], ro := [bHp 2 5 6, bHp 9 12 13], ow := [1003], pre := redPre, alts := [
  { k := 5, ret := .tup [(false, [.vint .i64 (.var 14)]), mRet (.var 0) (.var 8) 15 16 17], heap := [bHp 15 18 17], post := fun ρ => 0 ≤ (ρ 14).i ∧ (ρ 14).i ≤ (ρ 0).i ∧ (ρ 16).i = (ρ 18).d.length ∧ (ρ 16).i = (ρ 0).i * (ρ 8).i ∧ allB (ρ 18).d ∧
    ∃ T, Ech (ρ 0).i.toNat ((ρ 1).i.toNat + (ρ 8).i.toNat) (redT0 ρ) T (ρ 1).i.toNat (ρ 14).i.toNat ∧ ∀ i j, i < (ρ 0).i.toNat → j < (ρ 8).i.toNat → matL (ρ 8).i.toNat (bI (ρ 18).d) i j = T i ((ρ 1).i.toNat + j) }] }
def redEnv : List (Nat × SV) := [(2, .one (.vptr 1001 (.lit 0) 3 0)), (3, .one (.vptr 1002 (.lit 0) 3 0)), (5, .one (.vptr 1003 (.lit 0) 3 0)), (6, iv .i64 (.var 0)), (7, iv .i64 (.var 1000)), (8, .one (.vslice 1004 (.lit 0) (.var 0) (.var 0) 1))]
def redHp : List SH := [zBox 1003, boxM 1001 0 1 2 3 4, boxM 1002 7 8 9 10 11, .arr 1004 27 [.any] (.var 1006) (.var 0), .abs 1007 2]
def tvs (D : Rows') : Nat → Value := fun j => cellV D j 0
/-- The table: one slice a row; the first n are rows of the matrix. -/
def redW (ρ : Env) (n : Nat) (M : Nat → List Int) : Prop := (ρ 1000).i = (ρ 1).i + (ρ 8).i ∧ (ρ 1006).d.length = (ρ 0).i.toNat ∧ (∀ row ∈ (ρ 1006).d, row.length = 1) ∧ tabV (ρ 1007).h (tvs (ρ 1006).d) n M
def wideN (ρ : Env) : Nat := (ρ 1).i.toNat + (ρ 8).i.toNat
def reduce85A : Inv := { key := 4, nv := 9, env := redEnv ++ [(9, iv .i64 (.var 1008))], heap := redHp, inv := (fun ρ => 0 ≤ (ρ 1008).i ∧ (ρ 1008).i ≤ (ρ 0).i ∧ redW ρ (ρ 1008).i.toNat (augRow (bI (ρ 5).d) (bI (ρ 12).d) (ρ 1).i.toNat (ρ 8).i.toNat)), mu := (fun ρ => ((ρ 0).i - (ρ 1008).i).toNat) }
/-- 1008 the rank, 1009 the column. -/
def redRC (ρ : Env) : Prop := 0 ≤ (ρ 1008).i ∧ (ρ 1008).i ≤ (ρ 0).i ∧ 0 ≤ (ρ 1009).i ∧ (ρ 1009).i ≤ (ρ 1).i
def reduce85B : Inv := { key := 9, nv := 10, env := redEnv ++ [(10, iv .i64 (.var 1008)), (11, iv .i64 (.var 1009))], heap := redHp, inv := (fun ρ => redRC ρ ∧ ∃ M, redW ρ (ρ 0).i.toNat M ∧ redT (ρ 0).i.toNat (wideN ρ) (redT0 ρ) (ρ 1009).i.toNat (ρ 1008).i.toNat M), mu := (fun ρ => ((ρ 1).i - (ρ 1009).i).toNat) }
def redIn (ρ : Env) : Prop := redRC ρ ∧ (ρ 1008).i < (ρ 0).i ∧ (ρ 1009).i < (ρ 1).i
def reduce85Q : Inv := { key := 12, nv := 11, env := redEnv ++ [(10, iv .i64 (.var 1008)), (11, iv .i64 (.var 1009)), (12, iv .i64 (.var 1010))], heap := redHp, inv := (fun ρ => redIn ρ ∧ (ρ 1009).i = (ρ 37).i ∧ (ρ 1008).i ≤ (ρ 1010).i ∧ (ρ 1010).i ≤ (ρ 0).i ∧ ∃ M, redW ρ (ρ 0).i.toNat M ∧ redT (ρ 0).i.toNat (wideN ρ) (redT0 ρ) (ρ 1009).i.toNat (ρ 1008).i.toNat M ∧ ∀ i, (ρ 1008).i.toNat ≤ i → i < (ρ 1010).i.toNat → matT M i (ρ 1009).i.toNat = 0), mu := (fun ρ => ((ρ 0).i - (ρ 1010).i).toNat) }
/-- 1010 the row of the pivot, 1011 what it is multiplied with, 1012 the cell. -/
def reduce85D : Inv := { key := 20, nv := 13, env := redEnv ++ [(10, iv .i64 (.var 1008)), (11, iv .i64 (.var 1009)), (13, .one (.var 1010)), (14, iv .u8 (.var 1011)), (15, iv .i64 (.var 1012))], heap := redHp, inv := (fun ρ => redIn ρ ∧ (ρ 1009).i = (ρ 37).i ∧ 0 ≤ (ρ 1012).i ∧ (ρ 1012).i ≤ (ρ 1000).i ∧ (ρ 1010).v = tvs (ρ 1006).d (ρ 1008).i.toNat ∧
  ∃ M, redS (ρ 0).i.toNat (wideN ρ) (redT0 ρ) (ρ 1009).i.toNat (ρ 1008).i.toNat M ∧ bytesL (M (ρ 1008).i.toNat) ∧ matT M (ρ 1008).i.toNat (ρ 1009).i.toNat ≠ 0 ∧ (ρ 1011).i = invF ((M (ρ 1008).i.toNat).getD (ρ 1009).i.toNat 0) ∧ redW ρ (ρ 0).i.toNat (put1 M (ρ 1008).i.toNat (rowTo (fun _ x => mulF x (ρ 1011).i) (M (ρ 1008).i.toNat) (ρ 1012).i.toNat))), mu := (fun ρ => ((ρ 1000).i - (ρ 1012).i).toNat) }
/-- The pivot's row is scaled; the rows before n have nothing but 0 in the column. -/
def redE (ρ : Env) (n : Nat) (M : Nat → List Int) : Prop := redS (ρ 0).i.toNat (wideN ρ) (redT0 ρ) (ρ 1009).i.toNat (ρ 1008).i.toNat M ∧ matT M (ρ 1008).i.toNat (ρ 1009).i.toNat = 1 ∧ ∀ i, i < n → i < (ρ 0).i.toNat → i ≠ (ρ 1008).i.toNat → matT M i (ρ 1009).i.toNat = 0
def reduce85E : Inv := { key := 24, nv := 12, env := redEnv ++ [(10, iv .i64 (.var 1008)), (11, iv .i64 (.var 1009)), (13, .one (.var 1010)), (16, iv .i64 (.var 1011))], heap := redHp, inv := (fun ρ => redIn ρ ∧ (ρ 1009).i = (ρ 37).i ∧ 0 ≤ (ρ 1011).i ∧ (ρ 1011).i ≤ (ρ 0).i ∧ (ρ 1010).v = tvs (ρ 1006).d (ρ 1008).i.toNat ∧ ∃ M, redE ρ (ρ 1011).i.toNat M ∧ redW ρ (ρ 0).i.toNat M), mu := (fun ρ => ((ρ 0).i - (ρ 1011).i).toNat) }
/-- 1012 the factor, 1013 the cell. -/
def reduce85F : Inv := { key := 29, nv := 14, env := redEnv ++ [(10, iv .i64 (.var 1008)), (11, iv .i64 (.var 1009)), (13, .one (.var 1010)), (16, iv .i64 (.var 1011)), (17, iv .u8 (.var 1012)), (18, iv .i64 (.var 1013))], heap := redHp, inv := (fun ρ => redIn ρ ∧ (ρ 1009).i = (ρ 37).i ∧ 0 ≤ (ρ 1011).i ∧ (ρ 1011).i < (ρ 0).i ∧ (ρ 1011).i ≠ (ρ 1008).i ∧ (ρ 1011).i = (ρ 80).i ∧ (ρ 1010).v = tvs (ρ 1006).d (ρ 1008).i.toNat ∧ 0 ≤ (ρ 1013).i ∧ (ρ 1013).i ≤ (ρ 1000).i ∧
  ∃ M, redE ρ (ρ 1011).i.toNat M ∧ bytesL (M (ρ 1011).i.toNat) ∧ (ρ 1012).i = (M (ρ 1011).i.toNat).getD (ρ 1009).i.toNat 0 ∧ redW ρ (ρ 0).i.toNat (put1 M (ρ 1011).i.toNat (rowTo (fun j x => xorB x (mulF (ρ 1012).i ((M (ρ 1008).i.toNat).getD j 0))) (M (ρ 1011).i.toNat) (ρ 1013).i.toNat))), mu := (fun ρ => ((ρ 1000).i - (ρ 1013).i).toNat) }
/-- 1009 .. 1012 what stands on the right so far, 1013 the row. -/
def reduce85G : Inv := { key := 35, nv := 14, env := redEnv ++ [(10, iv .i64 (.var 1008)), (19, .one (.vslice 1009 (.lit 0) (.var 1010) (.var 1011) 1)), (20, iv .i64 (.var 1013))], heap := redHp ++ [bHp 1009 1012 1011], inv := (fun ρ => 0 ≤ (ρ 1008).i ∧ (ρ 1008).i ≤ (ρ 0).i ∧ 0 ≤ (ρ 1013).i ∧ (ρ 1013).i ≤ (ρ 0).i ∧ (ρ 1010).i = (ρ 1012).d.length ∧ (ρ 1010).i = (ρ 1013).i * (ρ 8).i ∧ allB (ρ 1012).d ∧
  ∃ M, redW ρ (ρ 0).i.toNat M ∧ redT (ρ 0).i.toNat (wideN ρ) (redT0 ρ) (ρ 1).i.toNat (ρ 1008).i.toNat M ∧ ∀ i j, i < (ρ 1013).i.toNat → j < (ρ 8).i.toNat → matL (ρ 8).i.toNat (bI (ρ 1012).d) i j = matT M i ((ρ 1).i.toNat + j)), mu := (fun ρ => ((ρ 0).i - (ρ 1013).i).toNat) }
/-! ### Inverses and ranks -/
def unitGC : Ctr := { unit41C with pre := fun ρ => 1 ≤ (ρ 0).i ∧ (ρ 0).i ≤ 255, alts := unit41C.alts.drop 1 }
def invert56C : Ctr := { fn := 56, nv := 7, args := [mArgA], heap := [], ro := [bHp 2 5 6], pre := fun ρ => matIn (ρ 3).i (ρ 4).i (ρ 5).d, alts := [
  { k := 1, ret := .tup [nilM, eRet (.var 7)], heap := [], post := fun ρ => (¬ validM (ρ 0).i (ρ 1).i (ρ 3).i ∧ (ρ 7).i = 2) ∨ (validM (ρ 0).i (ρ 1).i (ρ 3).i ∧ (ρ 0).i ≠ (ρ 1).i ∧ (ρ 7).i = 10) ∨ (validM (ρ 0).i (ρ 1).i (ρ 3).i ∧ (ρ 0).i = (ρ 1).i ∧ (invE (bI (ρ 5).d) (ρ 0).i.toNat).2.2 < (ρ 0).i.toNat ∧ (ρ 7).i = 11) },
  { k := 4, ret := .tup [mRet (.var 0) (.var 0) 7 8 9, eRet (.lit 0)], heap := [bHp 7 10 9], post := fun ρ => validM (ρ 0).i (ρ 1).i (ρ 3).i ∧ (ρ 0).i = (ρ 1).i ∧ (ρ 8).i = (ρ 10).d.length ∧ (invE (bI (ρ 5).d) (ρ 0).i.toNat).2.2 = (ρ 0).i.toNat ∧ bI (ρ 10).d = (invE (bI (ρ 5).d) (ρ 0).i.toNat).2.1 }] }
def rank58C : Ctr := { fn := 58, nv := 7, args := [mArgA], heap := [], ro := [bHp 2 5 6], pre := fun ρ => matIn (ρ 3).i (ρ 4).i (ρ 5).d, alts := [
  { k := 0, ret := .tup [(false, [.vint .i64 (.lit 0)]), eRet (.lit 2)], heap := [], post := fun ρ => ¬ validM (ρ 0).i (ρ 1).i (ρ 3).i },
  { k := 1, ret := .tup [(false, [.vint .i64 (.var 7)]), eRet (.lit 0)], heap := [], post := fun ρ => validM (ρ 0).i (ρ 1).i (ρ 3).i ∧ (ρ 7).i = (rankE (bI (ρ 5).d) (ρ 0).i.toNat (ρ 1).i.toNat : Nat) }] }
def lawInvertsC : Ctr := lawIs 15 7 [mArgA] [bHp 2 5 6] fun ρ => matIn (ρ 3).i (ρ 4).i (ρ 5).d
end Go.Eng
