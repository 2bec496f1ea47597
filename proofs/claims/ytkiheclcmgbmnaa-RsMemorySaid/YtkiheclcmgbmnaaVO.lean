/- Results share no memory: contracts. -/
import Derived.Test.YtkiheclcmgbmnaaYS
import Derived.Test.YtkiheclcmgbmnaaW9
import Derived.Test.YtkiheclcmgbmnaaGD
set_option linter.unusedSimpArgs false
set_option linter.unusedVariables false
namespace Go.Eng
open Go Go.Proofs
/-- The pieces' slices. -/
def pvs (D : Rows') : Nat → Value := fun j => cellV D j 1
/-- Encode, told that no two pieces share memory. -/
def encT (h : Hp) (D : Rows') (n : Nat) (f : Nat → List Int) : Prop := encAt h D n f ∧ tabV h (pvs D) n f
def encode31T : Ctr := { encode31C with alts := [
  { k := 2, ret := .tup [(false, [.vnils]), eRet (.var 9)], heap := [fHp 10], post := fun ρ => fieldD (ρ 10).d ∧ ((sizesB (ρ 2).i (ρ 3).i = false ∧ (ρ 9).i = 2) ∨ (sizesB (ρ 2).i (ρ 3).i = true ∧ 8192 < (ρ 5).i ∧ (ρ 9).i = 3)) },
  { k := 5, ret := .tup [(false, [.vslice 9 (.lit 0) (.var 3) (.var 10) 2]), eRet (.lit 0)], heap := [fHp 11, .arr 9 36 kPiece (.var 12) (.var 10), .abs 13 2], post := fun ρ => fieldD (ρ 11).d ∧ sizesB (ρ 2).i (ρ 3).i = true ∧ (ρ 5).i ≤ 8192 ∧ (ρ 12).d.length = (ρ 3).i.toNat ∧ encT (ρ 13).h (ρ 12).d (ρ 3).i.toNat (encP (ρ 2).i.toNat (ρ 3).i.toNat (bI (ρ 7).d)) }] }
def encode31TI : Inv := { encode31I with inv := fun ρ => encode31I.inv ρ ∧ tabV (ρ 1015).h (pvs (ρ 1014).d) (ρ 1007).i.toNat (encP (ρ 2).i.toNat (ρ 3).i.toNat (bI (ρ 7).d)) }
def encode31TJ : Inv := { encode31J with inv := fun ρ => encode31J.inv ρ ∧ tabV (ρ 1015).h (pvs (ρ 1014).d) (ρ 1007).i.toNat (encP (ρ 2).i.toNat (ρ 3).i.toNat (bI (ρ 7).d)) }
def encTG : Ctr := { encode31T with pre := fun ρ => encC.pre ρ ∧ sizesB (ρ 2).i (ρ 3).i = true ∧ (ρ 5).i ≤ 8192, alts := encode31T.alts.drop 1 }
/-! ### The law -/
def vs2 (p q : Rows') (n : Nat) : Nat → Value := fun j => if j < n then pvs p j else pvs q (j - n)
/-- The pieces before i are written over, of piece i the first k bytes; behind them the second pieces. -/
def memM (E : Nat → List Int) (n i k : Nat) : Nat → List Int := fun j => if j < n then (if j < i then rowTo (fun _ _ => (j : Int) + 1) (E j) (E j).length else if j = i then rowTo (fun _ _ => (i : Int) + 1) (E j) k else E j) else E (j - n)
def idxOk (D : Rows') (n : Nat) : Prop := ∀ j, j < n → ∃ v, D[j]? = some [.int .i64 (j : Int), v]
def memE (ρ : Env) : Nat → List Int := encP (ρ 0).i.toNat (ρ 1).i.toNat (bI (ρ 5).d)
def memEnv : List (Nat × SV) := [(0, iv .i64 (.var 0)), (1, iv .i64 (.var 1)), (2, dataS), (7, fArgR 1000), (8, pcS 1002 1 1004), (10, .one (.vptr 1008 (.lit 0) 3 0)), (12, pcS 1005 1 1007), (14, .one (.vptr 1013 (.lit 0) 3 0))]
def memHp : List SH := [fHpR 1000 1001, pcHp 1002 1003 1004, pcHp 1005 1006 1007, boxM 1008 1 0 1009 1010 1011, bHp 1009 1012 1011, boxM 1013 1 0 1014 1015 1016, bHp 1014 1017 1016, .abs 1018 2]
/-- 1000, 1001 the field; 1002 .. 1004, 1005 .. 1007 the pieces; 1008 .. 1012, 1013 .. 1017 the generators; 1018 the bytes. -/
def memW (ρ : Env) (i k : Nat) : Prop := fieldD (ρ 1001).d ∧ sizesB (ρ 0).i (ρ 1).i = true ∧ (ρ 1).i ≤ 30 ∧ (ρ 3).i ≤ 2000 ∧ (ρ 1003).d.length = (ρ 1).i.toNat ∧ idxOk (ρ 1006).d (ρ 1).i.toNat ∧ (ρ 1006).d.length = (ρ 1).i.toNat ∧ (ρ 1010).i = (ρ 1012).d.length ∧ (ρ 1010).i ≤ 900 ∧
  fullM (ρ 1).i (ρ 0).i (ρ 1015).i (ρ 1016).i (ρ 1017).d ∧ bI (ρ 1017).d = genL (ρ 0).i.toNat (ρ 1).i.toNat ∧ tabV (ρ 1018).h (vs2 (ρ 1003).d (ρ 1006).d (ρ 1).i.toNat) ((ρ 1).i.toNat + (ρ 1).i.toNat) (memM (memE ρ) (ρ 1).i.toNat i k)
def memI : Inv := { key := 9, nv := 20, env := memEnv ++ [(16, iv .i64 (.var 1019))], heap := memHp, inv := (fun ρ => 0 ≤ (ρ 1019).i ∧ (ρ 1019).i ≤ (ρ 1).i ∧ memW ρ (ρ 1019).i.toNat 0), mu := (fun ρ => ((ρ 1).i - (ρ 1019).i).toNat) }
def memJ (w : Nat) : Inv := { key := 12, nv := 21, env := memEnv ++ [(16, iv .i64 (.var 1019)), (17, iv .i64 (.var 1020))], heap := memHp, inv := (fun ρ => 0 ≤ (ρ 1019).i ∧ (ρ 1019).i < (ρ 1).i ∧ (ρ 1019).i = (ρ w).i ∧ 0 ≤ (ρ 1020).i ∧ (ρ 1020).i ≤ ((memE ρ (ρ 1019).i.toNat).length : Int) ∧ memW ρ (ρ 1019).i.toNat (ρ 1020).i.toNat), mu := (fun ρ => (((memE ρ (ρ 1019).i.toNat).length : Int) - (ρ 1020).i).toNat) }
def memK : Inv := { key := 16, nv := 20, env := memEnv ++ [(18, iv .i64 (.var 1019))], heap := memHp, inv := (fun ρ => 0 ≤ (ρ 1019).i ∧ (ρ 1019).i ≤ (ρ 1).i ∧ memW ρ (ρ 1).i.toNat 0), mu := (fun ρ => ((ρ 1).i - (ρ 1019).i).toNat) }
def memL (w : Nat) : Inv := { key := 19, nv := 21, env := memEnv ++ [(18, iv .i64 (.var 1019)), (19, iv .i64 (.var 1020))], heap := memHp, inv := (fun ρ => 0 ≤ (ρ 1019).i ∧ (ρ 1019).i < (ρ 1).i ∧ (ρ 1019).i = (ρ w).i ∧ 0 ≤ (ρ 1020).i ∧ (ρ 1020).i ≤ ((memE ρ (ρ 1019).i.toNat).length : Int) ∧ memW ρ (ρ 1).i.toNat 0), mu := (fun ρ => (((memE ρ (ρ 1019).i.toNat).length : Int) - (ρ 1020).i).toNat) }
def memN : Inv := { key := 24, nv := 20, env := memEnv ++ [(20, iv .i64 (.var 1019))], heap := memHp, inv := (fun ρ => 0 ≤ (ρ 1019).i ∧ (ρ 1019).i ≤ (ρ 1010).i ∧ memW ρ (ρ 1).i.toNat 0), mu := (fun ρ => ((ρ 1010).i - (ρ 1019).i).toNat) }
def lawMemoryC : Ctr := { lawIs 8 7 [iv .i64 (.var 0), iv .i64 (.var 1), dataS] [bHp 2 5 6] (fun ρ => matIn (ρ 3).i (ρ 4).i (ρ 5).d) with ip := [(1000, 9), (1001, 9)], ow := [1003] }
end Go.Eng
