/- Elimination, inverses, generators: contracts. -/
import Derived.Test.YtkiheclcmgbmnaaZG
set_option linter.unusedSimpArgs false
set_option linter.unusedVariables false
namespace Go.Eng
open Go

/-- An identity of a size that is allowed; powers of sizes that are. -/
def identGC : Ctr := { ident40C with pre := fun ρ => 1 ≤ (ρ 0).i ∧ (ρ 0).i ≤ 255, alts := ident40C.alts.drop 1 }
def vanderGC : Ctr := { vander45C with pre := fun ρ => fieldD (ρ 1).d ∧ ¬ vanderBad (ρ 2).i (ρ 3).i, alts := vander45C.alts.drop 1 }
/-- A copy, whose capacity is told of. -/
def cloneKC : Ctr := { clone84C with alts := [{ k := 3, ret := .agg [.vint .i64 (.var 0), .vint .i64 (.var 1), .vslice 7 (.lit 0) (.var 3) (.var 8) 1], heap := [bHp 7 9 8], post := fun ρ => (ρ 9).d = (ρ 5).d.take (ρ 3).i.toNat ∧ ((ρ 9).d.length : Int) ≤ (ρ 8).i }] }
def elimOf (ρ : Env) (c : Int) : List Int × List Int × Nat := elimN (ρ 2).i.toNat (ρ 3).i.toNat (ρ 10).i.toNat (bI (ρ 7).d) (bI (ρ 14).d) c.toNat
def fullM (r c l cap : Int) (d : Rows') : Prop := matOk r c l cap d ∧ l = d.length
def elim83C : Ctr := { fn := 83, nv := 16, args := [fArg, argA, argB], heap := [fHp 1, bHp 4 7 8, bHp 11 14 15], ro := [], pre := fun ρ => fieldD (ρ 1).d ∧ fullM (ρ 2).i (ρ 3).i (ρ 5).i (ρ 6).i (ρ 7).d ∧ fullM (ρ 9).i (ρ 10).i (ρ 12).i (ρ 13).i (ρ 14).d ∧ (ρ 9).i = (ρ 2).i, alts := [
  { k := 4, ret := iv .i64 (.var 16), heap := [fHp 17, bHp 4 18 8, bHp 11 19 15], post := fun ρ => fieldD (ρ 17).d ∧ fullM (ρ 2).i (ρ 3).i (ρ 5).i (ρ 6).i (ρ 18).d ∧ fullM (ρ 9).i (ρ 10).i (ρ 12).i (ρ 13).i (ρ 19).d ∧ 0 ≤ (ρ 16).i ∧ (ρ 16).i ≤ (ρ 2).i ∧ (bI (ρ 18).d, bI (ρ 19).d, (ρ 16).i.toNat) = elimN (ρ 2).i.toNat (ρ 3).i.toNat (ρ 10).i.toNat (bI (ρ 7).d) (bI (ρ 14).d) (ρ 3).i.toNat }] }
def elimHp : List SH := [fHp 1002, boxM 1003 2 3 4 5 6, boxM 1004 9 10 11 12 13, bHp 4 1005 8, bHp 11 1006 15]
def elimEnv : List (Nat × SV) := [(0, fArg), (4, .one (.vptr 1003 (.lit 0) 3 0)), (5, .one (.vptr 1004 (.lit 0) 3 0)), (7, iv .i64 (.var 1000)), (8, iv .i64 (.var 1001))]
/-- The matrices are in order; the rank and the column. -/
def elimW (r ca cb l1 c1 l2 c2 rank c : Int) (f da db : Rows') : Prop := fieldD f ∧ fullM r ca l1 c1 da ∧ fullM r cb l2 c2 db ∧ 0 ≤ rank ∧ rank ≤ r ∧ 0 ≤ c ∧ c ≤ ca
def elimO (r ca cb l1 c1 l2 c2 rank c : Int) (f da db a0 b0 : Rows') : Prop := elimW r ca cb l1 c1 l2 c2 rank c f da db ∧ (bI da, bI db, rank.toNat) = elimN r.toNat ca.toNat cb.toNat (bI a0) (bI b0) c.toNat
def elim83I : Inv := { key := 3, nv := 7, env := elimEnv, heap := elimHp, inv := (fun ρ => elimO (ρ 2).i (ρ 3).i (ρ 10).i (ρ 5).i (ρ 6).i (ρ 12).i (ρ 13).i (ρ 1000).i (ρ 1001).i (ρ 1002).d (ρ 1005).d (ρ 1006).d (ρ 7).d (ρ 14).d), mu := (fun ρ => ((ρ 3).i - (ρ 1001).i).toNat) }
/-- 1007 the row that is looked at. -/
def elimP (r ca cb l1 c1 l2 c2 rank c p : Int) (f da db a0 b0 : Rows') : Prop := elimO r ca cb l1 c1 l2 c2 rank c f da db a0 b0 ∧ rank < r ∧ c < ca ∧ rank ≤ p ∧ p ≤ r ∧ pivF (bI da) ca.toNat c.toNat p.toNat (r.toNat - p.toNat) = pivF (bI da) ca.toNat c.toNat rank.toNat (r.toNat - rank.toNat)
def elim83J : Inv := { key := 6, nv := 8, env := elimEnv ++ [(9, iv .i64 (.var 1007))], heap := elimHp, inv := (fun ρ => elimP (ρ 2).i (ρ 3).i (ρ 10).i (ρ 5).i (ρ 6).i (ρ 12).i (ρ 13).i (ρ 1000).i (ρ 1001).i (ρ 1007).i (ρ 1002).d (ρ 1005).d (ρ 1006).d (ρ 7).d (ρ 14).d ∧ (ρ 1001).i = (ρ 19).i), mu := (fun ρ => ((ρ 2).i - (ρ 1007).i).toNat) }
/-- 1007 the row from which is taken. -/
def elimQ (r ca cb l1 c1 l2 c2 rank c i : Int) (f da db a0 b0 : Rows') : Prop :=
  elimW r ca cb l1 c1 l2 c2 rank c f da db ∧ rank < r ∧ c < ca ∧ 0 ≤ i ∧ i ≤ r ∧ ∃ s, s = elimN r.toNat ca.toNat cb.toNat (bI a0) (bI b0) c.toNat ∧ s.2.2 = rank.toNat ∧
    pivF s.1 ca.toNat c.toNat rank.toNat (r.toNat - rank.toNat) ≠ r.toNat ∧
    (bI da, bI db) = elimRows ca.toNat cb.toNat rank.toNat c.toNat (elimMid r.toNat ca.toNat cb.toNat c.toNat s).1 (elimMid r.toNat ca.toNat cb.toNat c.toNat s).2 i.toNat
def elim83K : Inv := { key := 16, nv := 8, env := elimEnv ++ [(97, iv .i64 (.var 2)), (98, iv .i64 (.var 1007))], heap := elimHp, inv := (fun ρ => elimQ (ρ 2).i (ρ 3).i (ρ 10).i (ρ 5).i (ρ 6).i (ρ 12).i (ρ 13).i (ρ 1000).i (ρ 1001).i (ρ 1007).i (ρ 1002).d (ρ 1005).d (ρ 1006).d (ρ 7).d (ρ 14).d ∧ (ρ 1001).i = (ρ 19).i), mu := (fun ρ => ((ρ 2).i - (ρ 1007).i).toNat) }
/-- The elimination of a square matrix beside the identity. -/
def invE (m : List Int) (n : Nat) : List Int × List Int × Nat := elimN n n n m (identTo n n) n
def inverse55C : Ctr := { fn := 55, nv := 9, args := [fArg, argA], heap := [fHp 1], ro := [bHp 4 7 8], pre := fun ρ => fieldD (ρ 1).d ∧ 0 ≤ (ρ 5).i ∧ (ρ 5).i ≤ (ρ 6).i ∧ (ρ 5).i ≤ (ρ 7).d.length ∧ allB (ρ 7).d, alts := [
  { k := 2, ret := .tup [nilM, eRet (.var 9)], heap := [fHp 10], post := fun ρ => fieldD (ρ 10).d ∧ ((¬ validM (ρ 2).i (ρ 3).i (ρ 5).i ∧ (ρ 9).i = 2) ∨ (validM (ρ 2).i (ρ 3).i (ρ 5).i ∧ (ρ 2).i ≠ (ρ 3).i ∧ (ρ 9).i = 10) ∨ (validM (ρ 2).i (ρ 3).i (ρ 5).i ∧ (ρ 2).i = (ρ 3).i ∧ (invE ((bI (ρ 7).d).take (ρ 5).i.toNat) (ρ 2).i.toNat).2.2 < (ρ 2).i.toNat ∧ (ρ 9).i = 11)) },
  { k := 5, ret := .tup [mRet (.var 2) (.var 2) 9 10 11, eRet (.lit 0)], heap := [fHp 12, bHp 9 13 11], post := fun ρ => fieldD (ρ 12).d ∧ validM (ρ 2).i (ρ 3).i (ρ 5).i ∧ (ρ 2).i = (ρ 3).i ∧ fullM (ρ 2).i (ρ 2).i (ρ 10).i (ρ 11).i (ρ 13).d ∧ (invE ((bI (ρ 7).d).take (ρ 5).i.toNat) (ρ 2).i.toNat).2.2 = (ρ 2).i.toNat ∧ bI (ρ 13).d = (invE ((bI (ρ 7).d).take (ρ 5).i.toNat) (ρ 2).i.toNat).2.1 }] }
def topE (k total : Nat) : List Int × List Int × Nat := invE ((vanderL total k).take (k * k)) k
def genL (k total : Nat) : List Int := prodL (vanderL total k) (topE k total).2.1 total k k
def gen35C : Ctr := { fn := 35, nv := 4, args := [fArg, iv .i64 (.var 2), iv .i64 (.var 3)], heap := [fHp 1], ro := [], pre := fun ρ => fieldD (ρ 1).d, alts := [
  { k := 1, ret := .tup [nilM, eRet (.lit 2)], heap := [fHp 4], post := fun ρ => fieldD (ρ 4).d ∧ (sizesB (ρ 2).i (ρ 3).i = true → (topE (ρ 2).i.toNat (ρ 3).i.toNat).2.2 < (ρ 2).i.toNat) },
  { k := 6, ret := .tup [mRet (.var 3) (.var 2) 4 5 6, eRet (.lit 0)], heap := [fHp 7, bHp 4 8 6, .abs 9 2], post := fun ρ => fieldD (ρ 7).d ∧ sizesB (ρ 2).i (ρ 3).i = true ∧ fullM (ρ 3).i (ρ 2).i (ρ 5).i (ρ 6).i (ρ 8).d ∧ (topE (ρ 2).i.toNat (ρ 3).i.toNat).2.2 = (ρ 2).i.toNat ∧ bI (ρ 8).d = genL (ρ 2).i.toNat (ρ 3).i.toNat }] }
end Go.Eng
