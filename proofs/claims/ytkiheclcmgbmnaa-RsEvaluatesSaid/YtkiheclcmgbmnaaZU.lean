/- Encode, and what is known: contracts. -/
import Derived.Test.YtkiheclcmgbmnaaZJ
set_option linter.unusedSimpArgs false
set_option linter.unusedVariables false
namespace Go.Eng
open Go

/-- A generator of sizes that are allowed, if the square of the first rows has full rank. -/
def genGC : Ctr := { gen35C with pre := fun ρ => fieldD (ρ 1).d ∧ sizesB (ρ 2).i (ρ 3).i = true ∧ (topE (ρ 2).i.toNat (ρ 3).i.toNat).2.2 = (ρ 2).i.toNat, alts := gen35C.alts.drop 1 }
/-! ### Encode, plainly -/
def fullL (data : List Int) (n : Nat) : List Int := data ++ List.replicate (n - data.length) 0
def pieceLen (k len : Nat) : Nat := (len + k - 1) / k
def pieceN (g full : List Int) (k l i : Nat) : Nat → List Int
  | 0 => List.replicate l 0
  | j + 1 => addToL (pieceN g full k l i j) 0 (seg full (j * l) l) (g.getD (i * k + j) 0)
/-- Piece i of an object. -/
def encP (k total : Nat) (data : List Int) (i : Nat) : List Int :=
  pieceN (genL k total) (fullL data (k * pieceLen k data.length)) k (pieceLen k data.length) i k
def kPiece : List CK := [.int .i64, .any]
/-- The first n pieces. -/
def encAt (h : Hp) (D : Rows') (n : Nat) (f : Nat → List Int) : Prop := ∀ j, j < n → ∃ v d, D[j]? = some [.int .i64 j, v] ∧ Rd h kB v d ∧ bI d = f j ∧ allB d
def encode31C : Ctr := { fn := 31, nv := 9, args := [fArg, iv .i64 (.var 2), iv .i64 (.var 3), .one (.vslice 4 (.lit 0) (.var 5) (.var 6) 1)], heap := [fHp 1], ro := [bHp 4 7 8], pre := fun ρ => fieldD (ρ 1).d ∧ (ρ 5).i = (ρ 7).d.length ∧ allB (ρ 7).d ∧ (sizesB (ρ 2).i (ρ 3).i = true → (topE (ρ 2).i.toNat (ρ 3).i.toNat).2.2 = (ρ 2).i.toNat), alts := [
  { k := 2, ret := .tup [(false, [.vnils]), eRet (.var 9)], heap := [fHp 10], post := fun ρ => fieldD (ρ 10).d ∧ ((sizesB (ρ 2).i (ρ 3).i = false ∧ (ρ 9).i = 2) ∨ (sizesB (ρ 2).i (ρ 3).i = true ∧ 8192 < (ρ 5).i ∧ (ρ 9).i = 3)) },
  { k := 5, ret := .tup [(false, [.vslice 9 (.lit 0) (.var 3) (.var 10) 2]), eRet (.lit 0)], heap := [fHp 11, .arr 9 36 kPiece (.var 12) (.var 10), .abs 13 2], post := fun ρ => fieldD (ρ 11).d ∧ sizesB (ρ 2).i (ρ 3).i = true ∧ (ρ 5).i ≤ 8192 ∧ (ρ 12).d.length = (ρ 3).i.toNat ∧ encAt (ρ 13).h (ρ 12).d (ρ 3).i.toNat (encP (ρ 2).i.toNat (ρ 3).i.toNat (bI (ρ 7).d)) }] }
def encHp : List SH := [fHp 1008, boxM 1004 3 2 1009 1010 1011, bHp 1009 1012 1011, bHp 1001 1013 1003, .arr 1005 36 kPiece (.var 1014) (.var 1006)]
def encEnv : List (Nat × SV) := [(0, fArg), (10, iv .i64 (.var 1000)), (12, .one (.vslice 1001 (.lit 0) (.var 1002) (.var 1003) 1)), (13, .one (.vptr 1004 (.lit 0) 3 0)), (15, .one (.vslice 1005 (.lit 0) (.var 3) (.var 1006) 2)), (53, iv .i64 (.var 3)), (54, iv .i64 (.var 1007))]
/-- What stands while pieces are made: the piece's length, the object with its zeros, the generator. -/
def encW (k total len l lf cf lg cg i : Int) (f dg df D data : Rows') : Prop :=
  fieldD f ∧ sizesB k total = true ∧ len ≤ 8192 ∧ len = data.length ∧ allB data ∧ l = (pieceLen k.toNat data.length : Nat) ∧ l ≤ 8192 ∧ lf = k * l ∧ lf = df.length ∧ allB df ∧ bI df = fullL (bI data) (k.toNat * l.toNat) ∧
    fullM total k lg cg dg ∧ bI dg = genL k.toNat total.toNat ∧ D.length = total.toNat ∧ (∀ row ∈ D, row.length = 2) ∧ 0 ≤ i ∧ i ≤ total
def encode31I : Inv := { key := 13, nv := 16, env := encEnv, heap := encHp ++ [.abs 1015 2], inv := (fun ρ => encW (ρ 2).i (ρ 3).i (ρ 5).i (ρ 1000).i (ρ 1002).i (ρ 1003).i (ρ 1010).i (ρ 1011).i (ρ 1007).i (ρ 1008).d (ρ 1012).d (ρ 1013).d (ρ 1014).d (ρ 7).d ∧ encAt (ρ 1015).h (ρ 1014).d (ρ 1007).i.toNat (encP (ρ 2).i.toNat (ρ 3).i.toNat (bI (ρ 7).d))), mu := (fun ρ => ((ρ 3).i - (ρ 1007).i).toNat) }
/-- 1016 .. 1018 the piece, 1019 .. 1021 the generator's row, 1022 the round. -/
def encode31J : Inv := { key := 17, nv := 23, env := encEnv ++ [(16, iv .i64 (.var 1007)), (17, .one (.vslice 1016 (.lit 0) (.var 1000) (.var 1017) 1)), (61, bSl 1009 1019 1020 1021), (62, iv .i64 (.var 1020)), (63, iv .i64 (.var 1022))], heap := encHp ++ [bHp 1016 1018 1017, .abs 1015 2], inv := (fun ρ => encW (ρ 2).i (ρ 3).i (ρ 5).i (ρ 1000).i (ρ 1002).i (ρ 1003).i (ρ 1010).i (ρ 1011).i (ρ 1007).i (ρ 1008).d (ρ 1012).d (ρ 1013).d (ρ 1014).d (ρ 7).d ∧ encAt (ρ 1015).h (ρ 1014).d (ρ 1007).i.toNat (encP (ρ 2).i.toNat (ρ 3).i.toNat (bI (ρ 7).d)) ∧ (ρ 1007).i = (ρ 29).i ∧ (ρ 1007).i < (ρ 3).i ∧ (ρ 1019).i = (ρ 1007).i * (ρ 2).i ∧ (ρ 1020).i = (ρ 2).i ∧ 0 ≤ (ρ 1022).i ∧ (ρ 1022).i ≤ (ρ 2).i ∧ (ρ 1018).d.length = (ρ 1000).i.toNat ∧ allB (ρ 1018).d ∧ bI (ρ 1018).d = pieceN (bI (ρ 1012).d) (bI (ρ 1013).d) (ρ 2).i.toNat (ρ 1000).i.toNat (ρ 1007).i.toNat (ρ 1022).i.toNat), mu := (fun ρ => ((ρ 2).i - (ρ 1022).i).toNat) }
def lawRet : Alt := { k := 0, ret := .one (.vbool (.bl true)), heap := [], post := fun _ => True }
def knownC : Ctr := { fn := 28, nv := 0, args := [], heap := [], ro := [], pre := fun _ => True, alts := [lawRet] }
end Go.Eng
