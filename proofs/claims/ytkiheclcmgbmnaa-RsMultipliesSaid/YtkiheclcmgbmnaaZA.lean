/- The field: contracts. -/
import Derived.Test.YtkiheclcmgbmnaaEC
set_option linter.unusedSimpArgs false
set_option linter.unusedVariables false
namespace Go.Eng
open Go

/-! ### The field's block -/
def kField : List CK := [.int .u32, .int .i32, .int .u32] ++ List.replicate 510 (.int .u8) ++ List.replicate 256 (.int .i64)
def freshRow : List Value := [.int .u32 0, .int .i32 0, .int .u32 0] ++ List.replicate 510 (.int .u8 0) ++ List.replicate 256 (.int .i64 0)
abbrev Rows' := List (List Value)
/-- The next power of 2. -/
def nextX (x : Int) : Int := if 256 ≤ 2 * x then arithOf .xor .i64 (2 * x) 285 else 2 * x
def buildStep (i : Nat) (s : Rows' × Int) : Rows' × Int :=
  (putX (putX (putX s.1 (i + 3) (.int .u8 s.2)) (i + 255 + 3) (.int .u8 s.2)) (s.2.toNat + 513) (.int .i64 i), nextX s.2)
def buildN (d : Rows') : Nat → Rows' × Int
  | 0 => (d, 1)
  | n + 1 => buildStep n (buildN d n)
/-- The tables are filled. -/
def builtD : Rows' := (buildN [freshRow] 255).1
/-- It was used already: the word that says so, and the lock. -/
def doneD : Rows' := putX builtD 0 (.int .u32 1)
/-- A field as it can be. -/
def fieldD (d : Rows') : Prop := d = [freshRow] ∨ d = doneD
def fArg : SV := .one (.vptr 0 (.lit 0) 769 0)
def fHp (n : Nat) : SH := .arr 0 98 kField (.var n) (.lit 1)
def iv (k : IntKind) (t : T) : SV := .one (.vint k t)

def newFieldC : Ctr := { fn := 30, nv := 0, args := [], heap := [], ro := [], pre := fun _ => True, alts := [{ k := 2, ret := fArg, heap := [fHp 1], post := fun ρ => (ρ 1).d = [freshRow] }] }
def buildC : Ctr := { fn := 81, nv := 2, args := [fArg], heap := [fHp 1], ro := [], pre := fun ρ => (ρ 1).d.length = 1, alts := [{ k := 1, ret := .tup [], heap := [fHp 2], post := fun ρ => (ρ 2).d = (buildN (ρ 1).d 255).1 }] }
/-- 1000 the power, 1001 its exponent, 1002 the rows. -/
def buildI : Inv := { key := 2, nv := 3, env := [(0, fArg), (2, iv .i64 (.var 1000)), (3, iv .i64 (.var 1001))], heap := [fHp 1002], inv := (fun ρ => 0 ≤ (ρ 1001).i ∧ (ρ 1001).i ≤ 255 ∧ ((ρ 1002).d, (ρ 1000).i) = buildN (ρ 1).d (ρ 1001).i.toNat), mu := (fun ρ => (255 - (ρ 1001).i).toNat) }
/-- The powers' table and the exponents'. -/
def expT (i : Nat) : Int := cellX doneD (i + 3)
def logT (a : Nat) : Int := cellX doneD (a + 513)
def mulF (a b : Int) : Int := if a = 0 ∨ b = 0 then 0 else expT (logT a.toNat + logT b.toNat).toNat
def onceC : Ctr := { fn := 80, nv := 2, args := [fArg, .fn (.func 81) [.vptr 0 (.lit 0) 769 0] []], heap := [fHp 1], ro := [], pre := fun ρ => fieldD (ρ 1).d, alts := [{ k := 1, ret := .tup [], heap := [fHp 2], post := fun ρ => (ρ 2).d = doneD }] }
def mulC : Ctr := { fn := 39, nv := 4, args := [fArg, iv .u8 (.var 2), iv .u8 (.var 3)], heap := [fHp 1], ro := [], pre := fun ρ => fieldD (ρ 1).d ∧ 0 ≤ (ρ 2).i ∧ (ρ 2).i < 256 ∧ 0 ≤ (ρ 3).i ∧ (ρ 3).i < 256, alts := [{ k := 2, ret := iv .u8 (.var 4), heap := [fHp 5], post := fun ρ => fieldD (ρ 5).d ∧ (ρ 4).i = mulF (ρ 2).i (ρ 3).i }] }
end Go.Eng
