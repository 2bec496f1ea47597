/- Rows and matrices over the field: contracts. -/
import Derived.Test.YtkiheclcmgbmnaaZA
set_option linter.unusedSimpArgs false
set_option linter.unusedVariables false
namespace Go.Eng
open Go

/-! ### Bytes -/
def kB : List CK := [.int .u8]
def rowI (r : List Value) (c : Nat) : Int := vInt (r[c]?.getD .nilFunc)
def bI (d : Rows') : List Int := d.map fun r => rowI r 0
def allB (d : Rows') : Prop := ∀ row ∈ d, 0 ≤ rowI row 0 ∧ rowI row 0 < 256
def big : Int := 8796093021952
def segOk (d : Rows') (off len : Int) : Prop := 0 ≤ off ∧ 0 ≤ len ∧ off + len ≤ d.length ∧ len ≤ big
def seg (l : List Int) (off n : Nat) : List Int := (l.drop off).take n
def xorB (x y : Int) : Int := arithOf .xor .u8 x y
def addToL (l : List Int) (off : Nat) (s : List Int) (c : Int) : List Int := l.mapIdx fun i x => if off ≤ i ∧ i < off + s.length then xorB x (mulF c (s.getD (i - off) 0)) else x
def scaleL (l : List Int) (off n : Nat) (c : Int) : List Int := l.mapIdx fun i x => if off ≤ i ∧ i < off + n then mulF x c else x
def bSl (r o l c : Nat) : SV := .one (.vslice r (.var o) (.var l) (.var c) 1)
def bHp (r d c : Nat) : SH := .arr r 5 kB (.var d) (.var c)
/-- A matrix: rows, columns; the cells' region, length, capacity. -/
def mArg (a b r l c : Nat) : SV := .agg [.vint .i64 (.var a), .vint .i64 (.var b), .vslice r (.lit 0) (.var l) (.var c) 1]

/-! ### Sizes -/
def sizesB (k total : Int) : Bool := decide (1 ≤ k) && decide (k ≤ total) && decide (total ≤ 255)
def sizes74C : Ctr := { fn := 74, nv := 2, args := [iv .i64 (.var 0), iv .i64 (.var 1)], heap := [], ro := [], pre := fun _ => True, alts := [{ k := 1, ret := .one (.vbool (.var 2)), heap := [], post := fun ρ => (ρ 2).b = sizesB (ρ 0).i (ρ 1).i }] }
def pieceBad (k size : Int) : Prop := k < 1 ∨ 255 < k ∨ size < 0 ∨ 8192 < size
def piece26C : Ctr := { fn := 26, nv := 2, args := [iv .i64 (.var 0), iv .i64 (.var 1)], heap := [], ro := [], pre := fun _ => True, alts := [{ k := 2, ret := .tup [(false, [.vint .i64 (.var 2)]), (false, [.vint .i64 (.var 3)])], heap := [], post := fun ρ => (pieceBad (ρ 0).i (ρ 1).i → (ρ 2).i = 0 ∧ (ρ 3).i = 2) ∧ (¬ pieceBad (ρ 0).i (ρ 1).i → (ρ 2).i = ((ρ 1).i + (ρ 0).i - 1).tdiv (ρ 0).i ∧ (ρ 3).i = 0) }] }

/-! ### Matrices -/
def zero82C : Ctr := { fn := 82, nv := 2, args := [iv .i64 (.var 0), iv .i64 (.var 1)], heap := [], ro := [], pre := fun ρ => 0 ≤ (ρ 0).i ∧ (ρ 0).i ≤ 255 ∧ 0 ≤ (ρ 1).i ∧ (ρ 1).i ≤ 255, alts := [{ k := 4, ret := mArg 0 1 2 3 4, heap := [bHp 2 5 4], post := fun ρ => (ρ 3).i = (ρ 0).i * (ρ 1).i ∧ (ρ 4).i = (ρ 3).i ∧ (ρ 5).d = List.replicate (ρ 3).i.toNat [.int .u8 0] }] }
/-- A matrix in memory, its cells from the region's beginning on. -/
def matOk (r c l cap : Int) (d : Rows') : Prop := 0 ≤ r ∧ r ≤ 255 ∧ 0 ≤ c ∧ c ≤ 255 ∧ l = r * c ∧ l ≤ cap ∧ l ≤ d.length ∧ allB d
def row75C : Ctr := { fn := 75, nv := 8, args := [mArg 0 1 2 3 4, iv .i64 (.var 7)], heap := [], ro := [bHp 2 5 6], pre := fun ρ => 0 ≤ (ρ 7).i ∧ (ρ 7).i < (ρ 0).i ∧ matOk (ρ 0).i (ρ 1).i (ρ 3).i (ρ 4).i (ρ 5).d, alts := [{ k := 3, ret := bSl 2 8 9 10, heap := [], post := fun ρ => (ρ 8).i = (ρ 7).i * (ρ 1).i ∧ (ρ 9).i = (ρ 1).i ∧ (ρ 10).i = (ρ 1).i }] }
def valid36C : Ctr := { fn := 36, nv := 7, args := [mArg 0 1 2 3 4], heap := [], ro := [bHp 2 5 6], pre := fun ρ => 0 ≤ (ρ 3).i, alts := [{ k := 1, ret := .one (.vbool (.var 7)), heap := [], post := fun ρ => (ρ 7).b = true ↔ (1 ≤ (ρ 0).i ∧ (ρ 0).i ≤ 255 ∧ 1 ≤ (ρ 1).i ∧ (ρ 1).i ≤ 255 ∧ (ρ 3).i = (ρ 0).i * (ρ 1).i) }] }
def clone84C : Ctr := { fn := 84, nv := 7, args := [mArg 0 1 2 3 4], heap := [], ro := [bHp 2 5 6], pre := fun ρ => 0 ≤ (ρ 3).i ∧ (ρ 3).i ≤ (ρ 5).d.length ∧ (ρ 3).i ≤ big, alts := [{ k := 3, ret := .agg [.vint .i64 (.var 0), .vint .i64 (.var 1), .vslice 7 (.lit 0) (.var 3) (.var 8) 1], heap := [bHp 7 9 8], post := fun ρ => (ρ 9).d = (ρ 5).d.take (ρ 3).i.toNat }] }

/-! ### Rows -/
def addToC : Ctr := { fn := 76, nv := 15, args := [fArg, bSl 2 3 4 5, bSl 8 9 10 11, iv .u8 (.var 14)], heap := [fHp 1, bHp 2 6 7], ro := [bHp 8 12 13], pre := fun ρ => fieldD (ρ 1).d ∧ segOk (ρ 6).d (ρ 3).i (ρ 4).i ∧ segOk (ρ 12).d (ρ 9).i (ρ 10).i ∧ (ρ 10).i ≤ (ρ 4).i ∧ allB (ρ 6).d ∧ allB (ρ 12).d ∧ 0 ≤ (ρ 14).i ∧ (ρ 14).i < 256, alts := [{ k := 2, ret := .tup [], heap := [fHp 15, bHp 2 16 7], post := fun ρ => fieldD (ρ 15).d ∧ (ρ 16).d.length = (ρ 6).d.length ∧ allB (ρ 16).d ∧ bI (ρ 16).d = addToL (bI (ρ 6).d) (ρ 3).i.toNat (seg (bI (ρ 12).d) (ρ 9).i.toNat (ρ 10).i.toNat) (ρ 14).i }] }
/-- 1000 the round, 1001 the field, 1002 the rows. -/
def addToI : Inv := { key := 2, nv := 3, env := [(0, fArg), (1, bSl 2 3 4 5), (3, iv .u8 (.var 14)), (12, bSl 8 9 10 11), (13, iv .i64 (.var 10)), (14, iv .i64 (.var 1000))], heap := [fHp 1001, bHp 2 1002 7], inv := (fun ρ => 0 ≤ (ρ 1000).i ∧ (ρ 1000).i ≤ (ρ 10).i ∧ fieldD (ρ 1001).d ∧ (ρ 1002).d.length = (ρ 6).d.length ∧ allB (ρ 1002).d ∧ bI (ρ 1002).d = addToL (bI (ρ 6).d) (ρ 3).i.toNat (seg (bI (ρ 12).d) (ρ 9).i.toNat (ρ 1000).i.toNat) (ρ 14).i), mu := (fun ρ => ((ρ 10).i - (ρ 1000).i).toNat) }
/-- The same, both rows in one block. -/
def addToS : Ctr := { fn := 76, nv := 12, args := [fArg, bSl 2 3 4 5, bSl 2 8 9 10, iv .u8 (.var 11)], heap := [fHp 1, bHp 2 6 7], ro := [], pre := fun ρ => fieldD (ρ 1).d ∧ segOk (ρ 6).d (ρ 3).i (ρ 4).i ∧ segOk (ρ 6).d (ρ 8).i (ρ 9).i ∧ (ρ 9).i ≤ (ρ 4).i ∧ ((ρ 8).i + (ρ 9).i ≤ (ρ 3).i ∨ (ρ 3).i + (ρ 4).i ≤ (ρ 8).i) ∧ allB (ρ 6).d ∧ 0 ≤ (ρ 11).i ∧ (ρ 11).i < 256, alts := [{ k := 2, ret := .tup [], heap := [fHp 12, bHp 2 13 7], post := fun ρ => fieldD (ρ 12).d ∧ (ρ 13).d.length = (ρ 6).d.length ∧ allB (ρ 13).d ∧ bI (ρ 13).d = addToL (bI (ρ 6).d) (ρ 3).i.toNat (seg (bI (ρ 6).d) (ρ 8).i.toNat (ρ 9).i.toNat) (ρ 11).i }] }
def addToSI : Inv := { key := 2, nv := 3, env := [(0, fArg), (1, bSl 2 3 4 5), (3, iv .u8 (.var 11)), (12, bSl 2 8 9 10), (13, iv .i64 (.var 9)), (14, iv .i64 (.var 1000))], heap := [fHp 1001, bHp 2 1002 7], inv := (fun ρ => 0 ≤ (ρ 1000).i ∧ (ρ 1000).i ≤ (ρ 9).i ∧ fieldD (ρ 1001).d ∧ (ρ 1002).d.length = (ρ 6).d.length ∧ allB (ρ 1002).d ∧ bI (ρ 1002).d = addToL (bI (ρ 6).d) (ρ 3).i.toNat (seg (bI (ρ 6).d) (ρ 8).i.toNat (ρ 1000).i.toNat) (ρ 11).i), mu := (fun ρ => ((ρ 9).i - (ρ 1000).i).toNat) }
def scaleC : Ctr := { fn := 97, nv := 9, args := [fArg, bSl 2 3 4 5, iv .u8 (.var 8)], heap := [fHp 1, bHp 2 6 7], ro := [], pre := fun ρ => fieldD (ρ 1).d ∧ segOk (ρ 6).d (ρ 3).i (ρ 4).i ∧ allB (ρ 6).d ∧ 0 ≤ (ρ 8).i ∧ (ρ 8).i < 256, alts := [{ k := 2, ret := .tup [], heap := [fHp 9, bHp 2 10 7], post := fun ρ => fieldD (ρ 9).d ∧ (ρ 10).d.length = (ρ 6).d.length ∧ allB (ρ 10).d ∧ bI (ρ 10).d = scaleL (bI (ρ 6).d) (ρ 3).i.toNat (ρ 4).i.toNat (ρ 8).i }] }
def scaleI : Inv := { key := 1, nv := 3, env := [(0, fArg), (1, bSl 2 3 4 5), (2, iv .u8 (.var 8)), (8, bSl 2 3 4 5), (9, iv .i64 (.var 4)), (10, iv .i64 (.var 1000))], heap := [fHp 1001, bHp 2 1002 7], inv := (fun ρ => 0 ≤ (ρ 1000).i ∧ (ρ 1000).i ≤ (ρ 4).i ∧ fieldD (ρ 1001).d ∧ (ρ 1002).d.length = (ρ 6).d.length ∧ allB (ρ 1002).d ∧ bI (ρ 1002).d = scaleL (bI (ρ 6).d) (ρ 3).i.toNat (ρ 1000).i.toNat (ρ 8).i), mu := (fun ρ => ((ρ 4).i - (ρ 1000).i).toNat) }

/-! ### The field's other calls -/
def invF (a : Int) : Int := if a = 0 then 0 else expT (255 - logT a.toNat).toNat
def inv51C : Ctr := { fn := 51, nv := 3, args := [fArg, iv .u8 (.var 2)], heap := [fHp 1], ro := [], pre := fun ρ => fieldD (ρ 1).d ∧ 0 ≤ (ρ 2).i ∧ (ρ 2).i < 256, alts := [{ k := 3, ret := .tup [(false, [.vint .u8 (.var 3)]), (false, [.vint .i64 (.var 4)])], heap := [fHp 5], post := fun ρ => fieldD (ρ 5).d ∧ (ρ 3).i = invF (ρ 2).i ∧ (ρ 4).i = if (ρ 2).i = 0 then 2 else 0 }] }
def powF (a e : Int) : Int := if e ≤ 0 then 1 else if a = 0 then 0 else expT ((logT a.toNat * e.tmod 255).tmod 255).toNat
def pow37C : Ctr := { fn := 37, nv := 4, args := [fArg, iv .u8 (.var 2), iv .i64 (.var 3)], heap := [fHp 1], ro := [], pre := fun ρ => fieldD (ρ 1).d ∧ 0 ≤ (ρ 2).i ∧ (ρ 2).i < 256 ∧ (ρ 3).i < 9223372036854775808, alts := [{ k := 2, ret := iv .u8 (.var 4), heap := [fHp 5], post := fun ρ => fieldD (ρ 5).d ∧ (ρ 4).i = powF (ρ 2).i (ρ 3).i }] }
def div52C : Ctr := { fn := 52, nv := 4, args := [fArg, iv .u8 (.var 2), iv .u8 (.var 3)], heap := [fHp 1], ro := [], pre := mulC.pre, alts := [{ k := 3, ret := .tup [(false, [.vint .u8 (.var 4)]), (false, [.vint .i64 (.var 5)])], heap := [fHp 6], post := fun ρ => fieldD (ρ 6).d ∧ (ρ 4).i = mulF (ρ 2).i (invF (ρ 3).i) ∧ (ρ 5).i = if (ρ 3).i = 0 then 2 else 0 }] }
def add34C : Ctr := { fn := 34, nv := 2, args := [iv .u8 (.var 0), iv .u8 (.var 1)], heap := [], ro := [], pre := fun _ => True, alts := [{ k := 0, ret := iv .u8 (.arith .xor .u8 (.var 0) (.var 1)), heap := [], post := fun _ => True }] }
end Go.Eng
