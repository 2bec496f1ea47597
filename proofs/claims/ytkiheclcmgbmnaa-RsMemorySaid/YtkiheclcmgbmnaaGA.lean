/- The field: contracts. -/
import Derived.Test.YtkiheclcmgbmnaaEC
set_option linter.unusedSimpArgs false
set_option linter.unusedVariables false
namespace Go.Eng
open Go

/-! ### The field's block -/
def kField : List CK := [.int .u32, .int .i32, .int .u32] ++ List.replicate 510 (.int .u8) ++ List.replicate 256 (.int .i64)
def freshRow : List Value := [.int .u32 0, .int .i32 0, .int .u32 0] ++ List.replicate 510 (.int .u8 0) ++ List.replicate 256 (.int .i64 0)
abbrev Rows' := List (List Value)
/-- The next power of 2. -/
def nextX (x : Int) : Int := if 256 ≤ 2 * x then arithOf .xor .i64 (2 * x) 285 else 2 * x
def buildStep (i : Nat) (s : Rows' × Int) : Rows' × Int :=
  (putX (putX (putX s.1 (i + 3) (.int .u8 s.2)) (i + 255 + 3) (.int .u8 s.2)) (s.2.toNat + 513) (.int .i64 i), nextX s.2)
def buildN (d : Rows') : Nat → Rows' × Int
  | 0 => (d, 1)
  | n + 1 => buildStep n (buildN d n)
/-- The tables are filled. -/
def builtD : Rows' := (buildN [freshRow] 255).1
/-- It was used already: the word that says so, and the lock. -/
def doneD : Rows' := putX builtD 0 (.int .u32 1)
/-- A field as it can be. -/
def fieldD (d : Rows') : Prop := d = [freshRow] ∨ d = doneD
def fArg : SV := .one (.vptr 0 (.lit 0) 769 0)
def fHp (n : Nat) : SH := .arr 0 98 kField (.var n) (.lit 1)
def iv (k : IntKind) (t : T) : SV := .one (.vint k t)

def newFieldC : Ctr := { fn := 30, nv := 0, args := [], heap := [], ro := [], pre := fun _ => True, alts := [{ k := 2, ret := fArg, heap := [fHp 1], post := fun ρ => (ρ 1).d = [freshRow] }] }
def buildC : Ctr := { fn := 81, nv := 2, args := [fArg], heap := [fHp 1], ro := [], pre := fun ρ => (ρ 1).d.length = 1, alts := [{ k := 1, ret := .tup [], heap := [fHp 2], post := fun ρ => (ρ 2).d = (buildN (ρ 1).d 255).1 }] }
/-- 1000 the power, 1001 its exponent, 1002 the rows. -/
def buildI : Inv := { key := 2, nv := 3, env := [(0, fArg), (2, iv .i64 (.var 1000)), (3, iv .i64 (.var 1001))], heap := [fHp 1002], inv := (fun ρ => 0 ≤ (ρ 1001).i ∧ (ρ 1001).i ≤ 255 ∧ ((ρ 1002).d, (ρ 1000).i) = buildN (ρ 1).d (ρ 1001).i.toNat), mu := (fun ρ => (255 - (ρ 1001).i).toNat) }
/-- The powers' table and the exponents'. -/
def expT (i : Nat) : Int := cellX doneD (i + 3)
def logT (a : Nat) : Int := cellX doneD (a + 513)
def mulF (a b : Int) : Int := if a = 0 ∨ b = 0 then 0 else expT (logT a.toNat + logT b.toNat).toNat
def onceC : Ctr := { fn := 80, nv := 2, args := [fArg, .fn (.func 81) [.vptr 0 (.lit 0) 769 0] []], heap := [fHp 1], ro := [], pre := fun ρ => fieldD (ρ 1).d, alts := [{ k := 1, ret := .tup [], heap := [fHp 2], post := fun ρ => (ρ 2).d = doneD }] }
def mulC : Ctr := { fn := 39, nv := 4, args := [fArg, iv .u8 (.var 2), iv .u8 (.var 3)], heap := [fHp 1], ro := [], pre := fun ρ => fieldD (ρ 1).d ∧ 0 ≤ (ρ 2).i ∧ (ρ 2).i < 256 ∧ 0 ≤ (ρ 3).i ∧ (ρ 3).i < 256, alts := [{ k := 2, ret := iv .u8 (.var 4), heap := [fHp 5], post := fun ρ => fieldD (ρ 5).d ∧ (ρ 4).i = mulF (ρ 2).i (ρ 3).i }] }
end Go.Eng

/- Rows and matrices over the field: contracts. -/
set_option linter.unusedSimpArgs false
set_option linter.unusedVariables false
namespace Go.Eng
open Go

/-! ### Bytes -/
def kB : List CK := [.int .u8]
def rowI (r : List Value) (c : Nat) : Int := vInt (r[c]?.getD .nilFunc)
def bI (d : Rows') : List Int := d.map fun r => rowI r 0
def allB (d : Rows') : Prop := ∀ row ∈ d, 0 ≤ rowI row 0 ∧ rowI row 0 < 256
def big : Int := 8796093021952
def segOk (d : Rows') (off len : Int) : Prop := 0 ≤ off ∧ 0 ≤ len ∧ off + len ≤ d.length ∧ len ≤ big
def seg (l : List Int) (off n : Nat) : List Int := (l.drop off).take n
def xorB (x y : Int) : Int := arithOf .xor .u8 x y
def addToL (l : List Int) (off : Nat) (s : List Int) (c : Int) : List Int := l.mapIdx fun i x => if off ≤ i ∧ i < off + s.length then xorB x (mulF c (s.getD (i - off) 0)) else x
def scaleL (l : List Int) (off n : Nat) (c : Int) : List Int := l.mapIdx fun i x => if off ≤ i ∧ i < off + n then mulF x c else x
def bSl (r o l c : Nat) : SV := .one (.vslice r (.var o) (.var l) (.var c) 1)
def bHp (r d c : Nat) : SH := .arr r 5 kB (.var d) (.var c)
/-- A matrix: rows, columns; the cells' region, length, capacity. -/
def mArg (a b r l c : Nat) : SV := .agg [.vint .i64 (.var a), .vint .i64 (.var b), .vslice r (.lit 0) (.var l) (.var c) 1]

/-! ### Sizes -/
def sizesB (k total : Int) : Bool := decide (1 ≤ k) && decide (k ≤ total) && decide (total ≤ 255)
def sizes74C : Ctr := { fn := 74, nv := 2, args := [iv .i64 (.var 0), iv .i64 (.var 1)], heap := [], ro := [], pre := fun _ => True, alts := [{ k := 1, ret := .one (.vbool (.var 2)), heap := [], post := fun ρ => (ρ 2).b = sizesB (ρ 0).i (ρ 1).i }] }
def pieceBad (k size : Int) : Prop := k < 1 ∨ 255 < k ∨ size < 0 ∨ 8192 < size
def piece26C : Ctr := { fn := 26, nv := 2, args := [iv .i64 (.var 0), iv .i64 (.var 1)], heap := [], ro := [], pre := fun _ => True, alts := [{ k := 2, ret := .tup [(false, [.vint .i64 (.var 2)]), (false, [.vint .i64 (.var 3)])], heap := [], post := fun ρ => (pieceBad (ρ 0).i (ρ 1).i → (ρ 2).i = 0 ∧ (ρ 3).i = 2) ∧ (¬ pieceBad (ρ 0).i (ρ 1).i → (ρ 2).i = ((ρ 1).i + (ρ 0).i - 1).tdiv (ρ 0).i ∧ (ρ 3).i = 0) }] }

/-! ### Matrices -/
def zero82C : Ctr := { fn := 82, nv := 2, args := [iv .i64 (.var 0), iv .i64 (.var 1)], heap := [], ro := [], pre := fun ρ => 0 ≤ (ρ 0).i ∧ (ρ 0).i ≤ 255 ∧ 0 ≤ (ρ 1).i ∧ (ρ 1).i ≤ 255, alts := [{ k := 4, ret := mArg 0 1 2 3 4, heap := [bHp 2 5 4], post := fun ρ => (ρ 3).i = (ρ 0).i * (ρ 1).i ∧ (ρ 4).i = (ρ 3).i ∧ (ρ 5).d = List.replicate (ρ 3).i.toNat [.int .u8 0] }] }
/-- A matrix in memory, its cells from the region's beginning on. -/
def matOk (r c l cap : Int) (d : Rows') : Prop := 0 ≤ r ∧ r ≤ 255 ∧ 0 ≤ c ∧ c ≤ 255 ∧ l = r * c ∧ l ≤ cap ∧ l ≤ d.length ∧ allB d
def row75C : Ctr := { fn := 75, nv := 8, args := [mArg 0 1 2 3 4, iv .i64 (.var 7)], heap := [], ro := [bHp 2 5 6], pre := fun ρ => 0 ≤ (ρ 7).i ∧ (ρ 7).i < (ρ 0).i ∧ matOk (ρ 0).i (ρ 1).i (ρ 3).i (ρ 4).i (ρ 5).d, alts := [{ k := 3, ret := bSl 2 8 9 10, heap := [], post := fun ρ => (ρ 8).i = (ρ 7).i * (ρ 1).i ∧ (ρ 9).i = (ρ 1).i ∧ (ρ 10).i = (ρ 1).i }] }
def valid36C : Ctr := { fn := 36, nv := 7, args := [mArg 0 1 2 3 4], heap := [], ro := [bHp 2 5 6], pre := fun ρ => 0 ≤ (ρ 3).i, alts := [{ k := 1, ret := .one (.vbool (.var 7)), heap := [], post := fun ρ => (ρ 7).b = true ↔ (1 ≤ (ρ 0).i ∧ (ρ 0).i ≤ 255 ∧ 1 ≤ (ρ 1).i ∧ (ρ 1).i ≤ 255 ∧ (ρ 3).i = (ρ 0).i * (ρ 1).i) }] }
def clone84C : Ctr := { fn := 84, nv := 7, args := [mArg 0 1 2 3 4], heap := [], ro := [bHp 2 5 6], pre := fun ρ => 0 ≤ (ρ 3).i ∧ (ρ 3).i ≤ (ρ 5).d.length ∧ (ρ 3).i ≤ big, alts := [{ k := 3, ret := .agg [.vint .i64 (.var 0), .vint .i64 (.var 1), .vslice 7 (.lit 0) (.var 3) (.var 8) 1], heap := [bHp 7 9 8], post := fun ρ => (ρ 9).d = (ρ 5).d.take (ρ 3).i.toNat }] }

/-! ### Rows -/
def addToC : Ctr := { fn := 76, nv := 15, args := [fArg, bSl 2 3 4 5, bSl 8 9 10 11, iv .u8 (.var 14)], heap := [fHp 1, bHp 2 6 7], ro := [bHp 8 12 13], pre := fun ρ => fieldD (ρ 1).d ∧ segOk (ρ 6).d (ρ 3).i (ρ 4).i ∧ segOk (ρ 12).d (ρ 9).i (ρ 10).i ∧ (ρ 10).i ≤ (ρ 4).i ∧ allB (ρ 6).d ∧ allB (ρ 12).d ∧ 0 ≤ (ρ 14).i ∧ (ρ 14).i < 256, alts := [{ k := 2, ret := .tup [], heap := [fHp 15, bHp 2 16 7], post := fun ρ => fieldD (ρ 15).d ∧ (ρ 16).d.length = (ρ 6).d.length ∧ allB (ρ 16).d ∧ bI (ρ 16).d = addToL (bI (ρ 6).d) (ρ 3).i.toNat (seg (bI (ρ 12).d) (ρ 9).i.toNat (ρ 10).i.toNat) (ρ 14).i }] }
/-- 1000 the round, 1001 the field, 1002 the rows. -/
def addToI : Inv := { key := 2, nv := 3, env := [(0, fArg), (1, bSl 2 3 4 5), (3, iv .u8 (.var 14)), (12, bSl 8 9 10 11), (13, iv .i64 (.var 10)), (14, iv .i64 (.var 1000))], heap := [fHp 1001, bHp 2 1002 7], inv := (fun ρ => 0 ≤ (ρ 1000).i ∧ (ρ 1000).i ≤ (ρ 10).i ∧ fieldD (ρ 1001).d ∧ (ρ 1002).d.length = (ρ 6).d.length ∧ allB (ρ 1002).d ∧ bI (ρ 1002).d = addToL (bI (ρ 6).d) (ρ 3).i.toNat (seg (bI (ρ 12).d) (ρ 9).i.toNat (ρ 1000).i.toNat) (ρ 14).i), mu := (fun ρ => ((ρ 10).i - (ρ 1000).i).toNat) }
/-- The same, both rows in one block. -/
def addToS : Ctr := { fn := 76, nv := 12, args := [fArg, bSl 2 3 4 5, bSl 2 8 9 10, iv .u8 (.var 11)], heap := [fHp 1, bHp 2 6 7], ro := [], pre := fun ρ => fieldD (ρ 1).d ∧ segOk (ρ 6).d (ρ 3).i (ρ 4).i ∧ segOk (ρ 6).d (ρ 8).i (ρ 9).i ∧ (ρ 9).i ≤ (ρ 4).i ∧ ((ρ 8).i + (ρ 9).i ≤ (ρ 3).i ∨ (ρ 3).i + (ρ 4).i ≤ (ρ 8).i) ∧ allB (ρ 6).d ∧ 0 ≤ (ρ 11).i ∧ (ρ 11).i < 256, alts := [{ k := 2, ret := .tup [], heap := [fHp 12, bHp 2 13 7], post := fun ρ => fieldD (ρ 12).d ∧ (ρ 13).d.length = (ρ 6).d.length ∧ allB (ρ 13).d ∧ bI (ρ 13).d = addToL (bI (ρ 6).d) (ρ 3).i.toNat (seg (bI (ρ 6).d) (ρ 8).i.toNat (ρ 9).i.toNat) (ρ 11).i }] }
def addToSI : Inv := { key := 2, nv := 3, env := [(0, fArg), (1, bSl 2 3 4 5), (3, iv .u8 (.var 11)), (12, bSl 2 8 9 10), (13, iv .i64 (.var 9)), (14, iv .i64 (.var 1000))], heap := [fHp 1001, bHp 2 1002 7], inv := (fun ρ => 0 ≤ (ρ 1000).i ∧ (ρ 1000).i ≤ (ρ 9).i ∧ fieldD (ρ 1001).d ∧ (ρ 1002).d.length = (ρ 6).d.length ∧ allB (ρ 1002).d ∧ bI (ρ 1002).d = addToL (bI (ρ 6).d) (ρ 3).i.toNat (seg (bI (ρ 6).d) (ρ 8).i.toNat (ρ 1000).i.toNat) (ρ 11).i), mu := (fun ρ => ((ρ 9).i - (ρ 1000).i).toNat) }
def scaleC : Ctr := { fn := 97, nv := 9, args := [fArg, bSl 2 3 4 5, iv .u8 (.var 8)], heap := [fHp 1, bHp 2 6 7], ro := [], pre := fun ρ => fieldD (ρ 1).d ∧ segOk (ρ 6).d (ρ 3).i (ρ 4).i ∧ allB (ρ 6).d ∧ 0 ≤ (ρ 8).i ∧ (ρ 8).i < 256, alts := [{ k := 2, ret := .tup [], heap := [fHp 9, bHp 2 10 7], post := fun ρ => fieldD (ρ 9).d ∧ (ρ 10).d.length = (ρ 6).d.length ∧ allB (ρ 10).d ∧ bI (ρ 10).d = scaleL (bI (ρ 6).d) (ρ 3).i.toNat (ρ 4).i.toNat (ρ 8).i }] }
def scaleI : Inv := { key := 1, nv := 3, env := [(0, fArg), (1, bSl 2 3 4 5), (2, iv .u8 (.var 8)), (8, bSl 2 3 4 5), (9, iv .i64 (.var 4)), (10, iv .i64 (.var 1000))], heap := [fHp 1001, bHp 2 1002 7], inv := (fun ρ => 0 ≤ (ρ 1000).i ∧ (ρ 1000).i ≤ (ρ 4).i ∧ fieldD (ρ 1001).d ∧ (ρ 1002).d.length = (ρ 6).d.length ∧ allB (ρ 1002).d ∧ bI (ρ 1002).d = scaleL (bI (ρ 6).d) (ρ 3).i.toNat (ρ 1000).i.toNat (ρ 8).i), mu := (fun ρ => ((ρ 4).i - (ρ 1000).i).toNat) }

/-! ### The field's other calls -/
def invF (a : Int) : Int := if a = 0 then 0 else expT (255 - logT a.toNat).toNat
def inv51C : Ctr := { fn := 51, nv := 3, args := [fArg, iv .u8 (.var 2)], heap := [fHp 1], ro := [], pre := fun ρ => fieldD (ρ 1).d ∧ 0 ≤ (ρ 2).i ∧ (ρ 2).i < 256, alts := [{ k := 3, ret := .tup [(false, [.vint .u8 (.var 3)]), (false, [.vint .i64 (.var 4)])], heap := [fHp 5], post := fun ρ => fieldD (ρ 5).d ∧ (ρ 3).i = invF (ρ 2).i ∧ (ρ 4).i = if (ρ 2).i = 0 then 2 else 0 }] }
def powF (a e : Int) : Int := if e ≤ 0 then 1 else if a = 0 then 0 else expT ((logT a.toNat * e.tmod 255).tmod 255).toNat
def pow37C : Ctr := { fn := 37, nv := 4, args := [fArg, iv .u8 (.var 2), iv .i64 (.var 3)], heap := [fHp 1], ro := [], pre := fun ρ => fieldD (ρ 1).d ∧ 0 ≤ (ρ 2).i ∧ (ρ 2).i < 256 ∧ (ρ 3).i < 9223372036854775808, alts := [{ k := 2, ret := iv .u8 (.var 4), heap := [fHp 5], post := fun ρ => fieldD (ρ 5).d ∧ (ρ 4).i = powF (ρ 2).i (ρ 3).i }] }
def div52C : Ctr := { fn := 52, nv := 4, args := [fArg, iv .u8 (.var 2), iv .u8 (.var 3)], heap := [fHp 1], ro := [], pre := mulC.pre, alts := [{ k := 3, ret := .tup [(false, [.vint .u8 (.var 4)]), (false, [.vint .i64 (.var 5)])], heap := [fHp 6], post := fun ρ => fieldD (ρ 6).d ∧ (ρ 4).i = mulF (ρ 2).i (invF (ρ 3).i) ∧ (ρ 5).i = if (ρ 3).i = 0 then 2 else 0 }] }
def add34C : Ctr := { fn := 34, nv := 2, args := [iv .u8 (.var 0), iv .u8 (.var 1)], heap := [], ro := [], pre := fun _ => True, alts := [{ k := 0, ret := iv .u8 (.arith .xor .u8 (.var 0) (.var 1)), heap := [], post := fun _ => True }] }
end Go.Eng

/- Matrices over the field: contracts of the greater calls. -/
set_option linter.unusedSimpArgs false
set_option linter.unusedVariables false
namespace Go.Eng
open Go

/-! ### What they compute -/
/-- The first n places filled, the others 0. -/
def fillTo (f : Nat → Int) (len n : Nat) : List Int := (List.range len).map fun i => if i < n then f i else 0
def identTo (n m : Nat) : List Int := (List.range (n * n)).map fun t => if t / n = t % n ∧ t / n < m then 1 else 0
def vanderF (cols : Nat) (i : Nat) : Int := powF (i / cols : Nat) (i % cols : Nat)
def vanderL (rows cols : Nat) : List Int := fillTo (vanderF cols) (rows * cols) (rows * cols)
/-- The product after t additions of rows. -/
def prodN (a b : List Int) (ra ca cb : Nat) : Nat → List Int
  | 0 => List.replicate (ra * cb) 0
  | t + 1 => addToL (prodN a b ra ca cb t) (t / ca * cb) (seg b (t % ca * cb) cb) (a.getD t 0)
def prodL (a b : List Int) (ra ca cb : Nat) : List Int := prodN a b ra ca cb (ra * ca)
/-- The row of the pivot. -/
def pivF (a : List Int) (ca c : Nat) : Nat → Nat → Nat
  | p, 0 => p
  | p, n + 1 => if a.getD (p * ca + c) 0 = 0 then pivF a ca c (p + 1) n else p
def elimRows (ca cb rank c : Nat) (a b : List Int) : Nat → List Int × List Int
  | 0 => (a, b)
  | i + 1 =>
    let s := elimRows ca cb rank c a b i
    if i = rank then s else
      (addToL s.1 (i * ca) (seg s.1 (rank * ca) ca) (s.1.getD (i * ca + c) 0), addToL s.2 (i * cb) (seg s.2 (rank * cb) cb) (s.1.getD (i * ca + c) 0))
def swapR (ca cb rank p : Nat) (a b : List Int) : List Int × List Int :=
  if p = rank then (a, b) else (addToL a (rank * ca) (seg a (p * ca) ca) 1, addToL b (rank * cb) (seg b (p * cb) cb) 1)
def scaleR (ca cb rank c : Nat) (a b : List Int) : List Int × List Int :=
  (scaleL a (rank * ca) ca (invF (a.getD (rank * ca + c) 0)), scaleL b (rank * cb) cb (invF (a.getD (rank * ca + c) 0)))
/-- The pivot's row is brought up and scaled. -/
def elimMid (rows ca cb c : Nat) (s : List Int × List Int × Nat) : List Int × List Int :=
  let s1 := swapR ca cb s.2.2 (pivF s.1 ca c s.2.2 (rows - s.2.2)) s.1 s.2.1
  scaleR ca cb s.2.2 c s1.1 s1.2
def elimStep (rows ca cb c : Nat) (s : List Int × List Int × Nat) : List Int × List Int × Nat :=
  if rows ≤ s.2.2 then s else
    if pivF s.1 ca c s.2.2 (rows - s.2.2) = rows then s else
      let s3 := elimRows ca cb s.2.2 c (elimMid rows ca cb c s).1 (elimMid rows ca cb c s).2 rows
      (s3.1, s3.2, s.2.2 + 1)
def elimN (rows ca cb : Nat) (a b : List Int) : Nat → List Int × List Int × Nat
  | 0 => (a, b, 0)
  | c + 1 => elimStep rows ca cb c (elimN rows ca cb a b c)

/-! ### Contracts -/
def mRet (a b : T) (r l c : Nat) : Bool × List T := (true, [.vint .i64 a, .vint .i64 b, .vslice r (.lit 0) (.var l) (.var c) 1])
def nilM : Bool × List T := (true, [.vint .i64 (.lit 0), .vint .i64 (.lit 0), .vnils])
def eRet (t : T) : Bool × List T := (false, [.vint .i64 t])
def ident40C : Ctr := { fn := 40, nv := 1, args := [iv .i64 (.var 0)], heap := [], ro := [], pre := fun _ => True, alts := [
  { k := 0, ret := .tup [nilM, eRet (.lit 2)], heap := [], post := fun ρ => (ρ 0).i < 1 ∨ 255 < (ρ 0).i },
  { k := 4, ret := .tup [mRet (.var 0) (.var 0) 1 2 3, eRet (.lit 0)], heap := [bHp 1 4 3], post := fun ρ => 1 ≤ (ρ 0).i ∧ (ρ 0).i ≤ 255 ∧ matOk (ρ 0).i (ρ 0).i (ρ 2).i (ρ 3).i (ρ 4).d ∧ (ρ 2).i = (ρ 4).d.length ∧ bI (ρ 4).d = identTo (ρ 0).i.toNat (ρ 0).i.toNat }] }
/-- 1000 the round, 1001 .. 1004 the matrix, 1005 its box. -/
def ident40I : Inv := { key := 5, nv := 7, env := [(0, iv .i64 (.var 0)), (2, .one (.vptr 1006 (.lit 0) 3 0)), (4, .one (.vptr 1005 (.lit 0) 3 0)), (16, iv .i64 (.var 0)), (17, iv .i64 (.var 1000))], heap := [.cells 1005 43 [.vint .i64 (.var 0), .vint .i64 (.var 0), .vslice 1001 (.lit 0) (.var 1002) (.var 1003) 1], .cells 1006 43 [.vint .i64 (.lit 0), .vint .i64 (.lit 0), .vnils], bHp 1001 1004 1003], inv := (fun ρ => 1 ≤ (ρ 0).i ∧ (ρ 0).i ≤ 255 ∧ 0 ≤ (ρ 1000).i ∧ (ρ 1000).i ≤ (ρ 0).i ∧ matOk (ρ 0).i (ρ 0).i (ρ 1002).i (ρ 1003).i (ρ 1004).d ∧ (ρ 1002).i = (ρ 1004).d.length ∧ bI (ρ 1004).d = identTo (ρ 0).i.toNat (ρ 1000).i.toNat), mu := (fun ρ => ((ρ 0).i - (ρ 1000).i).toNat) }
def vanderBad (r c : Int) : Prop := r < 1 ∨ 255 < r ∨ c < 1 ∨ 255 < c
def vander45C : Ctr := { fn := 45, nv := 4, args := [fArg, iv .i64 (.var 2), iv .i64 (.var 3)], heap := [fHp 1], ro := [], pre := fun ρ => fieldD (ρ 1).d, alts := [
  { k := 1, ret := .tup [nilM, eRet (.lit 2)], heap := [fHp 4], post := fun ρ => fieldD (ρ 4).d ∧ vanderBad (ρ 2).i (ρ 3).i },
  { k := 5, ret := .tup [mRet (.var 2) (.var 3) 4 5 6, eRet (.lit 0)], heap := [fHp 7, bHp 4 8 6], post := fun ρ => fieldD (ρ 7).d ∧ ¬ vanderBad (ρ 2).i (ρ 3).i ∧ matOk (ρ 2).i (ρ 3).i (ρ 5).i (ρ 6).i (ρ 8).d ∧ (ρ 5).i = (ρ 8).d.length ∧ bI (ρ 8).d = vanderL (ρ 2).i.toNat (ρ 3).i.toNat }] }
def vandHp : List SH := [fHp 1006, .cells 1007 43 [.vint .i64 (.lit 0), .vint .i64 (.lit 0), .vnils], .cells 1005 43 [.vint .i64 (.var 2), .vint .i64 (.var 3), .vslice 1001 (.lit 0) (.var 1002) (.var 1003) 1], bHp 1001 1004 1003]
def vandInv (ρ : Env) (n : Int) : Prop := ¬ vanderBad (ρ 2).i (ρ 3).i ∧ fieldD (ρ 1006).d ∧ matOk (ρ 2).i (ρ 3).i (ρ 1002).i (ρ 1003).i (ρ 1004).d ∧ (ρ 1002).i = (ρ 1004).d.length ∧ bI (ρ 1004).d = fillTo (vanderF (ρ 3).i.toNat) ((ρ 2).i.toNat * (ρ 3).i.toNat) n.toNat
/-- 1000 the row, 1001 .. 1004 the matrix, 1005 its box, 1006 the field. -/
def vander45I : Inv := { key := 7, nv := 8, env := [(0, fArg), (1, iv .i64 (.var 2)), (2, iv .i64 (.var 3)), (6, .one (.vptr 1007 (.lit 0) 3 0)), (8, .one (.vptr 1005 (.lit 0) 3 0)), (32, iv .i64 (.var 2)), (33, iv .i64 (.var 1000))], heap := vandHp, inv := (fun ρ => 0 ≤ (ρ 1000).i ∧ (ρ 1000).i ≤ (ρ 2).i ∧ vandInv ρ ((ρ 1000).i * (ρ 3).i)), mu := (fun ρ => ((ρ 2).i - (ρ 1000).i).toNat) }
/-- 1008 the column. -/
def vander45J : Inv := { key := 10, nv := 9, env := [(0, fArg), (1, iv .i64 (.var 2)), (2, iv .i64 (.var 3)), (6, .one (.vptr 1007 (.lit 0) 3 0)), (8, .one (.vptr 1005 (.lit 0) 3 0)), (32, iv .i64 (.var 2)), (33, iv .i64 (.var 1000)), (9, iv .i64 (.var 1000)), (36, iv .i64 (.var 3)), (37, iv .i64 (.var 1008))], heap := vandHp, inv := (fun ρ => 0 ≤ (ρ 1000).i ∧ (ρ 1000).i < (ρ 2).i ∧ 0 ≤ (ρ 1008).i ∧ (ρ 1008).i ≤ (ρ 3).i ∧ vandInv ρ ((ρ 1000).i * (ρ 3).i + (ρ 1008).i) ∧ (ρ 1000).i = (ρ 10).i), mu := (fun ρ => ((ρ 3).i - (ρ 1008).i).toNat) }
/-- Two matrices: a at 2 .. 8, b at 9 .. 15. -/
def argA : SV := mArg 2 3 4 5 6
def argB : SV := mArg 9 10 11 12 13
def validM (r c l : Int) : Prop := 1 ≤ r ∧ r ≤ 255 ∧ 1 ≤ c ∧ c ≤ 255 ∧ l = r * c
def prod49C : Ctr := { fn := 49, nv := 16, args := [fArg, argA, argB], heap := [fHp 1], ro := [bHp 4 7 8, bHp 11 14 15], pre := fun ρ => fieldD (ρ 1).d ∧ 0 ≤ (ρ 5).i ∧ (ρ 5).i ≤ (ρ 6).i ∧ (ρ 5).i ≤ (ρ 7).d.length ∧ allB (ρ 7).d ∧ 0 ≤ (ρ 12).i ∧ (ρ 12).i ≤ (ρ 13).i ∧ (ρ 12).i ≤ (ρ 14).d.length ∧ allB (ρ 14).d, alts := [
  { k := 1, ret := .tup [nilM, eRet (.lit 2)], heap := [fHp 16], post := fun ρ => fieldD (ρ 16).d ∧ ¬ (validM (ρ 2).i (ρ 3).i (ρ 5).i ∧ validM (ρ 9).i (ρ 10).i (ρ 12).i) },
  { k := 1, ret := .tup [nilM, eRet (.lit 10)], heap := [fHp 16], post := fun ρ => fieldD (ρ 16).d ∧ validM (ρ 2).i (ρ 3).i (ρ 5).i ∧ validM (ρ 9).i (ρ 10).i (ρ 12).i ∧ (ρ 3).i ≠ (ρ 9).i },
  { k := 5, ret := .tup [mRet (.var 2) (.var 10) 16 17 18, eRet (.lit 0)], heap := [fHp 19, bHp 16 20 18], post := fun ρ => fieldD (ρ 19).d ∧ validM (ρ 2).i (ρ 3).i (ρ 5).i ∧ validM (ρ 9).i (ρ 10).i (ρ 12).i ∧ (ρ 3).i = (ρ 9).i ∧ matOk (ρ 2).i (ρ 10).i (ρ 17).i (ρ 18).i (ρ 20).d ∧ (ρ 17).i = (ρ 20).d.length ∧ bI (ρ 20).d = prodL ((bI (ρ 7).d).take (ρ 5).i.toNat) ((bI (ρ 14).d).take (ρ 12).i.toNat) (ρ 2).i.toNat (ρ 3).i.toNat (ρ 10).i.toNat }] }
def zBox (r : Nat) : SH := .cells r 43 [.vint .i64 (.lit 0), .vint .i64 (.lit 0), .vnils]
def boxM (r a b s l c : Nat) : SH := .cells r 43 [.vint .i64 (.var a), .vint .i64 (.var b), .vslice s (.lit 0) (.var l) (.var c) 1]
def prodHp : List SH := [fHp 1006, zBox 1009, boxM 1007 2 3 4 5 6, boxM 1008 9 10 11 12 13, boxM 1005 2 10 1001 1002 1003, bHp 1001 1004 1003]
def prodEnv : List (Nat × SV) := [(0, fArg), (6, .one (.vptr 1009 (.lit 0) 3 0)), (4, .one (.vptr 1007 (.lit 0) 3 0)), (5, .one (.vptr 1008 (.lit 0) 3 0)), (8, .one (.vptr 1005 (.lit 0) 3 0)), (36, iv .i64 (.var 2)), (37, iv .i64 (.var 1000))]
def prodInv (ρ : Env) (t : Int) : Prop := validM (ρ 2).i (ρ 3).i (ρ 5).i ∧ validM (ρ 9).i (ρ 10).i (ρ 12).i ∧ (ρ 3).i = (ρ 9).i ∧ fieldD (ρ 1006).d ∧ matOk (ρ 2).i (ρ 10).i (ρ 1002).i (ρ 1003).i (ρ 1004).d ∧ (ρ 1002).i = (ρ 1004).d.length ∧ bI (ρ 1004).d = prodN ((bI (ρ 7).d).take (ρ 5).i.toNat) ((bI (ρ 14).d).take (ρ 12).i.toNat) (ρ 2).i.toNat (ρ 3).i.toNat (ρ 10).i.toNat t.toNat
def prod49I : Inv := { key := 9, nv := 10, env := prodEnv, heap := prodHp, inv := (fun ρ => 0 ≤ (ρ 1000).i ∧ (ρ 1000).i ≤ (ρ 2).i ∧ prodInv ρ ((ρ 1000).i * (ρ 3).i)), mu := (fun ρ => ((ρ 2).i - (ρ 1000).i).toNat) }
/-- 1009 the round, 1010 .. 1012 the row's place, length and capacity. -/
def prod49J : Inv := { key := 12, nv := 14, env := prodEnv ++ [(9, iv .i64 (.var 1000)), (42, bSl 4 1011 1012 1013), (43, iv .i64 (.var 1012)), (44, iv .i64 (.var 1010))], heap := prodHp, inv := (fun ρ => 0 ≤ (ρ 1000).i ∧ (ρ 1000).i < (ρ 2).i ∧ 0 ≤ (ρ 1010).i ∧ (ρ 1010).i ≤ (ρ 3).i ∧ (ρ 1011).i = (ρ 1000).i * (ρ 3).i ∧ (ρ 1012).i = (ρ 3).i ∧ prodInv ρ ((ρ 1000).i * (ρ 3).i + (ρ 1010).i) ∧ (ρ 1000).i = (ρ 26).i), mu := (fun ρ => ((ρ 3).i - (ρ 1010).i).toNat) }
end Go.Eng

/- Elimination, inverses, generators: contracts. -/
set_option linter.unusedSimpArgs false
set_option linter.unusedVariables false
namespace Go.Eng
open Go

/-- An identity of a size that is allowed; powers of sizes that are. -/
def identGC : Ctr := { ident40C with pre := fun ρ => 1 ≤ (ρ 0).i ∧ (ρ 0).i ≤ 255, alts := ident40C.alts.drop 1 }
def vanderGC : Ctr := { vander45C with pre := fun ρ => fieldD (ρ 1).d ∧ ¬ vanderBad (ρ 2).i (ρ 3).i, alts := vander45C.alts.drop 1 }
/-- A copy, whose capacity is told of. -/
def cloneKC : Ctr := { clone84C with alts := [{ k := 3, ret := .agg [.vint .i64 (.var 0), .vint .i64 (.var 1), .vslice 7 (.lit 0) (.var 3) (.var 8) 1], heap := [bHp 7 9 8], post := fun ρ => (ρ 9).d = (ρ 5).d.take (ρ 3).i.toNat ∧ ((ρ 9).d.length : Int) ≤ (ρ 8).i }] }
def elimOf (ρ : Env) (c : Int) : List Int × List Int × Nat := elimN (ρ 2).i.toNat (ρ 3).i.toNat (ρ 10).i.toNat (bI (ρ 7).d) (bI (ρ 14).d) c.toNat
def fullM (r c l cap : Int) (d : Rows') : Prop := matOk r c l cap d ∧ l = d.length
def elim83C : Ctr := { fn := 83, nv := 16, args := [fArg, argA, argB], heap := [fHp 1, bHp 4 7 8, bHp 11 14 15], ro := [], pre := fun ρ => fieldD (ρ 1).d ∧ fullM (ρ 2).i (ρ 3).i (ρ 5).i (ρ 6).i (ρ 7).d ∧ fullM (ρ 9).i (ρ 10).i (ρ 12).i (ρ 13).i (ρ 14).d ∧ (ρ 9).i = (ρ 2).i, alts := [
  { k := 4, ret := iv .i64 (.var 16), heap := [fHp 17, bHp 4 18 8, bHp 11 19 15], post := fun ρ => fieldD (ρ 17).d ∧ fullM (ρ 2).i (ρ 3).i (ρ 5).i (ρ 6).i (ρ 18).d ∧ fullM (ρ 9).i (ρ 10).i (ρ 12).i (ρ 13).i (ρ 19).d ∧ 0 ≤ (ρ 16).i ∧ (ρ 16).i ≤ (ρ 2).i ∧ (bI (ρ 18).d, bI (ρ 19).d, (ρ 16).i.toNat) = elimN (ρ 2).i.toNat (ρ 3).i.toNat (ρ 10).i.toNat (bI (ρ 7).d) (bI (ρ 14).d) (ρ 3).i.toNat }] }
def elimHp : List SH := [fHp 1002, boxM 1003 2 3 4 5 6, boxM 1004 9 10 11 12 13, bHp 4 1005 8, bHp 11 1006 15]
def elimEnv : List (Nat × SV) := [(0, fArg), (4, .one (.vptr 1003 (.lit 0) 3 0)), (5, .one (.vptr 1004 (.lit 0) 3 0)), (7, iv .i64 (.var 1000)), (8, iv .i64 (.var 1001))]
/-- The matrices are in order; the rank and the column. -/
def elimW (r ca cb l1 c1 l2 c2 rank c : Int) (f da db : Rows') : Prop := fieldD f ∧ fullM r ca l1 c1 da ∧ fullM r cb l2 c2 db ∧ 0 ≤ rank ∧ rank ≤ r ∧ 0 ≤ c ∧ c ≤ ca
def elimO (r ca cb l1 c1 l2 c2 rank c : Int) (f da db a0 b0 : Rows') : Prop := elimW r ca cb l1 c1 l2 c2 rank c f da db ∧ (bI da, bI db, rank.toNat) = elimN r.toNat ca.toNat cb.toNat (bI a0) (bI b0) c.toNat
def elim83I : Inv := { key := 3, nv := 7, env := elimEnv, heap := elimHp, inv := (fun ρ => elimO (ρ 2).i (ρ 3).i (ρ 10).i (ρ 5).i (ρ 6).i (ρ 12).i (ρ 13).i (ρ 1000).i (ρ 1001).i (ρ 1002).d (ρ 1005).d (ρ 1006).d (ρ 7).d (ρ 14).d), mu := (fun ρ => ((ρ 3).i - (ρ 1001).i).toNat) }
/-- 1007 the row that is looked at. -/
def elimP (r ca cb l1 c1 l2 c2 rank c p : Int) (f da db a0 b0 : Rows') : Prop := elimO r ca cb l1 c1 l2 c2 rank c f da db a0 b0 ∧ rank < r ∧ c < ca ∧ rank ≤ p ∧ p ≤ r ∧ pivF (bI da) ca.toNat c.toNat p.toNat (r.toNat - p.toNat) = pivF (bI da) ca.toNat c.toNat rank.toNat (r.toNat - rank.toNat)
def elim83J : Inv := { key := 6, nv := 8, env := elimEnv ++ [(9, iv .i64 (.var 1007))], heap := elimHp, inv := (fun ρ => elimP (ρ 2).i (ρ 3).i (ρ 10).i (ρ 5).i (ρ 6).i (ρ 12).i (ρ 13).i (ρ 1000).i (ρ 1001).i (ρ 1007).i (ρ 1002).d (ρ 1005).d (ρ 1006).d (ρ 7).d (ρ 14).d ∧ (ρ 1001).i = (ρ 19).i), mu := (fun ρ => ((ρ 2).i - (ρ 1007).i).toNat) }
/-- 1007 the row from which is taken. -/
def elimQ (r ca cb l1 c1 l2 c2 rank c i : Int) (f da db a0 b0 : Rows') : Prop :=
  elimW r ca cb l1 c1 l2 c2 rank c f da db ∧ rank < r ∧ c < ca ∧ 0 ≤ i ∧ i ≤ r ∧ ∃ s, s = elimN r.toNat ca.toNat cb.toNat (bI a0) (bI b0) c.toNat ∧ s.2.2 = rank.toNat ∧
    pivF s.1 ca.toNat c.toNat rank.toNat (r.toNat - rank.toNat) ≠ r.toNat ∧
    (bI da, bI db) = elimRows ca.toNat cb.toNat rank.toNat c.toNat (elimMid r.toNat ca.toNat cb.toNat c.toNat s).1 (elimMid r.toNat ca.toNat cb.toNat c.toNat s).2 i.toNat
def elim83K : Inv := { key := 16, nv := 8, env := elimEnv ++ [(97, iv .i64 (.var 2)), (98, iv .i64 (.var 1007))], heap := elimHp, inv := (fun ρ => elimQ (ρ 2).i (ρ 3).i (ρ 10).i (ρ 5).i (ρ 6).i (ρ 12).i (ρ 13).i (ρ 1000).i (ρ 1001).i (ρ 1007).i (ρ 1002).d (ρ 1005).d (ρ 1006).d (ρ 7).d (ρ 14).d ∧ (ρ 1001).i = (ρ 19).i), mu := (fun ρ => ((ρ 2).i - (ρ 1007).i).toNat) }
/-- The elimination of a square matrix beside the identity. -/
def invE (m : List Int) (n : Nat) : List Int × List Int × Nat := elimN n n n m (identTo n n) n
def inverse55C : Ctr := { fn := 55, nv := 9, args := [fArg, argA], heap := [fHp 1], ro := [bHp 4 7 8], pre := fun ρ => fieldD (ρ 1).d ∧ 0 ≤ (ρ 5).i ∧ (ρ 5).i ≤ (ρ 6).i ∧ (ρ 5).i ≤ (ρ 7).d.length ∧ allB (ρ 7).d, alts := [
  { k := 2, ret := .tup [nilM, eRet (.var 9)], heap := [fHp 10], post := fun ρ => fieldD (ρ 10).d ∧ ((¬ validM (ρ 2).i (ρ 3).i (ρ 5).i ∧ (ρ 9).i = 2) ∨ (validM (ρ 2).i (ρ 3).i (ρ 5).i ∧ (ρ 2).i ≠ (ρ 3).i ∧ (ρ 9).i = 10) ∨ (validM (ρ 2).i (ρ 3).i (ρ 5).i ∧ (ρ 2).i = (ρ 3).i ∧ (invE ((bI (ρ 7).d).take (ρ 5).i.toNat) (ρ 2).i.toNat).2.2 < (ρ 2).i.toNat ∧ (ρ 9).i = 11)) },
  { k := 5, ret := .tup [mRet (.var 2) (.var 2) 9 10 11, eRet (.lit 0)], heap := [fHp 12, bHp 9 13 11], post := fun ρ => fieldD (ρ 12).d ∧ validM (ρ 2).i (ρ 3).i (ρ 5).i ∧ (ρ 2).i = (ρ 3).i ∧ fullM (ρ 2).i (ρ 2).i (ρ 10).i (ρ 11).i (ρ 13).d ∧ (invE ((bI (ρ 7).d).take (ρ 5).i.toNat) (ρ 2).i.toNat).2.2 = (ρ 2).i.toNat ∧ bI (ρ 13).d = (invE ((bI (ρ 7).d).take (ρ 5).i.toNat) (ρ 2).i.toNat).2.1 }] }
def topE (k total : Nat) : List Int × List Int × Nat := invE ((vanderL total k).take (k * k)) k
def genL (k total : Nat) : List Int := prodL (vanderL total k) (topE k total).2.1 total k k
def gen35C : Ctr := { fn := 35, nv := 4, args := [fArg, iv .i64 (.var 2), iv .i64 (.var 3)], heap := [fHp 1], ro := [], pre := fun ρ => fieldD (ρ 1).d, alts := [
  { k := 1, ret := .tup [nilM, eRet (.lit 2)], heap := [fHp 4], post := fun ρ => fieldD (ρ 4).d ∧ (sizesB (ρ 2).i (ρ 3).i = true → (topE (ρ 2).i.toNat (ρ 3).i.toNat).2.2 < (ρ 2).i.toNat) },
  { k := 6, ret := .tup [mRet (.var 3) (.var 2) 4 5 6, eRet (.lit 0)], heap := [fHp 7, bHp 4 8 6, .abs 9 2], post := fun ρ => fieldD (ρ 7).d ∧ sizesB (ρ 2).i (ρ 3).i = true ∧ fullM (ρ 3).i (ρ 2).i (ρ 5).i (ρ 6).i (ρ 8).d ∧ (topE (ρ 2).i.toNat (ρ 3).i.toNat).2.2 = (ρ 2).i.toNat ∧ bI (ρ 8).d = genL (ρ 2).i.toNat (ρ 3).i.toNat }] }
end Go.Eng

/- Encode, and what is known: contracts. -/
set_option linter.unusedSimpArgs false
set_option linter.unusedVariables false
namespace Go.Eng
open Go

/-- A generator of sizes that are allowed, if the square of the first rows has full rank. -/
def genGC : Ctr := { gen35C with pre := fun ρ => fieldD (ρ 1).d ∧ sizesB (ρ 2).i (ρ 3).i = true ∧ (topE (ρ 2).i.toNat (ρ 3).i.toNat).2.2 = (ρ 2).i.toNat, alts := gen35C.alts.drop 1 }
/-! ### Encode, plainly -/
def fullL (data : List Int) (n : Nat) : List Int := data ++ List.replicate (n - data.length) 0
def pieceLen (k len : Nat) : Nat := (len + k - 1) / k
def pieceN (g full : List Int) (k l i : Nat) : Nat → List Int
  | 0 => List.replicate l 0
  | j + 1 => addToL (pieceN g full k l i j) 0 (seg full (j * l) l) (g.getD (i * k + j) 0)
/-- Piece i of an object. -/
def encP (k total : Nat) (data : List Int) (i : Nat) : List Int :=
  pieceN (genL k total) (fullL data (k * pieceLen k data.length)) k (pieceLen k data.length) i k
def kPiece : List CK := [.int .i64, .any]
/-- The first n pieces. -/
def encAt (h : Hp) (D : Rows') (n : Nat) (f : Nat → List Int) : Prop := ∀ j, j < n → ∃ v d, D[j]? = some [.int .i64 j, v] ∧ Rd h kB v d ∧ bI d = f j ∧ allB d
def encode31C : Ctr := { fn := 31, nv := 9, args := [fArg, iv .i64 (.var 2), iv .i64 (.var 3), .one (.vslice 4 (.lit 0) (.var 5) (.var 6) 1)], heap := [fHp 1], ro := [bHp 4 7 8], pre := fun ρ => fieldD (ρ 1).d ∧ (ρ 5).i = (ρ 7).d.length ∧ allB (ρ 7).d ∧ (sizesB (ρ 2).i (ρ 3).i = true → (topE (ρ 2).i.toNat (ρ 3).i.toNat).2.2 = (ρ 2).i.toNat), alts := [
  { k := 2, ret := .tup [(false, [.vnils]), eRet (.var 9)], heap := [fHp 10], post := fun ρ => fieldD (ρ 10).d ∧ ((sizesB (ρ 2).i (ρ 3).i = false ∧ (ρ 9).i = 2) ∨ (sizesB (ρ 2).i (ρ 3).i = true ∧ 8192 < (ρ 5).i ∧ (ρ 9).i = 3)) },
  { k := 5, ret := .tup [(false, [.vslice 9 (.lit 0) (.var 3) (.var 10) 2]), eRet (.lit 0)], heap := [fHp 11, .arr 9 36 kPiece (.var 12) (.var 10), .abs 13 2], post := fun ρ => fieldD (ρ 11).d ∧ sizesB (ρ 2).i (ρ 3).i = true ∧ (ρ 5).i ≤ 8192 ∧ (ρ 12).d.length = (ρ 3).i.toNat ∧ encAt (ρ 13).h (ρ 12).d (ρ 3).i.toNat (encP (ρ 2).i.toNat (ρ 3).i.toNat (bI (ρ 7).d)) }] }
def encHp : List SH := [fHp 1008, boxM 1004 3 2 1009 1010 1011, bHp 1009 1012 1011, bHp 1001 1013 1003, .arr 1005 36 kPiece (.var 1014) (.var 1006)]
def encEnv : List (Nat × SV) := [(0, fArg), (10, iv .i64 (.var 1000)), (12, .one (.vslice 1001 (.lit 0) (.var 1002) (.var 1003) 1)), (13, .one (.vptr 1004 (.lit 0) 3 0)), (15, .one (.vslice 1005 (.lit 0) (.var 3) (.var 1006) 2)), (53, iv .i64 (.var 3)), (54, iv .i64 (.var 1007))]
/-- What stands while pieces are made: the piece's length, the object with its zeros, the generator. -/
def encW (k total len l lf cf lg cg i : Int) (f dg df D data : Rows') : Prop :=
  fieldD f ∧ sizesB k total = true ∧ len ≤ 8192 ∧ len = data.length ∧ allB data ∧ l = (pieceLen k.toNat data.length : Nat) ∧ l ≤ 8192 ∧ lf = k * l ∧ lf = df.length ∧ allB df ∧ bI df = fullL (bI data) (k.toNat * l.toNat) ∧
    fullM total k lg cg dg ∧ bI dg = genL k.toNat total.toNat ∧ D.length = total.toNat ∧ (∀ row ∈ D, row.length = 2) ∧ 0 ≤ i ∧ i ≤ total
def encode31I : Inv := { key := 13, nv := 16, env := encEnv, heap := encHp ++ [.abs 1015 2], inv := (fun ρ => encW (ρ 2).i (ρ 3).i (ρ 5).i (ρ 1000).i (ρ 1002).i (ρ 1003).i (ρ 1010).i (ρ 1011).i (ρ 1007).i (ρ 1008).d (ρ 1012).d (ρ 1013).d (ρ 1014).d (ρ 7).d ∧ encAt (ρ 1015).h (ρ 1014).d (ρ 1007).i.toNat (encP (ρ 2).i.toNat (ρ 3).i.toNat (bI (ρ 7).d))), mu := (fun ρ => ((ρ 3).i - (ρ 1007).i).toNat) }
/-- 1016 .. 1018 the piece, 1019 .. 1021 the generator's row, 1022 the round. -/
def encode31J : Inv := { key := 17, nv := 23, env := encEnv ++ [(16, iv .i64 (.var 1007)), (17, .one (.vslice 1016 (.lit 0) (.var 1000) (.var 1017) 1)), (61, bSl 1009 1019 1020 1021), (62, iv .i64 (.var 1020)), (63, iv .i64 (.var 1022))], heap := encHp ++ [bHp 1016 1018 1017, .abs 1015 2], inv := (fun ρ => encW (ρ 2).i (ρ 3).i (ρ 5).i (ρ 1000).i (ρ 1002).i (ρ 1003).i (ρ 1010).i (ρ 1011).i (ρ 1007).i (ρ 1008).d (ρ 1012).d (ρ 1013).d (ρ 1014).d (ρ 7).d ∧ encAt (ρ 1015).h (ρ 1014).d (ρ 1007).i.toNat (encP (ρ 2).i.toNat (ρ 3).i.toNat (bI (ρ 7).d)) ∧ (ρ 1007).i = (ρ 29).i ∧ (ρ 1007).i < (ρ 3).i ∧ (ρ 1019).i = (ρ 1007).i * (ρ 2).i ∧ (ρ 1020).i = (ρ 2).i ∧ 0 ≤ (ρ 1022).i ∧ (ρ 1022).i ≤ (ρ 2).i ∧ (ρ 1018).d.length = (ρ 1000).i.toNat ∧ allB (ρ 1018).d ∧ bI (ρ 1018).d = pieceN (bI (ρ 1012).d) (bI (ρ 1013).d) (ρ 2).i.toNat (ρ 1000).i.toNat (ρ 1007).i.toNat (ρ 1022).i.toNat), mu := (fun ρ => ((ρ 2).i - (ρ 1022).i).toNat) }
def lawRet : Alt := { k := 0, ret := .one (.vbool (.bl true)), heap := [], post := fun _ => True }
def knownC : Ctr := { fn := 28, nv := 0, args := [], heap := [], ro := [], pre := fun _ => True, alts := [lawRet] }
end Go.Eng
