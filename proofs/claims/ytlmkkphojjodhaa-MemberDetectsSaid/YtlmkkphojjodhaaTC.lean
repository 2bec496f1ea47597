/- Contracts of the functions on tables. -/
import Derived.Test.YtlmkkphojjodhaaME
set_option linter.unusedSimpArgs false
set_option linter.unusedVariables false
namespace Go.Eng
open Go

/-! ### What they compute -/
abbrev Ent := Int × Int
def rowI (r : List Value) (c : Nat) : Int := vInt (r[c]?.getD .nilFunc)
def tabOf (d : List (List Value)) : List Ent := d.map fun r => (rowI r 0, rowI r 1)
def intsOf (d : List (List Value)) : List Int := d.map fun r => rowI r 0
def validE (e : Ent) : Bool := decide (e.2 ≤ 4) && ((e.1 == 0) == (e.2 == 0))
def okAll (l : List Ent) : Bool := l.all validE
def okN (l : List Ent) (n : Nat) : Bool := (l.take n).all validE
def sameN (a b : List Ent) (n : Nat) : Prop := a.take n = b.take n
def sameIN (a b : List Int) (n : Nat) : Prop := a.take n = b.take n
def validT (l : List Ent) : Bool := decide (1 ≤ l.length) && decide (l.length ≤ 16) && okAll l
def newerE (a b : Ent) : Bool := newerB a.1 a.2 b.1 b.2
def joinE (a b : Ent) : Ent := if newerE b a then b else a
def joinTab (a b : List Ent) : List Ent := List.zipWith joinE a b
/-- Joined up to n. -/
def joinedTo (t a b : List Ent) (n : Nat) : Prop := ∀ j : Nat, t[j]? = if j < n then (joinTab a b)[j]? else a[j]?
def liveS (s : Int) : Bool := s == 1 || s == 2
def liveN (l : List Ent) (n : Nat) : List Int := ((List.range n).filter fun i => liveS (l.getD i (0, 0)).2).map Int.ofNat
/-- A slice of 16 bytes an entry that a caller can have is no longer than this. -/
def big : Int := 8796093021952
def liveT (l : List Ent) : List Int := liveN l l.length

/-! ### Contracts -/
/-- A slice of two-celled entries, read: region r, length, capacity, rows, the block's capacity. -/
def tArg (r l c : Nat) : SV := .one (.vslice r (.lit 0) (.var l) (.var c) 2)
def tRo (r d k : Nat) : SH := .arr r 25 kMem (.var d) (.var k)
def iArg (r l c : Nat) : SV := .one (.vslice r (.lit 0) (.var l) (.var c) 1)
def iRo (r d k : Nat) : SH := .arr r 3 [.int .i64] (.var d) (.var k)
def bret (n : Nat) : SV := .one (.vbool (.var n))
def mem2 (a b : Nat) : SV := mem a b

def valid61C : Ctr := { fn := 61, nv := 2, args := [mem 0 1], heap := [], ro := [], pre := fun _ => True, alts := [{ k := 1, ret := bret 2, heap := [], post := fun ρ => (ρ 2).b = validE ((ρ 0).i, (ρ 1).i) }] }
def good71C : Ctr := { valid61C with fn := 71 }
def valid60C : Ctr := { valid61C with fn := 60, alts := [{ k := 1, ret := bret 2, heap := [], post := fun ρ => (ρ 2).b = !validE ((ρ 0).i, (ρ 1).i) }] }
def live72C : Ctr := { valid61C with fn := 72, alts := [{ k := 1, ret := bret 2, heap := [], post := fun ρ => (ρ 2).b = liveS (ρ 1).i }] }
def index84C : Ctr := { fn := 84, nv := 5, args := [tArg 0 1 2, .fn (.func 60) [] []], heap := [], ro := [tRo 0 3 4], pre := fun ρ => (ρ 1).i = (ρ 3).d.length ∧ (ρ 1).i ≤ big, alts := [{ k := 1, ret := iv .i64 (.var 5), heap := [], post := fun ρ => (0 ≤ (ρ 5).i) ↔ okAll (tabOf (ρ 3).d) = false }] }
def index84I : Inv := { key := 2, nv := 1, env := [(0, tArg 0 1 2), (1, .fn (.func 60) [] []), (7, iv .i64 (.var 1)), (8, iv .i64 (.var 1000))], heap := [], inv := (fun ρ => 0 ≤ (ρ 1000).i ∧ (ρ 1000).i ≤ (ρ 1).i ∧ okN (tabOf (ρ 3).d) (ρ 1000).i.toNat = true), mu := (fun ρ => ((ρ 1).i - (ρ 1000).i).toNat) }
def contains59C : Ctr := { index84C with fn := 59, alts := [{ k := 1, ret := bret 5, heap := [], post := fun ρ => (ρ 5).b = !okAll (tabOf (ρ 3).d) }] }
def valid20C : Ctr := { index84C with fn := 20, args := [tArg 0 1 2], alts := [{ k := 1, ret := bret 5, heap := [], post := fun ρ => (ρ 5).b = validT (tabOf (ρ 3).d) }] }
def refValid35C : Ctr := { valid20C with fn := 35 }
def refValid35I : Inv := { key := 4, nv := 1, env := [(0, tArg 0 1 2), (3, iv .i64 (.var 1000))], heap := [], inv := index84I.inv, mu := index84I.mu }
def own21C : Ctr := { fn := 21, nv := 5, args := [tArg 0 1 2], heap := [], ro := [tRo 0 3 4], pre := fun ρ => (ρ 1).i = (ρ 3).d.length ∧ (ρ 1).i ≤ big, alts := [{ k := 3, ret := .one (.vslice 5 (.lit 0) (.var 1) (.var 6) 2), heap := [.arr 5 25 kMem (.var 7) (.var 6)], post := fun ρ => (ρ 7).d = (ρ 3).d }] }
def clone63C : Ctr := { fn := 63, nv := 5, args := [tArg 0 1 2], heap := [], ro := [tRo 0 3 4], pre := fun ρ => (ρ 1).i = (ρ 3).d.length ∧ 0 < (ρ 1).i ∧ (ρ 1).i ≤ big, alts := [{ k := 3, ret := .one (.vslice 5 (.lit 0) (.var 1) (.var 6) 2), heap := [.arr 5 25 kMem (.var 7) (.var 6)], post := fun ρ => (ρ 7).d = (ρ 3).d }] }
def merge32C : Ctr := { fn := 32, nv := 10, args := [tArg 0 1 2, tArg 5 6 7], heap := [], ro := [tRo 0 3 4, tRo 5 8 9], pre := fun ρ => (ρ 1).i = (ρ 3).d.length ∧ (ρ 6).i = (ρ 8).d.length ∧ (ρ 1).i ≤ big ∧ (ρ 6).i ≤ big, alts := [
  { k := 0, ret := .tup [(false, [.vnils]), (false, [.vint .i64 (.lit 2)])], heap := [], post := fun ρ => (validT (tabOf (ρ 3).d) && validT (tabOf (ρ 8).d)) = false },
  { k := 0, ret := .tup [(false, [.vnils]), (false, [.vint .i64 (.lit 10)])], heap := [], post := fun ρ => (validT (tabOf (ρ 3).d) && validT (tabOf (ρ 8).d)) = true ∧ (ρ 1).i ≠ (ρ 6).i },
  { k := 3, ret := .tup [(false, [.vslice 10 (.lit 0) (.var 1) (.var 11) 2]), (false, [.vint .i64 (.lit 0)])], heap := [.arr 10 25 kMem (.var 12) (.var 11)], post := fun ρ => (validT (tabOf (ρ 3).d) && validT (tabOf (ρ 8).d)) = true ∧ (ρ 1).i = (ρ 6).i ∧ tabOf (ρ 12).d = joinTab (tabOf (ρ 3).d) (tabOf (ρ 8).d) ∧ (ρ 12).d.length = (ρ 3).d.length }] }
def merge32I : Inv := { key := 7, nv := 4, env := [(6, .one (.vslice 1001 (.lit 0) (.var 1) (.var 1002) 2)), (24, tArg 5 6 7), (25, iv .i64 (.var 6)), (26, iv .i64 (.var 1000))], heap := [.arr 1001 25 kMem (.var 1003) (.var 1002)], inv := (fun ρ => 0 ≤ (ρ 1000).i ∧ (ρ 1000).i ≤ (ρ 6).i ∧ (ρ 1003).d.length = (ρ 3).d.length ∧ joinedTo (tabOf (ρ 1003).d) (tabOf (ρ 3).d) (tabOf (ρ 8).d) (ρ 1000).i.toNat), mu := (fun ρ => ((ρ 6).i - (ρ 1000).i).toNat) }
def refNewer79C : Ctr := { newerD with fn := 79 }
def refJoin70C : Ctr := { joinD with fn := 70 }
def refMerge33C : Ctr := { merge32C with fn := 33 }
def refMerge33I : Inv := { key := 7, nv := 5, env := [(0, tArg 0 1 2), (1, tArg 5 6 7), (6, .one (.vslice 1001 (.lit 0) (.var 1004) (.var 1002) 2)), (7, iv .i64 (.var 1000))], heap := [.arr 1001 25 kMem (.var 1003) (.var 1002)], inv := (fun ρ => 0 ≤ (ρ 1000).i ∧ (ρ 1000).i ≤ (ρ 1).i ∧ (ρ 1003).d.length = (ρ 1000).i ∧ (ρ 1004).i = (ρ 1000).i ∧ tabOf (ρ 1003).d = joinTab ((tabOf (ρ 3).d).take (ρ 1000).i.toNat) ((tabOf (ρ 8).d).take (ρ 1000).i.toNat)), mu := (fun ρ => ((ρ 1).i - (ρ 1000).i).toNat) }
def same34C : Ctr := { fn := 34, nv := 10, args := [tArg 0 1 2, tArg 5 6 7], heap := [], ro := [tRo 0 3 4, tRo 5 8 9], pre := merge32C.pre, alts := [{ k := 1, ret := bret 10, heap := [], post := fun ρ => (ρ 10).b = decide (tabOf (ρ 3).d = tabOf (ρ 8).d) }] }
def same34I : Inv := { key := 4, nv := 1, env := [(0, tArg 0 1 2), (1, tArg 5 6 7), (5, iv .i64 (.var 1000))], heap := [], inv := (fun ρ => 0 ≤ (ρ 1000).i ∧ (ρ 1000).i ≤ (ρ 1).i ∧ (ρ 1).i = (ρ 6).i ∧ sameN (tabOf (ρ 3).d) (tabOf (ρ 8).d) (ρ 1000).i.toNat), mu := (fun ρ => ((ρ 1).i - (ρ 1000).i).toNat) }
def sameInts36C : Ctr := { fn := 36, nv := 10, args := [iArg 0 1 2, iArg 5 6 7], heap := [], ro := [iRo 0 3 4, iRo 5 8 9], pre := merge32C.pre, alts := [{ k := 1, ret := bret 10, heap := [], post := fun ρ => (ρ 10).b = decide (intsOf (ρ 3).d = intsOf (ρ 8).d) }] }
def sameInts36I : Inv := { key := 4, nv := 1, env := [(0, iArg 0 1 2), (1, iArg 5 6 7), (5, iv .i64 (.var 1000))], heap := [], inv := (fun ρ => 0 ≤ (ρ 1000).i ∧ (ρ 1000).i ≤ (ρ 1).i ∧ (ρ 1).i = (ρ 6).i ∧ sameIN (intsOf (ρ 3).d) (intsOf (ρ 8).d) (ρ 1000).i.toNat), mu := (fun ρ => ((ρ 1).i - (ρ 1000).i).toNat) }
/-- The live peers: nil or a list of one's own. -/
def live37C : Ctr := { fn := 37, nv := 5, args := [tArg 0 1 2], heap := [], ro := [tRo 0 3 4], pre := fun ρ => (ρ 1).i = (ρ 3).d.length ∧ (ρ 1).i ≤ big, alts := [{ k := 4, ret := .one (.vslice 5 (.lit 0) (.var 8) (.var 6) 1), heap := [.arr 5 3 [.int .i64] (.var 7) (.var 6)], post := fun ρ => intsOf (ρ 7).d = liveT (tabOf (ρ 3).d) ∧ (ρ 8).i = (ρ 7).d.length ∧ (ρ 8).i ≤ (ρ 1).i }] }
def live37I : Inv := { key := 3, nv := 5, env := [(3, .one (.vslice 1001 (.lit 0) (.var 1004) (.var 1002) 1)), (6, tArg 0 1 2), (7, iv .i64 (.var 1)), (8, iv .i64 (.var 1000))], heap := [.arr 1001 3 [.int .i64] (.var 1003) (.var 1002)], inv := (fun ρ => 0 ≤ (ρ 1000).i ∧ (ρ 1000).i ≤ (ρ 1).i ∧ (ρ 1004).i = (ρ 1003).d.length ∧ (ρ 1003).d.length ≤ (ρ 1000).i ∧ intsOf (ρ 1003).d = liveN (tabOf (ρ 3).d) (ρ 1000).i.toNat), mu := (fun ρ => ((ρ 1).i - (ρ 1000).i).toNat) }
def refLive38C : Ctr := { live37C with fn := 38 }
def refLive38I : Inv := { live37I with env := [(0, tArg 0 1 2), (3, .one (.vslice 1001 (.lit 0) (.var 1004) (.var 1002) 1)), (4, iv .i64 (.var 1000))] }
def lawTablesC : Ctr := { fn := 8, nv := 10, args := [tArg 0 1 2, tArg 5 6 7], heap := [], ro := [tRo 0 3 4, tRo 5 8 9], pre := merge32C.pre, alts := lawWaitsC.alts }
/-- Merge of valid tables of one length. -/
def mergeV32C : Ctr := { merge32C with pre := fun ρ => (ρ 1).i = (ρ 3).d.length ∧ (ρ 6).i = (ρ 8).d.length ∧ (ρ 1).i = (ρ 6).i ∧ validT (tabOf (ρ 3).d) = true ∧ validT (tabOf (ρ 8).d) = true, alts := [
  { k := 3, ret := .tup [(false, [.vslice 10 (.lit 0) (.var 1) (.var 11) 2]), (false, [.vint .i64 (.lit 0)])], heap := [.arr 10 25 kMem (.var 12) (.var 11)], post := fun ρ => tabOf (ρ 12).d = joinTab (tabOf (ρ 3).d) (tabOf (ρ 8).d) ∧ (ρ 12).d.length = (ρ 3).d.length }] }
def lawMergesI : Inv := { key := 12, nv := 16, env := [(0, tArg 0 1 2), (1, tArg 5 6 7), (7, tArg 1001 1 1003), (9, tArg 1004 6 1006), (13, tArg 1007 1 1009), (15, tArg 1010 1 1012), (17, tArg 1013 1 1015), (19, iv .i64 (.var 1000))], heap := [.arr 1001 25 kMem (.var 1002) (.var 1003), .arr 1004 25 kMem (.var 1005) (.var 1006), .arr 1007 25 kMem (.var 1008) (.var 1009), .arr 1010 25 kMem (.var 1011) (.var 1012), .arr 1013 25 kMem (.var 1014) (.var 1015)], inv := (fun ρ => 0 ≤ (ρ 1000).i ∧ (ρ 1000).i ≤ (ρ 1).i ∧ (ρ 1).i = (ρ 6).i ∧ (ρ 1).i ≤ 16 ∧ tabOf (ρ 1002).d = joinTab (tabOf (ρ 3).d) (tabOf (ρ 8).d) ∧ tabOf (ρ 1005).d = joinTab (tabOf (ρ 8).d) (tabOf (ρ 3).d) ∧ tabOf (ρ 1008).d = joinTab (joinTab (tabOf (ρ 3).d) (tabOf (ρ 8).d)) (tabOf (ρ 13).d) ∧ tabOf (ρ 1011).d = joinTab (tabOf (ρ 3).d) (joinTab (tabOf (ρ 8).d) (tabOf (ρ 13).d)) ∧ tabOf (ρ 1014).d = joinTab (tabOf (ρ 3).d) (tabOf (ρ 3).d) ∧ (ρ 1002).d.length = (ρ 3).d.length ∧ (ρ 1005).d.length = (ρ 3).d.length ∧ (ρ 1008).d.length = (ρ 3).d.length ∧ (ρ 1011).d.length = (ρ 3).d.length ∧ (ρ 1014).d.length = (ρ 3).d.length), mu := (fun ρ => ((ρ 1).i - (ρ 1000).i).toNat) }
def lawMergesC : Ctr := { fn := 9, nv := 15, args := [tArg 0 1 2, tArg 5 6 7, tArg 10 11 12], heap := [], ro := [tRo 0 3 4, tRo 5 8 9, tRo 10 13 14], pre := fun ρ => (ρ 1).i = (ρ 3).d.length ∧ (ρ 6).i = (ρ 8).d.length ∧ (ρ 11).i = (ρ 13).d.length ∧ (ρ 1).i ≤ big ∧ (ρ 6).i ≤ big ∧ (ρ 11).i ≤ big, alts := lawWaitsC.alts }
end Go.Eng
