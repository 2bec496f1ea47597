/- Contracts of the machine's functions. -/
import Derived.Test.YtlmkkphojjodhaaTC
set_option linter.unusedSimpArgs false
set_option linter.unusedVariables false
namespace Go.Eng
open Go

/-! ### What they compute -/
def rowB (r : List Value) (c : Nat) : Bool := vBool (r[c]?.getD .nilFunc)
structure Prb where
  seq : Int
  target : Int
  sent : Int
  asked : Bool
def prbOf (r : List Value) : Prb := ⟨rowI r 0, rowI r 1, rowI r 2, rowB r 3⟩
def prbsOf (d : List (List Value)) : List Prb := d.map prbOf
structure Msg where
  kind : Int
  src : Int
  dst : Int
  seq : Int
  origin : Int
  target : Int
/-- The cells behind a message's table: all zero. -/
def tailV : List Value := [.slice none 0 0, .slice none 0 0, .int .i64 0] ++ List.replicate 32 (.int .u8 0) ++ [.slice none 0 0, .bool false] ++ List.replicate 32 (.int .u8 0) ++ List.replicate 4 (.int .i64 0) ++ List.replicate 32 (.int .u8 0) ++ [.slice none 0 0, .int .i64 0, .slice none 0 0, .int .i64 0]
def msgRow (m : Msg) (v : Value) : List Value := [.int .u8 m.kind, .int .i64 m.src, .int .i64 m.dst, .int .u64 m.seq, .int .i64 m.origin, .int .i64 m.target, v] ++ tailV
def row0 (m : Msg) : List Value := msgRow m (.slice none 0 0)
/-- In this piece of memory the value reads as this table. -/
def RdT (h : Hp) (v : Value) (t : List Ent) : Prop := ∃ d, Rd h kMem v d ∧ tabOf d = t
/-- Messages with their tables, as rows. -/
def rowsOf (ms : List Msg) (vs : List Value) : List (List Value) := List.zipWith msgRow ms vs
/-- The first i messages have got the number and the table. -/
def stamped (h : Hp) (ms : List Msg) (self : Int) (t : List Ent) (i : Nat) (d : List (List Value)) : Prop :=
  ∃ vs : List Value, vs.length = i ∧ d = rowsOf ((ms.take i).map fun m => { m with src := self }) vs ++ (ms.drop i).map row0 ∧ ∀ v ∈ vs, RdT h v t
/-- Rows that are messages without tables. -/
def plainRows (d : List (List Value)) (ms : List Msg) : Prop := d = ms.map row0
def setTab (t : List Ent) (i : Int) (x : Ent) : List Ent := t.set i.toNat x
def setSince (t : List Ent) (s : List Int) (clock i : Int) (x : Ent) : List Int := if t[i.toNat]? ≠ some x ∧ x.2 = 2 then s.set i.toNat clock else s
def nextP (n self pinged : Int) : Int := if Int.tmod (pinged + 1) n = self then Int.tmod (Int.tmod (pinged + 1) n + 1) n else Int.tmod (pinged + 1) n
/-- The peers that may be asked to help. -/
def candL (t : List Ent) (self target : Int) : List Int := (liveT t).filter fun i => !(i == self || i == target)
def askMsg (c : List Int) (seq target draw : Int) (i : Nat) : Msg := ⟨3, 0, c.getD (Int.tmod (Int.tmod draw c.length + (i : Int)) c.length).toNat 0, seq, 0, target⟩
def askN (c : List Int) (seq target draw : Int) (n : Nat) : List Msg := (List.range n).map (askMsg c seq target draw)
def askL (t : List Ent) (self seq target draw : Int) : List Msg := askN (candL t self target) seq target draw (min 2 (candL t self target).length)

/-! ### Contracts -/
def mCells (rest : T) : SH := .cells 0 117 [.vint .i64 (.var 1), .vslice 2 (.lit 0) (.var 3) (.var 4) 2, .vslice 6 (.lit 0) (.var 3) (.var 7) 1, .vint .u64 (.var 9), .vint .u64 (.var 10), .vint .i64 (.var 11), rest, .vint .u64 (.var 16), .vbool (.var 17)]
def mTab : SH := .arr 2 25 kMem (.var 5) (.var 4)
def mSince : SH := .arr 6 22 [.int .u64] (.var 8) (.var 7)
/-- The machine's sizes. -/
def mOk (ρ : Env) : Prop := (ρ 3).i = (ρ 5).d.length ∧ 2 ≤ (ρ 3).i ∧ (ρ 3).i ≤ 16 ∧ 0 ≤ (ρ 1).i ∧ (ρ 1).i < (ρ 3).i ∧ 0 ≤ (ρ 11).i ∧ (ρ 11).i < (ρ 3).i

def set65C : Ctr := { fn := 65, nv := 21, args := [ptr 0, iv .i64 (.var 18), mem 19 20], heap := [mCells (.var 12), mTab, mSince], ro := [], pre := fun ρ => (ρ 3).i = (ρ 5).d.length ∧ (ρ 3).i = (ρ 8).d.length ∧ 0 ≤ (ρ 18).i ∧ (ρ 18).i < (ρ 3).i, alts := [{ k := 2, ret := .tup [], heap := [mCells (.var 12), .arr 2 25 kMem (.var 21) (.var 4), .arr 6 22 [.int .u64] (.var 22) (.var 7)], post := fun ρ => tabOf (ρ 21).d = setTab (tabOf (ρ 5).d) (ρ 18).i ((ρ 19).i, (ρ 20).i) ∧ intsOf (ρ 22).d = setSince (tabOf (ρ 5).d) (intsOf (ρ 8).d) (ρ 9).i (ρ 18).i ((ρ 19).i, (ρ 20).i) ∧ (ρ 21).d.length = (ρ 5).d.length ∧ (ρ 22).d.length = (ρ 8).d.length }] }
def next67C : Ctr := { fn := 67, nv := 18, args := [ptr 0], heap := [], ro := [mCells (.var 12)], pre := fun ρ => 2 ≤ (ρ 3).i ∧ (ρ 3).i ≤ 16 ∧ 0 ≤ (ρ 11).i ∧ (ρ 11).i < (ρ 3).i, alts := [{ k := 1, ret := iv .i64 (.var 18), heap := [], post := fun ρ => (ρ 18).i = nextP (ρ 3).i (ρ 1).i (ρ 11).i }] }
def fault64C : Ctr := { fn := 64, nv := 18, args := [ptr 0], heap := [], ro := [mCells (.var 12)], pre := fun _ => True, alts := [{ k := 0, ret := .one (il .i64 30), heap := [], post := fun ρ => (ρ 17).b = true }, { k := 0, ret := .one (il .i64 0), heap := [], post := fun ρ => (ρ 17).b = false }] }
/-- stamp: rows of messages without tables get the machine's number and copies of its table. -/
def stamp68C : Ctr := { fn := 68, nv := 22, args := [ptr 0, .one (.vslice 18 (.lit 0) (.var 19) (.var 20) 116)], heap := [.arr 18 43 kMsg (.var 21) (.var 20)], ro := [mCells (.var 12), mTab], pre := fun ρ => mOk ρ ∧ (ρ 19).i = (ρ 21).d.length ∧ (ρ 19).i ≤ big ∧ ∃ ms : List Msg, plainRows (ρ 21).d ms, alts := [{ k := 2, ret := .one (.vslice 18 (.lit 0) (.var 19) (.var 20) 116), heap := [.arr 18 43 kMsg (.var 22) (.var 20), .abs 23 2], post := fun ρ => ∀ ms : List Msg, plainRows (ρ 21).d ms → stamped (ρ 23).h ms (ρ 1).i (tabOf (ρ 5).d) ms.length (ρ 22).d }] }
def stamp68I : Inv := { key := 2, nv := 3, env := [(0, ptr 0), (1, .one (.vslice 18 (.lit 0) (.var 19) (.var 20) 116)), (7, iv .i64 (.var 19)), (8, iv .i64 (.var 1000))], heap := [.arr 18 43 kMsg (.var 1001) (.var 20), .abs 1002 2], inv := (fun ρ => 0 ≤ (ρ 1000).i ∧ (ρ 1000).i ≤ (ρ 19).i ∧ (ρ 1001).d.length = (ρ 21).d.length ∧ ∀ ms : List Msg, plainRows (ρ 21).d ms → stamped (ρ 1002).h ms (ρ 1).i (tabOf (ρ 5).d) (ρ 1000).i.toNat (ρ 1001).d), mu := (fun ρ => ((ρ 19).i - (ρ 1000).i).toNat) }
/-! ### slices.DeleteFunc, slices.IndexFunc at the two closures -/
def noneN {α : Type} (p : α → Bool) (l : List α) (n : Nat) : Bool := (l.take n).all fun x => !p x
/-- The first place where p holds, or -1. -/
def ixOk {α : Type} (p : α → Bool) (l : List α) (i : Int) : Prop := (i = -1 ∧ noneN p l l.length = true) ∨ (0 ≤ i ∧ i < l.length ∧ noneN p l i.toNat = true ∧ (l[i.toNat]?.map p) = some true)
def delOk {α : Type} (p : α → Bool) (orig cur : List α) (i j : Int) : Prop :=
  0 ≤ i ∧ i < j ∧ j ≤ orig.length ∧ cur.length = orig.length ∧ cur.take i.toNat = (orig.take j.toNat).filter (fun x => !p x) ∧ cur.drop j.toNat = orig.drop j.toNat
def isOr (a b : Int) (x : Int) : Bool := x == a || x == b
def boxM : SH := .cells 25 46 [.vptr 0 (.lit 0) 0 0]
def boxP : SH := .cells 26 63 [.vint .u64 (.var 18), .vint .i64 (.var 19), .vint .u64 (.var 20), .vbool (.var 21)]
def fn86 : SV := .fn (.func 86) [] [.vptr 25 (.lit 0) 0 0, .vptr 26 (.lit 0) 0 0]
def clo86C : Ctr := { fn := 86, nv := 27, args := [iv .i64 (.var 24), ptr 25, ptr 26], heap := [], ro := [boxM, boxP, mCells (.var 12)], pre := fun _ => True, alts := [{ k := 1, ret := bret 27, heap := [], post := fun ρ => (ρ 27).b = isOr (ρ 1).i (ρ 19).i (ρ 24).i }] }
def index89C : Ctr := { fn := 89, nv := 33, args := [iArg 28 29 30, fn86], heap := [], ro := [iRo 28 31 32, boxM, boxP, mCells (.var 12)], pre := fun ρ => (ρ 29).i = (ρ 31).d.length ∧ (ρ 29).i ≤ big, alts := [{ k := 1, ret := iv .i64 (.var 33), heap := [], post := fun ρ => ixOk (isOr (ρ 1).i (ρ 19).i) (intsOf (ρ 31).d) (ρ 33).i }] }
def index89I : Inv := { key := 2, nv := 1, env := [(0, iArg 28 29 30), (1, fn86), (7, iv .i64 (.var 29)), (8, iv .i64 (.var 1000))], heap := [], inv := (fun ρ => 0 ≤ (ρ 1000).i ∧ (ρ 1000).i ≤ (ρ 29).i ∧ noneN (isOr (ρ 1).i (ρ 19).i) (intsOf (ρ 31).d) (ρ 1000).i.toNat = true), mu := (fun ρ => ((ρ 29).i - (ρ 1000).i).toNat) }
def delete85C : Ctr := { fn := 85, nv := 33, args := [iArg 28 29 30, fn86], heap := [iRo 28 31 32], ro := [boxM, boxP, mCells (.var 12)], pre := fun ρ => (ρ 29).i = (ρ 31).d.length ∧ (ρ 29).i ≤ big ∧ (ρ 30).i = (ρ 32).i, alts := [{ k := 2, ret := .one (.vslice 28 (.lit 0) (.var 33) (.var 30) 1), heap := [.arr 28 3 [.int .i64] (.var 34) (.var 32)], post := fun ρ => 0 ≤ (ρ 33).i ∧ (ρ 33).i ≤ (ρ 34).d.length ∧ (ρ 33).i ≤ (ρ 29).i ∧ (intsOf (ρ 34).d).take (ρ 33).i.toNat = (intsOf (ρ 31).d).filter (fun x => !isOr (ρ 1).i (ρ 19).i x) }] }
def delete85I : Inv := { key := 5, nv := 3, env := [(0, iArg 28 29 30), (1, fn86), (5, iv .i64 (.var 1000)), (6, iv .i64 (.var 1001))], heap := [.arr 28 3 [.int .i64] (.var 1002) (.var 32)], inv := (fun ρ => delOk (isOr (ρ 1).i (ρ 19).i) (intsOf (ρ 31).d) (intsOf (ρ 1002).d) (ρ 1000).i (ρ 1001).i), mu := (fun ρ => ((ρ 29).i - (ρ 1001).i).toNat) }
def prbCells (b : Nat) : List T := [.vint .u64 (.var b), .vint .i64 (.var (b + 1)), .vint .u64 (.var (b + 2)), .vbool (.var (b + 3))]
/-- ask: the PingReqs for a probe. -/
def ask66C : Ctr := { fn := 66, nv := 23, args := [ptr 0, .agg (prbCells 18), iv .u64 (.var 22)], heap := [], ro := [mCells (.var 12), mTab], pre := fun ρ => mOk ρ ∧ 0 ≤ (ρ 22).i ∧ (ρ 22).i < 18446744073709551616, alts := [{ k := 4, ret := .one (.vslice 23 (.lit 0) (.var 26) (.var 24) 116), heap := [.arr 23 43 kMsg (.var 25) (.var 24)], post := fun ρ => (ρ 26).i = (ρ 25).d.length ∧ plainRows (ρ 25).d (askL (tabOf (ρ 5).d) (ρ 1).i (ρ 18).i (ρ 19).i (ρ 22).i) }] }
def ask66I : Inv := { key := 4, nv := 10, env := [(4, ptr 1008), (2, iv .u64 (.var 22)), (7, .one (.vslice 1001 (.lit 0) (.var 1002) (.var 1003) 1)), (8, .one (.vslice 1004 (.lit 0) (.var 1005) (.var 1006) 116)), (20, iv .i64 (.imin (.lit 2) (.var 1002))), (21, iv .i64 (.var 1000))], heap := [.cells 1008 63 (prbCells 18), .arr 1001 3 [.int .i64] (.var 1007) (.var 1003), .arr 1004 43 kMsg (.var 1009) (.var 1006)], inv := (fun ρ => 0 ≤ (ρ 1000).i ∧ (ρ 1000).i ≤ (min 2 (candL (tabOf (ρ 5).d) (ρ 1).i (ρ 19).i).length : Nat) ∧ (ρ 1002).i = (candL (tabOf (ρ 5).d) (ρ 1).i (ρ 19).i).length ∧ (intsOf (ρ 1007).d).take (ρ 1002).i.toNat = candL (tabOf (ρ 5).d) (ρ 1).i (ρ 19).i ∧ (ρ 1002).i ≤ (ρ 1007).d.length ∧ (ρ 1005).i = (ρ 1009).d.length ∧ (ρ 1005).i = (ρ 1000).i ∧ plainRows (ρ 1009).d (askN (candL (tabOf (ρ 5).d) (ρ 1).i (ρ 19).i) (ρ 18).i (ρ 19).i (ρ 22).i (ρ 1000).i.toNat)), mu := (fun ρ => (2 - (ρ 1000).i).toNat) }
end Go.Eng
