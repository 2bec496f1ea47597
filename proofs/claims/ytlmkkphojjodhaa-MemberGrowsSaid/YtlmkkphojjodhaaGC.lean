/- Contracts of the machine's functions. -/
import Derived.Test.YtlmkkphojjodhaaGB
import Derived.Test.YtlmkkphojjodhaaProg
import Derived.Test.YtlmkkphojjodhaaGA
set_option linter.unusedSimpArgs false
set_option linter.unusedVariables false
namespace Go.Eng
open Go

/-! ### What they compute -/
def rowB (r : List Value) (c : Nat) : Bool := vBool (r[c]?.getD .nilFunc)
structure Prb where
  seq : Int
  target : Int
  sent : Int
  asked : Bool
def prbOf (r : List Value) : Prb := ⟨rowI r 0, rowI r 1, rowI r 2, rowB r 3⟩
def prbsOf (d : List (List Value)) : List Prb := d.map prbOf
structure Msg where
  kind : Int
  src : Int
  dst : Int
  seq : Int
  origin : Int
  target : Int
/-- The cells behind a message's table: all zero. -/
def tailV : List Value := [.slice none 0 0, .slice none 0 0, .int .i64 0] ++ List.replicate 32 (.int .u8 0) ++ [.slice none 0 0, .bool false] ++ List.replicate 32 (.int .u8 0) ++ List.replicate 4 (.int .i64 0) ++ List.replicate 32 (.int .u8 0) ++ [.slice none 0 0, .int .i64 0, .slice none 0 0, .int .i64 0]
def msgRow (m : Msg) (v : Value) : List Value := [.int .u8 m.kind, .int .i64 m.src, .int .i64 m.dst, .int .u64 m.seq, .int .i64 m.origin, .int .i64 m.target, v] ++ tailV
def row0 (m : Msg) : List Value := msgRow m (.slice none 0 0)
/-- In this piece of memory the value reads as this table. -/
def RdT (h : Hp) (v : Value) (t : List Ent) : Prop := ∃ d, Rd h kMem v d ∧ tabOf d = t
/-- Messages with their tables, as rows. -/
def rowsOf (ms : List Msg) (vs : List Value) : List (List Value) := List.zipWith msgRow ms vs
/-- The first i messages have got the number and the table. -/
def stamped (h : Hp) (ms : List Msg) (self : Int) (t : List Ent) (i : Nat) (d : List (List Value)) : Prop :=
  ∃ vs : List Value, vs.length = i ∧ d = rowsOf ((ms.take i).map fun m => { m with src := self }) vs ++ (ms.drop i).map row0 ∧ ∀ v ∈ vs, RdT h v t
/-- Rows that are messages without tables. -/
def plainRows (d : List (List Value)) (ms : List Msg) : Prop := d = ms.map row0
def setTab (t : List Ent) (i : Int) (x : Ent) : List Ent := t.set i.toNat x
def setSince (t : List Ent) (s : List Int) (clock i : Int) (x : Ent) : List Int := if t[i.toNat]? ≠ some x ∧ x.2 = 2 then s.set i.toNat clock else s
def nextP (n self pinged : Int) : Int := if Int.tmod (pinged + 1) n = self then Int.tmod (Int.tmod (pinged + 1) n + 1) n else Int.tmod (pinged + 1) n
/-- The peers that may be asked to help. -/
def candL (t : List Ent) (self target : Int) : List Int := (liveT t).filter fun i => !(i == self || i == target)
def askMsg (c : List Int) (seq target draw : Int) (i : Nat) : Msg := ⟨3, 0, c.getD (Int.tmod (Int.tmod draw c.length + (i : Int)) c.length).toNat 0, seq, 0, target⟩
def askN (c : List Int) (seq target draw : Int) (n : Nat) : List Msg := (List.range n).map (askMsg c seq target draw)
def askL (t : List Ent) (self seq target draw : Int) : List Msg := askN (candL t self target) seq target draw (min 2 (candL t self target).length)

/-! ### Contracts -/
def mCells (rest : T) : SH := .cells 0 117 [.vint .i64 (.var 1), .vslice 2 (.lit 0) (.var 3) (.var 4) 2, .vslice 6 (.lit 0) (.var 3) (.var 7) 1, .vint .u64 (.var 9), .vint .u64 (.var 10), .vint .i64 (.var 11), rest, .vint .u64 (.var 16), .vbool (.var 17)]
def mTab : SH := .arr 2 25 kMem (.var 5) (.var 4)
def mSince : SH := .arr 6 22 [.int .u64] (.var 8) (.var 7)
/-- The machine's sizes. -/
def mOk (ρ : Env) : Prop := (ρ 3).i = (ρ 5).d.length ∧ 2 ≤ (ρ 3).i ∧ (ρ 3).i ≤ 16 ∧ 0 ≤ (ρ 1).i ∧ (ρ 1).i < (ρ 3).i ∧ 0 ≤ (ρ 11).i ∧ (ρ 11).i < (ρ 3).i

def set65C : Ctr := { fn := 65, nv := 21, args := [ptr 0, iv .i64 (.var 18), mem 19 20], heap := [mCells (.var 12), mTab, mSince], ro := [], pre := fun ρ => (ρ 3).i = (ρ 5).d.length ∧ (ρ 3).i = (ρ 8).d.length ∧ 0 ≤ (ρ 18).i ∧ (ρ 18).i < (ρ 3).i, alts := [{ k := 2, ret := .tup [], heap := [mCells (.var 12), .arr 2 25 kMem (.var 21) (.var 4), .arr 6 22 [.int .u64] (.var 22) (.var 7)], post := fun ρ => tabOf (ρ 21).d = setTab (tabOf (ρ 5).d) (ρ 18).i ((ρ 19).i, (ρ 20).i) ∧ intsOf (ρ 22).d = setSince (tabOf (ρ 5).d) (intsOf (ρ 8).d) (ρ 9).i (ρ 18).i ((ρ 19).i, (ρ 20).i) ∧ (ρ 21).d.length = (ρ 5).d.length ∧ (ρ 22).d.length = (ρ 8).d.length }] }
def next67C : Ctr := { fn := 67, nv := 18, args := [ptr 0], heap := [], ro := [mCells (.var 12)], pre := fun ρ => 2 ≤ (ρ 3).i ∧ (ρ 3).i ≤ 16 ∧ 0 ≤ (ρ 11).i ∧ (ρ 11).i < (ρ 3).i, alts := [{ k := 1, ret := iv .i64 (.var 18), heap := [], post := fun ρ => (ρ 18).i = nextP (ρ 3).i (ρ 1).i (ρ 11).i }] }
def fault64C : Ctr := { fn := 64, nv := 18, args := [ptr 0], heap := [], ro := [mCells (.var 12)], pre := fun _ => True, alts := [{ k := 0, ret := .one (il .i64 30), heap := [], post := fun ρ => (ρ 17).b = true }, { k := 0, ret := .one (il .i64 0), heap := [], post := fun ρ => (ρ 17).b = false }] }
/-- stamp: rows of messages without tables get the machine's number and copies of its table. -/
def stamp68C : Ctr := { fn := 68, nv := 22, args := [ptr 0, .one (.vslice 18 (.lit 0) (.var 19) (.var 20) 116)], heap := [.arr 18 43 kMsg (.var 21) (.var 20)], ro := [mCells (.var 12), mTab], pre := fun ρ => mOk ρ ∧ (ρ 19).i = (ρ 21).d.length ∧ (ρ 19).i ≤ big ∧ ∃ ms : List Msg, plainRows (ρ 21).d ms, alts := [{ k := 2, ret := .one (.vslice 18 (.lit 0) (.var 19) (.var 20) 116), heap := [.arr 18 43 kMsg (.var 22) (.var 20), .abs 23 2], post := fun ρ => ∀ ms : List Msg, plainRows (ρ 21).d ms → stamped (ρ 23).h ms (ρ 1).i (tabOf (ρ 5).d) ms.length (ρ 22).d }] }
def stamp68I : Inv := { key := 2, nv := 3, env := [(0, ptr 0), (1, .one (.vslice 18 (.lit 0) (.var 19) (.var 20) 116)), (7, iv .i64 (.var 19)), (8, iv .i64 (.var 1000))], heap := [.arr 18 43 kMsg (.var 1001) (.var 20), .abs 1002 2], inv := (fun ρ => 0 ≤ (ρ 1000).i ∧ (ρ 1000).i ≤ (ρ 19).i ∧ (ρ 1001).d.length = (ρ 21).d.length ∧ ∀ ms : List Msg, plainRows (ρ 21).d ms → stamped (ρ 1002).h ms (ρ 1).i (tabOf (ρ 5).d) (ρ 1000).i.toNat (ρ 1001).d), mu := (fun ρ => ((ρ 19).i - (ρ 1000).i).toNat) }
/-! ### slices.DeleteFunc, slices.IndexFunc at the two closures -/
def noneN {α : Type} (p : α → Bool) (l : List α) (n : Nat) : Bool := (l.take n).all fun x => !p x
/-- The first place where p holds, or -1. -/
def ixOk {α : Type} (p : α → Bool) (l : List α) (i : Int) : Prop := (i = -1 ∧ noneN p l l.length = true) ∨ (0 ≤ i ∧ i < l.length ∧ noneN p l i.toNat = true ∧ (l[i.toNat]?.map p) = some true)
def delOk {α : Type} (p : α → Bool) (orig cur : List α) (i j : Int) : Prop :=
  0 ≤ i ∧ i < j ∧ j ≤ orig.length ∧ cur.length = orig.length ∧ cur.take i.toNat = (orig.take j.toNat).filter (fun x => !p x) ∧ cur.drop j.toNat = orig.drop j.toNat
def isOr (a b : Int) (x : Int) : Bool := x == a || x == b
def boxM : SH := .cells 25 46 [.vptr 0 (.lit 0) 0 0]
def boxP : SH := .cells 26 63 [.vint .u64 (.var 18), .vint .i64 (.var 19), .vint .u64 (.var 20), .vbool (.var 21)]
def fn86 : SV := .fn (.func 86) [] [.vptr 25 (.lit 0) 0 0, .vptr 26 (.lit 0) 0 0]
def clo86C : Ctr := { fn := 86, nv := 27, args := [iv .i64 (.var 24), ptr 25, ptr 26], heap := [], ro := [boxM, boxP, mCells (.var 12)], pre := fun _ => True, alts := [{ k := 1, ret := bret 27, heap := [], post := fun ρ => (ρ 27).b = isOr (ρ 1).i (ρ 19).i (ρ 24).i }] }
def index89C : Ctr := { fn := 89, nv := 33, args := [iArg 28 29 30, fn86], heap := [], ro := [iRo 28 31 32, boxM, boxP, mCells (.var 12)], pre := fun ρ => (ρ 29).i = (ρ 31).d.length ∧ (ρ 29).i ≤ big, alts := [{ k := 1, ret := iv .i64 (.var 33), heap := [], post := fun ρ => ixOk (isOr (ρ 1).i (ρ 19).i) (intsOf (ρ 31).d) (ρ 33).i }] }
def index89I : Inv := { key := 2, nv := 1, env := [(0, iArg 28 29 30), (1, fn86), (7, iv .i64 (.var 29)), (8, iv .i64 (.var 1000))], heap := [], inv := (fun ρ => 0 ≤ (ρ 1000).i ∧ (ρ 1000).i ≤ (ρ 29).i ∧ noneN (isOr (ρ 1).i (ρ 19).i) (intsOf (ρ 31).d) (ρ 1000).i.toNat = true), mu := (fun ρ => ((ρ 29).i - (ρ 1000).i).toNat) }
def delete85C : Ctr := { fn := 85, nv := 33, args := [iArg 28 29 30, fn86], heap := [iRo 28 31 32], ro := [boxM, boxP, mCells (.var 12)], pre := fun ρ => (ρ 29).i = (ρ 31).d.length ∧ (ρ 29).i ≤ big ∧ (ρ 30).i = (ρ 32).i, alts := [{ k := 2, ret := .one (.vslice 28 (.lit 0) (.var 33) (.var 30) 1), heap := [.arr 28 3 [.int .i64] (.var 34) (.var 32)], post := fun ρ => 0 ≤ (ρ 33).i ∧ (ρ 33).i ≤ (ρ 34).d.length ∧ (ρ 33).i ≤ (ρ 29).i ∧ (intsOf (ρ 34).d).take (ρ 33).i.toNat = (intsOf (ρ 31).d).filter (fun x => !isOr (ρ 1).i (ρ 19).i x) }] }
def delete85I : Inv := { key := 5, nv := 3, env := [(0, iArg 28 29 30), (1, fn86), (5, iv .i64 (.var 1000)), (6, iv .i64 (.var 1001))], heap := [.arr 28 3 [.int .i64] (.var 1002) (.var 32)], inv := (fun ρ => delOk (isOr (ρ 1).i (ρ 19).i) (intsOf (ρ 31).d) (intsOf (ρ 1002).d) (ρ 1000).i (ρ 1001).i), mu := (fun ρ => ((ρ 29).i - (ρ 1001).i).toNat) }
def prbCells (b : Nat) : List T := [.vint .u64 (.var b), .vint .i64 (.var (b + 1)), .vint .u64 (.var (b + 2)), .vbool (.var (b + 3))]
/-- ask: the PingReqs for a probe. -/
def ask66C : Ctr := { fn := 66, nv := 23, args := [ptr 0, .agg (prbCells 18), iv .u64 (.var 22)], heap := [], ro := [mCells (.var 12), mTab], pre := fun ρ => mOk ρ ∧ 0 ≤ (ρ 22).i ∧ (ρ 22).i < 18446744073709551616, alts := [{ k := 4, ret := .one (.vslice 23 (.lit 0) (.var 26) (.var 24) 116), heap := [.arr 23 43 kMsg (.var 25) (.var 24)], post := fun ρ => (ρ 26).i = (ρ 25).d.length ∧ plainRows (ρ 25).d (askL (tabOf (ρ 5).d) (ρ 1).i (ρ 18).i (ρ 19).i (ρ 22).i) }] }
def ask66I : Inv := { key := 4, nv := 10, env := [(4, ptr 1008), (2, iv .u64 (.var 22)), (7, .one (.vslice 1001 (.lit 0) (.var 1002) (.var 1003) 1)), (8, .one (.vslice 1004 (.lit 0) (.var 1005) (.var 1006) 116)), (20, iv .i64 (.imin (.lit 2) (.var 1002))), (21, iv .i64 (.var 1000))], heap := [.cells 1008 63 (prbCells 18), .arr 1001 3 [.int .i64] (.var 1007) (.var 1003), .arr 1004 43 kMsg (.var 1009) (.var 1006)], inv := (fun ρ => 0 ≤ (ρ 1000).i ∧ (ρ 1000).i ≤ (min 2 (candL (tabOf (ρ 5).d) (ρ 1).i (ρ 19).i).length : Nat) ∧ (ρ 1002).i = (candL (tabOf (ρ 5).d) (ρ 1).i (ρ 19).i).length ∧ (intsOf (ρ 1007).d).take (ρ 1002).i.toNat = candL (tabOf (ρ 5).d) (ρ 1).i (ρ 19).i ∧ (ρ 1002).i ≤ (ρ 1007).d.length ∧ (ρ 1005).i = (ρ 1009).d.length ∧ (ρ 1005).i = (ρ 1000).i ∧ plainRows (ρ 1009).d (askN (candL (tabOf (ρ 5).d) (ρ 1).i (ρ 19).i) (ρ 18).i (ρ 19).i (ρ 22).i (ρ 1000).i.toNat)), mu := (fun ρ => (2 - (ρ 1000).i).toNat) }
end Go.Eng

set_option linter.unusedSimpArgs false
set_option linter.unusedVariables false
namespace Go.Proofs
open Go Go.Eng

def o_set65 : Out := (.fresh 21 (.need (.cmp .leq (.lit (0)) (.var 18)) (.need (.cmp .lss (.var 18) (.var 3)) (.need (.cmp .lss (.var 18) (.dlen (.var 5))) (.br (.not (.and (.cmp .eql (.icell (.var 5) (.var 18) 0) (.var 19)) (.cmp .eql (.icell (.var 5) (.var 18) 1) (.var 20))))
 (.br (.cmp .eql (.var 20) (.lit (2)))
 (.need (.cmp .lss (.var 18) (.dlen (.var 8))) (.both (.both (.ret 0 ⟨21, [(22, (.t (.dput (.var 8) (.var 18) 0 (.rcons (.vint .u64 (.var 9)) .rnil)))), (21, (.t (.dput (.var 5) (.var 18) 0 (.rcons (.vint .u64 (.var 19)) (.rcons (.vint .u8 (.var 20)) .rnil)))))], [((.var 7), (.var 7)), ((.var 4), (.var 4)), ((.var 16), (.var 16)), ((.var 11), (.var 11)), ((.var 10), (.var 10)), ((.var 9), (.var 9)), ((.var 7), (.var 7)), ((.var 3), (.var 3)), ((.lit (0)), (.lit (0))), ((.var 4), (.var 4)), ((.var 3), (.var 3)), ((.lit (0)), (.lit (0))), ((.var 1), (.var 1))], [((.var 17), (.var 17))], []⟩) .top) .top))
 (.both (.ret 0 ⟨21, [(22, (.t (.var 8))), (21, (.t (.dput (.var 5) (.var 18) 0 (.rcons (.vint .u64 (.var 19)) (.rcons (.vint .u8 (.var 20)) .rnil)))))], [((.var 7), (.var 7)), ((.var 4), (.var 4)), ((.var 16), (.var 16)), ((.var 11), (.var 11)), ((.var 10), (.var 10)), ((.var 9), (.var 9)), ((.var 7), (.var 7)), ((.var 3), (.var 3)), ((.lit (0)), (.lit (0))), ((.var 4), (.var 4)), ((.var 3), (.var 3)), ((.lit (0)), (.lit (0))), ((.var 1), (.var 1))], [((.var 17), (.var 17))], []⟩) .top))
 (.both (.ret 0 ⟨21, [(22, (.t (.var 8))), (21, (.t (.dput (.var 5) (.var 18) 0 (.rcons (.vint .u64 (.var 19)) (.rcons (.vint .u8 (.var 20)) .rnil)))))], [((.var 7), (.var 7)), ((.var 4), (.var 4)), ((.var 16), (.var 16)), ((.var 11), (.var 11)), ((.var 10), (.var 10)), ((.var 9), (.var 9)), ((.var 7), (.var 7)), ((.var 3), (.var 3)), ((.lit (0)), (.lit (0))), ((.var 4), (.var 4)), ((.var 3), (.var 3)), ((.lit (0)), (.lit (0))), ((.var 1), (.var 1))], [((.var 17), (.var 17))], []⟩) .top))))))
theorem o_set65_eq : treeOf ⟨Try.prog, set65C, [], []⟩ 100000 Try.f65 = o_set65 := by kernel_rfl
theorem set65_of (hd : ∀ c ∈ ([] : List Ctr), c.ok Try.prog) (h : ∀ ρ : Env, ρ.good → (set65C).pre ρ → o_set65.den ⟨Try.prog, set65C, [], []⟩ ρ) : (set65C).ok Try.prog :=
  ok_of_tree Try.func65 (fun a w => Try.call65 a w) hd 100000 (fun ρ hg hp => by rw [o_set65_eq]; exact h ρ hg hp)
def o_next67 : Out := (.need (.cmp .leq (.lit (0)) (.var 3)) (.need (.cmp .neq (.var 3) (.lit (0))) (.br (.cmp .eql (.arith .rem .i64 (.arith .add .i64 (.var 11) (.lit (1))) (.var 3)) (.var 1))
 (.ret 0 ⟨18, [(18, (.t (.arith .rem .i64 (.arith .add .i64 (.arith .rem .i64 (.arith .add .i64 (.var 11) (.lit (1))) (.var 3)) (.lit (1))) (.var 3))))], [], [], []⟩)
 (.ret 0 ⟨18, [(18, (.t (.arith .rem .i64 (.arith .add .i64 (.var 11) (.lit (1))) (.var 3))))], [], [], []⟩))))
theorem o_next67_eq : treeOf ⟨Try.prog, next67C, [], []⟩ 100000 Try.f67 = o_next67 := by kernel_rfl
theorem next67_of (hd : ∀ c ∈ ([] : List Ctr), c.ok Try.prog) (h : ∀ ρ : Env, ρ.good → (next67C).pre ρ → o_next67.den ⟨Try.prog, next67C, [], []⟩ ρ) : (next67C).ok Try.prog :=
  ok_of_tree Try.func67 (fun a w => Try.call67 a w) hd 100000 (fun ρ hg hp => by rw [o_next67_eq]; exact h ρ hg hp)
def o_fault64 : Out := (.br (.var 17)
 (.ret 0 ⟨18, [], [((.lit (30)), (.lit (30)))], [], []⟩)
 (.ret 1 ⟨18, [], [((.lit (0)), (.lit (0)))], [], []⟩))
theorem o_fault64_eq : treeOf ⟨Try.prog, fault64C, [], []⟩ 100000 Try.f64 = o_fault64 := by kernel_rfl
theorem fault64_of (hd : ∀ c ∈ ([] : List Ctr), c.ok Try.prog) (h : ∀ ρ : Env, ρ.good → (fault64C).pre ρ → o_fault64.den ⟨Try.prog, fault64C, [], []⟩ ρ) : (fault64C).ok Try.prog :=
  ok_of_tree Try.func64 (fun a w => Try.call64 a w) hd 100000 (fun ρ hg hp => by rw [o_fault64_eq]; exact h ρ hg hp)
def o_stamp68 : Out := (.need (.cmp .leq (.lit (0)) (.var 19)) (.pack [] 22 (.inv 0 23 ⟨1000, [(1002, (.r 22)), (1001, (.t (.var 21))), (1000, (.t (.lit (0))))], [((.var 20), (.var 20)), ((.var 19), (.var 19)), ((.var 20), (.var 20)), ((.var 19), (.var 19)), ((.lit (0)), (.lit (0))), ((.lit (0)), (.lit (0)))], [], []⟩ (.fresh 23 (.fresh 24 (.fresh 25 (.hyp 0 23 (.br (.cmp .lss (.var 23) (.var 19))
 (.both (.pre 0 ⟨0, [(4, (.t (.var 4))), (3, (.t (.var 5))), (2, (.t (.var 4))), (1, (.t (.var 3))), (0, (.r 2))], [((.lit (0)), (.lit (0)))], [], []⟩ (.both (.fresh 26 (.fresh 27 (.fresh 28 (.post 0 0 ⟨0, [(4, (.t (.var 4))), (3, (.t (.var 5))), (2, (.t (.var 4))), (1, (.t (.var 3))), (0, (.r 2))], [((.lit (0)), (.lit (0)))], [], []⟩ 26 (.both (.need (.cmp .leq (.lit (0)) (.var 23)) (.need (.cmp .lss (.var 23) (.dlen (.var 24))) (.both (.both (.both (.both (.both (.pack [.arr 26 25 [CK.int .u64, CK.int .u8] (.var 28) (.var 27), .abs 25 2] 29 (.back 0 23 ⟨1000, [(1002, (.r 29)), (1001, (.t (.dput (.dput (.var 24) (.var 23) 1 (.rcons (.vint .i64 (.var 1)) .rnil)) (.var 23) 6 (.rcons (.vslice 26 (.lit (0)) (.var 3) (.var 27) 2) .rnil)))), (1000, (.t (.arith .add .i64 (.var 23) (.lit (1)))))], [((.var 20), (.var 20)), ((.var 19), (.var 19)), ((.var 20), (.var 20)), ((.var 19), (.var 19)), ((.lit (0)), (.lit (0))), ((.lit (0)), (.lit (0)))], [], []⟩)) .top) .top) .top) .top) .top))) .top))))) .top)) .top)
 (.ret 0 ⟨22, [(23, (.r 25)), (22, (.t (.var 24)))], [((.var 20), (.var 20)), ((.var 20), (.var 20)), ((.var 19), (.var 19)), ((.lit (0)), (.lit (0)))], [], []⟩)))))))))
theorem o_stamp68_eq : treeOf ⟨Try.prog, stamp68C, [clone63C], [stamp68I]⟩ 100000 Try.f68 = o_stamp68 := by kernel_rfl
theorem stamp68_of (hd : ∀ c ∈ ([clone63C] : List Ctr), c.ok Try.prog) (h : ∀ ρ : Env, ρ.good → (stamp68C).pre ρ → o_stamp68.den ⟨Try.prog, stamp68C, [clone63C], [stamp68I]⟩ ρ) : (stamp68C).ok Try.prog :=
  ok_of_tree Try.func68 (fun a w => Try.call68 a w) hd 100000 (fun ρ hg hp => by rw [o_stamp68_eq]; exact h ρ hg hp)
def o_clo86 : Out := (.br (.cmp .eql (.var 24) (.var 1))
 (.ret 0 ⟨27, [(27, (.t (.bl true)))], [], [], []⟩)
 (.ret 0 ⟨27, [(27, (.t (.cmp .eql (.var 24) (.var 19))))], [], [], []⟩))
theorem o_clo86_eq : treeOf ⟨Try.prog, clo86C, [], []⟩ 100000 Try.f86 = o_clo86 := by kernel_rfl
theorem clo86_of (hd : ∀ c ∈ ([] : List Ctr), c.ok Try.prog) (h : ∀ ρ : Env, ρ.good → (clo86C).pre ρ → o_clo86.den ⟨Try.prog, clo86C, [], []⟩ ρ) : (clo86C).ok Try.prog :=
  ok_of_tree Try.func86 (fun a w => Try.call86 a w) hd 100000 (fun ρ hg hp => by rw [o_clo86_eq]; exact h ρ hg hp)
def o_index89 : Out := (.need (.cmp .leq (.lit (0)) (.var 29)) (.inv 0 33 ⟨1000, [(1000, (.t (.lit (0))))], [((.var 29), (.var 29)), ((.lit (0)), (.lit (0))), ((.lit (0)), (.lit (0))), ((.var 30), (.var 30)), ((.var 29), (.var 29)), ((.lit (0)), (.lit (0)))], [], []⟩ (.fresh 33 (.hyp 0 33 (.br (.cmp .lss (.var 33) (.var 29))
 (.need (.cmp .leq (.lit (0)) (.var 33)) (.need (.cmp .lss (.var 33) (.dlen (.var 31))) (.pre 0 ⟨0, [(17, (.t (.var 17))), (16, (.t (.var 16))), (12, (.t (.var 12))), (11, (.t (.var 11))), (10, (.t (.var 10))), (9, (.t (.var 9))), (7, (.t (.var 7))), (6, (.r 6)), (4, (.t (.var 4))), (3, (.t (.var 3))), (2, (.r 2)), (1, (.t (.var 1))), (21, (.t (.var 21))), (20, (.t (.var 20))), (19, (.t (.var 19))), (18, (.t (.var 18))), (0, (.r 0)), (26, (.r 26)), (25, (.r 25)), (24, (.t (.icell (.var 31) (.var 33) 0)))], [((.var 3), (.var 3)), ((.lit (0)), (.lit (0))), ((.lit (0)), (.lit (0))), ((.lit (0)), (.lit (0))), ((.lit (0)), (.lit (0))), ((.lit (0)), (.lit (0)))], [], []⟩ (.both (.fresh 34 (.post 0 0 ⟨0, [(17, (.t (.var 17))), (16, (.t (.var 16))), (12, (.t (.var 12))), (11, (.t (.var 11))), (10, (.t (.var 10))), (9, (.t (.var 9))), (7, (.t (.var 7))), (6, (.r 6)), (4, (.t (.var 4))), (3, (.t (.var 3))), (2, (.r 2)), (1, (.t (.var 1))), (21, (.t (.var 21))), (20, (.t (.var 20))), (19, (.t (.var 19))), (18, (.t (.var 18))), (0, (.r 0)), (26, (.r 26)), (25, (.r 25)), (24, (.t (.icell (.var 31) (.var 33) 0)))], [((.var 3), (.var 3)), ((.lit (0)), (.lit (0))), ((.lit (0)), (.lit (0))), ((.lit (0)), (.lit (0))), ((.lit (0)), (.lit (0))), ((.lit (0)), (.lit (0)))], [], []⟩ 34 (.br (.var 34)
 (.ret 0 ⟨33, [(33, (.t (.var 33)))], [], [], []⟩)
 (.back 0 33 ⟨1000, [(1000, (.t (.arith .add .i64 (.var 33) (.lit (1)))))], [((.var 29), (.var 29)), ((.lit (0)), (.lit (0))), ((.lit (0)), (.lit (0))), ((.var 30), (.var 30)), ((.var 29), (.var 29)), ((.lit (0)), (.lit (0)))], [], []⟩)))) .top))))
 (.ret 0 ⟨33, [(33, (.t (.lit (-1))))], [], [], []⟩))))))
theorem o_index89_eq : treeOf ⟨Try.prog, index89C, [clo86C], [index89I]⟩ 100000 Try.f89 = o_index89 := by kernel_rfl
theorem index89_of (hd : ∀ c ∈ ([clo86C] : List Ctr), c.ok Try.prog) (h : ∀ ρ : Env, ρ.good → (index89C).pre ρ → o_index89.den ⟨Try.prog, index89C, [clo86C], [index89I]⟩ ρ) : (index89C).ok Try.prog :=
  ok_of_tree Try.func89 (fun a w => Try.call89 a w) hd 100000 (fun ρ hg hp => by rw [o_index89_eq]; exact h ρ hg hp)
def o_delete85 : Out := (.pre 0 ⟨0, [(17, (.t (.var 17))), (16, (.t (.var 16))), (12, (.t (.var 12))), (11, (.t (.var 11))), (10, (.t (.var 10))), (9, (.t (.var 9))), (7, (.t (.var 7))), (6, (.r 6)), (4, (.t (.var 4))), (3, (.t (.var 3))), (2, (.r 2)), (1, (.t (.var 1))), (21, (.t (.var 21))), (20, (.t (.var 20))), (19, (.t (.var 19))), (18, (.t (.var 18))), (0, (.r 0)), (32, (.t (.var 32))), (31, (.t (.var 31))), (26, (.r 26)), (25, (.r 25)), (30, (.t (.var 30))), (29, (.t (.var 29))), (28, (.r 28))], [((.var 3), (.var 3)), ((.lit (0)), (.lit (0))), ((.lit (0)), (.lit (0))), ((.lit (0)), (.lit (0))), ((.lit (0)), (.lit (0))), ((.lit (0)), (.lit (0))), ((.lit (0)), (.lit (0)))], [], []⟩ (.both (.fresh 33 (.post 0 0 ⟨0, [(17, (.t (.var 17))), (16, (.t (.var 16))), (12, (.t (.var 12))), (11, (.t (.var 11))), (10, (.t (.var 10))), (9, (.t (.var 9))), (7, (.t (.var 7))), (6, (.r 6)), (4, (.t (.var 4))), (3, (.t (.var 3))), (2, (.r 2)), (1, (.t (.var 1))), (21, (.t (.var 21))), (20, (.t (.var 20))), (19, (.t (.var 19))), (18, (.t (.var 18))), (0, (.r 0)), (32, (.t (.var 32))), (31, (.t (.var 31))), (26, (.r 26)), (25, (.r 25)), (30, (.t (.var 30))), (29, (.t (.var 29))), (28, (.r 28))], [((.var 3), (.var 3)), ((.lit (0)), (.lit (0))), ((.lit (0)), (.lit (0))), ((.lit (0)), (.lit (0))), ((.lit (0)), (.lit (0))), ((.lit (0)), (.lit (0))), ((.lit (0)), (.lit (0)))], [], []⟩ 33 (.br (.cmp .eql (.var 33) (.lit (-1)))
 (.ret 0 ⟨33, [(34, (.t (.var 31))), (33, (.t (.var 29)))], [((.var 32), (.var 32)), ((.var 30), (.var 30)), ((.lit (0)), (.lit (0)))], [], []⟩)
 (.inv 0 34 ⟨1000, [(1002, (.t (.var 31))), (1001, (.t (.arith .add .i64 (.var 33) (.lit (1))))), (1000, (.t (.var 33)))], [((.var 32), (.var 32)), ((.lit (0)), (.lit (0))), ((.lit (0)), (.lit (0))), ((.var 30), (.var 30)), ((.var 29), (.var 29)), ((.lit (0)), (.lit (0)))], [], []⟩ (.fresh 34 (.fresh 35 (.fresh 36 (.hyp 0 34 (.need (.cmp .leq (.lit (0)) (.var 29)) (.br (.cmp .lss (.var 35) (.var 29))
 (.need (.cmp .leq (.lit (0)) (.var 35)) (.need (.cmp .lss (.var 35) (.dlen (.var 36))) (.pre 1 ⟨0, [(17, (.t (.var 17))), (16, (.t (.var 16))), (12, (.t (.var 12))), (11, (.t (.var 11))), (10, (.t (.var 10))), (9, (.t (.var 9))), (7, (.t (.var 7))), (6, (.r 6)), (4, (.t (.var 4))), (3, (.t (.var 3))), (2, (.r 2)), (1, (.t (.var 1))), (21, (.t (.var 21))), (20, (.t (.var 20))), (19, (.t (.var 19))), (18, (.t (.var 18))), (0, (.r 0)), (26, (.r 26)), (25, (.r 25)), (24, (.t (.icell (.var 36) (.var 35) 0)))], [((.var 3), (.var 3)), ((.lit (0)), (.lit (0))), ((.lit (0)), (.lit (0))), ((.lit (0)), (.lit (0))), ((.lit (0)), (.lit (0))), ((.lit (0)), (.lit (0)))], [], []⟩ (.both (.fresh 37 (.post 1 0 ⟨0, [(17, (.t (.var 17))), (16, (.t (.var 16))), (12, (.t (.var 12))), (11, (.t (.var 11))), (10, (.t (.var 10))), (9, (.t (.var 9))), (7, (.t (.var 7))), (6, (.r 6)), (4, (.t (.var 4))), (3, (.t (.var 3))), (2, (.r 2)), (1, (.t (.var 1))), (21, (.t (.var 21))), (20, (.t (.var 20))), (19, (.t (.var 19))), (18, (.t (.var 18))), (0, (.r 0)), (26, (.r 26)), (25, (.r 25)), (24, (.t (.icell (.var 36) (.var 35) 0)))], [((.var 3), (.var 3)), ((.lit (0)), (.lit (0))), ((.lit (0)), (.lit (0))), ((.lit (0)), (.lit (0))), ((.lit (0)), (.lit (0))), ((.lit (0)), (.lit (0)))], [], []⟩ 37 (.br (.not (.var 37))
 (.need (.cmp .leq (.lit (0)) (.var 34)) (.need (.cmp .lss (.var 34) (.var 29)) (.need (.cmp .lss (.var 34) (.dlen (.var 36))) (.back 0 34 ⟨1000, [(1002, (.t (.dput (.var 36) (.var 34) 0 (.rcons (.vint .i64 (.icell (.var 36) (.var 35) 0)) .rnil)))), (1001, (.t (.arith .add .i64 (.var 35) (.lit (1))))), (1000, (.t (.arith .add .i64 (.var 34) (.lit (1)))))], [((.var 32), (.var 32)), ((.lit (0)), (.lit (0))), ((.lit (0)), (.lit (0))), ((.var 30), (.var 30)), ((.var 29), (.var 29)), ((.lit (0)), (.lit (0)))], [], []⟩))))
 (.back 0 34 ⟨1000, [(1002, (.t (.var 36))), (1001, (.t (.arith .add .i64 (.var 35) (.lit (1))))), (1000, (.t (.var 34)))], [((.var 32), (.var 32)), ((.lit (0)), (.lit (0))), ((.lit (0)), (.lit (0))), ((.var 30), (.var 30)), ((.var 29), (.var 29)), ((.lit (0)), (.lit (0)))], [], []⟩)))) .top))))
 (.know (.cmp .leq (.dlen (.var 36)) (.var 32)) (.need (.cmp .leq (.lit (0)) (.var 30)) (.need (.cmp .leq (.lit (0)) (.var 34)) (.need (.cmp .leq (.var 34) (.var 29)) (.need (.cmp .leq (.var 29) (.var 30)) (.need (.cmp .leq (.lit (0)) (.ife (.var 30) (.var 34) (.lit (0)) (.var 34))) (.need (.cmp .leq (.lit (0)) (.minus (.var 29) (.var 34))) (.need (.cmp .leq (.plus (.ife (.var 30) (.var 34) (.lit (0)) (.var 34)) (.minus (.var 29) (.var 34))) (.dlen (.var 36))) (.fresh 37 (.know (.cmp .leq (.dlen (.dtake (.var 36) (.ife (.minus (.var 29) (.var 34)) (.lit (0)) (.dlen (.var 36)) (.ife (.var 30) (.var 34) (.lit (0)) (.var 34))))) (.var 32)) (.need (.cmp .leq (.var 34) (.var 30)) (.ret 0 ⟨33, [(34, (.t (.dtake (.var 36) (.ife (.minus (.var 29) (.var 34)) (.lit (0)) (.dlen (.var 36)) (.ife (.var 30) (.var 34) (.lit (0)) (.var 34)))))), (33, (.t (.var 34)))], [((.var 32), (.var 32)), ((.var 30), (.var 30)), ((.lit (0)), (.lit (0)))], [], []⟩)))))))))))))))))))))) .top))
theorem o_delete85_eq : treeOf ⟨Try.prog, delete85C, [index89C, clo86C], [delete85I]⟩ 100000 Try.f85 = o_delete85 := by kernel_rfl
theorem delete85_of (hd : ∀ c ∈ ([index89C, clo86C] : List Ctr), c.ok Try.prog) (h : ∀ ρ : Env, ρ.good → (delete85C).pre ρ → o_delete85.den ⟨Try.prog, delete85C, [index89C, clo86C], [delete85I]⟩ ρ) : (delete85C).ok Try.prog :=
  ok_of_tree Try.func85 (fun a w => Try.call85 a w) hd 100000 (fun ρ hg hp => by rw [o_delete85_eq]; exact h ρ hg hp)
def o_ask66 : Out := (.fresh 23 (.fresh 24 (.pre 0 ⟨0, [(4, (.t (.var 4))), (3, (.t (.var 5))), (2, (.t (.var 4))), (1, (.t (.var 3))), (0, (.r 2))], [((.lit (0)), (.lit (0)))], [], []⟩ (.both (.fresh 25 (.fresh 26 (.fresh 27 (.fresh 28 (.post 0 0 ⟨0, [(4, (.t (.var 4))), (3, (.t (.var 5))), (2, (.t (.var 4))), (1, (.t (.var 3))), (0, (.r 2))], [((.lit (0)), (.lit (0)))], [], []⟩ 25 (.pre 1 ⟨0, [(17, (.t (.var 17))), (16, (.t (.var 16))), (12, (.t (.var 12))), (11, (.t (.var 11))), (10, (.t (.var 10))), (9, (.t (.var 9))), (7, (.t (.var 7))), (6, (.r 6)), (4, (.t (.var 4))), (3, (.t (.var 3))), (2, (.r 2)), (1, (.t (.var 1))), (21, (.t (.var 21))), (20, (.t (.var 20))), (19, (.t (.var 19))), (18, (.t (.var 18))), (0, (.r 0)), (32, (.t (.var 26))), (31, (.t (.var 27))), (26, (.r 24)), (25, (.r 23)), (30, (.t (.var 26))), (29, (.t (.var 28))), (28, (.r 25))], [((.var 3), (.var 3)), ((.lit (0)), (.lit (0))), ((.lit (0)), (.lit (0))), ((.lit (0)), (.lit (0))), ((.lit (0)), (.lit (0))), ((.lit (0)), (.lit (0))), ((.lit (0)), (.lit (0)))], [], []⟩ (.both (.fresh 29 (.fresh 30 (.post 1 0 ⟨0, [(17, (.t (.var 17))), (16, (.t (.var 16))), (12, (.t (.var 12))), (11, (.t (.var 11))), (10, (.t (.var 10))), (9, (.t (.var 9))), (7, (.t (.var 7))), (6, (.r 6)), (4, (.t (.var 4))), (3, (.t (.var 3))), (2, (.r 2)), (1, (.t (.var 1))), (21, (.t (.var 21))), (20, (.t (.var 20))), (19, (.t (.var 19))), (18, (.t (.var 18))), (0, (.r 0)), (32, (.t (.var 26))), (31, (.t (.var 27))), (26, (.r 24)), (25, (.r 23)), (30, (.t (.var 26))), (29, (.t (.var 28))), (28, (.r 25))], [((.var 3), (.var 3)), ((.lit (0)), (.lit (0))), ((.lit (0)), (.lit (0))), ((.lit (0)), (.lit (0))), ((.lit (0)), (.lit (0))), ((.lit (0)), (.lit (0))), ((.lit (0)), (.lit (0)))], [], []⟩ 29 (.need (.cmp .leq (.lit (0)) (.var 29)) (.inv 0 31 ⟨1000, [(1009, (.t .dnil)), (1007, (.t (.var 30))), (1000, (.t (.lit (0)))), (1006, (.t (.lit (0)))), (1005, (.t (.lit (0)))), (1004, .nil), (1003, (.t (.var 26))), (1002, (.t (.var 29))), (1001, (.r 25)), (1008, (.r 24))], [((.var 1006), (.lit (0))), ((.var 1003), (.var 26)), ((.var 20), (.var 20)), ((.var 19), (.var 19)), ((.var 18), (.var 18)), ((.imin (.lit (2)) (.var 1002)), (.imin (.lit (2)) (.var 29))), ((.lit (0)), (.lit (0))), ((.lit (0)), (.lit (0))), ((.var 22), (.var 22)), ((.lit (0)), (.lit (0)))], [((.var 21), (.var 21))], []⟩ (.fresh 31 (.fresh 32 (.fresh 33 (.fresh 34 (.fresh 35 (.fresh 36 (.fresh 37 (.fresh 38 (.fresh 39 (.fresh 40 (.hyp 0 31 (.br (.cmp .lss (.var 31) (.imin (.lit (2)) (.var 33)))
 (.need (.cmp .leq (.lit (0)) (.var 33)) (.need (.cmp .neq (.conv .u64 (.var 33)) (.lit (0))) (.need (.cmp .neq (.var 33) (.lit (0))) (.need (.cmp .leq (.lit (0)) (.arith .rem .i64 (.arith .add .i64 (.conv .i64 (.arith .rem .u64 (.var 22) (.conv .u64 (.var 33)))) (.var 31)) (.var 33))) (.need (.cmp .lss (.arith .rem .i64 (.arith .add .i64 (.conv .i64 (.arith .rem .u64 (.var 22) (.conv .u64 (.var 33)))) (.var 31)) (.var 33)) (.var 33)) (.need (.cmp .lss (.arith .rem .i64 (.arith .add .i64 (.conv .i64 (.arith .rem .u64 (.var 22) (.conv .u64 (.var 33)))) (.var 31)) (.var 33)) (.dlen (.var 38))) (.both (.fresh 41 (.both (.need (.cmp .eql (.var 36) (.dlen (.var 40))) (.need (.cmp .leq (.tims (.lit (352)) (.plus (.var 36) (.lit (1)))) (.lit (140737488355328))) (.fresh 42 (.fresh 43 (.both (.back 0 31 ⟨1000, [(1009, (.t (.dapp (.var 40) (.rcons (.vint .u8 (.lit (3))) (.rcons (.vint .i64 (.lit (0))) (.rcons (.vint .i64 (.icell (.var 38) (.arith .rem .i64 (.arith .add .i64 (.conv .i64 (.arith .rem .u64 (.var 22) (.conv .u64 (.var 33)))) (.var 31)) (.var 33)) 0)) (.rcons (.vint .u64 (.var 18)) (.rcons (.vint .i64 (.lit (0))) (.rcons (.vint .i64 (.var 19)) (.rcons .vnils (.rcons .vnils (.rcons .vnils (.rcons (.vint .i64 (.lit (0))) (.rcons (.vint .u8 (.lit (0))) (.rcons (.vint .u8 (.lit (0))) (.rcons (.vint .u8 (.lit (0))) (.rcons (.vint .u8 (.lit (0))) (.rcons (.vint .u8 (.lit (0))) (.rcons (.vint .u8 (.lit (0))) (.rcons (.vint .u8 (.lit (0))) (.rcons (.vint .u8 (.lit (0))) (.rcons (.vint .u8 (.lit (0))) (.rcons (.vint .u8 (.lit (0))) (.rcons (.vint .u8 (.lit (0))) (.rcons (.vint .u8 (.lit (0))) (.rcons (.vint .u8 (.lit (0))) (.rcons (.vint .u8 (.lit (0))) (.rcons (.vint .u8 (.lit (0))) (.rcons (.vint .u8 (.lit (0))) (.rcons (.vint .u8 (.lit (0))) (.rcons (.vint .u8 (.lit (0))) (.rcons (.vint .u8 (.lit (0))) (.rcons (.vint .u8 (.lit (0))) (.rcons (.vint .u8 (.lit (0))) (.rcons (.vint .u8 (.lit (0))) (.rcons (.vint .u8 (.lit (0))) (.rcons (.vint .u8 (.lit (0))) (.rcons (.vint .u8 (.lit (0))) (.rcons (.vint .u8 (.lit (0))) (.rcons (.vint .u8 (.lit (0))) (.rcons (.vint .u8 (.lit (0))) (.rcons (.vint .u8 (.lit (0))) (.rcons (.vint .u8 (.lit (0))) (.rcons (.vint .u8 (.lit (0))) (.rcons (.vint .u8 (.lit (0))) (.rcons .vnils (.rcons (.vbool (.bl false)) (.rcons (.vint .u8 (.lit (0))) (.rcons (.vint .u8 (.lit (0))) (.rcons (.vint .u8 (.lit (0))) (.rcons (.vint .u8 (.lit (0))) (.rcons (.vint .u8 (.lit (0))) (.rcons (.vint .u8 (.lit (0))) (.rcons (.vint .u8 (.lit (0))) (.rcons (.vint .u8 (.lit (0))) (.rcons (.vint .u8 (.lit (0))) (.rcons (.vint .u8 (.lit (0))) (.rcons (.vint .u8 (.lit (0))) (.rcons (.vint .u8 (.lit (0))) (.rcons (.vint .u8 (.lit (0))) (.rcons (.vint .u8 (.lit (0))) (.rcons (.vint .u8 (.lit (0))) (.rcons (.vint .u8 (.lit (0))) (.rcons (.vint .u8 (.lit (0))) (.rcons (.vint .u8 (.lit (0))) (.rcons (.vint .u8 (.lit (0))) (.rcons (.vint .u8 (.lit (0))) (.rcons (.vint .u8 (.lit (0))) (.rcons (.vint .u8 (.lit (0))) (.rcons (.vint .u8 (.lit (0))) (.rcons (.vint .u8 (.lit (0))) (.rcons (.vint .u8 (.lit (0))) (.rcons (.vint .u8 (.lit (0))) (.rcons (.vint .u8 (.lit (0))) (.rcons (.vint .u8 (.lit (0))) (.rcons (.vint .u8 (.lit (0))) (.rcons (.vint .u8 (.lit (0))) (.rcons (.vint .u8 (.lit (0))) (.rcons (.vint .u8 (.lit (0))) (.rcons (.vint .i64 (.lit (0))) (.rcons (.vint .i64 (.lit (0))) (.rcons (.vint .i64 (.lit (0))) (.rcons (.vint .i64 (.lit (0))) (.rcons (.vint .u8 (.lit (0))) (.rcons (.vint .u8 (.lit (0))) (.rcons (.vint .u8 (.lit (0))) (.rcons (.vint .u8 (.lit (0))) (.rcons (.vint .u8 (.lit (0))) (.rcons (.vint .u8 (.lit (0))) (.rcons (.vint .u8 (.lit (0))) (.rcons (.vint .u8 (.lit (0))) (.rcons (.vint .u8 (.lit (0))) (.rcons (.vint .u8 (.lit (0))) (.rcons (.vint .u8 (.lit (0))) (.rcons (.vint .u8 (.lit (0))) (.rcons (.vint .u8 (.lit (0))) (.rcons (.vint .u8 (.lit (0))) (.rcons (.vint .u8 (.lit (0))) (.rcons (.vint .u8 (.lit (0))) (.rcons (.vint .u8 (.lit (0))) (.rcons (.vint .u8 (.lit (0))) (.rcons (.vint .u8 (.lit (0))) (.rcons (.vint .u8 (.lit (0))) (.rcons (.vint .u8 (.lit (0))) (.rcons (.vint .u8 (.lit (0))) (.rcons (.vint .u8 (.lit (0))) (.rcons (.vint .u8 (.lit (0))) (.rcons (.vint .u8 (.lit (0))) (.rcons (.vint .u8 (.lit (0))) (.rcons (.vint .u8 (.lit (0))) (.rcons (.vint .u8 (.lit (0))) (.rcons (.vint .u8 (.lit (0))) (.rcons (.vint .u8 (.lit (0))) (.rcons (.vint .u8 (.lit (0))) (.rcons (.vint .u8 (.lit (0))) (.rcons .vnils (.rcons (.vint .i64 (.lit (0))) (.rcons .vnils (.rcons (.vint .i64 (.lit (0))) .rnil))))))))))))))))))))))))))))))))))))))))))))))))))))))))))))))))))))))))))))))))))))))))))))))))))))))))))))))))))))))), (1007, (.t (.var 38))), (1000, (.t (.arith .add .i64 (.var 31) (.lit (1))))), (1006, (.t (.var 43))), (1005, (.t (.plus (.var 36) (.lit (1))))), (1004, (.r 42)), (1003, (.t (.var 34))), (1002, (.t (.var 33))), (1001, (.r 32)), (1008, (.r 39))], [((.var 1006), (.var 43)), ((.var 1003), (.var 34)), ((.var 20), (.var 20)), ((.var 19), (.var 19)), ((.var 18), (.var 18)), ((.imin (.lit (2)) (.var 1002)), (.imin (.lit (2)) (.var 33))), ((.lit (0)), (.lit (0))), ((.lit (0)), (.lit (0))), ((.var 22), (.var 22)), ((.lit (0)), (.lit (0)))], [((.var 21), (.var 21))], []⟩) .top))))) .top)) .top)))))))
 (.ret 0 ⟨23, [(25, (.t (.var 40))), (24, (.t (.var 37))), (26, (.t (.var 36))), (23, (.r 35))], [((.var 24), (.var 37)), ((.lit (0)), (.lit (0)))], [], []⟩)))))))))))))))))) .top))))))) .top))))
theorem o_ask66_eq : treeOf ⟨Try.prog, ask66C, [live37C, delete85C], [ask66I]⟩ 100000 Try.f66 = o_ask66 := by kernel_rfl
theorem ask66_of (hd : ∀ c ∈ ([live37C, delete85C] : List Ctr), c.ok Try.prog) (h : ∀ ρ : Env, ρ.good → (ask66C).pre ρ → o_ask66.den ⟨Try.prog, ask66C, [live37C, delete85C], [ask66I]⟩ ρ) : (ask66C).ok Try.prog :=
  ok_of_tree Try.func66 (fun a w => Try.call66 a w) hd 100000 (fun ρ hg hp => by rw [o_ask66_eq]; exact h ρ hg hp)
end Go.Proofs

/- The machine's functions: what they compute. -/
set_option linter.unusedSimpArgs false
set_option linter.unusedVariables false
namespace Go.Proofs
open Go Go.Eng

theorem star_mem {ρ : Env} {x : SH} : ∀ {l : List SH} {h : Hp}, star ρ l h → x ∈ l → ∃ hx, Hp.le hx h ∧ x.den ρ hx
  | [], _, _, hx => by cases hx
  | y :: l, h, ⟨h1, h2, hd, hu, hy, hs⟩, hx => by
    subst hu
    rcases List.mem_cons.1 hx with rfl | hx
    · exact ⟨h1, Hp.le_left _ _, hy⟩
    · obtain ⟨g, g1, g2⟩ := star_mem hs hx
      exact ⟨g, Hp.le_trans g1 (Hp.le_right hd), g2⟩
theorem Rd_mono {h h' : Hp} {pat : List CK} {v : Value} {d : List (List Value)} (hr : Rd h pat v d) (hl : Hp.le h h') : Rd h' pat v d := by
  rcases hr with h0 | ⟨b, o, cap, c, ty, fr, h1, h2, h3, h4⟩
  · exact .inl h0
  · exact .inr ⟨b, o, cap, c, ty, fr, h1, h2, hl _ _ h3, h4⟩
theorem RdT_mono {h h' : Hp} {v : Value} {t : List Ent} (hr : RdT h v t) (hl : Hp.le h h') : RdT h' v t := by
  obtain ⟨d, h1, h2⟩ := hr; exact ⟨d, Rd_mono h1 hl, h2⟩
/-- An owned block's slice reads as its rows. -/
theorem arr_Rd {ρ : Env} {r : Nat} {ty : TypeId} {pat : List CK} {d cap : T} {h H : Hp} {n : Nat} {k : Nat} (hx : SH.den ρ (.arr r ty pat d cap) h) (hl : Hp.le h H) (hn : n = (d.den ρ).d.length) (hc : k = (cap.den ρ).i.toNat) :
    Rd H pat (.slice (addrOf (ρ r).r 0) n k) (d.den ρ).d := by
  rcases hx with ⟨h1, h2, h3⟩ | ⟨b, c, h1, h2, h3, h4, h5⟩
  · refine .inl ⟨none, ?_, h2⟩
    rw [h1, hn, h2, hc, h3]; rfl
  · refine .inr ⟨b, 0, k, c, ty, (0, 0), by rw [h1, hn]; rfl, by omega, hl _ _ h2, h5⟩

theorem fault64_ok : fault64C.ok Try.prog := fault64_of (by simp) fun ρ hg hp => by
  simp [o_fault64, fault64C]
theorem u64s_put {d : List (List Value)} {i : Int} {x : Int} (h0 : 0 ≤ i) (h : i < (d.length : Int)) : intsOf (putD d i 0 [.int .u64 x]) = (intsOf d).set i.toNat x := by
  apply List.ext_getElem?
  intro j
  simp only [intsOf, putD, List.getElem?_map, List.getElem?_set, List.length_map]
  by_cases hj : i.toNat = j
  · subst hj
    have : i.toNat < d.length := by omega
    simp [this, splice, rowI, vInt]
  · simp [hj]
theorem tab_put' {d : List (List Value)} {i : Int} {x y : Int} (h0 : 0 ≤ i) (h : i < (d.length : Int)) : tabOf (putD d i 0 [.int .u64 x, .int .u8 y]) = setTab (tabOf d) i (x, y) := by
  apply List.ext_getElem?
  intro j
  rw [tab_put h0 h, setTab, List.getElem?_set]
  by_cases hj : j = i.toNat
  · subst hj; rw [if_pos rfl, if_pos rfl, if_pos (by rw [tab_len]; omega)]
  · rw [if_neg hj, if_neg (fun h => hj h.symm)]
theorem set65_ok : set65C.ok Try.prog := set65_of (by simp) fun ρ hg hp => by
  obtain ⟨h1, h2, h3, h4⟩ := hp
  have hc := cellI_tab (d := (ρ 5).d) h3 (by omega)
  have ht := tab_put' (d := (ρ 5).d) (x := (ρ 19).i) (y := (ρ 20).i) h3 (by omega)
  simp [o_set65, set65C, ht, putD_len]
  refine ⟨h3, by omega, by omega, fun h5 => ⟨fun h6 => ⟨by omega, ?_⟩, fun h6 => ?_⟩, fun h5 h6 => ?_⟩
  · rw [u64s_put h3 (by omega), setSince, hc, if_pos ⟨fun e => by rcases h5 with h5 | h5 <;> simp [h5] at e, h6⟩]
  · rw [setSince, if_neg (fun h => h6 h.2)]
  · rw [setSince, hc, h5, h6, if_neg (fun h => h.1 rfl)]
theorem next67_ok : next67C.ok Try.prog := next67_of (by simp) fun ρ hg hp => by
  obtain ⟨h1, h2, h3, h4⟩ := hp
  have hw : IntKind.i64.wrap ((ρ 11).i + 1) = (ρ 11).i + 1 := wrap64_id (by omega) (by omega)
  have hlt : Int.tmod ((ρ 11).i + 1) (ρ 3).i < (ρ 3).i := Int.tmod_lt_of_pos _ (by omega)
  have hge : 0 ≤ Int.tmod ((ρ 11).i + 1) (ρ 3).i := Int.tmod_nonneg _ (by omega)
  have hw2 : IntKind.i64.wrap (Int.tmod ((ρ 11).i + 1) (ρ 3).i + 1) = Int.tmod ((ρ 11).i + 1) (ρ 3).i + 1 := wrap64_id (by omega) (by omega)
  simp [o_next67, next67C, arithOf, hw, hw2]
  refine ⟨by omega, by omega, fun h => ?_, fun h => ?_⟩
  · rw [nextP, if_pos h]
  · rw [nextP, if_neg h]
theorem stamped_zero {h : Hp} {ms : List Msg} {self : Int} {t : List Ent} {d : List (List Value)} (hd : plainRows d ms) : stamped h ms self t 0 d := ⟨[], rfl, by simpa [rowsOf, plainRows] using hd, by simp⟩
theorem put_mid {A B : List (List Value)} {r : List Value} {i : Int} (h0 : 0 ≤ i) (hi : i.toNat = A.length) (c : Nat) (vs : List Value) : putD (A ++ r :: B) i c vs = A ++ splice r c vs :: B := by
  unfold putD
  rw [hi, List.set_append_right _ _ (Nat.le_refl _), List.getElem?_append_right (Nat.le_refl _)]
  simp
theorem stamped_succ {h h' : Hp} {ms : List Msg} {self : Int} {t : List Ent} {i : Int} {d : List (List Value)} {v : Value} (h0 : 0 ≤ i) (hi : i.toNat < ms.length) (hs : stamped h ms self t i.toNat d) (hl : Hp.le h h') (hv : RdT h' v t) :
    stamped h' ms self t (i.toNat + 1) (putD (putD d i 1 [.int .i64 self]) i 6 [v]) := by
  obtain ⟨vs, h1, h2, h3⟩ := hs
  have hget : ms[i.toNat]? = some ms[i.toNat] := List.getElem?_eq_getElem hi
  have hAl : (rowsOf ((ms.take i.toNat).map fun m => { m with src := self }) vs).length = i.toNat := by simp [rowsOf, h1]; omega
  refine ⟨vs ++ [v], by simp [h1], ?_, fun x hx => ?_⟩
  · rw [h2, List.drop_eq_getElem_cons hi, List.map_cons, put_mid h0 hAl.symm, put_mid h0 hAl.symm, take_snoc hget]
    simp only [rowsOf, List.map_append]
    rw [List.zipWith_append (by simp [h1]; omega)]
    simp only [List.append_assoc, List.map_cons, List.map_nil, List.zipWith_cons_cons, List.zipWith_nil_left, List.cons_append, List.nil_append]
    rfl
  · rcases List.mem_append.1 hx with hx | hx
    · exact RdT_mono (h3 x hx) hl
    · simp only [List.mem_singleton] at hx; subst hx; exact hv
theorem stamp68_ok : stamp68C.ok Try.prog := stamp68_of (by simp [clone63_ok]) fun ρ hg hp => by
  obtain ⟨⟨h1, h2, h3, h4, h5, h6, h7⟩, h8, h9, hms⟩ := hp
  obtain ⟨ms0, hms0⟩ := hms
  have hml : ms0.length = (ρ 21).d.length := by rw [hms0]; simp
  simp [o_stamp68, stamp68C, clone63C, stamp68I, arithOf]
  refine ⟨by omega, fun u0 _ _ => ⟨⟨by omega, fun ms hm => stamped_zero hm⟩, fun ui _ ud _ ut _ g0 g1 g2 g3 => ⟨fun g4 => ⟨⟨h1, by omega, ?_⟩, fun ur _ uc _ uD _ g5 => ⟨g0, by omega, fun uh _ g6 => ?_⟩⟩, fun g4 ms hm => ?_⟩⟩⟩
  · unfold big; omega
  · rw [wrapAdd g0 g4 h9, toNat_succ g0]
    refine ⟨⟨by omega, by omega, by rw [putD_len, putD_len]; exact g2, fun ms hm => ?_⟩, by omega⟩
    obtain ⟨ha, la, da⟩ := star_mem g6 (List.mem_cons_self ..)
    obtain ⟨hb, lb, db⟩ := star_mem g6 (List.mem_cons_of_mem _ (List.mem_cons_self ..))
    have hl : Hp.le ut.h uh.h := by
      have : Hp.le ut.h hb := by simpa [SH.den] using db
      exact Hp.le_trans this lb
    have hr := arr_Rd (n := (ρ 3).i.toNat) (k := uc.i.toNat) da la (by simp [g5]; omega) (by simp)
    have hr : Rd uh.h kMem (.slice (addrOf ur.r 0) (ρ 3).i.toNat uc.i.toNat) uD.d := by simpa [kMem] using hr
    have hmlen : ms.length = (ρ 21).d.length := by rw [hm]; simp
    exact stamped_succ g0 (by omega) (g3 ms hm) hl ⟨_, hr, by rw [g5]⟩
  · have hmlen : ms.length = (ρ 21).d.length := by rw [hm]; simp
    have := g3 ms hm
    rwa [show ui.i.toNat = ms.length by omega] at this
theorem noneN_zero {α : Type} (p : α → Bool) (l : List α) : noneN p l 0 = true := by simp [noneN]
theorem noneN_succ {α : Type} {p : α → Bool} {l : List α} {n : Nat} {x : α} (h : l[n]? = some x) (h' : noneN p l n = true) (hx : p x = false) : noneN p l (n + 1) = true := by
  unfold noneN at *; rw [take_snoc h, List.all_append, h']; simp [hx]
theorem noneN_all {α : Type} {p : α → Bool} {l : List α} {n : Nat} (h : l.length ≤ n) (h' : noneN p l n = true) : noneN p l l.length = true := by
  unfold noneN at *; rw [List.take_of_length_le h] at h'; rwa [List.take_of_length_le (Nat.le_refl _)]
theorem noneN_filter {α : Type} {p : α → Bool} {l : List α} {n : Nat} (h : noneN p l n = true) : (l.take n).filter (fun x => !p x) = l.take n := by
  rw [List.filter_eq_self]; unfold noneN at h; exact List.all_eq_true.1 h
theorem clo86_ok : clo86C.ok Try.prog := clo86_of (by simp) fun ρ hg hp => by
  simp [o_clo86, clo86C, isOr]
  refine ⟨fun h => .inl h, fun h => ?_⟩
  rw [show ((ρ 24).i == (ρ 1).i) = false by simpa using h]; simp [cmpOf]
theorem index89_ok : index89C.ok Try.prog := index89_of (by simp [clo86_ok]) fun ρ hg hp => by
  obtain ⟨hl, hb⟩ := hp
  simp [o_index89, index89C, index89I, clo86C, arithOf, noneN_zero]
  refine ⟨by omega, fun u _ h0 h1 h2 => ⟨fun h3 => ⟨h0, by omega, fun u1 _ h4 => ⟨fun h5 => ?_, fun h5 => ⟨?_, ?_⟩⟩⟩, fun h3 => .inl ⟨rfl, noneN_all (by rw [ints_len]; omega) h2⟩⟩⟩
  · exact .inr ⟨h0, by rw [ints_len]; omega, h2, by rw [cellI_ints h0 (by omega)]; simp [← h4, h5]⟩
  · rw [wrapAdd h0 h3 hb, toNat_succ h0]
    exact ⟨by omega, by omega, noneN_succ (cellI_ints h0 (by omega)) h2 (by rw [← h4, h5])⟩
  · rw [wrapAdd h0 h3 hb]; omega
theorem delOk_init {α : Type} {p : α → Bool} {l : List α} {i : Int} (h : ixOk p l i) (hi : ¬ i = -1) : delOk p l l i (i + 1) := by
  rcases h with ⟨h, _⟩ | ⟨h0, h1, h2, h3⟩
  · exact absurd h hi
  · obtain ⟨x, hx, hpx⟩ := Option.map_eq_some_iff.1 h3
    refine ⟨h0, by omega, by omega, rfl, ?_, rfl⟩
    rw [toNat_succ h0, take_snoc hx, List.filter_append, noneN_filter h2]
    simp [hpx]
theorem delOk_get {α : Type} {p : α → Bool} {orig cur : List α} {i j : Int} (h : delOk p orig cur i j) (hj : j < orig.length) : orig[j.toNat]? = cur[j.toNat]? := by
  obtain ⟨h0, h1, h2, h3, h4, h5⟩ := h
  have := congrArg (fun l => l[0]?) h5
  simpa [List.getElem?_drop] using this.symm
theorem delOk_keep {α : Type} {p : α → Bool} {orig cur : List α} {i j : Int} {x : α} (h : delOk p orig cur i j) (hj : j < orig.length) (hx : cur[j.toNat]? = some x) (hp : p x = false) : delOk p orig (cur.set i.toNat x) (i + 1) (j + 1) := by
  have ho := delOk_get h hj
  obtain ⟨h0, h1, h2, h3, h4, h5⟩ := h
  rw [hx] at ho
  refine ⟨by omega, by omega, by omega, by simpa using h3, ?_, ?_⟩
  · rw [toNat_succ h0, toNat_succ (show 0 ≤ j by omega), take_snoc ho, List.filter_append, ← h4]
    have hlt : i.toNat < cur.length := by omega
    rw [take_snoc (x := x) (by simp [hlt]), List.take_set_of_le (by omega)]
    simp [hp]
  · rw [toNat_succ (show 0 ≤ j by omega), List.drop_set_of_lt (by omega)]
    have := congrArg (List.drop 1) h5
    simpa [List.drop_drop, Nat.add_comm] using this
theorem delOk_skip {α : Type} {p : α → Bool} {orig cur : List α} {i j : Int} {x : α} (h : delOk p orig cur i j) (hj : j < orig.length) (hx : cur[j.toNat]? = some x) (hp : p x = true) : delOk p orig cur i (j + 1) := by
  have ho := delOk_get h hj
  obtain ⟨h0, h1, h2, h3, h4, h5⟩ := h
  rw [hx] at ho
  refine ⟨h0, by omega, by omega, h3, ?_, ?_⟩
  · rw [toNat_succ (show 0 ≤ j by omega), take_snoc ho, List.filter_append, ← h4]; simp [hp]
  · rw [toNat_succ (show 0 ≤ j by omega)]
    have := congrArg (List.drop 1) h5
    simpa [List.drop_drop, Nat.add_comm] using this
theorem delOk_done {α : Type} {p : α → Bool} {orig cur : List α} {i j : Int} (h : delOk p orig cur i j) (hj : orig.length ≤ j) : cur.take i.toNat = orig.filter (fun x => !p x) := by
  obtain ⟨h0, h1, h2, h3, h4, h5⟩ := h
  rw [h4, List.take_of_length_le (by omega)]
theorem i64s_put {d : List (List Value)} {i : Int} {x : Int} (h0 : 0 ≤ i) (h : i < (d.length : Int)) : intsOf (putD d i 0 [.int .i64 x]) = (intsOf d).set i.toNat x := by
  apply List.ext_getElem?
  intro j
  simp only [intsOf, putD, List.getElem?_map, List.getElem?_set, List.length_map]
  by_cases hj : i.toNat = j
  · subst hj
    have : i.toNat < d.length := by omega
    simp [this, splice, rowI, vInt]
  · simp [hj]
theorem ints_take (d : List (List Value)) (n : Nat) : intsOf (d.take n) = (intsOf d).take n := by simp [intsOf, List.map_take]
theorem wrapu64_id {x : Int} (h1 : 0 ≤ x) (h2 : x < 18446744073709551616) : IntKind.u64.wrap x = x := by
  simp [IntKind.wrap, IntKind.signed, IntKind.bits]; omega
theorem filter_len {α : Type} (p : α → Bool) (l : List α) : (l.filter p).length ≤ l.length := List.length_filter_le p l
theorem delete85_ok : delete85C.ok Try.prog := delete85_of (by simp [index89_ok, clo86_ok]) fun ρ hg hp => by
  obtain ⟨hl, hb, hcap⟩ := hp
  simp [o_delete85, delete85C, delete85I, index89C, clo86C, arithOf]
  refine ⟨⟨hl, hb⟩, fun u _ hu => ⟨fun h1 => ?_, fun h1 => ?_⟩⟩
  · refine ⟨by omega, by omega, ?_⟩
    rcases hu with ⟨_, h2⟩ | ⟨h2, _⟩
    · rw [List.take_of_length_le (by rw [ints_len]; omega)]
      have := noneN_filter h2
      rw [List.take_of_length_le (Nat.le_refl _)] at this
      exact this.symm
    · omega
  · have h0 : 0 ≤ u.i ∧ u.i < (ρ 29).i := by
      rcases hu with ⟨h2, _⟩ | ⟨h2, h3, _⟩
      · exact absurd h2 h1
      · rw [ints_len] at h3; omega
    refine ⟨by rw [wrapAdd h0.1 h0.2 hb]; exact delOk_init hu h1, fun ui _ uj _ ud _ g => ⟨by omega, fun g1 => ?_, fun g1 => ?_⟩⟩
    · have hg' := g
      obtain ⟨k0, k1, k2, k3, k4, k5⟩ := g
      rw [ints_len, ints_len] at k3
      have hc := cellI_ints (d := ud.d) (i := uj.i) (by omega) (by omega)
      rw [wrapAdd (n := (ρ 29).i) (show 0 ≤ uj.i by omega) g1 hb]
      refine ⟨by omega, by omega, fun u3 _ h3 => ⟨fun h4 => ⟨by omega, by omega, by omega, ?_, by omega⟩, fun h4 => ⟨?_, by omega⟩⟩⟩
      · rw [wrapAdd (n := (ρ 29).i) (show 0 ≤ ui.i by omega) (by omega) hb, i64s_put (by omega) (by omega)]
        exact delOk_keep hg' (by rw [ints_len]; omega) hc (by rw [← h3, h4])
      · exact delOk_skip hg' (by rw [ints_len]; omega) hc (by rw [← h3, h4])
    · have hg' := g
      obtain ⟨k0, k1, k2, k3, k4, k5⟩ := g
      rw [ints_len, ints_len] at k3
      rw [ints_len] at k2
      intro hkn
      have hd := delOk_done hg' (by rw [ints_len]; omega)
      have hmin : (if (ρ 29).i - ui.i = 0 then (ud.d.length : Int) else if (ρ 30).i = ui.i then 0 else ui.i).toNat = if (ρ 29).i - ui.i = 0 then ud.d.length else ui.i.toNat := by
        split
        · simp
        · rw [if_neg (by omega)]
      simp only [hmin]
      refine ⟨by omega, by omega, by omega, by omega, ?_, by omega, ?_, fun hk2 => ⟨by omega, by omega, ?_, by omega, ?_⟩⟩
      · split <;> omega
      · split <;> omega
      · split <;> omega
      · rw [ints_take, List.take_take, ← hd]
        congr 1
        split <;> omega
theorem filter_congr' {α : Type} {p q : α → Bool} {l : List α} (h : ∀ x ∈ l, p x = q x) : l.filter p = l.filter q := List.filter_congr h
theorem liveN_len (l : List Ent) (n : Nat) : (liveN l n).length ≤ n := by
  simp only [liveN, List.length_map]
  exact Nat.le_trans (List.length_filter_le _ _) (by simp)
theorem candL_len (t : List Ent) (self target : Int) : (candL t self target).length ≤ t.length :=
  Nat.le_trans (List.length_filter_le _ _) (liveN_len t t.length)
theorem askN_snoc (c : List Int) (seq target draw : Int) (n : Nat) : askN c seq target draw (n + 1) = askN c seq target draw n ++ [askMsg c seq target draw n] := by
  simp [askN, List.range_succ]
theorem plain_snoc {d : List (List Value)} {ms : List Msg} {m : Msg} (h : plainRows d ms) : plainRows (d ++ [row0 m]) (ms ++ [m]) := by
  unfold plainRows at *; rw [h]; simp
set_option maxRecDepth 20000 in
theorem ask66_ok : ask66C.ok Try.prog := ask66_of (by simp [live37_ok, delete85_ok]) fun ρ hg hp => by
  obtain ⟨⟨h1, h2, h3, h4, h5, h6, h7⟩, h8, h9⟩ := hp
  have hcl := candL_len (tabOf (ρ 5).d) (ρ 1).i (ρ 19).i
  rw [tab_len] at hcl
  have hb : (ρ 3).i ≤ big := by unfold big; omega
  simp [o_ask66, ask66C, live37C, delete85C, ask66I, arithOf]
  refine ⟨⟨h1, hb⟩, fun ul _ uk _ g1 g2 g3 => ⟨⟨g2, by omega⟩, fun un _ ud _ k1 k2 k3 k4 => ⟨k1, ?_, fun ui _ vn _ vl _ vd _ vr _ q0 q1 q2 q3 q4 q5 q6 q7 => ⟨fun q8 => ?_, fun q8 => ?_⟩⟩⟩⟩
  · have hc : (intsOf ud.d).take un.i.toNat = candL (tabOf (ρ 5).d) (ρ 1).i (ρ 19).i := by rw [k4, g1]; rfl
    have hlen := congrArg List.length hc
    rw [List.length_take, ints_len] at hlen
    exact ⟨by omega, hc, k2, by simp [plainRows, askN]⟩
  · have hn : vn.i ≤ 16 := by omega
    have q8a : ui.i < vn.i := by split at q8 <;> omega
    have q8b : ui.i < 2 := by split at q8 <;> omega
    have hw1 : IntKind.u64.wrap vn.i = vn.i := wrapu64_id (by omega) (by omega)
    have t1 : Int.tmod (ρ 22).i vn.i < vn.i := Int.tmod_lt_of_pos _ (by omega)
    have t0 : 0 ≤ Int.tmod (ρ 22).i vn.i := Int.tmod_nonneg _ h8
    have hw2 : IntKind.i64.wrap (Int.tmod (ρ 22).i vn.i) = Int.tmod (ρ 22).i vn.i := wrap64_id (by omega) (by omega)
    have hw3 : IntKind.i64.wrap (Int.tmod (ρ 22).i vn.i + ui.i) = Int.tmod (ρ 22).i vn.i + ui.i := wrap64_id (by omega) (by omega)
    have hw4 : IntKind.i64.wrap (ui.i + 1) = ui.i + 1 := wrap64_id (by omega) (by omega)
    rw [hw1, hw2, hw3, hw4]
    have s1 : Int.tmod (Int.tmod (ρ 22).i vn.i + ui.i) vn.i < vn.i := Int.tmod_lt_of_pos _ (by omega)
    have s0 : 0 ≤ Int.tmod (Int.tmod (ρ 22).i vn.i + ui.i) vn.i := Int.tmod_nonneg _ (by omega)
    have hcell := cellI_ints (d := vd.d) s0 (by omega)
    have hget : (candL (tabOf (ρ 5).d) (ρ 1).i (ρ 19).i)[(Int.tmod (Int.tmod (ρ 22).i vn.i + ui.i) vn.i).toNat]? = some (cellI vd.d (Int.tmod (Int.tmod (ρ 22).i vn.i + ui.i) vn.i) 0) := by
      rw [← q3, List.getElem?_take, if_pos (by omega)]; exact hcell
    have hm : askMsg (candL (tabOf (ρ 5).d) (ρ 1).i (ρ 19).i) (ρ 18).i (ρ 19).i (ρ 22).i ui.i.toNat = ⟨3, 0, cellI vd.d (Int.tmod (Int.tmod (ρ 22).i vn.i + ui.i) vn.i) 0, (ρ 18).i, 0, (ρ 19).i⟩ := by
      unfold askMsg
      rw [← q2, Int.toNat_of_nonneg q0, List.getD_eq_getElem?_getD, hget]; rfl
    have key := plain_snoc (m := askMsg (candL (tabOf (ρ 5).d) (ρ 1).i (ρ 19).i) (ρ 18).i (ρ 19).i (ρ 22).i ui.i.toNat) q7
    rw [← askN_snoc, hm, ← toNat_succ q0] at key
    exact ⟨by omega, by omega, by omega, s0, s1, by omega, q5, by omega, ⟨by omega, by omega, q2, q3, q4, by omega, by omega, key⟩, by omega⟩
  · refine ⟨q5, ?_⟩
    have : ui.i.toNat = min 2 (candL (tabOf (ρ 5).d) (ρ 1).i (ρ 19).i).length := by split at q8 <;> omega
    rw [this] at q7
    exact q7
end Go.Proofs

/- Contracts of Tick and Receive. -/
set_option linter.unusedSimpArgs false
set_option linter.unusedVariables false
namespace Go.Eng
open Go

/-! ### Tick, plainly -/
/-- What the walk through the probes has come to. -/
structure TS where
  tab : List Ent
  since : List Int
  kept : List Prb
  msgs : List Msg
def statAt (t : List Ent) (i : Int) : Ent := t.getD i.toNat (0, 0)
def ageOf (clock sent : Int) : Int := IntKind.u64.wrap (clock - sent)
def tickP (self clock draw : Int) (st : TS) (p : Prb) : TS :=
  if 10 ≤ ageOf clock p.sent then
    if (statAt st.tab p.target).2 = 1 then { st with tab := setTab st.tab p.target ((statAt st.tab p.target).1, 2), since := setSince st.tab st.since clock p.target ((statAt st.tab p.target).1, 2) } else st
  else if 4 ≤ ageOf clock p.sent ∧ p.asked = false then { st with kept := st.kept ++ [{ p with asked := true }], msgs := st.msgs ++ askL st.tab self p.seq p.target draw }
  else { st with kept := st.kept ++ [p] }
def tickPs (self clock draw : Int) (tab : List Ent) (since : List Int) (ps : List Prb) : TS := ps.foldl (tickP self clock draw) ⟨tab, since, [], []⟩
/-- An entry that was suspected long enough. -/
def deadE (self clock wait : Int) (since : List Int) (i : Nat) (x : Ent) : Ent := if (i : Int) ≠ self ∧ x.2 = 2 ∧ wait ≤ ageOf clock (since.getD i 0) then (x.1, 3) else x
def deadT (self clock wait : Int) (since : List Int) (t : List Ent) : List Ent := t.mapIdx (deadE self clock wait since)
structure Mach where
  self : Int
  tab : List Ent
  since : List Int
  clock : Int
  seq : Int
  pinged : Int
  probes : List Prb
  chal : Int
  left : Bool
/-- A machine as it lies in memory. -/
def machV (self : Int) (dT dS : List (List Value)) (clock seq pinged np : Int) (dP : List (List Value)) (chal : Int) (left : Bool) : Mach :=
  ⟨self, tabOf dT, intsOf dS, clock, seq, pinged, (prbsOf dP).take np.toNat, chal, left⟩
def clock1 (m : Mach) : Int := IntKind.u64.wrap (m.clock + 1)
def tickTS (m : Mach) (draw : Int) : TS := tickPs m.self (clock1 m) draw m.tab m.since m.probes
def waitOf (n : Nat) : Int := 10 + 3 * min (max (n : Int) 0) 16
def tickM (m : Mach) (draw : Int) : Mach :=
  let st := tickTS m draw
  let p := nextP m.tab.length m.self m.pinged
  let q := IntKind.u64.wrap (m.seq + 1)
  { m with tab := deadT m.self (clock1 m) (waitOf m.tab.length) st.since st.tab, since := st.since, clock := clock1 m, seq := q, pinged := p, probes := st.kept ++ [⟨q, p, clock1 m, false⟩] }
def tickMsgs (m : Mach) (draw : Int) : List Msg := (tickTS m draw).msgs ++ [⟨1, 0, nextP m.tab.length m.self m.pinged, IntKind.u64.wrap (m.seq + 1), m.self, 0⟩]
/-- A machine whose sizes are right. -/
def machWf (m : Mach) : Prop := 2 ≤ m.tab.length ∧ m.tab.length ≤ 16 ∧ m.since.length = m.tab.length ∧ 0 ≤ m.self ∧ m.self < m.tab.length ∧ 0 ≤ m.pinged ∧ m.pinged < m.tab.length ∧ ∀ p ∈ m.probes, 0 ≤ p.target ∧ p.target < m.tab.length

/-! ### Contracts -/
def prbSl : T := .vslice 12 (.lit 0) (.var 13) (.var 14) 4
def mProbes : SH := .arr 12 63 kProbe (.var 15) (.var 14)
def m0 (ρ : Env) : Mach := machV (ρ 1).i (ρ 5).d (ρ 8).d (ρ 9).i (ρ 10).i (ρ 11).i (ρ 13).i (ρ 15).d (ρ 16).i (ρ 17).b
/-- The whole machine, of variables 0 to 17. -/
def mAll : List SH := [mCells prbSl, mTab, mSince, mProbes]
def mPre (ρ : Env) : Prop := machWf (m0 ρ) ∧ (ρ 3).i = (ρ 5).d.length ∧ 0 ≤ (ρ 13).i ∧ (ρ 13).i ≤ (ρ 15).d.length ∧ (ρ 13).i ≤ 1000000
/-- The machine behind a call: the struct and the arrays where they were, but for the probes. -/
def mCells' (clock seq pinged rP np capP chal left : T) (rPn : Nat) : SH := .cells 0 117 [.vint .i64 (.var 1), .vslice 2 (.lit 0) (.var 3) (.var 4) 2, .vslice 6 (.lit 0) (.var 3) (.var 7) 1, .vint .u64 clock, .vint .u64 seq, .vint .i64 pinged, .vslice rPn (.lit 0) np capP 4, .vint .u64 chal, .vbool left]
def tick29C : Ctr := { fn := 29, nv := 19, args := [ptr 0, iv .u64 (.var 18)], heap := mAll, ro := [], pre := fun ρ => mPre ρ ∧ 0 ≤ (ρ 18).i ∧ (ρ 18).i < 18446744073709551616, ip := [(82, 0), (164, 1)], alts := [{ k := 0, ret := .one .vnils, heap := mAll, post := fun ρ => (ρ 17).b = true },
    { k := 14, ret := .one (.vslice 19 (.lit 0) (.var 20) (.var 21) 116), heap := [mCells' (.var 22) (.var 23) (.var 24) .dnil (.var 25) (.var 26) (.var 16) (.var 17) 27, .arr 2 25 kMem (.var 28) (.var 4), .arr 6 22 [.int .u64] (.var 29) (.var 7), .arr 27 63 kProbe (.var 30) (.var 26), .arr 19 43 kMsg (.var 31) (.var 21), .abs 32 2], post := fun ρ => (ρ 17).b = false ∧ machV (ρ 1).i (ρ 28).d (ρ 29).d (ρ 22).i (ρ 23).i (ρ 24).i (ρ 25).i (ρ 30).d (ρ 16).i (ρ 17).b = tickM (m0 ρ) (ρ 18).i ∧ (ρ 20).i = (ρ 31).d.length ∧ (ρ 28).d.length = (ρ 5).d.length ∧ 0 ≤ (ρ 25).i ∧ (ρ 25).i ≤ (ρ 30).d.length ∧ (ρ 25).i ≤ (ρ 13).i + 1 ∧ stamped (ρ 32).h (tickMsgs (m0 ρ) (ρ 18).i) (ρ 1).i (tickM (m0 ρ) (ρ 18).i).tab (tickMsgs (m0 ρ) (ρ 18).i).length (ρ 31).d }] }
/-- The loop over the probes: 1000 the round, 1001 how many are kept, 1002 their rows, 1003 the table's rows, 1004 the times', 1005 the messages' region, 1006 its length, 1007 its capacity, 1008 its rows, 1009 the clock. -/
def tick29I : Inv := { key := 7, nv := 10, env := [(0, ptr 0), (1, iv .u64 (.var 18)), (5, .one (.vslice 1005 (.lit 0) (.var 1006) (.var 1007) 116)), (6, .one (.vslice 12 (.lit 0) (.var 1001) (.var 14) 4)), (32, .one prbSl), (33, iv .i64 (.var 13)), (34, iv .i64 (.var 1000))], heap := [mCells' (.var 1009) (.var 10) (.var 11) .dnil (.var 13) (.var 14) (.var 16) (.var 17) 12, .arr 2 25 kMem (.var 1003) (.var 4), .arr 6 22 [.int .u64] (.var 1004) (.var 7), .arr 12 63 kProbe (.var 1002) (.var 14), .arr 1005 43 kMsg (.var 1008) (.var 1007)], inv := (fun ρ => 0 ≤ (ρ 1000).i ∧ (ρ 1000).i ≤ (ρ 13).i ∧ 0 ≤ (ρ 1001).i ∧ (ρ 1001).i ≤ (ρ 1000).i ∧ (ρ 1009).i = clock1 (m0 ρ) ∧ (ρ 1002).d.length = (ρ 15).d.length ∧ (ρ 1003).d.length = (ρ 5).d.length ∧ (ρ 1004).d.length = (ρ 8).d.length ∧ (ρ 1006).i = (ρ 1008).d.length ∧ (ρ 1006).i ≤ 2 * (ρ 1000).i ∧ (tickPs (ρ 1).i (ρ 1009).i (ρ 18).i (tabOf (ρ 5).d) (intsOf (ρ 8).d) ((prbsOf (ρ 15).d).take (ρ 1000).i.toNat) = ⟨tabOf (ρ 1003).d, intsOf (ρ 1004).d, (prbsOf (ρ 1002).d).take (ρ 1001).i.toNat, (tickPs (ρ 1).i (ρ 1009).i (ρ 18).i (tabOf (ρ 5).d) (intsOf (ρ 8).d) ((prbsOf (ρ 15).d).take (ρ 1000).i.toNat)).msgs⟩) ∧ plainRows (ρ 1008).d (tickPs (ρ 1).i (ρ 1009).i (ρ 18).i (tabOf (ρ 5).d) (intsOf (ρ 8).d) ((prbsOf (ρ 15).d).take (ρ 1000).i.toNat)).msgs ∧ (prbsOf (ρ 1002).d).drop (ρ 1000).i.toNat = (prbsOf (ρ 15).d).drop (ρ 1000).i.toNat), mu := (fun ρ => ((ρ 13).i - (ρ 1000).i).toNat) }
/-- The loop over the table: 1000 the round, 1001 the table's rows; 1002 .. 1008 what stays. -/
def tick29J : Inv := { key := 21, nv := 11, env := [(0, ptr 0), (5, .one (.vslice 1005 (.lit 0) (.var 1006) (.var 1007) 116)), (6, .one (.vslice 12 (.lit 0) (.var 1002) (.var 14) 4)), (11, iv .u64 (.var 1009)), (94, .one (.vslice 2 (.lit 0) (.var 3) (.var 4) 2)), (95, iv .i64 (.var 3)), (96, iv .i64 (.var 1000))], heap := [mCells' (.var 1010) (.var 10) (.var 11) .dnil (.var 13) (.var 14) (.var 16) (.var 17) 12, .arr 2 25 kMem (.var 1001) (.var 4), .arr 6 22 [.int .u64] (.var 1003) (.var 7), .arr 12 63 kProbe (.var 1004) (.var 14), .arr 1005 43 kMsg (.var 1008) (.var 1007)], inv := (fun ρ => 0 ≤ (ρ 1000).i ∧ (ρ 1000).i ≤ (ρ 3).i ∧ (ρ 1010).i = clock1 (m0 ρ) ∧ (ρ 1009).i = waitOf (tabOf (ρ 5).d).length ∧ (ρ 1001).d.length = (ρ 5).d.length ∧ (ρ 1003).d.length = (ρ 8).d.length ∧ (ρ 1006).i = (ρ 1008).d.length ∧ (ρ 1006).i ≤ 2 * (ρ 13).i ∧ 0 ≤ (ρ 1002).i ∧ (ρ 1002).i ≤ (ρ 13).i ∧ (ρ 1002).i ≤ (ρ 1004).d.length ∧ intsOf (ρ 1003).d = (tickTS (m0 ρ) (ρ 18).i).since ∧ (prbsOf (ρ 1004).d).take (ρ 1002).i.toNat = (tickTS (m0 ρ) (ρ 18).i).kept ∧ plainRows (ρ 1008).d (tickTS (m0 ρ) (ρ 18).i).msgs ∧ (tickTS (m0 ρ) (ρ 18).i).tab.length = (ρ 5).d.length ∧ (∀ j : Nat, (tabOf (ρ 1001).d)[j]? = if j < (ρ 1000).i.toNat then (deadT (ρ 1).i (clock1 (m0 ρ)) (waitOf (tabOf (ρ 5).d).length) (tickTS (m0 ρ) (ρ 18).i).since (tickTS (m0 ρ) (ρ 18).i).tab)[j]? else (tickTS (m0 ρ) (ρ 18).i).tab[j]?)), mu := (fun ρ => ((ρ 3).i - (ρ 1000).i).toNat) }
end Go.Eng

set_option linter.unusedSimpArgs false
set_option linter.unusedVariables false
namespace Go.Proofs
open Go Go.Eng

def o_tick29 : Out := (.pre 0 ⟨0, [(17, (.t (.var 17))), (16, (.t (.var 16))), (12, (.t (.vslice 12 (.lit (0)) (.var 13) (.var 14) 4))), (11, (.t (.var 11))), (10, (.t (.var 10))), (9, (.t (.var 9))), (7, (.t (.var 7))), (6, (.r 6)), (4, (.t (.var 4))), (3, (.t (.var 3))), (2, (.r 2)), (1, (.t (.var 1))), (0, (.r 0))], [((.var 3), (.var 3)), ((.lit (0)), (.lit (0))), ((.lit (0)), (.lit (0))), ((.lit (0)), (.lit (0)))], [], []⟩ (.both (.post 0 0 ⟨0, [(17, (.t (.var 17))), (16, (.t (.var 16))), (12, (.t (.vslice 12 (.lit (0)) (.var 13) (.var 14) 4))), (11, (.t (.var 11))), (10, (.t (.var 10))), (9, (.t (.var 9))), (7, (.t (.var 7))), (6, (.r 6)), (4, (.t (.var 4))), (3, (.t (.var 3))), (2, (.r 2)), (1, (.t (.var 1))), (0, (.r 0))], [((.var 3), (.var 3)), ((.lit (0)), (.lit (0))), ((.lit (0)), (.lit (0))), ((.lit (0)), (.lit (0)))], [], []⟩ 19 (.ret 0 ⟨19, [], [((.var 14), (.var 14)), ((.var 7), (.var 7)), ((.var 4), (.var 4)), ((.var 16), (.var 16)), ((.var 14), (.var 14)), ((.var 13), (.var 13)), ((.lit (0)), (.lit (0))), ((.var 11), (.var 11)), ((.var 10), (.var 10)), ((.var 9), (.var 9)), ((.var 7), (.var 7)), ((.var 3), (.var 3)), ((.lit (0)), (.lit (0))), ((.var 4), (.var 4)), ((.var 3), (.var 3)), ((.lit (0)), (.lit (0))), ((.var 1), (.var 1))], [((.var 17), (.var 17))], [((.var 15), (.var 15)), ((.var 8), (.var 8)), ((.var 5), (.var 5))]⟩)) (.both (.post 0 1 ⟨0, [(17, (.t (.var 17))), (16, (.t (.var 16))), (12, (.t (.vslice 12 (.lit (0)) (.var 13) (.var 14) 4))), (11, (.t (.var 11))), (10, (.t (.var 10))), (9, (.t (.var 9))), (7, (.t (.var 7))), (6, (.r 6)), (4, (.t (.var 4))), (3, (.t (.var 3))), (2, (.r 2)), (1, (.t (.var 1))), (0, (.r 0))], [((.var 3), (.var 3)), ((.lit (0)), (.lit (0))), ((.lit (0)), (.lit (0))), ((.lit (0)), (.lit (0)))], [], []⟩ 19 (.know (.cmp .leq (.dlen (.var 15)) (.var 14)) (.need (.cmp .leq (.lit (0)) (.var 13)) (.need (.cmp .leq (.lit (0)) (.var 14)) (.inv 0 19 ⟨1000, [(1008, (.t .dnil)), (1002, (.t (.var 15))), (1004, (.t (.var 8))), (1003, (.t (.var 5))), (1009, (.t (.arith .add .u64 (.var 9) (.lit (1))))), (1000, (.t (.lit (0)))), (1001, (.t (.lit (0)))), (1007, (.t (.lit (0)))), (1006, (.t (.lit (0)))), (1005, .nil)], [((.var 1007), (.lit (0))), ((.var 14), (.var 14)), ((.var 7), (.var 7)), ((.var 4), (.var 4)), ((.var 16), (.var 16)), ((.var 14), (.var 14)), ((.var 13), (.var 13)), ((.lit (0)), (.lit (0))), ((.var 11), (.var 11)), ((.var 10), (.var 10)), ((.var 7), (.var 7)), ((.var 3), (.var 3)), ((.lit (0)), (.lit (0))), ((.var 4), (.var 4)), ((.var 3), (.var 3)), ((.lit (0)), (.lit (0))), ((.var 1), (.var 1)), ((.var 13), (.var 13)), ((.var 14), (.var 14)), ((.var 13), (.var 13)), ((.lit (0)), (.lit (0))), ((.var 14), (.var 14)), ((.lit (0)), (.lit (0))), ((.lit (0)), (.lit (0))), ((.var 18), (.var 18)), ((.lit (0)), (.lit (0)))], [((.var 17), (.var 17))], []⟩ (.fresh 19 (.fresh 20 (.fresh 21 (.fresh 22 (.fresh 23 (.fresh 24 (.fresh 25 (.fresh 26 (.fresh 27 (.fresh 28 (.hyp 0 19 (.br (.cmp .lss (.var 19) (.var 13))
 (.need (.cmp .leq (.lit (0)) (.var 19)) (.need (.cmp .lss (.var 19) (.dlen (.var 21))) (.fresh 29 (.br (.cmp .geq (.arith .sub .u64 (.var 28) (.icell (.var 21) (.var 19) 2)) (.lit (10)))
 (.need (.cmp .leq (.lit (0)) (.icell (.var 21) (.var 19) 1)) (.need (.cmp .lss (.icell (.var 21) (.var 19) 1) (.var 3)) (.need (.cmp .lss (.icell (.var 21) (.var 19) 1) (.dlen (.var 22))) (.both (.fresh 30 (.both (.br (.cmp .eql (.icell (.var 22) (.icell (.var 21) (.var 19) 1) 1) (.lit (1)))
 (.pre 1 ⟨0, [(8, (.t (.var 23))), (5, (.t (.var 22))), (17, (.t (.var 17))), (16, (.t (.var 16))), (12, (.t (.vslice 12 (.lit (0)) (.var 13) (.var 14) 4))), (11, (.t (.var 11))), (10, (.t (.var 10))), (9, (.t (.var 28))), (7, (.t (.var 7))), (6, (.r 6)), (4, (.t (.var 4))), (3, (.t (.var 3))), (2, (.r 2)), (1, (.t (.var 1))), (20, (.t (.lit (2)))), (19, (.t (.icell (.var 22) (.icell (.var 21) (.var 19) 1) 0))), (18, (.t (.icell (.var 21) (.var 19) 1))), (0, (.r 0))], [((.var 7), (.var 7)), ((.var 4), (.var 4)), ((.var 3), (.var 3)), ((.lit (0)), (.lit (0))), ((.lit (0)), (.lit (0))), ((.lit (0)), (.lit (0)))], [], []⟩ (.both (.fresh 31 (.fresh 32 (.post 1 0 ⟨0, [(8, (.t (.var 23))), (5, (.t (.var 22))), (17, (.t (.var 17))), (16, (.t (.var 16))), (12, (.t (.vslice 12 (.lit (0)) (.var 13) (.var 14) 4))), (11, (.t (.var 11))), (10, (.t (.var 10))), (9, (.t (.var 28))), (7, (.t (.var 7))), (6, (.r 6)), (4, (.t (.var 4))), (3, (.t (.var 3))), (2, (.r 2)), (1, (.t (.var 1))), (20, (.t (.lit (2)))), (19, (.t (.icell (.var 22) (.icell (.var 21) (.var 19) 1) 0))), (18, (.t (.icell (.var 21) (.var 19) 1))), (0, (.r 0))], [((.var 7), (.var 7)), ((.var 4), (.var 4)), ((.var 3), (.var 3)), ((.lit (0)), (.lit (0))), ((.lit (0)), (.lit (0))), ((.lit (0)), (.lit (0)))], [], []⟩ 31 (.back 0 19 ⟨1000, [(1008, (.t (.var 27))), (1002, (.t (.var 21))), (1004, (.t (.var 32))), (1003, (.t (.var 31))), (1009, (.t (.var 28))), (1000, (.t (.arith .add .i64 (.var 19) (.lit (1))))), (1001, (.t (.var 20))), (1007, (.t (.var 26))), (1006, (.t (.var 25))), (1005, (.r 24))], [((.var 1007), (.var 26)), ((.var 14), (.var 14)), ((.var 7), (.var 7)), ((.var 4), (.var 4)), ((.var 16), (.var 16)), ((.var 14), (.var 14)), ((.var 13), (.var 13)), ((.lit (0)), (.lit (0))), ((.var 11), (.var 11)), ((.var 10), (.var 10)), ((.var 7), (.var 7)), ((.var 3), (.var 3)), ((.lit (0)), (.lit (0))), ((.var 4), (.var 4)), ((.var 3), (.var 3)), ((.lit (0)), (.lit (0))), ((.var 1), (.var 1)), ((.var 13), (.var 13)), ((.var 14), (.var 14)), ((.var 13), (.var 13)), ((.lit (0)), (.lit (0))), ((.var 14), (.var 14)), ((.lit (0)), (.lit (0))), ((.lit (0)), (.lit (0))), ((.var 18), (.var 18)), ((.lit (0)), (.lit (0)))], [((.var 17), (.var 17))], []⟩)))) .top))
 (.back 0 19 ⟨1000, [(1008, (.t (.var 27))), (1002, (.t (.var 21))), (1004, (.t (.var 23))), (1003, (.t (.var 22))), (1009, (.t (.var 28))), (1000, (.t (.arith .add .i64 (.var 19) (.lit (1))))), (1001, (.t (.var 20))), (1007, (.t (.var 26))), (1006, (.t (.var 25))), (1005, (.r 24))], [((.var 1007), (.var 26)), ((.var 14), (.var 14)), ((.var 7), (.var 7)), ((.var 4), (.var 4)), ((.var 16), (.var 16)), ((.var 14), (.var 14)), ((.var 13), (.var 13)), ((.lit (0)), (.lit (0))), ((.var 11), (.var 11)), ((.var 10), (.var 10)), ((.var 7), (.var 7)), ((.var 3), (.var 3)), ((.lit (0)), (.lit (0))), ((.var 4), (.var 4)), ((.var 3), (.var 3)), ((.lit (0)), (.lit (0))), ((.var 1), (.var 1)), ((.var 13), (.var 13)), ((.var 14), (.var 14)), ((.var 13), (.var 13)), ((.lit (0)), (.lit (0))), ((.var 14), (.var 14)), ((.lit (0)), (.lit (0))), ((.lit (0)), (.lit (0))), ((.var 18), (.var 18)), ((.lit (0)), (.lit (0)))], [((.var 17), (.var 17))], []⟩)) .top)) .top))))
 (.br (.cmp .geq (.arith .sub .u64 (.var 28) (.icell (.var 21) (.var 19) 2)) (.lit (4)))
 (.br (.not (.bcell (.var 21) (.var 19) 3))
 (.pre 2 ⟨0, [(5, (.t (.var 22))), (17, (.t (.var 17))), (16, (.t (.var 16))), (12, (.t (.vslice 12 (.lit (0)) (.var 13) (.var 14) 4))), (11, (.t (.var 11))), (10, (.t (.var 10))), (9, (.t (.var 28))), (7, (.t (.var 7))), (6, (.r 6)), (4, (.t (.var 4))), (3, (.t (.var 3))), (2, (.r 2)), (1, (.t (.var 1))), (22, (.t (.var 18))), (21, (.t (.bl true))), (20, (.t (.icell (.var 21) (.var 19) 2))), (19, (.t (.icell (.var 21) (.var 19) 1))), (18, (.t (.icell (.var 21) (.var 19) 0))), (0, (.r 0))], [((.var 4), (.var 4)), ((.var 3), (.var 3)), ((.lit (0)), (.lit (0))), ((.lit (0)), (.lit (0))), ((.lit (0)), (.lit (0)))], [], []⟩ (.both (.fresh 30 (.fresh 31 (.fresh 32 (.fresh 33 (.post 2 0 ⟨0, [(5, (.t (.var 22))), (17, (.t (.var 17))), (16, (.t (.var 16))), (12, (.t (.vslice 12 (.lit (0)) (.var 13) (.var 14) 4))), (11, (.t (.var 11))), (10, (.t (.var 10))), (9, (.t (.var 28))), (7, (.t (.var 7))), (6, (.r 6)), (4, (.t (.var 4))), (3, (.t (.var 3))), (2, (.r 2)), (1, (.t (.var 1))), (22, (.t (.var 18))), (21, (.t (.bl true))), (20, (.t (.icell (.var 21) (.var 19) 2))), (19, (.t (.icell (.var 21) (.var 19) 1))), (18, (.t (.icell (.var 21) (.var 19) 0))), (0, (.r 0))], [((.var 4), (.var 4)), ((.var 3), (.var 3)), ((.lit (0)), (.lit (0))), ((.lit (0)), (.lit (0))), ((.lit (0)), (.lit (0)))], [], []⟩ 30 (.need (.cmp .eql (.var 25) (.dlen (.var 27))) (.need (.cmp .leq (.lit (0)) (.var 33)) (.need (.cmp .leq (.var 33) (.dlen (.var 32))) (.need (.cmp .leq (.tims (.lit (352)) (.plus (.var 25) (.var 33))) (.lit (140737488355328))) (.fresh 34 (.fresh 35 (.fresh 36 (.know (.cmp .leq (.dlen (.var 21)) (.var 14)) (.need (.cmp .leq (.plus (.var 20) (.lit (1))) (.var 14)) (.need (.cmp .leq (.lit (0)) (.var 20)) (.need (.cmp .lss (.var 20) (.dlen (.var 21))) (.fresh 37 (.back 0 19 ⟨1000, [(1008, (.t (.dapp (.var 27) (.dtake (.var 32) (.var 33))))), (1002, (.t (.dput (.var 21) (.var 20) 0 (.rcons (.vint .u64 (.icell (.var 21) (.var 19) 0)) (.rcons (.vint .i64 (.icell (.var 21) (.var 19) 1)) (.rcons (.vint .u64 (.icell (.var 21) (.var 19) 2)) (.rcons (.vbool (.bl true)) .rnil))))))), (1004, (.t (.var 23))), (1003, (.t (.var 22))), (1009, (.t (.var 28))), (1000, (.t (.arith .add .i64 (.var 19) (.lit (1))))), (1001, (.t (.plus (.var 20) (.lit (1))))), (1007, (.t (.var 35))), (1006, (.t (.plus (.var 25) (.var 33)))), (1005, (.r 34))], [((.var 1007), (.var 35)), ((.var 14), (.var 14)), ((.var 7), (.var 7)), ((.var 4), (.var 4)), ((.var 16), (.var 16)), ((.var 14), (.var 14)), ((.var 13), (.var 13)), ((.lit (0)), (.lit (0))), ((.var 11), (.var 11)), ((.var 10), (.var 10)), ((.var 7), (.var 7)), ((.var 3), (.var 3)), ((.lit (0)), (.lit (0))), ((.var 4), (.var 4)), ((.var 3), (.var 3)), ((.lit (0)), (.lit (0))), ((.var 1), (.var 1)), ((.var 13), (.var 13)), ((.var 14), (.var 14)), ((.var 13), (.var 13)), ((.lit (0)), (.lit (0))), ((.var 14), (.var 14)), ((.lit (0)), (.lit (0))), ((.lit (0)), (.lit (0))), ((.var 18), (.var 18)), ((.lit (0)), (.lit (0)))], [((.var 17), (.var 17))], []⟩)))))))))))))))))) .top))
 (.fresh 30 (.know (.cmp .leq (.dlen (.var 21)) (.var 14)) (.need (.cmp .leq (.plus (.var 20) (.lit (1))) (.var 14)) (.need (.cmp .leq (.lit (0)) (.var 20)) (.need (.cmp .lss (.var 20) (.dlen (.var 21))) (.fresh 31 (.back 0 19 ⟨1000, [(1008, (.t (.var 27))), (1002, (.t (.dput (.var 21) (.var 20) 0 (.rcons (.vint .u64 (.icell (.var 21) (.var 19) 0)) (.rcons (.vint .i64 (.icell (.var 21) (.var 19) 1)) (.rcons (.vint .u64 (.icell (.var 21) (.var 19) 2)) (.rcons (.vbool (.bcell (.var 21) (.var 19) 3)) .rnil))))))), (1004, (.t (.var 23))), (1003, (.t (.var 22))), (1009, (.t (.var 28))), (1000, (.t (.arith .add .i64 (.var 19) (.lit (1))))), (1001, (.t (.plus (.var 20) (.lit (1))))), (1007, (.t (.var 26))), (1006, (.t (.var 25))), (1005, (.r 24))], [((.var 1007), (.var 26)), ((.var 14), (.var 14)), ((.var 7), (.var 7)), ((.var 4), (.var 4)), ((.var 16), (.var 16)), ((.var 14), (.var 14)), ((.var 13), (.var 13)), ((.lit (0)), (.lit (0))), ((.var 11), (.var 11)), ((.var 10), (.var 10)), ((.var 7), (.var 7)), ((.var 3), (.var 3)), ((.lit (0)), (.lit (0))), ((.var 4), (.var 4)), ((.var 3), (.var 3)), ((.lit (0)), (.lit (0))), ((.var 1), (.var 1)), ((.var 13), (.var 13)), ((.var 14), (.var 14)), ((.var 13), (.var 13)), ((.lit (0)), (.lit (0))), ((.var 14), (.var 14)), ((.lit (0)), (.lit (0))), ((.lit (0)), (.lit (0))), ((.var 18), (.var 18)), ((.lit (0)), (.lit (0)))], [((.var 17), (.var 17))], []⟩))))))))
 (.fresh 30 (.know (.cmp .leq (.dlen (.var 21)) (.var 14)) (.need (.cmp .leq (.plus (.var 20) (.lit (1))) (.var 14)) (.need (.cmp .leq (.lit (0)) (.var 20)) (.need (.cmp .lss (.var 20) (.dlen (.var 21))) (.fresh 31 (.back 0 19 ⟨1000, [(1008, (.t (.var 27))), (1002, (.t (.dput (.var 21) (.var 20) 0 (.rcons (.vint .u64 (.icell (.var 21) (.var 19) 0)) (.rcons (.vint .i64 (.icell (.var 21) (.var 19) 1)) (.rcons (.vint .u64 (.icell (.var 21) (.var 19) 2)) (.rcons (.vbool (.bcell (.var 21) (.var 19) 3)) .rnil))))))), (1004, (.t (.var 23))), (1003, (.t (.var 22))), (1009, (.t (.var 28))), (1000, (.t (.arith .add .i64 (.var 19) (.lit (1))))), (1001, (.t (.plus (.var 20) (.lit (1))))), (1007, (.t (.var 26))), (1006, (.t (.var 25))), (1005, (.r 24))], [((.var 1007), (.var 26)), ((.var 14), (.var 14)), ((.var 7), (.var 7)), ((.var 4), (.var 4)), ((.var 16), (.var 16)), ((.var 14), (.var 14)), ((.var 13), (.var 13)), ((.lit (0)), (.lit (0))), ((.var 11), (.var 11)), ((.var 10), (.var 10)), ((.var 7), (.var 7)), ((.var 3), (.var 3)), ((.lit (0)), (.lit (0))), ((.var 4), (.var 4)), ((.var 3), (.var 3)), ((.lit (0)), (.lit (0))), ((.var 1), (.var 1)), ((.var 13), (.var 13)), ((.var 14), (.var 14)), ((.var 13), (.var 13)), ((.lit (0)), (.lit (0))), ((.var 14), (.var 14)), ((.lit (0)), (.lit (0))), ((.lit (0)), (.lit (0))), ((.var 18), (.var 18)), ((.lit (0)), (.lit (0)))], [((.var 17), (.var 17))], []⟩))))))))))))
 (.need (.cmp .leq (.lit (0)) (.var 3)) (.pre 3 ⟨0, [(0, (.t (.var 3)))], [], [], []⟩ (.both (.fresh 29 (.post 3 0 ⟨0, [(0, (.t (.var 3)))], [], [], []⟩ 29 (.inv 1 30 ⟨1000, [(1008, (.t (.var 27))), (1004, (.t (.var 21))), (1003, (.t (.var 23))), (1001, (.t (.var 22))), (1010, (.t (.var 28))), (1000, (.t (.lit (0)))), (1009, (.t (.conv .u64 (.var 29)))), (1002, (.t (.var 20))), (1007, (.t (.var 26))), (1006, (.t (.var 25))), (1005, (.r 24))], [((.var 1007), (.var 26)), ((.var 14), (.var 14)), ((.var 7), (.var 7)), ((.var 4), (.var 4)), ((.var 16), (.var 16)), ((.var 14), (.var 14)), ((.var 13), (.var 13)), ((.lit (0)), (.lit (0))), ((.var 11), (.var 11)), ((.var 10), (.var 10)), ((.var 7), (.var 7)), ((.var 3), (.var 3)), ((.lit (0)), (.lit (0))), ((.var 4), (.var 4)), ((.var 3), (.var 3)), ((.lit (0)), (.lit (0))), ((.var 1), (.var 1)), ((.var 3), (.var 3)), ((.var 4), (.var 4)), ((.var 3), (.var 3)), ((.lit (0)), (.lit (0))), ((.var 14), (.var 14)), ((.lit (0)), (.lit (0))), ((.lit (0)), (.lit (0))), ((.lit (0)), (.lit (0)))], [((.var 17), (.var 17))], []⟩ (.fresh 30 (.fresh 31 (.fresh 32 (.fresh 33 (.fresh 34 (.fresh 35 (.fresh 36 (.fresh 37 (.fresh 38 (.fresh 39 (.fresh 40 (.hyp 1 30 (.br (.cmp .lss (.var 30) (.var 3))
 (.need (.cmp .leq (.lit (0)) (.var 30)) (.need (.cmp .lss (.var 30) (.dlen (.var 31))) (.fresh 41 (.br (.cmp .neq (.var 30) (.var 1))
 (.br (.cmp .eql (.icell (.var 31) (.var 30) 1) (.lit (2)))
 (.need (.cmp .lss (.var 30) (.dlen (.var 33))) (.br (.cmp .geq (.arith .sub .u64 (.var 40) (.icell (.var 33) (.var 30) 0)) (.var 39))
 (.back 1 30 ⟨1000, [(1008, (.t (.var 38))), (1004, (.t (.var 34))), (1003, (.t (.var 33))), (1001, (.t (.dput (.var 31) (.var 30) 1 (.rcons (.vint .u8 (.lit (3))) .rnil)))), (1010, (.t (.var 40))), (1000, (.t (.arith .add .i64 (.var 30) (.lit (1))))), (1009, (.t (.var 39))), (1002, (.t (.var 32))), (1007, (.t (.var 37))), (1006, (.t (.var 36))), (1005, (.r 35))], [((.var 1007), (.var 37)), ((.var 14), (.var 14)), ((.var 7), (.var 7)), ((.var 4), (.var 4)), ((.var 16), (.var 16)), ((.var 14), (.var 14)), ((.var 13), (.var 13)), ((.lit (0)), (.lit (0))), ((.var 11), (.var 11)), ((.var 10), (.var 10)), ((.var 7), (.var 7)), ((.var 3), (.var 3)), ((.lit (0)), (.lit (0))), ((.var 4), (.var 4)), ((.var 3), (.var 3)), ((.lit (0)), (.lit (0))), ((.var 1), (.var 1)), ((.var 3), (.var 3)), ((.var 4), (.var 4)), ((.var 3), (.var 3)), ((.lit (0)), (.lit (0))), ((.var 14), (.var 14)), ((.lit (0)), (.lit (0))), ((.lit (0)), (.lit (0))), ((.lit (0)), (.lit (0)))], [((.var 17), (.var 17))], []⟩)
 (.back 1 30 ⟨1000, [(1008, (.t (.var 38))), (1004, (.t (.var 34))), (1003, (.t (.var 33))), (1001, (.t (.var 31))), (1010, (.t (.var 40))), (1000, (.t (.arith .add .i64 (.var 30) (.lit (1))))), (1009, (.t (.var 39))), (1002, (.t (.var 32))), (1007, (.t (.var 37))), (1006, (.t (.var 36))), (1005, (.r 35))], [((.var 1007), (.var 37)), ((.var 14), (.var 14)), ((.var 7), (.var 7)), ((.var 4), (.var 4)), ((.var 16), (.var 16)), ((.var 14), (.var 14)), ((.var 13), (.var 13)), ((.lit (0)), (.lit (0))), ((.var 11), (.var 11)), ((.var 10), (.var 10)), ((.var 7), (.var 7)), ((.var 3), (.var 3)), ((.lit (0)), (.lit (0))), ((.var 4), (.var 4)), ((.var 3), (.var 3)), ((.lit (0)), (.lit (0))), ((.var 1), (.var 1)), ((.var 3), (.var 3)), ((.var 4), (.var 4)), ((.var 3), (.var 3)), ((.lit (0)), (.lit (0))), ((.var 14), (.var 14)), ((.lit (0)), (.lit (0))), ((.lit (0)), (.lit (0))), ((.lit (0)), (.lit (0)))], [((.var 17), (.var 17))], []⟩)))
 (.back 1 30 ⟨1000, [(1008, (.t (.var 38))), (1004, (.t (.var 34))), (1003, (.t (.var 33))), (1001, (.t (.var 31))), (1010, (.t (.var 40))), (1000, (.t (.arith .add .i64 (.var 30) (.lit (1))))), (1009, (.t (.var 39))), (1002, (.t (.var 32))), (1007, (.t (.var 37))), (1006, (.t (.var 36))), (1005, (.r 35))], [((.var 1007), (.var 37)), ((.var 14), (.var 14)), ((.var 7), (.var 7)), ((.var 4), (.var 4)), ((.var 16), (.var 16)), ((.var 14), (.var 14)), ((.var 13), (.var 13)), ((.lit (0)), (.lit (0))), ((.var 11), (.var 11)), ((.var 10), (.var 10)), ((.var 7), (.var 7)), ((.var 3), (.var 3)), ((.lit (0)), (.lit (0))), ((.var 4), (.var 4)), ((.var 3), (.var 3)), ((.lit (0)), (.lit (0))), ((.var 1), (.var 1)), ((.var 3), (.var 3)), ((.var 4), (.var 4)), ((.var 3), (.var 3)), ((.lit (0)), (.lit (0))), ((.var 14), (.var 14)), ((.lit (0)), (.lit (0))), ((.lit (0)), (.lit (0))), ((.lit (0)), (.lit (0)))], [((.var 17), (.var 17))], []⟩))
 (.back 1 30 ⟨1000, [(1008, (.t (.var 38))), (1004, (.t (.var 34))), (1003, (.t (.var 33))), (1001, (.t (.var 31))), (1010, (.t (.var 40))), (1000, (.t (.arith .add .i64 (.var 30) (.lit (1))))), (1009, (.t (.var 39))), (1002, (.t (.var 32))), (1007, (.t (.var 37))), (1006, (.t (.var 36))), (1005, (.r 35))], [((.var 1007), (.var 37)), ((.var 14), (.var 14)), ((.var 7), (.var 7)), ((.var 4), (.var 4)), ((.var 16), (.var 16)), ((.var 14), (.var 14)), ((.var 13), (.var 13)), ((.lit (0)), (.lit (0))), ((.var 11), (.var 11)), ((.var 10), (.var 10)), ((.var 7), (.var 7)), ((.var 3), (.var 3)), ((.lit (0)), (.lit (0))), ((.var 4), (.var 4)), ((.var 3), (.var 3)), ((.lit (0)), (.lit (0))), ((.var 1), (.var 1)), ((.var 3), (.var 3)), ((.var 4), (.var 4)), ((.var 3), (.var 3)), ((.lit (0)), (.lit (0))), ((.var 14), (.var 14)), ((.lit (0)), (.lit (0))), ((.lit (0)), (.lit (0))), ((.lit (0)), (.lit (0)))], [((.var 17), (.var 17))], []⟩)))))
 (.pre 4 ⟨0, [(17, (.t (.var 17))), (16, (.t (.var 16))), (12, (.t (.vslice 12 (.lit (0)) (.var 13) (.var 14) 4))), (11, (.t (.var 11))), (10, (.t (.var 10))), (9, (.t (.var 40))), (7, (.t (.var 7))), (6, (.r 6)), (4, (.t (.var 4))), (3, (.t (.var 3))), (2, (.r 2)), (1, (.t (.var 1))), (0, (.r 0))], [((.var 3), (.var 3)), ((.lit (0)), (.lit (0))), ((.lit (0)), (.lit (0))), ((.lit (0)), (.lit (0)))], [], []⟩ (.both (.fresh 41 (.post 4 0 ⟨0, [(17, (.t (.var 17))), (16, (.t (.var 16))), (12, (.t (.vslice 12 (.lit (0)) (.var 13) (.var 14) 4))), (11, (.t (.var 11))), (10, (.t (.var 10))), (9, (.t (.var 40))), (7, (.t (.var 7))), (6, (.r 6)), (4, (.t (.var 4))), (3, (.t (.var 3))), (2, (.r 2)), (1, (.t (.var 1))), (0, (.r 0))], [((.var 3), (.var 3)), ((.lit (0)), (.lit (0))), ((.lit (0)), (.lit (0))), ((.lit (0)), (.lit (0)))], [], []⟩ 41 (.both (.fresh 42 (.both (.need (.cmp .eql (.var 32) (.dlen (.dtake (.var 34) (.var 32)))) (.need (.cmp .leq (.tims (.lit (32)) (.plus (.var 32) (.lit (1)))) (.lit (140737488355328))) (.fresh 43 (.fresh 44 (.both (.both (.both (.both (.fresh 45 (.both (.need (.cmp .eql (.var 36) (.dlen (.var 38))) (.need (.cmp .leq (.tims (.lit (352)) (.plus (.var 36) (.lit (1)))) (.lit (140737488355328))) (.fresh 46 (.fresh 47 (.both (.pre 5 ⟨0, [(5, (.t (.var 31))), (17, (.t (.var 17))), (16, (.t (.var 16))), (12, (.t (.vslice 43 (.lit (0)) (.plus (.var 32) (.lit (1))) (.var 44) 4))), (11, (.t (.var 41))), (10, (.t (.arith .add .u64 (.var 10) (.lit (1))))), (9, (.t (.var 40))), (7, (.t (.var 7))), (6, (.r 6)), (4, (.t (.var 4))), (3, (.t (.var 3))), (2, (.r 2)), (1, (.t (.var 1))), (21, (.t (.dapp (.var 38) (.rcons (.vint .u8 (.lit (1))) (.rcons (.vint .i64 (.lit (0))) (.rcons (.vint .i64 (.var 41)) (.rcons (.vint .u64 (.arith .add .u64 (.var 10) (.lit (1)))) (.rcons (.vint .i64 (.var 1)) (.rcons (.vint .i64 (.lit (0))) (.rcons .vnils (.rcons .vnils (.rcons .vnils (.rcons (.vint .i64 (.lit (0))) (.rcons (.vint .u8 (.lit (0))) (.rcons (.vint .u8 (.lit (0))) (.rcons (.vint .u8 (.lit (0))) (.rcons (.vint .u8 (.lit (0))) (.rcons (.vint .u8 (.lit (0))) (.rcons (.vint .u8 (.lit (0))) (.rcons (.vint .u8 (.lit (0))) (.rcons (.vint .u8 (.lit (0))) (.rcons (.vint .u8 (.lit (0))) (.rcons (.vint .u8 (.lit (0))) (.rcons (.vint .u8 (.lit (0))) (.rcons (.vint .u8 (.lit (0))) (.rcons (.vint .u8 (.lit (0))) (.rcons (.vint .u8 (.lit (0))) (.rcons (.vint .u8 (.lit (0))) (.rcons (.vint .u8 (.lit (0))) (.rcons (.vint .u8 (.lit (0))) (.rcons (.vint .u8 (.lit (0))) (.rcons (.vint .u8 (.lit (0))) (.rcons (.vint .u8 (.lit (0))) (.rcons (.vint .u8 (.lit (0))) (.rcons (.vint .u8 (.lit (0))) (.rcons (.vint .u8 (.lit (0))) (.rcons (.vint .u8 (.lit (0))) (.rcons (.vint .u8 (.lit (0))) (.rcons (.vint .u8 (.lit (0))) (.rcons (.vint .u8 (.lit (0))) (.rcons (.vint .u8 (.lit (0))) (.rcons (.vint .u8 (.lit (0))) (.rcons (.vint .u8 (.lit (0))) (.rcons (.vint .u8 (.lit (0))) (.rcons (.vint .u8 (.lit (0))) (.rcons .vnils (.rcons (.vbool (.bl false)) (.rcons (.vint .u8 (.lit (0))) (.rcons (.vint .u8 (.lit (0))) (.rcons (.vint .u8 (.lit (0))) (.rcons (.vint .u8 (.lit (0))) (.rcons (.vint .u8 (.lit (0))) (.rcons (.vint .u8 (.lit (0))) (.rcons (.vint .u8 (.lit (0))) (.rcons (.vint .u8 (.lit (0))) (.rcons (.vint .u8 (.lit (0))) (.rcons (.vint .u8 (.lit (0))) (.rcons (.vint .u8 (.lit (0))) (.rcons (.vint .u8 (.lit (0))) (.rcons (.vint .u8 (.lit (0))) (.rcons (.vint .u8 (.lit (0))) (.rcons (.vint .u8 (.lit (0))) (.rcons (.vint .u8 (.lit (0))) (.rcons (.vint .u8 (.lit (0))) (.rcons (.vint .u8 (.lit (0))) (.rcons (.vint .u8 (.lit (0))) (.rcons (.vint .u8 (.lit (0))) (.rcons (.vint .u8 (.lit (0))) (.rcons (.vint .u8 (.lit (0))) (.rcons (.vint .u8 (.lit (0))) (.rcons (.vint .u8 (.lit (0))) (.rcons (.vint .u8 (.lit (0))) (.rcons (.vint .u8 (.lit (0))) (.rcons (.vint .u8 (.lit (0))) (.rcons (.vint .u8 (.lit (0))) (.rcons (.vint .u8 (.lit (0))) (.rcons (.vint .u8 (.lit (0))) (.rcons (.vint .u8 (.lit (0))) (.rcons (.vint .u8 (.lit (0))) (.rcons (.vint .i64 (.lit (0))) (.rcons (.vint .i64 (.lit (0))) (.rcons (.vint .i64 (.lit (0))) (.rcons (.vint .i64 (.lit (0))) (.rcons (.vint .u8 (.lit (0))) (.rcons (.vint .u8 (.lit (0))) (.rcons (.vint .u8 (.lit (0))) (.rcons (.vint .u8 (.lit (0))) (.rcons (.vint .u8 (.lit (0))) (.rcons (.vint .u8 (.lit (0))) (.rcons (.vint .u8 (.lit (0))) (.rcons (.vint .u8 (.lit (0))) (.rcons (.vint .u8 (.lit (0))) (.rcons (.vint .u8 (.lit (0))) (.rcons (.vint .u8 (.lit (0))) (.rcons (.vint .u8 (.lit (0))) (.rcons (.vint .u8 (.lit (0))) (.rcons (.vint .u8 (.lit (0))) (.rcons (.vint .u8 (.lit (0))) (.rcons (.vint .u8 (.lit (0))) (.rcons (.vint .u8 (.lit (0))) (.rcons (.vint .u8 (.lit (0))) (.rcons (.vint .u8 (.lit (0))) (.rcons (.vint .u8 (.lit (0))) (.rcons (.vint .u8 (.lit (0))) (.rcons (.vint .u8 (.lit (0))) (.rcons (.vint .u8 (.lit (0))) (.rcons (.vint .u8 (.lit (0))) (.rcons (.vint .u8 (.lit (0))) (.rcons (.vint .u8 (.lit (0))) (.rcons (.vint .u8 (.lit (0))) (.rcons (.vint .u8 (.lit (0))) (.rcons (.vint .u8 (.lit (0))) (.rcons (.vint .u8 (.lit (0))) (.rcons (.vint .u8 (.lit (0))) (.rcons (.vint .u8 (.lit (0))) (.rcons .vnils (.rcons (.vint .i64 (.lit (0))) (.rcons .vnils (.rcons (.vint .i64 (.lit (0))) .rnil))))))))))))))))))))))))))))))))))))))))))))))))))))))))))))))))))))))))))))))))))))))))))))))))))))))))))))))))))))))), (20, (.t (.var 47))), (19, (.t (.plus (.var 36) (.lit (1))))), (18, (.r 46)), (0, (.r 0))], [((.var 4), (.var 4)), ((.var 3), (.var 3)), ((.lit (0)), (.lit (0))), ((.lit (0)), (.lit (0))), ((.var 20), (.var 47)), ((.lit (0)), (.lit (0))), ((.lit (0)), (.lit (0)))], [], []⟩ (.both (.fresh 48 (.fresh 49 (.post 5 0 ⟨0, [(5, (.t (.var 31))), (17, (.t (.var 17))), (16, (.t (.var 16))), (12, (.t (.vslice 43 (.lit (0)) (.plus (.var 32) (.lit (1))) (.var 44) 4))), (11, (.t (.var 41))), (10, (.t (.arith .add .u64 (.var 10) (.lit (1))))), (9, (.t (.var 40))), (7, (.t (.var 7))), (6, (.r 6)), (4, (.t (.var 4))), (3, (.t (.var 3))), (2, (.r 2)), (1, (.t (.var 1))), (21, (.t (.dapp (.var 38) (.rcons (.vint .u8 (.lit (1))) (.rcons (.vint .i64 (.lit (0))) (.rcons (.vint .i64 (.var 41)) (.rcons (.vint .u64 (.arith .add .u64 (.var 10) (.lit (1)))) (.rcons (.vint .i64 (.var 1)) (.rcons (.vint .i64 (.lit (0))) (.rcons .vnils (.rcons .vnils (.rcons .vnils (.rcons (.vint .i64 (.lit (0))) (.rcons (.vint .u8 (.lit (0))) (.rcons (.vint .u8 (.lit (0))) (.rcons (.vint .u8 (.lit (0))) (.rcons (.vint .u8 (.lit (0))) (.rcons (.vint .u8 (.lit (0))) (.rcons (.vint .u8 (.lit (0))) (.rcons (.vint .u8 (.lit (0))) (.rcons (.vint .u8 (.lit (0))) (.rcons (.vint .u8 (.lit (0))) (.rcons (.vint .u8 (.lit (0))) (.rcons (.vint .u8 (.lit (0))) (.rcons (.vint .u8 (.lit (0))) (.rcons (.vint .u8 (.lit (0))) (.rcons (.vint .u8 (.lit (0))) (.rcons (.vint .u8 (.lit (0))) (.rcons (.vint .u8 (.lit (0))) (.rcons (.vint .u8 (.lit (0))) (.rcons (.vint .u8 (.lit (0))) (.rcons (.vint .u8 (.lit (0))) (.rcons (.vint .u8 (.lit (0))) (.rcons (.vint .u8 (.lit (0))) (.rcons (.vint .u8 (.lit (0))) (.rcons (.vint .u8 (.lit (0))) (.rcons (.vint .u8 (.lit (0))) (.rcons (.vint .u8 (.lit (0))) (.rcons (.vint .u8 (.lit (0))) (.rcons (.vint .u8 (.lit (0))) (.rcons (.vint .u8 (.lit (0))) (.rcons (.vint .u8 (.lit (0))) (.rcons (.vint .u8 (.lit (0))) (.rcons (.vint .u8 (.lit (0))) (.rcons (.vint .u8 (.lit (0))) (.rcons .vnils (.rcons (.vbool (.bl false)) (.rcons (.vint .u8 (.lit (0))) (.rcons (.vint .u8 (.lit (0))) (.rcons (.vint .u8 (.lit (0))) (.rcons (.vint .u8 (.lit (0))) (.rcons (.vint .u8 (.lit (0))) (.rcons (.vint .u8 (.lit (0))) (.rcons (.vint .u8 (.lit (0))) (.rcons (.vint .u8 (.lit (0))) (.rcons (.vint .u8 (.lit (0))) (.rcons (.vint .u8 (.lit (0))) (.rcons (.vint .u8 (.lit (0))) (.rcons (.vint .u8 (.lit (0))) (.rcons (.vint .u8 (.lit (0))) (.rcons (.vint .u8 (.lit (0))) (.rcons (.vint .u8 (.lit (0))) (.rcons (.vint .u8 (.lit (0))) (.rcons (.vint .u8 (.lit (0))) (.rcons (.vint .u8 (.lit (0))) (.rcons (.vint .u8 (.lit (0))) (.rcons (.vint .u8 (.lit (0))) (.rcons (.vint .u8 (.lit (0))) (.rcons (.vint .u8 (.lit (0))) (.rcons (.vint .u8 (.lit (0))) (.rcons (.vint .u8 (.lit (0))) (.rcons (.vint .u8 (.lit (0))) (.rcons (.vint .u8 (.lit (0))) (.rcons (.vint .u8 (.lit (0))) (.rcons (.vint .u8 (.lit (0))) (.rcons (.vint .u8 (.lit (0))) (.rcons (.vint .u8 (.lit (0))) (.rcons (.vint .u8 (.lit (0))) (.rcons (.vint .u8 (.lit (0))) (.rcons (.vint .i64 (.lit (0))) (.rcons (.vint .i64 (.lit (0))) (.rcons (.vint .i64 (.lit (0))) (.rcons (.vint .i64 (.lit (0))) (.rcons (.vint .u8 (.lit (0))) (.rcons (.vint .u8 (.lit (0))) (.rcons (.vint .u8 (.lit (0))) (.rcons (.vint .u8 (.lit (0))) (.rcons (.vint .u8 (.lit (0))) (.rcons (.vint .u8 (.lit (0))) (.rcons (.vint .u8 (.lit (0))) (.rcons (.vint .u8 (.lit (0))) (.rcons (.vint .u8 (.lit (0))) (.rcons (.vint .u8 (.lit (0))) (.rcons (.vint .u8 (.lit (0))) (.rcons (.vint .u8 (.lit (0))) (.rcons (.vint .u8 (.lit (0))) (.rcons (.vint .u8 (.lit (0))) (.rcons (.vint .u8 (.lit (0))) (.rcons (.vint .u8 (.lit (0))) (.rcons (.vint .u8 (.lit (0))) (.rcons (.vint .u8 (.lit (0))) (.rcons (.vint .u8 (.lit (0))) (.rcons (.vint .u8 (.lit (0))) (.rcons (.vint .u8 (.lit (0))) (.rcons (.vint .u8 (.lit (0))) (.rcons (.vint .u8 (.lit (0))) (.rcons (.vint .u8 (.lit (0))) (.rcons (.vint .u8 (.lit (0))) (.rcons (.vint .u8 (.lit (0))) (.rcons (.vint .u8 (.lit (0))) (.rcons (.vint .u8 (.lit (0))) (.rcons (.vint .u8 (.lit (0))) (.rcons (.vint .u8 (.lit (0))) (.rcons (.vint .u8 (.lit (0))) (.rcons (.vint .u8 (.lit (0))) (.rcons .vnils (.rcons (.vint .i64 (.lit (0))) (.rcons .vnils (.rcons (.vint .i64 (.lit (0))) .rnil))))))))))))))))))))))))))))))))))))))))))))))))))))))))))))))))))))))))))))))))))))))))))))))))))))))))))))))))))))))), (20, (.t (.var 47))), (19, (.t (.plus (.var 36) (.lit (1))))), (18, (.r 46)), (0, (.r 0))], [((.var 4), (.var 4)), ((.var 3), (.var 3)), ((.lit (0)), (.lit (0))), ((.lit (0)), (.lit (0))), ((.var 20), (.var 47)), ((.lit (0)), (.lit (0))), ((.lit (0)), (.lit (0)))], [], []⟩ 48 (.pack [.abs 49 2, .cells 45 43 [(.vint .u8 (.lit (1))), (.vint .i64 (.lit (0))), (.vint .i64 (.var 41)), (.vint .u64 (.arith .add .u64 (.var 10) (.lit (1)))), (.vint .i64 (.var 1)), (.vint .i64 (.lit (0))), .vnils, .vnils, .vnils, (.vint .i64 (.lit (0))), (.vint .u8 (.lit (0))), (.vint .u8 (.lit (0))), (.vint .u8 (.lit (0))), (.vint .u8 (.lit (0))), (.vint .u8 (.lit (0))), (.vint .u8 (.lit (0))), (.vint .u8 (.lit (0))), (.vint .u8 (.lit (0))), (.vint .u8 (.lit (0))), (.vint .u8 (.lit (0))), (.vint .u8 (.lit (0))), (.vint .u8 (.lit (0))), (.vint .u8 (.lit (0))), (.vint .u8 (.lit (0))), (.vint .u8 (.lit (0))), (.vint .u8 (.lit (0))), (.vint .u8 (.lit (0))), (.vint .u8 (.lit (0))), (.vint .u8 (.lit (0))), (.vint .u8 (.lit (0))), (.vint .u8 (.lit (0))), (.vint .u8 (.lit (0))), (.vint .u8 (.lit (0))), (.vint .u8 (.lit (0))), (.vint .u8 (.lit (0))), (.vint .u8 (.lit (0))), (.vint .u8 (.lit (0))), (.vint .u8 (.lit (0))), (.vint .u8 (.lit (0))), (.vint .u8 (.lit (0))), (.vint .u8 (.lit (0))), (.vint .u8 (.lit (0))), .vnils, (.vbool (.bl false)), (.vint .u8 (.lit (0))), (.vint .u8 (.lit (0))), (.vint .u8 (.lit (0))), (.vint .u8 (.lit (0))), (.vint .u8 (.lit (0))), (.vint .u8 (.lit (0))), (.vint .u8 (.lit (0))), (.vint .u8 (.lit (0))), (.vint .u8 (.lit (0))), (.vint .u8 (.lit (0))), (.vint .u8 (.lit (0))), (.vint .u8 (.lit (0))), (.vint .u8 (.lit (0))), (.vint .u8 (.lit (0))), (.vint .u8 (.lit (0))), (.vint .u8 (.lit (0))), (.vint .u8 (.lit (0))), (.vint .u8 (.lit (0))), (.vint .u8 (.lit (0))), (.vint .u8 (.lit (0))), (.vint .u8 (.lit (0))), (.vint .u8 (.lit (0))), (.vint .u8 (.lit (0))), (.vint .u8 (.lit (0))), (.vint .u8 (.lit (0))), (.vint .u8 (.lit (0))), (.vint .u8 (.lit (0))), (.vint .u8 (.lit (0))), (.vint .u8 (.lit (0))), (.vint .u8 (.lit (0))), (.vint .u8 (.lit (0))), (.vint .u8 (.lit (0))), (.vint .i64 (.lit (0))), (.vint .i64 (.lit (0))), (.vint .i64 (.lit (0))), (.vint .i64 (.lit (0))), (.vint .u8 (.lit (0))), (.vint .u8 (.lit (0))), (.vint .u8 (.lit (0))), (.vint .u8 (.lit (0))), (.vint .u8 (.lit (0))), (.vint .u8 (.lit (0))), (.vint .u8 (.lit (0))), (.vint .u8 (.lit (0))), (.vint .u8 (.lit (0))), (.vint .u8 (.lit (0))), (.vint .u8 (.lit (0))), (.vint .u8 (.lit (0))), (.vint .u8 (.lit (0))), (.vint .u8 (.lit (0))), (.vint .u8 (.lit (0))), (.vint .u8 (.lit (0))), (.vint .u8 (.lit (0))), (.vint .u8 (.lit (0))), (.vint .u8 (.lit (0))), (.vint .u8 (.lit (0))), (.vint .u8 (.lit (0))), (.vint .u8 (.lit (0))), (.vint .u8 (.lit (0))), (.vint .u8 (.lit (0))), (.vint .u8 (.lit (0))), (.vint .u8 (.lit (0))), (.vint .u8 (.lit (0))), (.vint .u8 (.lit (0))), (.vint .u8 (.lit (0))), (.vint .u8 (.lit (0))), (.vint .u8 (.lit (0))), (.vint .u8 (.lit (0))), .vnils, (.vint .i64 (.lit (0))), .vnils, (.vint .i64 (.lit (0)))], .cells 42 63 [(.vint .u64 (.arith .add .u64 (.var 10) (.lit (1)))), (.vint .i64 (.var 41)), (.vint .u64 (.var 40)), (.vbool (.bl false))]] 50 (.ret 1 ⟨19, [(32, (.r 50)), (31, (.t (.var 48))), (30, (.t (.dapp (.dtake (.var 34) (.var 32)) (.rcons (.vint .u64 (.arith .add .u64 (.var 10) (.lit (1)))) (.rcons (.vint .i64 (.var 41)) (.rcons (.vint .u64 (.var 40)) (.rcons (.vbool (.bl false)) .rnil))))))), (29, (.t (.var 33))), (28, (.t (.var 31))), (26, (.t (.var 44))), (25, (.t (.plus (.var 32) (.lit (1))))), (27, (.r 43)), (24, (.t (.var 41))), (23, (.t (.arith .add .u64 (.var 10) (.lit (1))))), (22, (.t (.var 40))), (21, (.t (.var 47))), (20, (.t (.plus (.var 36) (.lit (1))))), (19, (.r 46))], [((.var 21), (.var 47)), ((.var 26), (.var 44)), ((.var 7), (.var 7)), ((.var 4), (.var 4)), ((.var 16), (.var 16)), ((.lit (0)), (.lit (0))), ((.var 7), (.var 7)), ((.var 3), (.var 3)), ((.lit (0)), (.lit (0))), ((.var 4), (.var 4)), ((.var 3), (.var 3)), ((.lit (0)), (.lit (0))), ((.var 1), (.var 1)), ((.lit (0)), (.lit (0)))], [((.var 17), (.var 17))], []⟩))))) .top)) .top))))) .top)) .top) .top) .top) .top))))) .top)) .top))) .top)))))))))))))))))) .top)))))))))))))))))))) .top)))
theorem o_tick29_eq : treeOf ⟨Try.prog, tick29C, [fault64C, set65C, ask66C, waitC, next67C, stamp68C], [tick29I, tick29J]⟩ 100000 Try.f29 = o_tick29 := by kernel_rfl
theorem tick29_of (hd : ∀ c ∈ ([fault64C, set65C, ask66C, waitC, next67C, stamp68C] : List Ctr), c.ok Try.prog) (h : ∀ ρ : Env, ρ.good → (tick29C).pre ρ → o_tick29.den ⟨Try.prog, tick29C, [fault64C, set65C, ask66C, waitC, next67C, stamp68C], [tick29I, tick29J]⟩ ρ) : (tick29C).ok Try.prog :=
  ok_of_tree Try.func29 (fun a w => Try.call29 a w) hd 100000 (fun ρ hg hp => by rw [o_tick29_eq]; exact h ρ hg hp)
end Go.Proofs

/- Tick, plainly. -/
set_option linter.unusedSimpArgs false
set_option linter.unusedVariables false
namespace Go.Proofs
open Go Go.Eng

theorem prbs_len (d : List (List Value)) : (prbsOf d).length = d.length := by simp [prbsOf]
theorem cellI_prbs {d : List (List Value)} {i : Int} (h0 : 0 ≤ i) (h : i < (d.length : Int)) : (prbsOf d)[i.toNat]? = some ⟨cellI d i 0, cellI d i 1, cellI d i 2, cellB d i 3⟩ := by
  have hl : i.toNat < d.length := by omega
  simp [prbsOf, prbOf, List.getElem?_map, List.getElem?_eq_getElem hl, cellI, cellB, cellV, rowI, rowB]
theorem prbs_put {d : List (List Value)} {i a b c : Int} {e : Bool} (h0 : 0 ≤ i) (h : i < (d.length : Int)) : prbsOf (putD d i 0 [.int .u64 a, .int .i64 b, .int .u64 c, .bool e]) = (prbsOf d).set i.toNat ⟨a, b, c, e⟩ := by
  apply List.ext_getElem?
  intro j
  simp only [prbsOf, putD, List.getElem?_map, List.getElem?_set, List.length_map]
  by_cases hj : i.toNat = j
  · subst hj
    have : i.toNat < d.length := by omega
    simp [this, splice, prbOf, rowI, rowB, vInt, vBool]
  · simp [hj]
theorem tab_put1 {d : List (List Value)} {i y : Int} (h0 : 0 ≤ i) (h : i < (d.length : Int)) (hz : cellI d i 1 ≠ 0) : tabOf (putD d i 1 [.int .u8 y]) = (tabOf d).set i.toNat (cellI d i 0, y) := by
  apply List.ext_getElem?
  intro j
  have hl : i.toNat < d.length := by omega
  simp only [tabOf, putD, List.getElem?_map, List.getElem?_set, List.length_map]
  by_cases hj : i.toNat = j
  · subst hj
    simp only [if_pos hl, if_true, Option.map_some, Option.some.injEq]
    have hz : vInt ((d[i.toNat])[1]?.getD .nilFunc) ≠ 0 := by simpa [cellI, cellV, List.getElem?_eq_getElem hl] using hz
    simp only [cellI, cellV, List.getElem?_eq_getElem hl, Option.getD_some]
    generalize d[i.toNat] = r at hz
    match r, hz with
    | [], hz => simp [vInt] at hz
    | [a], hz => simp [vInt] at hz
    | a :: b :: r, _ => simp [rowI, splice, vInt]
  · simp [hj]
theorem statAt_tab {d : List (List Value)} {i : Int} (h0 : 0 ≤ i) (h : i < (d.length : Int)) : statAt (tabOf d) i = (cellI d i 0, cellI d i 1) := by
  simp [statAt, List.getD_eq_getElem?_getD, cellI_tab h0 h]
theorem tickPs_step {self clock draw : Int} {tab : List Ent} {since : List Int} {P : List Prb} {i : Nat} {p : Prb} (h : P[i]? = some p) :
    tickPs self clock draw tab since (P.take (i + 1)) = tickP self clock draw (tickPs self clock draw tab since (P.take i)) p := by
  rw [take_snoc h]; simp [tickPs]
/-- Where the loop over the probes stands. -/
def TI (self clock draw : Int) (tab : List Ent) (since : List Int) (P : List Prb) (i k : Int) (dT dS dK dM : List (List Value)) : Prop :=
  tickPs self clock draw tab since (P.take i.toNat) = ⟨tabOf dT, intsOf dS, (prbsOf dK).take k.toNat, (tickPs self clock draw tab since (P.take i.toNat)).msgs⟩ ∧ plainRows dM (tickPs self clock draw tab since (P.take i.toNat)).msgs ∧ (prbsOf dK).drop i.toNat = P.drop i.toNat
theorem plain_app {d e : List (List Value)} {ms ns : List Msg} (h : plainRows d ms) (h' : plainRows e ns) : plainRows (d ++ e) (ms ++ ns) := by
  unfold plainRows at *; rw [h, h']; simp
theorem TI_get {self clock draw : Int} {tab : List Ent} {since : List Int} {P : List Prb} {i k : Int} {dT dS dK dM : List (List Value)} (h : TI self clock draw tab since P i k dT dS dK dM) (h0 : 0 ≤ i) (hi : i < dK.length) :
    P[i.toNat]? = some ⟨cellI dK i 0, cellI dK i 1, cellI dK i 2, cellB dK i 3⟩ := by
  have := congrArg (fun l => l[0]?) h.2.2
  simp only [List.getElem?_drop, Nat.add_zero] at this
  rw [← this, cellI_prbs h0 hi]
theorem TI_keep {self clock draw : Int} {tab : List Ent} {since : List Int} {P : List Prb} {i k a b c : Int} {e : Bool} {dT dS dK dM dN : List (List Value)} {ns : List Msg}
    (h : TI self clock draw tab since P i k dT dS dK dM) (h0 : 0 ≤ k) (hk : k ≤ i) (hi : i < dK.length) (hn : plainRows dN ns)
    (hp : ∀ st : TS, st.tab = tabOf dT → tickP self clock draw st ⟨cellI dK i 0, cellI dK i 1, cellI dK i 2, cellB dK i 3⟩ = { st with kept := st.kept ++ [⟨a, b, c, e⟩], msgs := st.msgs ++ ns }) :
    TI self clock draw tab since P (i + 1) (k + 1) dT dS (putD dK k 0 [.int .u64 a, .int .i64 b, .int .u64 c, .bool e]) (dM ++ dN) := by
  have hg := TI_get h (by omega) hi
  obtain ⟨h1, h2, h3⟩ := h
  have hst := tickPs_step (self := self) (clock := clock) (draw := draw) (tab := tab) (since := since) hg
  rw [hp _ (by rw [h1])] at hst
  have hlt : k.toNat < (prbsOf dK).length := by rw [prbs_len]; omega
  unfold TI
  rw [toNat_succ (show 0 ≤ i by omega), toNat_succ h0, hst, prbs_put h0 (by omega)]
  refine ⟨?_, plain_app h2 hn, ?_⟩
  · rw [take_snoc (x := (⟨a, b, c, e⟩ : Prb)) (by simp [hlt]), List.take_set_of_le (by omega)]
    conv => lhs; rw [h1]
  · rw [List.drop_set_of_lt (by omega)]
    have := congrArg (List.drop 1) h3
    simpa [List.drop_drop, Nat.add_comm] using this
theorem TI_drop {self clock draw : Int} {tab : List Ent} {since : List Int} {P : List Prb} {i k : Int} {dT dS dK dM dT' dS' : List (List Value)}
    (h : TI self clock draw tab since P i k dT dS dK dM) (h0 : 0 ≤ i) (hi : i < dK.length)
    (hp : ∀ st : TS, st.tab = tabOf dT → st.since = intsOf dS → tickP self clock draw st ⟨cellI dK i 0, cellI dK i 1, cellI dK i 2, cellB dK i 3⟩ = { st with tab := tabOf dT', since := intsOf dS' }) :
    TI self clock draw tab since P (i + 1) k dT' dS' dK dM := by
  have hg := TI_get h (by omega) hi
  obtain ⟨h1, h2, h3⟩ := h
  have hst := tickPs_step (self := self) (clock := clock) (draw := draw) (tab := tab) (since := since) hg
  rw [hp _ (by rw [h1]) (by rw [h1])] at hst
  unfold TI
  rw [toNat_succ h0, hst]
  refine ⟨?_, h2, ?_⟩
  · conv => lhs; rw [h1]
  · have := congrArg (List.drop 1) h3
    simpa [List.drop_drop, Nat.add_comm] using this
theorem askL_len (t : List Ent) (self seq target draw : Int) : (askL t self seq target draw).length ≤ 2 := by
  simp only [askL, askN, List.length_map, List.length_range]; omega
/-- Where the loop over the table stands. -/
def DI (T U : List Ent) (d : List (List Value)) (i : Int) : Prop := ∀ j : Nat, (tabOf d)[j]? = if (j : Int) < i then U[j]? else T[j]?
theorem DI_zero {T U : List Ent} {d : List (List Value)} (h : tabOf d = T) : DI T U d 0 := fun j => by rw [if_neg (by omega), h]
theorem DI_all {T U : List Ent} {d : List (List Value)} {i : Int} (h : DI T U d i) (hT : (T.length : Int) ≤ i) (hU : (U.length : Int) ≤ i) : tabOf d = U := by
  apply List.ext_getElem?
  intro j
  rw [h j]
  split
  · rfl
  · rw [List.getElem?_eq_none (by omega), List.getElem?_eq_none (by omega)]
theorem DI_same {T U : List Ent} {d : List (List Value)} {i : Int} (h : DI T U d i) (h0 : 0 ≤ i) (hx : U[i.toNat]? = (tabOf d)[i.toNat]?) : DI T U d (i + 1) := fun j => by
  by_cases hj : (j : Int) = i
  · subst hj
    rw [if_pos (by omega)]; simpa using hx.symm
  · rw [h j]
    by_cases hj2 : (j : Int) < i
    · rw [if_pos hj2, if_pos (by omega)]
    · rw [if_neg hj2, if_neg (by omega)]
theorem DI_set {T U : List Ent} {d : List (List Value)} {i y : Int} (h : DI T U d i) (h0 : 0 ≤ i) (hi : i < d.length) (hz : cellI d i 1 ≠ 0) (hx : U[i.toNat]? = some (cellI d i 0, y)) : DI T U (putD d i 1 [.int .u8 y]) (i + 1) := fun j => by
  rw [tab_put1 h0 hi hz, List.getElem?_set]
  by_cases hj : i.toNat = j
  · subst hj
    rw [if_pos rfl, if_pos (by rw [tab_len]; omega), if_pos (by omega), hx]
  · rw [if_neg hj, h j]
    by_cases hj2 : (j : Int) < i
    · rw [if_pos hj2, if_pos (by omega)]
    · rw [if_neg hj2, if_neg (by omega)]
theorem DI_get {T U : List Ent} {d : List (List Value)} {i : Int} (h : DI T U d i) (h0 : 0 ≤ i) (hi : i < d.length) : T[i.toNat]? = some (cellI d i 0, cellI d i 1) := by
  have := h i.toNat
  rw [if_neg (by omega), cellI_tab h0 hi] at this
  exact this.symm
theorem dead_get {self clock wait : Int} {since : List Int} {t : List Ent} {i : Nat} {x : Ent} (h : t[i]? = some x) : (deadT self clock wait since t)[i]? = some (deadE self clock wait since i x) := by
  simp [deadT, List.getElem?_mapIdx, h]
theorem dead_len {self clock wait : Int} {since : List Int} {t : List Ent} : (deadT self clock wait since t).length = t.length := by simp [deadT]
theorem nextP_range {n self pinged : Int} (h2 : 2 ≤ n) (h : n ≤ 16) (h0 : 0 ≤ pinged) : 0 ≤ nextP n self pinged ∧ nextP n self pinged < n := by
  have a1 : Int.tmod (pinged + 1) n < n := Int.tmod_lt_of_pos _ (by omega)
  have a0 : 0 ≤ Int.tmod (pinged + 1) n := Int.tmod_nonneg _ (by omega)
  have b1 : Int.tmod (Int.tmod (pinged + 1) n + 1) n < n := Int.tmod_lt_of_pos _ (by omega)
  have b0 : 0 ≤ Int.tmod (Int.tmod (pinged + 1) n + 1) n := Int.tmod_nonneg _ (by omega)
  unfold nextP; split <;> omega
theorem plain_len {d : List (List Value)} {ms : List Msg} (h : plainRows d ms) : d.length = ms.length := by rw [h]; simp
theorem stamped_len {h : Hp} {ms : List Msg} {self : Int} {t : List Ent} {d : List (List Value)} {i : Nat} (hs : stamped h ms self t i d) : d.length = min i ms.length + (ms.length - i) := by
  obtain ⟨vs, h1, h2, _⟩ := hs
  rw [h2]; simp [rowsOf, h1]
theorem stamped_mono {h h' : Hp} {ms : List Msg} {self : Int} {t : List Ent} {d : List (List Value)} {i : Nat} (hs : stamped h ms self t i d) (hl : Hp.le h h') : stamped h' ms self t i d := by
  obtain ⟨vs, h1, h2, h3⟩ := hs
  exact ⟨vs, h1, h2, fun v hv => RdT_mono (h3 v hv) hl⟩
end Go.Proofs

/- Tick: what it computes. -/
set_option linter.unusedSimpArgs false
set_option linter.unusedVariables false
namespace Go.Proofs
open Go Go.Eng

set_option maxRecDepth 20000 in
set_option maxHeartbeats 4000000 in
theorem tick29_ok : tick29C.ok Try.prog := tick29_of (by simp [fault64_ok, set65_ok, ask66_ok, next67_ok, stamp68_ok, wait_ok]) fun ρ hg hp => by
  obtain ⟨⟨⟨a1, a2, a3, a4, a5, a6, a7, a8⟩, h2, h3, h4, h5⟩, h8, h9⟩ := hp
  simp only [m0, machV, tab_len, ints_len] at a1 a2 a3 a4 a5 a6 a7 a8
  simp [o_tick29, tick29C, fault64C, set65C, ask66C, waitC, next67C, stamp68C, tick29I, tick29J, arithOf, mOk, m0]
  generalize hM : machV (ρ 1).i (ρ 5).d (ρ 8).d (ρ 9).i (ρ 10).i (ρ 11).i (ρ 13).i (ρ 15).d (ρ 16).i (ρ 17).b = M
  have hbig : (ρ 13).i ≤ big := by unfold big; omega
  have hc1 : IntKind.u64.wrap ((ρ 9).i + 1) = clock1 M := by subst hM; rfl
  intro hL hcap
  refine ⟨h3, by omega, ⟨h3, hc1, by simp [tickPs], by simp [tickPs, plainRows]⟩, ?_⟩
  intro ui _ uk _ uK _ uT _ uS _ ur _ un _ ucap _ uM _ uc _ g0 g1 g2 g3 g4 g5 g6 g7 g8 g9 g10 g11 g12
  have hTI : TI (ρ 1).i uc.i (ρ 18).i (tabOf (ρ 5).d) (intsOf (ρ 8).d) (prbsOf (ρ 15).d) ui.i uk.i uT.d uS.d uK.d uM.d := ⟨g10, g11, g12⟩
  constructor
  · intro hi
    have hget := TI_get hTI g0 (by omega)
    have htb := a8 _ (List.mem_of_getElem? (show ((prbsOf (ρ 15).d).take (ρ 13).i.toNat)[ui.i.toNat]? = some _ by rw [List.getElem?_take, if_pos (by omega)]; exact hget))
    simp only at htb
    have hst := statAt_tab (d := uT.d) (i := cellI uK.d ui.i 1) htb.1 (by omega)
    rw [wrapAdd g0 hi hbig]
    have hal : ∀ d : List (List Value), plainRows d (askL (tabOf uT.d) (ρ 1).i (cellI uK.d ui.i 0) (cellI uK.d ui.i 1) (ρ 18).i) → d.length ≤ 2 := fun d h => by
      have h1 := congrArg List.length h
      have h2 := askL_len (tabOf uT.d) (ρ 1).i (cellI uK.d ui.i 0) (cellI uK.d ui.i 1) (ρ 18).i
      simp only [List.length_map] at h1
      omega
    refine ⟨g0, by omega, fun hage => ⟨htb.1, by omega, by omega, fun hs => ⟨⟨by omega, by omega, htb.1, by omega⟩, fun v1 _ v2 _ k1 k2 k3 k4 => ⟨⟨by omega, by omega, g2, by omega, g4, g5, by omega, by omega, g8, by omega, ?_⟩, by omega⟩⟩, fun hs => ⟨⟨by omega, by omega, g2, by omega, g4, g5, g6, g7, g8, by omega, ?_⟩, by omega⟩⟩, fun hage => ⟨fun hage4 => ⟨fun hask => ⟨⟨⟨by omega, by omega, by omega, by omega, by omega, by omega, by omega⟩, by omega, by omega⟩, fun v1 _ v2 _ k1 k2 => ⟨g8, by omega, by omega, by have := hal _ k2; omega, fun hcap' => ⟨by omega, g2, by omega, ⟨by omega, by omega, by omega, by omega, g4, by rw [putD_len]; exact g5, g6, g7, by omega, by have := hal _ k2; omega, ?_⟩, by omega⟩⟩⟩, fun hask hcap' => ⟨by omega, g2, by omega, ⟨by omega, by omega, by omega, by omega, g4, by rw [putD_len]; exact g5, g6, g7, g8, by omega, ?_⟩, by omega⟩⟩, fun hage4 hcap' => ⟨by omega, g2, by omega, ⟨by omega, by omega, by omega, by omega, g4, by rw [putD_len]; exact g5, g6, g7, g8, by omega, ?_⟩, by omega⟩⟩⟩
    · exact TI_drop hTI g0 (by omega) fun st t1 t2 => by
        unfold tickP ageOf
        rw [if_pos hage, t1, t2, hst, if_pos hs, k1, k2]
    · exact TI_drop hTI g0 (by omega) fun st t1 t2 => by
        unfold tickP ageOf
        rw [if_pos hage, t1, hst, if_neg hs, ← t1, ← t2]
    · rw [show v1.d.take v2.i.toNat = v1.d from List.take_of_length_le (by omega)]
      exact TI_keep hTI g2 g3 (by omega) k2 fun st t1 => by
        unfold tickP ageOf
        rw [if_neg (Int.not_le.2 hage), if_pos (And.intro hage4 hask), t1]
    · have := TI_keep (dN := []) (ns := []) hTI g2 g3 (by omega) rfl (a := cellI uK.d ui.i 0) (b := cellI uK.d ui.i 1) (c := cellI uK.d ui.i 2) (e := cellB uK.d ui.i 3) fun st t1 => by
        unfold tickP ageOf
        rw [if_neg (Int.not_le.2 hage), if_neg (fun h => by have h := h.2; simp only [hask] at h; cases h), List.append_nil]
      rwa [List.append_nil] at this
    · have := TI_keep (dN := []) (ns := []) hTI g2 g3 (by omega) rfl (a := cellI uK.d ui.i 0) (b := cellI uK.d ui.i 1) (c := cellI uK.d ui.i 2) (e := cellB uK.d ui.i 3) fun st t1 => by
        unfold tickP ageOf
        rw [if_neg (Int.not_le.2 hage), if_neg (fun h => absurd h.1 (Int.not_le.2 hage4)), List.append_nil]
      rwa [List.append_nil] at this
  · intro hi
    have hTS : tickTS M (ρ 18).i = tickPs (ρ 1).i uc.i (ρ 18).i (tabOf (ρ 5).d) (intsOf (ρ 8).d) ((prbsOf (ρ 15).d).take ui.i.toNat) := by
      rw [g4, show ui.i.toNat = (ρ 13).i.toNat by omega]; subst hM; rfl
    rw [← hTS] at g10 g11
    have hT1 : (tickTS M (ρ 18).i).tab = tabOf uT.d := by rw [g10]
    have hT2 : (tickTS M (ρ 18).i).since = intsOf uS.d := by rw [g10]
    have hT3 : (tickTS M (ρ 18).i).kept = (prbsOf uK.d).take uk.i.toNat := by rw [g10]
    refine ⟨by omega, fun uw _ kw => ⟨⟨by omega, g4, ?_, g6, g7, g8, by omega, g2, by omega, by omega, hT2.symm, hT3.symm, g11, by rw [hT1, tab_len]; exact g6, ?_⟩, ?_⟩⟩
    · rw [kw, wrapu64_id (by omega) (by omega), waitOf, tab_len, h2]
    · exact DI_zero hT1.symm
    intro vi _ vT _ vk _ vS _ vK _ vr _ vn _ vcap _ vM _ vw _ vc _ q0 q1 q2 q3 q4 q5 q6 q7 q8 q9 q10 q11 q12 q13 q14 q15
    have hDI : DI (tickTS M (ρ 18).i).tab (deadT (ρ 1).i (clock1 M) (waitOf (tabOf (ρ 5).d).length) (tickTS M (ρ 18).i).since (tickTS M (ρ 18).i).tab) vT.d vi.i := q15
    constructor
    · intro hlt
      rw [wrapAdd q0 hlt (by unfold big; omega)]
      have hget := DI_get hDI q0 (by omega)
      have hdg := dead_get (self := (ρ 1).i) (clock := clock1 M) (wait := waitOf (tabOf (ρ 5).d).length) (since := (tickTS M (ρ 18).i).since) hget
      have hct := cellI_tab (d := vT.d) q0 (by omega)
      have hsg : (tickTS M (ρ 18).i).since.getD vi.i.toNat 0 = cellI vS.d vi.i 0 := by rw [← q11, List.getD_eq_getElem?_getD, cellI_ints q0 (by omega)]; rfl
      have hin : ((vi.i.toNat : Nat) : Int) = vi.i := by omega
      refine ⟨q0, by omega, fun hne => ⟨fun hs2 => ⟨by omega, fun hage => ⟨⟨by omega, by omega, q2, q3, by rw [putD_len]; exact q4, q5, q6, q7, q8, q9, q10, q11, q12, q13, q14, ?_⟩, by omega⟩, fun hage => ⟨⟨by omega, by omega, q2, q3, q4, q5, q6, q7, q8, q9, q10, q11, q12, q13, q14, ?_⟩, by omega⟩⟩, fun hs2 => ⟨⟨by omega, by omega, q2, q3, q4, q5, q6, q7, q8, q9, q10, q11, q12, q13, q14, ?_⟩, by omega⟩⟩, fun heq => ⟨⟨by omega, by omega, q2, q3, q4, q5, q6, q7, q8, q9, q10, q11, q12, q13, q14, ?_⟩, by omega⟩⟩
      · refine DI_set hDI q0 (by omega) (by omega) ?_
        rw [hdg, deadE, if_pos]
        simp only [hin, hs2, hsg, ageOf, ← q2, ← q3]
        exact ⟨hne, trivial, hage⟩
      · refine DI_same hDI q0 ?_
        rw [hdg, hct, deadE, if_neg]
        simp only [hin, hs2, hsg, ageOf, ← q2, ← q3]
        rintro ⟨_, _, h⟩; omega
      · refine DI_same hDI q0 ?_
        rw [hdg, hct, deadE, if_neg]
        rintro ⟨_, h, _⟩; exact hs2 h
      · refine DI_same hDI q0 ?_
        rw [hdg, hct, deadE, if_neg]
        rintro ⟨h, _, _⟩; exact h (by omega)
    · intro hge
      have hdt := DI_all hDI (by omega) (by rw [dead_len]; omega)
      have hpl : ∀ p, plainRows (vM.d ++ [row0 ⟨1, 0, p, IntKind.u64.wrap ((ρ 10).i + 1), (ρ 1).i, 0⟩]) ((tickTS M (ρ 18).i).msgs ++ [⟨1, 0, p, IntKind.u64.wrap ((ρ 10).i + 1), (ρ 1).i, 0⟩]) := fun p => plain_snoc q13
      refine ⟨⟨by omega, by omega, by omega, by omega⟩, fun up _ kp _ _ => ⟨by omega, by omega, fun _ _ _ _ _ _ => ⟨q6, by omega, fun _ _ _ _ => ⟨⟨⟨by omega, by omega, by omega, by omega, by omega, ?_, ?_⟩, q6, by unfold big; omega, ?_⟩, fun uD _ uH _ kst uF _ kF => ⟨hL, ?_, ?_, q4, by omega, by omega, by omega, ?_⟩⟩⟩⟩⟩
      · rw [kp]; exact (nextP_range (by omega) (by omega) a6).1
      · rw [kp]; exact (nextP_range (by omega) (by omega) a6).2
      · exact ⟨_, hpl up.i⟩
      · have hTM : tickM M (ρ 18).i = ⟨(ρ 1).i, deadT (ρ 1).i (clock1 M) (waitOf (tabOf (ρ 5).d).length) (tickTS M (ρ 18).i).since (tickTS M (ρ 18).i).tab, (tickTS M (ρ 18).i).since, clock1 M, IntKind.u64.wrap ((ρ 10).i + 1), nextP (tabOf (ρ 5).d).length (ρ 1).i (ρ 11).i, (tickTS M (ρ 18).i).kept ++ [⟨IntKind.u64.wrap ((ρ 10).i + 1), nextP (tabOf (ρ 5).d).length (ρ 1).i (ρ 11).i, clock1 M, false⟩], (ρ 16).i, (ρ 17).b⟩ := by subst hM; rfl
        rw [hTM, ← hdt, ← q11, ← q12, tab_len, ← h2, ← kp, ← q2]
        have hk : ((prbsOf vK.d).take vk.i.toNat).length = vk.i.toNat := by rw [List.length_take, prbs_len]; omega
        unfold machV
        rw [toNat_succ q8]
        congr 1
        simp only [prbsOf, List.map_append, List.map_take, List.map_cons, List.map_nil]
        rw [List.take_of_length_le]
        · rfl
        · rw [List.length_append, List.length_take, List.length_map]; simp; omega
      · have := stamped_len (kst _ (hpl up.i))
        have hq := plain_len q13
        rw [List.length_append] at this; simp only [List.length_cons, List.length_nil] at this; omega
      · have hTM : tickMsgs M (ρ 18).i = (tickTS M (ρ 18).i).msgs ++ [⟨1, 0, up.i, IntKind.u64.wrap ((ρ 10).i + 1), (ρ 1).i, 0⟩] := by
          rw [kp]; subst hM; unfold tickMsgs; simp only [machV, tab_len, h2]
        have hTT : (tickM M (ρ 18).i).tab = tabOf vT.d := by rw [hdt]; subst hM; rfl
        rw [hTM, hTT]
        obtain ⟨hb, lb, db⟩ := star_mem kF (List.mem_cons_self ..)
        have hl : Hp.le uH.h hb := by simpa [SH.den] using db
        exact stamped_mono (kst _ (hpl up.i)) (Hp.le_trans hl lb)
end Go.Proofs
