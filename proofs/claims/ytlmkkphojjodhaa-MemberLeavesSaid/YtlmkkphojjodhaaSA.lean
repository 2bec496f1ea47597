/- A machine that has left; the law Leaves: contracts. -/
import Derived.Test.YtlmkkphojjodhaaGF
set_option linter.unusedSimpArgs false
set_option linter.unusedVariables false
namespace Go.Eng
open Go

/-! ### A machine that has left -/
def mCellsL : SH := .cells 0 117 [.vint .i64 (.var 1), .vslice 2 (.lit 0) (.var 3) (.var 4) 2, .vslice 6 (.lit 0) (.var 3) (.var 7) 1, .vint .u64 (.var 9), .vint .u64 (.var 10), .vint .i64 (.var 11), .var 12, .vint .u64 (.var 16), .vbool (.bl true)]
def fault64L : Ctr := { fn := 64, nv := 18, args := [ptr 0], heap := [], ro := [mCellsL], pre := fun _ => True, alts := [{ k := 0, ret := .one (il .i64 30), heap := [], post := fun _ => True }] }
def tick29L : Ctr := { fn := 29, nv := 19, args := [ptr 0, iv .u64 (.var 18)], heap := [], ro := [mCellsL], pre := fun _ => True, alts := [{ k := 0, ret := .one .vnils, heap := [], post := fun _ => True }] }
def recv58L : Ctr := { fn := 58, nv := 138, args := [ptr 0, .agg (msgCellsV 18 (.var 24) 29)], heap := [], ro := [mCellsL], pre := fun _ => True, alts := [{ k := 0, ret := .tup [(false, [.vnils]), (false, [il .i64 30])], heap := [], post := fun _ => True }] }
def receive23L : Ctr := { fn := 23, nv := 138, args := [ptr 0, .agg (msgCellsV 18 mTabSl 29)], heap := [], ro := [mCellsL, .arr 24 25 kMem (.var 27) (.var 28)], pre := fun ρ => (ρ 25).i = (ρ 27).d.length ∧ (ρ 25).i ≤ big, alts := [{ k := 0, ret := .tup [(false, [.vnils]), (false, [il .i64 30])], heap := [], post := fun _ => True }] }
def receive23K : Inv := { key := 4, nv := 5, env := [(3, ptr 1002), (6, .one .vnils), (7, .one (il .i64 30)), (8, iv .i64 (.var 1001))], heap := [.cells 1002 43 recvBox, .arr 1000 25 kMem (.var 1003) (.var 1004)], inv := (fun ρ => 0 ≤ (ρ 1001).i ∧ (ρ 1001).i ≤ (ρ 25).i ∧ (ρ 1003).d.length = (ρ 25).i), mu := (fun ρ => ((ρ 25).i - (ρ 1001).i).toNat) }
def leave44L : Ctr := { fn := 44, nv := 18, args := [ptr 0], heap := [], ro := [mCellsL], pre := fun _ => True, alts := [{ k := 0, ret := .one .vnils, heap := [], post := fun _ => True }] }
def reinc43L : Ctr := { fn := 43, nv := 19, args := [ptr 0, iv .u64 (.var 18)], heap := [], ro := [mCellsL], pre := fun _ => True, alts := [{ k := 0, ret := .one (il .i64 30), heap := [], post := fun _ => True }] }

/-! ### Leaves -/
def pingTo (ot dst : Int) : Msg := ⟨1, ot, dst, 1, ot, 0⟩
def otherP (me n : Int) : Int := Int.tmod (me + 1) n
/-- The machine that left, before: it has heard the other's Ping or not yet. -/
def lvM (me n i : Int) : Mach := if i = 0 then newM me n 2 else recvS (newM me n 2) (pingTo (otherP me n) me) (newM (otherP me n) n 4).tab
/-- The other one behind its Tick. -/
def lvO (me n v : Int) : Mach := tickM (newM (otherP me n) n 4) v
/-- The Ping, as the law has turned it. -/
def lvPing (me n i : Int) : Msg := if i = 0 then pingTo (otherP me n) (nextP n (otherP me n) (otherP me n)) else pingTo (otherP me n) me
def LV (me n v i : Int) (mm : Mach) (dT dS dP : Rows') (np : Int) (om : Mach) (oT oS oP : Rows') (onp ot nm : Int) (d : Rows') (h : Hp) : Prop :=
  0 ≤ i ∧ i ≤ 1 ∧ nm = 1 ∧ ot = otherP me n ∧ okM dT dS dP np n 0 ∧ mm = lvM me n i ∧ okM oT oS oP onp n 1 ∧ om = lvO me n v ∧ ∃ x, d = [msgRow (lvPing me n i) x] ∧ RdT h x (newM (otherP me n) n 4).tab
def lawLeavesC : Ctr := { fn := 12, nv := 3, args := [iv .i64 (.var 0), iv .i64 (.var 1), iv .u64 (.var 2)], heap := [], ro := [], pre := fun ρ => 0 ≤ (ρ 2).i ∧ (ρ 2).i < 18446744073709551616, alts := lawWaitsC.alts }
/-- 1000 .. 1012 the machine, 1013 .. 1025 the other, 1026 its number, 1027 .. 1031 the Ping, 1032 the round. -/
def lawLeavesI : Inv := { key := 10, nv := 33, env := [(0, iv .i64 (.var 0)), (2, iv .u64 (.var 2)), (7, ptr 1000), (9, iv .i64 (.var 1026)), (10, ptr 1013), (12, .one (.vslice 1027 (.lit 0) (.var 1028) (.var 1029) 116)), (13, iv .i64 (.var 1032))], heap := lMach 1000 (.var 0) (.var 1) ++ lMach 1013 (.var 1026) (.var 1) ++ [.arr 1027 43 kMsg (.var 1030) (.var 1029), .abs 1031 2], inv := (fun ρ => LV (ρ 0).i (ρ 1).i (ρ 2).i (ρ 1032).i (lM ρ 1000 (ρ 0).i) (ρ 1010).d (ρ 1011).d (ρ 1012).d (ρ 1007).i (lM ρ 1013 (ρ 1026).i) (ρ 1023).d (ρ 1024).d (ρ 1025).d (ρ 1020).i (ρ 1026).i (ρ 1028).i (ρ 1030).d (ρ 1031).h), mu := (fun ρ => ((ρ 1028).i - (ρ 1032).i).toNat) }
end Go.Eng
