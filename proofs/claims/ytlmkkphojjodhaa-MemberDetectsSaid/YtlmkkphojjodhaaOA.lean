/- Contracts of New, Table, Reincarnate, Leave; the laws of one machine. -/
import Derived.Test.YtlmkkphojjodhaaNA
set_option linter.unusedSimpArgs false
set_option linter.unusedVariables false
namespace Go.Eng
open Go

def newM (self n inc : Int) : Mach := ⟨self, (List.replicate n.toNat ((0, 0) : Ent)).set self.toNat (inc, 1), List.replicate n.toNat 0, 0, 0, self, [], 0, false⟩
/-- The struct at region r, its arrays at ra, rs, rp. -/
def mStruct (r ra rs rp : Nat) (self n capT clock seq pinged np capP chal left : T) : SH := .cells r 117 [.vint .i64 self, .vslice ra (.lit 0) n capT 2, .vslice rs (.lit 0) n n 1, .vint .u64 clock, .vint .u64 seq, .vint .i64 pinged, .vslice rp (.lit 0) np capP 4, .vint .u64 chal, .vbool left]
def new22C : Ctr := { fn := 22, nv := 3, args := [iv .i64 (.var 0), iv .i64 (.var 1), iv .u64 (.var 2)], heap := [], ro := [], pre := fun _ => True, alts := [
  { k := 0, ret := .tup [(false, [.vnilp]), (false, [.vint .i64 (.lit 2)])], heap := [], post := fun ρ => newBad (ρ 0).i (ρ 1).i (ρ 2).i = true },
  { k := 9, ret := .tup [(false, [.vptr 3 (.lit 0) 0 0]), (false, [.vint .i64 (.lit 0)])], heap := [mStruct 3 4 5 8 (.var 0) (.var 1) (.var 1) (.lit 0) (.lit 0) (.var 0) (.var 9) (.var 10) (.lit 0) (.bl false), .arr 4 25 kMem (.var 6) (.var 1), .arr 5 22 [.int .u64] (.var 7) (.var 1), .arr 8 63 kProbe (.var 11) (.var 10)], post := fun ρ => newBad (ρ 0).i (ρ 1).i (ρ 2).i = false ∧ machV (ρ 0).i (ρ 6).d (ρ 7).d 0 0 (ρ 0).i (ρ 9).i (ρ 11).d 0 false = newM (ρ 0).i (ρ 1).i (ρ 2).i ∧ ((ρ 6).d.length : Int) = (ρ 1).i ∧ ((ρ 7).d.length : Int) = (ρ 1).i ∧ (ρ 9).i = 0 }] }
def table28C : Ctr := { fn := 28, nv := 18, args := [ptr 0], heap := [], ro := [mCells (.var 12), mTab], pre := fun ρ => (ρ 3).i = (ρ 5).d.length ∧ 0 < (ρ 3).i ∧ (ρ 3).i ≤ big, alts := [{ k := 3, ret := .one (.vslice 18 (.lit 0) (.var 3) (.var 19) 2), heap := [.arr 18 25 kMem (.var 20) (.var 19)], post := fun ρ => (ρ 20).d = (ρ 5).d }] }

/-! ### MemberAnswers -/
/-- 0 self, 1 from, 2 .. 7 the message, 8 .. 12 its table, 13 .. its other cells. -/
def lawAnswersC : Ctr := { fn := 4, nv := 122, args := [iv .i64 (.var 0), iv .i64 (.var 1), .agg (msgCellsV 2 (.vslice 8 (.lit 0) (.var 9) (.var 10) 2) 13)], heap := [], ro := [.arr 8 25 kMem (.var 11) (.var 12)], pre := fun ρ => (ρ 9).i = (ρ 11).d.length ∧ (ρ 9).i ≤ big, alts := lawWaitsC.alts }
/-- The last loop: 1000 the round, 1001 the box, 1002 .. the answer. -/
def lawAnswersI : Inv := { key := 12, nv := 7, env := [(0, iv .i64 (.var 0)), (5, ptr 1001), (7, iv .i64 (.var 9)), (10, .one (.vslice 1002 (.lit 0) (.lit 1) (.var 1003) 116)), (11, iv .i64 (.var 1000))], heap := [.cells 1001 43 ([.vint .u8 (.lit 1), .vint .i64 (.var 1), .vint .i64 (.var 0), .vint .u64 (.var 5), .vint .i64 (.var 6), .vint .i64 (.var 7), .vslice 8 (.lit 0) (.var 9) (.var 10) 2] ++ cellsFrom 13 109), .arr 1002 43 kMsg (.var 1004) (.var 1003), .abs 1005 2], inv := (fun ρ => 0 ≤ (ρ 1000).i ∧ (ρ 1000).i ≤ (ρ 9).i ∧ stamped (ρ 1005).h [recvMsg (ρ 0).i ⟨1, (ρ 1).i, (ρ 0).i, (ρ 5).i, (ρ 6).i, (ρ 7).i⟩] (ρ 0).i (recvTab (ρ 0).i (newM (ρ 0).i (ρ 9).i 7).tab (tabOf (ρ 11).d)) 1 (ρ 1004).d), mu := (fun ρ => ((ρ 9).i - (ρ 1000).i).toNat) }
end Go.Eng
