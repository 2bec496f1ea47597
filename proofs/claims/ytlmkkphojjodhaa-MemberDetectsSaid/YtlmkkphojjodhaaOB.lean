/- Contracts of Reincarnate, Leave, Challenge, Clock, Live, Probes; the laws Refutes, Helpers, Detects. -/
import Derived.Test.YtlmkkphojjodhaaOA
set_option linter.unusedSimpArgs false
set_option linter.unusedVariables false
namespace Go.Eng
open Go

/-! ### What they compute -/
def reincE (m : Mach) (inc : Int) : Int := if m.left then 30 else if inc ≤ (statAt m.tab m.self).1 ∨ inc ≤ m.chal then 2 else 0
def reincM (m : Mach) (inc : Int) : Mach := if reincE m inc = 0 then { m with tab := m.tab.set m.self.toNat (inc, 1), chal := 0 } else m
def leaveTab (t : List Ent) (self : Int) : List Ent := t.set self.toNat ((statAt t self).1, 4)
def leaveM (m : Mach) : Mach := if m.left then m else { m with tab := leaveTab m.tab m.self, left := true }
def leaveMsg (i : Int) : Msg := ⟨2, 0, i, 0, i, 0⟩
def leaveMsgs (t : List Ent) : List Msg := (liveT t).map leaveMsg

/-! ### Contracts -/
def mCellsC (chal left : T) : SH := .cells 0 117 [.vint .i64 (.var 1), .vslice 2 (.lit 0) (.var 3) (.var 4) 2, .vslice 6 (.lit 0) (.var 3) (.var 7) 1, .vint .u64 (.var 9), .vint .u64 (.var 10), .vint .i64 (.var 11), .var 12, .vint .u64 chal, .vbool left]
/-- The machine of the variables, without its probes. -/
def m1 (ρ : Env) : Mach := machV (ρ 1).i (ρ 5).d [] (ρ 9).i (ρ 10).i (ρ 11).i 0 [] (ρ 16).i (ρ 17).b
def challenge50C : Ctr := { fn := 50, nv := 18, args := [ptr 0], heap := [], ro := [mCells (.var 12)], pre := fun _ => True, alts := [{ k := 0, ret := iv .u64 (.var 16), heap := [], post := fun _ => True }] }
def clock45C : Ctr := { fn := 45, nv := 18, args := [ptr 0], heap := [], ro := [mCells (.var 12)], pre := fun _ => True, alts := [{ k := 0, ret := iv .u64 (.var 9), heap := [], post := fun _ => True }] }
def live30C : Ctr := { fn := 30, nv := 18, args := [ptr 0], heap := [], ro := [mCells (.var 12), mTab], pre := fun ρ => (ρ 3).i = (ρ 5).d.length ∧ (ρ 3).i ≤ big, alts := [{ k := 4, ret := .one (.vslice 18 (.lit 0) (.var 19) (.var 20) 1), heap := [.arr 18 3 [.int .i64] (.var 21) (.var 20)], post := fun ρ => intsOf (ρ 21).d = liveT (tabOf (ρ 5).d) ∧ (ρ 19).i = (ρ 21).d.length ∧ (ρ 19).i ≤ (ρ 3).i }] }
def clone69C : Ctr := { fn := 69, nv := 5, args := [pArg 0 1 2], heap := [], ro := [pRo 0 3 4], pre := fun ρ => 0 ≤ (ρ 1).i ∧ (ρ 1).i ≤ (ρ 3).d.length ∧ (ρ 1).i ≤ 1000001, alts := [{ k := 4, ret := .one (.vslice 5 (.lit 0) (.var 6) (.var 7) 4), heap := [.arr 5 63 kProbe (.var 8) (.var 7)], post := fun ρ => (ρ 8).d = (ρ 3).d.take (ρ 1).i.toNat ∧ (ρ 6).i = (ρ 1).i ∧ (ρ 6).i = (ρ 8).d.length }] }
def probes31C : Ctr := { fn := 31, nv := 18, args := [ptr 0], heap := [], ro := [mCells prbSl, mProbes], pre := fun ρ => 0 ≤ (ρ 13).i ∧ (ρ 13).i ≤ (ρ 15).d.length ∧ (ρ 13).i ≤ 1000001, alts := [{ k := 4, ret := .one (.vslice 18 (.lit 0) (.var 19) (.var 20) 4), heap := [.arr 18 63 kProbe (.var 21) (.var 20)], post := fun ρ => (ρ 21).d = (ρ 15).d.take (ρ 13).i.toNat ∧ (ρ 19).i = (ρ 13).i ∧ (ρ 19).i = (ρ 21).d.length }] }
def reinc43C : Ctr := { fn := 43, nv := 19, args := [ptr 0, iv .u64 (.var 18)], heap := [mCells (.var 12), mTab], ro := [], pre := fun ρ => (ρ 3).i = (ρ 5).d.length ∧ 0 ≤ (ρ 1).i ∧ (ρ 1).i < (ρ 3).i, alts := [{ k := 3, ret := iv .i64 (.var 19), heap := [mCellsC (.var 21) (.var 17), .arr 2 25 kMem (.var 20) (.var 4)], post := fun ρ => (ρ 19).i = reincE (m1 ρ) (ρ 18).i ∧ tabOf (ρ 20).d = (reincM (m1 ρ) (ρ 18).i).tab ∧ (ρ 21).i = (reincM (m1 ρ) (ρ 18).i).chal ∧ (ρ 20).d.length = (ρ 5).d.length }] }
def leave44C : Ctr := { fn := 44, nv := 18, args := [ptr 0], heap := [mCells (.var 12), mTab], ro := [], pre := fun ρ => mOk ρ ∧ (statAt (tabOf (ρ 5).d) (ρ 1).i).2 ≠ 0, alts := [{ k := 0, ret := .one .vnils, heap := [mCells (.var 12), mTab], post := fun ρ => (ρ 17).b = true },
  { k := 6, ret := .one (.vslice 18 (.lit 0) (.var 19) (.var 20) 116), heap := [mCellsC (.var 16) (.bl true), .arr 2 25 kMem (.var 21) (.var 4), .arr 18 43 kMsg (.var 22) (.var 20), .abs 23 2], post := fun ρ => (ρ 17).b = false ∧ tabOf (ρ 21).d = leaveTab (tabOf (ρ 5).d) (ρ 1).i ∧ (ρ 21).d.length = (ρ 5).d.length ∧ (ρ 19).i = (ρ 22).d.length ∧ stamped (ρ 23).h (leaveMsgs (leaveTab (tabOf (ρ 5).d) (ρ 1).i)) (ρ 1).i (leaveTab (tabOf (ρ 5).d) (ρ 1).i) (leaveMsgs (leaveTab (tabOf (ρ 5).d) (ρ 1).i)).length (ρ 22).d }] }
/-- 1000 the round, 1001 .. 1004 the live peers, 1005 .. 1008 the messages, 1009 the table. -/
def leave44I : Inv := { key := 6, nv := 10, env := [(0, ptr 0), (3, .one (.vslice 1005 (.lit 0) (.var 1006) (.var 1007) 116)), (26, .one (.vslice 1001 (.lit 0) (.var 1002) (.var 1003) 1)), (27, iv .i64 (.var 1002)), (28, iv .i64 (.var 1000))], heap := [mCellsC (.var 16) (.bl true), .arr 2 25 kMem (.var 1009) (.var 4), .arr 1001 3 [.int .i64] (.var 1004) (.var 1003), .arr 1005 43 kMsg (.var 1008) (.var 1007)], inv := (fun ρ => 0 ≤ (ρ 1000).i ∧ (ρ 1000).i ≤ (ρ 1002).i ∧ (ρ 1002).i = (ρ 1004).d.length ∧ (ρ 1002).i ≤ (ρ 3).i ∧ tabOf (ρ 1009).d = leaveTab (tabOf (ρ 5).d) (ρ 1).i ∧ (ρ 1009).d.length = (ρ 5).d.length ∧ intsOf (ρ 1004).d = liveT (leaveTab (tabOf (ρ 5).d) (ρ 1).i) ∧ (ρ 1006).i = (ρ 1008).d.length ∧ (ρ 1006).i = (ρ 1000).i ∧ plainRows (ρ 1008).d (((liveT (leaveTab (tabOf (ρ 5).d) (ρ 1).i)).take (ρ 1000).i.toNat).map leaveMsg)), mu := (fun ρ => ((ρ 1002).i - (ρ 1000).i).toNat) }
end Go.Eng
