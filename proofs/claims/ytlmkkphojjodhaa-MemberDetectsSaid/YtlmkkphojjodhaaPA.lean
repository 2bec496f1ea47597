/- The laws Refutes, Helpers, Detects, Leaves: contracts. -/
import Derived.Test.YtlmkkphojjodhaaOB
set_option linter.unusedSimpArgs false
set_option linter.unusedVariables false
namespace Go.Eng
open Go

def lawRefutesC : Ctr := { fn := 15, nv := 7, args := [iv .i64 (.var 0), iv .i64 (.var 1), tArg 2 3 4], heap := [], ro := [tRo 2 5 6], pre := fun ρ => (ρ 3).i = (ρ 5).d.length ∧ (ρ 3).i ≤ big, alts := lawWaitsC.alts }
/-! ### Detects -/
def tickN (draw : Int) : Nat → Mach → Mach
  | 0, m => m
  | n + 1, m => tickM (tickN draw n m) draw
/-- The machine that has heard a table from its neighbour. -/
def heardM (self n inc : Int) (t : List Ent) : Mach := recvS (newM self n inc) ⟨2, Int.tmod (self + 1) n, self, 0, self, 0⟩ t
/-- A machine of the loop's own variables from b on: 0 struct, 1 table, 2 times, 3 probes (regions); 4 clock, 5 seq, 6 pinged, 7 probes, 8 their capacity, 9 challenge; 10 rows of the table, 11 of the times, 12 of the probes. -/
def lMach (b : Nat) (self n : T) : List SH := [mStruct b (b + 1) (b + 2) (b + 3) self n n (.var (b + 4)) (.var (b + 5)) (.var (b + 6)) (.var (b + 7)) (.var (b + 8)) (.var (b + 9)) (.bl false), .arr (b + 1) 25 kMem (.var (b + 10)) n, .arr (b + 2) 22 [.int .u64] (.var (b + 11)) n, .arr (b + 3) 63 kProbe (.var (b + 12)) (.var (b + 8))]
def lM (ρ : Env) (b : Nat) (self : Int) : Mach := machV self (ρ (b + 10)).d (ρ (b + 11)).d (ρ (b + 4)).i (ρ (b + 5)).i (ρ (b + 6)).i (ρ (b + 7)).i (ρ (b + 12)).d (ρ (b + 9)).i false
def lOk (ρ : Env) (b : Nat) (n : Int) (most : Int) : Prop := (ρ (b + 10)).d.length = n ∧ (ρ (b + 11)).d.length = n ∧ 0 ≤ (ρ (b + 7)).i ∧ (ρ (b + 7)).i ≤ (ρ (b + 12)).d.length ∧ (ρ (b + 7)).i ≤ most
def lawDetectsC : Ctr := { fn := 6, nv := 7, args := [iv .i64 (.var 0), tArg 1 2 3, iv .u64 (.var 6)], heap := [], ro := [tRo 1 4 5], pre := fun ρ => (ρ 2).i = (ρ 4).d.length ∧ (ρ 2).i ≤ big ∧ 0 ≤ (ρ 6).i ∧ (ρ 6).i < 18446744073709551616, alts := lawWaitsC.alts }
/-- 1000 .. 1012 the machine, 1013 .. 1015 the table at first, 1016 the round. -/
def lawDetectsI : Inv := { key := 10, nv := 17, env := [(0, iv .i64 (.var 0)), (2, iv .u64 (.var 6)), (7, iv .i64 (.var 2)), (8, ptr 1000), (10, .one (.vslice 1013 (.lit 0) (.var 2) (.var 1014) 2)), (11, iv .i64 (.var 1016))], heap := lMach 1000 (.var 0) (.var 2) ++ [.arr 1013 25 kMem (.var 1015) (.var 1014)], inv := (fun ρ => 0 ≤ (ρ 1016).i ∧ (ρ 1016).i ≤ (ρ 2).i - 1 + 10 + waitOf (tabOf (ρ 4).d).length ∧ lOk ρ 1000 (ρ 2).i (ρ 1016).i ∧ lM ρ 1000 (ρ 0).i = tickN (ρ 6).i (ρ 1016).i.toNat (heardM (ρ 0).i (ρ 2).i 1 (tabOf (ρ 4).d)) ∧ tabOf (ρ 1015).d = (heardM (ρ 0).i (ρ 2).i 1 (tabOf (ρ 4).d)).tab), mu := (fun ρ => ((ρ 2).i - 1 + 10 + waitOf (tabOf (ρ 4).d).length - (ρ 1016).i).toNat) }
/-- And 1017 .. 1019 the table now, 1020 the inner round; 45 is the outer round in the tree (see show2.sh). -/
def lawDetectsJ : Inv := { key := 15, nv := 21, env := [(0, iv .i64 (.var 0)), (2, iv .u64 (.var 6)), (7, iv .i64 (.var 2)), (8, ptr 1000), (10, .one (.vslice 1013 (.lit 0) (.var 2) (.var 1014) 2)), (11, iv .i64 (.var 1016)), (12, .one (.vslice 1017 (.lit 0) (.var 2) (.var 1018) 2)), (13, iv .i64 (.var 1020))], heap := lMach 1000 (.var 0) (.var 2) ++ [.arr 1013 25 kMem (.var 1015) (.var 1014), .arr 1017 25 kMem (.var 1019) (.var 1018)], inv := (fun ρ => 0 ≤ (ρ 1016).i ∧ (ρ 1016).i < (ρ 2).i - 1 + 10 + waitOf (tabOf (ρ 4).d).length ∧ lOk ρ 1000 (ρ 2).i ((ρ 1016).i + 1) ∧ lM ρ 1000 (ρ 0).i = tickN (ρ 6).i ((ρ 1016).i.toNat + 1) (heardM (ρ 0).i (ρ 2).i 1 (tabOf (ρ 4).d)) ∧ tabOf (ρ 1015).d = (heardM (ρ 0).i (ρ 2).i 1 (tabOf (ρ 4).d)).tab ∧ tabOf (ρ 1019).d = (tickN (ρ 6).i ((ρ 1016).i.toNat + 1) (heardM (ρ 0).i (ρ 2).i 1 (tabOf (ρ 4).d))).tab ∧ 0 ≤ (ρ 1020).i ∧ (ρ 1020).i ≤ (ρ 2).i ∧ (ρ 1016).i = (ρ 45).i), mu := (fun ρ => ((ρ 2).i - (ρ 1020).i).toNat) }
end Go.Eng
