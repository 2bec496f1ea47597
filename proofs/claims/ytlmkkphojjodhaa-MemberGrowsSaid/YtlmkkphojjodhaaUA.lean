/- The law Grows: contracts. -/
import Derived.Test.YtlmkkphojjodhaaGF
set_option linter.unusedSimpArgs false
set_option linter.unusedVariables false
namespace Go.Eng
open Go

/-! ### Scripts -/
def kOp : List CK := [.int .i64, .int .u64] ++ kMsg
/-- A script's calls: their tables lie in this piece of memory, their numbers are in range. -/
def opsOk (h : Hp) (d : Rows') : Prop := ∀ row ∈ d, (∃ t, Rd h kMem (row[8]?.getD .nilFunc) t ∧ (t.length : Int) ≤ big) ∧ 0 ≤ rowI row 1 ∧ rowI row 1 < 18446744073709551616
def sArg (r l c : Nat) : SV := .one (.vslice r (.lit 0) (.var l) (.var c) 118)
def sRo (r d k : Nat) : SH := .arr r 87 kOp (.var d) (.var k)
def heavy42C : Ctr := { fn := 42, nv := 5, args := [sArg 0 1 2], heap := [], ro := [sRo 0 3 2, .abs 4 2], pre := fun ρ => (ρ 1).i = (ρ 3).d.length ∧ (ρ 1).i ≤ big ∧ opsOk (ρ 4).h (ρ 3).d, alts := [{ k := 1, ret := bret 5, heap := [], post := fun ρ => (ρ 5).b = false → (ρ 1).i ≤ 150 }] }
def heavy42I : Inv := { key := 4, nv := 1, env := [(0, sArg 0 1 2), (3, iv .i64 (.var 1000))], heap := [], inv := (fun ρ => 0 ≤ (ρ 1000).i ∧ (ρ 1000).i ≤ (ρ 1).i ∧ (ρ 1).i ≤ 150), mu := (fun ρ => ((ρ 1).i - (ρ 1000).i).toNat) }

/-! ### Grows -/
/-- A machine of which nothing is known but its sizes: 13 whether it has left. -/
def lMachG (b : Nat) (self n : T) : List SH := [mStruct b (b + 1) (b + 2) (b + 3) self n n (.var (b + 4)) (.var (b + 5)) (.var (b + 6)) (.var (b + 7)) (.var (b + 8)) (.var (b + 9)) (.var (b + 13)), .arr (b + 1) 25 kMem (.var (b + 10)) n, .arr (b + 2) 22 [.int .u64] (.var (b + 11)) n, .arr (b + 3) 63 kProbe (.var (b + 12)) (.var (b + 8))]
def lMG (ρ : Env) (b : Nat) (self : Int) : Mach := machV self (ρ (b + 10)).d (ρ (b + 11)).d (ρ (b + 4)).i (ρ (b + 5)).i (ρ (b + 6)).i (ρ (b + 7)).i (ρ (b + 12)).d (ρ (b + 9)).i (ρ (b + 13)).b
/-- It pings others, and its own entry is one of a machine's. -/
def GW (m : Mach) : Prop := machWf m ∧ (∀ p ∈ m.probes, p.target ≠ m.self) ∧ ∃ x, m.tab[m.self.toNat]? = some x ∧ 1 ≤ x.2 ∧ x.2 ≤ 4
def GM (n i : Int) (m : Mach) (dT dS dP : Rows') (np : Int) : Prop := okM dT dS dP np n i ∧ GW m
/-- No entry is replaced by an older one, and the own one not by calls of the first two kinds. -/
def GrStep (me kind : Int) (a b : List Ent) : Prop := ∀ (j : Nat) (x y : Ent), a[j]? = some x → b[j]? = some y → newerE x y = false ∧ ((j : Int) = me → kind ≤ 2 → y = x)
/-- Between two calls: k calls, i is next. -/
def GOut (n k i : Int) (m : Mach) (dT dS dP : Rows') (np : Int) (dB : Rows') : Prop :=
  0 ≤ i ∧ i ≤ k ∧ k ≤ 150 ∧ GM n i m dT dS dP np ∧ (dB.length : Int) = n ∧ tabOf dB = tabOf dT
/-- Behind a call, entry j is next. -/
def GRow (me n k i0 i j : Int) (m : Mach) (dT dS dP : Rows') (np : Int) (dB box dN : Rows') : Prop :=
  0 ≤ i ∧ i < k ∧ k ≤ 150 ∧ GM n (i + 1) m dT dS dP np ∧ (dB.length : Int) = n ∧ (dN.length : Int) = n ∧ tabOf dN = tabOf dT ∧ GrStep me (cellI box 0 0) (tabOf dB) (tabOf dN) ∧ box.length = 1 ∧ 0 ≤ j ∧ j ≤ n ∧ i = i0
def lawGrowsC : Ctr := { fn := 11, nv := 7, args := [iv .i64 (.var 0), iv .i64 (.var 1), sArg 2 3 4], heap := [], ro := [sRo 2 5 4, .abs 6 2], pre := fun ρ => (ρ 3).i = (ρ 5).d.length ∧ (ρ 3).i ≤ big ∧ opsOk (ρ 6).h (ρ 5).d, alts := lawWaitsC.alts }
def gEnv : List (Nat × SV) := [(0, iv .i64 (.var 0)), (1, iv .i64 (.var 1)), (2, sArg 2 3 4), (7, ptr 1000), (9, .one (.vslice 1014 (.lit 0) (.var 1) (.var 1015) 2)), (10, iv .i64 (.var 1017))]
def gHeap : List SH := lMachG 1000 (.var 0) (.var 1) ++ [.arr 1014 25 kMem (.var 1016) (.var 1015)]
/-- 1000 .. 1013 the machine, 1014 .. 1016 its table before, 1017 the call's number. -/
def lawGrowsI : Inv := { key := 8, nv := 18, env := gEnv, heap := gHeap, inv := (fun ρ => GOut (ρ 1).i (ρ 3).i (ρ 1017).i (lMG ρ 1000 (ρ 0).i) (ρ 1010).d (ρ 1011).d (ρ 1012).d (ρ 1007).i (ρ 1016).d), mu := (fun ρ => ((ρ 3).i - (ρ 1017).i).toNat) }
/-- 1018, 1019 the call, 1020 .. 1022 the table now, 1023 the entry's number; 37 is the call's number in the tree. -/
def lawGrowsJ : Inv := { key := 24, nv := 24, env := gEnv ++ [(11, .one (.vptr 1018 (.lit 0) 118 0)), (12, .one (.vslice 1020 (.lit 0) (.var 1) (.var 1021) 2)), (13, iv .i64 (.var 1023))], heap := gHeap ++ [.arr 1018 87 kOp (.var 1019) (.lit 1), .arr 1020 25 kMem (.var 1022) (.var 1021)], inv := (fun ρ => GRow (ρ 0).i (ρ 1).i (ρ 3).i (ρ 37).i (ρ 1017).i (ρ 1023).i (lMG ρ 1000 (ρ 0).i) (ρ 1010).d (ρ 1011).d (ρ 1012).d (ρ 1007).i (ρ 1016).d (ρ 1019).d (ρ 1022).d), mu := (fun ρ => ((ρ 1).i - (ρ 1023).i).toNat) }
end Go.Eng
