/- The laws Helpers and Leaves: contracts. -/
import Derived.Test.YtlmkkphojjodhaaPA
set_option linter.unusedSimpArgs false
set_option linter.unusedVariables false
namespace Go.Eng
open Go

/-! ### Helpers -/
def lawHelpersC : Ctr := { fn := 7, nv := 7, args := [iv .i64 (.var 0), tArg 1 2 3, iv .u64 (.var 6)], heap := [], ro := [tRo 1 4 5], pre := fun ρ => (ρ 2).i = (ρ 4).d.length ∧ (ρ 2).i ≤ big ∧ 0 ≤ (ρ 6).i ∧ (ρ 6).i < 18446744073709551616, alts := lawWaitsC.alts }
def hTab (ρ : Env) : List Ent := (heardM (ρ 0).i (ρ 2).i 1 (tabOf (ρ 4).d)).tab
def hMach (ρ : Env) (k : Nat) : Mach := tickN (ρ 6).i k (heardM (ρ 0).i (ρ 2).i 1 (tabOf (ρ 4).d))
/-- The live peers: 1013 region, 1014 capacity, 1015 rows, 1017 how many. -/
def hLive (ρ : Env) : Prop := intsOf (ρ 1015).d = liveT (hTab ρ) ∧ (ρ 1017).i = (ρ 1015).d.length ∧ (ρ 1017).i ≤ (ρ 2).i
/-- 1000 .. 1012 the machine, 1016 the round. -/
def lawHelpersI : Inv := { key := 10, nv := 18, env := [(0, iv .i64 (.var 0)), (2, iv .u64 (.var 6)), (8, ptr 1000), (10, .one (.vslice 1013 (.lit 0) (.var 1017) (.var 1014) 1)), (11, iv .i64 (.var 1016))], heap := lMach 1000 (.var 0) (.var 2) ++ [.arr 1013 3 [.int .i64] (.var 1015) (.var 1014)], inv := (fun ρ => 0 ≤ (ρ 1016).i ∧ (ρ 1016).i ≤ 5 ∧ lOk ρ 1000 (ρ 2).i (ρ 1016).i ∧ lM ρ 1000 (ρ 0).i = hMach ρ (ρ 1016).i.toNat ∧ hLive ρ), mu := (fun ρ => (5 - (ρ 1016).i).toNat) }
/-- The fifth tick's messages 1018 .. 1022 and the probes 1023 .. 1026. -/
def hMsgs (ρ : Env) : Prop := (ρ 1016).i = 4 ∧ lOk ρ 1000 (ρ 2).i 5 ∧ lM ρ 1000 (ρ 0).i = hMach ρ 5 ∧ hLive ρ ∧ (ρ 1019).i = (ρ 1021).d.length ∧ stamped (ρ 1022).h (tickMsgs (hMach ρ 4) (ρ 6).i) (ρ 0).i (hMach ρ 5).tab (tickMsgs (hMach ρ 4) (ρ 6).i).length (ρ 1021).d ∧ prbsOf (ρ 1026).d = (hMach ρ 5).probes ∧ (ρ 1024).i = (ρ 1026).d.length
def hEnv : List (Nat × SV) := [(0, iv .i64 (.var 0)), (2, iv .u64 (.var 6)), (8, ptr 1000), (10, .one (.vslice 1013 (.lit 0) (.var 1017) (.var 1014) 1)), (11, iv .i64 (.var 1016)), (12, .one (.vslice 1018 (.lit 0) (.var 1019) (.var 1020) 116)), (13, .one (.vslice 1023 (.lit 0) (.var 1024) (.var 1025) 4))]
def hHeap : List SH := lMach 1000 (.var 0) (.var 2) ++ [.arr 1013 3 [.int .i64] (.var 1015) (.var 1014), .arr 1018 43 kMsg (.var 1021) (.var 1020), .abs 1022 2, .arr 1023 63 kProbe (.var 1026) (.var 1025)]
def otherI (ρ : Env) (x : Int) : Bool := !(x == (ρ 0).i || x == nextP (ρ 2).i (ρ 0).i (ρ 0).i)
/-- The count of the others: 1027, at 1028. -/
def lawHelpersJ : Inv := { key := 21, nv := 29, env := hEnv ++ [(14, iv .i64 (.var 1027)), (15, iv .i64 (.var 1028))], heap := hHeap, inv := (fun ρ => hMsgs ρ ∧ 0 ≤ (ρ 1028).i ∧ (ρ 1028).i ≤ (ρ 1017).i ∧ (ρ 1027).i = (((intsOf (ρ 1015).d).take (ρ 1028).i.toNat).filter (otherI ρ)).length), mu := (fun ρ => ((ρ 1017).i - (ρ 1028).i).toNat) }
/-- The messages: at 1027. -/
def lawHelpersK : Inv := { key := 28, nv := 28, env := hEnv ++ [(16, iv .i64 (.var 1027))], heap := hHeap, inv := (fun ρ => hMsgs ρ ∧ 0 ≤ (ρ 1027).i ∧ (ρ 1027).i ≤ (ρ 1019).i - 1), mu := (fun ρ => ((ρ 1019).i - (ρ 1027).i).toNat) }
/-- Is the addressee live? 1028, at 1029. -/
def lawHelpersL : Inv := { key := 32, nv := 30, env := hEnv ++ [(16, iv .i64 (.var 1027)), (17, .one (.vbool (.var 1028))), (18, iv .i64 (.var 1029))], heap := hHeap, inv := (fun ρ => hMsgs ρ ∧ 0 ≤ (ρ 1027).i ∧ (ρ 1027).i < (ρ 1019).i - 1 ∧ 0 ≤ (ρ 1029).i ∧ (ρ 1029).i ≤ (ρ 1017).i ∧ (ρ 1028).b = ((intsOf (ρ 1015).d).take (ρ 1029).i.toNat).any (fun x => x == cellI (ρ 1021).d (ρ 1027).i 2)), mu := (fun ρ => ((ρ 1017).i - (ρ 1029).i).toNat) }
end Go.Eng
