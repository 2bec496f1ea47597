/- The laws Refutes, Helpers, Detects, Leaves: contracts. -/
import Derived.Test.YtlmkkphojjodhaaOB
set_option linter.unusedSimpArgs false
set_option linter.unusedVariables false
namespace Go.Eng
open Go

def lawRefutesC : Ctr := { fn := 15, nv := 7, args := [iv .i64 (.var 0), iv .i64 (.var 1), tArg 2 3 4], heap := [], ro := [tRo 2 5 6], pre := fun ρ => (ρ 3).i = (ρ 5).d.length ∧ (ρ 3).i ≤ big, alts := lawWaitsC.alts }
end Go.Eng
