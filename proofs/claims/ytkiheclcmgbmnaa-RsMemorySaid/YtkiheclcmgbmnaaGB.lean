import Derived.Test.YtkiheclcmgbmnaaGA
import Derived.Test.YtkiheclcmgbmnaaProg
import Derived.Tactics
import Derived.Tactics2
import Derived.Defers
import Derived.Laws.Pointers
import Derived.Laws.LoneSync
import Derived.RegionTactic
import Derived.RegionCalls
import Derived.ChangeAlike
set_option linter.unusedSimpArgs false
set_option linter.unusedVariables false
set_option maxRecDepth 100000
namespace Go.Proofs
open Go Go.Eng

def o_newField : Out := (.fresh 0 (.ret 0 ⟨0, [(1, (.t (.rcons (.vint .u32 (.lit (0))) (.rcons (.vint .i32 (.lit (0))) (.rcons (.vint .u32 (.lit (0))) (.rcons (.vint .u8 (.lit (0))) (.rcons (.vint .u8 (.lit (0))) (.rcons (.vint .u8 (.lit (0))) (.rcons (.vint .u8 (.lit (0))) (.rcons (.vint .u8 (.lit (0))) (.rcons (.vint .u8 (.lit (0))) (.rcons (.vint .u8 (.lit (0))) (.rcons (.vint .u8 (.lit (0))) (.rcons (.vint .u8 (.lit (0))) (.rcons (.vint .u8 (.lit (0))) (.rcons (.vint .u8 (.lit (0))) (.rcons (.vint .u8 (.lit (0))) (.rcons (.vint .u8 (.lit (0))) (.rcons (.vint .u8 (.lit (0))) (.rcons (.vint .u8 (.lit (0))) (.rcons (.vint .u8 (.lit (0))) (.rcons (.vint .u8 (.lit (0))) (.rcons (.vint .u8 (.lit (0))) (.rcons (.vint .u8 (.lit (0))) (.rcons (.vint .u8 (.lit (0))) (.rcons (.vint .u8 (.lit (0))) (.rcons (.vint .u8 (.lit (0))) (.rcons (.vint .u8 (.lit (0))) (.rcons (.vint .u8 (.lit (0))) (.rcons (.vint .u8 (.lit (0))) (.rcons (.vint .u8 (.lit (0))) (.rcons (.vint .u8 (.lit (0))) (.rcons (.vint .u8 (.lit (0))) (.rcons (.vint .u8 (.lit (0))) (.rcons (.vint .u8 (.lit (0))) (.rcons (.vint .u8 (.lit (0))) (.rcons (.vint .u8 (.lit (0))) (.rcons (.vint .u8 (.lit (0))) (.rcons (.vint .u8 (.lit (0))) (.rcons (.vint .u8 (.lit (0))) (.rcons (.vint .u8 (.lit (0))) (.rcons (.vint .u8 (.lit (0))) (.rcons (.vint .u8 (.lit (0))) (.rcons (.vint .u8 (.lit (0))) (.rcons (.vint .u8 (.lit (0))) (.rcons (.vint .u8 (.lit (0))) (.rcons (.vint .u8 (.lit (0))) (.rcons (.vint .u8 (.lit (0))) (.rcons (.vint .u8 (.lit (0))) (.rcons (.vint .u8 (.lit (0))) (.rcons (.vint .u8 (.lit (0))) (.rcons (.vint .u8 (.lit (0))) (.rcons (.vint .u8 (.lit (0))) (.rcons (.vint .u8 (.lit (0))) (.rcons (.vint .u8 (.lit (0))) (.rcons (.vint .u8 (.lit (0))) (.rcons (.vint .u8 (.lit (0))) (.rcons (.vint .u8 (.lit (0))) (.rcons (.vint .u8 (.lit (0))) (.rcons (.vint .u8 (.lit (0))) (.rcons (.vint .u8 (.lit (0))) (.rcons (.vint .u8 (.lit (0))) (.rcons (.vint .u8 (.lit (0))) (.rcons (.vint .u8 (.lit (0))) (.rcons (.vint .u8 (.lit (0))) (.rcons (.vint .u8 (.lit (0))) (.rcons (.vint .u8 (.lit (0))) (.rcons (.vint .u8 (.lit (0))) (.rcons (.vint .u8 (.lit (0))) (.rcons (.vint .u8 (.lit (0))) (.rcons (.vint .u8 (.lit (0))) (.rcons (.vint .u8 (.lit (0))) (.rcons (.vint .u8 (.lit (0))) (.rcons (.vint .u8 (.lit (0))) (.rcons (.vint .u8 (.lit (0))) (.rcons (.vint .u8 (.lit (0))) (.rcons (.vint .u8 (.lit (0))) (.rcons (.vint .u8 (.lit (0))) (.rcons (.vint .u8 (.lit (0))) (.rcons (.vint .u8 (.lit (0))) (.rcons (.vint .u8 (.lit (0))) (.rcons (.vint .u8 (.lit (0))) (.rcons (.vint .u8 (.lit (0))) (.rcons (.vint .u8 (.lit (0))) (.rcons (.vint .u8 (.lit (0))) (.rcons (.vint .u8 (.lit (0))) (.rcons (.vint .u8 (.lit (0))) (.rcons (.vint .u8 (.lit (0))) (.rcons (.vint .u8 (.lit (0))) (.rcons (.vint .u8 (.lit (0))) (.rcons (.vint .u8 (.lit (0))) (.rcons (.vint .u8 (.lit (0))) (.rcons (.vint .u8 (.lit (0))) (.rcons (.vint .u8 (.lit (0))) (.rcons (.vint .u8 (.lit (0))) (.rcons (.vint .u8 (.lit (0))) (.rcons (.vint .u8 (.lit (0))) (.rcons (.vint .u8 (.lit (0))) (.rcons (.vint .u8 (.lit (0))) (.rcons (.vint .u8 (.lit (0))) (.rcons (.vint .u8 (.lit (0))) (.rcons (.vint .u8 (.lit (0))) (.rcons (.vint .u8 (.lit (0))) (.rcons (.vint .u8 (.lit (0))) (.rcons (.vint .u8 (.lit (0))) (.rcons (.vint .u8 (.lit (0))) (.rcons (.vint .u8 (.lit (0))) (.rcons (.vint .u8 (.lit (0))) (.rcons (.vint .u8 (.lit (0))) (.rcons (.vint .u8 (.lit (0))) (.rcons (.vint .u8 (.lit (0))) (.rcons (.vint .u8 (.lit (0))) (.rcons (.vint .u8 (.lit (0))) (.rcons (.vint .u8 (.lit (0))) (.rcons (.vint .u8 (.lit (0))) (.rcons (.vint .u8 (.lit (0))) (.rcons (.vint .u8 (.lit (0))) (.rcons (.vint .u8 (.lit (0))) (.rcons (.vint .u8 (.lit (0))) (.rcons (.vint .u8 (.lit (0))) (.rcons (.vint .u8 (.lit (0))) (.rcons (.vint .u8 (.lit (0))) (.rcons (.vint .u8 (.lit (0))) (.rcons (.vint .u8 (.lit (0))) (.rcons (.vint .u8 (.lit (0))) (.rcons (.vint .u8 (.lit (0))) (.rcons (.vint .u8 (.lit (0))) (.rcons (.vint .u8 (.lit (0))) (.rcons (.vint .u8 (.lit (0))) (.rcons (.vint .u8 (.lit (0))) (.rcons (.vint .u8 (.lit (0))) (.rcons (.vint .u8 (.lit (0))) (.rcons (.vint .u8 (.lit (0))) (.rcons (.vint .u8 (.lit (0))) (.rcons (.vint .u8 (.lit (0))) (.rcons (.vint .u8 (.lit (0))) (.rcons (.vint .u8 (.lit (0))) (.rcons (.vint .u8 (.lit (0))) (.rcons (.vint .u8 (.lit (0))) (.rcons (.vint .u8 (.lit (0))) (.rcons (.vint .u8 (.lit (0))) (.rcons (.vint .u8 (.lit (0))) (.rcons (.vint .u8 (.lit (0))) (.rcons (.vint .u8 (.lit (0))) (.rcons (.vint .u8 (.lit (0))) (.rcons (.vint .u8 (.lit (0))) (.rcons (.vint .u8 (.lit (0))) (.rcons (.vint .u8 (.lit (0))) (.rcons (.vint .u8 (.lit (0))) (.rcons (.vint .u8 (.lit (0))) (.rcons (.vint .u8 (.lit (0))) (.rcons (.vint .u8 (.lit (0))) (.rcons (.vint .u8 (.lit (0))) (.rcons (.vint .u8 (.lit (0))) (.rcons (.vint .u8 (.lit (0))) (.rcons (.vint .u8 (.lit (0))) (.rcons (.vint .u8 (.lit (0))) (.rcons (.vint .u8 (.lit (0))) (.rcons (.vint .u8 (.lit (0))) (.rcons (.vint .u8 (.lit (0))) (.rcons (.vint .u8 (.lit (0))) (.rcons (.vint .u8 (.lit (0))) (.rcons (.vint .u8 (.lit (0))) (.rcons (.vint .u8 (.lit (0))) (.rcons (.vint .u8 (.lit (0))) (.rcons (.vint .u8 (.lit (0))) (.rcons (.vint .u8 (.lit (0))) (.rcons (.vint .u8 (.lit (0))) (.rcons (.vint .u8 (.lit (0))) (.rcons (.vint .u8 (.lit (0))) (.rcons (.vint .u8 (.lit (0))) (.rcons (.vint .u8 (.lit (0))) (.rcons (.vint .u8 (.lit (0))) (.rcons (.vint .u8 (.lit (0))) (.rcons (.vint .u8 (.lit (0))) (.rcons (.vint .u8 (.lit (0))) (.rcons (.vint .u8 (.lit (0))) (.rcons (.vint .u8 (.lit (0))) (.rcons (.vint .u8 (.lit (0))) (.rcons (.vint .u8 (.lit (0))) (.rcons (.vint .u8 (.lit (0))) (.rcons (.vint .u8 (.lit (0))) (.rcons (.vint .u8 (.lit (0))) (.rcons (.vint .u8 (.lit (0))) (.rcons (.vint .u8 (.lit (0))) (.rcons (.vint .u8 (.lit (0))) (.rcons (.vint .u8 (.lit (0))) (.rcons (.vint .u8 (.lit (0))) (.rcons (.vint .u8 (.lit (0))) (.rcons (.vint .u8 (.lit (0))) (.rcons (.vint .u8 (.lit (0))) (.rcons (.vint .u8 (.lit (0))) (.rcons (.vint .u8 (.lit (0))) (.rcons (.vint .u8 (.lit (0))) (.rcons (.vint .u8 (.lit (0))) (.rcons (.vint .u8 (.lit (0))) (.rcons (.vint .u8 (.lit (0))) (.rcons (.vint .u8 (.lit (0))) (.rcons (.vint .u8 (.lit (0))) (.rcons (.vint .u8 (.lit (0))) (.rcons (.vint .u8 (.lit (0))) (.rcons (.vint .u8 (.lit (0))) (.rcons (.vint .u8 (.lit (0))) (.rcons (.vint .u8 (.lit (0))) (.rcons (.vint .u8 (.lit (0))) (.rcons (.vint .u8 (.lit (0))) (.rcons (.vint .u8 (.lit (0))) (.rcons (.vint .u8 (.lit (0))) (.rcons (.vint .u8 (.lit (0))) (.rcons (.vint .u8 (.lit (0))) (.rcons (.vint .u8 (.lit (0))) (.rcons (.vint .u8 (.lit (0))) (.rcons (.vint .u8 (.lit (0))) (.rcons (.vint .u8 (.lit (0))) (.rcons (.vint .u8 (.lit (0))) (.rcons (.vint .u8 (.lit (0))) (.rcons (.vint .u8 (.lit (0))) (.rcons (.vint .u8 (.lit (0))) (.rcons (.vint .u8 (.lit (0))) (.rcons (.vint .u8 (.lit (0))) (.rcons (.vint .u8 (.lit (0))) (.rcons (.vint .u8 (.lit (0))) (.rcons (.vint .u8 (.lit (0))) (.rcons (.vint .u8 (.lit (0))) (.rcons (.vint .u8 (.lit (0))) (.rcons (.vint .u8 (.lit (0))) (.rcons (.vint .u8 (.lit (0))) (.rcons (.vint .u8 (.lit (0))) (.rcons (.vint .u8 (.lit (0))) (.rcons (.vint .u8 (.lit (0))) (.rcons (.vint .u8 (.lit (0))) (.rcons (.vint .u8 (.lit (0))) (.rcons (.vint .u8 (.lit (0))) (.rcons (.vint .u8 (.lit (0))) (.rcons (.vint .u8 (.lit (0))) (.rcons (.vint .u8 (.lit (0))) (.rcons (.vint .u8 (.lit (0))) (.rcons (.vint .u8 (.lit (0))) (.rcons (.vint .u8 (.lit (0))) (.rcons (.vint .u8 (.lit (0))) (.rcons (.vint .u8 (.lit (0))) (.rcons (.vint .u8 (.lit (0))) (.rcons (.vint .u8 (.lit (0))) (.rcons (.vint .u8 (.lit (0))) (.rcons (.vint .u8 (.lit (0))) (.rcons (.vint .u8 (.lit (0))) (.rcons (.vint .u8 (.lit (0))) (.rcons (.vint .u8 (.lit (0))) (.rcons (.vint .u8 (.lit (0))) (.rcons (.vint .u8 (.lit (0))) (.rcons (.vint .u8 (.lit (0))) (.rcons (.vint .u8 (.lit (0))) (.rcons (.vint .u8 (.lit (0))) (.rcons (.vint .u8 (.lit (0))) (.rcons (.vint .u8 (.lit (0))) (.rcons (.vint .u8 (.lit (0))) (.rcons (.vint .u8 (.lit (0))) (.rcons (.vint .u8 (.lit (0))) (.rcons (.vint .u8 (.lit (0))) (.rcons (.vint .u8 (.lit (0))) (.rcons (.vint .u8 (.lit (0))) (.rcons (.vint .u8 (.lit (0))) (.rcons (.vint .u8 (.lit (0))) (.rcons (.vint .u8 (.lit (0))) (.rcons (.vint .u8 (.lit (0))) (.rcons (.vint .u8 (.lit (0))) (.rcons (.vint .u8 (.lit (0))) (.rcons (.vint .u8 (.lit (0))) (.rcons (.vint .u8 (.lit (0))) (.rcons (.vint .u8 (.lit (0))) (.rcons (.vint .u8 (.lit (0))) (.rcons (.vint .u8 (.lit (0))) (.rcons (.vint .u8 (.lit (0))) (.rcons (.vint .u8 (.lit (0))) (.rcons (.vint .u8 (.lit (0))) (.rcons (.vint .u8 (.lit (0))) (.rcons (.vint .u8 (.lit (0))) (.rcons (.vint .u8 (.lit (0))) (.rcons (.vint .u8 (.lit (0))) (.rcons (.vint .u8 (.lit (0))) (.rcons (.vint .u8 (.lit (0))) (.rcons (.vint .u8 (.lit (0))) (.rcons (.vint .u8 (.lit (0))) (.rcons (.vint .u8 (.lit (0))) (.rcons (.vint .u8 (.lit (0))) (.rcons (.vint .u8 (.lit (0))) (.rcons (.vint .u8 (.lit (0))) (.rcons (.vint .u8 (.lit (0))) (.rcons (.vint .u8 (.lit (0))) (.rcons (.vint .u8 (.lit (0))) (.rcons (.vint .u8 (.lit (0))) (.rcons (.vint .u8 (.lit (0))) (.rcons (.vint .u8 (.lit (0))) (.rcons (.vint .u8 (.lit (0))) (.rcons (.vint .u8 (.lit (0))) (.rcons (.vint .u8 (.lit (0))) (.rcons (.vint .u8 (.lit (0))) (.rcons (.vint .u8 (.lit (0))) (.rcons (.vint .u8 (.lit (0))) (.rcons (.vint .u8 (.lit (0))) (.rcons (.vint .u8 (.lit (0))) (.rcons (.vint .u8 (.lit (0))) (.rcons (.vint .u8 (.lit (0))) (.rcons (.vint .u8 (.lit (0))) (.rcons (.vint .u8 (.lit (0))) (.rcons (.vint .u8 (.lit (0))) (.rcons (.vint .u8 (.lit (0))) (.rcons (.vint .u8 (.lit (0))) (.rcons (.vint .u8 (.lit (0))) (.rcons (.vint .u8 (.lit (0))) (.rcons (.vint .u8 (.lit (0))) (.rcons (.vint .u8 (.lit (0))) (.rcons (.vint .u8 (.lit (0))) (.rcons (.vint .u8 (.lit (0))) (.rcons (.vint .u8 (.lit (0))) (.rcons (.vint .u8 (.lit (0))) (.rcons (.vint .u8 (.lit (0))) (.rcons (.vint .u8 (.lit (0))) (.rcons (.vint .u8 (.lit (0))) (.rcons (.vint .u8 (.lit (0))) (.rcons (.vint .u8 (.lit (0))) (.rcons (.vint .u8 (.lit (0))) (.rcons (.vint .u8 (.lit (0))) (.rcons (.vint .u8 (.lit (0))) (.rcons (.vint .u8 (.lit (0))) (.rcons (.vint .u8 (.lit (0))) (.rcons (.vint .u8 (.lit (0))) (.rcons (.vint .u8 (.lit (0))) (.rcons (.vint .u8 (.lit (0))) (.rcons (.vint .u8 (.lit (0))) (.rcons (.vint .u8 (.lit (0))) (.rcons (.vint .u8 (.lit (0))) (.rcons (.vint .u8 (.lit (0))) (.rcons (.vint .u8 (.lit (0))) (.rcons (.vint .u8 (.lit (0))) (.rcons (.vint .u8 (.lit (0))) (.rcons (.vint .u8 (.lit (0))) (.rcons (.vint .u8 (.lit (0))) (.rcons (.vint .u8 (.lit (0))) (.rcons (.vint .u8 (.lit (0))) (.rcons (.vint .u8 (.lit (0))) (.rcons (.vint .u8 (.lit (0))) (.rcons (.vint .u8 (.lit (0))) (.rcons (.vint .u8 (.lit (0))) (.rcons (.vint .u8 (.lit (0))) (.rcons (.vint .u8 (.lit (0))) (.rcons (.vint .u8 (.lit (0))) (.rcons (.vint .u8 (.lit (0))) (.rcons (.vint .u8 (.lit (0))) (.rcons (.vint .u8 (.lit (0))) (.rcons (.vint .u8 (.lit (0))) (.rcons (.vint .u8 (.lit (0))) (.rcons (.vint .u8 (.lit (0))) (.rcons (.vint .u8 (.lit (0))) (.rcons (.vint .u8 (.lit (0))) (.rcons (.vint .u8 (.lit (0))) (.rcons (.vint .u8 (.lit (0))) (.rcons (.vint .u8 (.lit (0))) (.rcons (.vint .u8 (.lit (0))) (.rcons (.vint .u8 (.lit (0))) (.rcons (.vint .u8 (.lit (0))) (.rcons (.vint .u8 (.lit (0))) (.rcons (.vint .u8 (.lit (0))) (.rcons (.vint .u8 (.lit (0))) (.rcons (.vint .u8 (.lit (0))) (.rcons (.vint .u8 (.lit (0))) (.rcons (.vint .u8 (.lit (0))) (.rcons (.vint .u8 (.lit (0))) (.rcons (.vint .u8 (.lit (0))) (.rcons (.vint .u8 (.lit (0))) (.rcons (.vint .u8 (.lit (0))) (.rcons (.vint .u8 (.lit (0))) (.rcons (.vint .u8 (.lit (0))) (.rcons (.vint .u8 (.lit (0))) (.rcons (.vint .u8 (.lit (0))) (.rcons (.vint .u8 (.lit (0))) (.rcons (.vint .u8 (.lit (0))) (.rcons (.vint .u8 (.lit (0))) (.rcons (.vint .u8 (.lit (0))) (.rcons (.vint .u8 (.lit (0))) (.rcons (.vint .u8 (.lit (0))) (.rcons (.vint .u8 (.lit (0))) (.rcons (.vint .u8 (.lit (0))) (.rcons (.vint .u8 (.lit (0))) (.rcons (.vint .u8 (.lit (0))) (.rcons (.vint .u8 (.lit (0))) (.rcons (.vint .u8 (.lit (0))) (.rcons (.vint .u8 (.lit (0))) (.rcons (.vint .u8 (.lit (0))) (.rcons (.vint .u8 (.lit (0))) (.rcons (.vint .u8 (.lit (0))) (.rcons (.vint .u8 (.lit (0))) (.rcons (.vint .u8 (.lit (0))) (.rcons (.vint .u8 (.lit (0))) (.rcons (.vint .u8 (.lit (0))) (.rcons (.vint .u8 (.lit (0))) (.rcons (.vint .u8 (.lit (0))) (.rcons (.vint .u8 (.lit (0))) (.rcons (.vint .u8 (.lit (0))) (.rcons (.vint .u8 (.lit (0))) (.rcons (.vint .u8 (.lit (0))) (.rcons (.vint .u8 (.lit (0))) (.rcons (.vint .u8 (.lit (0))) (.rcons (.vint .u8 (.lit (0))) (.rcons (.vint .u8 (.lit (0))) (.rcons (.vint .u8 (.lit (0))) (.rcons (.vint .u8 (.lit (0))) (.rcons (.vint .u8 (.lit (0))) (.rcons (.vint .u8 (.lit (0))) (.rcons (.vint .u8 (.lit (0))) (.rcons (.vint .u8 (.lit (0))) (.rcons (.vint .u8 (.lit (0))) (.rcons (.vint .u8 (.lit (0))) (.rcons (.vint .u8 (.lit (0))) (.rcons (.vint .u8 (.lit (0))) (.rcons (.vint .u8 (.lit (0))) (.rcons (.vint .u8 (.lit (0))) (.rcons (.vint .u8 (.lit (0))) (.rcons (.vint .u8 (.lit (0))) (.rcons (.vint .u8 (.lit (0))) (.rcons (.vint .u8 (.lit (0))) (.rcons (.vint .u8 (.lit (0))) (.rcons (.vint .u8 (.lit (0))) (.rcons (.vint .u8 (.lit (0))) (.rcons (.vint .u8 (.lit (0))) (.rcons (.vint .u8 (.lit (0))) (.rcons (.vint .u8 (.lit (0))) (.rcons (.vint .u8 (.lit (0))) (.rcons (.vint .u8 (.lit (0))) (.rcons (.vint .u8 (.lit (0))) (.rcons (.vint .u8 (.lit (0))) (.rcons (.vint .u8 (.lit (0))) (.rcons (.vint .u8 (.lit (0))) (.rcons (.vint .u8 (.lit (0))) (.rcons (.vint .u8 (.lit (0))) (.rcons (.vint .u8 (.lit (0))) (.rcons (.vint .u8 (.lit (0))) (.rcons (.vint .u8 (.lit (0))) (.rcons (.vint .u8 (.lit (0))) (.rcons (.vint .u8 (.lit (0))) (.rcons (.vint .u8 (.lit (0))) (.rcons (.vint .u8 (.lit (0))) (.rcons (.vint .u8 (.lit (0))) (.rcons (.vint .u8 (.lit (0))) (.rcons (.vint .u8 (.lit (0))) (.rcons (.vint .u8 (.lit (0))) (.rcons (.vint .u8 (.lit (0))) (.rcons (.vint .u8 (.lit (0))) (.rcons (.vint .u8 (.lit (0))) (.rcons (.vint .u8 (.lit (0))) (.rcons (.vint .u8 (.lit (0))) (.rcons (.vint .u8 (.lit (0))) (.rcons (.vint .u8 (.lit (0))) (.rcons (.vint .u8 (.lit (0))) (.rcons (.vint .u8 (.lit (0))) (.rcons (.vint .u8 (.lit (0))) (.rcons (.vint .u8 (.lit (0))) (.rcons (.vint .u8 (.lit (0))) (.rcons (.vint .u8 (.lit (0))) (.rcons (.vint .u8 (.lit (0))) (.rcons (.vint .u8 (.lit (0))) (.rcons (.vint .u8 (.lit (0))) (.rcons (.vint .u8 (.lit (0))) (.rcons (.vint .u8 (.lit (0))) (.rcons (.vint .u8 (.lit (0))) (.rcons (.vint .u8 (.lit (0))) (.rcons (.vint .u8 (.lit (0))) (.rcons (.vint .u8 (.lit (0))) (.rcons (.vint .u8 (.lit (0))) (.rcons (.vint .u8 (.lit (0))) (.rcons (.vint .u8 (.lit (0))) (.rcons (.vint .u8 (.lit (0))) (.rcons (.vint .u8 (.lit (0))) (.rcons (.vint .u8 (.lit (0))) (.rcons (.vint .u8 (.lit (0))) (.rcons (.vint .u8 (.lit (0))) (.rcons (.vint .u8 (.lit (0))) (.rcons (.vint .u8 (.lit (0))) (.rcons (.vint .u8 (.lit (0))) (.rcons (.vint .u8 (.lit (0))) (.rcons (.vint .u8 (.lit (0))) (.rcons (.vint .u8 (.lit (0))) (.rcons (.vint .u8 (.lit (0))) (.rcons (.vint .u8 (.lit (0))) (.rcons (.vint .u8 (.lit (0))) (.rcons (.vint .u8 (.lit (0))) (.rcons (.vint .u8 (.lit (0))) (.rcons (.vint .u8 (.lit (0))) (.rcons (.vint .u8 (.lit (0))) (.rcons (.vint .u8 (.lit (0))) (.rcons (.vint .u8 (.lit (0))) (.rcons (.vint .u8 (.lit (0))) (.rcons (.vint .u8 (.lit (0))) (.rcons (.vint .u8 (.lit (0))) (.rcons (.vint .u8 (.lit (0))) (.rcons (.vint .u8 (.lit (0))) (.rcons (.vint .u8 (.lit (0))) (.rcons (.vint .u8 (.lit (0))) (.rcons (.vint .u8 (.lit (0))) (.rcons (.vint .u8 (.lit (0))) (.rcons (.vint .u8 (.lit (0))) (.rcons (.vint .u8 (.lit (0))) (.rcons (.vint .u8 (.lit (0))) (.rcons (.vint .u8 (.lit (0))) (.rcons (.vint .u8 (.lit (0))) (.rcons (.vint .u8 (.lit (0))) (.rcons (.vint .u8 (.lit (0))) (.rcons (.vint .u8 (.lit (0))) (.rcons (.vint .u8 (.lit (0))) (.rcons (.vint .u8 (.lit (0))) (.rcons (.vint .u8 (.lit (0))) (.rcons (.vint .u8 (.lit (0))) (.rcons (.vint .u8 (.lit (0))) (.rcons (.vint .u8 (.lit (0))) (.rcons (.vint .u8 (.lit (0))) (.rcons (.vint .i64 (.lit (0))) (.rcons (.vint .i64 (.lit (0))) (.rcons (.vint .i64 (.lit (0))) (.rcons (.vint .i64 (.lit (0))) (.rcons (.vint .i64 (.lit (0))) (.rcons (.vint .i64 (.lit (0))) (.rcons (.vint .i64 (.lit (0))) (.rcons (.vint .i64 (.lit (0))) (.rcons (.vint .i64 (.lit (0))) (.rcons (.vint .i64 (.lit (0))) (.rcons (.vint .i64 (.lit (0))) (.rcons (.vint .i64 (.lit (0))) (.rcons (.vint .i64 (.lit (0))) (.rcons (.vint .i64 (.lit (0))) (.rcons (.vint .i64 (.lit (0))) (.rcons (.vint .i64 (.lit (0))) (.rcons (.vint .i64 (.lit (0))) (.rcons (.vint .i64 (.lit (0))) (.rcons (.vint .i64 (.lit (0))) (.rcons (.vint .i64 (.lit (0))) (.rcons (.vint .i64 (.lit (0))) (.rcons (.vint .i64 (.lit (0))) (.rcons (.vint .i64 (.lit (0))) (.rcons (.vint .i64 (.lit (0))) (.rcons (.vint .i64 (.lit (0))) (.rcons (.vint .i64 (.lit (0))) (.rcons (.vint .i64 (.lit (0))) (.rcons (.vint .i64 (.lit (0))) (.rcons (.vint .i64 (.lit (0))) (.rcons (.vint .i64 (.lit (0))) (.rcons (.vint .i64 (.lit (0))) (.rcons (.vint .i64 (.lit (0))) (.rcons (.vint .i64 (.lit (0))) (.rcons (.vint .i64 (.lit (0))) (.rcons (.vint .i64 (.lit (0))) (.rcons (.vint .i64 (.lit (0))) (.rcons (.vint .i64 (.lit (0))) (.rcons (.vint .i64 (.lit (0))) (.rcons (.vint .i64 (.lit (0))) (.rcons (.vint .i64 (.lit (0))) (.rcons (.vint .i64 (.lit (0))) (.rcons (.vint .i64 (.lit (0))) (.rcons (.vint .i64 (.lit (0))) (.rcons (.vint .i64 (.lit (0))) (.rcons (.vint .i64 (.lit (0))) (.rcons (.vint .i64 (.lit (0))) (.rcons (.vint .i64 (.lit (0))) (.rcons (.vint .i64 (.lit (0))) (.rcons (.vint .i64 (.lit (0))) (.rcons (.vint .i64 (.lit (0))) (.rcons (.vint .i64 (.lit (0))) (.rcons (.vint .i64 (.lit (0))) (.rcons (.vint .i64 (.lit (0))) (.rcons (.vint .i64 (.lit (0))) (.rcons (.vint .i64 (.lit (0))) (.rcons (.vint .i64 (.lit (0))) (.rcons (.vint .i64 (.lit (0))) (.rcons (.vint .i64 (.lit (0))) (.rcons (.vint .i64 (.lit (0))) (.rcons (.vint .i64 (.lit (0))) (.rcons (.vint .i64 (.lit (0))) (.rcons (.vint .i64 (.lit (0))) (.rcons (.vint .i64 (.lit (0))) (.rcons (.vint .i64 (.lit (0))) (.rcons (.vint .i64 (.lit (0))) (.rcons (.vint .i64 (.lit (0))) (.rcons (.vint .i64 (.lit (0))) (.rcons (.vint .i64 (.lit (0))) (.rcons (.vint .i64 (.lit (0))) (.rcons (.vint .i64 (.lit (0))) (.rcons (.vint .i64 (.lit (0))) (.rcons (.vint .i64 (.lit (0))) (.rcons (.vint .i64 (.lit (0))) (.rcons (.vint .i64 (.lit (0))) (.rcons (.vint .i64 (.lit (0))) (.rcons (.vint .i64 (.lit (0))) (.rcons (.vint .i64 (.lit (0))) (.rcons (.vint .i64 (.lit (0))) (.rcons (.vint .i64 (.lit (0))) (.rcons (.vint .i64 (.lit (0))) (.rcons (.vint .i64 (.lit (0))) (.rcons (.vint .i64 (.lit (0))) (.rcons (.vint .i64 (.lit (0))) (.rcons (.vint .i64 (.lit (0))) (.rcons (.vint .i64 (.lit (0))) (.rcons (.vint .i64 (.lit (0))) (.rcons (.vint .i64 (.lit (0))) (.rcons (.vint .i64 (.lit (0))) (.rcons (.vint .i64 (.lit (0))) (.rcons (.vint .i64 (.lit (0))) (.rcons (.vint .i64 (.lit (0))) (.rcons (.vint .i64 (.lit (0))) (.rcons (.vint .i64 (.lit (0))) (.rcons (.vint .i64 (.lit (0))) (.rcons (.vint .i64 (.lit (0))) (.rcons (.vint .i64 (.lit (0))) (.rcons (.vint .i64 (.lit (0))) (.rcons (.vint .i64 (.lit (0))) (.rcons (.vint .i64 (.lit (0))) (.rcons (.vint .i64 (.lit (0))) (.rcons (.vint .i64 (.lit (0))) (.rcons (.vint .i64 (.lit (0))) (.rcons (.vint .i64 (.lit (0))) (.rcons (.vint .i64 (.lit (0))) (.rcons (.vint .i64 (.lit (0))) (.rcons (.vint .i64 (.lit (0))) (.rcons (.vint .i64 (.lit (0))) (.rcons (.vint .i64 (.lit (0))) (.rcons (.vint .i64 (.lit (0))) (.rcons (.vint .i64 (.lit (0))) (.rcons (.vint .i64 (.lit (0))) (.rcons (.vint .i64 (.lit (0))) (.rcons (.vint .i64 (.lit (0))) (.rcons (.vint .i64 (.lit (0))) (.rcons (.vint .i64 (.lit (0))) (.rcons (.vint .i64 (.lit (0))) (.rcons (.vint .i64 (.lit (0))) (.rcons (.vint .i64 (.lit (0))) (.rcons (.vint .i64 (.lit (0))) (.rcons (.vint .i64 (.lit (0))) (.rcons (.vint .i64 (.lit (0))) (.rcons (.vint .i64 (.lit (0))) (.rcons (.vint .i64 (.lit (0))) (.rcons (.vint .i64 (.lit (0))) (.rcons (.vint .i64 (.lit (0))) (.rcons (.vint .i64 (.lit (0))) (.rcons (.vint .i64 (.lit (0))) (.rcons (.vint .i64 (.lit (0))) (.rcons (.vint .i64 (.lit (0))) (.rcons (.vint .i64 (.lit (0))) (.rcons (.vint .i64 (.lit (0))) (.rcons (.vint .i64 (.lit (0))) (.rcons (.vint .i64 (.lit (0))) (.rcons (.vint .i64 (.lit (0))) (.rcons (.vint .i64 (.lit (0))) (.rcons (.vint .i64 (.lit (0))) (.rcons (.vint .i64 (.lit (0))) (.rcons (.vint .i64 (.lit (0))) (.rcons (.vint .i64 (.lit (0))) (.rcons (.vint .i64 (.lit (0))) (.rcons (.vint .i64 (.lit (0))) (.rcons (.vint .i64 (.lit (0))) (.rcons (.vint .i64 (.lit (0))) (.rcons (.vint .i64 (.lit (0))) (.rcons (.vint .i64 (.lit (0))) (.rcons (.vint .i64 (.lit (0))) (.rcons (.vint .i64 (.lit (0))) (.rcons (.vint .i64 (.lit (0))) (.rcons (.vint .i64 (.lit (0))) (.rcons (.vint .i64 (.lit (0))) (.rcons (.vint .i64 (.lit (0))) (.rcons (.vint .i64 (.lit (0))) (.rcons (.vint .i64 (.lit (0))) (.rcons (.vint .i64 (.lit (0))) (.rcons (.vint .i64 (.lit (0))) (.rcons (.vint .i64 (.lit (0))) (.rcons (.vint .i64 (.lit (0))) (.rcons (.vint .i64 (.lit (0))) (.rcons (.vint .i64 (.lit (0))) (.rcons (.vint .i64 (.lit (0))) (.rcons (.vint .i64 (.lit (0))) (.rcons (.vint .i64 (.lit (0))) (.rcons (.vint .i64 (.lit (0))) (.rcons (.vint .i64 (.lit (0))) (.rcons (.vint .i64 (.lit (0))) (.rcons (.vint .i64 (.lit (0))) (.rcons (.vint .i64 (.lit (0))) (.rcons (.vint .i64 (.lit (0))) (.rcons (.vint .i64 (.lit (0))) (.rcons (.vint .i64 (.lit (0))) (.rcons (.vint .i64 (.lit (0))) (.rcons (.vint .i64 (.lit (0))) (.rcons (.vint .i64 (.lit (0))) (.rcons (.vint .i64 (.lit (0))) (.rcons (.vint .i64 (.lit (0))) (.rcons (.vint .i64 (.lit (0))) (.rcons (.vint .i64 (.lit (0))) (.rcons (.vint .i64 (.lit (0))) (.rcons (.vint .i64 (.lit (0))) (.rcons (.vint .i64 (.lit (0))) (.rcons (.vint .i64 (.lit (0))) (.rcons (.vint .i64 (.lit (0))) (.rcons (.vint .i64 (.lit (0))) (.rcons (.vint .i64 (.lit (0))) (.rcons (.vint .i64 (.lit (0))) (.rcons (.vint .i64 (.lit (0))) (.rcons (.vint .i64 (.lit (0))) (.rcons (.vint .i64 (.lit (0))) (.rcons (.vint .i64 (.lit (0))) (.rcons (.vint .i64 (.lit (0))) (.rcons (.vint .i64 (.lit (0))) (.rcons (.vint .i64 (.lit (0))) (.rcons (.vint .i64 (.lit (0))) (.rcons (.vint .i64 (.lit (0))) (.rcons (.vint .i64 (.lit (0))) (.rcons (.vint .i64 (.lit (0))) (.rcons (.vint .i64 (.lit (0))) (.rcons (.vint .i64 (.lit (0))) (.rcons (.vint .i64 (.lit (0))) (.rcons (.vint .i64 (.lit (0))) (.rcons (.vint .i64 (.lit (0))) (.rcons (.vint .i64 (.lit (0))) (.rcons (.vint .i64 (.lit (0))) (.rcons (.vint .i64 (.lit (0))) (.rcons (.vint .i64 (.lit (0))) (.rcons (.vint .i64 (.lit (0))) (.rcons (.vint .i64 (.lit (0))) (.rcons (.vint .i64 (.lit (0))) (.rcons (.vint .i64 (.lit (0))) (.rcons (.vint .i64 (.lit (0))) (.rcons (.vint .i64 (.lit (0))) (.rcons (.vint .i64 (.lit (0))) (.rcons (.vint .i64 (.lit (0))) (.rcons (.vint .i64 (.lit (0))) (.rcons (.vint .i64 (.lit (0))) (.rcons (.vint .i64 (.lit (0))) (.rcons (.vint .i64 (.lit (0))) (.rcons (.vint .i64 (.lit (0))) (.rcons (.vint .i64 (.lit (0))) (.rcons (.vint .i64 (.lit (0))) (.rcons (.vint .i64 (.lit (0))) (.rcons (.vint .i64 (.lit (0))) (.rcons (.vint .i64 (.lit (0))) (.rcons (.vint .i64 (.lit (0))) (.rcons (.vint .i64 (.lit (0))) (.rcons (.vint .i64 (.lit (0))) (.rcons (.vint .i64 (.lit (0))) (.rcons (.vint .i64 (.lit (0))) (.rcons (.vint .i64 (.lit (0))) (.rcons (.vint .i64 (.lit (0))) (.rcons (.vint .i64 (.lit (0))) (.rcons (.vint .i64 (.lit (0))) (.rcons (.vint .i64 (.lit (0))) (.rcons (.vint .i64 (.lit (0))) (.rcons (.vint .i64 (.lit (0))) (.rcons (.vint .i64 (.lit (0))) (.rcons (.vint .i64 (.lit (0))) (.rcons (.vint .i64 (.lit (0))) (.rcons (.vint .i64 (.lit (0))) (.rcons (.vint .i64 (.lit (0))) (.rcons (.vint .i64 (.lit (0))) (.rcons (.vint .i64 (.lit (0))) (.rcons (.vint .i64 (.lit (0))) (.rcons (.vint .i64 (.lit (0))) (.rcons (.vint .i64 (.lit (0))) (.rcons (.vint .i64 (.lit (0))) (.rcons (.vint .i64 (.lit (0))) (.rcons (.vint .i64 (.lit (0))) (.rcons (.vint .i64 (.lit (0))) (.rcons (.vint .i64 (.lit (0))) (.rcons (.vint .i64 (.lit (0))) (.rcons (.vint .i64 (.lit (0))) (.rcons (.vint .i64 (.lit (0))) (.rcons (.vint .i64 (.lit (0))) (.rcons (.vint .i64 (.lit (0))) (.rcons (.vint .i64 (.lit (0))) .rnil))))))))))))))))))))))))))))))))))))))))))))))))))))))))))))))))))))))))))))))))))))))))))))))))))))))))))))))))))))))))))))))))))))))))))))))))))))))))))))))))))))))))))))))))))))))))))))))))))))))))))))))))))))))))))))))))))))))))))))))))))))))))))))))))))))))))))))))))))))))))))))))))))))))))))))))))))))))))))))))))))))))))))))))))))))))))))))))))))))))))))))))))))))))))))))))))))))))))))))))))))))))))))))))))))))))))))))))))))))))))))))))))))))))))))))))))))))))))))))))))))))))))))))))))))))))))))))))))))))))))))))))))))))))))))))))))))))))))))))))))))))))))))))))))))))))))))))))))))))))))))))))))))))))))))))))))))))))))))))))))))))))))))))))))))))))))))))))))))))))))))))))))))))))))))))))))))))))))))))))))))))))))))))))))))))))))))))))))))))))))))))))))))), (0, (.r 0))], [((.lit (1)), (.lit (1)))], [], []⟩))
theorem o_newField_eq : treeOf ⟨Try.prog, newFieldC, [], []⟩ 100000 Try.f30 = o_newField := by kernel_rfl
theorem newField_of (hd : ∀ c ∈ ([] : List Ctr), c.ok Try.prog) (h : ∀ ρ : Env, ρ.good → (newFieldC).pre ρ → o_newField.den ⟨Try.prog, newFieldC, [], []⟩ ρ) : (newFieldC).ok Try.prog :=
  ok_of_tree Try.func30 (fun a w => Try.call30 a w) hd 100000 (fun ρ hg hp => by rw [o_newField_eq]; exact h ρ hg hp)
def o_build : Out := (.inv 0 2 ⟨1000, [(1002, (.t (.var 1))), (1001, (.t (.lit (0)))), (1000, (.t (.lit (1))))], [((.lit (1)), (.lit (1))), ((.lit (0)), (.lit (0)))], [], []⟩ (.fresh 2 (.fresh 3 (.fresh 4 (.hyp 0 2 (.br (.cmp .lss (.var 3) (.lit (255)))
 (.need (.cmp .lss (.lit (0)) (.dlen (.var 4))) (.need (.cmp .leq (.lit (0)) (.var 3)) (.need (.cmp .lss (.var 3) (.lit (510))) (.need (.cmp .leq (.lit (0)) (.arith .add .i64 (.var 3) (.lit (255)))) (.need (.cmp .lss (.arith .add .i64 (.var 3) (.lit (255))) (.lit (510))) (.need (.cmp .leq (.lit (0)) (.var 2)) (.need (.cmp .lss (.var 2) (.lit (256))) (.br (.cmp .geq (.arith .shl .i64 (.var 2) (.lit (1))) (.lit (256)))
 (.back 0 2 ⟨1000, [(1002, (.t (.c3 (.xput 513) (.c3 (.xput 3) (.c3 (.xput 3) (.var 4) (.var 3) (.vint .u8 (.conv .u8 (.var 2)))) (.arith .add .i64 (.var 3) (.lit (255))) (.vint .u8 (.conv .u8 (.var 2)))) (.var 2) (.vint .i64 (.var 3))))), (1001, (.t (.arith .add .i64 (.var 3) (.lit (1))))), (1000, (.t (.arith .xor .i64 (.arith .shl .i64 (.var 2) (.lit (1))) (.lit (285)))))], [((.lit (1)), (.lit (1))), ((.lit (0)), (.lit (0)))], [], []⟩)
 (.back 0 2 ⟨1000, [(1002, (.t (.c3 (.xput 513) (.c3 (.xput 3) (.c3 (.xput 3) (.var 4) (.var 3) (.vint .u8 (.conv .u8 (.var 2)))) (.arith .add .i64 (.var 3) (.lit (255))) (.vint .u8 (.conv .u8 (.var 2)))) (.var 2) (.vint .i64 (.var 3))))), (1001, (.t (.arith .add .i64 (.var 3) (.lit (1))))), (1000, (.t (.arith .shl .i64 (.var 2) (.lit (1)))))], [((.lit (1)), (.lit (1))), ((.lit (0)), (.lit (0)))], [], []⟩)))))))))
 (.ret 0 ⟨2, [(2, (.t (.var 4)))], [((.lit (1)), (.lit (1)))], [], []⟩)))))))
theorem o_build_eq : treeOf ⟨Try.prog, buildC, [], [buildI]⟩ 100000 Try.f81 = o_build := by kernel_rfl
theorem build_of (hd : ∀ c ∈ ([] : List Ctr), c.ok Try.prog) (h : ∀ ρ : Env, ρ.good → (buildC).pre ρ → o_build.den ⟨Try.prog, buildC, [], [buildI]⟩ ρ) : (buildC).ok Try.prog :=
  ok_of_tree Try.func81 (fun a w => Try.call81 a w) hd 100000 (fun ρ hg hp => by rw [o_build_eq]; exact h ρ hg hp)
def o_mul : Out := (.br (.and (.cmp .eql (.dlen (.var 1)) (.lit (0))) (.isnil 0))
 (.ret 0 ⟨4, [(5, (.t (.var 1))), (4, (.t (.lit (0))))], [((.lit (1)), (.lit (1)))], [], []⟩)
 (.br (.cmp .eql (.var 2) (.lit (0)))
 (.ret 0 ⟨4, [(5, (.t (.var 1))), (4, (.t (.lit (0))))], [((.lit (1)), (.lit (1)))], [], []⟩)
 (.br (.cmp .eql (.var 3) (.lit (0)))
 (.ret 0 ⟨4, [(5, (.t (.var 1))), (4, (.t (.lit (0))))], [((.lit (1)), (.lit (1)))], [], []⟩)
 (.need (.cmp .lss (.lit (0)) (.dlen (.var 1))) (.pre 0 ⟨0, [(1, (.t (.var 1))), (0, (.r 0))], [((.lit (1)), (.lit (1))), ((.lit (0)), (.lit (0))), ((.lit (0)), (.lit (0)))], [], []⟩ (.both (.fresh 4 (.post 0 0 ⟨0, [(1, (.t (.var 1))), (0, (.r 0))], [((.lit (1)), (.lit (1))), ((.lit (0)), (.lit (0))), ((.lit (0)), (.lit (0)))], [], []⟩ 4 (.need (.cmp .lss (.lit (0)) (.dlen (.var 4))) (.need (.cmp .leq (.lit (0)) (.var 2)) (.need (.cmp .lss (.var 2) (.lit (256))) (.need (.cmp .leq (.lit (0)) (.var 3)) (.need (.cmp .lss (.var 3) (.lit (256))) (.need (.cmp .leq (.lit (0)) (.arith .add .i64 (.c2 (.xint 513) (.var 4) (.var 2)) (.c2 (.xint 513) (.var 4) (.var 3)))) (.need (.cmp .lss (.arith .add .i64 (.c2 (.xint 513) (.var 4) (.var 2)) (.c2 (.xint 513) (.var 4) (.var 3))) (.lit (510))) (.ret 0 ⟨4, [(5, (.t (.var 4))), (4, (.t (.c2 (.xint 3) (.var 4) (.arith .add .i64 (.c2 (.xint 513) (.var 4) (.var 2)) (.c2 (.xint 513) (.var 4) (.var 3))))))], [((.lit (1)), (.lit (1)))], [], []⟩)))))))))) .top))))))
theorem o_mul_eq : treeOf ⟨Try.prog, mulC, [onceC], []⟩ 100000 Try.f39 = o_mul := by kernel_rfl
theorem mul_of (hd : ∀ c ∈ ([onceC] : List Ctr), c.ok Try.prog) (h : ∀ ρ : Env, ρ.good → (mulC).pre ρ → o_mul.den ⟨Try.prog, mulC, [onceC], []⟩ ρ) : (mulC).ok Try.prog :=
  ok_of_tree Try.func39 (fun a w => Try.call39 a w) hd 100000 (fun ρ hg hp => by rw [o_mul_eq]; exact h ρ hg hp)
end Go.Proofs

/- The field: building the tables, a new field. -/
set_option linter.unusedSimpArgs false
set_option linter.unusedVariables false
namespace Go.Proofs
open Go Go.Eng
set_option maxRecDepth 100000 in
theorem newField_ok : newFieldC.ok Try.prog := newField_of (by simp) fun ρ hg hp => by
  simp [o_newField, newFieldC]
  kernel_rfl
theorem nextX_range' : ∀ x : Fin 256, 0 ≤ nextX (x.val : Int) ∧ nextX (x.val : Int) < 256 := by decide +kernel
theorem nextX_range {x : Int} (h0 : 0 ≤ x) (h1 : x < 256) : 0 ≤ nextX x ∧ nextX x < 256 := by
  have := nextX_range' ⟨x.toNat, by omega⟩
  simp only [Int.toNat_of_nonneg h0] at this
  exact this
theorem buildN_range (d : Rows') : ∀ n, 0 ≤ (buildN d n).2 ∧ (buildN d n).2 < 256
  | 0 => by simp [buildN]
  | n + 1 => nextX_range (buildN_range d n).1 (buildN_range d n).2
theorem putX_len {d : Rows'} {i : Nat} {v : Value} : (putX d i v).length = d.length := by cases d <;> simp [putX]
theorem buildN_len (d : Rows') : ∀ n, (buildN d n).1.length = d.length
  | 0 => rfl
  | n + 1 => by simp only [buildN, buildStep, putX_len, buildN_len d n]
theorem build_ok : buildC.ok Try.prog := build_of (by simp) fun ρ hg hp => by
  have hl : (ρ 1).d.length = 1 := hp
  simp [o_build, buildC, buildI]
  refine ⟨rfl, fun x _ i _ d _ i0 i1 hd => ⟨fun hi => ?_, fun hi => ?_⟩⟩
  · obtain ⟨x0, x1⟩ := buildN_range (ρ 1).d i.i.toNat
    have hlen := buildN_len (ρ 1).d i.i.toNat
    rw [← hd] at x0 x1 hlen
    simp only at x0 x1 hlen
    have w1 : arithOf .add .i64 i.i 255 = i.i + 255 := by simp [arithOf, IntKind.wrap, IntKind.bits, IntKind.signed]; omega
    have w2 : arithOf .add .i64 i.i 1 = i.i + 1 := by simp [arithOf, IntKind.wrap, IntKind.bits, IntKind.signed]; omega
    have w3 : arithOf .shl .i64 x.i 1 = 2 * x.i := by simp [arithOf, IntKind.wrap, IntKind.bits, IntKind.signed]; omega
    have w4 : IntKind.u8.wrap x.i = x.i := by simp [IntKind.wrap, IntKind.bits, IntKind.signed]; omega
    have hstep : ∀ y, y = nextX x.i → (putX (putX (putX d.d (i.i.toNat + 3) (.int .u8 x.i)) ((i.i + 255).toNat + 3) (.int .u8 x.i)) (x.i.toNat + 513) (.int .i64 i.i), y) = buildN (ρ 1).d (i.i + 1).toNat := fun y hy => by
      rw [show (i.i + 1).toNat = i.i.toNat + 1 by omega, buildN, ← hd, buildStep, hy]
      simp only
      rw [show (i.i + 255).toNat = i.i.toNat + 255 by omega, Int.toNat_of_nonneg i0]
    rw [w1, w2, w3, w4]
    refine ⟨by omega, i0, by omega, by omega, by omega, x0, x1, fun h => ⟨⟨by omega, by omega, hstep _ ?_⟩, by omega⟩, fun h => ⟨⟨by omega, by omega, hstep _ ?_⟩, by omega⟩⟩
    · rw [nextX, if_pos h]
    · rw [nextX, if_neg (by omega)]
  · have : i.i.toNat = 255 := by omega
    rw [this] at hd
    rw [← hd]
end Go.Proofs

/- sync.Once over a field's tables: done once, by one goroutine. -/
set_option linter.unusedSimpArgs false
set_option linter.unusedVariables false
namespace Go.Proofs
open Go Go.Eng

theorem once_disable (w : World) : (callFunc 107 #[]).run Try.prog w = .ok (.value (.tuple #[])) w := run_call_mark0 Try.func107 (by kernel_rfl) (by kernel_rfl) (by kernel_rfl) .disable (by kernel_rfl) w
theorem once_enable (w : World) : (callFunc 109 #[]).run Try.prog w = .ok (.value (.tuple #[])) w := run_call_mark0 Try.func109 (by kernel_rfl) (by kernel_rfl) (by kernel_rfl) .enable (by kernel_rfl) w
theorem once_acquire (a : Addr) (w : World) : (callFunc 110 #[.pointer (some a)]).run Try.prog w = .ok (.value (.tuple #[])) w := run_call_marked Try.func110 (by kernel_rfl) (by kernel_rfl) (by kernel_rfl) .acquire (by kernel_rfl) a w
theorem once_release (a : Addr) (w : World) : (callFunc 112 #[.pointer (some a)]).run Try.prog w = .ok (.value (.tuple #[])) w := run_call_marked Try.func112 (by kernel_rfl) (by kernel_rfl) (by kernel_rfl) .releaseMerge (by kernel_rfl) a w
/-- '(*sync/atomic.Bool).Store(true)', entered as a deferred call. -/
theorem once_store (a : Addr) (x : Value) (u : FrameMode) (w : World) (hc : w.cell? a = some x) (hz : w.frozen? a = false) :
    CallsD Try.prog 102 #[.pointer (some a), .bool true] u w fun e u' w' => u' = u ∧ (e = .returned (.tuple #[]) ∧ w' = w.drew.setCell a (.int .u32 1)) := by
  have hc' : w.drew.cell? a = some x := by go_simp
  have hz' : w.drew.frozen? a = false := by go_simp
  have hst := run_call_store (P := Try.prog) Try.func105 (by kernel_rfl) (by kernel_rfl) (by kernel_rfl) (by kernel_rfl) (k := .u32) (y := 1) hc' hz'
  go_enter_d Try.func102, Try.ntmps102
  go_wp2
  go_region_calls
  all_goals (go_end0; exact ⟨rfl, rfl⟩)
set_option maxRecDepth 100000 in
set_option maxHeartbeats 1600000 in
theorem once_lock_in (a : Addr) (w : World) (hc : w.cell? a = some (.int .i32 0)) (hz : w.frozen? a = false) :
    Calls Try.prog 103 #[.pointer (some a)] w fun e w' => e = .returned (.tuple #[]) ∧ w' = w.setCell a (.int .i32 1) := by
  have hd := once_disable
  have he := once_enable
  have ha := once_acquire
  have hcas := run_call_cas_hit (P := Try.prog) Try.func108 (by kernel_rfl) (by kernel_rfl) (by kernel_rfl) .i32 (by kernel_rfl) (y := 1) hc hz
  have hc' : (w.setCell a (.int .i32 1)).cell? a = some (.int .i32 1) := World.cell?_setCell_same w a _ hc
  have hcv := run_convert_to_unsafe (P := Try.prog) (src := 130) (dst := 134) Try.underlying130 Try.underlying134 (by kernel_rfl) hc'
  go_enter Try.func103, Try.ntmps103
  go_wp2
  first | go_end0 | (simp only [Exit.inBlock, Exit.then]; refine bodyPost_ret (results_none rfl _ _ _) rfl ?_) | refine bodyPost_ret (results_none rfl _ _ _) rfl ?_
  go_wp2
  all_goals (go_end0; exact ⟨rfl, rfl⟩)
set_option maxRecDepth 100000 in
set_option maxHeartbeats 1600000 in
theorem once_unlock_in (a : Addr) (w : World) (hc : w.cell? a = some (.int .i32 1)) (hz : w.frozen? a = false) :
    Calls Try.prog 104 #[.pointer (some a)] w fun e w' => e = .returned (.tuple #[]) ∧ w' = w.setCell a (.int .i32 0) := by
  have hd := once_disable
  have he := once_enable
  have hr := once_release
  have hadd := run_call_add (P := Try.prog) Try.func113 (by kernel_rfl) (by kernel_rfl) (by kernel_rfl) .i32 (by kernel_rfl) (y := -1) (s := 0) hc hz (by simp [go_sem]; rfl)
  have hcv := run_convert_to_unsafe (P := Try.prog) (src := 130) (dst := 134) Try.underlying130 Try.underlying134 (by kernel_rfl) hc
  go_enter Try.func104, Try.ntmps104
  go_wp2
  all_goals (try go_end0)
  all_goals (try go_wp2)
  all_goals (try go_end0)
  all_goals (exact ⟨rfl, rfl⟩)
set_option maxRecDepth 100000 in
theorem once_lock (b off : Nat) (w : World) (hc : w.cell? ⟨b, off, none⟩ = some (.int .i32 0)) (hz : w.frozen? ⟨b, off, none⟩ = false) :
    Calls Try.prog 100 #[.pointer (some ⟨b, off, none⟩)] w fun e w' => e = .returned (.tuple #[]) ∧ w' = w.setCell ⟨b, off, none⟩ (.int .i32 1) := by
  go_enter Try.func100, Try.ntmps100
  go_wp2_with (go_at_call 103; refine (once_lock_in ⟨b, off, none⟩ _ (by go_simp) (by go_simp)).mono ?_; rintro e w' ⟨rfl, rfl⟩)
  all_goals (go_end0; exact ⟨rfl, rfl⟩)
set_option maxRecDepth 100000 in
theorem once_unlock (b off : Nat) (u : FrameMode) (w : World) (hc : w.cell? ⟨b, off, none⟩ = some (.int .i32 1)) (hz : w.frozen? ⟨b, off, none⟩ = false) :
    CallsD Try.prog 101 #[.pointer (some ⟨b, off, none⟩)] u w fun e u' w' => u' = u ∧ (e = .returned (.tuple #[]) ∧ w' = w.setCell ⟨b, off, none⟩ (.int .i32 0)) := by
  go_enter_d Try.func101, Try.ntmps101
  go_wp2_with (go_at_call 104; refine (once_unlock_in ⟨b, off, none⟩ _ (by go_simp) (by go_simp)).mono ?_; rintro e w' ⟨rfl, rfl⟩)
  all_goals (go_end0; exact ⟨rfl, rfl⟩)
end Go.Proofs

/- sync.Once over a field's tables: the contract. -/
set_option linter.unusedSimpArgs false
set_option linter.unusedVariables false
namespace Go.Proofs
open Go Go.Eng


theorem fits_good' {k : CK} {v : Value} (h : CK.fits k v = true) : v.oneCell' = true := by
  cases k <;> cases v <;> simp_all [CK.fits, Value.oneCell']
/-- The block. -/
def At (w : World) (b : Nat) (c : Array Value) : Prop := w.heap[b]? = some (.cells c 98 (0, 0))
/-- Nothing but this block differs. -/
structure Else (w w' : World) (b : Nat) : Prop where
  blk : ∀ b', b' ≠ b → ∀ o, w.heap[b']? = some o → w'.heap[b']? = some o
  os : w'.os = w.os
  out : w'.output = w.output
theorem Else.trans {w1 w2 w3 : World} {b : Nat} (h : Else w1 w2 b) (h' : Else w2 w3 b) : Else w1 w3 b :=
  ⟨fun b' hb o ho => h'.blk b' hb o (h.blk b' hb o ho), h'.os.trans h.os, h'.out.trans h.out⟩
theorem At.set {w : World} {b : Nat} {c : Array Value} (h : At w b c) (k : Nat) (v : Value) : At (w.setCell ⟨b, k, none⟩ v) b (c.setIfInBounds k v) ∧ Else w (w.setCell ⟨b, k, none⟩ v) b := by
  refine ⟨?_, fun b' hb o ho => ?_, rfl, rfl⟩
  · have h : w.heap[b]? = some (.cells c 98 (0, 0)) := h
    simp only [At, World.setCell, Array.getElem?_modify, if_true, h, Option.map_some]
    simp
  · simp only [World.setCell, Array.getElem?_modify]
    rw [if_neg (fun h => hb h.symm)]; exact ho
theorem At.drew {w : World} {b : Nat} {c : Array Value} (h : At w b c) : At w.drew b c ∧ Else w w.drew b := ⟨h, fun _ _ _ ho => ho, rfl, rfl⟩
theorem At.cell {w : World} {b : Nat} {c : Array Value} (h : At w b c) {k : Nat} {v : Value} (hv : c[k]? = some v) : w.cell? ⟨b, k, none⟩ = some v := by rw [cell_of_heap h, hv]
theorem At.frozen {w : World} {b : Nat} {c : Array Value} (h : At w b c) (k : Nat) : w.frozen? ⟨b, k, none⟩ = false := by
  have h : w.heap[b]? = some (.cells c 98 (0, 0)) := h
  simp [World.frozen?, h]
theorem toList_set {c : Array Value} {k : Nat} {v : Value} : (c.setIfInBounds k v).toList = c.toList.set k v := by simp

theorem kField_len : kField.length = 769 := by simp only [kField, List.length_append, List.length_replicate, List.length_cons, List.length_nil]
set_option maxRecDepth 100000 in
theorem build_calls {w : World} {b : Nat} {c : Array Value} (hb : At w b c) (hf : fitsRow kField c.toList) :
    Calls Try.prog 81 #[.pointer (some ⟨b, 0, none⟩)] w fun e w' => e = .returned (.tuple #[]) ∧ ∃ c', At w' b c' ∧ [c'.toList] = (buildN [c.toList] 255).1 ∧ Else w w' b := by
  let us : List U := [{ r := some ⟨b, 0, none⟩ }, { d := [c.toList] }]
  have hgood : Env.good fun n => us.getD n {} := fun n => by
    match n with
    | 0 => simp [us, U.good, Value.oneCell']
    | 1 =>
      refine ⟨rfl, fun row hr v hv => ?_⟩
      simp only [us, List.getD_cons_succ, List.getD_cons_zero, List.mem_singleton] at hr
      subst hr
      obtain ⟨k, hk⟩ := List.getElem?_of_mem hv
      have hlt : k < kField.length := by rw [← hf.1]; exact (List.getElem?_eq_some_iff.1 hk).1
      exact fits_good' (hf.2 k _ v (List.getElem?_eq_getElem hlt) hk)
    | n + 2 => simp [us, U.good, Value.oneCell']
  have hsz : c.size = 769 := by have := hf.1; rw [kField_len] at this; simpa using this
  have h := build_ok.2 (fun n => us.getD n {}) w ⟨fun b' => if b' = b then none else w.heap[b']?, w.os, w.output⟩ (Hp.one b (.cells c 98 (0, 0))) hgood
    (fun y => by by_cases hy : y = b <;> simp [hy, Hp.one])
    ⟨fun y o hy => by
      by_cases hyb : y = b
      · subst hyb
        simp [Hp.union, Hp.one] at hy
        rw [← hy]; exact hb
      · simpa [Hp.union, Hp.one, hyb] using hy, rfl, rfl⟩
    ⟨Hp.one b (.cells c 98 (0, 0)), Hp.emp, Hp.disj_emp _, by funext y; simp [Hp.union, Hp.emp], .inr ⟨b, c, rfl, by simp [Hp.one], by rw [kField_len, hsz]; simp [T.den, O0.den], by simp [us, T.den, O0.den], fun i row hi => by
      match i with
      | 0 =>
        simp only [T.den, us, List.getD_cons_succ, List.getD_cons_zero, List.getElem?_cons_zero, Option.some.injEq] at hi
        subst hi
        exact ⟨hf, fun k v hv => by simpa using hv⟩
      | i + 1 => simp [T.den, us] at hi⟩, trivial⟩
    (fun x hx => by cases hx) (show ([c.toList] : Rows').length = 1 from rfl)
  refine h.mono fun e w' hq => ?_
  obtain ⟨ai, al, ρ', hal, hg', hag, he, hpost, hO', hd', hst', hsub', hwi'⟩ := hq
  match ai, hal with
  | 0, hal =>
    obtain rfl := Option.some.inj hal
    refine ⟨he, ?_⟩
    obtain ⟨h1, h2, hdj, hu, hden, _⟩ := hst'
    have r0 : (ρ' 0).r = some ⟨b, 0, none⟩ := by rw [hag 0 (by decide)]; rfl
    have d1 : (ρ' 1).d = [c.toList] := by rw [hag 1 (by decide)]; rfl
    have hp2 : (ρ' 2).d = (buildN (ρ' 1).d 255).1 := hpost
    rw [d1] at hp2
    have hl2 : (ρ' 2).d.length = 1 := by rw [hp2, buildN_len]; rfl
    rcases hden with ⟨hn, _, _⟩ | ⟨b', c', g1, g2, g3, g4, g5⟩
    · rw [r0] at hn; cases hn
    · rw [r0] at g1
      simp only [Option.some.injEq, Addr.mk.injEq] at g1
      obtain ⟨rfl, _⟩ := g1
      obtain ⟨row, hrow⟩ : ∃ row, (ρ' 2).d = [row] := List.length_eq_one_iff.1 hl2
      obtain ⟨f1, f2⟩ := g5 0 row (by simp only [T.den]; rw [hrow]; rfl)
      have hs' : c'.size = 769 := by rw [g3, kField_len]; simp [T.den, O0.den]
      have hlr : row.length = 769 := by rw [f1.1, kField_len]
      have hcl : c'.toList = row := by
        apply List.ext_getElem?
        intro k
        by_cases hk : k < row.length
        · have := f2 k _ (List.getElem?_eq_getElem hk)
          rw [Array.getElem?_toList, List.getElem?_eq_getElem hk]
          simpa using this
        · rw [List.getElem?_eq_none (by simp; omega), List.getElem?_eq_none (by omega)]
      refine ⟨c', hsub' b _ ?_, by rw [hcl, ← hrow, hp2], fun y hy o ho => hsub' y o ?_, hwi'.1, hwi'.2⟩
      · have : hO' b = some (.cells c' 98 (0, 0)) := by rw [hu]; simp [Hp.union, g2]
        simp [Hp.union, this]
      · simp [Hp.union, hy, ho]
  | n + 1, hal => cases hal
end Go.Proofs

/- sync.Once over a field's tables: Do. -/
set_option linter.unusedSimpArgs false
set_option linter.unusedVariables false
namespace Go.Proofs
open Go Go.Eng
theorem once_not : ∀ (x : Bool) (w : World), (Op.unary .not (.bool x)).run Try.prog w = .ok (.bool (!x)) w := fun _ _ => rfl
set_option maxRecDepth 100000 in
theorem once_load (b : Nat) (x : Int) (w : World) (hc : w.cell? ⟨b, 0, none⟩ = some (.int .u32 x)) :
    Calls Try.prog 95 #[.pointer (some ⟨b, 0, none⟩)] w fun e w' => e = .returned (.bool (x != 0)) ∧ w' = w := by
  have hl := run_call_load (P := Try.prog) Try.func99 (by kernel_rfl) (by kernel_rfl) (by kernel_rfl) .u32 (by kernel_rfl) hc
  go_enter Try.func95, Try.ntmps95
  go_wp2
  go_ret
  exact ⟨rfl, rfl⟩
set_option maxRecDepth 100000 in
theorem once_done (b : Nat) (d : Int) (hd : ¬ d = 0) (fv : Value) (w : World) (h0 : w.cell? ⟨b, 0, none⟩ = some (.int .u32 d)) :
    Calls Try.prog 80 #[.pointer (some ⟨b, 0, none⟩), fv] w fun e w' => e = .returned (.tuple #[]) ∧ w' = w := by
  have hnot := once_not
  have hd' : (d != 0) = true := by simp [hd]
  go_enter Try.func80, Try.ntmps80
  go_wp2_with (go_at_call 95; refine (once_load b d _ h0).mono ?_; rintro e w' ⟨rfl, rfl⟩)
  all_goals (try go_end0)
  all_goals (exact ⟨rfl, rfl⟩)
/-- Whether a row fits, to be computed. -/
def fitsB : List CK → List Value → Bool
  | [], [] => true
  | k :: ks, v :: vs => CK.fits k v && fitsB ks vs
  | _, _ => false
theorem fitsB_row : ∀ {ks : List CK} {vs : List Value}, fitsB ks vs = true → fitsRow ks vs
  | [], [], _ => ⟨rfl, fun c k v hk => by simp at hk⟩
  | k :: ks, v :: vs, h => by
    simp only [fitsB, Bool.and_eq_true] at h
    obtain ⟨h1, h2⟩ := fitsB_row h.2
    refine ⟨by simp [h1], fun c k' v' hk hv => ?_⟩
    cases c with
    | zero => simp at hk hv; subst hk; subst hv; exact h.1
    | succ c => exact h2 c k' v' (by simpa using hk) (by simpa using hv)
  | [], _ :: _, h => by simp [fitsB] at h
  | _ :: _, [], h => by simp [fitsB] at h
theorem fresh_fits : fitsRow kField (freshRow.set 1 (.int .i32 1)) := fitsB_row (by kernel_rfl)
theorem built_done : [(((buildN [freshRow.set 1 (.int .i32 1)] 255).1.headD []).set 0 (.int .u32 1)).set 1 (.int .i32 0)] = doneD := by kernel_rfl
theorem built_1 : ((buildN [freshRow.set 1 (.int .i32 1)] 255).1.headD [])[1]? = some (.int .i32 1) := by kernel_rfl
theorem built_0 : ((buildN [freshRow.set 1 (.int .i32 1)] 255).1.headD [])[0]? = some (.int .u32 0) := by kernel_rfl
set_option maxRecDepth 100000 in
set_option maxHeartbeats 1600000 in
theorem once_slow (b : Nat) (c : Array Value) (w : World) (hb : At w b c) (hc : c.toList = freshRow) :
    Calls Try.prog 96 #[.pointer (some ⟨b, 0, none⟩), .func (.func 81) #[.pointer (some ⟨b, 0, none⟩)] #[]] w fun e w' => e = .returned (.tuple #[]) ∧ ∃ c', At w' b c' ∧ [c'.toList] = doneD ∧ Else w w' b := by
  have hnot := once_not
  have hget : ∀ k : Nat, c[k]? = freshRow[k]? := fun k => by rw [← hc]; simp
  have h1 : w.cell? ⟨b, 1, none⟩ = some (.int .i32 0) := hb.cell (by rw [hget]; rfl)
  have f1 : w.frozen? ⟨b, 1, none⟩ = false := hb.frozen 1
  obtain ⟨a1, e1⟩ := hb.set 1 (.int .i32 1)
  have l1 : (c.setIfInBounds 1 (.int .i32 1)).toList = freshRow.set 1 (.int .i32 1) := by rw [toList_set, hc]
  have h0 : (w.setCell ⟨b, 1, none⟩ (.int .i32 1)).cell? ⟨b, 0, none⟩ = some (.int .u32 0) := a1.cell (by rw [← Array.getElem?_toList, l1]; rfl)
  have hbuild := build_calls a1 (by rw [l1]; exact fresh_fits)
  rw [l1] at hbuild
  go_enter_defers Try.func96, Try.ntmps96
  go_wp2_with (first | (go_at_call 100; refine (once_lock b 1 _ h1 f1).mono ?_; rintro e w' ⟨rfl, rfl⟩) | (go_at_call 95; refine (once_load b 0 _ h0).mono ?_; rintro e w' ⟨rfl, rfl⟩) | (go_at_call 81; refine hbuild.mono ?_; rintro e w' ⟨rfl, c2, a2, l2, e2⟩))
  have hrow : c2.toList = (buildN [freshRow.set 1 (.int .i32 1)] 255).1.headD [] := by rw [← l2]; rfl
  have k0 : c2[0]? = some (.int .u32 0) := by rw [← Array.getElem?_toList, hrow]; exact built_0
  have k1 : c2[1]? = some (.int .i32 1) := by rw [← Array.getElem?_toList, hrow]; exact built_1
  obtain ⟨a3, e3⟩ := a2.drew
  obtain ⟨a4, e4⟩ := a3.set 0 (.int .u32 1)
  obtain ⟨a5, e5⟩ := a4.set 1 (.int .i32 0)
  refine leaves_cons (f := 102) (args := #[.pointer (some ⟨b, 0, none⟩), .bool true]) (by simp) (by simp [go_sem]) ?_
  refine (once_store ⟨b, 0, none⟩ (.int .u32 0) .returning _ (a2.cell k0) (a2.frozen 0)).mono ?_
  rintro e u' w'' ⟨rfl, rfl, rfl⟩
  refine leaves_cons (f := 101) (args := #[.pointer (some ⟨b, 1, none⟩)]) (by simp [settle]) (by simp [go_sem]) ?_
  refine (once_unlock b 1 _ _ (a4.cell (by simp [k1])) (a4.frozen 1)).mono ?_
  rintro e u' w'' ⟨rfl, rfl, rfl⟩
  have hfin : [((c2.setIfInBounds 0 (.int .u32 1)).setIfInBounds 1 (.int .i32 0)).toList] = doneD := by
    rw [toList_set, toList_set, hrow]; exact built_done
  simp [Leaves, settle, results, Try.results96]
  exact ⟨_, a5, hfin, e1.trans (e2.trans (e3.trans (e4.trans e5)))⟩
set_option maxRecDepth 100000 in
theorem once_first (b : Nat) (c : Array Value) (w : World) (hb : At w b c) (hc : c.toList = freshRow) :
    Calls Try.prog 80 #[.pointer (some ⟨b, 0, none⟩), .func (.func 81) #[.pointer (some ⟨b, 0, none⟩)] #[]] w fun e w' => e = .returned (.tuple #[]) ∧ ∃ c', At w' b c' ∧ [c'.toList] = doneD ∧ Else w w' b := by
  have hnot := once_not
  have h0 : w.cell? ⟨b, 0, none⟩ = some (.int .u32 0) := hb.cell (by rw [← Array.getElem?_toList, hc]; rfl)
  have hslow := once_slow b c w hb hc
  go_enter Try.func80, Try.ntmps80
  go_wp2_with (first | (go_at_call 95; refine (once_load b 0 _ h0).mono ?_; rintro e w' ⟨rfl, rfl⟩) | (go_at_call 96; refine hslow.mono ?_; rintro e w' ⟨rfl, c2, a2, l2, e2⟩))
  all_goals (try go_end0)
  exact ⟨rfl, c2, a2, l2, e2⟩
end Go.Proofs

/- The field's tables as numbers. -/
set_option linter.unusedSimpArgs false
set_option linter.unusedVariables false
set_option maxRecDepth 100000
namespace Go.Proofs
open Go Go.Eng
/-- 2 to the i, i below 510. -/
def expL : List Int :=
  [1, 2, 4, 8, 16, 32, 64, 128, 29, 58, 116, 232, 205, 135, 19, 38, 76, 152, 45, 90, 180, 117, 234, 201, 143, 3, 6, 12, 24, 48, 96, 192, 157, 39,
   78, 156, 37, 74, 148, 53, 106, 212, 181, 119, 238, 193, 159, 35, 70, 140, 5, 10, 20, 40, 80, 160, 93, 186, 105, 210, 185, 111, 222, 161, 95, 190, 97, 194,
   153, 47, 94, 188, 101, 202, 137, 15, 30, 60, 120, 240, 253, 231, 211, 187, 107, 214, 177, 127, 254, 225, 223, 163, 91, 182, 113, 226, 217, 175, 67, 134, 17, 34,
   68, 136, 13, 26, 52, 104, 208, 189, 103, 206, 129, 31, 62, 124, 248, 237, 199, 147, 59, 118, 236, 197, 151, 51, 102, 204, 133, 23, 46, 92, 184, 109, 218, 169,
   79, 158, 33, 66, 132, 21, 42, 84, 168, 77, 154, 41, 82, 164, 85, 170, 73, 146, 57, 114, 228, 213, 183, 115, 230, 209, 191, 99, 198, 145, 63, 126, 252, 229,
   215, 179, 123, 246, 241, 255, 227, 219, 171, 75, 150, 49, 98, 196, 149, 55, 110, 220, 165, 87, 174, 65, 130, 25, 50, 100, 200, 141, 7, 14, 28, 56, 112, 224,
   221, 167, 83, 166, 81, 162, 89, 178, 121, 242, 249, 239, 195, 155, 43, 86, 172, 69, 138, 9, 18, 36, 72, 144, 61, 122, 244, 245, 247, 243, 251, 235, 203, 139,
   11, 22, 44, 88, 176, 125, 250, 233, 207, 131, 27, 54, 108, 216, 173, 71, 142, 1, 2, 4, 8, 16, 32, 64, 128, 29, 58, 116, 232, 205, 135, 19, 38, 76,
   152, 45, 90, 180, 117, 234, 201, 143, 3, 6, 12, 24, 48, 96, 192, 157, 39, 78, 156, 37, 74, 148, 53, 106, 212, 181, 119, 238, 193, 159, 35, 70, 140, 5,
   10, 20, 40, 80, 160, 93, 186, 105, 210, 185, 111, 222, 161, 95, 190, 97, 194, 153, 47, 94, 188, 101, 202, 137, 15, 30, 60, 120, 240, 253, 231, 211, 187, 107,
   214, 177, 127, 254, 225, 223, 163, 91, 182, 113, 226, 217, 175, 67, 134, 17, 34, 68, 136, 13, 26, 52, 104, 208, 189, 103, 206, 129, 31, 62, 124, 248, 237, 199,
   147, 59, 118, 236, 197, 151, 51, 102, 204, 133, 23, 46, 92, 184, 109, 218, 169, 79, 158, 33, 66, 132, 21, 42, 84, 168, 77, 154, 41, 82, 164, 85, 170, 73,
   146, 57, 114, 228, 213, 183, 115, 230, 209, 191, 99, 198, 145, 63, 126, 252, 229, 215, 179, 123, 246, 241, 255, 227, 219, 171, 75, 150, 49, 98, 196, 149, 55, 110,
   220, 165, 87, 174, 65, 130, 25, 50, 100, 200, 141, 7, 14, 28, 56, 112, 224, 221, 167, 83, 166, 81, 162, 89, 178, 121, 242, 249, 239, 195, 155, 43, 86, 172,
   69, 138, 9, 18, 36, 72, 144, 61, 122, 244, 245, 247, 243, 251, 235, 203, 139, 11, 22, 44, 88, 176, 125, 250, 233, 207, 131, 27, 54, 108, 216, 173, 71, 142]
/-- The exponent of a. -/
def logL : List Int :=
  [0, 0, 1, 25, 2, 50, 26, 198, 3, 223, 51, 238, 27, 104, 199, 75, 4, 100, 224, 14, 52, 141, 239, 129, 28, 193, 105, 248, 200, 8, 76, 113, 5, 138,
   101, 47, 225, 36, 15, 33, 53, 147, 142, 218, 240, 18, 130, 69, 29, 181, 194, 125, 106, 39, 249, 185, 201, 154, 9, 120, 77, 228, 114, 166, 6, 191, 139, 98,
   102, 221, 48, 253, 226, 152, 37, 179, 16, 145, 34, 136, 54, 208, 148, 206, 143, 150, 219, 189, 241, 210, 19, 92, 131, 56, 70, 64, 30, 66, 182, 163, 195, 72,
   126, 110, 107, 58, 40, 84, 250, 133, 186, 61, 202, 94, 155, 159, 10, 21, 121, 43, 78, 212, 229, 172, 115, 243, 167, 87, 7, 112, 192, 247, 140, 128, 99, 13,
   103, 74, 222, 237, 49, 197, 254, 24, 227, 165, 153, 119, 38, 184, 180, 124, 17, 68, 146, 217, 35, 32, 137, 46, 55, 63, 209, 91, 149, 188, 207, 205, 144, 135,
   151, 178, 220, 252, 190, 97, 242, 86, 211, 171, 20, 42, 93, 158, 132, 60, 57, 83, 71, 109, 65, 162, 31, 45, 67, 216, 183, 123, 164, 118, 196, 23, 73, 236,
   127, 12, 111, 246, 108, 161, 59, 82, 41, 157, 85, 170, 251, 96, 134, 177, 187, 204, 62, 90, 203, 89, 95, 176, 156, 169, 160, 81, 11, 245, 22, 235, 122, 117,
   44, 215, 79, 174, 213, 233, 230, 231, 173, 232, 116, 214, 244, 234, 168, 80, 88, 175]

theorem doneD_eq : doneD = [[.int .u32 1, .int .i32 0, .int .u32 0] ++ expL.map (Value.int .u8) ++ logL.map (Value.int .i64)] := by kernel_rfl
theorem expL_len : expL.length = 510 := by kernel_rfl
theorem logL_len : logL.length = 256 := by kernel_rfl
theorem expT_eq {i : Nat} (h : i < 510) : expT i = expL.getD i 0 := by
  have hl := expL_len
  rw [expT, doneD_eq, cellX, List.headD_cons, List.append_assoc, List.getElem?_append_right (by simp)]
  simp only [List.length_cons, List.length_nil, Nat.zero_add, Nat.reduceAdd, Nat.add_sub_cancel]
  rw [List.getElem?_append_left (by simpa [hl] using h), List.getElem?_map, List.getD_eq_getElem?_getD, List.getElem?_eq_getElem (by omega)]
  rfl
theorem logT_eq {a : Nat} (h : a < 256) : logT a = logL.getD a 0 := by
  have hl := expL_len
  have hl2 := logL_len
  rw [logT, doneD_eq, cellX, List.headD_cons, List.getElem?_append_right (by simp [hl])]
  simp only [List.length_append, List.length_map, List.length_cons, List.length_nil, hl]
  rw [show a + 513 - (0 + 1 + 1 + 1 + 510) = a by omega, List.getElem?_map, List.getD_eq_getElem?_getD, List.getElem?_eq_getElem (by omega)]
  rfl
theorem logL_range : ∀ a : Fin 256, 0 ≤ logL.getD a.val 0 ∧ logL.getD a.val 0 < 255 := by decide +kernel
theorem expL_range : ∀ i : Fin 510, 1 ≤ expL.getD i.val 0 ∧ expL.getD i.val 0 < 256 := by decide +kernel
theorem log_exp : ∀ i : Fin 255, logL.getD (expL.getD i.val 0).toNat 0 = i.val := by decide +kernel
theorem exp_log : ∀ a : Fin 256, a.val ≠ 0 → expL.getD (logL.getD a.val 0).toNat 0 = a.val := by decide +kernel
theorem exp_per : ∀ i : Fin 255, expL.getD (i.val + 255) 0 = expL.getD i.val 0 := by decide +kernel
theorem logT_range {a : Int} (h0 : 0 ≤ a) (h1 : a < 256) : 0 ≤ logT a.toNat ∧ logT a.toNat < 255 := by
  rw [logT_eq (by omega)]; exact logL_range ⟨a.toNat, by omega⟩
theorem expT_range {i : Nat} (h : i < 510) : 1 ≤ expT i ∧ expT i < 256 := by
  rw [expT_eq h]; exact expL_range ⟨i, h⟩
end Go.Proofs

/- sync.Once and Mul, by contract. -/
set_option linter.unusedSimpArgs false
set_option linter.unusedVariables false
namespace Go.Proofs
open Go Go.Eng
theorem done_0 : (doneD.headD [])[0]? = some (.int .u32 1) := by kernel_rfl
theorem done_len : doneD.length = 1 := by kernel_rfl
theorem done_fits : fitsRow kField (doneD.headD []) := fitsB_row (by kernel_rfl)
set_option maxRecDepth 100000 in
theorem once_ok : onceC.ok Try.prog := by
  refine ⟨fun args w => Try.call80 args w, fun ρ w hF hO hg hd hsub hst hro hpre => ?_⟩
  obtain ⟨h1, h2, hdj, hu, hden, _⟩ := hst
  have hlen : (ρ 1).d.length = 1 := by
    rcases hpre with h | h
    · rw [h]; rfl
    · rw [h]; exact done_len
  rcases hden with ⟨hn, hnil, _⟩ | ⟨b, c, g1, g2, g3, g4, g5⟩
  · have : (ρ 1).d = [] := hnil
    rw [this] at hlen; cases hlen
  obtain ⟨row, hrow⟩ : ∃ row, (ρ 1).d = [row] := List.length_eq_one_iff.1 hlen
  obtain ⟨f1, f2⟩ := g5 0 row (by simp only [T.den]; rw [hrow]; rfl)
  have hs' : c.size = 769 := by rw [g3, kField_len]; simp [T.den, O0.den]
  have hlr : row.length = 769 := by rw [f1.1, kField_len]
  have hcl : c.toList = row := by
    apply List.ext_getElem?
    intro k
    by_cases hk : k < row.length
    · have := f2 k _ (List.getElem?_eq_getElem hk)
      rw [Array.getElem?_toList, List.getElem?_eq_getElem hk]
      simpa using this
    · rw [List.getElem?_eq_none (by simp; omega), List.getElem?_eq_none (by omega)]
  have hOb : hO b = some (.cells c 98 (0, 0)) := by rw [hu]; simp [Hp.union, g2]
  have hFb : hF b = none := (hd b).resolve_right (by rw [hOb]; simp)
  have hb : At w b c := hsub.1 b _ (by simp [Hp.union, hFb, hOb])
  have fin : ∀ w', (∃ c', At w' b c' ∧ [c'.toList] = doneD ∧ Else w w' b) → ∃ (ai : Nat) (al : Alt) (ρ' : Env), onceC.alts[ai]? = some al ∧ ρ'.good ∧ (∀ n, n < onceC.nv → ρ' n = ρ n) ∧ (Ending.returned (.tuple #[]) : Ending) = .returned (al.ret.den ρ') ∧ al.post (ρ'.upto (onceC.nv + al.k)) ∧ HeapOk ρ' hF al.heap w' := fun w' ⟨c', a', hl', he'⟩ => by
    have hgd : ({ d := doneD } : U).good := by
      refine ⟨rfl, fun r hr v hv => ?_⟩
      have hr : r ∈ doneD := hr
      rw [← hl', List.mem_singleton] at hr
      subst hr
      have hh : doneD.headD [] = c'.toList := by rw [← hl']; rfl
      obtain ⟨k, hk⟩ := List.getElem?_of_mem hv
      have hfit := done_fits
      rw [hh] at hfit
      have hlt : k < kField.length := by rw [← hfit.1]; exact (List.getElem?_eq_some_iff.1 hk).1
      exact fits_good' (hfit.2 k _ v (List.getElem?_eq_getElem hlt) hk)
    refine ⟨0, _, ρ.set 2 { d := doneD }, rfl, fun n => ?_, fun n hn => Env.set_ne ρ _ (by have : onceC.nv = 2 := rfl; omega), rfl, ?_, Hp.upd hO b (.cells c' 98 (0, 0)), ?_, ?_, ?_, he'.os.trans hsub.2.1, he'.out.trans hsub.2.2⟩
    · by_cases hn : n = 2
      · subst hn; rw [Env.set_same]; exact hgd
      · rw [Env.set_ne ρ _ hn]; exact hg n
    · show ((ρ.set 2 { d := doneD }).upto 3 2).d = doneD
      simp [Env.upto, Env.set_same]
    · intro y
      by_cases hy : y = b
      · subst hy; exact .inl hFb
      · rcases hd y with h | h
        · exact .inl h
        · exact .inr (by simp [Hp.upd, hy, h])
    · refine ⟨Hp.upd hO b (.cells c' 98 (0, 0)), Hp.emp, Hp.disj_emp _, by funext y; simp [Hp.union, Hp.emp], .inr ⟨b, c', ?_, by simp [Hp.upd], ?_, ?_, ?_⟩, trivial⟩
      · rw [Env.set_ne ρ _ (by omega)]; exact g1
      · have hfit := done_fits
        have hh : doneD.headD [] = c'.toList := by rw [← hl']; rfl
        rw [hh] at hfit
        have := hfit.1
        rw [kField_len] at this ⊢
        simp [T.den, O0.den] at this ⊢; omega
      · simp only [T.den, Env.set_same, O0.den]; rw [done_len]; decide
      · intro i r hi
        simp only [T.den, Env.set_same] at hi
        rw [← hl'] at hi
        match i with
        | 0 =>
          simp only [List.getElem?_cons_zero, Option.some.injEq] at hi
          subst hi
          have hfit := done_fits
          have hh : doneD.headD [] = c'.toList := by rw [← hl']; rfl
          rw [hh] at hfit
          exact ⟨hfit, fun k v hv => by simpa using hv⟩
        | i + 1 => simp at hi
    · intro y o ho
      by_cases hy : y = b
      · subst hy
        simp [Hp.union, hFb, Hp.upd] at ho
        rw [← ho]; exact a'
      · refine he'.blk y hy o (hsub.1 y o ?_)
        simpa [Hp.union, Hp.upd, hy] using ho
  have hargs : (onceC.args.map (SV.den ρ)).toArray = #[.pointer (some ⟨b, 0, none⟩), .func (.func 81) #[.pointer (some ⟨b, 0, none⟩)] #[]] := by
    simp [onceC, fArg, SV.den, T.den, O0.den, O1.den, g1, addrOf, denVs]
  rw [hargs]
  rcases hpre with h | h
  · refine (once_first b c w hb ?_).mono fun e w' ⟨he, hh⟩ => ?_
    · rw [hcl]
      have : [row] = [freshRow] := hrow.symm.trans h
      exact (List.cons.inj this).1
    · rw [he]; exact fin w' hh
  · have hh : [row] = doneD := hrow.symm.trans h
    have hr0 : doneD.headD [] = row := by rw [← hh]; rfl
    have h0 := done_0
    rw [hr0] at h0
    refine (once_done b 1 (by decide) _ w (hb.cell (by rw [← Array.getElem?_toList, hcl]; exact h0))).mono fun e w' ⟨he, hw⟩ => ?_
    rw [he, hw]
    exact fin w ⟨c, hb, by rw [hcl]; exact hh, fun _ _ _ ho => ho, rfl, rfl⟩
theorem mul_ok : mulC.ok Try.prog := mul_of (by simp [once_ok]) fun ρ hg hp => by
  obtain ⟨h1, a0, a1, b0, b1⟩ := hp
  simp [o_mul, mulC, onceC]
  obtain ⟨l0, l1⟩ := logT_range a0 a1
  obtain ⟨m0, m1⟩ := logT_range b0 b1
  have hz : ∀ h : (ρ 2).i = 0 ∨ (ρ 3).i = 0, 0 = mulF (ρ 2).i (ρ 3).i := fun h => by rw [mulF, if_pos h]
  have hne : ¬ (ρ 1).d = [] := fun h => by
    have hl := done_len
    rcases h1 with h' | h' <;> rw [h'] at h
    · cases h
    · rw [h] at hl; cases hl
  refine ⟨fun h => (hne h).elim, fun _ => ⟨fun h => ⟨h1, hz (.inl h)⟩, fun n2 => ⟨fun h => ⟨h1, hz (.inr h)⟩, fun n3 => ⟨List.length_pos_iff.2 hne, h1, fun u _ hu => ?_⟩⟩⟩⟩
  rw [hu]
  have e1 : cellX doneD ((ρ 2).i.toNat + 513) = logT (ρ 2).i.toNat := rfl
  have e2 : cellX doneD ((ρ 3).i.toNat + 513) = logT (ρ 3).i.toNat := rfl
  rw [e1, e2]
  have w : arithOf .add .i64 (logT (ρ 2).i.toNat) (logT (ρ 3).i.toNat) = logT (ρ 2).i.toNat + logT (ρ 3).i.toNat := by
    simp [arithOf, IntKind.wrap, IntKind.bits, IntKind.signed]; omega
  rw [w]
  refine ⟨by rw [done_len]; decide, a0, a1, b0, b1, by omega, by omega, .inr rfl, ?_⟩
  rw [mulF, if_neg (by omega)]; rfl
end Go.Proofs

/- Rows over the field, plainly. -/
set_option linter.unusedSimpArgs false
set_option linter.unusedVariables false
namespace Go.Proofs
open Go Go.Eng

theorem wrap64 {x : Int} (h1 : -9223372036854775808 ≤ x) (h2 : x < 9223372036854775808) : IntKind.i64.wrap x = x := by
  simp [IntKind.wrap, IntKind.bits, IntKind.signed]; omega
theorem add64 {x y : Int} (h1 : -9223372036854775808 ≤ x + y) (h2 : x + y < 9223372036854775808) : arithOf .add .i64 x y = x + y := wrap64 h1 h2
theorem sub64 {x y : Int} (h1 : -9223372036854775808 ≤ x - y) (h2 : x - y < 9223372036854775808) : arithOf .sub .i64 x y = x - y := wrap64 h1 h2
theorem mul64 {x y : Int} (h1 : -9223372036854775808 ≤ x * y) (h2 : x * y < 9223372036854775808) : arithOf .mul .i64 x y = x * y := wrap64 h1 h2
theorem mul_bound {x y a b : Int} (h0 : 0 ≤ x) (h1 : x ≤ a) (h2 : 0 ≤ y) (h3 : y ≤ b) : 0 ≤ x * y ∧ x * y ≤ a * b :=
  ⟨Int.mul_nonneg h0 h2, Int.mul_le_mul h1 h3 h2 (by omega)⟩
theorem wrapB {x : Int} : 0 ≤ IntKind.u8.wrap x ∧ IntKind.u8.wrap x < 256 := by simp [IntKind.wrap, IntKind.bits, IntKind.signed]; omega
theorem xorB_range {x y : Int} : 0 ≤ xorB x y ∧ xorB x y < 256 := wrapB
theorem xorB_zero' : ∀ x : Fin 256, xorB (x.val : Int) 0 = x.val := by decide +kernel
theorem xorB_zero {x : Int} (h0 : 0 ≤ x) (h1 : x < 256) : xorB x 0 = x := by
  have := xorB_zero' ⟨x.toNat, by omega⟩
  simp only [Int.toNat_of_nonneg h0] at this
  exact this
theorem mulF_zero {x : Int} : mulF 0 x = 0 := by simp [mulF]
theorem mulF_range {a b : Int} (a0 : 0 ≤ a) (a1 : a < 256) (b0 : 0 ≤ b) (b1 : b < 256) : 0 ≤ mulF a b ∧ mulF a b < 256 := by
  unfold mulF
  split
  · omega
  · obtain ⟨l0, l1⟩ := logT_range a0 a1
    obtain ⟨m0, m1⟩ := logT_range b0 b1
    have := expT_range (i := (logT a.toNat + logT b.toNat).toNat) (by omega)
    omega
theorem invF_range {a : Int} (a0 : 0 ≤ a) (a1 : a < 256) : 0 ≤ invF a ∧ invF a < 256 := by
  unfold invF
  split
  · omega
  · obtain ⟨l0, l1⟩ := logT_range a0 a1
    have := expT_range (i := (255 - logT a.toNat).toNat) (by omega)
    omega
/-! ### Bytes in rows -/
theorem bI_len {d : Rows'} : (bI d).length = d.length := by simp [bI]
theorem bI_get {d : Rows'} {i : Int} (h0 : 0 ≤ i) (h1 : i < d.length) : (bI d)[i.toNat]? = some (cellI d i 0) := by
  have hl : i.toNat < d.length := by omega
  simp [bI, cellI, cellV, rowI, List.getElem?_eq_getElem hl]
theorem allB_get {d : Rows'} (h : allB d) {i : Int} (h0 : 0 ≤ i) (h1 : i < d.length) : 0 ≤ cellI d i 0 ∧ cellI d i 0 < 256 := by
  have hl : i.toNat < d.length := by omega
  have := h _ (List.getElem_mem hl)
  simpa [cellI, cellV, rowI, List.getElem?_eq_getElem hl] using this
theorem allB_list {d : Rows'} (h : allB d) : ∀ x ∈ bI d, 0 ≤ x ∧ x < 256 := fun x hx => by
  obtain ⟨r, hr, rfl⟩ := List.mem_map.1 hx
  exact h r hr
theorem putD_len {d : Rows'} {e : Int} {c : Nat} {vs : List Value} : (putD d e c vs).length = d.length := by simp [putD]
theorem rowI_put {row : List Value} {k : IntKind} {z : Int} : rowI (splice row 0 [.int k z]) 0 = z := by simp [rowI, splice, vInt]
theorem bI_put {d : Rows'} {e : Int} {k : IntKind} {z : Int} : bI (putD d e 0 [.int k z]) = (bI d).set e.toNat z := by
  simp only [bI, putD, List.map_set, rowI_put]
theorem allB_put {d : Rows'} {e : Int} {k : IntKind} {z : Int} (h : allB d) (h0 : 0 ≤ z) (h1 : z < 256) : allB (putD d e 0 [.int k z]) := fun row hr => by
  unfold putD at hr
  rcases List.mem_or_eq_of_mem_set hr with hr | rfl
  · exact h row hr
  · rw [rowI_put]; exact ⟨h0, h1⟩
theorem allB_rep {n : Nat} : allB (List.replicate n [.int .u8 0]) := fun row hr => by
  rw [List.eq_of_mem_replicate hr]; simp [rowI, vInt]
theorem bI_rep {n : Nat} : bI (List.replicate n [.int .u8 0]) = List.replicate n 0 := by simp [bI, rowI, vInt]
/-! ### Rows added and scaled -/
theorem seg_get {l : List Int} {o n j : Nat} : (seg l o n)[j]? = if j < n then l[o + j]? else none := by
  simp only [seg, List.getElem?_take, List.getElem?_drop]
theorem seg_len {l : List Int} {o n : Nat} (h : o + n ≤ l.length) : (seg l o n).length = n := by simp [seg]; omega
theorem addToL_len {l s : List Int} {off : Nat} {c : Int} : (addToL l off s c).length = l.length := by simp [addToL]
theorem addToL_get {l s : List Int} {off : Nat} {c : Int} {j : Nat} : (addToL l off s c)[j]? = (l[j]?).map fun x => if off ≤ j ∧ j < off + s.length then xorB x (mulF c (s.getD (j - off) 0)) else x := by
  simp [addToL]
theorem addToL_nil {l : List Int} {off : Nat} {c : Int} : addToL l off [] c = l := by
  apply List.ext_getElem?
  intro j
  rw [addToL_get]
  cases l[j]? with
  | none => rfl
  | some x => simp only [Option.map_some, List.length_nil]; rw [if_neg (by omega)]
theorem addToL_zero {l s : List Int} {off : Nat} (h : ∀ x ∈ l, 0 ≤ x ∧ x < 256) : addToL l off s 0 = l := by
  apply List.ext_getElem?
  intro j
  rw [addToL_get]
  cases hj : l[j]? with
  | none => rfl
  | some x =>
    have := h x (List.mem_of_getElem? hj)
    simp only [Option.map_some, mulF_zero, xorB_zero this.1 this.2, ite_self]
theorem addToL_step {l s : List Int} {off o i : Nat} {c x y : Int} (hx : l[off + i]? = some x) (hy : s[o + i]? = some y) :
    addToL l off (seg s o (i + 1)) c = (addToL l off (seg s o i) c).set (off + i) (xorB x (mulF c y)) := by
  have hs : o + i < s.length := (List.getElem?_eq_some_iff.1 hy).1
  have hl : off + i < l.length := (List.getElem?_eq_some_iff.1 hx).1
  apply List.ext_getElem?
  intro j
  rw [List.getElem?_set, addToL_get, addToL_get, seg_len (by omega), seg_len (by omega), addToL_len]
  by_cases hj : off + i = j
  · subst hj
    rw [if_pos rfl, if_pos hl, hx, Option.map_some, if_pos (by omega)]
    rw [show off + i - off = i by omega, List.getD_eq_getElem?_getD, seg_get, if_pos (by omega), hy]; rfl
  · rw [if_neg hj]
    cases hlj : l[j]? with
    | none => rfl
    | some z =>
      simp only [Option.map_some, Option.some.injEq]
      by_cases hin : off ≤ j ∧ j < off + i
      · rw [if_pos (by omega), if_pos hin, List.getD_eq_getElem?_getD, List.getD_eq_getElem?_getD, seg_get, seg_get, if_pos (by omega), if_pos (by omega)]
      · rw [if_neg (by omega), if_neg hin]
theorem addToL_out {l s : List Int} {off : Nat} {c : Int} {j : Nat} (h : j < off ∨ off + s.length ≤ j) : (addToL l off s c)[j]? = l[j]? := by
  rw [addToL_get]
  cases l[j]? with
  | none => rfl
  | some x => rw [Option.map_some, if_neg (by omega)]
theorem scaleL_len {l : List Int} {off n : Nat} {c : Int} : (scaleL l off n c).length = l.length := by simp [scaleL]
theorem scaleL_get {l : List Int} {off n : Nat} {c : Int} {j : Nat} : (scaleL l off n c)[j]? = (l[j]?).map fun x => if off ≤ j ∧ j < off + n then mulF x c else x := by
  simp [scaleL]
theorem scaleL_zero {l : List Int} {off : Nat} {c : Int} : scaleL l off 0 c = l := by
  apply List.ext_getElem?
  intro j
  rw [scaleL_get]
  cases l[j]? with
  | none => rfl
  | some x => rw [Option.map_some, if_neg (by omega)]
theorem scaleL_step {l : List Int} {off i : Nat} {c x : Int} (hx : l[off + i]? = some x) : scaleL l off (i + 1) c = (scaleL l off i c).set (off + i) (mulF x c) := by
  have hl : off + i < l.length := (List.getElem?_eq_some_iff.1 hx).1
  apply List.ext_getElem?
  intro j
  rw [List.getElem?_set, scaleL_get, scaleL_get, scaleL_len]
  by_cases hj : off + i = j
  · subst hj
    rw [if_pos rfl, if_pos hl, hx, Option.map_some, if_pos (by omega)]
  · rw [if_neg hj]
    cases hlj : l[j]? with
    | none => rfl
    | some z =>
      simp only [Option.map_some, Option.some.injEq]
      by_cases hin : off ≤ j ∧ j < off + i
      · rw [if_pos (by omega), if_pos hin]
      · rw [if_neg (by omega), if_neg hin]
theorem scaleL_out {l : List Int} {off n : Nat} {c : Int} {j : Nat} (h : j < off ∨ off + n ≤ j) : (scaleL l off n c)[j]? = l[j]? := by
  rw [scaleL_get]
  cases l[j]? with
  | none => rfl
  | some x => rw [Option.map_some, if_neg (by omega)]
theorem fieldD_ne {d : Rows'} (h : fieldD d) : ¬ d = [] ∧ 0 < d.length := by
  have : d.length = 1 := by
    rcases h with h | h
    · rw [h]; rfl
    · rw [h, doneD_eq]; rfl
  exact ⟨fun h => (by rw [h] at this; cases this), by omega⟩
end Go.Proofs

set_option linter.unusedSimpArgs false
set_option linter.unusedVariables false
set_option maxRecDepth 100000
namespace Go.Proofs
open Go Go.Eng

def o_sizes74 : Out := (.br (.cmp .leq (.lit (1)) (.var 0))
 (.br (.cmp .leq (.var 0) (.var 1))
 (.ret 0 ⟨2, [(2, (.t (.cmp .leq (.var 1) (.lit (255)))))], [], [], []⟩)
 (.ret 0 ⟨2, [(2, (.t (.bl false)))], [], [], []⟩))
 (.ret 0 ⟨2, [(2, (.t (.bl false)))], [], [], []⟩))
theorem o_sizes74_eq : treeOf ⟨Try.prog, sizes74C, [], []⟩ 100000 Try.f74 = o_sizes74 := by kernel_rfl
theorem sizes74_of (hd : ∀ c ∈ ([] : List Ctr), c.ok Try.prog) (h : ∀ ρ : Env, ρ.good → (sizes74C).pre ρ → o_sizes74.den ⟨Try.prog, sizes74C, [], []⟩ ρ) : (sizes74C).ok Try.prog :=
  ok_of_tree Try.func74 (fun a w => Try.call74 a w) hd 100000 (fun ρ hg hp => by rw [o_sizes74_eq]; exact h ρ hg hp)
def o_piece26 : Out := (.br (.cmp .lss (.var 0) (.lit (1)))
 (.ret 0 ⟨2, [(3, (.t (.lit (2)))), (2, (.t (.lit (0))))], [], [], []⟩)
 (.br (.cmp .gtr (.var 0) (.lit (255)))
 (.ret 0 ⟨2, [(3, (.t (.lit (2)))), (2, (.t (.lit (0))))], [], [], []⟩)
 (.br (.cmp .lss (.var 1) (.lit (0)))
 (.ret 0 ⟨2, [(3, (.t (.lit (2)))), (2, (.t (.lit (0))))], [], [], []⟩)
 (.br (.cmp .gtr (.var 1) (.lit (8192)))
 (.ret 0 ⟨2, [(3, (.t (.lit (2)))), (2, (.t (.lit (0))))], [], [], []⟩)
 (.need (.cmp .neq (.var 0) (.lit (0))) (.ret 0 ⟨2, [(3, (.t (.lit (0)))), (2, (.t (.arith .quo .i64 (.arith .sub .i64 (.arith .add .i64 (.var 1) (.var 0)) (.lit (1))) (.var 0))))], [], [], []⟩))))))
theorem o_piece26_eq : treeOf ⟨Try.prog, piece26C, [], []⟩ 100000 Try.f26 = o_piece26 := by kernel_rfl
theorem piece26_of (hd : ∀ c ∈ ([] : List Ctr), c.ok Try.prog) (h : ∀ ρ : Env, ρ.good → (piece26C).pre ρ → o_piece26.den ⟨Try.prog, piece26C, [], []⟩ ρ) : (piece26C).ok Try.prog :=
  ok_of_tree Try.func26 (fun a w => Try.call26 a w) hd 100000 (fun ρ hg hp => by rw [o_piece26_eq]; exact h ρ hg hp)
def o_zero82 : Out := (.fresh 2 (.need (.cmp .leq (.lit (0)) (.arith .mul .i64 (.var 0) (.var 1))) (.need (.cmp .leq (.tims (.lit (1)) (.arith .mul .i64 (.var 0) (.var 1))) (.lit (281474976710656))) (.fresh 3 (.ret 0 ⟨2, [(5, (.t (.drep (.arith .mul .i64 (.var 0) (.var 1)) (.rcons (.vint .u8 (.lit (0))) .rnil)))), (4, (.t (.arith .mul .i64 (.var 0) (.var 1)))), (3, (.t (.arith .mul .i64 (.var 0) (.var 1)))), (2, (.r 3))], [((.var 4), (.arith .mul .i64 (.var 0) (.var 1))), ((.lit (0)), (.lit (0))), ((.var 1), (.var 1)), ((.var 0), (.var 0))], [], []⟩)))))
theorem o_zero82_eq : treeOf ⟨Try.prog, zero82C, [], []⟩ 100000 Try.f82 = o_zero82 := by kernel_rfl
theorem zero82_of (hd : ∀ c ∈ ([] : List Ctr), c.ok Try.prog) (h : ∀ ρ : Env, ρ.good → (zero82C).pre ρ → o_zero82.den ⟨Try.prog, zero82C, [], []⟩ ρ) : (zero82C).ok Try.prog :=
  ok_of_tree Try.func82 (fun a w => Try.call82 a w) hd 100000 (fun ρ hg hp => by rw [o_zero82_eq]; exact h ρ hg hp)
def o_row75 : Out := (.fresh 8 (.need (.cmp .leq (.lit (0)) (.var 3)) (.need (.cmp .leq (.lit (0)) (.var 4)) (.need (.cmp .leq (.lit (0)) (.arith .mul .i64 (.var 7) (.var 1))) (.need (.cmp .leq (.arith .mul .i64 (.var 7) (.var 1)) (.arith .mul .i64 (.arith .add .i64 (.var 7) (.lit (1))) (.var 1))) (.need (.cmp .leq (.arith .mul .i64 (.arith .add .i64 (.var 7) (.lit (1))) (.var 1)) (.var 4)) (.ret 0 ⟨8, [(10, (.t (.minus (.arith .mul .i64 (.arith .add .i64 (.var 7) (.lit (1))) (.var 1)) (.arith .mul .i64 (.var 7) (.var 1))))), (9, (.t (.minus (.arith .mul .i64 (.arith .add .i64 (.var 7) (.lit (1))) (.var 1)) (.arith .mul .i64 (.var 7) (.var 1))))), (8, (.t (.ife (.arith .mul .i64 (.arith .add .i64 (.var 7) (.lit (1))) (.var 1)) (.arith .mul .i64 (.var 7) (.var 1)) (.lit (0)) (.arith .mul .i64 (.var 7) (.var 1)))))], [], [], []⟩)))))))
theorem o_row75_eq : treeOf ⟨Try.prog, row75C, [], []⟩ 100000 Try.f75 = o_row75 := by kernel_rfl
theorem row75_of (hd : ∀ c ∈ ([] : List Ctr), c.ok Try.prog) (h : ∀ ρ : Env, ρ.good → (row75C).pre ρ → o_row75.den ⟨Try.prog, row75C, [], []⟩ ρ) : (row75C).ok Try.prog :=
  ok_of_tree Try.func75 (fun a w => Try.call75 a w) hd 100000 (fun ρ hg hp => by rw [o_row75_eq]; exact h ρ hg hp)
def o_valid36 : Out := (.fresh 7 (.br (.cmp .geq (.var 0) (.lit (1)))
 (.br (.cmp .leq (.var 0) (.lit (255)))
 (.br (.cmp .geq (.var 1) (.lit (1)))
 (.br (.cmp .leq (.var 1) (.lit (255)))
 (.need (.cmp .leq (.lit (0)) (.var 3)) (.ret 0 ⟨7, [(7, (.t (.cmp .eql (.var 3) (.arith .mul .i64 (.var 0) (.var 1)))))], [], [], []⟩))
 (.ret 0 ⟨7, [(7, (.t (.bl false)))], [], [], []⟩))
 (.ret 0 ⟨7, [(7, (.t (.bl false)))], [], [], []⟩))
 (.ret 0 ⟨7, [(7, (.t (.bl false)))], [], [], []⟩))
 (.ret 0 ⟨7, [(7, (.t (.bl false)))], [], [], []⟩)))
theorem o_valid36_eq : treeOf ⟨Try.prog, valid36C, [], []⟩ 100000 Try.f36 = o_valid36 := by kernel_rfl
theorem valid36_of (hd : ∀ c ∈ ([] : List Ctr), c.ok Try.prog) (h : ∀ ρ : Env, ρ.good → (valid36C).pre ρ → o_valid36.den ⟨Try.prog, valid36C, [], []⟩ ρ) : (valid36C).ok Try.prog :=
  ok_of_tree Try.func36 (fun a w => Try.call36 a w) hd 100000 (fun ρ hg hp => by rw [o_valid36_eq]; exact h ρ hg hp)
def o_clone84 : Out := (.fresh 7 (.fresh 8 (.both (.fresh 9 (.both (.need (.cmp .leq (.lit (0)) (.var 3)) (.need (.cmp .leq (.var 3) (.dlen (.var 5))) (.need (.cmp .leq (.tims (.lit (1)) (.var 3)) (.lit (140737488355328))) (.fresh 10 (.fresh 11 (.both (.both (.ret 0 ⟨7, [(9, (.t (.dtake (.var 5) (.var 3)))), (8, (.t (.var 11))), (7, (.r 10))], [((.var 8), (.var 11)), ((.var 3), (.var 3)), ((.lit (0)), (.lit (0))), ((.var 1), (.var 1)), ((.var 0), (.var 0))], [], []⟩) .top) .top)))))) .top)) .top)))
theorem o_clone84_eq : treeOf ⟨Try.prog, clone84C, [], []⟩ 100000 Try.f84 = o_clone84 := by kernel_rfl
theorem clone84_of (hd : ∀ c ∈ ([] : List Ctr), c.ok Try.prog) (h : ∀ ρ : Env, ρ.good → (clone84C).pre ρ → o_clone84.den ⟨Try.prog, clone84C, [], []⟩ ρ) : (clone84C).ok Try.prog :=
  ok_of_tree Try.func84 (fun a w => Try.call84 a w) hd 100000 (fun ρ hg hp => by rw [o_clone84_eq]; exact h ρ hg hp)
def o_addTo : Out := (.br (.cmp .eql (.var 14) (.lit (0)))
 (.ret 0 ⟨15, [(16, (.t (.var 6))), (15, (.t (.var 1)))], [((.var 7), (.var 7)), ((.lit (1)), (.lit (1)))], [], []⟩)
 (.need (.cmp .leq (.lit (0)) (.var 10)) (.inv 0 15 ⟨1000, [(1002, (.t (.var 6))), (1001, (.t (.var 1))), (1000, (.t (.lit (0))))], [((.var 7), (.var 7)), ((.lit (1)), (.lit (1))), ((.var 10), (.var 10)), ((.var 11), (.var 11)), ((.var 10), (.var 10)), ((.var 9), (.var 9)), ((.var 14), (.var 14)), ((.var 5), (.var 5)), ((.var 4), (.var 4)), ((.var 3), (.var 3)), ((.lit (0)), (.lit (0)))], [], []⟩ (.fresh 15 (.fresh 16 (.fresh 17 (.hyp 0 15 (.br (.cmp .lss (.var 15) (.var 10))
 (.need (.cmp .leq (.lit (0)) (.var 15)) (.need (.cmp .leq (.lit (0)) (.var 9)) (.need (.cmp .leq (.lit (0)) (.plus (.var 9) (.var 15))) (.need (.cmp .lss (.plus (.var 9) (.var 15)) (.dlen (.var 12))) (.need (.cmp .lss (.var 15) (.var 4)) (.need (.cmp .leq (.lit (0)) (.var 3)) (.need (.cmp .leq (.lit (0)) (.plus (.var 3) (.var 15))) (.need (.cmp .lss (.plus (.var 3) (.var 15)) (.dlen (.var 17))) (.both (.pre 0 ⟨0, [(1, (.t (.var 16))), (3, (.t (.icell (.var 12) (.plus (.var 9) (.var 15)) 0))), (2, (.t (.var 14))), (0, (.r 0))], [((.lit (1)), (.lit (1))), ((.lit (0)), (.lit (0)))], [], []⟩ (.both (.fresh 18 (.fresh 19 (.post 0 0 ⟨0, [(1, (.t (.var 16))), (3, (.t (.icell (.var 12) (.plus (.var 9) (.var 15)) 0))), (2, (.t (.var 14))), (0, (.r 0))], [((.lit (1)), (.lit (1))), ((.lit (0)), (.lit (0)))], [], []⟩ 18 (.both (.back 0 15 ⟨1000, [(1002, (.t (.dput (.var 17) (.plus (.var 3) (.var 15)) 0 (.rcons (.vint .u8 (.arith .xor .u8 (.icell (.var 17) (.plus (.var 3) (.var 15)) 0) (.var 18))) .rnil)))), (1001, (.t (.var 19))), (1000, (.t (.arith .add .i64 (.var 15) (.lit (1)))))], [((.var 7), (.var 7)), ((.lit (1)), (.lit (1))), ((.var 10), (.var 10)), ((.var 11), (.var 11)), ((.var 10), (.var 10)), ((.var 9), (.var 9)), ((.var 14), (.var 14)), ((.var 5), (.var 5)), ((.var 4), (.var 4)), ((.var 3), (.var 3)), ((.lit (0)), (.lit (0)))], [], []⟩) .top)))) .top)) .top)))))))))
 (.ret 0 ⟨15, [(16, (.t (.var 17))), (15, (.t (.var 16)))], [((.var 7), (.var 7)), ((.lit (1)), (.lit (1)))], [], []⟩)))))))))
theorem o_addTo_eq : treeOf ⟨Try.prog, addToC, [mulC], [addToI]⟩ 100000 Try.f76 = o_addTo := by kernel_rfl
theorem addTo_of (hd : ∀ c ∈ ([mulC] : List Ctr), c.ok Try.prog) (h : ∀ ρ : Env, ρ.good → (addToC).pre ρ → o_addTo.den ⟨Try.prog, addToC, [mulC], [addToI]⟩ ρ) : (addToC).ok Try.prog :=
  ok_of_tree Try.func76 (fun a w => Try.call76 a w) hd 100000 (fun ρ hg hp => by rw [o_addTo_eq]; exact h ρ hg hp)
def o_addToSame : Out := (.br (.cmp .eql (.var 11) (.lit (0)))
 (.ret 0 ⟨12, [(13, (.t (.var 6))), (12, (.t (.var 1)))], [((.var 7), (.var 7)), ((.lit (1)), (.lit (1)))], [], []⟩)
 (.need (.cmp .leq (.lit (0)) (.var 9)) (.inv 0 12 ⟨1000, [(1002, (.t (.var 6))), (1001, (.t (.var 1))), (1000, (.t (.lit (0))))], [((.var 7), (.var 7)), ((.lit (1)), (.lit (1))), ((.var 9), (.var 9)), ((.var 10), (.var 10)), ((.var 9), (.var 9)), ((.var 8), (.var 8)), ((.var 11), (.var 11)), ((.var 5), (.var 5)), ((.var 4), (.var 4)), ((.var 3), (.var 3)), ((.lit (0)), (.lit (0)))], [], []⟩ (.fresh 12 (.fresh 13 (.fresh 14 (.hyp 0 12 (.br (.cmp .lss (.var 12) (.var 9))
 (.need (.cmp .leq (.lit (0)) (.var 12)) (.need (.cmp .leq (.lit (0)) (.var 8)) (.need (.cmp .leq (.lit (0)) (.plus (.var 8) (.var 12))) (.need (.cmp .lss (.plus (.var 8) (.var 12)) (.dlen (.var 14))) (.need (.cmp .lss (.var 12) (.var 4)) (.need (.cmp .leq (.lit (0)) (.var 3)) (.need (.cmp .leq (.lit (0)) (.plus (.var 3) (.var 12))) (.need (.cmp .lss (.plus (.var 3) (.var 12)) (.dlen (.var 14))) (.both (.pre 0 ⟨0, [(1, (.t (.var 13))), (3, (.t (.icell (.var 14) (.plus (.var 8) (.var 12)) 0))), (2, (.t (.var 11))), (0, (.r 0))], [((.lit (1)), (.lit (1))), ((.lit (0)), (.lit (0)))], [], []⟩ (.both (.fresh 15 (.fresh 16 (.post 0 0 ⟨0, [(1, (.t (.var 13))), (3, (.t (.icell (.var 14) (.plus (.var 8) (.var 12)) 0))), (2, (.t (.var 11))), (0, (.r 0))], [((.lit (1)), (.lit (1))), ((.lit (0)), (.lit (0)))], [], []⟩ 15 (.both (.back 0 12 ⟨1000, [(1002, (.t (.dput (.var 14) (.plus (.var 3) (.var 12)) 0 (.rcons (.vint .u8 (.arith .xor .u8 (.icell (.var 14) (.plus (.var 3) (.var 12)) 0) (.var 15))) .rnil)))), (1001, (.t (.var 16))), (1000, (.t (.arith .add .i64 (.var 12) (.lit (1)))))], [((.var 7), (.var 7)), ((.lit (1)), (.lit (1))), ((.var 9), (.var 9)), ((.var 10), (.var 10)), ((.var 9), (.var 9)), ((.var 8), (.var 8)), ((.var 11), (.var 11)), ((.var 5), (.var 5)), ((.var 4), (.var 4)), ((.var 3), (.var 3)), ((.lit (0)), (.lit (0)))], [], []⟩) .top)))) .top)) .top)))))))))
 (.ret 0 ⟨12, [(13, (.t (.var 14))), (12, (.t (.var 13)))], [((.var 7), (.var 7)), ((.lit (1)), (.lit (1)))], [], []⟩)))))))))
theorem o_addToSame_eq : treeOf ⟨Try.prog, addToS, [mulC], [addToSI]⟩ 100000 Try.f76 = o_addToSame := by kernel_rfl
theorem addToSame_of (hd : ∀ c ∈ ([mulC] : List Ctr), c.ok Try.prog) (h : ∀ ρ : Env, ρ.good → (addToS).pre ρ → o_addToSame.den ⟨Try.prog, addToS, [mulC], [addToSI]⟩ ρ) : (addToS).ok Try.prog :=
  ok_of_tree Try.func76 (fun a w => Try.call76 a w) hd 100000 (fun ρ hg hp => by rw [o_addToSame_eq]; exact h ρ hg hp)
def o_scale : Out := (.need (.cmp .leq (.lit (0)) (.var 4)) (.inv 0 9 ⟨1000, [(1002, (.t (.var 6))), (1001, (.t (.var 1))), (1000, (.t (.lit (0))))], [((.var 7), (.var 7)), ((.lit (1)), (.lit (1))), ((.var 4), (.var 4)), ((.var 5), (.var 5)), ((.var 4), (.var 4)), ((.var 3), (.var 3)), ((.var 8), (.var 8)), ((.var 5), (.var 5)), ((.var 4), (.var 4)), ((.var 3), (.var 3)), ((.lit (0)), (.lit (0)))], [], []⟩ (.fresh 9 (.fresh 10 (.fresh 11 (.hyp 0 9 (.br (.cmp .lss (.var 9) (.var 4))
 (.need (.cmp .leq (.lit (0)) (.var 9)) (.need (.cmp .leq (.lit (0)) (.var 3)) (.need (.cmp .leq (.lit (0)) (.plus (.var 3) (.var 9))) (.need (.cmp .lss (.plus (.var 3) (.var 9)) (.dlen (.var 11))) (.pre 0 ⟨0, [(1, (.t (.var 10))), (3, (.t (.var 8))), (2, (.t (.icell (.var 11) (.plus (.var 3) (.var 9)) 0))), (0, (.r 0))], [((.lit (1)), (.lit (1))), ((.lit (0)), (.lit (0)))], [], []⟩ (.both (.fresh 12 (.fresh 13 (.post 0 0 ⟨0, [(1, (.t (.var 10))), (3, (.t (.var 8))), (2, (.t (.icell (.var 11) (.plus (.var 3) (.var 9)) 0))), (0, (.r 0))], [((.lit (1)), (.lit (1))), ((.lit (0)), (.lit (0)))], [], []⟩ 12 (.back 0 9 ⟨1000, [(1002, (.t (.dput (.var 11) (.plus (.var 3) (.var 9)) 0 (.rcons (.vint .u8 (.var 12)) .rnil)))), (1001, (.t (.var 13))), (1000, (.t (.arith .add .i64 (.var 9) (.lit (1)))))], [((.var 7), (.var 7)), ((.lit (1)), (.lit (1))), ((.var 4), (.var 4)), ((.var 5), (.var 5)), ((.var 4), (.var 4)), ((.var 3), (.var 3)), ((.var 8), (.var 8)), ((.var 5), (.var 5)), ((.var 4), (.var 4)), ((.var 3), (.var 3)), ((.lit (0)), (.lit (0)))], [], []⟩)))) .top))))))
 (.ret 0 ⟨9, [(10, (.t (.var 11))), (9, (.t (.var 10)))], [((.var 7), (.var 7)), ((.lit (1)), (.lit (1)))], [], []⟩))))))))
theorem o_scale_eq : treeOf ⟨Try.prog, scaleC, [mulC], [scaleI]⟩ 100000 Try.f97 = o_scale := by kernel_rfl
theorem scale_of (hd : ∀ c ∈ ([mulC] : List Ctr), c.ok Try.prog) (h : ∀ ρ : Env, ρ.good → (scaleC).pre ρ → o_scale.den ⟨Try.prog, scaleC, [mulC], [scaleI]⟩ ρ) : (scaleC).ok Try.prog :=
  ok_of_tree Try.func97 (fun a w => Try.call97 a w) hd 100000 (fun ρ hg hp => by rw [o_scale_eq]; exact h ρ hg hp)
def o_inv51 : Out := (.br (.and (.cmp .eql (.dlen (.var 1)) (.lit (0))) (.isnil 0))
 (.ret 0 ⟨3, [(5, (.t (.var 1))), (4, (.t (.lit (1)))), (3, (.t (.lit (0))))], [((.lit (1)), (.lit (1)))], [], []⟩)
 (.br (.cmp .eql (.var 2) (.lit (0)))
 (.ret 0 ⟨3, [(5, (.t (.var 1))), (4, (.t (.lit (2)))), (3, (.t (.lit (0))))], [((.lit (1)), (.lit (1)))], [], []⟩)
 (.need (.cmp .lss (.lit (0)) (.dlen (.var 1))) (.pre 0 ⟨0, [(1, (.t (.var 1))), (0, (.r 0))], [((.lit (1)), (.lit (1))), ((.lit (0)), (.lit (0))), ((.lit (0)), (.lit (0)))], [], []⟩ (.both (.fresh 3 (.post 0 0 ⟨0, [(1, (.t (.var 1))), (0, (.r 0))], [((.lit (1)), (.lit (1))), ((.lit (0)), (.lit (0))), ((.lit (0)), (.lit (0)))], [], []⟩ 3 (.need (.cmp .lss (.lit (0)) (.dlen (.var 3))) (.need (.cmp .leq (.lit (0)) (.var 2)) (.need (.cmp .lss (.var 2) (.lit (256))) (.need (.cmp .leq (.lit (0)) (.arith .sub .i64 (.lit (255)) (.c2 (.xint 513) (.var 3) (.var 2)))) (.need (.cmp .lss (.arith .sub .i64 (.lit (255)) (.c2 (.xint 513) (.var 3) (.var 2))) (.lit (510))) (.ret 0 ⟨3, [(5, (.t (.var 3))), (4, (.t (.lit (0)))), (3, (.t (.c2 (.xint 3) (.var 3) (.arith .sub .i64 (.lit (255)) (.c2 (.xint 513) (.var 3) (.var 2))))))], [((.lit (1)), (.lit (1)))], [], []⟩)))))))) .top)))))
theorem o_inv51_eq : treeOf ⟨Try.prog, inv51C, [onceC], []⟩ 100000 Try.f51 = o_inv51 := by kernel_rfl
theorem inv51_of (hd : ∀ c ∈ ([onceC] : List Ctr), c.ok Try.prog) (h : ∀ ρ : Env, ρ.good → (inv51C).pre ρ → o_inv51.den ⟨Try.prog, inv51C, [onceC], []⟩ ρ) : (inv51C).ok Try.prog :=
  ok_of_tree Try.func51 (fun a w => Try.call51 a w) hd 100000 (fun ρ hg hp => by rw [o_inv51_eq]; exact h ρ hg hp)
def o_pow37 : Out := (.br (.and (.cmp .eql (.dlen (.var 1)) (.lit (0))) (.isnil 0))
 (.ret 0 ⟨4, [(5, (.t (.var 1))), (4, (.t (.lit (0))))], [((.lit (1)), (.lit (1)))], [], []⟩)
 (.br (.cmp .leq (.var 3) (.lit (0)))
 (.ret 0 ⟨4, [(5, (.t (.var 1))), (4, (.t (.lit (1))))], [((.lit (1)), (.lit (1)))], [], []⟩)
 (.br (.cmp .eql (.var 2) (.lit (0)))
 (.ret 0 ⟨4, [(5, (.t (.var 1))), (4, (.t (.lit (0))))], [((.lit (1)), (.lit (1)))], [], []⟩)
 (.need (.cmp .lss (.lit (0)) (.dlen (.var 1))) (.pre 0 ⟨0, [(1, (.t (.var 1))), (0, (.r 0))], [((.lit (1)), (.lit (1))), ((.lit (0)), (.lit (0))), ((.lit (0)), (.lit (0)))], [], []⟩ (.both (.fresh 4 (.post 0 0 ⟨0, [(1, (.t (.var 1))), (0, (.r 0))], [((.lit (1)), (.lit (1))), ((.lit (0)), (.lit (0))), ((.lit (0)), (.lit (0)))], [], []⟩ 4 (.need (.cmp .lss (.lit (0)) (.dlen (.var 4))) (.need (.cmp .leq (.lit (0)) (.var 2)) (.need (.cmp .lss (.var 2) (.lit (256))) (.need (.cmp .leq (.lit (0)) (.arith .rem .i64 (.arith .mul .i64 (.c2 (.xint 513) (.var 4) (.var 2)) (.arith .rem .i64 (.var 3) (.lit (255)))) (.lit (255)))) (.need (.cmp .lss (.arith .rem .i64 (.arith .mul .i64 (.c2 (.xint 513) (.var 4) (.var 2)) (.arith .rem .i64 (.var 3) (.lit (255)))) (.lit (255))) (.lit (510))) (.ret 0 ⟨4, [(5, (.t (.var 4))), (4, (.t (.c2 (.xint 3) (.var 4) (.arith .rem .i64 (.arith .mul .i64 (.c2 (.xint 513) (.var 4) (.var 2)) (.arith .rem .i64 (.var 3) (.lit (255)))) (.lit (255))))))], [((.lit (1)), (.lit (1)))], [], []⟩)))))))) .top))))))
theorem o_pow37_eq : treeOf ⟨Try.prog, pow37C, [onceC], []⟩ 100000 Try.f37 = o_pow37 := by kernel_rfl
theorem pow37_of (hd : ∀ c ∈ ([onceC] : List Ctr), c.ok Try.prog) (h : ∀ ρ : Env, ρ.good → (pow37C).pre ρ → o_pow37.den ⟨Try.prog, pow37C, [onceC], []⟩ ρ) : (pow37C).ok Try.prog :=
  ok_of_tree Try.func37 (fun a w => Try.call37 a w) hd 100000 (fun ρ hg hp => by rw [o_pow37_eq]; exact h ρ hg hp)
def o_div52 : Out := (.pre 0 ⟨0, [(1, (.t (.var 1))), (2, (.t (.var 3))), (0, (.r 0))], [((.lit (1)), (.lit (1))), ((.lit (0)), (.lit (0)))], [], []⟩ (.both (.fresh 4 (.fresh 5 (.fresh 6 (.post 0 0 ⟨0, [(1, (.t (.var 1))), (2, (.t (.var 3))), (0, (.r 0))], [((.lit (1)), (.lit (1))), ((.lit (0)), (.lit (0)))], [], []⟩ 4 (.br (.cmp .neq (.var 5) (.lit (0)))
 (.ret 0 ⟨4, [(6, (.t (.var 6))), (5, (.t (.var 5))), (4, (.t (.lit (0))))], [((.lit (1)), (.lit (1)))], [], []⟩)
 (.pre 1 ⟨0, [(1, (.t (.var 6))), (3, (.t (.var 4))), (2, (.t (.var 2))), (0, (.r 0))], [((.lit (1)), (.lit (1))), ((.lit (0)), (.lit (0)))], [], []⟩ (.both (.fresh 7 (.fresh 8 (.post 1 0 ⟨0, [(1, (.t (.var 6))), (3, (.t (.var 4))), (2, (.t (.var 2))), (0, (.r 0))], [((.lit (1)), (.lit (1))), ((.lit (0)), (.lit (0)))], [], []⟩ 7 (.ret 0 ⟨4, [(6, (.t (.var 8))), (5, (.t (.lit (0)))), (4, (.t (.var 7)))], [((.lit (1)), (.lit (1)))], [], []⟩)))) .top))))))) .top))
theorem o_div52_eq : treeOf ⟨Try.prog, div52C, [inv51C, mulC], []⟩ 100000 Try.f52 = o_div52 := by kernel_rfl
theorem div52_of (hd : ∀ c ∈ ([inv51C, mulC] : List Ctr), c.ok Try.prog) (h : ∀ ρ : Env, ρ.good → (div52C).pre ρ → o_div52.den ⟨Try.prog, div52C, [inv51C, mulC], []⟩ ρ) : (div52C).ok Try.prog :=
  ok_of_tree Try.func52 (fun a w => Try.call52 a w) hd 100000 (fun ρ hg hp => by rw [o_div52_eq]; exact h ρ hg hp)
def o_add34 : Out := (.ret 0 ⟨2, [], [((.arith .xor .u8 (.var 0) (.var 1)), (.arith .xor .u8 (.var 0) (.var 1)))], [], []⟩)
theorem o_add34_eq : treeOf ⟨Try.prog, add34C, [], []⟩ 100000 Try.f34 = o_add34 := by kernel_rfl
theorem add34_of (hd : ∀ c ∈ ([] : List Ctr), c.ok Try.prog) (h : ∀ ρ : Env, ρ.good → (add34C).pre ρ → o_add34.den ⟨Try.prog, add34C, [], []⟩ ρ) : (add34C).ok Try.prog :=
  ok_of_tree Try.func34 (fun a w => Try.call34 a w) hd 100000 (fun ρ hg hp => by rw [o_add34_eq]; exact h ρ hg hp)
end Go.Proofs

/- Rows and matrices over the field: proofs. -/
set_option linter.unusedSimpArgs false
set_option linter.unusedVariables false
namespace Go.Proofs
open Go Go.Eng
theorem sizes74_ok : sizes74C.ok Try.prog := sizes74_of (by simp) fun ρ hg hp => by
  simp [o_sizes74, sizes74C]
  refine ⟨fun h1 => ⟨fun h2 => ?_, fun h2 => ?_⟩, fun h1 => ?_⟩
  · simp [sizesB, h1, h2, cmpOf]
  · simp [sizesB]; omega
  · simp [sizesB]; omega
theorem piece26_ok : piece26C.ok Try.prog := piece26_of (by simp) fun ρ hg hp => by
  simp [o_piece26, piece26C]
  unfold pieceBad
  refine ⟨fun h => by omega, fun h1 => ⟨fun h => by omega, fun h2 => ⟨fun h => by omega, fun h3 => ⟨fun h => by omega, fun h4 => ⟨by omega, by omega, fun _ => ?_⟩⟩⟩⟩⟩
  rw [add64 (by omega) (by omega), sub64 (by omega) (by omega)]
  have hq : 0 ≤ ((ρ 1).i + (ρ 0).i - 1).tdiv (ρ 0).i ∧ ((ρ 1).i + (ρ 0).i - 1).tdiv (ρ 0).i ≤ 10000 := by
    rw [Int.tdiv_eq_ediv_of_nonneg (by omega)]
    refine ⟨Int.ediv_nonneg (by omega) (by omega), ?_⟩
    have := Int.ediv_le_self (a := (ρ 1).i + (ρ 0).i - 1) (ρ 0).i (by omega)
    omega
  exact wrap64 (by omega) (by omega)
theorem zero82_ok : zero82C.ok Try.prog := zero82_of (by simp) fun ρ hg hp => by
  obtain ⟨h1, h2, h3, h4⟩ := hp
  simp [o_zero82, zero82C]
  have hb := mul_bound h1 h2 h3 h4
  rw [mul64 (by omega) (by omega)]
  omega
theorem row75_ok : row75C.ok Try.prog := row75_of (by simp) fun ρ hg hp => by
  obtain ⟨r0, r1, a0, a1, c0, c1, hl, hc, hd, hB⟩ := hp
  simp [o_row75, row75C]
  have hb := mul_bound (x := (ρ 7).i) (y := (ρ 1).i) r0 (show (ρ 7).i ≤ 255 by omega) c0 c1
  have hb2 := mul_bound (x := (ρ 7).i + 1) (y := (ρ 1).i) (by omega) (show (ρ 7).i + 1 ≤ 255 by omega) c0 c1
  have he : ((ρ 7).i + 1) * (ρ 1).i = (ρ 7).i * (ρ 1).i + (ρ 1).i := by rw [Int.add_mul, Int.one_mul]
  have hle : ((ρ 7).i + 1) * (ρ 1).i ≤ (ρ 0).i * (ρ 1).i := Int.mul_le_mul_of_nonneg_right (by omega) c0
  rw [add64 (by omega) (by omega), mul64 (by omega) (by omega), mul64 (by omega) (by omega)]
  refine ⟨by omega, by omega, hb.1, by omega, by omega, ?_, by omega⟩
  split
  · have : (ρ 1).i = 0 := by omega
    rw [this, Int.mul_zero]
  · rfl
theorem valid36_ok : valid36C.ok Try.prog := valid36_of (by simp) fun ρ hg hp => by
  have hp : 0 ≤ (ρ 3).i := hp
  simp [o_valid36, valid36C]
  refine ⟨fun h1 => ⟨fun h2 => ⟨fun h3 => ⟨fun h4 => ⟨by omega, ?_⟩, fun _ => by omega⟩, fun _ => by omega⟩, fun _ => by omega⟩, fun _ => by omega⟩
  have hb := mul_bound (x := (ρ 0).i) (y := (ρ 1).i) (by omega) h2 (by omega) h4
  rw [mul64 (by omega) (by omega)]
  omega
theorem clone84_ok : clone84C.ok Try.prog := clone84_of (by simp) fun ρ hg hp => by
  obtain ⟨h0, h1, h2⟩ := hp
  simp [o_clone84, clone84C]
  unfold Go.Eng.big at h2
  exact ⟨by omega, by omega, by omega⟩
theorem addTo_ok : addToC.ok Try.prog := addTo_of (by simp [mul_ok]) fun ρ hg hp => by
  obtain ⟨hf, ⟨o0, o1, o2, o3⟩, ⟨s0, s1, s2, s3⟩, hle, hB, hB2, c0, c1⟩ := hp
  unfold Go.Eng.big at o3 s3
  simp [o_addTo, addToC, addToI, mulC]
  refine ⟨fun hc => ⟨hf, hB, ?_⟩, fun hc => ⟨s1, ⟨s1, hf, hB, ?_⟩, fun i _ fd _ dd _ i0 i1 hfd hl hBd hd => ⟨fun hi => ?_, fun hi => ?_⟩⟩⟩
  · rw [hc, addToL_zero (allB_list hB)]
  · rw [show seg (bI (ρ 12).d) (ρ 9).i.toNat 0 = [] by simp [seg], addToL_nil]
  · have hcell := allB_get hB2 (i := (ρ 9).i + i.i) (by omega) (by omega)
    refine ⟨i0, s0, by omega, by omega, by omega, o0, by omega, by omega, ⟨hfd, c0, c1, hcell⟩, fun m _ fd2 _ hf2 hm => ?_⟩
    rw [add64 (by omega) (by omega)]
    have hy := bI_get (d := (ρ 12).d) (i := (ρ 9).i + i.i) (by omega) (by omega)
    rw [show ((ρ 9).i + i.i).toNat = (ρ 9).i.toNat + i.i.toNat by omega] at hy
    have hz := bI_get (d := dd.d) (i := (ρ 3).i + i.i) (by omega) (by omega)
    rw [show ((ρ 3).i + i.i).toNat = (ρ 3).i.toNat + i.i.toNat by omega, hd, addToL_out (by right; rw [seg_len (by rw [bI_len]; omega)]; omega)] at hz
    refine ⟨⟨by omega, by omega, hf2, by rw [putD_len, hl], allB_put hBd xorB_range.1 xorB_range.2, ?_⟩, by omega⟩
    rw [bI_put, hd, hm, show (i.i + 1).toNat = i.i.toNat + 1 by omega, addToL_step hz hy, show ((ρ 3).i + i.i).toNat = (ρ 3).i.toNat + i.i.toNat by omega]
    rfl
  · have : i.i = (ρ 10).i := by omega
    rw [this] at hd
    exact ⟨hfd, hl, hBd, hd⟩
theorem addToS_ok : addToS.ok Try.prog := addToSame_of (by simp [mul_ok]) fun ρ hg hp => by
  obtain ⟨hf, ⟨o0, o1, o2, o3⟩, ⟨s0, s1, s2, s3⟩, hle, hdis, hB, c0, c1⟩ := hp
  unfold Go.Eng.big at o3 s3
  simp [o_addToSame, addToS, addToSI, mulC]
  refine ⟨fun hc => ⟨hf, hB, ?_⟩, fun hc => ⟨s1, ⟨s1, hf, hB, ?_⟩, fun i _ fd _ dd _ i0 i1 hfd hl hBd hd => ⟨fun hi => ?_, fun hi => ?_⟩⟩⟩
  · rw [hc, addToL_zero (allB_list hB)]
  · rw [show seg (bI (ρ 6).d) (ρ 8).i.toNat 0 = [] by simp [seg], addToL_nil]
  · have hcell := allB_get hBd (i := (ρ 8).i + i.i) (by omega) (by omega)
    have hsl : (seg (bI (ρ 6).d) (ρ 8).i.toNat i.i.toNat).length = i.i.toNat := seg_len (by rw [bI_len]; omega)
    have hy := bI_get (d := dd.d) (i := (ρ 8).i + i.i) (by omega) (by omega)
    rw [show ((ρ 8).i + i.i).toNat = (ρ 8).i.toNat + i.i.toNat by omega, hd, addToL_out (by rw [hsl]; omega)] at hy
    have hz := bI_get (d := dd.d) (i := (ρ 3).i + i.i) (by omega) (by omega)
    rw [show ((ρ 3).i + i.i).toNat = (ρ 3).i.toNat + i.i.toNat by omega, hd, addToL_out (by rw [hsl]; omega)] at hz
    refine ⟨i0, s0, by omega, by omega, by omega, o0, by omega, by omega, ⟨hfd, c0, c1, hcell⟩, fun m _ fd2 _ hf2 hm => ?_⟩
    rw [add64 (by omega) (by omega)]
    refine ⟨⟨by omega, by omega, hf2, by rw [putD_len, hl], allB_put hBd xorB_range.1 xorB_range.2, ?_⟩, by omega⟩
    rw [bI_put, hd, hm, show (i.i + 1).toNat = i.i.toNat + 1 by omega, addToL_step hz hy, show ((ρ 3).i + i.i).toNat = (ρ 3).i.toNat + i.i.toNat by omega]
    rfl
  · have : i.i = (ρ 9).i := by omega
    rw [this] at hd
    exact ⟨hfd, hl, hBd, hd⟩
theorem scale_ok : scaleC.ok Try.prog := scale_of (by simp [mul_ok]) fun ρ hg hp => by
  obtain ⟨hf, ⟨o0, o1, o2, o3⟩, hB, c0, c1⟩ := hp
  unfold Go.Eng.big at o3
  simp [o_scale, scaleC, scaleI, mulC]
  refine ⟨o1, ⟨o1, hf, hB, ?_⟩, fun i _ fd _ dd _ i0 i1 hfd hl hBd hd => ⟨fun hi => ?_, fun hi => ?_⟩⟩
  · rw [scaleL_zero]
  · have hcell := allB_get hBd (i := (ρ 3).i + i.i) (by omega) (by omega)
    refine ⟨i0, o0, by omega, by omega, ⟨hfd, hcell.1, hcell.2, c0, c1⟩, fun m _ fd2 _ hf2 hm => ?_⟩
    rw [add64 (by omega) (by omega)]
    have hz := bI_get (d := dd.d) (i := (ρ 3).i + i.i) (by omega) (by omega)
    rw [show ((ρ 3).i + i.i).toNat = (ρ 3).i.toNat + i.i.toNat by omega, hd, scaleL_out (by omega)] at hz
    have hmr := mulF_range hcell.1 hcell.2 c0 c1
    refine ⟨⟨by omega, by omega, hf2, by rw [putD_len, hl], allB_put hBd (by rw [hm]; exact hmr.1) (by rw [hm]; exact hmr.2), ?_⟩, by omega⟩
    rw [bI_put, hd, hm, show (i.i + 1).toNat = i.i.toNat + 1 by omega, scaleL_step hz, show ((ρ 3).i + i.i).toNat = (ρ 3).i.toNat + i.i.toNat by omega]
  · have : i.i = (ρ 4).i := by omega
    rw [this] at hd
    exact ⟨hfd, hl, hBd, hd⟩
theorem inv51_ok : inv51C.ok Try.prog := inv51_of (by simp [once_ok]) fun ρ hg hp => by
  obtain ⟨hf, a0, a1⟩ := hp
  obtain ⟨hne, hpos⟩ := fieldD_ne hf
  simp [o_inv51, inv51C, onceC]
  refine ⟨fun h => (hne h).elim, fun _ => ⟨fun h => ⟨hf, by rw [invF, if_pos h], h⟩, fun h => ⟨hpos, hf, fun u _ hu => ?_⟩⟩⟩
  rw [hu]
  obtain ⟨l0, l1⟩ := logT_range a0 a1
  have e1 : cellX doneD ((ρ 2).i.toNat + 513) = logT (ρ 2).i.toNat := rfl
  rw [e1, sub64 (by omega) (by omega)]
  exact ⟨(fieldD_ne (.inr rfl)).2, a0, a1, by omega, by omega, .inr rfl, by rw [invF, if_neg h]; rfl, h⟩
theorem pow37_ok : pow37C.ok Try.prog := pow37_of (by simp [once_ok]) fun ρ hg hp => by
  obtain ⟨hf, a0, a1, e1⟩ := hp
  obtain ⟨hne, hpos⟩ := fieldD_ne hf
  simp [o_pow37, pow37C, onceC]
  refine ⟨fun h => (hne h).elim, fun _ => ⟨fun h => ⟨hf, by rw [powF, if_pos h]⟩, fun he => ⟨fun h => ⟨hf, by rw [powF, if_neg (by omega), if_pos h]⟩, fun h => ⟨hpos, hf, fun u _ hu => ?_⟩⟩⟩⟩
  rw [hu]
  obtain ⟨l0, l1⟩ := logT_range a0 a1
  have e1 : cellX doneD ((ρ 2).i.toNat + 513) = logT (ρ 2).i.toNat := rfl
  have hr : arithOf .rem .i64 (ρ 3).i 255 = (ρ 3).i.tmod 255 := rfl
  have hr0 : 0 ≤ (ρ 3).i.tmod 255 := Int.tmod_nonneg _ (by omega)
  have hr1 : (ρ 3).i.tmod 255 < 255 := Int.tmod_lt_of_pos _ (by omega)
  have hb := mul_bound l0 (show logT (ρ 2).i.toNat ≤ 255 by omega) hr0 (show (ρ 3).i.tmod 255 ≤ 255 by omega)
  rw [e1, hr, mul64 (by omega) (by omega)]
  have hr2 : arithOf .rem .i64 (logT (ρ 2).i.toNat * (ρ 3).i.tmod 255) 255 = (logT (ρ 2).i.toNat * (ρ 3).i.tmod 255).tmod 255 := rfl
  have hr3 : 0 ≤ (logT (ρ 2).i.toNat * (ρ 3).i.tmod 255).tmod 255 := Int.tmod_nonneg _ hb.1
  have hr4 : (logT (ρ 2).i.toNat * (ρ 3).i.tmod 255).tmod 255 < 255 := Int.tmod_lt_of_pos _ (by omega)
  rw [hr2]
  refine ⟨(fieldD_ne (.inr rfl)).2, a0, a1, hr3, by omega, .inr rfl, ?_⟩
  rw [powF, if_neg (by omega), if_neg h]; rfl
end Go.Proofs
