/- Texts ZT, ZP, ZO, ZN, ZQ, ZR, ZD, ZH, ZI, ZK, ZM, ZS, ZV, ZW, ZX, DS, DT, BT, BU, BV, BW, BX, BY, CA, CB, CC, CD, CE, CF, CG, CH, CI, CK, YA, CL, CM, ZLq, YF. -/
import Derived.Test.YtelcnkclppkicaaGreatDoorG4
import Derived.Test.YtelcnkclppkicaaGreatDoorProg
import Derived.Test.YtelcnkclppkicaaGreatDoorG1
import Derived.Tactics
import Derived.Tactics2
import Derived.Defers
import Derived.Laws.Pointers
import Derived.Laws.LoneSync
import Derived.RegionTactic
import Derived.RegionCalls
import Derived.ChangeAlike
import Derived.Test.YtelcnkclppkicaaGreatDoorG5
set_option linter.unusedSimpArgs false
set_option linter.unusedVariables false
set_option maxRecDepth 100000
namespace Go.Proofs
open Go Go.Eng
def qqt:Out:=(.fresh 0 (.ret 0 (sg 0 [bt 1 (.rcons (.vint .u32 (tl 0)) (.rcons (.vint .i32 (tl 0)) (.rcons (.vint .u32 (tl 0)) (.rcons (.vint .u8 (tl 0)) (.rcons (.vint .u8 (tl 0)) (.rcons (.vint .u8 (tl 0)) (.rcons (.vint .u8 (tl 0)) (.rcons (.vint .u8 (tl 0)) (.rcons (.vint .u8 (tl 0)) (.rcons (.vint .u8 (tl 0)) (.rcons (.vint .u8 (tl 0)) (.rcons (.vint .u8 (tl 0)) (.rcons (.vint .u8 (tl 0)) (.rcons (.vint .u8 (tl 0)) (.rcons (.vint .u8 (tl 0)) (.rcons (.vint .u8 (tl 0)) (.rcons (.vint .u8 (tl 0)) (.rcons (.vint .u8 (tl 0)) (.rcons (.vint .u8 (tl 0)) (.rcons (.vint .u8 (tl 0)) (.rcons (.vint .u8 (tl 0)) (.rcons (.vint .u8 (tl 0)) (.rcons (.vint .u8 (tl 0)) (.rcons (.vint .u8 (tl 0)) (.rcons (.vint .u8 (tl 0)) (.rcons (.vint .u8 (tl 0)) (.rcons (.vint .u8 (tl 0)) (.rcons (.vint .u8 (tl 0)) (.rcons (.vint .u8 (tl 0)) (.rcons (.vint .u8 (tl 0)) (.rcons (.vint .u8 (tl 0)) (.rcons (.vint .u8 (tl 0)) (.rcons (.vint .u8 (tl 0)) (.rcons (.vint .u8 (tl 0)) (.rcons (.vint .u8 (tl 0)) (.rcons (.vint .u8 (tl 0)) (.rcons (.vint .u8 (tl 0)) (.rcons (.vint .u8 (tl 0)) (.rcons (.vint .u8 (tl 0)) (.rcons (.vint .u8 (tl 0)) (.rcons (.vint .u8 (tl 0)) (.rcons (.vint .u8 (tl 0)) (.rcons (.vint .u8 (tl 0)) (.rcons (.vint .u8 (tl 0)) (.rcons (.vint .u8 (tl 0)) (.rcons (.vint .u8 (tl 0)) (.rcons (.vint .u8 (tl 0)) (.rcons (.vint .u8 (tl 0)) (.rcons (.vint .u8 (tl 0)) (.rcons (.vint .u8 (tl 0)) (.rcons (.vint .u8 (tl 0)) (.rcons (.vint .u8 (tl 0)) (.rcons (.vint .u8 (tl 0)) (.rcons (.vint .u8 (tl 0)) (.rcons (.vint .u8 (tl 0)) (.rcons (.vint .u8 (tl 0)) (.rcons (.vint .u8 (tl 0)) (.rcons (.vint .u8 (tl 0)) (.rcons (.vint .u8 (tl 0)) (.rcons (.vint .u8 (tl 0)) (.rcons (.vint .u8 (tl 0)) (.rcons (.vint .u8 (tl 0)) (.rcons (.vint .u8 (tl 0)) (.rcons (.vint .u8 (tl 0)) (.rcons (.vint .u8 (tl 0)) (.rcons (.vint .u8 (tl 0)) (.rcons (.vint .u8 (tl 0)) (.rcons (.vint .u8 (tl 0)) (.rcons (.vint .u8 (tl 0)) (.rcons (.vint .u8 (tl 0)) (.rcons (.vint .u8 (tl 0)) (.rcons (.vint .u8 (tl 0)) (.rcons (.vint .u8 (tl 0)) (.rcons (.vint .u8 (tl 0)) (.rcons (.vint .u8 (tl 0)) (.rcons (.vint .u8 (tl 0)) (.rcons (.vint .u8 (tl 0)) (.rcons (.vint .u8 (tl 0)) (.rcons (.vint .u8 (tl 0)) (.rcons (.vint .u8 (tl 0)) (.rcons (.vint .u8 (tl 0)) (.rcons (.vint .u8 (tl 0)) (.rcons (.vint .u8 (tl 0)) (.rcons (.vint .u8 (tl 0)) (.rcons (.vint .u8 (tl 0)) (.rcons (.vint .u8 (tl 0)) (.rcons (.vint .u8 (tl 0)) (.rcons (.vint .u8 (tl 0)) (.rcons (.vint .u8 (tl 0)) (.rcons (.vint .u8 (tl 0)) (.rcons (.vint .u8 (tl 0)) (.rcons (.vint .u8 (tl 0)) (.rcons (.vint .u8 (tl 0)) (.rcons (.vint .u8 (tl 0)) (.rcons (.vint .u8 (tl 0)) (.rcons (.vint .u8 (tl 0)) (.rcons (.vint .u8 (tl 0)) (.rcons (.vint .u8 (tl 0)) (.rcons (.vint .u8 (tl 0)) (.rcons (.vint .u8 (tl 0)) (.rcons (.vint .u8 (tl 0)) (.rcons (.vint .u8 (tl 0)) (.rcons (.vint .u8 (tl 0)) (.rcons (.vint .u8 (tl 0)) (.rcons (.vint .u8 (tl 0)) (.rcons (.vint .u8 (tl 0)) (.rcons (.vint .u8 (tl 0)) (.rcons (.vint .u8 (tl 0)) (.rcons (.vint .u8 (tl 0)) (.rcons (.vint .u8 (tl 0)) (.rcons (.vint .u8 (tl 0)) (.rcons (.vint .u8 (tl 0)) (.rcons (.vint .u8 (tl 0)) (.rcons (.vint .u8 (tl 0)) (.rcons (.vint .u8 (tl 0)) (.rcons (.vint .u8 (tl 0)) (.rcons (.vint .u8 (tl 0)) (.rcons (.vint .u8 (tl 0)) (.rcons (.vint .u8 (tl 0)) (.rcons (.vint .u8 (tl 0)) (.rcons (.vint .u8 (tl 0)) (.rcons (.vint .u8 (tl 0)) (.rcons (.vint .u8 (tl 0)) (.rcons (.vint .u8 (tl 0)) (.rcons (.vint .u8 (tl 0)) (.rcons (.vint .u8 (tl 0)) (.rcons (.vint .u8 (tl 0)) (.rcons (.vint .u8 (tl 0)) (.rcons (.vint .u8 (tl 0)) (.rcons (.vint .u8 (tl 0)) (.rcons (.vint .u8 (tl 0)) (.rcons (.vint .u8 (tl 0)) (.rcons (.vint .u8 (tl 0)) (.rcons (.vint .u8 (tl 0)) (.rcons (.vint .u8 (tl 0)) (.rcons (.vint .u8 (tl 0)) (.rcons (.vint .u8 (tl 0)) (.rcons (.vint .u8 (tl 0)) (.rcons (.vint .u8 (tl 0)) (.rcons (.vint .u8 (tl 0)) (.rcons (.vint .u8 (tl 0)) (.rcons (.vint .u8 (tl 0)) (.rcons (.vint .u8 (tl 0)) (.rcons (.vint .u8 (tl 0)) (.rcons (.vint .u8 (tl 0)) (.rcons (.vint .u8 (tl 0)) (.rcons (.vint .u8 (tl 0)) (.rcons (.vint .u8 (tl 0)) (.rcons (.vint .u8 (tl 0)) (.rcons (.vint .u8 (tl 0)) (.rcons (.vint .u8 (tl 0)) (.rcons (.vint .u8 (tl 0)) (.rcons (.vint .u8 (tl 0)) (.rcons (.vint .u8 (tl 0)) (.rcons (.vint .u8 (tl 0)) (.rcons (.vint .u8 (tl 0)) (.rcons (.vint .u8 (tl 0)) (.rcons (.vint .u8 (tl 0)) (.rcons (.vint .u8 (tl 0)) (.rcons (.vint .u8 (tl 0)) (.rcons (.vint .u8 (tl 0)) (.rcons (.vint .u8 (tl 0)) (.rcons (.vint .u8 (tl 0)) (.rcons (.vint .u8 (tl 0)) (.rcons (.vint .u8 (tl 0)) (.rcons (.vint .u8 (tl 0)) (.rcons (.vint .u8 (tl 0)) (.rcons (.vint .u8 (tl 0)) (.rcons (.vint .u8 (tl 0)) (.rcons (.vint .u8 (tl 0)) (.rcons (.vint .u8 (tl 0)) (.rcons (.vint .u8 (tl 0)) (.rcons (.vint .u8 (tl 0)) (.rcons (.vint .u8 (tl 0)) (.rcons (.vint .u8 (tl 0)) (.rcons (.vint .u8 (tl 0)) (.rcons (.vint .u8 (tl 0)) (.rcons (.vint .u8 (tl 0)) (.rcons (.vint .u8 (tl 0)) (.rcons (.vint .u8 (tl 0)) (.rcons (.vint .u8 (tl 0)) (.rcons (.vint .u8 (tl 0)) (.rcons (.vint .u8 (tl 0)) (.rcons (.vint .u8 (tl 0)) (.rcons (.vint .u8 (tl 0)) (.rcons (.vint .u8 (tl 0)) (.rcons (.vint .u8 (tl 0)) (.rcons (.vint .u8 (tl 0)) (.rcons (.vint .u8 (tl 0)) (.rcons (.vint .u8 (tl 0)) (.rcons (.vint .u8 (tl 0)) (.rcons (.vint .u8 (tl 0)) (.rcons (.vint .u8 (tl 0)) (.rcons (.vint .u8 (tl 0)) (.rcons (.vint .u8 (tl 0)) (.rcons (.vint .u8 (tl 0)) (.rcons (.vint .u8 (tl 0)) (.rcons (.vint .u8 (tl 0)) (.rcons (.vint .u8 (tl 0)) (.rcons (.vint .u8 (tl 0)) (.rcons (.vint .u8 (tl 0)) (.rcons (.vint .u8 (tl 0)) (.rcons (.vint .u8 (tl 0)) (.rcons (.vint .u8 (tl 0)) (.rcons (.vint .u8 (tl 0)) (.rcons (.vint .u8 (tl 0)) (.rcons (.vint .u8 (tl 0)) (.rcons (.vint .u8 (tl 0)) (.rcons (.vint .u8 (tl 0)) (.rcons (.vint .u8 (tl 0)) (.rcons (.vint .u8 (tl 0)) (.rcons (.vint .u8 (tl 0)) (.rcons (.vint .u8 (tl 0)) (.rcons (.vint .u8 (tl 0)) (.rcons (.vint .u8 (tl 0)) (.rcons (.vint .u8 (tl 0)) (.rcons (.vint .u8 (tl 0)) (.rcons (.vint .u8 (tl 0)) (.rcons (.vint .u8 (tl 0)) (.rcons (.vint .u8 (tl 0)) (.rcons (.vint .u8 (tl 0)) (.rcons (.vint .u8 (tl 0)) (.rcons (.vint .u8 (tl 0)) (.rcons (.vint .u8 (tl 0)) (.rcons (.vint .u8 (tl 0)) (.rcons (.vint .u8 (tl 0)) (.rcons (.vint .u8 (tl 0)) (.rcons (.vint .u8 (tl 0)) (.rcons (.vint .u8 (tl 0)) (.rcons (.vint .u8 (tl 0)) (.rcons (.vint .u8 (tl 0)) (.rcons (.vint .u8 (tl 0)) (.rcons (.vint .u8 (tl 0)) (.rcons (.vint .u8 (tl 0)) (.rcons (.vint .u8 (tl 0)) (.rcons (.vint .u8 (tl 0)) (.rcons (.vint .u8 (tl 0)) (.rcons (.vint .u8 (tl 0)) (.rcons (.vint .u8 (tl 0)) (.rcons (.vint .u8 (tl 0)) (.rcons (.vint .u8 (tl 0)) (.rcons (.vint .u8 (tl 0)) (.rcons (.vint .u8 (tl 0)) (.rcons (.vint .u8 (tl 0)) (.rcons (.vint .u8 (tl 0)) (.rcons (.vint .u8 (tl 0)) (.rcons (.vint .u8 (tl 0)) (.rcons (.vint .u8 (tl 0)) (.rcons (.vint .u8 (tl 0)) (.rcons (.vint .u8 (tl 0)) (.rcons (.vint .u8 (tl 0)) (.rcons (.vint .u8 (tl 0)) (.rcons (.vint .u8 (tl 0)) (.rcons (.vint .u8 (tl 0)) (.rcons (.vint .u8 (tl 0)) (.rcons (.vint .u8 (tl 0)) (.rcons (.vint .u8 (tl 0)) (.rcons (.vint .u8 (tl 0)) (.rcons (.vint .u8 (tl 0)) (.rcons (.vint .u8 (tl 0)) (.rcons (.vint .u8 (tl 0)) (.rcons (.vint .u8 (tl 0)) (.rcons (.vint .u8 (tl 0)) (.rcons (.vint .u8 (tl 0)) (.rcons (.vint .u8 (tl 0)) (.rcons (.vint .u8 (tl 0)) (.rcons (.vint .u8 (tl 0)) (.rcons (.vint .u8 (tl 0)) (.rcons (.vint .u8 (tl 0)) (.rcons (.vint .u8 (tl 0)) (.rcons (.vint .u8 (tl 0)) (.rcons (.vint .u8 (tl 0)) (.rcons (.vint .u8 (tl 0)) (.rcons (.vint .u8 (tl 0)) (.rcons (.vint .u8 (tl 0)) (.rcons (.vint .u8 (tl 0)) (.rcons (.vint .u8 (tl 0)) (.rcons (.vint .u8 (tl 0)) (.rcons (.vint .u8 (tl 0)) (.rcons (.vint .u8 (tl 0)) (.rcons (.vint .u8 (tl 0)) (.rcons (.vint .u8 (tl 0)) (.rcons (.vint .u8 (tl 0)) (.rcons (.vint .u8 (tl 0)) (.rcons (.vint .u8 (tl 0)) (.rcons (.vint .u8 (tl 0)) (.rcons (.vint .u8 (tl 0)) (.rcons (.vint .u8 (tl 0)) (.rcons (.vint .u8 (tl 0)) (.rcons (.vint .u8 (tl 0)) (.rcons (.vint .u8 (tl 0)) (.rcons (.vint .u8 (tl 0)) (.rcons (.vint .u8 (tl 0)) (.rcons (.vint .u8 (tl 0)) (.rcons (.vint .u8 (tl 0)) (.rcons (.vint .u8 (tl 0)) (.rcons (.vint .u8 (tl 0)) (.rcons (.vint .u8 (tl 0)) (.rcons (.vint .u8 (tl 0)) (.rcons (.vint .u8 (tl 0)) (.rcons (.vint .u8 (tl 0)) (.rcons (.vint .u8 (tl 0)) (.rcons (.vint .u8 (tl 0)) (.rcons (.vint .u8 (tl 0)) (.rcons (.vint .u8 (tl 0)) (.rcons (.vint .u8 (tl 0)) (.rcons (.vint .u8 (tl 0)) (.rcons (.vint .u8 (tl 0)) (.rcons (.vint .u8 (tl 0)) (.rcons (.vint .u8 (tl 0)) (.rcons (.vint .u8 (tl 0)) (.rcons (.vint .u8 (tl 0)) (.rcons (.vint .u8 (tl 0)) (.rcons (.vint .u8 (tl 0)) (.rcons (.vint .u8 (tl 0)) (.rcons (.vint .u8 (tl 0)) (.rcons (.vint .u8 (tl 0)) (.rcons (.vint .u8 (tl 0)) (.rcons (.vint .u8 (tl 0)) (.rcons (.vint .u8 (tl 0)) (.rcons (.vint .u8 (tl 0)) (.rcons (.vint .u8 (tl 0)) (.rcons (.vint .u8 (tl 0)) (.rcons (.vint .u8 (tl 0)) (.rcons (.vint .u8 (tl 0)) (.rcons (.vint .u8 (tl 0)) (.rcons (.vint .u8 (tl 0)) (.rcons (.vint .u8 (tl 0)) (.rcons (.vint .u8 (tl 0)) (.rcons (.vint .u8 (tl 0)) (.rcons (.vint .u8 (tl 0)) (.rcons (.vint .u8 (tl 0)) (.rcons (.vint .u8 (tl 0)) (.rcons (.vint .u8 (tl 0)) (.rcons (.vint .u8 (tl 0)) (.rcons (.vint .u8 (tl 0)) (.rcons (.vint .u8 (tl 0)) (.rcons (.vint .u8 (tl 0)) (.rcons (.vint .u8 (tl 0)) (.rcons (.vint .u8 (tl 0)) (.rcons (.vint .u8 (tl 0)) (.rcons (.vint .u8 (tl 0)) (.rcons (.vint .u8 (tl 0)) (.rcons (.vint .u8 (tl 0)) (.rcons (.vint .u8 (tl 0)) (.rcons (.vint .u8 (tl 0)) (.rcons (.vint .u8 (tl 0)) (.rcons (.vint .u8 (tl 0)) (.rcons (.vint .u8 (tl 0)) (.rcons (.vint .u8 (tl 0)) (.rcons (.vint .u8 (tl 0)) (.rcons (.vint .u8 (tl 0)) (.rcons (.vint .u8 (tl 0)) (.rcons (.vint .u8 (tl 0)) (.rcons (.vint .u8 (tl 0)) (.rcons (.vint .u8 (tl 0)) (.rcons (.vint .u8 (tl 0)) (.rcons (.vint .u8 (tl 0)) (.rcons (.vint .u8 (tl 0)) (.rcons (.vint .u8 (tl 0)) (.rcons (.vint .u8 (tl 0)) (.rcons (.vint .u8 (tl 0)) (.rcons (.vint .u8 (tl 0)) (.rcons (.vint .u8 (tl 0)) (.rcons (.vint .u8 (tl 0)) (.rcons (.vint .u8 (tl 0)) (.rcons (.vint .u8 (tl 0)) (.rcons (.vint .u8 (tl 0)) (.rcons (.vint .u8 (tl 0)) (.rcons (.vint .u8 (tl 0)) (.rcons (.vint .u8 (tl 0)) (.rcons (.vint .u8 (tl 0)) (.rcons (.vint .u8 (tl 0)) (.rcons (.vint .u8 (tl 0)) (.rcons (.vint .u8 (tl 0)) (.rcons (.vint .u8 (tl 0)) (.rcons (.vint .u8 (tl 0)) (.rcons (.vint .u8 (tl 0)) (.rcons (.vint .u8 (tl 0)) (.rcons (.vint .u8 (tl 0)) (.rcons (.vint .u8 (tl 0)) (.rcons (.vint .u8 (tl 0)) (.rcons (.vint .u8 (tl 0)) (.rcons (.vint .u8 (tl 0)) (.rcons (.vint .u8 (tl 0)) (.rcons (.vint .u8 (tl 0)) (.rcons (.vint .u8 (tl 0)) (.rcons (.vint .u8 (tl 0)) (.rcons (.vint .u8 (tl 0)) (.rcons (.vint .u8 (tl 0)) (.rcons (.vint .u8 (tl 0)) (.rcons (.vint .u8 (tl 0)) (.rcons (.vint .u8 (tl 0)) (.rcons (.vint .u8 (tl 0)) (.rcons (.vint .u8 (tl 0)) (.rcons (.vint .u8 (tl 0)) (.rcons (.vint .u8 (tl 0)) (.rcons (.vint .u8 (tl 0)) (.rcons (.vint .u8 (tl 0)) (.rcons (.vint .u8 (tl 0)) (.rcons (.vint .u8 (tl 0)) (.rcons (.vint .u8 (tl 0)) (.rcons (.vint .u8 (tl 0)) (.rcons (.vint .u8 (tl 0)) (.rcons (.vint .u8 (tl 0)) (.rcons (.vint .u8 (tl 0)) (.rcons (.vint .u8 (tl 0)) (.rcons (.vint .u8 (tl 0)) (.rcons (.vint .u8 (tl 0)) (.rcons (.vint .u8 (tl 0)) (.rcons (.vint .u8 (tl 0)) (.rcons (.vint .u8 (tl 0)) (.rcons (.vint .u8 (tl 0)) (.rcons (.vint .u8 (tl 0)) (.rcons (.vint .u8 (tl 0)) (.rcons (.vint .u8 (tl 0)) (.rcons (.vint .u8 (tl 0)) (.rcons (.vint .u8 (tl 0)) (.rcons (.vint .u8 (tl 0)) (.rcons (.vint .u8 (tl 0)) (.rcons (.vint .u8 (tl 0)) (.rcons (.vint .u8 (tl 0)) (.rcons (.vint .u8 (tl 0)) (.rcons (.vint .u8 (tl 0)) (.rcons (.vint .u8 (tl 0)) (.rcons (.vint .u8 (tl 0)) (.rcons (.vint .u8 (tl 0)) (.rcons (.vint .u8 (tl 0)) (.rcons (.vint .u8 (tl 0)) (.rcons (.vint .u8 (tl 0)) (.rcons (.vint .u8 (tl 0)) (.rcons (.vint .u8 (tl 0)) (.rcons (.vint .u8 (tl 0)) (.rcons (.vint .u8 (tl 0)) (.rcons (.vint .u8 (tl 0)) (.rcons (.vint .u8 (tl 0)) (.rcons (.vint .u8 (tl 0)) (.rcons (.vint .u8 (tl 0)) (.rcons (.vint .u8 (tl 0)) (.rcons (.vint .u8 (tl 0)) (.rcons (.vint .u8 (tl 0)) (.rcons (.vint .u8 (tl 0)) (.rcons (.vint .u8 (tl 0)) (.rcons (.vint .u8 (tl 0)) (.rcons (.vint .u8 (tl 0)) (.rcons (.vint .u8 (tl 0)) (.rcons (.vint .u8 (tl 0)) (.rcons (.vint .u8 (tl 0)) (.rcons (.vint .u8 (tl 0)) (.rcons (.vint .u8 (tl 0)) (.rcons (.vint .u8 (tl 0)) (.rcons (.vint .u8 (tl 0)) (.rcons (.vint .u8 (tl 0)) (.rcons (.vint .u8 (tl 0)) (.rcons (.vint .u8 (tl 0)) (.rcons (.vint .u8 (tl 0)) (.rcons (.vint .u8 (tl 0)) (.rcons (.vint .u8 (tl 0)) (.rcons (.vint .u8 (tl 0)) (.rcons (.vint .u8 (tl 0)) (.rcons (.vint .u8 (tl 0)) (.rcons (.vint .u8 (tl 0)) (.rcons (.vint .u8 (tl 0)) (.rcons (.vint .u8 (tl 0)) (.rcons (.vint .u8 (tl 0)) (.rcons (.vint .u8 (tl 0)) (.rcons (.vint .u8 (tl 0)) (.rcons (.vint .u8 (tl 0)) (.rcons (.vint .u8 (tl 0)) (.rcons (.vint .u8 (tl 0)) (.rcons (.vint .u8 (tl 0)) (.rcons (.vint .u8 (tl 0)) (.rcons (.vint .u8 (tl 0)) (.rcons (.vint .u8 (tl 0)) (.rcons (.vint .u8 (tl 0)) (.rcons (.vint .u8 (tl 0)) (.rcons (.vint .u8 (tl 0)) (.rcons (.vint .u8 (tl 0)) (.rcons (.vint .u8 (tl 0)) (.rcons (.vint .u8 (tl 0)) (.rcons (.vint .u8 (tl 0)) (.rcons (.vint .u8 (tl 0)) (.rcons (.vint .u8 (tl 0)) (.rcons (.vint .u8 (tl 0)) (.rcons (.vint .u8 (tl 0)) (.rcons (.vint .u8 (tl 0)) (.rcons (.vint .u8 (tl 0)) (.rcons (.vint .u8 (tl 0)) (.rcons (.vint .u8 (tl 0)) (.rcons (.vint .u8 (tl 0)) (.rcons (.vint .u8 (tl 0)) (.rcons (.vint .u8 (tl 0)) (.rcons (.vint .u8 (tl 0)) (.rcons (.vint .u8 (tl 0)) (.rcons (.vint .u8 (tl 0)) (.rcons (.vint .u8 (tl 0)) (.rcons (.vint .u8 (tl 0)) (.rcons (.vint .u8 (tl 0)) (.rcons (.vint .u8 (tl 0)) (.rcons (.vint .u8 (tl 0)) (.rcons (.vint .u8 (tl 0)) (.rcons (.vint .u8 (tl 0)) (.rcons (.vint .u8 (tl 0)) (.rcons (.vint .u8 (tl 0)) (.rcons (.vint .u8 (tl 0)) (.rcons (.vint .u8 (tl 0)) (.rcons (.vint .u8 (tl 0)) (.rcons (.vint .u8 (tl 0)) (.rcons (.vint .u8 (tl 0)) (.rcons (.vint .u8 (tl 0)) (.rcons (.vint .u8 (tl 0)) (.rcons (.vint .u8 (tl 0)) (.rcons (.vint .u8 (tl 0)) (.rcons (.vint .i64 (tl 0)) (.rcons (.vint .i64 (tl 0)) (.rcons (.vint .i64 (tl 0)) (.rcons (.vint .i64 (tl 0)) (.rcons (.vint .i64 (tl 0)) (.rcons (.vint .i64 (tl 0)) (.rcons (.vint .i64 (tl 0)) (.rcons (.vint .i64 (tl 0)) (.rcons (.vint .i64 (tl 0)) (.rcons (.vint .i64 (tl 0)) (.rcons (.vint .i64 (tl 0)) (.rcons (.vint .i64 (tl 0)) (.rcons (.vint .i64 (tl 0)) (.rcons (.vint .i64 (tl 0)) (.rcons (.vint .i64 (tl 0)) (.rcons (.vint .i64 (tl 0)) (.rcons (.vint .i64 (tl 0)) (.rcons (.vint .i64 (tl 0)) (.rcons (.vint .i64 (tl 0)) (.rcons (.vint .i64 (tl 0)) (.rcons (.vint .i64 (tl 0)) (.rcons (.vint .i64 (tl 0)) (.rcons (.vint .i64 (tl 0)) (.rcons (.vint .i64 (tl 0)) (.rcons (.vint .i64 (tl 0)) (.rcons (.vint .i64 (tl 0)) (.rcons (.vint .i64 (tl 0)) (.rcons (.vint .i64 (tl 0)) (.rcons (.vint .i64 (tl 0)) (.rcons (.vint .i64 (tl 0)) (.rcons (.vint .i64 (tl 0)) (.rcons (.vint .i64 (tl 0)) (.rcons (.vint .i64 (tl 0)) (.rcons (.vint .i64 (tl 0)) (.rcons (.vint .i64 (tl 0)) (.rcons (.vint .i64 (tl 0)) (.rcons (.vint .i64 (tl 0)) (.rcons (.vint .i64 (tl 0)) (.rcons (.vint .i64 (tl 0)) (.rcons (.vint .i64 (tl 0)) (.rcons (.vint .i64 (tl 0)) (.rcons (.vint .i64 (tl 0)) (.rcons (.vint .i64 (tl 0)) (.rcons (.vint .i64 (tl 0)) (.rcons (.vint .i64 (tl 0)) (.rcons (.vint .i64 (tl 0)) (.rcons (.vint .i64 (tl 0)) (.rcons (.vint .i64 (tl 0)) (.rcons (.vint .i64 (tl 0)) (.rcons (.vint .i64 (tl 0)) (.rcons (.vint .i64 (tl 0)) (.rcons (.vint .i64 (tl 0)) (.rcons (.vint .i64 (tl 0)) (.rcons (.vint .i64 (tl 0)) (.rcons (.vint .i64 (tl 0)) (.rcons (.vint .i64 (tl 0)) (.rcons (.vint .i64 (tl 0)) (.rcons (.vint .i64 (tl 0)) (.rcons (.vint .i64 (tl 0)) (.rcons (.vint .i64 (tl 0)) (.rcons (.vint .i64 (tl 0)) (.rcons (.vint .i64 (tl 0)) (.rcons (.vint .i64 (tl 0)) (.rcons (.vint .i64 (tl 0)) (.rcons (.vint .i64 (tl 0)) (.rcons (.vint .i64 (tl 0)) (.rcons (.vint .i64 (tl 0)) (.rcons (.vint .i64 (tl 0)) (.rcons (.vint .i64 (tl 0)) (.rcons (.vint .i64 (tl 0)) (.rcons (.vint .i64 (tl 0)) (.rcons (.vint .i64 (tl 0)) (.rcons (.vint .i64 (tl 0)) (.rcons (.vint .i64 (tl 0)) (.rcons (.vint .i64 (tl 0)) (.rcons (.vint .i64 (tl 0)) (.rcons (.vint .i64 (tl 0)) (.rcons (.vint .i64 (tl 0)) (.rcons (.vint .i64 (tl 0)) (.rcons (.vint .i64 (tl 0)) (.rcons (.vint .i64 (tl 0)) (.rcons (.vint .i64 (tl 0)) (.rcons (.vint .i64 (tl 0)) (.rcons (.vint .i64 (tl 0)) (.rcons (.vint .i64 (tl 0)) (.rcons (.vint .i64 (tl 0)) (.rcons (.vint .i64 (tl 0)) (.rcons (.vint .i64 (tl 0)) (.rcons (.vint .i64 (tl 0)) (.rcons (.vint .i64 (tl 0)) (.rcons (.vint .i64 (tl 0)) (.rcons (.vint .i64 (tl 0)) (.rcons (.vint .i64 (tl 0)) (.rcons (.vint .i64 (tl 0)) (.rcons (.vint .i64 (tl 0)) (.rcons (.vint .i64 (tl 0)) (.rcons (.vint .i64 (tl 0)) (.rcons (.vint .i64 (tl 0)) (.rcons (.vint .i64 (tl 0)) (.rcons (.vint .i64 (tl 0)) (.rcons (.vint .i64 (tl 0)) (.rcons (.vint .i64 (tl 0)) (.rcons (.vint .i64 (tl 0)) (.rcons (.vint .i64 (tl 0)) (.rcons (.vint .i64 (tl 0)) (.rcons (.vint .i64 (tl 0)) (.rcons (.vint .i64 (tl 0)) (.rcons (.vint .i64 (tl 0)) (.rcons (.vint .i64 (tl 0)) (.rcons (.vint .i64 (tl 0)) (.rcons (.vint .i64 (tl 0)) (.rcons (.vint .i64 (tl 0)) (.rcons (.vint .i64 (tl 0)) (.rcons (.vint .i64 (tl 0)) (.rcons (.vint .i64 (tl 0)) (.rcons (.vint .i64 (tl 0)) (.rcons (.vint .i64 (tl 0)) (.rcons (.vint .i64 (tl 0)) (.rcons (.vint .i64 (tl 0)) (.rcons (.vint .i64 (tl 0)) (.rcons (.vint .i64 (tl 0)) (.rcons (.vint .i64 (tl 0)) (.rcons (.vint .i64 (tl 0)) (.rcons (.vint .i64 (tl 0)) (.rcons (.vint .i64 (tl 0)) (.rcons (.vint .i64 (tl 0)) (.rcons (.vint .i64 (tl 0)) (.rcons (.vint .i64 (tl 0)) (.rcons (.vint .i64 (tl 0)) (.rcons (.vint .i64 (tl 0)) (.rcons (.vint .i64 (tl 0)) (.rcons (.vint .i64 (tl 0)) (.rcons (.vint .i64 (tl 0)) (.rcons (.vint .i64 (tl 0)) (.rcons (.vint .i64 (tl 0)) (.rcons (.vint .i64 (tl 0)) (.rcons (.vint .i64 (tl 0)) (.rcons (.vint .i64 (tl 0)) (.rcons (.vint .i64 (tl 0)) (.rcons (.vint .i64 (tl 0)) (.rcons (.vint .i64 (tl 0)) (.rcons (.vint .i64 (tl 0)) (.rcons (.vint .i64 (tl 0)) (.rcons (.vint .i64 (tl 0)) (.rcons (.vint .i64 (tl 0)) (.rcons (.vint .i64 (tl 0)) (.rcons (.vint .i64 (tl 0)) (.rcons (.vint .i64 (tl 0)) (.rcons (.vint .i64 (tl 0)) (.rcons (.vint .i64 (tl 0)) (.rcons (.vint .i64 (tl 0)) (.rcons (.vint .i64 (tl 0)) (.rcons (.vint .i64 (tl 0)) (.rcons (.vint .i64 (tl 0)) (.rcons (.vint .i64 (tl 0)) (.rcons (.vint .i64 (tl 0)) (.rcons (.vint .i64 (tl 0)) (.rcons (.vint .i64 (tl 0)) (.rcons (.vint .i64 (tl 0)) (.rcons (.vint .i64 (tl 0)) (.rcons (.vint .i64 (tl 0)) (.rcons (.vint .i64 (tl 0)) (.rcons (.vint .i64 (tl 0)) (.rcons (.vint .i64 (tl 0)) (.rcons (.vint .i64 (tl 0)) (.rcons (.vint .i64 (tl 0)) (.rcons (.vint .i64 (tl 0)) (.rcons (.vint .i64 (tl 0)) (.rcons (.vint .i64 (tl 0)) (.rcons (.vint .i64 (tl 0)) (.rcons (.vint .i64 (tl 0)) (.rcons (.vint .i64 (tl 0)) (.rcons (.vint .i64 (tl 0)) (.rcons (.vint .i64 (tl 0)) (.rcons (.vint .i64 (tl 0)) (.rcons (.vint .i64 (tl 0)) (.rcons (.vint .i64 (tl 0)) (.rcons (.vint .i64 (tl 0)) (.rcons (.vint .i64 (tl 0)) (.rcons (.vint .i64 (tl 0)) (.rcons (.vint .i64 (tl 0)) (.rcons (.vint .i64 (tl 0)) (.rcons (.vint .i64 (tl 0)) (.rcons (.vint .i64 (tl 0)) (.rcons (.vint .i64 (tl 0)) (.rcons (.vint .i64 (tl 0)) (.rcons (.vint .i64 (tl 0)) (.rcons (.vint .i64 (tl 0)) (.rcons (.vint .i64 (tl 0)) (.rcons (.vint .i64 (tl 0)) (.rcons (.vint .i64 (tl 0)) (.rcons (.vint .i64 (tl 0)) (.rcons (.vint .i64 (tl 0)) (.rcons (.vint .i64 (tl 0)) (.rcons (.vint .i64 (tl 0)) (.rcons (.vint .i64 (tl 0)) (.rcons (.vint .i64 (tl 0)) (.rcons (.vint .i64 (tl 0)) (.rcons (.vint .i64 (tl 0)) (.rcons (.vint .i64 (tl 0)) (.rcons (.vint .i64 (tl 0)) (.rcons (.vint .i64 (tl 0)) (.rcons (.vint .i64 (tl 0)) (.rcons (.vint .i64 (tl 0)) (.rcons (.vint .i64 (tl 0)) (.rcons (.vint .i64 (tl 0)) (.rcons (.vint .i64 (tl 0)) (.rcons (.vint .i64 (tl 0)) (.rcons (.vint .i64 (tl 0)) (.rcons (.vint .i64 (tl 0)) (.rcons (.vint .i64 (tl 0)) (.rcons (.vint .i64 (tl 0)) (.rcons (.vint .i64 (tl 0)) (.rcons (.vint .i64 (tl 0)) (.rcons (.vint .i64 (tl 0)) (.rcons (.vint .i64 (tl 0)) (.rcons (.vint .i64 (tl 0)) (.rcons (.vint .i64 (tl 0)) (.rcons (.vint .i64 (tl 0)) (.rcons (.vint .i64 (tl 0)) (.rcons (.vint .i64 (tl 0)) (.rcons (.vint .i64 (tl 0)) (.rcons (.vint .i64 (tl 0)) (.rcons (.vint .i64 (tl 0)) (.rcons (.vint .i64 (tl 0)) (.rcons (.vint .i64 (tl 0)) (.rcons (.vint .i64 (tl 0)) (.rcons (.vint .i64 (tl 0)) (.rcons (.vint .i64 (tl 0)) (.rcons (.vint .i64 (tl 0)) (.rcons (.vint .i64 (tl 0)) (.rcons (.vint .i64 (tl 0)) (.rcons (.vint .i64 (tl 0)) (.rcons (.vint .i64 (tl 0)) (.rcons (.vint .i64 (tl 0)) (.rcons (.vint .i64 (tl 0)) (.rcons (.vint .i64 (tl 0)) (.rcons (.vint .i64 (tl 0)) (.rcons (.vint .i64 (tl 0)) (.rcons (.vint .i64 (tl 0)) (.rcons (.vint .i64 (tl 0)) (.rcons (.vint .i64 (tl 0)) (.rcons (.vint .i64 (tl 0)) (.rcons (.vint .i64 (tl 0)) (.rcons (.vint .i64 (tl 0)) (.rcons (.vint .i64 (tl 0)) (.rcons (.vint .i64 (tl 0)) (.rcons (.vint .i64 (tl 0)) (.rcons (.vint .i64 (tl 0)) (.rcons (.vint .i64 (tl 0)) (.rcons (.vint .i64 (tl 0)) (.rcons (.vint .i64 (tl 0)) (.rcons (.vint .i64 (tl 0)) (.rcons (.vint .i64 (tl 0)) (.rcons (.vint .i64 (tl 0)) (.rcons (.vint .i64 (tl 0)) .rnil))))))))))))))))))))))))))))))))))))))))))))))))))))))))))))))))))))))))))))))))))))))))))))))))))))))))))))))))))))))))))))))))))))))))))))))))))))))))))))))))))))))))))))))))))))))))))))))))))))))))))))))))))))))))))))))))))))))))))))))))))))))))))))))))))))))))))))))))))))))))))))))))))))))))))))))))))))))))))))))))))))))))))))))))))))))))))))))))))))))))))))))))))))))))))))))))))))))))))))))))))))))))))))))))))))))))))))))))))))))))))))))))))))))))))))))))))))))))))))))))))))))))))))))))))))))))))))))))))))))))))))))))))))))))))))))))))))))))))))))))))))))))))))))))))))))))))))))))))))))))))))))))))))))))))))))))))))))))))))))))))))))))))))))))))))))))))))))))))))))))))))))))))))))))))))))))))))))))))))))))))))))))))))))))))))))))))))))))))))))))))))))))),bg 0 0])))
theorem qxx:qn Tryz.prog qcp [] [] qqt:=qh Tryz.func20 Tryz.call20 (by kernel_rfl)
@[simp] def qrz:T:=.c3 (.xput 513) (.c3 (.xput 3) (.c3 (.xput 3) (tv 4) (tv 3) (.vint .u8 (.conv .u8 (tv 2)))) (.arith .add .i64 (tv 3) (tl 255)) (.vint .u8 (.conv .u8 (tv 2)))) (tv 2) (.vint .i64 (tv 3))
def qyL:Out:=(.inv 0 2 (sg 1000 [bv 1002 1,bt 1001 (tl 0),bt 1000 (tl 1)]) (fr 2 3 (.hyp 0 2 (.br (.cmp .lss (tv 3) (tl 255))
 (.need (.cmp .lss (tl 0) (.dlen (tv 4))) (.need (.cmp .leq (tl 0) (tv 3)) (.need (.cmp .lss (tv 3) (tl 510)) (.need (.cmp .leq (tl 0) (.arith .add .i64 (tv 3) (tl 255))) (.need (.cmp .lss (.arith .add .i64 (tv 3) (tl 255)) (tl 510)) (.need (.cmp .leq (tl 0) (tv 2)) (.need (.cmp .lss (tv 2) (tl 256)) (.br (.cmp .geq (.arith .shl .i64 (tv 2) (tl 1)) (tl 256))
 (.back 0 2 (sg 1000 [bt 1002 qrz,bt 1001 (.arith .add .i64 (tv 3) (tl 1)),bt 1000 (.arith .xor .i64 (.arith .shl .i64 (tv 2) (tl 1)) (tl 285))]))
 (.back 0 2 (sg 1000 [bt 1002 qrz,bt 1001 (.arith .add .i64 (tv 3) (tl 1)),bt 1000 (.arith .shl .i64 (tv 2) (tl 1))]))))))))))
 (.ret 0 (sg 2 [bv 2 4]))))))
theorem q5q:qn Tryz.prog qtX [] [q3Y] qyL:=qh Tryz.func179 Tryz.call179 (by kernel_rfl)
@[simp] def qqC:T:=.arith .add .i64 (.c2 (.xint 513) (tv 4) (tv 2)) (.c2 (.xint 513) (tv 4) (tv 3))
def q65:Out:=(.br (.and (.cmp .eql (.dlen (tv 1)) (tl 0)) (.isnil 0))
 (.ret 0 (sg 4 [bv 5 1,bt 4 (tl 0)]))
 (.br (.cmp .eql (tv 2) (tl 0))
 (.ret 0 (sg 4 [bv 5 1,bt 4 (tl 0)]))
 (.br (.cmp .eql (tv 3) (tl 0))
 (.ret 0 (sg 4 [bv 5 1,bt 4 (tl 0)]))
 (.need (.cmp .lss (tl 0) (.dlen (tv 1))) (.pre 0 (sg 0 [bv 1 1,bg 0 0]) (.both (.fresh 4 (.post 0 0 (sg 0 [bv 1 1,bg 0 0]) 4 (.need (.cmp .lss (tl 0) (.dlen (tv 4))) (.need (.cmp .leq (tl 0) (tv 2)) (.need (.cmp .lss (tv 2) (tl 256)) (.need (.cmp .leq (tl 0) (tv 3)) (.need (.cmp .lss (tv 3) (tl 256)) (.need (.cmp .leq (tl 0) qqC) (.need (.cmp .lss qqC (tl 510)) (.ret 0 (sg 4 [bv 5 4,bt 4 (.c2 (.xint 3) (tv 4) qqC)]))))))))))) .top))))))
theorem q9P:qn Tryz.prog qhH [qek] [] q65:=qh Tryz.func152 Tryz.call152 (by kernel_rfl)
set_option maxRecDepth 100000 in
theorem qn3:qcp.ok Tryz.prog:=qxx (by simp) fun Z hg hp=>by
 simp [qqt,qcp]
 kernel_rfl
theorem qw5:∀ x:Fin 256,0 <= qiu (x.val:Int)/\qiu (x.val:Int) < 256:=by decide +kernel
theorem qx7 {x:Int} (h0:0 <= x) (h1:x < 256):0 <= qiu x/\qiu x < 256:=by
 have:=qw5 ⟨x.toNat,by omega⟩
 simp only [jay h0] at this
 exact this
theorem qhW (d:qd):∀ n,0 <= (qbE d n).2/\(qbE d n).2 < 256
 | 0=>by simp [qbE]
 | n + 1=>qx7 (qhW d n).1 (qhW d n).2
theorem q4F {d:qd} {i:Nat} {v:Value}:(qas d i v).length = d.length:=by cases d <;> simp [qas]
theorem qlb (d:qd):∀ n,(qbE d n).1.length = d.length
 | 0=>rfl
 | n + 1=>by simp only [qbE,qm5,q4F,qlb d n]
theorem q5d:qtX.ok Tryz.prog:=q5q (by simp) fun Z hg hp=>by
 have hl:(Z 1).d.length = 1:=hp
 simp [qyL,qtX,q3Y]
 refine ⟨rfl,fun x _ i _ d _ i0 i1 hd=>⟨fun hi=>?_,fun hi=>?_⟩⟩
 ·obtain ⟨x0,x1⟩:=qhW (Z 1).d i.i.toNat
  have hlen:=qlb (Z 1).d i.i.toNat
  rw [<- hd] at x0 x1 hlen
  simp only at x0 x1 hlen
  have w1:qe .add .i64 i.i 255 = i.i + 255:=by simp [qe,IntKind.wrap,IntKind.bits,IntKind.signed]; omega
  have w2:qe .add .i64 i.i 1 = i.i + 1:=by simp [qe,IntKind.wrap,IntKind.bits,IntKind.signed]; omega
  have w3:qe .shl .i64 x.i 1 = 2 * x.i:=by simp [qe,IntKind.wrap,IntKind.bits,IntKind.signed]; omega
  have w4:IntKind.u8.wrap x.i = x.i:=by simp [IntKind.wrap,IntKind.bits,IntKind.signed]; omega
  have hstep:∀ y,y = qiu x.i->(qas (qas (qas d.d (i.i.toNat + 3) (.int .u8 x.i)) ((i.i + 255).toNat + 3) (.int .u8 x.i)) (x.i.toNat + 513) (.int .i64 i.i),y) = qbE (Z 1).d (i.i + 1).toNat:=fun y hy=>by
   rw [show (i.i + 1).toNat = i.i.toNat + 1 by omega,qbE,<- hd,qm5,hy]
   simp only
   rw [show (i.i + 255).toNat = i.i.toNat + 255 by omega,jay i0]
  rw [w1,w2,w3,w4]
  refine ⟨by omega,i0,by omega,by omega,by omega,x0,x1,fun h=>⟨⟨by omega,by omega,hstep _ ?_⟩,by omega⟩,fun h=>⟨⟨by omega,by omega,hstep _ ?_⟩,by omega⟩⟩
  ·rw [qiu,jah h]
  ·rw [qiu,jaf (by omega)]
 ·have:i.i.toNat = 255:=by omega
  rw [this] at hd
  rw [<- hd]
theorem qmv (w:World):(callFunc 198 #[]).run Tryz.prog w = .ok (.value (.tuple #[])) w:=run_call_mark0 Tryz.func198 (by kernel_rfl) (by kernel_rfl) (by kernel_rfl) .disable (by kernel_rfl) w
theorem qn9 (w:World):(callFunc 200 #[]).run Tryz.prog w = .ok (.value (.tuple #[])) w:=run_call_mark0 Tryz.func200 (by kernel_rfl) (by kernel_rfl) (by kernel_rfl) .enable (by kernel_rfl) w
theorem quG (a:Addr) (w:World):(callFunc 201 #[.pointer (some a)]).run Tryz.prog w = .ok (.value (.tuple #[])) w:=run_call_marked Tryz.func201 (by kernel_rfl) (by kernel_rfl) (by kernel_rfl) .acquire (by kernel_rfl) a w
theorem qu3 (a:Addr) (w:World):(callFunc 203 #[.pointer (some a)]).run Tryz.prog w = .ok (.value (.tuple #[])) w:=run_call_marked Tryz.func203 (by kernel_rfl) (by kernel_rfl) (by kernel_rfl) .releaseMerge (by kernel_rfl) a w
theorem q0l (a:Addr) (x:Value) (u:FrameMode) (w:World) (hc:w.cell? a = some x) (hz:w.frozen? a = false) :
  CallsD Tryz.prog 193 #[.pointer (some a),.bool true] u w fun e u' w'=>u' = u/\(e = .returned (.tuple #[])/\w' = w.drew.setCell a (.int .u32 1)):=by
 have hc':w.drew.cell? a = some x:=by go_simp
 have hz':w.drew.frozen? a = false:=by go_simp
 have hst:=run_call_store (P:=Tryz.prog) Tryz.func196 (by kernel_rfl) (by kernel_rfl) (by kernel_rfl) (by kernel_rfl) (k:=.u32) (y:=1) hc' hz'
 go_enter_d Tryz.func193,Tryz.ntmps193
 go_wp2
 go_region_calls
 all_goals (go_end0; exact ⟨rfl,rfl⟩)
set_option maxRecDepth 100000 in
set_option maxHeartbeats 1600000 in
theorem qu2 (a:Addr) (w:World) (hc:w.cell? a = some (.int .i32 0)) (hz:w.frozen? a = false) :
  Calls Tryz.prog 194 #[.pointer (some a)] w fun e w'=>e = .returned (.tuple #[])/\w' = w.setCell a (.int .i32 1):=by
 have hd:=qmv
 have he:=qn9
 have ha:=quG
 have hcas:=run_call_cas_hit (P:=Tryz.prog) Tryz.func199 (by kernel_rfl) (by kernel_rfl) (by kernel_rfl) .i32 (by kernel_rfl) (y:=1) hc hz
 have hc':(w.setCell a (.int .i32 1)).cell? a = some (.int .i32 1):=World.cell?_setCell_same w a _ hc
 have hcv:=run_convert_to_unsafe (P:=Tryz.prog) (src:=283) (dst := 287) Tryz.underlying283 Tryz.underlying287 (by kernel_rfl) hc'
 go_enter Tryz.func194,Tryz.ntmps194
 go_wp2
 first | go_end0 | (simp only [Exit.inBlock,Exit.then]; refine bodyPost_ret (results_none rfl _ _ _) rfl ?_) | refine bodyPost_ret (results_none rfl _ _ _) rfl ?_
 go_wp2
 all_goals (go_end0; exact ⟨rfl,rfl⟩)
set_option maxRecDepth 100000 in
set_option maxHeartbeats 1600000 in
theorem qqM (a:Addr) (w:World) (hc:w.cell? a = some (.int .i32 1)) (hz:w.frozen? a = false) :
  Calls Tryz.prog 195 #[.pointer (some a)] w fun e w'=>e = .returned (.tuple #[])/\w' = w.setCell a (.int .i32 0):=by
 have hd:=qmv
 have he:=qn9
 have hr:=qu3
 have hadd:=run_call_add (P:=Tryz.prog) Tryz.func204 (by kernel_rfl) (by kernel_rfl) (by kernel_rfl) .i32 (by kernel_rfl) (y:=-1) (s:=0) hc hz (by simp [go_sem]; rfl)
 have hcv:=run_convert_to_unsafe (P:=Tryz.prog) (src:=283) (dst := 287) Tryz.underlying283 Tryz.underlying287 (by kernel_rfl) hc
 go_enter Tryz.func195,Tryz.ntmps195
 go_wp2
 all_goals (try go_end0)
 all_goals (try go_wp2)
 all_goals (try go_end0)
 all_goals (exact ⟨rfl,rfl⟩)
set_option maxRecDepth 100000 in
theorem q1Z (b off:Nat) (w:World) (hc:w.cell? ⟨b,off,none⟩ = some (.int .i32 0)) (hz:w.frozen? ⟨b,off,none⟩ = false) :
  Calls Tryz.prog 191 #[.pointer (some ⟨b,off,none⟩)] w fun e w'=>e = .returned (.tuple #[])/\w' = w.setCell ⟨b,off,none⟩ (.int .i32 1):=by
 go_enter Tryz.func191,Tryz.ntmps191
 go_wp2_with (go_at_call 194; refine (qu2 ⟨b,off,none⟩ _ (by go_simp) (by go_simp)).mono ?_; rintro e w' ⟨rfl,rfl⟩)
 all_goals (go_end0; exact ⟨rfl,rfl⟩)
set_option maxRecDepth 100000 in
theorem qx8 (b off:Nat) (u:FrameMode) (w:World) (hc:w.cell? ⟨b,off,none⟩ = some (.int .i32 1)) (hz:w.frozen? ⟨b,off,none⟩ = false) :
  CallsD Tryz.prog 192 #[.pointer (some ⟨b,off,none⟩)] u w fun e u' w'=>u' = u/\(e = .returned (.tuple #[])/\w' = w.setCell ⟨b,off,none⟩ (.int .i32 0)):=by
 go_enter_d Tryz.func192,Tryz.ntmps192
 go_wp2_with (go_at_call 195; refine (qqM ⟨b,off,none⟩ _ (by go_simp) (by go_simp)).mono ?_; rintro e w' ⟨rfl,rfl⟩)
 all_goals (go_end0; exact ⟨rfl,rfl⟩)
theorem qp8 {k:CK} {v:Value} (h:CK.fits k v = true):v.oneCell' = true:=by
 cases k <;> cases v <;> simp_all [CK.fits,Value.oneCell']
def At (w:World) (b:Nat) (c:Array Value):Prop:=w.heap[b]? = some (.cells c 151 (0,0))
structure Else (w w':World) (b:Nat):Prop where
 blk:∀ b',b' ≠ b->∀ o,w.heap[b']? = some o->w'.heap[b']? = some o
 os:w'.os = w.os
 out:w'.output = w.output
theorem Else.trans {w1 w2 w3:World} {b:Nat} (h:Else w1 w2 b) (h':Else w2 w3 b):Else w1 w3 b :=
 ⟨fun b' hb o ho=>h'.blk b' hb o (h.blk b' hb o ho),h'.os.trans h.os,h'.out.trans h.out⟩
theorem At.set {w:World} {b:Nat} {c:Array Value} (h:At w b c) (k:Nat) (v:Value):At (w.setCell ⟨b,k,none⟩ v) b (c.setIfInBounds k v)/\Else w (w.setCell ⟨b,k,none⟩ v) b:=by
 refine ⟨?_,fun b' hb o ho=>?_,rfl,rfl⟩
 ·have h:w.heap[b]? = some (.cells c 151 (0,0)):=h
  simp only [At,World.setCell,jcb,jby,h,jaw]
  simp
 ·simp only [World.setCell,jcb]
  rw [jaf (fun h=>hb h.symm)]; exact ho
theorem At.drew {w:World} {b:Nat} {c:Array Value} (h:At w b c):At w.drew b c/\Else w w.drew b:=⟨h,fun _ _ _ ho=>ho,rfl,rfl⟩
theorem At.cell {w:World} {b:Nat} {c:Array Value} (h:At w b c) {k:Nat} {v:Value} (hv:c[k]? = some v):w.cell? ⟨b,k,none⟩ = some v:=by rw [qaY h,hv]
theorem At.frozen {w:World} {b:Nat} {c:Array Value} (h:At w b c) (k:Nat):w.frozen? ⟨b,k,none⟩ = false:=by
 have h:w.heap[b]? = some (.cells c 151 (0,0)):=h
 simp [World.frozen?,h]
theorem qkl {c:Array Value} {k:Nat} {v:Value}:(c.setIfInBounds k v).toList = c.toList.set k v:=by simp
theorem qdc:qf4.length = 769:=by simp only [qf4,jal,ja5,jbh,jcr]
set_option maxRecDepth 100000 in
theorem qwR {w:World} {b:Nat} {c:Array Value} (hb:At w b c) (hf:qv qf4 c.toList) :
  Calls Tryz.prog 179 #[.pointer (some ⟨b,0,none⟩)] w fun e w'=>e = .returned (.tuple #[])/\∃ c',At w' b c'/\[c'.toList] = (qbE [c.toList] 255).1/\Else w w' b:=by
 let us:List U:=[{ r:=some ⟨b,0,none⟩ },{ d:=[c.toList] }]
 have hgood:Env.good fun n=>us.getD n {}:=fun n=>by
  match n with
  | 0=>simp [us,U.good,Value.oneCell']
  | 1 =>
   refine ⟨rfl,fun row hr v hv=>?_⟩
   simp only [us,jfg,jff,jaj] at hr
   subst hr
   obtain ⟨k,hk⟩:=jbd hv
   have hlt:k < qf4.length:=by rw [<- hf.1]; exact (jam.1 hk).1
   exact qp8 (hf.2 k _ v (jac hlt) hk)
  | n + 2=>simp [us,U.good,Value.oneCell']
 have hsz:c.size = 769:=by have:=hf.1; rw [qdc] at this; simpa using this
 have h:=q5d.2 (fun n=>us.getD n {}) w ⟨fun b'=>if b' = b then none else w.heap[b']?,w.os,w.output⟩ (Hp.one b (.cells c 151 (0,0))) hgood
  (fun y=>by by_cases hy:y = b <;> simp [hy,Hp.one])
  ⟨fun y o hy=>by
   by_cases hyb:y = b
   ·subst hyb
    simp [Hp.union,Hp.one] at hy
    rw [<- hy]; exact hb
   ·simpa [Hp.union,Hp.one,hyb] using hy,rfl,rfl⟩
  ⟨Hp.one b (.cells c 151 (0,0)),Hp.emp,Hp.disj_emp _,by funext y; simp [Hp.union,Hp.emp],.inr ⟨b,c,rfl,by simp [Hp.one],by rw [qdc,hsz]; simp [T.den,O0.den],by simp [us,T.den,O0.den],fun i row hi=>by
   match i with
   | 0 =>
    simp only [T.den,us,jfg,jff,jax,jaa] at hi
    subst hi
    exact ⟨hf,fun k v hv=>by simpa using hv⟩
   | i + 1=>simp [T.den,us] at hi⟩,trivial⟩
  (fun x hx=>by cases hx) (show ([c.toList]:qd).length = 1 from rfl)
 refine h.mono fun e w' hq=>?_
 obtain ⟨ai,al,Z',hal,hg',hag,he,hpost,hO',hd',hst',hsub',hwi'⟩:=hq
 match ai,hal with
 | 0,hal =>
  obtain rfl:=jaz hal
  refine ⟨he,?_⟩
  obtain ⟨h1,h2,hdj,hu,hden,_⟩:=hst'
  have r0:(Z' 0).r = some ⟨b,0,none⟩:=by rw [hag 0 (by decide)]; rfl
  have d1:(Z' 1).d = [c.toList]:=by rw [hag 1 (by decide)]; rfl
  have hp2:(Z' 2).d = (qbE (Z' 1).d 255).1:=hpost
  rw [d1] at hp2
  have hl2:(Z' 2).d.length = 1:=by rw [hp2,qlb]; rfl
  rcases hden with ⟨hn,_,_⟩ | ⟨b',c',g1,g2,g3,g4,g5⟩
  ·rw [r0] at hn; cases hn
  ·rw [r0] at g1
   simp only [jaa,Addr.mk.injEq] at g1
   obtain ⟨rfl,_⟩:=g1
   obtain ⟨row,hrow⟩:∃ row,(Z' 2).d = [row]:=jd8.1 hl2
   obtain ⟨f1,f2⟩:=g5 0 row (by simp only [T.den]; rw [hrow]; rfl)
   have hs':c'.size = 769:=by rw [g3,qdc]; simp [T.den,O0.den]
   have hlr:row.length = 769:=by rw [f1.1,qdc]
   have hcl:c'.toList = row:=by
    apply jbt
    intro k
    by_cases hk:k < row.length
    ·have:=f2 k _ (jac hk)
     rw [jck,jac hk]
     simpa using this
    ·rw [jas (by simp; omega),jas (by omega)]
   refine ⟨c',hsub' b _ ?_,by rw [hcl,<- hrow,hp2],fun y hy o ho=>hsub' y o ?_,hwi'.1,hwi'.2⟩
   ·have:hO' b = some (.cells c' 151 (0,0)):=by rw [hu]; simp [Hp.union,g2]
    simp [Hp.union,this]
   ·simp [Hp.union,hy,ho]
 | n + 1,hal=>cases hal
theorem qok:∀ (x:Bool) (w:World),(Op.unary .not (.bool x)).run Tryz.prog w = .ok (.bool (!x)) w:=fun _ _=>rfl
set_option maxRecDepth 100000 in
theorem qmA (b:Nat) (x:Int) (w:World) (hc:w.cell? ⟨b,0,none⟩ = some (.int .u32 x)) :
  Calls Tryz.prog 187 #[.pointer (some ⟨b,0,none⟩)] w fun e w'=>e = .returned (.bool (x != 0))/\w' = w:=by
 have hl:=run_call_load (P:=Tryz.prog) Tryz.func190 (by kernel_rfl) (by kernel_rfl) (by kernel_rfl) .u32 (by kernel_rfl) hc
 go_enter Tryz.func187,Tryz.ntmps187
 go_wp2
 go_ret
 exact ⟨rfl,rfl⟩
set_option maxRecDepth 100000 in
theorem q1G (b:Nat) (d:Int) (hd:¬ d = 0) (fv:Value) (w:World) (h0:w.cell? ⟨b,0,none⟩ = some (.int .u32 d)) :
  Calls Tryz.prog 178 #[.pointer (some ⟨b,0,none⟩),fv] w fun e w'=>e = .returned (.tuple #[])/\w' = w:=by
 have hnot:=qok
 have hd':(d != 0) = true:=by simp [hd]
 go_enter Tryz.func178,Tryz.ntmps178
 go_wp2_with (go_at_call 187; refine (qmA b d _ h0).mono ?_; rintro e w' ⟨rfl,rfl⟩)
 all_goals (try go_end0)
 all_goals (exact ⟨rfl,rfl⟩)
def qoS:List CK->List Value->Bool
 | [],[]=>true
 | k :: ks,v :: vs=>CK.fits k v && qoS ks vs
 | _,_=>false
theorem qiP:∀ {ks:List CK} {vs:List Value},qoS ks vs = true->qv ks vs
 | [],[],_=>⟨rfl,fun c k v hk=>by simp at hk⟩
 | k :: ks,v :: vs,h=>by
  simp only [qoS,jag] at h
  obtain ⟨h1,h2⟩:=qiP h.2
  refine ⟨by simp [h1],fun c k' v' hk hv=>?_⟩
  cases c with
  | zero=>simp at hk hv; subst hk; subst hv; exact h.1
  | succ c=>exact h2 c k' v' (by simpa using hk) (by simpa using hv)
 | [],_ :: _,h=>by simp [qoS] at h
 | _ :: _,[],h=>by simp [qoS] at h
theorem q0N:qv qf4 (qb0.set 1 (.int .i32 1)):=qiP (by kernel_rfl)
theorem q0d:[(((qbE [qb0.set 1 (.int .i32 1)] 255).1.headD []).set 0 (.int .u32 1)).set 1 (.int .i32 0)] = qaL:=by kernel_rfl
theorem q7v:((qbE [qb0.set 1 (.int .i32 1)] 255).1.headD [])[1]? = some (.int .i32 1):=by kernel_rfl
theorem q8J:((qbE [qb0.set 1 (.int .i32 1)] 255).1.headD [])[0]? = some (.int .u32 0):=by kernel_rfl
set_option maxRecDepth 100000 in
set_option maxHeartbeats 1600000 in
theorem q2E (b:Nat) (c:Array Value) (w:World) (hb:At w b c) (hc:c.toList = qb0) :
  Calls Tryz.prog 188 #[.pointer (some ⟨b,0,none⟩),.func (.func 179) #[.pointer (some ⟨b,0,none⟩)] #[]] w fun e w'=>e = .returned (.tuple #[])/\∃ c',At w' b c'/\[c'.toList] = qaL/\Else w w' b:=by
 have hnot:=qok
 have hget:∀ k:Nat,c[k]? = qb0[k]?:=fun k=>by rw [<- hc]; simp
 have h1:w.cell? ⟨b,1,none⟩ = some (.int .i32 0):=hb.cell (by rw [hget]; rfl)
 have f1:w.frozen? ⟨b,1,none⟩ = false:=hb.frozen 1
 obtain ⟨a1,e1⟩:=hb.set 1 (.int .i32 1)
 have l1:(c.setIfInBounds 1 (.int .i32 1)).toList = qb0.set 1 (.int .i32 1):=by rw [qkl,hc]
 have h0:(w.setCell ⟨b,1,none⟩ (.int .i32 1)).cell? ⟨b,0,none⟩ = some (.int .u32 0):=a1.cell (by rw [<- jck,l1]; rfl)
 have hbuild:=qwR a1 (by rw [l1]; exact q0N)
 rw [l1] at hbuild
 go_enter_defers Tryz.func188,Tryz.ntmps188
 go_wp2_with (first | (go_at_call 191; refine (q1Z b 1 _ h1 f1).mono ?_; rintro e w' ⟨rfl,rfl⟩) | (go_at_call 187; refine (qmA b 0 _ h0).mono ?_; rintro e w' ⟨rfl,rfl⟩) | (go_at_call 179; refine hbuild.mono ?_; rintro e w' ⟨rfl,c2,a2,l2,e2⟩))
 have hrow:c2.toList = (qbE [qb0.set 1 (.int .i32 1)] 255).1.headD []:=by rw [<- l2]; rfl
 have k0:c2[0]? = some (.int .u32 0):=by rw [<- jck,hrow]; exact q8J
 have k1:c2[1]? = some (.int .i32 1):=by rw [<- jck,hrow]; exact q7v
 obtain ⟨a3,e3⟩:=a2.drew
 obtain ⟨a4,e4⟩:=a3.set 0 (.int .u32 1)
 obtain ⟨a5,e5⟩:=a4.set 1 (.int .i32 0)
 refine leaves_cons (f := 193) (args:=#[.pointer (some ⟨b,0,none⟩),.bool true]) (by simp) (by simp [go_sem]) ?_
 refine (q0l ⟨b,0,none⟩ (.int .u32 0) .returning _ (a2.cell k0) (a2.frozen 0)).mono ?_
 rintro e u' w'' ⟨rfl,rfl,rfl⟩
 refine leaves_cons (f := 192) (args:=#[.pointer (some ⟨b,1,none⟩)]) (by simp [settle]) (by simp [go_sem]) ?_
 refine (qx8 b 1 _ _ (a4.cell (by simp [k1])) (a4.frozen 1)).mono ?_
 rintro e u' w'' ⟨rfl,rfl,rfl⟩
 have hfin:[((c2.setIfInBounds 0 (.int .u32 1)).setIfInBounds 1 (.int .i32 0)).toList] = qaL:=by
  rw [qkl,qkl,hrow]; exact q0d
 simp [Leaves,settle,results,Tryz.results188]
 exact ⟨_,a5,hfin,e1.trans (e2.trans (e3.trans (e4.trans e5)))⟩
set_option maxRecDepth 100000 in
theorem q0L (b:Nat) (c:Array Value) (w:World) (hb:At w b c) (hc:c.toList = qb0) :
  Calls Tryz.prog 178 #[.pointer (some ⟨b,0,none⟩),.func (.func 179) #[.pointer (some ⟨b,0,none⟩)] #[]] w fun e w'=>e = .returned (.tuple #[])/\∃ c',At w' b c'/\[c'.toList] = qaL/\Else w w' b:=by
 have hnot:=qok
 have h0:w.cell? ⟨b,0,none⟩ = some (.int .u32 0):=hb.cell (by rw [<- jck,hc]; rfl)
 have hslow:=q2E b c w hb hc
 go_enter Tryz.func178,Tryz.ntmps178
 go_wp2_with (first | (go_at_call 187; refine (qmA b 0 _ h0).mono ?_; rintro e w' ⟨rfl,rfl⟩) | (go_at_call 188; refine hslow.mono ?_; rintro e w' ⟨rfl,c2,a2,l2,e2⟩))
 all_goals (try go_end0)
 exact ⟨rfl,c2,a2,l2,e2⟩
theorem q8S:(qaL.headD [])[0]? = some (.int .u32 1):=by kernel_rfl
theorem qko:qaL.length = 1:=by kernel_rfl
theorem qmh:qv qf4 (qaL.headD []):=qiP (by kernel_rfl)
set_option maxRecDepth 100000 in
theorem qqQ:qek.ok Tryz.prog:=by
 refine ⟨fun args w=>Tryz.call178 args w,fun Z w hF hO hg hd hsub hst hro hpre=>?_⟩
 obtain ⟨h1,h2,hdj,hu,hden,_⟩:=hst
 have hlen:(Z 1).d.length = 1:=by
  rcases hpre with h | h
  ·rw [h]; rfl
  ·rw [h]; exact qko
 rcases hden with ⟨hn,hnil,_⟩ | ⟨b,c,g1,g2,g3,g4,g5⟩
 ·have:(Z 1).d = []:=hnil
  rw [this] at hlen; cases hlen
 obtain ⟨row,hrow⟩:∃ row,(Z 1).d = [row]:=jd8.1 hlen
 obtain ⟨f1,f2⟩:=g5 0 row (by simp only [T.den]; rw [hrow]; rfl)
 have hs':c.size = 769:=by rw [g3,qdc]; simp [T.den,O0.den]
 have hlr:row.length = 769:=by rw [f1.1,qdc]
 have hcl:c.toList = row:=by
  apply jbt
  intro k
  by_cases hk:k < row.length
  ·have:=f2 k _ (jac hk)
   rw [jck,jac hk]
   simpa using this
  ·rw [jas (by simp; omega),jas (by omega)]
 have hOb:hO b = some (.cells c 151 (0,0)):=by rw [hu]; simp [Hp.union,g2]
 have hFb:hF b = none:=(hd b).resolve_right (by rw [hOb]; simp)
 have hb:At w b c:=hsub.1 b _ (by simp [Hp.union,hFb,hOb])
 have fin:∀ w',(∃ c',At w' b c'/\[c'.toList] = qaL/\Else w w' b)->∃ (ai:Nat) (al:Alt) (Z':Env),qek.alts[ai]? = some al/\Z'.good/\(∀ n,n < qek.nv->Z' n = Z n)/\(Ending.returned (.tuple #[]):Ending) = .returned (al.ret.den Z')/\al.post (Z'.upto (qek.nv + al.k))/\qu Z' hF al.heap w':=fun w' ⟨c',a',hl',he'⟩=>by
  have hgd:({ d:=qaL }:U).good:=by
   refine ⟨rfl,fun r hr v hv=>?_⟩
   have hr:r ∈ qaL:=hr
   rw [<- hl',jaj] at hr
   subst hr
   have hh:qaL.headD [] = c'.toList:=by rw [<- hl']; rfl
   obtain ⟨k,hk⟩:=jbd hv
   have hfit:=qmh
   rw [hh] at hfit
   have hlt:k < qf4.length:=by rw [<- hfit.1]; exact (jam.1 hk).1
   exact qp8 (hfit.2 k _ v (jac hlt) hk)
  refine ⟨0,_,Z.set 2 { d:=qaL },rfl,fun n=>?_,fun n hn=>Env.set_ne Z _ (by have:qek.nv = 2:=rfl; omega),rfl,?_,Hp.upd hO b (.cells c' 151 (0,0)),?_,?_,?_,he'.os.trans hsub.2.1,he'.out.trans hsub.2.2⟩
  ·by_cases hn:n = 2
   ·subst hn; rw [Env.set_same]; exact hgd
   ·rw [Env.set_ne Z _ hn]; exact hg n
  ·show ((Z.set 2 { d:=qaL }).upto 3 2).d = qaL
   simp [Env.upto,Env.set_same]
  ·intro y
   by_cases hy:y = b
   ·subst hy; exact .inl hFb
   ·rcases hd y with h | h
    ·exact .inl h
    ·exact .inr (by simp [Hp.upd,hy,h])
  ·refine ⟨Hp.upd hO b (.cells c' 151 (0,0)),Hp.emp,Hp.disj_emp _,by funext y; simp [Hp.union,Hp.emp],.inr ⟨b,c',?_,by simp [Hp.upd],?_,?_,?_⟩,trivial⟩
   ·rw [Env.set_ne Z _ (by omega)]; exact g1
   ·have hfit:=qmh
    have hh:qaL.headD [] = c'.toList:=by rw [<- hl']; rfl
    rw [hh] at hfit
    have:=hfit.1
    rw [qdc] at this ⊢
    simp [T.den,O0.den] at this ⊢; omega
   ·simp only [T.den,Env.set_same,O0.den]; rw [qko]; decide
   ·intro i r hi
    simp only [T.den,Env.set_same] at hi
    rw [<- hl'] at hi
    match i with
    | 0 =>
     simp only [jax,jaa] at hi
     subst hi
     have hfit:=qmh
     have hh:qaL.headD [] = c'.toList:=by rw [<- hl']; rfl
     rw [hh] at hfit
     exact ⟨hfit,fun k v hv=>by simpa using hv⟩
    | i + 1=>simp at hi
  ·intro y o ho
   by_cases hy:y = b
   ·subst hy
    simp [Hp.union,hFb,Hp.upd] at ho
    rw [<- ho]; exact a'
   ·refine he'.blk y hy o (hsub.1 y o ?_)
    simpa [Hp.union,Hp.upd,hy] using ho
 have hargs:(qek.args.map (SV.den Z)).toArray = #[.pointer (some ⟨b,0,none⟩),.func (.func 179) #[.pointer (some ⟨b,0,none⟩)] #[]]:=by
  simp [qek,qa9,SV.den,T.den,O0.den,O1.den,g1,qm,qc]
 rw [hargs]
 rcases hpre with h | h
 ·refine (q0L b c w hb ?_).mono fun e w' ⟨he,hh⟩=>?_
  ·rw [hcl]
   have:[row] = [qb0]:=hrow.symm.trans h
   exact (List.cons.inj this).1
  ·rw [he]; exact fin w' hh
 ·have hh:[row] = qaL:=hrow.symm.trans h
  have hr0:qaL.headD [] = row:=by rw [<- hh]; rfl
  have h0:=q8S
  rw [hr0] at h0
  refine (q1G b 1 (by decide) _ w (hb.cell (by rw [<- jck,hcl]; exact h0))).mono fun e w' ⟨he,hw⟩=>?_
  rw [he,hw]
  exact fin w ⟨c,hb,by rw [hcl]; exact hh,fun _ _ _ ho=>ho,rfl,rfl⟩
theorem qpp:qhH.ok Tryz.prog:=q9P (by simp [qqQ]) fun Z hg hp=>by
 obtain ⟨h1,a0,a1,b0,b1⟩:=hp
 simp [q65,qhH,qek]
 obtain ⟨l0,l1⟩:=qcr a0 a1
 obtain ⟨m0,m1⟩:=qcr b0 b1
 have hz:∀ h:(Z 2).i = 0∨(Z 3).i = 0,0 = qc4 (Z 2).i (Z 3).i:=fun h=>by rw [qc4,jah h]
 have hne:¬ (Z 1).d = []:=fun h=>by
  have hl:=qko
  rcases h1 with h' | h' <;> rw [h'] at h
  ·cases h
  ·rw [h] at hl; cases hl
 refine ⟨fun h=>(hne h).elim,fun _=>⟨fun h=>⟨h1,hz (.inl h)⟩,fun n2=>⟨fun h=>⟨h1,hz (.inr h)⟩,fun n3=>⟨List.length_pos_iff.2 hne,h1,fun u _ hu=>?_⟩⟩⟩⟩
 rw [hu]
 have e1:qa qaL ((Z 2).i.toNat + 513) = qbt (Z 2).i.toNat:=rfl
 have e2:qa qaL ((Z 3).i.toNat + 513) = qbt (Z 3).i.toNat:=rfl
 rw [e1,e2]
 have w:qe .add .i64 (qbt (Z 2).i.toNat) (qbt (Z 3).i.toNat) = qbt (Z 2).i.toNat + qbt (Z 3).i.toNat:=by
  simp [qe,IntKind.wrap,IntKind.bits,IntKind.signed]; omega
 rw [w]
 refine ⟨by rw [qko]; decide,a0,a1,b0,b1,by omega,by omega,.inr rfl,?_⟩
 rw [qc4,jaf (by omega)]; rfl
theorem qhh:qcb.ok Tryz.prog:=q0b (by simp) fun Z hg hp=>by
 simp [qr0,qcb]
 refine ⟨fun h1=>⟨fun h2=>?_,fun h2=>?_⟩,fun h1=>?_⟩
 ·simp [qN,h1,h2,qH]
 ·simp [qN]; omega
 ·simp [qN]; omega
theorem qkT:qcY.ok Tryz.prog:=q02 (by simp) fun Z hg hp=>by
 simp [qsp,qcY]
 unfold qcX
 refine ⟨fun h=>by omega,fun h1=>⟨fun h=>by omega,fun h2=>⟨fun h=>by omega,fun h3=>⟨fun h=>by omega,fun h4=>⟨by omega,by omega,fun _=>?_⟩⟩⟩⟩⟩
 rw [add64 (by omega) (by omega),qep (by omega) (by omega)]
 have hq:0 <= ((Z 1).i + (Z 0).i - 1).tdiv (Z 0).i/\((Z 1).i + (Z 0).i - 1).tdiv (Z 0).i <= 10000:=by
  rw [jeg (by omega)]
  refine ⟨Int.ediv_nonneg (by omega) (by omega),?_⟩
  have:=Int.ediv_le_self (a:=(Z 1).i + (Z 0).i - 1) (Z 0).i (by omega)
  omega
 exact wrap64 (by omega) (by omega)
theorem qi8:qcH.ok Tryz.prog:=q33 (by simp) fun Z hg hp=>by
 obtain ⟨h1,h2,h3,h4⟩:=hp
 simp [quI,qcH]
 have hb:=qI h1 h2 h3 h4
 rw [qcx (by omega) (by omega)]
 omega
theorem qgj:qcd.ok Tryz.prog:=q6i (by simp) fun Z hg hp=>by
 obtain ⟨r0,r1,a0,a1,c0,c1,hl,hc,hd,hB⟩:=hp
 simp [qyv,qcd]
 have hb:=qI (x:=(Z 7).i) (y:=(Z 1).i) r0 (show (Z 7).i <= 255 by omega) c0 c1
 have hb2:=qI (x:=(Z 7).i + 1) (y:=(Z 1).i) (by omega) (show (Z 7).i + 1 <= 255 by omega) c0 c1
 have he:((Z 7).i + 1) * (Z 1).i = (Z 7).i * (Z 1).i + (Z 1).i:=by rw [jcc,jcd]
 have hle:((Z 7).i + 1) * (Z 1).i <= (Z 0).i * (Z 1).i:=ja2 (by omega) c0
 rw [add64 (by omega) (by omega),qcx (by omega) (by omega),qcx (by omega) (by omega)]
 refine ⟨by omega,by omega,hb.1,by omega,by omega,?_,by omega⟩
 split
 ·have:(Z 1).i = 0:=by omega
  rw [this,Int.mul_zero]
 ·rfl
theorem qkm:qdd.ok Tryz.prog:=q0y (by simp) fun Z hg hp=>by
 have hp:0 <= (Z 3).i:=hp
 simp [qr5,qdd]
 refine ⟨fun h1=>⟨fun h2=>⟨fun h3=>⟨fun h4=>⟨by omega,?_⟩,fun _=>by omega⟩,fun _=>by omega⟩,fun _=>by omega⟩,fun _=>by omega⟩
 have hb:=qI (x:=(Z 0).i) (y:=(Z 1).i) (by omega) h2 (by omega) h4
 rw [qcx (by omega) (by omega)]
 omega
theorem qph:qhQ.ok Tryz.prog:=q1y (by simp) fun Z hg hp=>by
 obtain ⟨h0,h1,h2⟩:=hp
 simp [qrW,qhQ]
 unfold Go.Eng.big at h2
 exact ⟨by omega,by omega,by omega⟩
theorem qla:qdG.ok Tryz.prog:=q5e (by simp [qpp]) fun Z hg hp=>by
 obtain ⟨hf,⟨o0,o1,o2,o3⟩,⟨s0,s1,s2,s3⟩,hle,hB,hB2,c0,c1⟩:=hp
 unfold Go.Eng.big at o3 s3
 simp [qyf,qdG,q3f,qhH]
 refine ⟨fun hc=>⟨hf,hB,?_⟩,fun hc=>⟨s1,⟨s1,hf,hB,?_⟩,fun i _ fd _ dd _ i0 i1 hfd hl hBd hd=>⟨fun hi=>?_,fun hi=>?_⟩⟩⟩
 ·rw [hc,qjp (allB_list hB)]
 ·rw [show seg (bI (Z 12).d) (Z 9).i.toNat 0 = [] by simp [seg],qk6]
 ·have hcell:=qbM hB2 (i:=(Z 9).i + i.i) (by omega) (by omega)
  refine ⟨i0,s0,by omega,by omega,by omega,o0,by omega,by omega,⟨hfd,c0,c1,hcell⟩,fun m _ fd2 _ hf2 hm=>?_⟩
  rw [add64 (by omega) (by omega)]
  have hy:=qf5 (d:=(Z 12).d) (i:=(Z 9).i + i.i) (by omega) (by omega)
  rw [show ((Z 9).i + i.i).toNat = (Z 9).i.toNat + i.i.toNat by omega] at hy
  have hz:=qf5 (d:=dd.d) (i:=(Z 3).i + i.i) (by omega) (by omega)
  rw [show ((Z 3).i + i.i).toNat = (Z 3).i.toNat + i.i.toNat by omega,hd,qgX (by right; rw [qdm (by rw [bI_len]; omega)]; omega)] at hz
  refine ⟨⟨by omega,by omega,hf2,by rw [qbY,hl],qhE hBd qfl.1 qfl.2,?_⟩,by omega⟩
  rw [qj6,hd,hm,show (i.i + 1).toNat = i.i.toNat + 1 by omega,qju hz hy,show ((Z 3).i + i.i).toNat = (Z 3).i.toNat + i.i.toNat by omega]
  rfl
 ·have:i.i = (Z 10).i:=by omega
  rw [this] at hd
  exact ⟨hfd,hl,hBd,hd⟩
theorem q3G:qmg.ok Tryz.prog:=qww (by simp [qpp]) fun Z hg hp=>by
 obtain ⟨hf,⟨o0,o1,o2,o3⟩,⟨s0,s1,s2,s3⟩,hle,hdis,hB,c0,c1⟩:=hp
 unfold Go.Eng.big at o3 s3
 simp [qnu,qmg,qxS,qhH]
 refine ⟨fun hc=>⟨hf,hB,?_⟩,fun hc=>⟨s1,⟨s1,hf,hB,?_⟩,fun i _ fd _ dd _ i0 i1 hfd hl hBd hd=>⟨fun hi=>?_,fun hi=>?_⟩⟩⟩
 ·rw [hc,qjp (allB_list hB)]
 ·rw [show seg (bI (Z 6).d) (Z 8).i.toNat 0 = [] by simp [seg],qk6]
 ·have hcell:=qbM hBd (i:=(Z 8).i + i.i) (by omega) (by omega)
  have hsl:(seg (bI (Z 6).d) (Z 8).i.toNat i.i.toNat).length = i.i.toNat:=qdm (by rw [bI_len]; omega)
  have hy:=qf5 (d:=dd.d) (i:=(Z 8).i + i.i) (by omega) (by omega)
  rw [show ((Z 8).i + i.i).toNat = (Z 8).i.toNat + i.i.toNat by omega,hd,qgX (by rw [hsl]; omega)] at hy
  have hz:=qf5 (d:=dd.d) (i:=(Z 3).i + i.i) (by omega) (by omega)
  rw [show ((Z 3).i + i.i).toNat = (Z 3).i.toNat + i.i.toNat by omega,hd,qgX (by rw [hsl]; omega)] at hz
  refine ⟨i0,s0,by omega,by omega,by omega,o0,by omega,by omega,⟨hfd,c0,c1,hcell⟩,fun m _ fd2 _ hf2 hm=>?_⟩
  rw [add64 (by omega) (by omega)]
  refine ⟨⟨by omega,by omega,hf2,by rw [qbY,hl],qhE hBd qfl.1 qfl.2,?_⟩,by omega⟩
  rw [qj6,hd,hm,show (i.i + 1).toNat = i.i.toNat + 1 by omega,qju hz hy,show ((Z 3).i + i.i).toNat = (Z 3).i.toNat + i.i.toNat by omega]
  rfl
 ·have:i.i = (Z 9).i:=by omega
  rw [this] at hd
  exact ⟨hfd,hl,hBd,hd⟩
theorem q5V:qlS.ok Tryz.prog:=q5i (by simp [qpp]) fun Z hg hp=>by
 obtain ⟨hf,⟨o0,o1,o2,o3⟩,hB,c0,c1⟩:=hp
 unfold Go.Eng.big at o3
 simp [qyX,qlS,q27,qhH]
 refine ⟨o1,⟨o1,hf,hB,?_⟩,fun i _ fd _ dd _ i0 i1 hfd hl hBd hd=>⟨fun hi=>?_,fun hi=>?_⟩⟩
 ·rw [qx5]
 ·have hcell:=qbM hBd (i:=(Z 3).i + i.i) (by omega) (by omega)
  refine ⟨i0,o0,by omega,by omega,⟨hfd,hcell.1,hcell.2,c0,c1⟩,fun m _ fd2 _ hf2 hm=>?_⟩
  rw [add64 (by omega) (by omega)]
  have hz:=qf5 (d:=dd.d) (i:=(Z 3).i + i.i) (by omega) (by omega)
  rw [show ((Z 3).i + i.i).toNat = (Z 3).i.toNat + i.i.toNat by omega,hd,qzL (by omega)] at hz
  have hmr:=q1n hcell.1 hcell.2 c0 c1
  refine ⟨⟨by omega,by omega,hf2,by rw [qbY,hl],qhE hBd (by rw [hm]; exact hmr.1) (by rw [hm]; exact hmr.2),?_⟩,by omega⟩
  rw [qj6,hd,hm,show (i.i + 1).toNat = i.i.toNat + 1 by omega,qxv hz,show ((Z 3).i + i.i).toNat = (Z 3).i.toNat + i.i.toNat by omega]
 ·have:i.i = (Z 4).i:=by omega
  rw [this] at hd
  exact ⟨hfd,hl,hBd,hd⟩
theorem q5A:qlK.ok Tryz.prog:=q5l (by simp [qqQ]) fun Z hg hp=>by
 obtain ⟨hf,a0,a1⟩:=hp
 obtain ⟨hne,hpos⟩:=qbB hf
 simp [qzo,qlK,qek]
 refine ⟨fun h=>(hne h).elim,fun _=>⟨fun h=>⟨hf,by rw [qf6,jah h],h⟩,fun h=>⟨hpos,hf,fun u _ hu=>?_⟩⟩⟩
 rw [hu]
 obtain ⟨l0,l1⟩:=qcr a0 a1
 have e1:qa qaL ((Z 2).i.toNat + 513) = qbt (Z 2).i.toNat:=rfl
 rw [e1,qep (by omega) (by omega)]
 exact ⟨(qbB (.inr rfl)).2,a0,a1,by omega,by omega,.inr rfl,by rw [qf6,jaf h]; rfl,h⟩
theorem q5M:ql7.ok Tryz.prog:=q6n (by simp [qqQ]) fun Z hg hp=>by
 obtain ⟨hf,a0,a1,e1⟩:=hp
 obtain ⟨hne,hpos⟩:=qbB hf
 simp [qy5,ql7,qek]
 refine ⟨fun h=>(hne h).elim,fun _=>⟨fun h=>⟨hf,by rw [qgS,jah h]⟩,fun he=>⟨fun h=>⟨hf,by rw [qgS,jaf (by omega),jah h]⟩,fun h=>⟨hpos,hf,fun u _ hu=>?_⟩⟩⟩⟩
 rw [hu]
 obtain ⟨l0,l1⟩:=qcr a0 a1
 have e1:qa qaL ((Z 2).i.toNat + 513) = qbt (Z 2).i.toNat:=rfl
 have hr:qe .rem .i64 (Z 3).i 255 = (Z 3).i.tmod 255:=rfl
 have hr0:0 <= (Z 3).i.tmod 255:=jfd _ (by omega)
 have hr1:(Z 3).i.tmod 255 < 255:=jd7 _ (by omega)
 have hb:=qI l0 (show qbt (Z 2).i.toNat <= 255 by omega) hr0 (show (Z 3).i.tmod 255 <= 255 by omega)
 rw [e1,hr,qcx (by omega) (by omega)]
 have hr2:qe .rem .i64 (qbt (Z 2).i.toNat * (Z 3).i.tmod 255) 255 = (qbt (Z 2).i.toNat * (Z 3).i.tmod 255).tmod 255:=rfl
 have hr3:0 <= (qbt (Z 2).i.toNat * (Z 3).i.tmod 255).tmod 255:=jfd _ hb.1
 have hr4:(qbt (Z 2).i.toNat * (Z 3).i.tmod 255).tmod 255 < 255:=jd7 _ (by omega)
 rw [hr2]
 refine ⟨(qbB (.inr rfl)).2,a0,a1,hr3,by omega,.inr rfl,?_⟩
 rw [qgS,jaf (by omega),jaf h]; rfl
def qsb:Out:=(.fresh 1 (.br (.cmp .lss (tv 0) (tl 1))
 (.ret 0 (sg 1 []))
 (.br (.cmp .gtr (tv 0) (tl 255))
 (.ret 0 (sg 1 []))
 (.pre 0 (sg 0 [bv 1 0,bv 0 0]) (.both (fr 2 4 (.post 0 0 (sg 0 [bv 1 0,bv 0 0]) 2 (.fresh 6 (.inv 0 7 (sg 1000 [bv 1004 5,bv 1003 4,bv 1002 3,bg 1001 2,bt 1000 (tl 0),bg 1005 6,bg 1006 1]) (fr 7 7 (.hyp 0 7 (.br (.cmp .lss (tv 7) (tv 0))
 (.need (.cmp .leq (tl 0) (.arith .add .i64 (.arith .mul .i64 (tv 7) (tv 0)) (tv 7))) (.need (.cmp .lss (.arith .add .i64 (.arith .mul .i64 (tv 7) (tv 0)) (tv 7)) (tv 9)) (.need (.cmp .lss (.arith .add .i64 (.arith .mul .i64 (tv 7) (tv 0)) (tv 7)) (.dlen (tv 11))) (.back 0 7 (sg 1000 [bt 1004 (.dput (tv 11) (.arith .add .i64 (.arith .mul .i64 (tv 7) (tv 0)) (tv 7)) 0 (.rcons (.vint .u8 (tl 1)) .rnil)),bv 1003 10,bv 1002 9,bg 1001 8,bt 1000 (.arith .add .i64 (tv 7) (tl 1)),bg 1005 12,bg 1006 13])))))
 (.ret 1 (sg 1 [bv 4 11,bv 3 10,bv 2 9,bg 1 8]))))))))) .top)))))
theorem qzB:qn Tryz.prog qgk [qcH] [qve] qsb:=qh Tryz.func166 Tryz.call166 (by kernel_rfl)
def qqd:Out:=(.fresh 4 (.br (.and (.cmp .eql (.dlen (tv 1)) (tl 0)) (.isnil 0))
 (.stuck 7 0 0)
 (.br (.cmp .lss (tv 2) (tl 1))
 (.ret 0 (sg 4 [bv 4 1]))
 (.br (.cmp .gtr (tv 2) (tl 255))
 (.ret 0 (sg 4 [bv 4 1]))
 (.br (.cmp .lss (tv 3) (tl 1))
 (.ret 0 (sg 4 [bv 4 1]))
 (.br (.cmp .gtr (tv 3) (tl 255))
 (.ret 0 (sg 4 [bv 4 1]))
 (.pre 0 (sg 0 [bv 1 3,bv 0 2]) (.both (fr 5 4 (.post 0 0 (sg 0 [bv 1 3,bv 0 2]) 5 (.fresh 9 (.inv 0 10 (sg 1000 [bv 1004 8,bv 1003 7,bv 1002 6,bg 1001 5,bv 1006 1,bt 1000 (tl 0),bg 1005 9,bg 1007 4]) (fr 10 8 (.hyp 0 10 (.br (.cmp .lss (tv 10) (tv 2))
 (.inv 1 18 (sg 1000 [bv 1004 14,bv 1003 13,bv 1002 12,bg 1001 11,bv 1006 16,bt 1008 (tl 0),bv 1000 10,bg 1005 15,bg 1007 17]) (fr 18 9 (.hyp 1 18 (.br (.cmp .lss (tv 26) (tv 3))
 (.both (.pre 1 (sg 0 [bv 1 24,bv 3 26,bt 2 (.conv .u8 (tv 18)),bg 0 0]) (.both (fr 27 2 (.post 1 0 (sg 0 [bv 1 24,bv 3 26,bt 2 (.conv .u8 (tv 18)),bg 0 0]) 27 (.need (.cmp .leq (tl 0) (.arith .add .i64 (.arith .mul .i64 (tv 18) (tv 3)) (tv 26))) (.need (.cmp .lss (.arith .add .i64 (.arith .mul .i64 (tv 18) (tv 3)) (tv 26)) (tv 20)) (.need (.cmp .lss (.arith .add .i64 (.arith .mul .i64 (tv 18) (tv 3)) (tv 26)) (.dlen (tv 22))) (.both (.back 1 18 (sg 1000 [bt 1004 (.dput (tv 22) (.arith .add .i64 (.arith .mul .i64 (tv 18) (tv 3)) (tv 26)) 0 (.rcons (.vint .u8 (tv 27)) .rnil)),bv 1003 21,bv 1002 20,bg 1001 19,bv 1006 28,bt 1008 (.arith .add .i64 (tv 26) (tl 1)),bv 1000 18,bg 1005 23,bg 1007 25])) .top)))))) .top)) .top)
 (.back 0 10 (sg 1000 [bv 1004 22,bv 1003 21,bv 1002 20,bg 1001 19,bv 1006 24,bt 1000 (.arith .add .i64 (tv 18) (tl 1)),bg 1005 23,bg 1007 25]))))))
 (.ret 1 (sg 4 [bv 8 14,bv 7 16,bv 6 13,bv 5 12,bg 4 11]))))))))) .top))))))))
theorem qwZ:qn Tryz.prog qeY [qcH,ql7] [qsC,qsu] qqd:=qh Tryz.func150 Tryz.call150 (by kernel_rfl)
@[simp] def qpM:Sg:=sg 0 [bv 13 15,bv 12 14,bv 7 42,bv 6 43,bv 1 45,bt 14 (.icell (tv 7) (.plus (tv 50) (tv 49)) 0),bv 11 58,bv 10 57,bv 9 56,bg 8 11,bv 5 55,bv 4 54,bv 3 53,bg 2 40,bg 0 0]
def qvW:Out:=(fr 16 3 (.br (.and (.cmp .eql (.dlen (tv 1)) (tl 0)) (.isnil 0))
 (.stuck 7 0 0)
 (.pre 0 (sg 0 [bv 6 8,bv 5 7,bv 4 6,bv 3 5,bg 2 4,bv 1 3,bv 0 2]) (.both (.fresh 19 (.post 0 0 (sg 0 [bv 6 8,bv 5 7,bv 4 6,bv 3 5,bg 2 4,bv 1 3,bv 0 2]) 19 (.br (.not (tv 19))
 (.ret 0 (sg 16 [bv 16 1]))
 (.pre 0 (sg 0 [bv 6 15,bv 5 14,bv 4 13,bv 3 12,bg 2 11,bv 1 10,bv 0 9]) (.both (.fresh 20 (.post 0 0 (sg 0 [bv 6 15,bv 5 14,bv 4 13,bv 3 12,bg 2 11,bv 1 10,bv 0 9]) 20 (.br (.not (tv 20))
 (.ret 0 (sg 16 [bv 16 1]))
 (.br (.cmp .neq (tv 3) (tv 9))
 (.ret 1 (sg 16 [bv 16 1]))
 (.pre 1 (sg 0 [bv 1 10,bv 0 2]) (.both (fr 21 4 (.post 1 0 (sg 0 [bv 1 10,bv 0 2]) 21 (.fresh 25 (.inv 0 26 (sg 1000 [bv 1004 24,bv 1003 23,bv 1002 22,bg 1001 21,bv 1006 1,bt 1000 (tl 0),bg 1005 25,bg 1008 17,bg 1007 16,bg 1009 18]) (fr 26 10 (.hyp 0 26 (.br (.cmp .lss (tv 26) (tv 2))
 (.pre 2 (sg 0 [bv 6 8,bv 5 7,bv 7 26,bv 4 6,bv 3 5,bg 2 4,bv 1 3,bv 0 2]) (.both (fr 36 3 (.post 2 0 (sg 0 [bv 6 8,bv 5 7,bv 7 26,bv 4 6,bv 3 5,bg 2 4,bv 1 3,bv 0 2]) 36 (.need (.cmp .leq (tl 0) (tv 37)) (.inv 1 39 (sg 1000 [bv 1004 30,bv 1003 29,bv 1002 28,bg 1001 27,bv 1006 32,bt 1010 (tl 0),bv 1013 38,bv 1012 37,bv 1011 36,bv 1000 26,bg 1005 31,bg 1008 34,bg 1007 33,bg 1009 35]) (fr 39 14 (.hyp 1 39 (.br (.cmp .lss (tv 49) (tv 51))
 (.need (.cmp .leq (tl 0) (tv 49)) (.need (.cmp .leq (tl 0) (tv 50)) (.need (.cmp .leq (tl 0) (.plus (tv 50) (tv 49))) (.need (.cmp .lss (.plus (tv 50) (tv 49)) (.dlen (tv 7))) (.both (.pre 2 (sg 0 [bv 6 42,bv 5 43,bv 7 39,bv 4 42,bv 3 41,bg 2 40,bv 1 10,bv 0 2]) (.both (fr 53 3 (.post 2 0 (sg 0 [bv 6 42,bv 5 43,bv 7 39,bv 4 42,bv 3 41,bg 2 40,bv 1 10,bv 0 2]) 53 (.both (.pre 2 (sg 0 [bv 6 15,bv 5 14,bv 7 49,bv 4 13,bv 3 12,bg 2 11,bv 1 10,bv 0 9]) (.both (fr 56 3 (.post 2 0 (sg 0 [bv 6 15,bv 5 14,bv 7 49,bv 4 13,bv 3 12,bg 2 11,bv 1 10,bv 0 9]) 56 (.both (.pre 3 qpM (.both (fr 59 2 (.post 3 0 qpM 59 (.back 1 39 (sg 1000 [bv 1004 60,bv 1003 42,bv 1002 41,bg 1001 40,bv 1006 59,bt 1010 (.arith .add .i64 (tv 49) (tl 1)),bv 1013 52,bv 1012 51,bv 1011 50,bv 1000 39,bg 1005 44,bg 1008 47,bg 1007 46,bg 1009 48])))) .top)) .top))) .top)) .top))) .top)) .top)))))
 (.back 0 26 (sg 1000 [bv 1004 43,bv 1003 42,bv 1002 41,bg 1001 40,bv 1006 45,bt 1000 (.arith .add .i64 (tv 39) (tl 1)),bg 1005 44,bg 1008 47,bg 1007 46,bg 1009 48]))))))))) .top))
 (.ret 2 (sg 16 [bv 20 30,bv 19 32,bv 18 29,bv 17 28,bg 16 27]))))))))) .top)))))) .top))))) .top))))
theorem q3c:qn Tryz.prog qjD [qdd,qcH,qcd,qdG] [qzm,qyS] qvW:=qh Tryz.func151 Tryz.call151 (by kernel_rfl)
theorem qoU {f:Nat->Int} {len n:Nat}:(qcc f len n).length = len:=by simp [qcc]
theorem qx9 {f:Nat->Int} {len:Nat}:qcc f len 0 = List.replicate len 0:=by
 apply jbt
 intro j
 by_cases hj:j < len
 ·simp [qcc,jbg,hj]
 ·simp [qcc,jbg,hj]
theorem qxL {f:Nat->Int} {len n:Nat} (h:n < len):qcc f len (n + 1) = (qcc f len n).set n (f n):=by
 apply jbt
 intro j
 rw [jb1]
 by_cases hj:j < len
 ·by_cases hn:n = j
  ·subst hn; rw [jah rfl,jah (by rw [qoU]; exact h)]; simp [qcc,h]
  ·rw [jaf hn]
   simp only [qcc,jan,jbj hj,jaw,jaa]
   by_cases h1:j < n
   ·rw [jah (by omega),jah h1]
   ·rw [jaf (by omega),jaf h1]
 ·by_cases hn:n = j
  ·omega
  ·rw [jaf hn]; simp [qcc,hj]
theorem qwk {n:Nat}:qa3 n 0 = List.replicate (n * n) 0:=by
 apply jbt
 intro j
 by_cases hj:j < n * n
 ·simp [qa3,jbg,hj]
 ·simp [qa3,jbg,hj]
theorem qrb {i n l:Nat} (h:l < n):(i * n + l) / n = i/\(i * n + l) % n = l:=by
 have hn:0 < n:=by omega
 refine ⟨?_,?_⟩
 ·rw [jce,je9 hn,je4 h,jci]
 ·rw [jce,jfa,jdi h]
theorem q95 {i r n l:Nat} (hi:i < r) (hl:l < n):i * n + l < r * n:=by
 have:=jbk n (show i + 1 <= r by omega)
 rw [jbc] at this; omega
theorem qwG {n m:Nat} (h:m < n):qa3 n (m + 1) = (qa3 n m).set (m * n + m) 1:=by
 have hlt:=q95 h h
 obtain ⟨hd,hm⟩:=qrb (i:=m) h
 apply jbt
 intro j
 rw [jb1]
 by_cases hj:j < n * n
 ·simp only [qa3,jan,jbj hj,jaw,ja7,List.length_range]
  by_cases hn:m * n + m = j
  ·subst hn
   rw [jah rfl,jah hlt,hd,hm,jah ⟨rfl,by omega⟩]
  ·rw [jaf hn]
   congr 1
   by_cases h1:j / n = j % n/\j / n < m
   ·rw [jah h1,jah ⟨h1.1,by omega⟩]
   ·rw [jaf h1,jaf]
    rintro ⟨e1,e2⟩
    have:j / n = m:=by
     rcases jbu (j / n) m with h | h
     ·exact (h1 ⟨e1,h⟩).elim
     ·omega
    have hdm:=jdd j n
    rw [<- e1,this,jce] at hdm
    exact hn hdm
 ·rw [jaf (by omega)]; simp [qa3,hj]
theorem q64 {l:List Int} {L o n:Nat} (h:o + n <= L):seg (l.take L) o n = seg l o n:=by
 apply jbt
 intro j
 rw [qdZ,qdZ]
 by_cases hj:j < n
 ·rw [jah hj,jah hj,jbf,jah (by omega)]
 ·rw [jaf hj,jaf hj]
theorem q0C {a b:List Int} {ra ca cb i l:Nat} (h:l < ca):qcg a b ra ca cb (i * ca + l + 1) = qE (qcg a b ra ca cb (i * ca + l)) (i * cb) (seg b (l * cb) cb) (a.getD (i * ca + l) 0):=by
 obtain ⟨hd,hm⟩:=qrb (i:=i) h
 rw [qcg,hd,hm]
theorem qse {r c l cap:Int} {d:qd} {e:Int} {k:IntKind} {z:Int} (h:qd3 r c l cap d) (h0:0 <= z) (h1:z < 256):qd3 r c l cap (qaV d e 0 [.int k z]):=by
 obtain ⟨a1,a2,a3,a4,a5,a6,a7,a8⟩:=h
 exact ⟨a1,a2,a3,a4,a5,a6,by rw [qbY]; exact a7,qhE a8 h0 h1⟩
theorem qz9 {a e:Int} (a0:0 <= a) (a1:a < 256):0 <= qgS a e/\qgS a e < 256:=by
 unfold qgS
 split
 ·omega
 ·split
  ·omega
  ·obtain ⟨l0,l1⟩:=qcr a0 a1
   have hr0:0 <= e.tmod 255:=jfd _ (by omega)
   have hb:0 <= qbt a.toNat * e.tmod 255:=jfj l0 hr0
   have h3:0 <= (qbt a.toNat * e.tmod 255).tmod 255:=jfd _ hb
   have h4:(qbt a.toNat * e.tmod 255).tmod 255 < 255:=jd7 _ (by omega)
   have:=qkk (i:=((qbt a.toNat * e.tmod 255).tmod 255).toNat) (by omega)
   omega
theorem q0x:qgk.ok Tryz.prog:=qzB (by simp [qi8]) fun Z hg hp=>by
 simp [qsb,qgk,qve,qcH]
 refine ⟨fun h=>.inl h,fun h1=>⟨fun h=>.inr h,fun h2=>⟨⟨by omega,h2,by omega,h2⟩,fun l _ cp _ d _ hl hc hd=>⟨⟨h1,h2,by omega,?_⟩,fun i _ l' _ c' _ d' _ _ _ i0 i1 hM hL hB=>⟨fun hi=>?_,fun hi=>?_⟩⟩⟩⟩⟩
 ·have hb:=qI (x:=(Z 0).i) (y:=(Z 0).i) (by omega) h2 (by omega) h2
  refine ⟨⟨by omega,h2,by omega,h2,hl,by omega,by rw [hd,ja5]; omega,by rw [hd]; exact qcU⟩,by rw [hd,ja5]; omega,?_⟩
  rw [hd,qib,qwk,hl,jb0 (by omega) (by omega)]
 ·have hM':=hM
  obtain ⟨a1,a2,a3,a4,a5,a6,a7,a8⟩:=hM
  have hb:=qI (x:=i.i) (y:=(Z 0).i) i0 (show i.i <= 255 by omega) (by omega) h2
  have hlt:i.i * (Z 0).i + i.i < (Z 0).i * (Z 0).i:=by
   have:=ja2 (show i.i + 1 <= (Z 0).i by omega) (show 0 <= (Z 0).i by omega)
   rw [jcc,jcd] at this; omega
  rw [qcx (by omega) (by omega),add64 (by omega) (by omega),add64 (by omega) (by omega)]
  refine ⟨by omega,by omega,by omega,⟨h1,h2,by omega,by omega,qse hM' (by decide) (by decide),by rw [qbY]; exact hL,?_⟩,by omega⟩
  rw [qj6,hB,show (i.i + 1).toNat = i.i.toNat + 1 by omega,qwG (by omega)]
  congr 1
  rw [jdz hb.1 i0,jb0 i0 (by omega)]
 ·have:i.i = (Z 0).i:=by omega
  rw [this] at hB
  exact ⟨h1,h2,hM,hL,hB⟩
theorem qxN:qeY.ok Tryz.prog:=qwZ (by simp [qi8,q5M]) fun Z hg hp=>by
 have hf:qk (Z 1).d:=hp
 simp [qqd,qeY,qsC,qsu,qqD,qcH,ql7]
 have hne:=(qbB hf).1
 refine ⟨fun h=>(hne h).elim,fun _=>⟨fun h=>⟨hf,.inl h⟩,fun r1=>⟨fun h=>⟨hf,.inr (.inl h)⟩,fun r2=>⟨fun h=>⟨hf,.inr (.inr (.inl h))⟩,fun c1=>⟨fun h=>⟨hf,.inr (.inr (.inr h))⟩,fun c2=>?_⟩⟩⟩⟩⟩
 have hnb:¬ qcw (Z 2).i (Z 3).i:=by unfold qcw; omega
 have hb:=qI (x:=(Z 2).i) (y:=(Z 3).i) (by omega) r2 (by omega) c2
 refine ⟨⟨by omega,r2,by omega,c2⟩,fun l _ cp _ d _ hl hc hd=>⟨⟨by omega,hnb,hf,?_⟩,fun i _ l' _ c' _ d' _ fd _ i0 i1 _ hfd hM hL hB=>⟨fun hi=>⟨⟨i0,hi,by omega,hnb,hfd,hM,hL,hB⟩,fun i' _ l2 _ cp2 _ d2 _ fd2 _ j _ i0' i1' j0 j1 _ hfd2 hM2 hL2 hB2 hii=>⟨fun hj=>?_,fun hj=>?_⟩⟩,fun hi=>?_⟩⟩⟩
 ·refine ⟨⟨by omega,r2,by omega,c2,hl,by omega,by rw [hd,ja5]; omega,by rw [hd]; exact qcU⟩,by rw [hd,ja5]; omega,?_⟩
  rw [hd,qib,qx9,hl,jb0 (by omega) (by omega)]
 ·have hw:IntKind.u8.wrap i'.i = i'.i:=by simp [IntKind.wrap,IntKind.bits,IntKind.signed]; omega
  rw [hw]
  have hM2':=hM2
  obtain ⟨a1,a2,a3,a4,a5,a6,a7,a8⟩:=hM2
  have hb2:=qI (x:=i'.i) (y:=(Z 3).i) i0' (show i'.i <= 255 by omega) (by omega) c2
  have hlt:i'.i * (Z 3).i + j.i < (Z 2).i * (Z 3).i:=by
   have:=ja2 (show i'.i + 1 <= (Z 2).i by omega) (show 0 <= (Z 3).i by omega)
   rw [jcc,jcd] at this; omega
  refine ⟨⟨hfd2,i0',by omega,by omega⟩,fun p _ fd3 _ hf3 hpw=>?_⟩
  rw [qcx (by omega) (by omega),add64 (by omega) (by omega),add64 (by omega) (by omega)]
  have hpr:=qz9 (e:=j.i) i0' (show i'.i < 256 by omega)
  refine ⟨by omega,by omega,by omega,⟨i0',i1',by omega,by omega,⟨hnb,hf3,qse hM2' (by rw [hpw]; exact hpr.1) (by rw [hpw]; exact hpr.2),by rw [qbY]; exact hL2,?_⟩,hii⟩,by omega⟩
  have ht:(i'.i * (Z 3).i + j.i).toNat = i'.i.toNat * (Z 3).i.toNat + j.i.toNat:=by rw [jdz hb2.1 j0,jb0 i0' (by omega)]
  rw [qj6,hB2,show (i'.i * (Z 3).i + (j.i + 1)).toNat = (i'.i * (Z 3).i + j.i).toNat + 1 by omega,qxL (by rw [<- jb0 (by omega) (by omega)]; omega)]
  congr 1
  obtain ⟨e1,e2⟩:=qrb (i:=i'.i.toNat) (n:=(Z 3).i.toNat) (l:=j.i.toNat) (by omega)
  rw [ht,qmG,e1,e2,hpw,jay i0',jay j0]
 ·have hj':j.i = (Z 3).i:=by omega
  rw [add64 (by omega) (by omega)]
  rw [hj',show i'.i * (Z 3).i + (Z 3).i = (i'.i + 1) * (Z 3).i by rw [jcc,jcd]] at hB2
  exact ⟨⟨by omega,by omega,hnb,hfd2,hM2,hL2,hB2⟩,by omega⟩
 ·have:i.i = (Z 2).i:=by omega
  rw [this,jb0 (by omega) (by omega)] at hB
  exact ⟨hfd,hnb,hM,hL,hB⟩
theorem q2N:qjD.ok Tryz.prog:=q3c (by simp [qkm,qi8,qgj,qla]) fun Z hg hp=>by
 obtain ⟨hf,la0,la1,la2,hBa,lb0,lb1,lb2,hBb⟩:=hp
 have hne:=(qbB hf).1
 simp [qvW,qjD,qzm,qyS,qru,qdd,qcH,qcd,qdG]
 refine ⟨fun h=>(hne h).elim,fun _=>⟨la0,fun v1 _ hv1=>⟨fun hb=>⟨hf,fun h=>?_⟩,fun hb=>⟨lb0,fun v2 _ hv2=>⟨fun hb2=>⟨hf,fun _ h=>?_⟩,fun hb2=>?_⟩⟩⟩⟩⟩
 ·have:=hv1.2 h
  rw [hb] at this; cases this
 ·have:=hv2.2 h
  rw [hb2] at this; cases this
 have vA:qaB (Z 2).i (Z 3).i (Z 5).i:=hv1.1 hb
 have vB:qaB (Z 9).i (Z 10).i (Z 12).i:=hv2.1 hb2
 refine ⟨fun h=>⟨hf,vA,vB,h⟩,fun hcr=>?_⟩
 obtain ⟨ra1,ra2,ca1,ca2,hla⟩:=vA
 obtain ⟨rb1,rb2,cb1,cb2,hlb⟩:=vB
 have mA:qd3 (Z 2).i (Z 3).i (Z 5).i (Z 6).i (Z 7).d:=⟨by omega,ra2,by omega,ca2,hla,la1,la2,hBa⟩
 have mB:qd3 (Z 9).i (Z 10).i (Z 12).i (Z 13).i (Z 14).d:=⟨by omega,rb2,by omega,cb2,hlb,lb1,lb2,hBb⟩
 have hbA:=qI (x:=(Z 2).i) (y:=(Z 3).i) (by omega) ra2 (by omega) ca2
 have hbP:=qI (x:=(Z 2).i) (y:=(Z 10).i) (by omega) ra2 (by omega) cb2
 refine ⟨⟨by omega,ra2,by omega,cb2⟩,fun l _ cp _ d _ hl hc hd=>⟨⟨by omega,hv1.1 hb,hv2.1 hb2,hcr,hf,?_⟩,fun i _ l' _ c' _ d' _ fd _ i0 i1 _ _ _ hfd hM hL hB=>⟨fun hi=>⟨⟨i0,hi,mA⟩,fun o1 _ n1 _ k1 _ ho1 hn1 hk1=>⟨by omega,⟨i0,hi,by omega,ho1,hn1,hv1.1 hb,hv2.1 hb2,hcr,hfd,hM,hL,hB⟩,?_⟩⟩,fun hi=>?_⟩⟩⟩
 ·refine ⟨⟨by omega,ra2,by omega,cb2,hl,by omega,by rw [hd,ja5]; omega,by rw [hd]; exact qcU⟩,by rw [hd,ja5]; omega,?_⟩
  rw [hd,qib,qcg,hl,jb0 (by omega) (by omega)]
 ·intro i' _ l2 _ cp2 _ d2 _ fd2 _ j _ o2 _ n2 _ i0' i1' j0 j1 ho2 hn2 _ _ _ hfd2 hM2 hL2 hB2 hii
  refine ⟨fun hj=>?_,fun hj=>?_⟩
  ·have hjc:j.i < (Z 3).i:=by omega
   have hbi:=qI (x:=i'.i) (y:=(Z 3).i) i0' (show i'.i <= 255 by omega) (by omega) ca2
   have hbo:=qI (x:=i'.i) (y:=(Z 10).i) i0' (show i'.i <= 255 by omega) (by omega) cb2
   have hbj:=qI (x:=j.i) (y:=(Z 10).i) j0 (show j.i <= 255 by omega) (by omega) cb2
   have hltA:i'.i * (Z 3).i + j.i < (Z 2).i * (Z 3).i:=by
    have:=ja2 (show i'.i + 1 <= (Z 2).i by omega) (show 0 <= (Z 3).i by omega)
    rw [jcc,jcd] at this; omega
   have hltP:i'.i * (Z 10).i + (Z 10).i <= (Z 2).i * (Z 10).i:=by
    have:=ja2 (show i'.i + 1 <= (Z 2).i by omega) (show 0 <= (Z 10).i by omega)
    rw [jcc,jcd] at this; omega
   have hltB:j.i * (Z 10).i + (Z 10).i <= (Z 9).i * (Z 10).i:=by
    have:=ja2 (show j.i + 1 <= (Z 9).i by omega) (show 0 <= (Z 10).i by omega)
    rw [jcc,jcd] at this; omega
   have hM2':=hM2
   obtain ⟨a1,a2,a3,a4,a5,a6,a7,a8⟩:=hM2
   have hcell:=qbM hBa (i:=i'.i * (Z 3).i + j.i) (by omega) (by omega)
   rw [ho2]
   refine ⟨j0,by omega,by omega,by omega,⟨i0',i1',hM2'⟩,fun o3 _ n3 _ k3 _ ho3 hn3 hk3=>⟨⟨j0,by omega,mB⟩,fun o4 _ n4 _ k4 _ ho4 hn4 hk4=>⟨⟨hfd2,⟨by omega,by omega,by omega,by unfold Go.Eng.big; omega⟩,⟨by omega,by omega,by omega,by unfold Go.Eng.big; omega⟩,by omega,a8,hBb,hcell⟩,fun fd5 _ d5 _ hf5 hl5 hB5 he5=>?_⟩⟩⟩
   rw [add64 (by omega) (by omega)]
   refine ⟨⟨i0',i1',by omega,by omega,rfl,hn2,⟨hv1.1 hb,hv2.1 hb2,hcr,hf5,⟨a1,a2,a3,a4,a5,a6,by omega,hB5⟩,by omega,?_⟩,hii⟩,by omega⟩
   have ht:(i'.i * (Z 3).i + j.i).toNat = i'.i.toNat * (Z 3).i.toNat + j.i.toNat:=by rw [jdz hbi.1 j0,jb0 i0' (by omega)]
   have hget:=qf5 (d:=(Z 7).d) (i:=i'.i * (Z 3).i + j.i) (by omega) (by omega)
   rw [he5,hB2,show (i'.i * (Z 3).i + (j.i + 1)).toNat = (i'.i * (Z 3).i + j.i).toNat + 1 by omega,ht,q0C (by omega)]
   have e1:o3.i.toNat = i'.i.toNat * (Z 10).i.toNat:=by rw [ho3,jb0 i0' (by omega)]
   have e2:o4.i.toNat = j.i.toNat * (Z 10).i.toNat:=by rw [ho4,jb0 j0 (by omega)]
   have e3:((bI (Z 7).d).take (Z 5).i.toNat).getD (i'.i.toNat * (Z 3).i.toNat + j.i.toNat) 0 = qb (Z 7).d (i'.i * (Z 3).i + j.i) 0:=by
    rw [jab,jbf,jah (by rw [<- ht]; omega),<- ht,hget]; rfl
   rw [e3,e1,e2,hn4,q64 (by rw [<- e2]; omega)]
  ·have hj':j.i = (Z 3).i:=by omega
   rw [add64 (by omega) (by omega)]
   rw [hj',show i'.i * (Z 3).i + (Z 3).i = (i'.i + 1) * (Z 3).i by rw [jcc,jcd]] at hB2
   exact ⟨⟨by omega,by omega,hv1.1 hb,hv2.1 hb2,hcr,hfd2,hM2,hL2,hB2⟩,by omega⟩
 ·have:i.i = (Z 2).i:=by omega
  rw [this,jb0 (by omega) (by omega)] at hB
  exact ⟨hfd,hv1.1 hb,hv2.1 hb2,hcr,hM,hL,hB⟩
@[simp] def qg1:Sg:=sg 0 [bv 6 8,bv 5 30,bv 7 25,bv 4 6,bv 3 5,bg 2 4,bv 1 3,bv 0 2]
@[simp] def qgn:Sg:=sg 0 [bv 6 15,bv 5 31,bv 7 25,bv 4 13,bv 3 12,bg 2 11,bv 1 10,bv 0 9]
@[simp] def qox:Sg:=sg 0 [bv 1 27,bt 2 (.icell (tv 30) (.arith .add .i64 (.arith .mul .i64 (tv 25) (tv 3)) (tv 26)) 0),bg 0 0]
@[simp] def qpm:Sg:=sg 0 [bv 1 47,bt 2 (.icell (tv 40) (.arith .add .i64 (.arith .mul .i64 (tv 25) (tv 3)) (tv 26)) 0),bg 0 0]
@[simp] def qo2:Sg:=sg 0 [bv 7 8,bv 6 30,bv 1 27,bt 11 (tl 1),bv 10 38,bv 9 37,bv 8 36,bv 5 35,bv 4 34,bv 3 33,bg 2 4,bg 0 0]
@[simp] def qoB:Sg:=sg 0 [bv 7 15,bv 6 31,bv 1 39,bt 11 (tl 1),bv 10 46,bv 9 45,bv 8 44,bv 5 43,bv 4 42,bv 3 41,bg 2 11,bg 0 0]
@[simp] def qpc:Sg:=sg 0 [bv 7 8,bv 6 51,bv 1 48,bt 11 (.icell (tv 51) (.arith .add .i64 (.arith .mul .i64 (tv 53) (tv 3)) (tv 47)) 0),bv 10 59,bv 9 58,bv 8 57,bv 5 56,bv 4 55,bv 3 54,bg 2 4,bg 0 0]
@[simp] def qpV:Sg:=sg 0 [bv 7 8,bv 6 67,bv 1 64,bt 11 (.icell (tv 67) (.arith .add .i64 (.arith .mul .i64 (tv 69) (tv 3)) (tv 63)) 0),bv 10 75,bv 9 74,bv 8 73,bv 5 72,bv 4 71,bv 3 70,bg 2 4,bg 0 0]
@[simp] def qqb:Sg:=sg 0 [bv 7 15,bv 6 52,bv 1 60,bt 11 (.icell (tv 51) (.arith .add .i64 (.arith .mul .i64 (tv 53) (tv 3)) (tv 47)) 0),bv 10 67,bv 9 66,bv 8 65,bv 5 64,bv 4 63,bv 3 62,bg 2 11,bg 0 0]
@[simp] def qqs:Sg:=sg 0 [bv 7 15,bv 6 68,bv 1 76,bt 11 (.icell (tv 67) (.arith .add .i64 (.arith .mul .i64 (tv 69) (tv 3)) (tv 63)) 0),bv 10 83,bv 9 82,bv 8 81,bv 5 80,bv 4 79,bv 3 78,bg 2 11,bg 0 0]
@[simp] def qp7:Out:=.br (.cmp .eql (tv 32) (tv 2))
 (.back 0 18 (sg 1000 [bv 1006 31,bv 1005 30,bv 1002 27,bt 1001 (.arith .add .i64 (tv 26) (tl 1)),bv 1000 25,bg 1004 29,bg 1003 28]))
 (.br (.cmp .neq (tv 32) (tv 25))
 (.both (.pre 0 qg1 (.both (fr 33 3 (.post 0 0 qg1 33 (.both (.pre 0 (sg 0 [bv 6 8,bv 5 30,bv 7 32,bv 4 6,bv 3 5,bg 2 4,bv 1 3,bv 0 2]) (.both (fr 36 3 (.post 0 0 (sg 0 [bv 6 8,bv 5 30,bv 7 32,bv 4 6,bv 3 5,bg 2 4,bv 1 3,bv 0 2]) 36 (.both (.pre 2 qo2 (.both (fr 39 2 (.post 2 0 qo2 39 (.both (.pre 0 qgn (.both (fr 41 3 (.post 0 0 qgn 41 (.both (.pre 0 (sg 0 [bv 6 15,bv 5 31,bv 7 32,bv 4 13,bv 3 12,bg 2 11,bv 1 10,bv 0 9]) (.both (fr 44 3 (.post 0 0 (sg 0 [bv 6 15,bv 5 31,bv 7 32,bv 4 13,bv 3 12,bg 2 11,bv 1 10,bv 0 9]) 44 (.both (.pre 2 qoB (.both (fr 47 2 (.post 2 0 qoB 47 (.need (.cmp .leq (tl 0) (.arith .add .i64 (.arith .mul .i64 (tv 25) (tv 3)) (tv 26))) (.need (.cmp .lss (.arith .add .i64 (.arith .mul .i64 (tv 25) (tv 3)) (tv 26)) (tv 5)) (.need (.cmp .lss (.arith .add .i64 (.arith .mul .i64 (tv 25) (tv 3)) (tv 26)) (.dlen (tv 40))) (.pre 3 qpm (.both (fr 49 3 (.post 3 0 qpm 49 (.pre 0 (sg 0 [bv 6 8,bv 5 40,bv 7 25,bv 4 6,bv 3 5,bg 2 4,bv 1 3,bv 0 2]) (.both (fr 52 3 (.post 0 0 (sg 0 [bv 6 8,bv 5 40,bv 7 25,bv 4 6,bv 3 5,bg 2 4,bv 1 3,bv 0 2]) 52 (.pre 4 (sg 0 [bv 7 8,bv 6 40,bv 1 51,bv 8 49,bv 5 54,bv 4 53,bv 3 52,bg 2 4,bg 0 0]) (.both (fr 55 2 (.post 4 0 (sg 0 [bv 7 8,bv 6 40,bv 1 51,bv 8 49,bv 5 54,bv 4 53,bv 3 52,bg 2 4,bg 0 0]) 55 (.pre 0 (sg 0 [bv 6 15,bv 5 48,bv 7 25,bv 4 13,bv 3 12,bg 2 11,bv 1 10,bv 0 9]) (.both (fr 57 3 (.post 0 0 (sg 0 [bv 6 15,bv 5 48,bv 7 25,bv 4 13,bv 3 12,bg 2 11,bv 1 10,bv 0 9]) 57 (.pre 4 (sg 0 [bv 7 15,bv 6 48,bv 1 55,bv 8 49,bv 5 59,bv 4 58,bv 3 57,bg 2 11,bg 0 0]) (.both (fr 60 2 (.post 4 0 (sg 0 [bv 7 15,bv 6 48,bv 1 55,bv 8 49,bv 5 59,bv 4 58,bv 3 57,bg 2 11,bg 0 0]) 60 (.inv 2 62 (sg 1000 [bv 1006 61,bv 1005 56,bv 1002 60,bt 1007 (tl 0),bv 1001 26,bv 1000 25,bg 1004 29,bg 1003 28]) (fr 62 8 (.hyp 2 62 (.br (.cmp .lss (tv 69) (tv 2))
 (.need (.cmp .leq (tl 0) (.arith .add .i64 (.arith .mul .i64 (tv 69) (tv 3)) (tv 63))) (.need (.cmp .lss (.arith .add .i64 (.arith .mul .i64 (tv 69) (tv 3)) (tv 63)) (tv 5)) (.need (.cmp .lss (.arith .add .i64 (.arith .mul .i64 (tv 69) (tv 3)) (tv 63)) (.dlen (tv 67))) (.br (.cmp .neq (tv 69) (tv 62))
 (.both (.pre 0 (sg 0 [bv 6 8,bv 5 67,bv 7 69,bv 4 6,bv 3 5,bg 2 4,bv 1 3,bv 0 2]) (.both (fr 70 3 (.post 0 0 (sg 0 [bv 6 8,bv 5 67,bv 7 69,bv 4 6,bv 3 5,bg 2 4,bv 1 3,bv 0 2]) 70 (.both (.pre 0 (sg 0 [bv 6 8,bv 5 67,bv 7 62,bv 4 6,bv 3 5,bg 2 4,bv 1 3,bv 0 2]) (.both (fr 73 3 (.post 0 0 (sg 0 [bv 6 8,bv 5 67,bv 7 62,bv 4 6,bv 3 5,bg 2 4,bv 1 3,bv 0 2]) 73 (.both (.pre 2 qpV (.both (fr 76 2 (.post 2 0 qpV 76 (.both (.pre 0 (sg 0 [bv 6 15,bv 5 68,bv 7 69,bv 4 13,bv 3 12,bg 2 11,bv 1 10,bv 0 9]) (.both (fr 78 3 (.post 0 0 (sg 0 [bv 6 15,bv 5 68,bv 7 69,bv 4 13,bv 3 12,bg 2 11,bv 1 10,bv 0 9]) 78 (.both (.pre 0 (sg 0 [bv 6 15,bv 5 68,bv 7 62,bv 4 13,bv 3 12,bg 2 11,bv 1 10,bv 0 9]) (.both (fr 81 3 (.post 0 0 (sg 0 [bv 6 15,bv 5 68,bv 7 62,bv 4 13,bv 3 12,bg 2 11,bv 1 10,bv 0 9]) 81 (.both (.pre 2 qqs (.both (fr 84 2 (.post 2 0 qqs 84 (.back 2 62 (sg 1000 [bv 1006 85,bv 1005 77,bv 1002 84,bt 1007 (.arith .add .i64 (tv 69) (tl 1)),bv 1001 63,bv 1000 62,bg 1004 66,bg 1003 65])))) .top)) .top))) .top)) .top))) .top)) .top))) .top)) .top))) .top)) .top))) .top)) .top)
 (.back 2 62 (sg 1000 [bv 1006 68,bv 1005 67,bv 1002 64,bt 1007 (.arith .add .i64 (tv 69) (tl 1)),bv 1001 63,bv 1000 62,bg 1004 66,bg 1003 65]))))))
 (.back 0 18 (sg 1000 [bv 1006 68,bv 1005 67,bv 1002 64,bt 1001 (.arith .add .i64 (tv 63) (tl 1)),bt 1000 (.arith .add .i64 (tv 62) (tl 1)),bg 1004 66,bg 1003 65])))))))) .top)))) .top)))) .top)))) .top)))) .top))))))) .top)) .top))) .top)) .top))) .top)) .top))) .top)) .top))) .top)) .top))) .top)) .top)
 (.need (.cmp .leq (tl 0) (.arith .add .i64 (.arith .mul .i64 (tv 25) (tv 3)) (tv 26))) (.need (.cmp .lss (.arith .add .i64 (.arith .mul .i64 (tv 25) (tv 3)) (tv 26)) (tv 5)) (.need (.cmp .lss (.arith .add .i64 (.arith .mul .i64 (tv 25) (tv 3)) (tv 26)) (.dlen (tv 30))) (.pre 3 qox (.both (fr 33 3 (.post 3 0 qox 33 (.pre 0 qg1 (.both (fr 36 3 (.post 0 0 qg1 36 (.pre 4 (sg 0 [bv 7 8,bv 6 30,bv 1 35,bv 8 33,bv 5 38,bv 4 37,bv 3 36,bg 2 4,bg 0 0]) (.both (fr 39 2 (.post 4 0 (sg 0 [bv 7 8,bv 6 30,bv 1 35,bv 8 33,bv 5 38,bv 4 37,bv 3 36,bg 2 4,bg 0 0]) 39 (.pre 0 qgn (.both (fr 41 3 (.post 0 0 qgn 41 (.pre 4 (sg 0 [bv 7 15,bv 6 31,bv 1 39,bv 8 33,bv 5 43,bv 4 42,bv 3 41,bg 2 11,bg 0 0]) (.both (fr 44 2 (.post 4 0 (sg 0 [bv 7 15,bv 6 31,bv 1 39,bv 8 33,bv 5 43,bv 4 42,bv 3 41,bg 2 11,bg 0 0]) 44 (.inv 2 46 (sg 1000 [bv 1006 45,bv 1005 40,bv 1002 44,bt 1007 (tl 0),bv 1001 26,bv 1000 25,bg 1004 29,bg 1003 28]) (fr 46 8 (.hyp 2 46 (.br (.cmp .lss (tv 53) (tv 2))
 (.need (.cmp .leq (tl 0) (.arith .add .i64 (.arith .mul .i64 (tv 53) (tv 3)) (tv 47))) (.need (.cmp .lss (.arith .add .i64 (.arith .mul .i64 (tv 53) (tv 3)) (tv 47)) (tv 5)) (.need (.cmp .lss (.arith .add .i64 (.arith .mul .i64 (tv 53) (tv 3)) (tv 47)) (.dlen (tv 51))) (.br (.cmp .neq (tv 53) (tv 46))
 (.both (.pre 0 (sg 0 [bv 6 8,bv 5 51,bv 7 53,bv 4 6,bv 3 5,bg 2 4,bv 1 3,bv 0 2]) (.both (fr 54 3 (.post 0 0 (sg 0 [bv 6 8,bv 5 51,bv 7 53,bv 4 6,bv 3 5,bg 2 4,bv 1 3,bv 0 2]) 54 (.both (.pre 0 (sg 0 [bv 6 8,bv 5 51,bv 7 46,bv 4 6,bv 3 5,bg 2 4,bv 1 3,bv 0 2]) (.both (fr 57 3 (.post 0 0 (sg 0 [bv 6 8,bv 5 51,bv 7 46,bv 4 6,bv 3 5,bg 2 4,bv 1 3,bv 0 2]) 57 (.both (.pre 2 qpc (.both (fr 60 2 (.post 2 0 qpc 60 (.both (.pre 0 (sg 0 [bv 6 15,bv 5 52,bv 7 53,bv 4 13,bv 3 12,bg 2 11,bv 1 10,bv 0 9]) (.both (fr 62 3 (.post 0 0 (sg 0 [bv 6 15,bv 5 52,bv 7 53,bv 4 13,bv 3 12,bg 2 11,bv 1 10,bv 0 9]) 62 (.both (.pre 0 (sg 0 [bv 6 15,bv 5 52,bv 7 46,bv 4 13,bv 3 12,bg 2 11,bv 1 10,bv 0 9]) (.both (fr 65 3 (.post 0 0 (sg 0 [bv 6 15,bv 5 52,bv 7 46,bv 4 13,bv 3 12,bg 2 11,bv 1 10,bv 0 9]) 65 (.both (.pre 2 qqb (.both (fr 68 2 (.post 2 0 qqb 68 (.back 2 46 (sg 1000 [bv 1006 69,bv 1005 61,bv 1002 68,bt 1007 (.arith .add .i64 (tv 53) (tl 1)),bv 1001 47,bv 1000 46,bg 1004 50,bg 1003 49])))) .top)) .top))) .top)) .top))) .top)) .top))) .top)) .top))) .top)) .top))) .top)) .top)
 (.back 2 46 (sg 1000 [bv 1006 52,bv 1005 51,bv 1002 48,bt 1007 (.arith .add .i64 (tv 53) (tl 1)),bv 1001 47,bv 1000 46,bg 1004 50,bg 1003 49]))))))
 (.back 0 18 (sg 1000 [bv 1006 52,bv 1005 51,bv 1002 48,bt 1001 (.arith .add .i64 (tv 47) (tl 1)),bt 1000 (.arith .add .i64 (tv 46) (tl 1)),bg 1004 50,bg 1003 49])))))))) .top)))) .top)))) .top)))) .top)))) .top))))))
def qtz:Out:=(fr 16 2 (.inv 0 18 (sg 1000 [bv 1006 14,bv 1005 7,bv 1002 1,bt 1001 (tl 0),bt 1000 (tl 0),bg 1004 17,bg 1003 16]) (fr 18 7 (.hyp 0 18 (.br (.cmp .lss (tv 19) (tv 3))
 (.br (.cmp .lss (tv 18) (tv 2))
 (.inv 1 25 (sg 1000 [bv 1006 24,bv 1005 23,bv 1002 20,bv 1007 18,bv 1001 19,bv 1000 18,bg 1004 22,bg 1003 21]) (fr 25 8 (.hyp 1 25 (.br (.cmp .lss (tv 32) (tv 2))
 (.need (.cmp .leq (tl 0) (.arith .add .i64 (.arith .mul .i64 (tv 32) (tv 3)) (tv 26))) (.need (.cmp .lss (.arith .add .i64 (.arith .mul .i64 (tv 32) (tv 3)) (tv 26)) (tv 5)) (.need (.cmp .lss (.arith .add .i64 (.arith .mul .i64 (tv 32) (tv 3)) (tv 26)) (.dlen (tv 30))) (.br (.cmp .eql (.icell (tv 30) (.arith .add .i64 (.arith .mul .i64 (tv 32) (tv 3)) (tv 26)) 0) (tl 0))
 (.back 1 25 (sg 1000 [bv 1006 31,bv 1005 30,bv 1002 27,bt 1007 (.arith .add .i64 (tv 32) (tl 1)),bv 1001 26,bv 1000 25,bg 1004 29,bg 1003 28]))
 qp7))))
 qp7))))
 (.ret 0 (sg 16 [bv 19 24,bv 18 23,bv 17 20,bv 16 18])))
 (.ret 0 (sg 16 [bv 19 24,bv 18 23,bv 17 20,bv 16 18])))))))
theorem q3H:qn Tryz.prog qjQ [qcd,qdG,qmg,qlK,qlS] [qxY,qy8,qxX] qtz:=qh Tryz.func167 Tryz.call167 (by kernel_rfl)
@[simp] def qlh:Sg:=sg 0 [bv 15 14,bv 14 15,bv 8 18,bv 7 19,bv 1 1,bv 13 14,bv 12 13,bg 11 12,bv 10 2,bv 9 2,bv 6 18,bv 5 5,bg 4 17,bv 3 3,bv 2 2,bg 0 0]
def qnv:Out:=(fr 9 2 (.br (.and (.cmp .eql (.dlen (tv 1)) (tl 0)) (.isnil 0))
 (.ret 0 (sg 9 [bv 10 1,bt 9 (tl 1)]))
 (.pre 0 (sg 0 [bv 6 8,bv 5 7,bv 4 6,bv 3 5,bg 2 4,bv 1 3,bv 0 2]) (.both (.fresh 11 (.post 0 0 (sg 0 [bv 6 8,bv 5 7,bv 4 6,bv 3 5,bg 2 4,bv 1 3,bv 0 2]) 11 (.br (.not (tv 11))
 (.ret 0 (sg 9 [bv 10 1,bt 9 (tl 2)]))
 (.br (.cmp .neq (tv 2) (tv 3))
 (.ret 0 (sg 9 [bv 10 1,bt 9 (tl 10)]))
 (.pre 1 (sg 0 [bv 0 2]) (.both (fr 12 4 (.post 1 0 (sg 0 [bv 0 2]) 12 (.fresh 16 (.both (.pre 2 (sg 0 [bv 6 8,bv 5 7,bv 4 6,bv 3 5,bg 2 4,bv 1 3,bv 0 2]) (.both (fr 17 3 (.post 2 0 (sg 0 [bv 6 8,bv 5 7,bv 4 6,bv 3 5,bg 2 4,bv 1 3,bv 0 2]) 17 (.both (.pre 3 qlh (.both (fr 20 4 (.post 3 0 qlh 20 (.br (.cmp .lss (tv 20) (tv 2))
 (.ret 0 (sg 9 [bv 10 21,bt 9 (tl 11)]))
 (.ret 1 (sg 9 [bv 13 23,bv 12 21,bv 11 14,bv 10 13,bg 9 12]))))) .top)) .top))) .top)) .top)))) .top)))))) .top))))
theorem qvY:qn Tryz.prog qbA [qdd,qqS,qro,qjQ] [] qnv:=qh Tryz.func134 Tryz.call134 (by kernel_rfl)
@[simp] def qm3:Sg:=sg 0 [bv 8 8,bv 7 10,bv 1 9,bv 6 8,bt 5 (.arith .mul .i64 (tv 2) (tv 2)),bg 4 6,bv 3 2,bv 2 2,bg 0 0]
@[simp] def qiw:Sg:=sg 0 [bv 15 15,bv 14 17,bv 8 8,bv 7 10,bv 1 16,bv 13 15,bv 12 14,bg 11 13,bv 10 2,bv 9 2,bv 6 8,bv 5 7,bg 4 6,bv 3 2,bv 2 3,bg 0 0]
@[simp] def qiz:Sg:=sg 0 [bt 15 (tl 0),bt 14 .dnil,bv 8 8,bv 7 10,bv 1 14,bt 13 (tl 0),bt 12 (tl 0),(11,.nil),bt 10 (tl 0),bt 9 (tl 0),bv 6 8,bv 5 7,bg 4 6,bv 3 2,bv 2 3,bg 0 0]
def qyz:Out:=(.fresh 4 (.br (.and (.cmp .eql (.dlen (tv 1)) (tl 0)) (.isnil 0))
 (.stuck 7 0 0)
 (.pre 0 (sg 0 [bv 1 3,bv 0 2]) (.both (.fresh 5 (.post 0 0 (sg 0 [bv 1 3,bv 0 2]) 5 (.br (.not (tv 5))
 (.ret 0 (sg 4 [bv 4 1]))
 (.pre 1 (sg 0 [bv 1 1,bv 3 2,bv 2 3,bg 0 0]) (.both (fr 6 5 (.post 1 0 (sg 0 [bv 1 1,bv 3 2,bv 2 3,bg 0 0]) 6 (.fresh 11 (.know (.cmp .leq (.dlen (tv 10)) (tv 8)) (.need (.cmp .leq (tl 0) (tv 7)) (.need (.cmp .leq (tl 0) (tv 8)) (.need (.cmp .leq (tl 0) (.arith .mul .i64 (tv 2) (tv 2))) (.need (.cmp .leq (.arith .mul .i64 (tv 2) (tv 2)) (tv 8)) (.fresh 12 (.pre 2 qm3 (.both (fr 13 2 (.post 2 0 qm3 13 (.fresh 15 (.pre 3 qiz (.both (.fresh 16 (.post 3 0 qiz 16 (.ret 0 (sg 4 [bv 4 16])))) (.both (.fresh 16 (.post 3 1 qiz 16 (.stuck 7 0 0))) (.both (fr 16 5 (.post 3 2 qiz 16 (.pack [.cells 15 200 [(.vint .i64 (tl 0)),(.vint .i64 (tl 0)),.vnils],.cells 12 200 [(.vint .i64 (tv 2)),(.vint .i64 (tv 2)),(.vslice 6 (tl 0) (.arith .mul .i64 (tv 2) (tv 2)) (tv 8) 1)],.cells 11 200 [(.vint .i64 (tv 3)),(.vint .i64 (tv 2)),(.vslice 6 (tl 0) (tv 7) (tv 8) 1)],.arr 6 5 [CK.int .u8] (tv 10) (tv 8),.cells 4 200 [(.vint .i64 (tv 3)),(.vint .i64 (tl 0)),(.vslice 16 (tl 0) (tv 17) (tv 18) 1)]] 21 (.need (.cmp .eql (tv 2) (tl 0)) (.ret 1 (sg 4 [bg 9 21,bv 8 20,bv 7 19,bv 6 18,bv 5 17,bg 4 16])))))) .top))))))) (.both (fr 13 5 (.post 2 1 qm3 13 (.fresh 18 (.pre 3 qiw (.both (.fresh 19 (.post 3 0 qiw 19 (.ret 0 (sg 4 [bv 4 19])))) (.both (.fresh 19 (.post 3 1 qiw 19 (.stuck 7 0 0))) (.both (fr 19 5 (.post 3 2 qiw 19 (.pack [.cells 18 200 [(.vint .i64 (tv 2)),(.vint .i64 (tv 2)),(.vslice 13 (tl 0) (tv 14) (tv 15) 1)],.arr 13 5 [CK.int .u8] (tv 17) (tv 15),.cells 12 200 [(.vint .i64 (tv 2)),(.vint .i64 (tv 2)),(.vslice 6 (tl 0) (.arith .mul .i64 (tv 2) (tv 2)) (tv 8) 1)],.cells 11 200 [(.vint .i64 (tv 3)),(.vint .i64 (tv 2)),(.vslice 6 (tl 0) (tv 7) (tv 8) 1)],.arr 6 5 [CK.int .u8] (tv 10) (tv 8),.cells 4 200 [(.vint .i64 (tv 3)),(.vint .i64 (tv 2)),(.vslice 19 (tl 0) (tv 20) (tv 21) 1)]] 24 (.ret 1 (sg 4 [bg 9 24,bv 8 23,bv 7 22,bv 6 21,bv 5 20,bg 4 19]))))) .top))))))) .top)))))))))))) .top))))) .top))))
theorem q57:qn Tryz.prog qfk [qcb,qnX,qbA,qjD] [] qyz:=qh Tryz.func122 Tryz.call122 (by kernel_rfl)
theorem idx {r n i c:Int} (hr:r <= 255) (hn:n <= 255) (i0:0 <= i) (i1:i < r) (c0:0 <= c) (c1:c < n) :
  qe .add .i64 (qe .mul .i64 i n) c = i * n + c/\0 <= i * n + c/\i * n + c < r * n/\(i * n + c).toNat = i.toNat * n.toNat + c.toNat:=by
 have hb:=qI (x:=i) (y:=n) i0 (show i <= 255 by omega) (by omega) hn
 have hlt:i * n + n <= r * n:=by
  have:=ja2 (show i + 1 <= r by omega) (show 0 <= n by omega)
  rw [jcc,jcd] at this; omega
 refine ⟨by rw [qcx (by omega) (by omega),add64 (by omega) (by omega)],by omega,by omega,?_⟩
 rw [jdz hb.1 c0,jb0 i0 (by omega)]
theorem qff {r n i:Int} (i0:0 <= i) (i1:i < r) (n0:0 <= n):0 <= i * n/\i * n + n <= r * n/\(i * n).toNat = i.toNat * n.toNat:=by
 have hlt:i * n + n <= r * n:=by
  have:=ja2 (show i + 1 <= r by omega) n0
  rw [jcc,jcd] at this; omega
 exact ⟨jfj i0 n0,hlt,jb0 i0 n0⟩
theorem qjB {n i j:Int} (h:¬ i = j) (n0:0 <= n):j * n + n <= i * n∨i * n + n <= j * n:=by
 rcases Int.lt_or_gt_of_ne h with h | h
 ·right
  have:=ja2 (show i + 1 <= j by omega) n0
  rw [jcc,jcd] at this; omega
 ·left
  have:=ja2 (show j + 1 <= i by omega) n0
  rw [jcc,jcd] at this; omega
theorem qd9 {d:qd} {e:Int} (h0:0 <= e) (h1:e < d.length):(bI d).getD e.toNat 0 = qb d e 0:=by
 rw [jab,qf5 h0 h1]; rfl
theorem qK.seg {r c l cap:Int} {d:qd} (h:qK r c l cap d) {i o n:Int} (i0:0 <= i) (i1:i < r) (ho:o = i * c) (hn:n = c):qnb d o n:=by
 obtain ⟨⟨a1,a2,a3,a4,a5,a6,a7,a8⟩,a9⟩:=h
 obtain ⟨b1,b2,_⟩:=qff i0 i1 a3
 exact ⟨by omega,by omega,by omega,by unfold Go.Eng.big; omega⟩
theorem qK.next {r c l cap:Int} {d d':qd} (h:qK r c l cap d) (hl:d'.length = d.length) (hB:qp d'):qK r c l cap d':=by
 obtain ⟨⟨a1,a2,a3,a4,a5,a6,a7,a8⟩,a9⟩:=h
 exact ⟨⟨a1,a2,a3,a4,a5,a6,by omega,hB⟩,by omega⟩
theorem qoQ {rows ca cb:Nat} {a b:List Int} {c:Nat} (h:rows <= (qbQ rows ca cb a b c).2.2):∀ k,qbQ rows ca cb a b (c + k) = qbQ rows ca cb a b c
 | 0=>rfl
 | k + 1=>by
  rw [<- jco,qbQ,qoQ h k,qcz,jah h]
theorem q2v {a:List Int} {ca c p n:Nat} (h:¬ a.getD (p * ca + c) 0 = 0):qcE a ca c p n = p:=by
 cases n with
 | zero=>rfl
 | succ n=>rw [qcE,jaf h]
section
variable {r ca cb l1 c1 l2 c2 rank c p i:Int} {f da db a0 b0:qd}
theorem qcn.start (hf:qk f) (hA:qK r ca l1 c1 da) (hB:qK r cb l2 c2 db):qcn r ca cb l1 c1 l2 c2 0 0 f da db da db :=
 ⟨⟨hf,hA,hB,by omega,hA.1.1,by omega,hA.1.2.2.1⟩,rfl⟩
theorem qeh.start (h:qcn r ca cb l1 c1 l2 c2 rank c f da db a0 b0) (hr:rank < r) (hc:c < ca):qeh r ca cb l1 c1 l2 c2 rank c rank f da db a0 b0 :=
 ⟨h,hr,hc,by omega,by omega,rfl⟩
theorem qeh.next (h:qeh r ca cb l1 c1 l2 c2 rank c p f da db a0 b0) (hp:p < r) (hz:qb da (p * ca + c) 0 = 0):qeh r ca cb l1 c1 l2 c2 rank c (p + 1) f da db a0 b0:=by
 obtain ⟨h1,h2,h3,h4,h5,h6⟩:=h
 refine ⟨h1,h2,h3,by omega,by omega,?_⟩
 obtain ⟨⟨_,hA,hB,w1,w2,w3,w4⟩,_⟩:=h1
 obtain ⟨⟨a1,a2,a3,a4,a5,a6,a7,a8⟩,a9⟩:=hA
 obtain ⟨_,e1,e2,e3⟩:=idx (i:=p) a2 a4 (by omega) hp w3 h3
 have hg:=qd9 (d:=da) e1 (by omega)
 rw [e3] at hg
 rw [<- h6,show r.toNat - p.toNat = (r.toNat - (p + 1).toNat) + 1 by omega,qcE,jah (by rw [hg]; exact hz),show (p + 1).toNat = p.toNat + 1 by omega]
theorem qcn.skip (h:qeh r ca cb l1 c1 l2 c2 rank c p f da db a0 b0) (hp:p = r):qcn r ca cb l1 c1 l2 c2 rank (c + 1) f da db a0 b0:=by
 obtain ⟨⟨⟨hf,hA,hB,w1,w2,w3,w4⟩,he⟩,h2,h3,h4,h5,h6⟩:=h
 refine ⟨⟨hf,hA,hB,w1,w2,by omega,by omega⟩,?_⟩
 rw [show (c + 1).toNat = c.toNat + 1 by omega,qbQ,<- he,qcz]
 simp only
 rw [jaf (by omega),jah]
 rw [<- h6,hp,jfb,qcE]
theorem qeh.piv (h:qeh r ca cb l1 c1 l2 c2 rank c p f da db a0 b0) (hp:p < r) (hz:¬ qb da (p * ca + c) 0 = 0):qcE (bI da) ca.toNat c.toNat rank.toNat (r.toNat - rank.toNat) = p.toNat:=by
 obtain ⟨⟨⟨hf,hA,hB,w1,w2,w3,w4⟩,he⟩,h2,h3,h4,h5,h6⟩:=h
 obtain ⟨⟨a1,a2,a3,a4,a5,a6,a7,a8⟩,a9⟩:=hA
 obtain ⟨_,e1,e2,e3⟩:=idx (i:=p) a2 a4 (by omega) hp w3 h3
 have hg:=qd9 (d:=da) e1 (by omega)
 rw [e3] at hg
 rw [<- h6,q2v (by rw [hg]; exact hz)]
theorem qc8.start {da1 db1 da2 db2 f2:qd} {o1 n1 o2 n2 x:Int} (h:qeh r ca cb l1 c1 l2 c2 rank c p f da db a0 b0) (hp:p < r) (hz:¬ qb da (p * ca + c) 0 = 0)
  (hs:(bI da1,bI db1) = qb5 ca.toNat cb.toNat rank.toNat p.toNat (bI da) (bI db)) (hl1:da1.length = da.length) (hl2:db1.length = db.length)
  (hx:x = qf6 (qb da1 (rank * ca + c) 0)) (hA2:bI da2 = qbj (bI da1) o1.toNat n1.toNat x) (hB2:bI db2 = qbj (bI db1) o2.toNat n2.toNat x) (ho1:o1 = rank * ca) (hn1:n1 = ca) (ho2:o2 = rank * cb) (hn2:n2 = cb)
  (hl3:da2.length = da1.length) (hl4:db2.length = db1.length) (hb1:qp da2) (hb2:qp db2) (hf2:qk f2):qc8 r ca cb l1 c1 l2 c2 rank c 0 f2 da2 db2 a0 b0:=by
 have hpiv:=qeh.piv h hp hz
 obtain ⟨⟨⟨hf,hA,hB,w1,w2,w3,w4⟩,he⟩,h2,h3,h4,h5,h6⟩:=h
 refine ⟨⟨hf2,qK.next hA (by omega) hb1,qK.next hB (by omega) hb2,w1,w2,w3,w4⟩,h2,h3,by omega,by omega,_,he,rfl,by simp only; rw [hpiv]; omega,?_⟩
 obtain ⟨⟨a1,a2,a3,a4,a5,a6,a7,a8⟩,a9⟩:=hA
 obtain ⟨⟨d1,d2,d3,d4,d5,d6,d7,d8⟩,d9⟩:=hB
 obtain ⟨_,e1,e2,e3⟩:=idx (i:=rank) a2 a4 w1 h2 w3 h3
 have hg:=qd9 (d:=da1) e1 (by omega)
 rw [e3] at hg
 have hr1:=(qff (n:=ca) w1 h2 a3).2.2
 have hr2:=(qff (n:=cb) w1 h2 d3).2.2
 simp only [qfG,jdh,qa8]
 rw [hpiv,<- hs]
 simp only [qgB]
 rw [hg,<- hx,hA2,hB2,ho1,ho2,hn1,hn2,hr1,hr2]
theorem qc8.same (h:qc8 r ca cb l1 c1 l2 c2 rank c i f da db a0 b0) (hi:i < r) (he:i = rank):qc8 r ca cb l1 c1 l2 c2 rank c (i + 1) f da db a0 b0:=by
 obtain ⟨hw,h2,h3,h4,h5,s,hs,hs2,hs3,hs4⟩:=h
 refine ⟨hw,h2,h3,by omega,by omega,s,hs,hs2,hs3,?_⟩
 rw [show (i + 1).toNat = i.toNat + 1 by omega,qa8]
 rw [jah (by omega)]; exact hs4
theorem qc8.next {da2 db2 f2:qd} {o1 o2 p1 m1 p2 m2:Int} (h:qc8 r ca cb l1 c1 l2 c2 rank c i f da db a0 b0) (hi:i < r) (hne:¬ i = rank)
  (hA2:bI da2 = qE (bI da) o1.toNat (seg (bI da) p1.toNat m1.toNat) (qb da (i * ca + c) 0)) (hB2:bI db2 = qE (bI db) o2.toNat (seg (bI db) p2.toNat m2.toNat) (qb da (i * ca + c) 0))
  (ho1:o1 = i * ca) (hp1:p1 = rank * ca) (hm1:m1 = ca) (ho2:o2 = i * cb) (hp2:p2 = rank * cb) (hm2:m2 = cb)
  (hl3:da2.length = da.length) (hl4:db2.length = db.length) (hb1:qp da2) (hb2:qp db2) (hf2:qk f2):qc8 r ca cb l1 c1 l2 c2 rank c (i + 1) f2 da2 db2 a0 b0:=by
 obtain ⟨⟨hf,hA,hB,w1,w2,w3,w4⟩,h2,h3,h4,h5,s,hs,hs2,hs3,hs4⟩:=h
 refine ⟨⟨hf2,qK.next hA hl3 hb1,qK.next hB hl4 hb2,w1,w2,w3,w4⟩,h2,h3,by omega,by omega,s,hs,hs2,hs3,?_⟩
 obtain ⟨⟨a1,a2,a3,a4,a5,a6,a7,a8⟩,a9⟩:=hA
 obtain ⟨⟨d1,d2,d3,d4,d5,d6,d7,d8⟩,d9⟩:=hB
 obtain ⟨_,e1,e2,e3⟩:=idx (i:=i) a2 a4 h4 hi w3 h3
 have hg:=qd9 (d:=da) e1 (by omega)
 rw [e3] at hg
 rw [show (i + 1).toNat = i.toNat + 1 by omega,qa8]
 rw [jaf (by omega),<- hs4]
 simp only
 rw [hg,hA2,hB2,ho1,ho2,hp1,hp2,hm1,hm2,(qff (n:=ca) h4 hi a3).2.2,(qff (n:=cb) h4 hi d3).2.2,(qff (n:=ca) w1 h2 a3).2.2,(qff (n:=cb) w1 h2 d3).2.2]
theorem qcn.after (h:qc8 r ca cb l1 c1 l2 c2 rank c i f da db a0 b0) (hi:i = r):qcn r ca cb l1 c1 l2 c2 (rank + 1) (c + 1) f da db a0 b0:=by
 obtain ⟨⟨hf,hA,hB,w1,w2,w3,w4⟩,h2,h3,h4,h5,s,hs,hs2,hs3,hs4⟩:=h
 refine ⟨⟨hf,hA,hB,by omega,by omega,by omega,by omega⟩,?_⟩
 rw [show (c + 1).toNat = c.toNat + 1 by omega,qbQ,<- hs,qcz,hs2,jaf (by omega),jaf hs3]
 simp only
 rw [hi] at hs4
 rw [<- hs4]
 simp only
 rw [show (rank + 1).toNat = rank.toNat + 1 by omega]
theorem qcn.fin (h:qcn r ca cb l1 c1 l2 c2 rank c f da db a0 b0) (hd:r <= rank∨ca <= c):(bI da,bI db,rank.toNat) = qbQ r.toNat ca.toNat cb.toNat (bI a0) (bI b0) ca.toNat:=by
 obtain ⟨⟨hf,hA,hB,w1,w2,w3,w4⟩,he⟩:=h
 rcases hd with hd | hd
 ·have:=qoQ (rows:=r.toNat) (ca:=ca.toNat) (cb:=cb.toNat) (a:=bI a0) (b:=bI b0) (c:=c.toNat) (by rw [<- he]; simp only; omega) (ca.toNat - c.toNat)
  rw [show c.toNat + (ca.toNat - c.toNat) = ca.toNat by omega] at this
  rw [this,he]
 ·rw [he,show c.toNat = ca.toNat by omega]
end
theorem q5u {ca cb rank p:Nat} {a b:List Int} (h:¬ p = rank):qb5 ca cb rank p a b = (qE a (rank * ca) (seg a (p * ca) ca) 1,qE b (rank * cb) (seg b (p * cb) cb) 1):=by rw [qb5,jaf h]
set_option maxRecDepth 100000 in
set_option maxHeartbeats 4000000 in
theorem q3l:qjQ.ok Tryz.prog:=q3H (by simp [qgj,qla,q3G,q5A,q5V]) fun Z hg hp=>by
 obtain ⟨hf,hA,hB,hr⟩:=hp
 simp (config:={ maxSteps:=4000000 }) [qtz,qjQ,qxY,qy8,qxX,qcd,qdG,qmg,qlK,qlS]
 have hA':=hA
 have hB':=hB
 obtain ⟨⟨a1,a2,a3,a4,a5,a6,a7,a8⟩,a9⟩:=hA'
 rw [hr] at hB
 have hB2:=hB
 obtain ⟨⟨d1,d2,d3,d4,d5,d6,d7,d8⟩,d9⟩:=hB2
 rw [hr]
 refine ⟨qcn.start hf hA hB,fun rk _ c _ f _ da _ db _ hO=>⟨fun hc=>⟨fun hrk=>⟨qeh.start hO hrk hc,?_⟩,fun hrk=>?_⟩,fun hc=>?_⟩⟩
 rotate_left
 ·have hfin:=qcn.fin hO (.inl hrk)
  obtain ⟨⟨h1,h2,h3,h4,h5,h6,h7⟩,he⟩:=hO
  exact ⟨h1,h2,h3,h4,h5,hfin⟩
 ·have hfin:=qcn.fin hO (.inr hc)
  obtain ⟨⟨h1,h2,h3,h4,h5,h6,h7⟩,he⟩:=hO
  exact ⟨h1,h2,h3,h4,h5,hfin⟩
 intro rk _ c' _ f _ da _ db _ p _ hP hcc
 have hP':=hP
 obtain ⟨⟨⟨hfd,hAd,hBd,w1,w2,w3,w4⟩,hE⟩,hrk,hcc',hp0,hp1,hpv⟩:=hP
 have hlA:=hAd.2
 refine ⟨fun hp=>?_,fun hp=>⟨fun he=>?_,fun hne=>by omega⟩⟩
 ·obtain ⟨x0,x1,x2,x3⟩:=idx (i:=p.i) a2 a4 (by omega) hp w3 hcc'
  rw [x0,add64 (x:=p.i) (by omega) (by omega)]
  refine ⟨x1,by omega,by omega,fun hz=>⟨⟨qeh.next hP' hp hz,hcc⟩,by omega⟩,fun hz=>⟨fun he=>by omega,fun _=>⟨fun hpr=>?_,fun hpr=>?_⟩⟩⟩
  ·refine ⟨⟨w1,hrk,hAd.1⟩,fun o1 _ n1 _ k1 _ ho1 hn1 hk1=>⟨⟨by omega,hp,hAd.1⟩,fun o2 _ n2 _ k2 _ ho2 hn2 hk2=>⟨⟨hfd,qK.seg hAd w1 hrk ho1 hn1,qK.seg hAd (by omega) hp ho2 hn2,by omega,by rw [ho1,hn1,ho2,hn2]; exact qjB (fun h=>hpr h.symm) a3,hAd.1.2.2.2.2.2.2.2⟩,fun f1 _ da1 _ hf1 hl1 hb1 hA1=>⟨⟨w1,hrk,hBd.1⟩,fun o3 _ n3 _ k3 _ ho3 hn3 hk3=>⟨⟨by omega,hp,hBd.1⟩,fun o4 _ n4 _ k4 _ ho4 hn4 hk4=>⟨⟨hf1,qK.seg hBd w1 hrk ho3 hn3,qK.seg hBd (by omega) hp ho4 hn4,by omega,by rw [ho3,hn3,ho4,hn4]; exact qjB (fun h=>hpr h.symm) d3,hBd.1.2.2.2.2.2.2.2⟩,fun f2 _ db1 _ hf2 hl2 hb2 hB1=>?_⟩⟩⟩⟩⟩⟩
   have hsw:(bI da1.d,bI db1.d) = qb5 (Z 3).i.toNat (Z 10).i.toNat rk.i.toNat p.i.toNat (bI da.d) (bI db.d):=by
    rw [q5u (by omega),hA1,hB1,ho1,ho2,ho3,ho4,hn2,hn4,(qff (n:=(Z 3).i) w1 hrk a3).2.2,(qff (n:=(Z 3).i) (by omega) hp a3).2.2,(qff (n:=(Z 10).i) w1 hrk d3).2.2,(qff (n:=(Z 10).i) (by omega) hp d3).2.2]
   have fA1:qK (Z 2).i (Z 3).i (Z 5).i (Z 6).i da1.d:=qK.next hAd hl1 hb1
   have fB1:qK (Z 2).i (Z 10).i (Z 12).i (Z 13).i db1.d:=qK.next hBd hl2 hb2
   obtain ⟨y0,y1,y2,y3⟩:=idx (i:=rk.i) a2 a4 w1 hrk w3 hcc'
   rw [y0]
   have hcell:=qbM fA1.1.2.2.2.2.2.2.2 (i:=rk.i * (Z 3).i + c'.i) y1 (by have:=fA1.2; omega)
   have hlA:=fA1.2
   refine ⟨y1,by omega,by omega,⟨hf2,hcell⟩,fun x _ er _ f3 _ hf3 hx _=>⟨⟨w1,hrk,fA1.1⟩,fun o5 _ n5 _ k5 _ ho5 hn5 hk5=>⟨⟨hf3,qK.seg fA1 w1 hrk ho5 hn5,fA1.1.2.2.2.2.2.2.2,by rw [hx]; exact (qcj hcell.1 hcell.2).1,by rw [hx]; exact (qcj hcell.1 hcell.2).2⟩,fun f4 _ da2 _ hf4 hl4 hb4 hA4=>⟨⟨w1,hrk,fB1.1⟩,fun o6 _ n6 _ k6 _ ho6 hn6 hk6=>⟨⟨hf4,qK.seg fB1 w1 hrk ho6 hn6,fB1.1.2.2.2.2.2.2.2,by rw [hx]; exact (qcj hcell.1 hcell.2).1,by rw [hx]; exact (qcj hcell.1 hcell.2).2⟩,fun f5 _ db2 _ hf5 hl5 hb5 hB5=>⟨⟨qc8.start hP' hp hz hsw hl1 hl2 hx hA4 hB5 ho5 hn5 ho6 hn6 hl4 hl5 hb4 hb5 hf5,hcc⟩,?_⟩⟩⟩⟩⟩⟩
   intro rk2 _ c2 _ f6 _ da3 _ db3 _ i _ hQ hc2
   refine ⟨fun hi=>?_,fun hi=>?_⟩
   ·have hQ':=hQ
    obtain ⟨⟨hfq,hAq,hBq,v1,v2,v3,v4⟩,q1,q2,q3,q4,_⟩:=hQ'
    have hlq:=hAq.2
    obtain ⟨z0,z1,z2,z3⟩:=idx (i:=i.i) a2 a4 q3 hi v3 q2
    rw [z0,add64 (by omega) (by omega)]
    have hcq:=qbM hAq.1.2.2.2.2.2.2.2 (i:=i.i * (Z 3).i + c2.i) z1 (by omega)
    refine ⟨z1,by omega,by omega,fun hne=>⟨⟨q3,hi,hAq.1⟩,fun r1 _ r2 _ r3 _ hr1 hr2 hr3=>⟨⟨v1,q1,hAq.1⟩,fun t1 _ t2 _ t3 _ ht1 ht2 ht3=>⟨⟨hfq,qK.seg hAq q3 hi hr1 hr2,qK.seg hAq v1 q1 ht1 ht2,by omega,by rw [hr1,hr2,ht1,ht2]; exact qjB hne a3,hAq.1.2.2.2.2.2.2.2,hcq⟩,fun f7 _ da4 _ hf7 hl7 hb7 hA7=>⟨⟨q3,hi,hBq.1⟩,fun r4 _ r5 _ r6 _ hr4 hr5 hr6=>⟨⟨v1,q1,hBq.1⟩,fun t4 _ t5 _ t6 _ ht4 ht5 ht6=>⟨⟨hf7,qK.seg hBq q3 hi hr4 hr5,qK.seg hBq v1 q1 ht4 ht5,by omega,by rw [hr4,hr5,ht4,ht5]; exact qjB hne d3,hBq.1.2.2.2.2.2.2.2,hcq⟩,fun f8 _ db4 _ hf8 hl8 hb8 hB8=>⟨⟨qc8.next hQ hi hne hA7 hB8 hr1 ht1 ht2 hr4 ht4 ht5 hl7 hl8 hb7 hb8 hf8,hc2⟩,by omega⟩⟩⟩⟩⟩⟩⟩,fun hieq=>⟨⟨qc8.same hQ hi hieq,hc2⟩,by omega⟩⟩
   ·have hQ':=hQ
    obtain ⟨⟨hfq,hAq,hBq,v1,v2,v3,v4⟩,q1,q2,q3,q4,_⟩:=hQ'
    rw [add64 (by omega) (by omega),add64 (by omega) (by omega)]
    exact ⟨qcn.after hQ (by omega),by omega⟩
  ·have hsw:(bI da.d,bI db.d) = qb5 (Z 3).i.toNat (Z 10).i.toNat rk.i.toNat p.i.toNat (bI da.d) (bI db.d):=by
    rw [qb5,jah (by omega)]
   have fA1:qK (Z 2).i (Z 3).i (Z 5).i (Z 6).i da.d:=hAd
   have fB1:qK (Z 2).i (Z 10).i (Z 12).i (Z 13).i db.d:=hBd
   obtain ⟨y0,y1,y2,y3⟩:=idx (i:=rk.i) a2 a4 w1 hrk w3 hcc'
   rw [y0]
   have hcell:=qbM fA1.1.2.2.2.2.2.2.2 (i:=rk.i * (Z 3).i + c'.i) y1 (by have:=fA1.2; omega)
   have hlA:=fA1.2
   refine ⟨y1,by omega,by omega,⟨hfd,hcell⟩,fun x _ er _ f3 _ hf3 hx _=>⟨⟨w1,hrk,fA1.1⟩,fun o5 _ n5 _ k5 _ ho5 hn5 hk5=>⟨⟨hf3,qK.seg fA1 w1 hrk ho5 hn5,fA1.1.2.2.2.2.2.2.2,by rw [hx]; exact (qcj hcell.1 hcell.2).1,by rw [hx]; exact (qcj hcell.1 hcell.2).2⟩,fun f4 _ da2 _ hf4 hl4 hb4 hA4=>⟨⟨w1,hrk,fB1.1⟩,fun o6 _ n6 _ k6 _ ho6 hn6 hk6=>⟨⟨hf4,qK.seg fB1 w1 hrk ho6 hn6,fB1.1.2.2.2.2.2.2.2,by rw [hx]; exact (qcj hcell.1 hcell.2).1,by rw [hx]; exact (qcj hcell.1 hcell.2).2⟩,fun f5 _ db2 _ hf5 hl5 hb5 hB5=>⟨⟨qc8.start hP' hp hz hsw rfl rfl hx hA4 hB5 ho5 hn5 ho6 hn6 hl4 hl5 hb4 hb5 hf5,hcc⟩,?_⟩⟩⟩⟩⟩⟩
   intro rk2 _ c2 _ f6 _ da3 _ db3 _ i _ hQ hc2
   refine ⟨fun hi=>?_,fun hi=>?_⟩
   ·have hQ':=hQ
    obtain ⟨⟨hfq,hAq,hBq,v1,v2,v3,v4⟩,q1,q2,q3,q4,_⟩:=hQ'
    have hlq:=hAq.2
    obtain ⟨z0,z1,z2,z3⟩:=idx (i:=i.i) a2 a4 q3 hi v3 q2
    rw [z0,add64 (by omega) (by omega)]
    have hcq:=qbM hAq.1.2.2.2.2.2.2.2 (i:=i.i * (Z 3).i + c2.i) z1 (by omega)
    refine ⟨z1,by omega,by omega,fun hne=>⟨⟨q3,hi,hAq.1⟩,fun r1 _ r2 _ r3 _ hr1 hr2 hr3=>⟨⟨v1,q1,hAq.1⟩,fun t1 _ t2 _ t3 _ ht1 ht2 ht3=>⟨⟨hfq,qK.seg hAq q3 hi hr1 hr2,qK.seg hAq v1 q1 ht1 ht2,by omega,by rw [hr1,hr2,ht1,ht2]; exact qjB hne a3,hAq.1.2.2.2.2.2.2.2,hcq⟩,fun f7 _ da4 _ hf7 hl7 hb7 hA7=>⟨⟨q3,hi,hBq.1⟩,fun r4 _ r5 _ r6 _ hr4 hr5 hr6=>⟨⟨v1,q1,hBq.1⟩,fun t4 _ t5 _ t6 _ ht4 ht5 ht6=>⟨⟨hf7,qK.seg hBq q3 hi hr4 hr5,qK.seg hBq v1 q1 ht4 ht5,by omega,by rw [hr4,hr5,ht4,ht5]; exact qjB hne d3,hBq.1.2.2.2.2.2.2.2,hcq⟩,fun f8 _ db4 _ hf8 hl8 hb8 hB8=>⟨⟨qc8.next hQ hi hne hA7 hB8 hr1 ht1 ht2 hr4 ht4 ht5 hl7 hl8 hb7 hb8 hf8,hc2⟩,by omega⟩⟩⟩⟩⟩⟩⟩,fun hieq=>⟨⟨qc8.same hQ hi hieq,hc2⟩,by omega⟩⟩
   ·have hQ':=hQ
    obtain ⟨⟨hfq,hAq,hBq,v1,v2,v3,v4⟩,q1,q2,q3,q4,_⟩:=hQ'
    rw [add64 (by omega) (by omega),add64 (by omega) (by omega)]
    exact ⟨qcn.after hQ (by omega),by omega⟩
 ·rw [add64 (by omega) (by omega)]
  exact ⟨qcn.skip hP' he,by omega⟩
theorem q34:qqS.ok Tryz.prog:=Ctr.ok_less q0x rfl rfl rfl rfl rfl (fun _ _=>trivial) fun Z Z' ai al hp hag hal hpost=>by
 match ai,hal with
 | 0,hal =>
  exfalso
  obtain rfl:=jaz hal
  have h2:((Z'.upto 1) 0).i < 1∨255 < ((Z'.upto 1) 0).i:=hpost
  have e:(Z'.upto 1) 0 = Z 0:=by rw [Env.upto,jah (by omega)]; exact hag 0 (by decide)
  rw [e] at h2
  have h3:1 <= (Z 0).i/\(Z 0).i <= 255:=hp
  omega
 | 1,hal=>exact ⟨0,hal⟩
 | n + 2,hal=>cases hal
theorem q04:qnX.ok Tryz.prog:=Ctr.ok_less qxN rfl rfl rfl rfl rfl (fun _ h=>h.1) fun Z Z' ai al hp hag hal hpost=>by
 match ai,hal with
 | 0,hal =>
  exfalso
  obtain rfl:=jaz hal
  have h2:qcw ((Z'.upto 5) 2).i ((Z'.upto 5) 3).i:=hpost.2
  have e2:(Z'.upto 5) 2 = Z 2:=by rw [Env.upto,jah (by omega)]; exact hag 2 (by decide)
  have e3:(Z'.upto 5) 3 = Z 3:=by rw [Env.upto,jah (by omega)]; exact hag 3 (by decide)
  rw [e2,e3] at h2
  exact hp.2 h2
 | 1,hal=>exact ⟨0,hal⟩
 | n + 2,hal=>cases hal
theorem q2i:qro.ok Tryz.prog:=by
 refine ⟨qph.1,fun Z w hF hO hg hd hsub hst hro hpre=>(qph.2 Z w hF hO hg hd hsub hst hro hpre).mono fun e w' hq=>?_⟩
 obtain ⟨ai,al,Z',hal,hg',hag,he,hpost,hheap⟩:=hq
 match ai,hal with
 | 0,hal =>
  obtain rfl:=jaz hal
  refine ⟨0,_,Z',rfl,hg',hag,he,⟨hpost,?_⟩,hheap⟩
  obtain ⟨hO',hd',⟨h1,h2,hdj,hu,hden,_⟩,hsub',hwi'⟩:=hheap
  show (((Z'.upto 10) 9).d.length:Int) <= ((Z'.upto 10) 8).i
  rw [show (Z'.upto 10) 9 = Z' 9 from rfl,show (Z'.upto 10) 8 = Z' 8 from rfl]
  rcases hden with ⟨_,hn,hc⟩ | ⟨b,c,g1,g2,g3,g4,g5⟩
  ·have hn:(Z' 9).d = []:=hn
   have hc:(Z' 8).i = 0:=hc
   rw [hn,hc]; simp
  ·exact g4
 | n + 1,hal=>cases hal
theorem qrN {d:qd} {n:Nat} (h:qp d):qp (d.take n):=fun r hr=>h r (jbv hr)
theorem qmT {d:qd} {n:Nat}:bI (d.take n) = (bI d).take n:=by simp [bI,jcu]
theorem qlG:qbA.ok Tryz.prog:=qvY (by simp [qkm,q34,q2i,q3l]) fun Z hg hp=>by
 obtain ⟨hf,l0,l1,l2,hB⟩:=hp
 have hne:=(qbB hf).1
 simp [qnv,qbA,qdd,qqS,qgk,qro,qhQ,qjQ]
 refine ⟨fun h=>(hne h).elim,fun _=>⟨l0,fun v _ hv=>⟨fun hb=>⟨hf,fun h=>?_⟩,fun hb=>⟨fun h=>⟨hf,hv.1 hb,h⟩,fun hrc=>?_⟩⟩⟩⟩
 ·have:=hv.2 h
  rw [hb] at this; cases this
 obtain ⟨r1,r2,c1,c2,hl⟩:=hv.1 hb
 have vA:qaB (Z 2).i (Z 3).i (Z 5).i:=hv.1 hb
 have hbd:=qI (x:=(Z 2).i) (y:=(Z 3).i) (by omega) r2 (by omega) c2
 refine ⟨⟨r1,r2⟩,fun l _ cp _ d _ _ _ hM hL hI=>⟨⟨l0,l2,by unfold Go.Eng.big; omega⟩,fun cc _ dd _ hdd hcap=>?_⟩⟩
 have hlen:dd.d.length = (Z 5).i.toNat:=by rw [hdd,jba]; omega
 refine ⟨⟨hf,⟨⟨by omega,r2,by omega,c2,hl,by omega,by omega,by rw [hdd]; exact qrN hB⟩,by omega⟩,hM,hL⟩,fun rk _ f2 _ d2 _ b2 _ hf2 hA2 hB2 k0 k1 he=>?_⟩
 have hE:qbQ (Z 2).i.toNat (Z 3).i.toNat (Z 2).i.toNat (bI dd.d) (bI d.d) (Z 3).i.toNat = qdM ((bI (Z 7).d).take (Z 5).i.toNat) (Z 2).i.toNat:=by
  rw [qdM,hdd,qmT,hI,hrc]
 rw [hE] at he
 rw [<- he]
 exact ⟨fun h=>⟨hf2,vA,hrc,by simp only; omega⟩,fun h=>⟨hf2,vA,hrc,hB2,by simp only; omega,rfl⟩⟩
theorem qbq {k t:Int}:qN k t = true↔1 <= k/\k <= t/\t <= 255:=by simp [qN,and_assoc]
theorem qvt:qfk.ok Tryz.prog:=q57 (by simp [qhh,q04,qlG,q2N]) fun Z hg hp=>by
 have hf:qk (Z 1).d:=hp
 have hne:=(qbB hf).1
 simp [qyz,qfk,qcb,qnX,qeY,qbA,qjD]
 intro u0 _
 refine ⟨fun h=>(hne h).elim,fun _ u1 _ hs=>⟨fun hb=>⟨hf,fun h=>?_⟩,fun hb=>?_⟩⟩
 ·rw [h] at hs; rw [hb] at hs; cases hs
 have hsz:qN (Z 2).i (Z 3).i = true:=by rw [<- hs]; exact hb
 obtain ⟨k1,k2,k3⟩:=qbq.1 hsz
 have hvb:¬ qcw (Z 3).i (Z 2).i:=by unfold qcw; omega
 have hkk:=qI (x:=(Z 2).i) (y:=(Z 2).i) (by omega) (show (Z 2).i <= 255 by omega) (by omega) (show (Z 2).i <= 255 by omega)
 have hlek:(Z 2).i * (Z 2).i <= (Z 3).i * (Z 2).i:=ja2 k2 (by omega)
 refine ⟨⟨hf,hvb⟩,fun u2 _ l _ cp _ f1 _ d _ hf1 _ hM hL hV u7 _ hcap=>?_⟩
 obtain ⟨a1,a2,a3,a4,a5,a6,a7,a8⟩:=hM
 have vV:qaB (Z 3).i (Z 2).i l.i:=⟨by omega,by omega,by omega,by omega,a5⟩
 rw [qcx (by omega) (by omega)]
 have hkn:((Z 2).i * (Z 2).i).toNat = (Z 2).i.toNat * (Z 2).i.toNat:=jb0 (by omega) (by omega)
 have hTop:qdM ((bI d.d).take ((Z 2).i * (Z 2).i).toNat) (Z 2).i.toNat = qbN (Z 2).i.toNat (Z 3).i.toNat:=by rw [qbN,hV,hkn]
 rw [hTop]
 have vT:qaB (Z 2).i (Z 2).i ((Z 2).i * (Z 2).i):=⟨by omega,by omega,by omega,by omega,rfl⟩
 have hno:¬ qaB 0 0 0:=by unfold qaB; omega
 refine ⟨by omega,by omega,hkk.1,by omega,fun u8 _=>⟨⟨hf1,hkk.1,by omega,by omega,a8⟩,fun e _ f2 _ hf2 hor u11 _=>⟨⟨hf2,by omega,by omega,by omega,a8,fun r hr=>by cases hr⟩,fun f3 _ hf3 _=>⟨hf3,fun _=>?_⟩,fun _ _ _ _ h=>(hno h).elim,?_⟩,?_⟩⟩
 ·rcases hor with ⟨h,_⟩ | ⟨_,h,_⟩
  ·exact (h vT).elim
  ·exact h
 ·intro _ _ _ _ _ _ _ _ _ _ _ _ h
  exact (hno h).elim
 ·intro u9 _ li _ ci _ f4 _ di _ hf4 _ hMi hrk hInv u14 _
  obtain ⟨⟨b1,b2,b3,b4,b5,b6,b7,b8⟩,b9⟩:=hMi
  have vI:qaB (Z 2).i (Z 2).i li.i:=⟨by omega,by omega,by omega,by omega,b5⟩
  refine ⟨⟨hf4,by omega,by omega,by omega,a8,by omega,b6,by omega,b8⟩,fun f5 _ hf5 h=>(h vV vI).elim,?_⟩
  intro u15 _ lp _ cq _ f6 _ dp _ hf6 _ _ hMp hLp hP u20 _ _
  refine ⟨hf6,hsz,⟨hMp,hLp⟩,hrk,?_⟩
  rw [hP,hInv,qbm,hV,jar (by rw [qbu,qoU,a5,jb0 (by omega) (by omega)]; exact ja4 _),jar (by rw [<- hInv,bI_len]; omega)]
@[simp] def qmf:Sg:=sg 0 [bv 13 45,bv 12 55,bv 7 59,bv 6 60,bv 1 50,bt 14 (.icell (tv 54) (.plus (tv 61) (tv 64)) 0),bt 11 (.minus (tv 45) (.arith .mul .i64 (tv 64) (tv 42))),bt 10 (.minus (.arith .mul .i64 (.arith .add .i64 (tv 64) (tl 1)) (tv 42)) (.arith .mul .i64 (tv 64) (tv 42))),bt 9 (.ife (tv 45) (.arith .mul .i64 (tv 64) (tv 42)) (tl 0) (.arith .mul .i64 (tv 64) (tv 42))),bg 8 43,bv 5 59,bv 4 42,bt 3 (tl 0),bg 2 58,bg 0 0]
def qpw:Out:=(.br (.and (.cmp .eql (.dlen (tv 1)) (tl 0)) (.isnil 0))
 (.ret 0 (sg 9 [bv 10 1,bt 9 (tl 1)]))
 (.pre 0 (sg 0 [bv 1 3,bv 0 2]) (.both (.fresh 9 (.post 0 0 (sg 0 [bv 1 3,bv 0 2]) 9 (.br (.not (tv 9))
 (.ret 0 (sg 9 [bv 10 1,bt 9 (tl 2)]))
 (.need (.cmp .leq (tl 0) (tv 5)) (.br (.cmp .gtr (tv 5) (tl 8192))
 (.ret 0 (sg 9 [bv 10 1,bt 9 (tl 3)]))
 (.pre 1 (sg 0 [bv 1 5,bv 0 2]) (.both (fr 10 2 (.post 1 0 (sg 0 [bv 1 5,bv 0 2]) 10 (.need (.cmp .leq (tl 0) (.arith .mul .i64 (tv 2) (tv 10))) (.need (.cmp .leq (.tims (tl 1) (.arith .mul .i64 (tv 2) (tv 10))) (tl 281474976710656)) (.fresh 12 (.need (.cmp .leq (.arith .mul .i64 (tv 2) (tv 10)) (.dlen (.drep (.arith .mul .i64 (tv 2) (tv 10)) (.rcons (.vint .u8 (tl 0)) .rnil)))) (.need (.cmp .leq (tv 5) (.dlen (tv 7))) (.fresh 13 (.pre 2 (sg 0 [bv 1 1,bv 3 3,bv 2 2,bg 0 0]) (.both (fr 14 6 (.post 2 0 (sg 0 [bv 1 1,bv 3 3,bv 2 2,bg 0 0]) 14 (.fresh 20 (.need (.cmp .leq (tl 0) (tv 3)) (.need (.cmp .leq (.tims (tl 32) (tv 3)) (tl 281474976710656)) (.fresh 21 (.inv 0 22 (sg 1000 [bg 1015 19,bt 1014 (.drep (tv 3) (.rcons (.vint .i64 (tl 0)) (.rcons .vnils .rnil))),bt 1013 (.c3 .dsplice (.drep (.arith .mul .i64 (tv 2) (tv 10)) (.rcons (.vint .u8 (tl 0)) .rnil)) (tl 0) (.dtake (.dtake (tv 7) (tv 5)) (.imin (.arith .mul .i64 (tv 2) (tv 10)) (tv 5)))),bv 1012 18,bv 1011 16,bv 1010 15,bg 1009 14,bv 1008 17,bt 1007 (tl 0),bv 1006 3,bg 1005 21,bg 1004 20,bt 1003 (.arith .mul .i64 (tv 2) (tv 10)),bt 1002 (.arith .mul .i64 (tv 2) (tv 10)),bg 1001 12,bv 1000 10]) (fr 22 16 (.hyp 0 22 (.br (.cmp .lss (tv 29) (tv 3))
 (.need (.cmp .leq (tl 0) (tv 22)) (.need (.cmp .leq (.tims (tl 1) (tv 22)) (tl 281474976710656)) (.fresh 38 (.pre 3 (sg 0 [bv 6 33,bv 5 34,bv 7 29,bv 4 33,bv 3 32,bg 2 31,bv 1 2,bv 0 3]) (.both (fr 39 3 (.post 3 0 (sg 0 [bv 6 33,bv 5 34,bv 7 29,bv 4 33,bv 3 32,bg 2 31,bv 1 2,bv 0 3]) 39 (.need (.cmp .leq (tl 0) (tv 40)) (.inv 1 42 (sg 1000 [bg 1015 37,bt 1018 (.drep (tv 22) (.rcons (.vint .u8 (tl 0)) .rnil)),bv 1014 36,bv 1013 35,bv 1012 34,bv 1011 33,bv 1010 32,bv 1008 30,bt 1022 (tl 0),bv 1021 41,bv 1020 40,bv 1019 39,bg 1009 31,bv 1017 22,bg 1016 38,bv 1007 29,bv 1006 28,bg 1005 27,bg 1004 26,bv 1003 25,bv 1002 24,bg 1001 23,bv 1000 22]) (fr 42 23 (.hyp 1 42 (.br (.cmp .lss (tv 64) (tv 62))
 (.need (.cmp .leq (tl 0) (tv 64)) (.need (.cmp .leq (tl 0) (tv 61)) (.need (.cmp .leq (tl 0) (.plus (tv 61) (tv 64))) (.need (.cmp .lss (.plus (tv 61) (tv 64)) (.dlen (tv 54))) (.know (.cmp .leq (.dlen (tv 55)) (tv 45)) (.need (.cmp .leq (tl 0) (tv 44)) (.need (.cmp .leq (tl 0) (tv 45)) (.need (.cmp .leq (tl 0) (.arith .mul .i64 (tv 64) (tv 42))) (.need (.cmp .leq (.arith .mul .i64 (tv 64) (tv 42)) (.arith .mul .i64 (.arith .add .i64 (tv 64) (tl 1)) (tv 42))) (.need (.cmp .leq (.arith .mul .i64 (.arith .add .i64 (tv 64) (tl 1)) (tv 42)) (tv 45)) (.pre 4 qmf (.both (fr 65 2 (.post 4 0 qmf 65 (.back 1 42 (sg 1000 [bg 1015 57,bv 1018 66,bv 1014 56,bv 1013 55,bv 1012 54,bv 1011 53,bv 1010 52,bv 1008 65,bt 1022 (.arith .add .i64 (tv 64) (tl 1)),bv 1021 63,bv 1020 62,bv 1019 61,bg 1009 51,bv 1017 59,bg 1016 58,bv 1007 49,bv 1006 48,bg 1005 47,bg 1004 46,bv 1003 45,bv 1002 44,bg 1001 43,bv 1000 42])))) .top))))))))))))
 (.need (.cmp .leq (tl 0) (tv 49)) (.need (.cmp .lss (tv 49) (tv 3)) (.need (.cmp .lss (tv 49) (.dlen (tv 56))) (.pack [.arr 58 5 [CK.int .u8] (tv 60) (tv 59),.abs 57 2] 65 (.back 0 22 (sg 1000 [bg 1015 65,bt 1014 (.dput (tv 56) (tv 49) 0 (.rcons (.vint .i64 (tv 49)) (.rcons (.vslice 58 (tl 0) (tv 42) (tv 59) 1) .rnil))),bv 1013 55,bv 1012 54,bv 1011 53,bv 1010 52,bg 1009 51,bv 1008 50,bt 1007 (.arith .add .i64 (tv 49) (tl 1)),bv 1006 48,bg 1005 47,bg 1004 46,bv 1003 45,bv 1002 44,bg 1001 43,bv 1000 42]))))))))))))) .top)))))
 (.pack [.cells 26 200 [(.vint .i64 (tv 3)),(.vint .i64 (tv 2)),(.vslice 31 (tl 0) (tv 32) (tv 33) 1)],.arr 31 5 [CK.int .u8] (tv 34) (tv 33),.arr 23 5 [CK.int .u8] (tv 35) (tv 25),.abs 37 2] 38 (.ret 1 (sg 9 [bg 13 38,bv 12 36,bv 11 30,bv 10 28,bg 9 27]))))))))))))) .top)))))))))) .top))))))) .top)))
theorem qxb:qn Tryz.prog qgL [qcb,qcY,q1p,qcd,qdG] [qrY,qsG] qpw:=qh Tryz.func87 Tryz.call87 (by kernel_rfl)
theorem q8k:q1p.ok Tryz.prog:=Ctr.ok_less qvt rfl rfl rfl rfl rfl (fun _ h=>h.1) fun Z Z' ai al hp hag hal hpost=>by
 match ai,hal with
 | 0,hal =>
  exfalso
  obtain rfl:=jaz hal
  obtain ⟨_,h2⟩:_/\(qN ((Z'.upto 5) 2).i ((Z'.upto 5) 3).i = true->(qbN ((Z'.upto 5) 2).i.toNat ((Z'.upto 5) 3).i.toNat).2.2 < ((Z'.upto 5) 2).i.toNat):=hpost
  have e2:(Z'.upto 5) 2 = Z 2:=by rw [Env.upto,jah (by omega)]; exact hag 2 (by decide)
  have e3:(Z'.upto 5) 3 = Z 3:=by rw [Env.upto,jah (by omega)]; exact hag 3 (by decide)
  rw [e2,e3] at h2
  obtain ⟨_,p2,p3⟩:=hp
  have:=h2 p2
  omega
 | 1,hal=>exact ⟨0,hal⟩
 | n + 2,hal=>cases hal
theorem qjj {k n:Nat} (hk:0 < k):n <= k * ql k n:=by
 unfold ql
 have h1:=jdd (n + k - 1) k
 have h2:=jd4 (n + k - 1) hk
 omega
theorem qnm {k n:Nat} (hk:0 < k):k * ql k n < n + k:=by
 unfold ql
 have h1:=jdd (n + k - 1) k
 omega
theorem qdt {k n:Nat} (hk:0 < k):ql k n <= n:=by
 have h:=qnm (n:=n) hk
 by_cases h2:ql k n <= n
 ·exact h2
 ·have h3:k * (n + 1) <= k * ql k n:=jej k (by omega)
  rw [Nat.mul_add,jfk] at h3
  have h4:n * 1 <= k * n:=by rw [jce k n]; exact jej n hk
  omega
theorem qli {k:Int} {n:Nat} (hk:1 <= k):((n:Int) + k - 1).tdiv k = (ql k.toNat n:Nat):=by
 rw [jeg (by omega),ql,Int.natCast_ediv]
 congr 1 <;> omega
theorem q25 {d x:qd} (h:x.length <= d.length):bI (qaK d 0 x) = bI x ++ (bI d).drop x.length:=by
 simp [qaK,bI,jds]
theorem qwU {d x:qd} (hd:qp d) (hx:qp x):qp (qaK d 0 x):=fun r hr=>by
 unfold qaK at hr
 rcases jat.1 hr with hr | hr
 ·rcases jat.1 hr with hr | hr
  ·simp at hr
  ·exact hx r hr
 ·exact hd r (jb4 hr)
theorem q1L {k total len lg cg:Int} {f dg data D:qd} (hf:qk f) (hs:qN k total = true) (h1:len <= 8192) (h2:len = data.length) (hB:qp data) (hM:qK total k lg cg dg) (hG:bI dg = qbm k.toNat total.toNat) (hD:D = List.replicate total.toNat [.int .i64 0,.slice none 0 0]) :
  qnW k total len (ql k.toNat data.length:Nat) (k * (ql k.toNat data.length:Nat)) (k * (ql k.toNat data.length:Nat)) lg cg 0 f dg (qaK (List.replicate (k * (ql k.toNat data.length:Nat)).toNat [.int .u8 0]) 0 data) D data:=by
 obtain ⟨k1,k2,k3⟩:=qbq.1 hs
 have hge:=qjj (k:=k.toNat) (n:=data.length) (by omega)
 have hle:=qdt (k:=k.toNat) (n:=data.length) (by omega)
 have hc:(k * (ql k.toNat data.length:Nat)).toNat = k.toNat * ql k.toNat data.length:=by rw [jb0 (by omega) (by omega)]; simp
 have hc0:0 <= k * (ql k.toNat data.length:Nat):=jfj (by omega) (by omega)
 refine ⟨hf,hs,h1,h2,hB,rfl,by omega,rfl,?_,qwU qcU hB,?_,hM,hG,by rw [hD,ja5],fun row hr=>by rw [hD] at hr; rw [jc1 hr]; rfl,by omega,by omega⟩
 ·rw [qg0 (by rw [ja5]; omega),ja5]; omega
 ·rw [q25 (by rw [ja5]; omega),qib,hc,qd1,bI_len,List.drop_replicate]; simp
theorem q2u {k total len l lf cf lg cg i:Int} {f dg df D data:qd} {v w:Value} (h:qnW k total len l lf cf lg cg i f dg df D data) (hi:i < total):qnW k total len l lf cf lg cg (i + 1) f dg df (qaV D i 0 [v,w]) data:=by
 obtain ⟨a1,a2,a3,a4,a5,a6,a7,a8,a9,a10,a11,a12,a13,a14,a17,a15,a16⟩:=h
 refine ⟨a1,a2,a3,a4,a5,a6,a7,a8,a9,a10,a11,a12,a13,by rw [qbY]; exact a14,fun row hr=>?_,by omega,by omega⟩
 unfold qaV at hr
 rcases jcz hr with hr | rfl
 ·exact a17 row hr
 ·have hl:i.toNat < D.length:=by omega
  have:=a17 _ (jbx hl)
  rw [jac hl,ja0,qlk (by rw [this]; simp),this]
theorem q9G {k total len l lf cf lg cg i:Int} {f f' dg df D data:qd} (h:qnW k total len l lf cf lg cg i f dg df D data) (hf:qk f'):qnW k total len l lf cf lg cg i f' dg df D data:=⟨hf,h.2⟩
theorem qf1 {h h':Hp} {D:qd} {n:Nat} {f:Nat->List Int} (he:qe9 h D n f) (hl:Hp.le h h'):qe9 h' D n f:=fun j hj=>by
 obtain ⟨v,d,e1,e2,e3⟩:=he j hj
 exact ⟨v,d,e1,qeU e2 hl,e3⟩
theorem q1z {h h':Hp} {D:qd} {i:Int} {f:Nat->List Int} {v:Value} {d:qd} (he:qe9 h D i.toNat f) (hl:Hp.le h h') (h0:0 <= i) (hi:i.toNat < D.length) (hc:(D[i.toNat]?.getD []).length = 2) (hr:Rd h' kB v d) (hd:bI d = f i.toNat) (hB:qp d) :
  qe9 h' (qaV D i 0 [.int .i64 i,v]) (i.toNat + 1) f:=fun j hj=>by
 by_cases hji:j = i.toNat
 ·subst hji
  refine ⟨v,d,?_,hr,hd,hB⟩
  have hs:qao (D[i.toNat]?.getD []) 0 [.int .i64 i,v] = [.int .i64 i,v]:=by
   simp only [qao,jfi,jdb]
   rw [jdk (by rw [hc]; exact ja4 _),jc4]
  rw [qaV,List.getElem?_set_self hi,hs,jay h0]
 ·obtain ⟨v',d',e1,e2,e3⟩:=he j (by omega)
  exact ⟨v',d',by rw [qaV,List.getElem?_set_ne (by omega)]; exact e1,qeU e2 hl,e3⟩
set_option maxRecDepth 20000 in
set_option pp.deepTerms true in
set_option pp.maxSteps 1000000 in
theorem qwV:qgL.ok Tryz.prog:=qxb (by simp [qhh,qkT,q8k,qgj,qla]) fun Z hg hp=>by
 obtain ⟨hf,hl,hB,hrk⟩:=hp
 have hne:=(qbB hf).1
 simp (config:={ maxSteps:=4000000 }) [qpw,qgL,qrY,qsG,qcb,qcY,q1p,qfk,qcd,qdG]
 refine ⟨fun h=>(hne h).elim,fun _ v _ hv=>⟨fun hb=>⟨hf,by rw [<- hv]; exact hb⟩,fun hb=>?_⟩⟩
 have hsz:qN (Z 2).i (Z 3).i = true:=by rw [<- hv]; exact hb
 obtain ⟨k1,k2,k3⟩:=qbq.1 hsz
 refine ⟨by omega,fun h=>⟨hf,hsz,h⟩,fun hle l _ e _ _ hpl=>?_⟩
 have hnb:¬ qcX (Z 2).i (Z 5).i:=by unfold qcX; omega
 obtain ⟨hpl1,_⟩:=hpl hnb
 rw [hl,qli k1] at hpl1
 have hge:=qjj (k:=(Z 2).i.toNat) (n:=(Z 7).d.length) (by omega)
 have hlt:=qnm (k:=(Z 2).i.toNat) (n:=(Z 7).d.length) (by omega)
 have hkl:(Z 2).i * l.i = (((Z 2).i.toNat * ql (Z 2).i.toNat (Z 7).d.length:Nat):Int):=by rw [hpl1,jd0,jay (by omega)]
 rw [qcx (by omega) (by omega)]
 have hmax:max ((Z 2).i * l.i) 0 = (Z 2).i * l.i:=by omega
 refine ⟨by omega,by omega,fun u3 _=>⟨by omega,by omega,fun u4 _=>⟨⟨hf,hsz,hrk hsz⟩,fun u5 _ lg _ cg _ f1 _ dg _ ab _ hf1 _ hM _ hG u11 _=>⟨by omega,by omega,fun u12 _=>⟨⟨?_,fun j hj=>by omega⟩,?_⟩⟩⟩⟩⟩
 ·have htake:(((Z 7).d.take (Z 5).i.toNat).take (if (Z 5).i < (Z 2).i * l.i then (Z 5).i else (Z 2).i * l.i).toNat) = (Z 7).d:=by
   rw [jar (l:=(Z 7).d) (by omega),jar (by split <;> omega)]
  rw [htake,hpl1]
  exact q1L hf1 hsz hle hl hB hM hG rfl
 intro l2 _ u14 _ lf _ cf _ u17 _ u18 _ u19 _ i _ f2 _ u22 _ lg2 _ cg2 _ dg2 _ df2 _ D2 _ ab2 _ hW hE
 refine ⟨fun hi=>?_,fun hi u29 _ hst=>?_⟩
 ·have hW':=hW
  obtain ⟨a1,a2,a3,a4,a5,a6,a7,a8,a9,a10,a11,a12,a13,a14,a17,a15,a16⟩:=hW'
  refine ⟨by omega,by omega,fun u29 _=>⟨⟨a15,hi,a12.1⟩,fun o _ n _ c _ ho hn hc=>⟨by omega,⟨hW,hE,hi,ho,hn,by omega,qcU,?_⟩,?_⟩⟩⟩
  ·rw [qib]; rfl
  intro l3 _ u34 _ lf3 _ cf3 _ u37 _ u38 _ u39 _ i3 _ f3 _ u42 _ lg3 _ cg3 _ dg3 _ df3 _ D3 _ ab3 _ rp _ cp _ pd _ o3 _ n3 _ c3 _ j _ hW3 hE3 hii hi3 ho3 hn3 j0 j1 hpl hpB hp3
  have hW3':=hW3
  obtain ⟨b1,b2,b3,b4,b5,b6,b7,b8,b9,b10,b11,b12,b13,b14,b17,b15,b16⟩:=hW3'
  obtain ⟨⟨m1,m2,m3,m4,m5,m6,m7,m8⟩,m9⟩:=b12
  have hl0:0 <= l3.i:=by omega
  refine ⟨fun hj=>?_,fun hj=>?_⟩
  ·have hjk:j.i < (Z 2).i:=by omega
   have hbo:=qI (x:=i3.i) (y:=(Z 2).i) b15 (show i3.i <= 255 by omega) (by omega) (show (Z 2).i <= 255 by omega)
   have hbj:=qI (x:=j.i) (y:=l3.i) j0 (show j.i <= 255 by omega) hl0 b7
   have hltG:i3.i * (Z 2).i + j.i < (Z 3).i * (Z 2).i:=by
    have:=ja2 (show i3.i + 1 <= (Z 3).i by omega) (show 0 <= (Z 2).i by omega)
    rw [jcc,jcd] at this; omega
   have he:(j.i + 1) * l3.i = j.i * l3.i + l3.i:=by rw [jcc,jcd]
   have hltF:j.i * l3.i + l3.i <= (Z 2).i * l3.i:=by
    have:=ja2 (show j.i + 1 <= (Z 2).i by omega) hl0
    omega
   have hcell:=qbM m8 (i:=o3.i + j.i) (by omega) (by omega)
   rw [add64 (by omega) (by omega),qcx (by omega) (by omega),qcx (by omega) (by omega),he]
   refine ⟨j0,by omega,by omega,by omega,fun hcap=>⟨by omega,by omega,hbj.1,by omega,by omega,⟨b1,⟨by omega,hl0,by omega,by unfold Go.Eng.big; omega⟩,⟨by split <;> omega,by omega,by split <;> omega,by unfold Go.Eng.big; omega⟩,by omega,hpB,b10,hcell⟩,fun f4 _ d4 _ hf4 hl4 hB4 he4=>?_⟩⟩
   refine ⟨⟨q9G hW3 hf4,hE3,hii,hi3,ho3,hn3,by omega,by omega,by omega,hB4,?_⟩,by omega⟩
   have hsg:seg (bI df3.d) (if cf3.i = j.i * l3.i then 0 else j.i * l3.i).toNat (j.i * l3.i + l3.i - j.i * l3.i).toNat = seg (bI df3.d) (j.i.toNat * l3.i.toNat) l3.i.toNat:=by
    rw [show j.i * l3.i + l3.i - j.i * l3.i = l3.i by omega]
    split
    ·have:l3.i.toNat = 0:=by omega
     rw [this]; simp [seg]
    ·rw [jb0 j0 hl0]
   have hgd:(bI dg3.d).getD (i3.i.toNat * (Z 2).i.toNat + j.i.toNat) 0 = qb dg3.d (o3.i + j.i) 0:=by
    have:=qf5 (d:=dg3.d) (i:=o3.i + j.i) (by omega) (by omega)
    rw [show (o3.i + j.i).toNat = i3.i.toNat * (Z 2).i.toNat + j.i.toNat by rw [ho3,jdz hbo.1 j0,jb0 b15 (by omega)]] at this
    rw [jab,this]; rfl
   rw [he4,hp3,hsg,show (j.i + 1).toNat = j.i.toNat + 1 by omega,qbG,hgd]
  ·have hjk:j.i = (Z 2).i:=by omega
   refine ⟨b15,hi3,by omega,fun u56 _ hst=>?_⟩
   rw [add64 (by omega) (by omega)]
   refine ⟨⟨q2u hW3 hi3,?_⟩,by omega⟩
   obtain ⟨ha,la,da⟩:=qhC hst (jae ..)
   obtain ⟨hb,lb,db⟩:=qbp hst (n:=57) (t:=2) (by simp)
   have hr:=quR (n:=l3.i.toNat) (k:=cp.i.toNat) da la (by simp; omega) (by simp)
   have hr:Rd u56.h kB (.slice (qm rp.r 0) l3.i.toNat cp.i.toNat) pd.d:=by simpa [kB] using hr
   have hdl:i3.i.toNat < D3.d.length:=by omega
   rw [show (i3.i + 1).toNat = i3.i.toNat + 1 by omega]
   refine q1z hE3 (Hp.le_trans (by simpa using db) lb) b15 hdl (by rw [jac hdl]; exact b17 _ (jbx hdl)) hr ?_ hpB
   rw [hp3,qag,hjk,b13,b11,bI_len]
   rw [show l3.i.toNat = ql (Z 2).i.toNat (Z 7).d.length by omega]
 ·obtain ⟨a1,a2,a3,a4,a5,a6,a7,a8,a9,a10,a11,a12,a13,a14,a17,a15,a16⟩:=hW
  obtain ⟨hb,lb,db⟩:=qbp hst (n:=37) (t:=2) (by simp)
  refine ⟨a1,hsz,hle,a14,?_⟩
  rw [show i.i.toNat = (Z 3).i.toNat by omega] at hE
  exact qf1 hE (Hp.le_trans (by simpa using db) lb)
theorem qs9:qfK.ok Tryz.prog:=q4a (by simp) fun Z hg hp=>by
 simp [qub,qfK]
 refine ⟨fun h1=>⟨fun h2=>⟨fun h3=>?_,fun h3=>?_⟩,fun h2=>?_⟩,fun h1=>?_⟩
 ·simp [qaP,h1,h2,h3,qH]
 ·simp [qaP]; omega
 ·simp [qaP]; omega
 ·simp [qaP]; omega
set_option maxRecDepth 20000 in
theorem qi9:qcI.ok Tryz.prog:=q2k (by simp [qs9]) fun Z hg hp=>by
 have hp:0 <= (Z 6).i:=hp
 simp [quh,qcI,qfK,qz,qia,qdN,qaT]
 refine fun u _ hu=>⟨fun h hs=>by (rw [hu,hs] at h; cases h),fun h=>⟨fun a _ b=>by omega,fun a=>⟨fun b _ _ c=>by omega,fun b=>⟨hp,fun c _ _ _=>c,fun c=>⟨by rw [<- hu,h],a,b,c⟩⟩⟩⟩⟩
theorem qBh {x:Int}:qe .shr .i64 x 8 = x.fdiv 256:=rfl
set_option maxRecDepth 20000 in
theorem qlf:qdg.ok Tryz.prog:=q08 (by simp [qpP,qvv,q2s]) fun Z hg hp=>by
 obtain ⟨o0,l0,lc,l1,hle,hB,hGr,hGd⟩:=hp
 simp (config:={ maxSteps:=2000000 }) [qsr,qdg,qeG,qii,qnU,gOk]
 have hseg:qbT [[.int .u8 (IntKind.u8.wrap (qe .shr .i64 (Z 0).i 8))],[.int .u8 (IntKind.u8.wrap (Z 0).i)]] 0 2 = qaS (Z 0).i:=by
  rw [qBh,qiU,qiU]; rfl
 refine fun h _ hh=>⟨⟨⟨[],hh,by decide⟩,?_,hGr,hGd⟩,fun g _ hg1=>?_⟩
 ·intro row hr
  simp at hr
  rcases hr with rfl | rfl
  ·simp [qbr,qaj,qiU]; omega
  ·simp [qbr,qaj,qiU]; omega
 ·rw [hseg] at hg1
  have h1:=hg1 [] hh
  refine ⟨⟨⟨_,h1,by simp [qaS]⟩,o0,l0,lc,by omega,hle,hB,hGr,hGd⟩,fun k _ hk=>⟨⟨⟨_,hk _ h1,?_⟩,hGr,hGd⟩,fun d _ hd=>?_⟩⟩
  ·have:(qbT (Z 5).d (Z 2).i (Z 3).i).length <= (Z 3).i.toNat:=by simp [qbT]; omega
   simp [qaS]; omega
  ·exact (show qf _ 32 = qf d.d 32 from rfl).trans (hd _ (hk _ h1))
theorem qeL {lim:Int} {b:Bool} {x m s:List Int} (h:(b,x) = qfm lim false m s) (hf:(m.length:Int) + s.length <= lim):b = false/\x = m ++ s:=by
 rw [qk9 (by simp [qgt]; omega)] at h
 simpa using h
theorem q9h {x:Int}:IntKind.u16.wrap x = x % 65536:=by simp [IntKind.wrap,IntKind.bits,IntKind.signed]
theorem q7C {d:qd} {i:Nat} (h:i < d.length):qf [qeo (qb d i)] 32 = qgQ d[i]:=by
 refine jbz fun j hj=>?_
 rw [qnC (jb8.1 hj)]
 simp [qb,qF,qbr,h]
theorem quJ {d:qd} {i:Nat} (h:i < d.length):((dgs d).take (i + 1)).flatten = ((dgs d).take i).flatten ++ qgQ d[i]:=by
 rw [jeu,jac (by simpa [dgs] using h)]
 simp [dgs]
set_option maxRecDepth 20000 in
set_option maxHeartbeats 800000 in
theorem q2K:qj4.ok Tryz.prog:=q3p (by simp [qi9,qva,qAK,qAg,q8m,q6v,q6k]) fun Z hg hp=>by
 obtain ⟨l0,hl,ho,hd⟩:=hp
 simp (config:={ maxSteps:=2000000 }) [qu4,qj4,qyQ,qcI,qfe,u8C,qui,qov,qpY,qmc,ql5,qbR,qe1,qgs]
 refine ⟨l0,fun e _ he=>⟨fun hne=>?_,fun hz lim _ hlim=>?_⟩⟩
 ·by_cases h:qz (Z 0).i (Z 1).i (Z 2).i (Z 3).i (Z 6).i = true
  ·rw [jah h] at he; exact absurd he hne
  ·rw [jaf h] at he; exact ⟨he.symm,by simpa using h⟩
 ·have hok:qz (Z 0).i (Z 1).i (Z 2).i (Z 3).i (Z 6).i = true:=by
   by_cases h:qz (Z 0).i (Z 1).i (Z 2).i (Z 3).i (Z 6).i = true
   ·exact h
   ·rw [jaf h] at he; omega
  have hb:=hok
  simp [qz,qaP] at hb
  obtain ⟨⟨b1,b2,b3,b4⟩,b5,b6,b7⟩:=hb
  have hl2:lim.i = 39 + 32 * (Z 2).i:=by
   rw [hlim,qcx (by omega) (by omega),add64 (by omega) (by omega)]; omega
  clear hlim
  simp only [qiU,q9h]
  have hman:List.drop 4 (qf [([.int .i64 (Z 0).i,.int .i64 (Z 1).i,.int .i64 (Z 2).i,.int .i64 (Z 3).i] ++ (qeo (qa (Z 4).d) ++ [.slice (qm (Z 5).r 0) (Z 6).i.toNat (Z 7).i.toNat]):List Value)] 36) = qf (Z 4).d 32:=rfl
  have hone:qap [([.int .i64 (Z 0).i,.int .i64 (Z 1).i,.int .i64 (Z 2).i,.int .i64 (Z 3).i] ++ (qeo (qa (Z 4).d) ++ [.slice (qm (Z 5).r 0) (Z 6).i.toNat (Z 7).i.toNat]):List Value)] 37:=⟨_,rfl,by simp [qeo]⟩
  have hlen:∀ {l n c:Int} {d:qd},wOk l n c d->n = ((bI d).length:Int):=fun h=>by rw [bI_len]; exact h.2.2.1
  refine ⟨⟨by omega,by omega,rfl,by omega,by intro r hr; cases hr⟩,fun f1 _ n1 _ c1 _ d1 _ w1 g1=>?_⟩
  obtain ⟨y1,x1⟩:=qeL g1 (by rw [hl2]; simp [bI,qaN]; omega)
  have L1:(bI d1.d).length = 2:=by rw [x1]; simp [bI,qaN]
  have q1:=hlen w1
  refine ⟨⟨w1,by omega,by omega,by omega⟩,fun f2 _ n2 _ c2 _ d2 _ w2 g2=>?_⟩
  rw [y1] at g2
  obtain ⟨y2,x2⟩:=qeL g2 (by rw [hl2,L1,qaN]; omega)
  have L2:(bI d2.d).length = 3:=by rw [x2,jal,L1,qaN]
  have q2:=hlen w2
  refine ⟨⟨w2,by omega,by omega,by omega⟩,fun f3 _ n3 _ c3 _ d3 _ w3 g3=>?_⟩
  rw [y2] at g3
  obtain ⟨y3,x3⟩:=qeL g3 (by rw [hl2,L2,qaN]; omega)
  have L3:(bI d3.d).length = 4:=by rw [x3,jal,L2,qaN]
  have q3:=hlen w3
  refine ⟨⟨w3,by omega,by omega,by omega⟩,fun f4 _ n4 _ c4 _ d4 _ w4 g4=>?_⟩
  rw [y3] at g4
  obtain ⟨y4,x4⟩:=qeL g4 (by rw [hl2,L3,qaN]; omega)
  have L4:(bI d4.d).length = 5:=by rw [x4,jal,L3,qaN]
  have q4:=hlen w4
  refine ⟨⟨w4,by omega,by omega,by omega⟩,fun f5 _ n5 _ c5 _ d5 _ w5 g5=>?_⟩
  rw [y4] at g5
  obtain ⟨y5,x5⟩:=qeL g5 (by rw [hl2,L4,qaN]; omega)
  have L5:(bI d5.d).length = 7:=by rw [x5,jal,L4,qaN]
  have q5:=hlen w5
  refine ⟨⟨w5,by omega,hone,?_⟩,fun f6 _ n6 _ c6 _ d6 _ w6 g6=>?_⟩
  ·have:=hman
   exact this ▸ ho
  have g6':(f6.b,bI d6.d) = qfm lim.i f5.b (bI d5.d) (qf (Z 4).d 32):=g6
  rw [y5] at g6'
  obtain ⟨y6,x6⟩:=qeL g6' (by rw [hl2,L5,qde]; omega)
  have hhead:bI d6.d = qaI (Z 0).i (Z 1).i (Z 2).i (Z 3).i (qf (Z 4).d 32):=by
   rw [x6,x5,x4,x3,x2,x1]
   simp [qaI,bI,jbs]
  refine ⟨l0,⟨hok,l0,hl2,y6,w6,hhead⟩,fun lim2 _ f _ n _ c _ d _ t _ _ t0 t1 z1 z2 z3 z4=>⟨fun hlt=>?_,fun hge=>?_⟩⟩
  ·obtain ⟨T,hT⟩:∃ T:Nat,t.i = T:=⟨t.i.toNat,by omega⟩
   have m1:qe .add .i64 t.i 1 = ((T + 1:Nat):Int):=by rw [add64 (by omega) (by omega)]; omega
   have hTl:T < (Z 8).d.length:=by omega
   have hrow:=q7C hTl
   have hnl:n.i = 39 + 32 * t.i:=by
    have h1:=hlen z3
    rw [z4,jal] at h1
    have h2:∀ (k:Nat),k <= (Z 8).d.length->((dgs (Z 8).d).take k).flatten.length = 32 * k:=fun k=>by
     induction k with
     | zero=>intro _; simp
     | succ k ih=>intro hk; rw [quJ (by omega),jal,ih (by omega)]; simp [qgQ]; omega
    rw [h2 _ (by omega)] at h1
    have h3:(qaI (Z 0).i (Z 1).i (Z 2).i (Z 3).i (qf (Z 4).d 32)).length = 39:=by simp [qaI,qaN,qde]
    omega
   rw [hT] at z4 hnl ⊢
   rw [<- hT,m1,hT]
   refine ⟨by omega,by omega,⟨z3,by omega,⟨_,rfl,rfl⟩,?_⟩,fun f7 _ n7 _ c7 _ d7 _ w7 g7=>?_⟩
   ·have h1:qU (qgQ (Z 8).d[T]):=(hd _ (jbx hTl)).2
    rw [<- hrow] at h1
    exact h1
   ·have g7':(f7.b,bI d7.d) = qfm lim2.i f.b (bI d.d) (qf [qeo (qb (Z 8).d T)] 32):=g7
    rw [z2,hrow] at g7'
    have hbl:(qgQ (Z 8).d[T]).length = 32:=by simp [qgQ]
    obtain ⟨y7,x7⟩:=qeL g7' (by rw [<- hlen z3,hbl]; omega)
    refine ⟨⟨hok,by omega,by omega,z1,y7,w7,?_⟩,by omega⟩
    rw [x7,z4]
    simp only [jav]
    rw [quJ hTl,jbs]
  ·have ht:t.i.toNat = (Z 8).d.length:=by omega
   rw [ht] at z4
   rw [jar (by simp [dgs])] at z4
   refine ⟨⟨z3,?_⟩,z2,fun e _ _ he=>⟨hok,by rw [he]; exact z3.2.2.1,by rw [he]; exact z3.2.2.2.2,by rw [he]; exact z4⟩⟩
   have:=z3.2.2.2.1
   omega
theorem qcO (m:List Int):qU (sha m):=fun x hx=>by
 obtain ⟨j,_,rfl⟩:=jbl.1 hx
 omega
theorem q0J {f:Nat->List Int} {n:Nat}:(qbi f n).length = n:=by simp [qbi]
theorem qo4 {g full:List Int} {k l i:Nat}:∀ j,(qbG g full k l i j).length = l
 | 0=>by simp [qbG]
 | j + 1=>by rw [qbG,qb7,qo4 j]
theorem q40 {k total:Nat} {data:List Int} {i:Nat}:(qag k total data i).length = ql k data.length:=qo4 k
theorem q62 {d:qd} {r:List Value}:dgs (d ++ [r]) = dgs d ++ [qgQ r]:=by simp [dgs]
theorem qx3 {f:Nat->List Int} {n:Nat}:qbi f (n + 1) = qbi f n ++ [sha (qaS n ++ f n)]:=by simp [qbi,jd1]
theorem q77 {d:qd}:qgQ (qeo (qa d)) = qf d 32:=rfl
set_option maxRecDepth 20000 in
set_option maxHeartbeats 1600000 in
theorem qzh:qiA.ok Tryz.prog:=qqK (by simp [qs9,qwV,qiO,qlf]) fun Z hg hp=>by
 obtain ⟨hf,hl,hlc,hB,⟨hGr,hGd⟩,htop⟩:=hp
 simp (config:={ maxSteps:=2000000 }) [q1H,qiA,q67,qfK,qgL,qcG,qdg,gOk,qjL]
 have hnn:=qbB hf
 refine fun u _=>⟨fun h=>absurd h hnn.1,fun _ b _ hb=>⟨fun hz=>⟨hf,by rw [<- hb]; exact hz⟩,fun hz=>?_⟩⟩
 rw [hz] at hb
 have hs3:=hb.symm
 have hs3':=hs3
 simp [qaP] at hs3'
 obtain ⟨b1,b2,b3,b4⟩:=hs3'
 have hsB:qN (Z 2).i (Z 4).i = true:=by simp [qN]; omega
 have hsz:qN (Z 2).i (Z 4).i = false->False:=fun h=>by rw [hsB] at h; cases h
 refine ⟨⟨hf,hl,hB,htop⟩,fun e _ f _ hf2 he=>⟨fun hne=>⟨hf2,?_⟩,fun hz2=>?_⟩,fun _ _ _ _ f _ P _ ab _ hf2 _ hle hPl hE=>⟨by omega,⟨⟨by omega,hlc,by omega,by omega,hB⟩,hGr,hGd⟩,fun o _ ho _ _=>⟨by omega,⟨hf2,hs3,hle,by omega,hPl,hE,?_,?_,?_⟩,fun _ _ _ _ _ _ o2 _ _ _ t _ _ _ Ds _ P2 _ _ _ f2 _ ab2 _ hf3 _ _ t0 t1 hPl2 hE2 ho2 hDl hDo hDm=>⟨fun hlt=>?_,fun hge=>?_⟩⟩⟩⟩
 ·rcases he with ⟨h,_⟩ | ⟨_,h1,h2⟩
  ·exact (hsz h).elim
  ·exact .inr ⟨hs3,h1,h2⟩
 ·rcases he with ⟨h,_⟩ | ⟨_,h1,h2⟩
  ·exact (hsz h).elim
  ·omega
 ·rw [qhY hl] at ho
  exact ho
 ·intro r hr; cases hr
 ·rfl
 ·obtain ⟨T,hT⟩:∃ T:Nat,t.i = T:=⟨t.i.toNat,by omega⟩
  have m1:qe .add .i64 t.i 1 = ((T + 1:Nat):Int):=by rw [add64 (by omega) (by omega)]; omega
  obtain ⟨v,d,e1,e2,e3,e4⟩:=hE2 T (by omega)
  have hcv:qF P2.d t.i 1 = v:=by rw [hT]; simp [qF,e1]
  have hci:qb P2.d t.i 0 = (T:Int):=by rw [hT]; simp [qb,qF,e1,qaj]
  rw [m1,hcv,hci]
  have hdl:d.length <= (Z 8).d.length:=by
   have h1:=congrArg List.length e3
   rw [bI_len,q40,bI_len] at h1
   have:=qdt (k:=(Z 2).i.toNat) (n:=(Z 8).d.length) (by omega)
   omega
  refine ⟨by omega,by omega,fun _ _=>⟨d,e2,fun r0 _ c1 _ hv hcl=>⟨⟨hcl,by omega,e4,hGr,hGd⟩,fun g _ hg2 _ _=>⟨by omega,by omega,fun _ _ _ _ ab3 _ hst=>⟨by omega,⟨hf3,hs3,hle,by omega,by omega,hPl2,?_,ho2,by omega,?_,?_⟩,by omega⟩⟩⟩⟩⟩
  ·obtain ⟨hb2,lb,db⟩:=qbp hst (n:=32) (t:=2) (by simp)
   exact qf1 hE2 (Hp.le_trans (by simpa using db) lb)
  ·intro r hr
   rcases jat.1 hr with hr | hr
   ·exact hDo r hr
   ·obtain rfl:=jaj.1 hr
    refine ⟨rfl,?_⟩
    have:qU (qf g.d 32):=by rw [hg2]; exact qcO _
    exact this
  ·have hh:dgs (Ds.d ++ [qeo (qa g.d)]) = qbi (qag (Z 2).i.toNat (Z 4).i.toNat (bI (Z 8).d)) (T + 1):=by
    rw [q62,q77,hg2,qhY rfl,e3,hDm,hT,jav,qx3]
   exact hh
 ·have ht:t.i = (Z 4).i:=by omega
  refine fun ab3 _ hst=>⟨by omega,hf3,hs3,hle,hPl2,?_,ho2,hDo,by rw [hDm,ht]⟩
  obtain ⟨hb2,lb,db⟩:=qbp hst (n:=32) (t:=2) (by simp)
  exact qf1 hE2 (Hp.le_trans (by simpa using db) lb)
end Go.Proofs
namespace Go.Proofs
open Go Go.Eng
set_option maxRecDepth 20000
theorem qq7 {D:qd}:(dgs D).length = D.length:=by simp [dgs]
end Go.Proofs
namespace Go.Eng
open Go Go.Proofs
def qk7 (Z:Env) (r:Nat):Prop:=qbn (Z r).i/\qbn (Z (r + 1)).i/\qbn (Z (r + 2)).i/\qbn (Z (r + 3)).i/\qU (qf (Z (r + 4)).d 32)/\(Z (r + 6)).i = (Z (r + 8)).d.length/\(Z (r + 6)).i <= 4398046510976/\qd4 (Z (r + 8)).d
def quL (Z:Env):List Int:=qaI (Z 0).i (Z 1).i (Z 2).i (Z 3).i (qf (Z 4).d 32) ++ (dgs (Z 8).d).flatten
def qq4 (Z:Env):Bool:=qz (Z 0).i (Z 1).i (Z 2).i (Z 3).i (Z 6).i
def qtp (Z:Env):Prop:=(Z 6).i = (Z 8).d.length/\qU (qf (Z 4).d 32)/\qd4 (Z 8).d
def qm2:List Alt:=[
 { k:=2,ret:=.tup [(true,qaT .u8 12 32),qbb (.var 13)],heap:=[],post:=fun Z=>(qq4 Z = false/\(Z 13).i = 2/\qf (Z 12).d 32 = List.replicate 32 0)∨(qq4 Z = true/\(Z 13).i = 0/\qf (Z 12).d 32 = sha (quL Z)) }]
def idC:Ctr:={ fn := 44,nv:=12,ip:=[gIp 10,(1005,9)],args:=[qia],heap:=[],ro:=[qbU 5 8 9,gHp 10 11],pre:=fun Z=>qtp Z/\gOk Z 10 11 gR,alts:=qm2 }
end Go.Eng
namespace Go.Proofs
open Go Go.Eng
set_option maxRecDepth 20000
theorem qc3 {l:List (List Int)} (h:∀ x ∈ l,x.length = 32):l.flatten.length = 32 * l.length:=by
 induction l with
 | nil=>rfl
 | cons x r ih =>
  rw [jde,jal,h x (jae ..),ih (fun y hy=>h y (jad _ hy)),jbh]; omega
theorem qzg {l:List (List Int)} (h:∀ x ∈ l,x.length = 32):∀ {j:Nat} (hj:j < l.length),(l.flatten.drop (32 * j)).take 32 = l[j]:=by
 induction l with
 | nil=>intro j hj; simp at hj
 | cons x r ih =>
  intro j hj
  have hx:=h x (jae ..)
  cases j with
  | zero=>simp [List.take_left' hx]
  | succ j =>
   rw [jde,show 32 * (j + 1) = x.length + 32 * j by omega,List.drop_length_add_append]
   exact ih (fun y hy=>h y (jad _ hy)) (by simpa using hj)
theorem q93 {D:qd}:∀ x ∈ dgs D,x.length = 32:=fun x hx=>by
 obtain ⟨r,_,rfl⟩:=jbl.1 hx
 simp [qgQ]
set_option maxRecDepth 100000
def qmZ (d:qd) (i:Int):List Int:=(List.range 32).map fun k=>qb d i k
@[simp high] theorem qBp (d:qd):qf [[.int .u8 (qa d 0),.int .u8 (qa d 1),.int .u8 (qa d 2),.int .u8 (qa d 3),.int .u8 (qa d 4),.int .u8 (qa d 5),.int .u8 (qa d 6),.int .u8 (qa d 7),.int .u8 (qa d 8),.int .u8 (qa d 9),.int .u8 (qa d 10),.int .u8 (qa d 11),.int .u8 (qa d 12),.int .u8 (qa d 13),.int .u8 (qa d 14),.int .u8 (qa d 15),.int .u8 (qa d 16),.int .u8 (qa d 17),.int .u8 (qa d 18),.int .u8 (qa d 19),.int .u8 (qa d 20),.int .u8 (qa d 21),.int .u8 (qa d 22),.int .u8 (qa d 23),.int .u8 (qa d 24),.int .u8 (qa d 25),.int .u8 (qa d 26),.int .u8 (qa d 27),.int .u8 (qa d 28),.int .u8 (qa d 29),.int .u8 (qa d 30),.int .u8 (qa d 31)]] 32 = qf d 32:=rfl
@[simp high] theorem qBo (d:qd) (i:Int):qf [[.int .u8 (qb d i 0),.int .u8 (qb d i 1),.int .u8 (qb d i 2),.int .u8 (qb d i 3),.int .u8 (qb d i 4),.int .u8 (qb d i 5),.int .u8 (qb d i 6),.int .u8 (qb d i 7),.int .u8 (qb d i 8),.int .u8 (qb d i 9),.int .u8 (qb d i 10),.int .u8 (qb d i 11),.int .u8 (qb d i 12),.int .u8 (qb d i 13),.int .u8 (qb d i 14),.int .u8 (qb d i 15),.int .u8 (qb d i 16),.int .u8 (qb d i 17),.int .u8 (qb d i 18),.int .u8 (qb d i 19),.int .u8 (qb d i 20),.int .u8 (qb d i 21),.int .u8 (qb d i 22),.int .u8 (qb d i 23),.int .u8 (qb d i 24),.int .u8 (qb d i 25),.int .u8 (qb d i 26),.int .u8 (qb d i 27),.int .u8 (qb d i 28),.int .u8 (qb d i 29),.int .u8 (qb d i 30),.int .u8 (qb d i 31)]] 32 = qmZ d i:=rfl
@[simp high] theorem qBs (d:qd):([.int .u8 (qa d 0),.int .u8 (qa d 1),.int .u8 (qa d 2),.int .u8 (qa d 3),.int .u8 (qa d 4),.int .u8 (qa d 5),.int .u8 (qa d 6),.int .u8 (qa d 7),.int .u8 (qa d 8),.int .u8 (qa d 9),.int .u8 (qa d 10),.int .u8 (qa d 11),.int .u8 (qa d 12),.int .u8 (qa d 13),.int .u8 (qa d 14),.int .u8 (qa d 15),.int .u8 (qa d 16),.int .u8 (qa d 17),.int .u8 (qa d 18),.int .u8 (qa d 19),.int .u8 (qa d 20),.int .u8 (qa d 21),.int .u8 (qa d 22),.int .u8 (qa d 23),.int .u8 (qa d 24),.int .u8 (qa d 25),.int .u8 (qa d 26),.int .u8 (qa d 27),.int .u8 (qa d 28),.int .u8 (qa d 29),.int .u8 (qa d 30),.int .u8 (qa d 31)]:List Value).map qaj = qf d 32:=rfl
@[simp high] theorem qBq (d:qd) (i:Int):([.int .u8 (qb d i 0),.int .u8 (qb d i 1),.int .u8 (qb d i 2),.int .u8 (qb d i 3),.int .u8 (qb d i 4),.int .u8 (qb d i 5),.int .u8 (qb d i 6),.int .u8 (qb d i 7),.int .u8 (qb d i 8),.int .u8 (qb d i 9),.int .u8 (qb d i 10),.int .u8 (qb d i 11),.int .u8 (qb d i 12),.int .u8 (qb d i 13),.int .u8 (qb d i 14),.int .u8 (qb d i 15),.int .u8 (qb d i 16),.int .u8 (qb d i 17),.int .u8 (qb d i 18),.int .u8 (qb d i 19),.int .u8 (qb d i 20),.int .u8 (qb d i 21),.int .u8 (qb d i 22),.int .u8 (qb d i 23),.int .u8 (qb d i 24),.int .u8 (qb d i 25),.int .u8 (qb d i 26),.int .u8 (qb d i 27),.int .u8 (qb d i 28),.int .u8 (qb d i 29),.int .u8 (qb d i 30),.int .u8 (qb d i 31)]:List Value).map qaj = qmZ d i:=rfl
@[simp high] theorem qBr:qf [[.int .u8 0,.int .u8 0,.int .u8 0,.int .u8 0,.int .u8 0,.int .u8 0,.int .u8 0,.int .u8 0,.int .u8 0,.int .u8 0,.int .u8 0,.int .u8 0,.int .u8 0,.int .u8 0,.int .u8 0,.int .u8 0,.int .u8 0,.int .u8 0,.int .u8 0,.int .u8 0,.int .u8 0,.int .u8 0,.int .u8 0,.int .u8 0,.int .u8 0,.int .u8 0,.int .u8 0,.int .u8 0,.int .u8 0,.int .u8 0,.int .u8 0,.int .u8 0]] 32 = List.replicate 32 0:=rfl
@[simp high] theorem qBn:([.int .u8 0,.int .u8 0,.int .u8 0,.int .u8 0,.int .u8 0,.int .u8 0,.int .u8 0,.int .u8 0,.int .u8 0,.int .u8 0,.int .u8 0,.int .u8 0,.int .u8 0,.int .u8 0,.int .u8 0,.int .u8 0,.int .u8 0,.int .u8 0,.int .u8 0,.int .u8 0,.int .u8 0,.int .u8 0,.int .u8 0,.int .u8 0,.int .u8 0,.int .u8 0,.int .u8 0,.int .u8 0,.int .u8 0,.int .u8 0,.int .u8 0,.int .u8 0]:List Value).map qaj = List.replicate 32 0:=rfl
theorem qsh {d:qd} {i:Int} (h0:0 <= i) (h1:i < d.length):qmZ d i = (dgs d).getD i.toNat []:=by
 have hl:i.toNat < d.length:=by omega
 have h2:(dgs d).getD i.toNat [] = qgQ d[i.toNat]:=by simp [dgs,hl]
 rw [h2]
 refine jbz fun k hk=>?_
 simp [qb,qF,qbr,hl]
end Go.Proofs
namespace Go.Eng
open Go
def qAI (x:Int):Prop:=0 <= x/\x < 256
end Go.Eng
namespace Go.Eng
open Go Go.Proofs
def qeO (r:Nat):SV:=.agg [.vint .i64 (.var r),.vslice (r + 1) (.lit 0) (.var (r + 2)) (.var (r + 3)) 1]
def qmP (r:Nat):SH:=bHp (r + 1) (r + 4) (r + 5)
def qcV (Z:Env) (r:Nat):Prop:=(Z (r + 2)).i = (Z (r + 4)).d.length/\(Z (r + 2)).i <= (Z (r + 3)).i/\(Z (r + 2)).i <= 100000000/\qp (Z (r + 4)).d
def qd0 (k s:Int):Int:=(s + k - 1).tdiv k
def qbO (k n t s l:Int) (D:List (List Int)) (i:Int) (m:List Int):Int:=if qz k n t s l = false then 2 else if i < 0∨t <= i then 2 else if (m.length:Int) ≠ qd0 k s then 10 else if sha (qaS i ++ m) ≠ D.getD i.toNat [] then 20 else 0
def quB (Z:Env):Prop:=qbn (Z 0).i/\qbn (Z 3).i/\(Z 6).i = (Z 8).d.length/\qd4 (Z 8).d/\qcV Z 10
def qmK:List Alt:=[{ k:=1,ret:=iv .i64 (.var 18),heap:=[],post:=fun Z=>(Z 18).i = qbO (Z 0).i (Z 1).i (Z 2).i (Z 3).i (Z 6).i (dgs (Z 8).d) (Z 10).i (bI (Z 14).d) }]
def qfV:Ctr:={ fn := 60,nv:=18,ip:=[gIp 16],args:=[qia,qeO 10],heap:=[],ro:=[qbU 5 8 9,qmP 10,gHp 16 17],pre:=fun Z=>quB Z/\gOk Z 16 17 gR,alts:=qmK }
end Go.Eng
namespace Go.Proofs
open Go Go.Eng
@[simp] def qtw:Sg:=sg 0 [bv 9 9,bv 8 8,bv 7 7,bv 6 6,bg 5 5,bv 3 3,bv 2 2,bv 1 1,bv 0 0,bt 4 (r8 4)]
def q9b:Out:=(fr 12 2 (.pre 0 qtw (.both (.post 0 0 qtw 14 (.ret 0 (sg 12 [bt 13 (tl 2),bt 12 z8]))) (.both (fr 14 4 (.post 0 1 qtw 14 (.know (.cmp .leq (.dlen (tv 17)) (tv 16)) (.pre 1 (sg 0 [bv 7 11,bv 5 16,bv 4 17,bv 3 16,bv 2 15,bt 1 (tl 0),bg 0 14,bg 6 10]) (.both (.fresh 18 (.post 1 0 (sg 0 [bv 7 11,bv 5 16,bv 4 17,bv 3 16,bv 2 15,bt 1 (tl 0),bg 0 14,bg 6 10]) 18 (.ret 0 (sg 12 [bt 13 (tl 0),bt 12 (r8 18)])))) .top))))) .top))))
theorem qA2:qn Tryz.prog idC [qj4,qcG] [] q9b:=qh Tryz.func44 Tryz.call44 (by kernel_rfl)
theorem q8o:∀ i:Fin 255,qlR.getD (qhU.getD i.val 0).toNat 0 = i.val:=by decide +kernel
theorem q8h:∀ a:Fin 256,a.val ≠ 0->qhU.getD (qlR.getD a.val 0).toNat 0 = a.val:=by decide +kernel
theorem q8i:∀ i:Fin 255,qhU.getD (i.val + 255) 0 = qhU.getD i.val 0:=by decide +kernel
abbrev F:=BitVec 8
def toF (x:Int):F:=BitVec.ofInt 8 x
def ofF (x:F):Int:=(x.toNat:Nat)
def isB (x:Int):Prop:=0 <= x/\x < 256
theorem qj7 {x:F}:isB (ofF x):=⟨Int.natCast_nonneg _,by have:=x.isLt; unfold ofF; omega⟩
theorem qjA {x:F}:toF (ofF x) = x:=by
 unfold toF ofF
 apply jdo
 rw [jdm]
 have:=x.isLt
 omega
theorem qsA {x:Int} (h:isB x):(toF x).toNat = x.toNat:=by
 obtain ⟨h0,h1⟩:=h
 unfold toF
 rw [jdm]
 omega
theorem qrv {x:Int} (h:isB x):ofF (toF x) = x:=by
 unfold ofF
 rw [qsA h]
 obtain ⟨h0,h1⟩:=h
 omega
theorem qjE {x y:Int} (hx:isB x) (hy:isB y) (h:toF x = toF y):x = y:=by rw [<- qrv hx,<- qrv hy,h]
theorem qvF:toF 0 = 0:=rfl
theorem qex {x:Int} (h:isB x):toF x = 0↔x = 0:=⟨fun e=>qjE h ⟨by omega,by omega⟩ e,fun e=>by rw [e]; rfl⟩
theorem q1M {x y:Int}:qgR x y = ofF (toF x ^^^ toF y):=by
 have h:(BitVec.ofInt 8 x ^^^ BitVec.ofInt 8 y).toNat < 256:=(BitVec.ofInt 8 x ^^^ BitVec.ofInt 8 y).isLt
 unfold qgR qe ofF toF
 show IntKind.u8.wrap _ = _
 have hb:IntKind.u8.bits = 8:=rfl
 rw [hb]
 generalize (BitVec.ofInt 8 x ^^^ BitVec.ofInt 8 y).toNat = z at h ⊢
 simp only [IntKind.wrap,IntKind.bits,IntKind.signed]
 simp
 omega
theorem qke {x y:Int}:toF (qgR x y) = toF x ^^^ toF y:=by rw [q1M,qjA]
def qb1 (n:Nat):F:=BitVec.ofNat 8 (qhU.getD (n % 255) 0).toNat
def qes (x:F):Nat:=(qlR.getD x.toNat 0).toNat
def qg (x y:F):F:=if x = 0∨y = 0 then 0 else qb1 (qes x + qes y)
def qet (x:F):F:=if x = 0 then 0 else qb1 (255 - qes x)
theorem quq {n:Nat}:qb1 (n % 255) = qb1 n:=by unfold qb1; rw [Nat.mod_mod]
theorem qkX {n m:Nat} (h:n % 255 = m % 255):qb1 n = qb1 m:=by rw [<- quq,h,quq]
theorem qhg {n:Nat}:(qb1 n).toNat = (qhU.getD (n % 255) 0).toNat:=by
 have h:=qfC ⟨n % 255,by omega⟩
 simp only at h
 unfold qb1
 rw [BitVec.toNat_ofNat]
 omega
theorem qmD {n:Nat}:qb1 n ≠ 0:=fun h=>by
 have h1:=congrArg BitVec.toNat h
 rw [qhg] at h1
 have h2:=qfC ⟨n % 255,by omega⟩
 simp only at h2
 rw [show (0:F).toNat = 0 by rfl] at h1
 omega
theorem qgf {x:F}:qes x < 255:=by
 have:=qkW ⟨x.toNat,x.isLt⟩
 simp only at this
 unfold qes
 omega
theorem qir {x:F} (h:x ≠ 0):qb1 (qes x) = x:=by
 apply jdo
 have h0:x.toNat ≠ 0:=fun e=>h (jdo (by rw [e]; rfl))
 have h1:=q8h ⟨x.toNat,x.isLt⟩ h0
 simp only at h1
 rw [qhg,jdi qgf,qes,h1]
 omega
theorem qvl {n:Nat}:qes (qb1 n) = n % 255:=by
 have h:=q8o ⟨n % 255,by omega⟩
 simp only at h
 unfold qes
 rw [qhg,h]
 omega
theorem qiF:qb1 0 = 1:=by decide
theorem qaf {x y:F}:qg x y = qg y x:=by
 unfold qg
 by_cases hx:x = 0
 ·simp [hx]
 ·by_cases hy:y = 0
  ·simp [hy]
  ·rw [jaf (not_or.2 ⟨hx,hy⟩),jaf (not_or.2 ⟨hy,hx⟩),jdn]
theorem q9 {x:F}:qg x 0 = 0:=by simp [qg]
theorem qB {x:F}:qg 0 x = 0:=by simp [qg]
theorem qy7 {x y:F} (hx:x ≠ 0) (hy:y ≠ 0):qg x y = qb1 (qes x + qes y):=by rw [qg,jaf (not_or.2 ⟨hx,hy⟩)]
theorem qm7 {x y:F} (hx:x ≠ 0) (hy:y ≠ 0):qg x y ≠ 0:=by rw [qy7 hx hy]; exact qmD
theorem quM {x y:F}:qg x y = 0↔x = 0∨y = 0:=⟨fun h=>by
 by_cases hx:x = 0
 ·exact .inl hx
 ·by_cases hy:y = 0
  ·exact .inr hy
  ·exact (qm7 hx hy h).elim,fun h=>by rcases h with rfl | rfl; exact qB; exact q9⟩
theorem qdJ {n m:Nat}:qg (qb1 n) (qb1 m) = qb1 (n + m):=by
 rw [qy7 qmD qmD,qvl,qvl]
 exact qkX (by omega)
theorem qbc {x:F}:qg x 1 = x:=by
 by_cases h:x = 0
 ·rw [h,qB]
 ·rw [<- qiF]; conv=>lhs; arg 1; rw [<- qir h]
  rw [qdJ,jci,qir h]
theorem qfY {x:F}:qg 1 x = x:=by rw [qaf,qbc]
theorem qha {x:F} (h:x ≠ 0):∃ n,n < 255/\x = qb1 n:=⟨qes x,qgf,(qir h).symm⟩
theorem qQ {x y z:F}:qg (qg x y) z = qg x (qg y z):=by
 by_cases hx:x = 0
 ·rw [hx,qB,qB,qB]
 by_cases hy:y = 0
 ·rw [hy,q9,qB,q9]
 by_cases hz:z = 0
 ·rw [hz,q9,q9,q9]
 obtain ⟨a,_,rfl⟩:=qha hx
 obtain ⟨b,_,rfl⟩:=qha hy
 obtain ⟨c,_,rfl⟩:=qha hz
 rw [qdJ,qdJ,qdJ,qdJ,jco]
theorem q7l {x:F} (h:x ≠ 0):qet x ≠ 0:=by rw [qet,jaf h]; exact qmD
theorem qiK {x:F} (h:x ≠ 0):qg x (qet x) = 1:=by
 rw [qet,jaf h]
 conv=>lhs; arg 1; rw [<- qir h]
 have:=qgf (x:=x)
 rw [qdJ,<- qiF]
 exact qkX (by omega)
def xt (x:F):F:=x <<< 1 ^^^ (if x.msb then 29#8 else 0#8)
theorem q2Y:∀ i:Fin 256,qg (BitVec.ofFin i) 2 = xt (BitVec.ofFin i):=by decide +kernel
theorem qoq {x:F}:qg x 2 = xt x:=q2Y x.toFin
theorem q9X {x y:F}:xt (x ^^^ y) = xt x ^^^ xt y:=by
 unfold xt
 rw [BitVec.shiftLeft_xor_distrib,BitVec.msb_xor]
 have h1:∀ a b c:F,a ^^^ b ^^^ c = a ^^^ c ^^^ b:=fun a b c=>by rw [jbn,jc0 b c,<- jbn]
 cases x.msb <;> cases y.msb
 ·simp
 ·simp [jbn]
 ·simp [h1 (x <<< 1) (29#8) (y <<< 1)]
 ·simp only [bne_self_eq_false,jap,jby,ja8,jeq]
  rw [h1 (x <<< 1) (29#8),jbn (x <<< 1),jbn (y <<< 1),jep,jeq]
theorem qmC {x y:F}:∀ n:Nat,qg (x ^^^ y) (qb1 n) = qg x (qb1 n) ^^^ qg y (qb1 n)
 | 0=>by rw [qiF,qbc,qbc,qbc]
 | n + 1=>by
  have he:qb1 (n + 1) = qg (qb1 n) 2:=by
   have:(2:F) = qb1 1:=by decide
   rw [this,qdJ]
  rw [he,<- qQ,<- qQ,<- qQ,qmC n,qoq,qoq,qoq,q9X]
theorem qce {x y z:F}:qg (x ^^^ y) z = qg x z ^^^ qg y z:=by
 by_cases hz:z = 0
 ·rw [hz,q9,q9,q9]; rfl
 ·obtain ⟨n,_,rfl⟩:=qha hz
  exact qmC n
theorem qhB {x y z:F}:qg z (x ^^^ y) = qg z x ^^^ qg z y:=by rw [qaf,qce,qaf,qaf (x:=y)]
theorem qwH {i:Nat} (h:i < 510):qmi i = ofF (qb1 i):=by
 rw [qyk h,ofF,qhg]
 by_cases hi:i < 255
 ·rw [jdi hi]
  have:=qfC ⟨i,h⟩
  simp only at this
  omega
 ·have h1:=q8i ⟨i - 255,by omega⟩
  have h2:=qfC ⟨i,h⟩
  simp only at h1 h2
  rw [show i - 255 + 255 = i by omega] at h1
  rw [show i % 255 = i - 255 by omega,<- h1]
  omega
theorem qo0 {a:Int} (h:isB a):qbt a.toNat = (qes (toF a):Nat):=by
 obtain ⟨h0,h1⟩:=h
 rw [qzt (by omega),qes,qsA ⟨h0,h1⟩]
 have:=qkW ⟨a.toNat,by omega⟩
 simp only at this
 omega
theorem q1J {a b:Int} (ha:isB a) (hb:isB b):qc4 a b = ofF (qg (toF a) (toF b)):=by
 unfold qc4 qg
 simp only [qex ha,qex hb]
 split
 ·rfl
 ·have h1:=qgf (x:=toF a)
  have h2:=qgf (x:=toF b)
  rw [qo0 ha,qo0 hb,qwH (by omega)]
  congr 2
theorem q2G {a:Int} (ha:isB a):qf6 a = ofF (qet (toF a)):=by
 unfold qf6 qet
 simp only [qex ha]
 split
 ·rfl
 ·have h1:=qgf (x:=toF a)
  rw [qo0 ha,qwH (by omega)]
  congr 2
  omega
theorem q4M {a b:Int} (ha:isB a) (hb:isB b):isB (qc4 a b):=by rw [q1J ha hb]; exact qj7
theorem qhT {a b:Int} (ha:isB a) (hb:isB b):toF (qc4 a b) = qg (toF a) (toF b):=by rw [q1J ha hb,qjA]
theorem q6h {a:Int} (ha:isB a):isB (qf6 a):=by rw [q2G ha]; exact qj7
theorem q5T {a:Int} (ha:isB a):toF (qf6 a) = qet (toF a):=by rw [q2G ha,qjA]
theorem q4R {a b:Int}:isB (qgR a b):=by rw [q1M]; exact qj7
def qaG (x:F):Nat->F
 | 0=>1
 | n + 1=>qg (qaG x n) x
theorem qvo {n:Nat}:∀ m,qaG (qb1 n) m = qb1 (n * m)
 | 0=>by rw [Nat.mul_zero]; exact qiF.symm
 | m + 1=>by rw [qaG,qvo m,qdJ,Nat.mul_succ]
theorem q10 {m:Nat} (h:0 < m):qaG 0 m = 0:=by
 cases m with
 | zero=>omega
 | succ m=>rw [qaG,q9]
theorem q3I {a e:Int} (ha:isB a) (he:e < 9223372036854775808):qgS a e = ofF (qaG (toF a) e.toNat):=by
 unfold qgS
 by_cases h0:e <= 0
 ·rw [jah h0,show e.toNat = 0 by omega]; rfl
 rw [jaf h0]
 by_cases h1:a = 0
 ·rw [jah h1,h1,qvF,q10 (by omega)]; rfl
 rw [jaf h1]
 have hx:toF a ≠ 0:=fun h=>h1 ((qex ha).1 h)
 have hl:=qgf (x:=toF a)
 rw [qo0 ha]
 have e1:e.tmod 255 = ((e.toNat % 255:Nat):Int):=by
  rw [jdr (by omega)]; omega
 rw [e1,<- jd0,jdr (by omega),qwH (by omega)]
 congr 1
 conv=>rhs; rw [<- qir hx,qvo]
 refine qkX ?_
 have:((qes (toF a) * (e.toNat % 255):Nat):Int) % 255 = ((qes (toF a) * (e.toNat % 255) % 255:Nat):Int):=by omega
 rw [this,jav,Nat.mod_mod,Nat.mul_mod,Nat.mod_mod,<- Nat.mul_mod]
theorem q5R {a e:Int} (ha:isB a) (he:e < 9223372036854775808):isB (qgS a e):=by rw [q3I ha he]; exact qj7
end Go.Proofs
