/- Texts CD, CE, CF, E13, E14. -/
import Derived.Test.YtelcnkclppkicaaDoorG9
import Derived.Test.YtelcnkclppkicaaDoorProg
import Derived.Test.YtelcnkclppkicaaDoorG5
import Derived.WalkKit
import Derived.ProofKit
import Derived.OpenShut
import Derived.Carry
import Derived.SizedLaws
set_option linter.unusedSimpArgs false
set_option linter.unusedVariables false
set_option maxRecDepth 100000
namespace Go.Proofs
open Go Go.Eng

def o_rDg : Out := (.fresh 8 (.fresh 9 (.both (.pre 0 ⟨0, [(7, (.t (.var 7))), (6, (.t (.var 6))), (5, (.t (.var 5))), (4, (.t (.var 4))), (3, (.t (.var 3))), (2, (.t (.var 2))), (1, (.r 1)), (8, (.t (.lit (32)))), (0, (.r 0))], [((.lit (0)), (.lit (0)))], [], []⟩ (.both (.fresh 10 (.post 0 0 ⟨0, [(7, (.t (.var 7))), (6, (.t (.var 6))), (5, (.t (.var 5))), (4, (.t (.var 4))), (3, (.t (.var 3))), (2, (.t (.var 2))), (1, (.r 1)), (8, (.t (.lit (32)))), (0, (.r 0))], [((.lit (0)), (.lit (0)))], [], []⟩ 10 (.both (.fresh 11 (.ret 0 ⟨8, [(12, (.t (.var 10))), (11, (.t (.var 4))), (10, (.t (.var 3))), (9, (.t (.var 2))), (8, (.t (.rcons (.vint .u8 (.icell (.c3 .xcopy (.rcons o8 (.rcons o8 (.rcons o8 (.rcons o8 (.rcons o8 (.rcons o8 (.rcons o8 (.rcons o8 (.rcons o8 (.rcons o8 (.rcons o8 (.rcons o8 (.rcons o8 (.rcons o8 (.rcons o8 (.rcons o8 (.rcons o8 (.rcons o8 (.rcons o8 (.rcons o8 (.rcons o8 (.rcons o8 (.rcons o8 (.rcons o8 (.rcons o8 (.rcons o8 (.rcons o8 (.rcons o8 (.rcons o8 (.rcons o8 (.rcons o8 (.rcons o8 .rnil)))))))))))))))))))))))))))))))) (.lit (0)) (.dtake .dnil (.imin (.lit (32)) (.lit (0))))) (.lit (0)) 0)) (.rcons (.vint .u8 (.icell (.c3 .xcopy (.rcons o8 (.rcons o8 (.rcons o8 (.rcons o8 (.rcons o8 (.rcons o8 (.rcons o8 (.rcons o8 (.rcons o8 (.rcons o8 (.rcons o8 (.rcons o8 (.rcons o8 (.rcons o8 (.rcons o8 (.rcons o8 (.rcons o8 (.rcons o8 (.rcons o8 (.rcons o8 (.rcons o8 (.rcons o8 (.rcons o8 (.rcons o8 (.rcons o8 (.rcons o8 (.rcons o8 (.rcons o8 (.rcons o8 (.rcons o8 (.rcons o8 (.rcons o8 .rnil)))))))))))))))))))))))))))))))) (.lit (0)) (.dtake .dnil (.imin (.lit (32)) (.lit (0))))) (.lit (0)) 1)) (.rcons (.vint .u8 (.icell (.c3 .xcopy (.rcons o8 (.rcons o8 (.rcons o8 (.rcons o8 (.rcons o8 (.rcons o8 (.rcons o8 (.rcons o8 (.rcons o8 (.rcons o8 (.rcons o8 (.rcons o8 (.rcons o8 (.rcons o8 (.rcons o8 (.rcons o8 (.rcons o8 (.rcons o8 (.rcons o8 (.rcons o8 (.rcons o8 (.rcons o8 (.rcons o8 (.rcons o8 (.rcons o8 (.rcons o8 (.rcons o8 (.rcons o8 (.rcons o8 (.rcons o8 (.rcons o8 (.rcons o8 .rnil)))))))))))))))))))))))))))))))) (.lit (0)) (.dtake .dnil (.imin (.lit (32)) (.lit (0))))) (.lit (0)) 2)) (.rcons (.vint .u8 (.icell (.c3 .xcopy (.rcons o8 (.rcons o8 (.rcons o8 (.rcons o8 (.rcons o8 (.rcons o8 (.rcons o8 (.rcons o8 (.rcons o8 (.rcons o8 (.rcons o8 (.rcons o8 (.rcons o8 (.rcons o8 (.rcons o8 (.rcons o8 (.rcons o8 (.rcons o8 (.rcons o8 (.rcons o8 (.rcons o8 (.rcons o8 (.rcons o8 (.rcons o8 (.rcons o8 (.rcons o8 (.rcons o8 (.rcons o8 (.rcons o8 (.rcons o8 (.rcons o8 (.rcons o8 .rnil)))))))))))))))))))))))))))))))) (.lit (0)) (.dtake .dnil (.imin (.lit (32)) (.lit (0))))) (.lit (0)) 3)) (.rcons (.vint .u8 (.icell (.c3 .xcopy (.rcons o8 (.rcons o8 (.rcons o8 (.rcons o8 (.rcons o8 (.rcons o8 (.rcons o8 (.rcons o8 (.rcons o8 (.rcons o8 (.rcons o8 (.rcons o8 (.rcons o8 (.rcons o8 (.rcons o8 (.rcons o8 (.rcons o8 (.rcons o8 (.rcons o8 (.rcons o8 (.rcons o8 (.rcons o8 (.rcons o8 (.rcons o8 (.rcons o8 (.rcons o8 (.rcons o8 (.rcons o8 (.rcons o8 (.rcons o8 (.rcons o8 (.rcons o8 .rnil)))))))))))))))))))))))))))))))) (.lit (0)) (.dtake .dnil (.imin (.lit (32)) (.lit (0))))) (.lit (0)) 4)) (.rcons (.vint .u8 (.icell (.c3 .xcopy (.rcons o8 (.rcons o8 (.rcons o8 (.rcons o8 (.rcons o8 (.rcons o8 (.rcons o8 (.rcons o8 (.rcons o8 (.rcons o8 (.rcons o8 (.rcons o8 (.rcons o8 (.rcons o8 (.rcons o8 (.rcons o8 (.rcons o8 (.rcons o8 (.rcons o8 (.rcons o8 (.rcons o8 (.rcons o8 (.rcons o8 (.rcons o8 (.rcons o8 (.rcons o8 (.rcons o8 (.rcons o8 (.rcons o8 (.rcons o8 (.rcons o8 (.rcons o8 .rnil)))))))))))))))))))))))))))))))) (.lit (0)) (.dtake .dnil (.imin (.lit (32)) (.lit (0))))) (.lit (0)) 5)) (.rcons (.vint .u8 (.icell (.c3 .xcopy (.rcons o8 (.rcons o8 (.rcons o8 (.rcons o8 (.rcons o8 (.rcons o8 (.rcons o8 (.rcons o8 (.rcons o8 (.rcons o8 (.rcons o8 (.rcons o8 (.rcons o8 (.rcons o8 (.rcons o8 (.rcons o8 (.rcons o8 (.rcons o8 (.rcons o8 (.rcons o8 (.rcons o8 (.rcons o8 (.rcons o8 (.rcons o8 (.rcons o8 (.rcons o8 (.rcons o8 (.rcons o8 (.rcons o8 (.rcons o8 (.rcons o8 (.rcons o8 .rnil)))))))))))))))))))))))))))))))) (.lit (0)) (.dtake .dnil (.imin (.lit (32)) (.lit (0))))) (.lit (0)) 6)) (.rcons (.vint .u8 (.icell (.c3 .xcopy (.rcons o8 (.rcons o8 (.rcons o8 (.rcons o8 (.rcons o8 (.rcons o8 (.rcons o8 (.rcons o8 (.rcons o8 (.rcons o8 (.rcons o8 (.rcons o8 (.rcons o8 (.rcons o8 (.rcons o8 (.rcons o8 (.rcons o8 (.rcons o8 (.rcons o8 (.rcons o8 (.rcons o8 (.rcons o8 (.rcons o8 (.rcons o8 (.rcons o8 (.rcons o8 (.rcons o8 (.rcons o8 (.rcons o8 (.rcons o8 (.rcons o8 (.rcons o8 .rnil)))))))))))))))))))))))))))))))) (.lit (0)) (.dtake .dnil (.imin (.lit (32)) (.lit (0))))) (.lit (0)) 7)) (.rcons (.vint .u8 (.icell (.c3 .xcopy (.rcons o8 (.rcons o8 (.rcons o8 (.rcons o8 (.rcons o8 (.rcons o8 (.rcons o8 (.rcons o8 (.rcons o8 (.rcons o8 (.rcons o8 (.rcons o8 (.rcons o8 (.rcons o8 (.rcons o8 (.rcons o8 (.rcons o8 (.rcons o8 (.rcons o8 (.rcons o8 (.rcons o8 (.rcons o8 (.rcons o8 (.rcons o8 (.rcons o8 (.rcons o8 (.rcons o8 (.rcons o8 (.rcons o8 (.rcons o8 (.rcons o8 (.rcons o8 .rnil)))))))))))))))))))))))))))))))) (.lit (0)) (.dtake .dnil (.imin (.lit (32)) (.lit (0))))) (.lit (0)) 8)) (.rcons (.vint .u8 (.icell (.c3 .xcopy (.rcons o8 (.rcons o8 (.rcons o8 (.rcons o8 (.rcons o8 (.rcons o8 (.rcons o8 (.rcons o8 (.rcons o8 (.rcons o8 (.rcons o8 (.rcons o8 (.rcons o8 (.rcons o8 (.rcons o8 (.rcons o8 (.rcons o8 (.rcons o8 (.rcons o8 (.rcons o8 (.rcons o8 (.rcons o8 (.rcons o8 (.rcons o8 (.rcons o8 (.rcons o8 (.rcons o8 (.rcons o8 (.rcons o8 (.rcons o8 (.rcons o8 (.rcons o8 .rnil)))))))))))))))))))))))))))))))) (.lit (0)) (.dtake .dnil (.imin (.lit (32)) (.lit (0))))) (.lit (0)) 9)) (.rcons (.vint .u8 (.icell (.c3 .xcopy (.rcons o8 (.rcons o8 (.rcons o8 (.rcons o8 (.rcons o8 (.rcons o8 (.rcons o8 (.rcons o8 (.rcons o8 (.rcons o8 (.rcons o8 (.rcons o8 (.rcons o8 (.rcons o8 (.rcons o8 (.rcons o8 (.rcons o8 (.rcons o8 (.rcons o8 (.rcons o8 (.rcons o8 (.rcons o8 (.rcons o8 (.rcons o8 (.rcons o8 (.rcons o8 (.rcons o8 (.rcons o8 (.rcons o8 (.rcons o8 (.rcons o8 (.rcons o8 .rnil)))))))))))))))))))))))))))))))) (.lit (0)) (.dtake .dnil (.imin (.lit (32)) (.lit (0))))) (.lit (0)) 10)) (.rcons (.vint .u8 (.icell (.c3 .xcopy (.rcons o8 (.rcons o8 (.rcons o8 (.rcons o8 (.rcons o8 (.rcons o8 (.rcons o8 (.rcons o8 (.rcons o8 (.rcons o8 (.rcons o8 (.rcons o8 (.rcons o8 (.rcons o8 (.rcons o8 (.rcons o8 (.rcons o8 (.rcons o8 (.rcons o8 (.rcons o8 (.rcons o8 (.rcons o8 (.rcons o8 (.rcons o8 (.rcons o8 (.rcons o8 (.rcons o8 (.rcons o8 (.rcons o8 (.rcons o8 (.rcons o8 (.rcons o8 .rnil)))))))))))))))))))))))))))))))) (.lit (0)) (.dtake .dnil (.imin (.lit (32)) (.lit (0))))) (.lit (0)) 11)) (.rcons (.vint .u8 (.icell (.c3 .xcopy (.rcons o8 (.rcons o8 (.rcons o8 (.rcons o8 (.rcons o8 (.rcons o8 (.rcons o8 (.rcons o8 (.rcons o8 (.rcons o8 (.rcons o8 (.rcons o8 (.rcons o8 (.rcons o8 (.rcons o8 (.rcons o8 (.rcons o8 (.rcons o8 (.rcons o8 (.rcons o8 (.rcons o8 (.rcons o8 (.rcons o8 (.rcons o8 (.rcons o8 (.rcons o8 (.rcons o8 (.rcons o8 (.rcons o8 (.rcons o8 (.rcons o8 (.rcons o8 .rnil)))))))))))))))))))))))))))))))) (.lit (0)) (.dtake .dnil (.imin (.lit (32)) (.lit (0))))) (.lit (0)) 12)) (.rcons (.vint .u8 (.icell (.c3 .xcopy (.rcons o8 (.rcons o8 (.rcons o8 (.rcons o8 (.rcons o8 (.rcons o8 (.rcons o8 (.rcons o8 (.rcons o8 (.rcons o8 (.rcons o8 (.rcons o8 (.rcons o8 (.rcons o8 (.rcons o8 (.rcons o8 (.rcons o8 (.rcons o8 (.rcons o8 (.rcons o8 (.rcons o8 (.rcons o8 (.rcons o8 (.rcons o8 (.rcons o8 (.rcons o8 (.rcons o8 (.rcons o8 (.rcons o8 (.rcons o8 (.rcons o8 (.rcons o8 .rnil)))))))))))))))))))))))))))))))) (.lit (0)) (.dtake .dnil (.imin (.lit (32)) (.lit (0))))) (.lit (0)) 13)) (.rcons (.vint .u8 (.icell (.c3 .xcopy (.rcons o8 (.rcons o8 (.rcons o8 (.rcons o8 (.rcons o8 (.rcons o8 (.rcons o8 (.rcons o8 (.rcons o8 (.rcons o8 (.rcons o8 (.rcons o8 (.rcons o8 (.rcons o8 (.rcons o8 (.rcons o8 (.rcons o8 (.rcons o8 (.rcons o8 (.rcons o8 (.rcons o8 (.rcons o8 (.rcons o8 (.rcons o8 (.rcons o8 (.rcons o8 (.rcons o8 (.rcons o8 (.rcons o8 (.rcons o8 (.rcons o8 (.rcons o8 .rnil)))))))))))))))))))))))))))))))) (.lit (0)) (.dtake .dnil (.imin (.lit (32)) (.lit (0))))) (.lit (0)) 14)) (.rcons (.vint .u8 (.icell (.c3 .xcopy (.rcons o8 (.rcons o8 (.rcons o8 (.rcons o8 (.rcons o8 (.rcons o8 (.rcons o8 (.rcons o8 (.rcons o8 (.rcons o8 (.rcons o8 (.rcons o8 (.rcons o8 (.rcons o8 (.rcons o8 (.rcons o8 (.rcons o8 (.rcons o8 (.rcons o8 (.rcons o8 (.rcons o8 (.rcons o8 (.rcons o8 (.rcons o8 (.rcons o8 (.rcons o8 (.rcons o8 (.rcons o8 (.rcons o8 (.rcons o8 (.rcons o8 (.rcons o8 .rnil)))))))))))))))))))))))))))))))) (.lit (0)) (.dtake .dnil (.imin (.lit (32)) (.lit (0))))) (.lit (0)) 15)) (.rcons (.vint .u8 (.icell (.c3 .xcopy (.rcons o8 (.rcons o8 (.rcons o8 (.rcons o8 (.rcons o8 (.rcons o8 (.rcons o8 (.rcons o8 (.rcons o8 (.rcons o8 (.rcons o8 (.rcons o8 (.rcons o8 (.rcons o8 (.rcons o8 (.rcons o8 (.rcons o8 (.rcons o8 (.rcons o8 (.rcons o8 (.rcons o8 (.rcons o8 (.rcons o8 (.rcons o8 (.rcons o8 (.rcons o8 (.rcons o8 (.rcons o8 (.rcons o8 (.rcons o8 (.rcons o8 (.rcons o8 .rnil)))))))))))))))))))))))))))))))) (.lit (0)) (.dtake .dnil (.imin (.lit (32)) (.lit (0))))) (.lit (0)) 16)) (.rcons (.vint .u8 (.icell (.c3 .xcopy (.rcons o8 (.rcons o8 (.rcons o8 (.rcons o8 (.rcons o8 (.rcons o8 (.rcons o8 (.rcons o8 (.rcons o8 (.rcons o8 (.rcons o8 (.rcons o8 (.rcons o8 (.rcons o8 (.rcons o8 (.rcons o8 (.rcons o8 (.rcons o8 (.rcons o8 (.rcons o8 (.rcons o8 (.rcons o8 (.rcons o8 (.rcons o8 (.rcons o8 (.rcons o8 (.rcons o8 (.rcons o8 (.rcons o8 (.rcons o8 (.rcons o8 (.rcons o8 .rnil)))))))))))))))))))))))))))))))) (.lit (0)) (.dtake .dnil (.imin (.lit (32)) (.lit (0))))) (.lit (0)) 17)) (.rcons (.vint .u8 (.icell (.c3 .xcopy (.rcons o8 (.rcons o8 (.rcons o8 (.rcons o8 (.rcons o8 (.rcons o8 (.rcons o8 (.rcons o8 (.rcons o8 (.rcons o8 (.rcons o8 (.rcons o8 (.rcons o8 (.rcons o8 (.rcons o8 (.rcons o8 (.rcons o8 (.rcons o8 (.rcons o8 (.rcons o8 (.rcons o8 (.rcons o8 (.rcons o8 (.rcons o8 (.rcons o8 (.rcons o8 (.rcons o8 (.rcons o8 (.rcons o8 (.rcons o8 (.rcons o8 (.rcons o8 .rnil)))))))))))))))))))))))))))))))) (.lit (0)) (.dtake .dnil (.imin (.lit (32)) (.lit (0))))) (.lit (0)) 18)) (.rcons (.vint .u8 (.icell (.c3 .xcopy (.rcons o8 (.rcons o8 (.rcons o8 (.rcons o8 (.rcons o8 (.rcons o8 (.rcons o8 (.rcons o8 (.rcons o8 (.rcons o8 (.rcons o8 (.rcons o8 (.rcons o8 (.rcons o8 (.rcons o8 (.rcons o8 (.rcons o8 (.rcons o8 (.rcons o8 (.rcons o8 (.rcons o8 (.rcons o8 (.rcons o8 (.rcons o8 (.rcons o8 (.rcons o8 (.rcons o8 (.rcons o8 (.rcons o8 (.rcons o8 (.rcons o8 (.rcons o8 .rnil)))))))))))))))))))))))))))))))) (.lit (0)) (.dtake .dnil (.imin (.lit (32)) (.lit (0))))) (.lit (0)) 19)) (.rcons (.vint .u8 (.icell (.c3 .xcopy (.rcons o8 (.rcons o8 (.rcons o8 (.rcons o8 (.rcons o8 (.rcons o8 (.rcons o8 (.rcons o8 (.rcons o8 (.rcons o8 (.rcons o8 (.rcons o8 (.rcons o8 (.rcons o8 (.rcons o8 (.rcons o8 (.rcons o8 (.rcons o8 (.rcons o8 (.rcons o8 (.rcons o8 (.rcons o8 (.rcons o8 (.rcons o8 (.rcons o8 (.rcons o8 (.rcons o8 (.rcons o8 (.rcons o8 (.rcons o8 (.rcons o8 (.rcons o8 .rnil)))))))))))))))))))))))))))))))) (.lit (0)) (.dtake .dnil (.imin (.lit (32)) (.lit (0))))) (.lit (0)) 20)) (.rcons (.vint .u8 (.icell (.c3 .xcopy (.rcons o8 (.rcons o8 (.rcons o8 (.rcons o8 (.rcons o8 (.rcons o8 (.rcons o8 (.rcons o8 (.rcons o8 (.rcons o8 (.rcons o8 (.rcons o8 (.rcons o8 (.rcons o8 (.rcons o8 (.rcons o8 (.rcons o8 (.rcons o8 (.rcons o8 (.rcons o8 (.rcons o8 (.rcons o8 (.rcons o8 (.rcons o8 (.rcons o8 (.rcons o8 (.rcons o8 (.rcons o8 (.rcons o8 (.rcons o8 (.rcons o8 (.rcons o8 .rnil)))))))))))))))))))))))))))))))) (.lit (0)) (.dtake .dnil (.imin (.lit (32)) (.lit (0))))) (.lit (0)) 21)) (.rcons (.vint .u8 (.icell (.c3 .xcopy (.rcons o8 (.rcons o8 (.rcons o8 (.rcons o8 (.rcons o8 (.rcons o8 (.rcons o8 (.rcons o8 (.rcons o8 (.rcons o8 (.rcons o8 (.rcons o8 (.rcons o8 (.rcons o8 (.rcons o8 (.rcons o8 (.rcons o8 (.rcons o8 (.rcons o8 (.rcons o8 (.rcons o8 (.rcons o8 (.rcons o8 (.rcons o8 (.rcons o8 (.rcons o8 (.rcons o8 (.rcons o8 (.rcons o8 (.rcons o8 (.rcons o8 (.rcons o8 .rnil)))))))))))))))))))))))))))))))) (.lit (0)) (.dtake .dnil (.imin (.lit (32)) (.lit (0))))) (.lit (0)) 22)) (.rcons (.vint .u8 (.icell (.c3 .xcopy (.rcons o8 (.rcons o8 (.rcons o8 (.rcons o8 (.rcons o8 (.rcons o8 (.rcons o8 (.rcons o8 (.rcons o8 (.rcons o8 (.rcons o8 (.rcons o8 (.rcons o8 (.rcons o8 (.rcons o8 (.rcons o8 (.rcons o8 (.rcons o8 (.rcons o8 (.rcons o8 (.rcons o8 (.rcons o8 (.rcons o8 (.rcons o8 (.rcons o8 (.rcons o8 (.rcons o8 (.rcons o8 (.rcons o8 (.rcons o8 (.rcons o8 (.rcons o8 .rnil)))))))))))))))))))))))))))))))) (.lit (0)) (.dtake .dnil (.imin (.lit (32)) (.lit (0))))) (.lit (0)) 23)) (.rcons (.vint .u8 (.icell (.c3 .xcopy (.rcons o8 (.rcons o8 (.rcons o8 (.rcons o8 (.rcons o8 (.rcons o8 (.rcons o8 (.rcons o8 (.rcons o8 (.rcons o8 (.rcons o8 (.rcons o8 (.rcons o8 (.rcons o8 (.rcons o8 (.rcons o8 (.rcons o8 (.rcons o8 (.rcons o8 (.rcons o8 (.rcons o8 (.rcons o8 (.rcons o8 (.rcons o8 (.rcons o8 (.rcons o8 (.rcons o8 (.rcons o8 (.rcons o8 (.rcons o8 (.rcons o8 (.rcons o8 .rnil)))))))))))))))))))))))))))))))) (.lit (0)) (.dtake .dnil (.imin (.lit (32)) (.lit (0))))) (.lit (0)) 24)) (.rcons (.vint .u8 (.icell (.c3 .xcopy (.rcons o8 (.rcons o8 (.rcons o8 (.rcons o8 (.rcons o8 (.rcons o8 (.rcons o8 (.rcons o8 (.rcons o8 (.rcons o8 (.rcons o8 (.rcons o8 (.rcons o8 (.rcons o8 (.rcons o8 (.rcons o8 (.rcons o8 (.rcons o8 (.rcons o8 (.rcons o8 (.rcons o8 (.rcons o8 (.rcons o8 (.rcons o8 (.rcons o8 (.rcons o8 (.rcons o8 (.rcons o8 (.rcons o8 (.rcons o8 (.rcons o8 (.rcons o8 .rnil)))))))))))))))))))))))))))))))) (.lit (0)) (.dtake .dnil (.imin (.lit (32)) (.lit (0))))) (.lit (0)) 25)) (.rcons (.vint .u8 (.icell (.c3 .xcopy (.rcons o8 (.rcons o8 (.rcons o8 (.rcons o8 (.rcons o8 (.rcons o8 (.rcons o8 (.rcons o8 (.rcons o8 (.rcons o8 (.rcons o8 (.rcons o8 (.rcons o8 (.rcons o8 (.rcons o8 (.rcons o8 (.rcons o8 (.rcons o8 (.rcons o8 (.rcons o8 (.rcons o8 (.rcons o8 (.rcons o8 (.rcons o8 (.rcons o8 (.rcons o8 (.rcons o8 (.rcons o8 (.rcons o8 (.rcons o8 (.rcons o8 (.rcons o8 .rnil)))))))))))))))))))))))))))))))) (.lit (0)) (.dtake .dnil (.imin (.lit (32)) (.lit (0))))) (.lit (0)) 26)) (.rcons (.vint .u8 (.icell (.c3 .xcopy (.rcons o8 (.rcons o8 (.rcons o8 (.rcons o8 (.rcons o8 (.rcons o8 (.rcons o8 (.rcons o8 (.rcons o8 (.rcons o8 (.rcons o8 (.rcons o8 (.rcons o8 (.rcons o8 (.rcons o8 (.rcons o8 (.rcons o8 (.rcons o8 (.rcons o8 (.rcons o8 (.rcons o8 (.rcons o8 (.rcons o8 (.rcons o8 (.rcons o8 (.rcons o8 (.rcons o8 (.rcons o8 (.rcons o8 (.rcons o8 (.rcons o8 (.rcons o8 .rnil)))))))))))))))))))))))))))))))) (.lit (0)) (.dtake .dnil (.imin (.lit (32)) (.lit (0))))) (.lit (0)) 27)) (.rcons (.vint .u8 (.icell (.c3 .xcopy (.rcons o8 (.rcons o8 (.rcons o8 (.rcons o8 (.rcons o8 (.rcons o8 (.rcons o8 (.rcons o8 (.rcons o8 (.rcons o8 (.rcons o8 (.rcons o8 (.rcons o8 (.rcons o8 (.rcons o8 (.rcons o8 (.rcons o8 (.rcons o8 (.rcons o8 (.rcons o8 (.rcons o8 (.rcons o8 (.rcons o8 (.rcons o8 (.rcons o8 (.rcons o8 (.rcons o8 (.rcons o8 (.rcons o8 (.rcons o8 (.rcons o8 (.rcons o8 .rnil)))))))))))))))))))))))))))))))) (.lit (0)) (.dtake .dnil (.imin (.lit (32)) (.lit (0))))) (.lit (0)) 28)) (.rcons (.vint .u8 (.icell (.c3 .xcopy (.rcons o8 (.rcons o8 (.rcons o8 (.rcons o8 (.rcons o8 (.rcons o8 (.rcons o8 (.rcons o8 (.rcons o8 (.rcons o8 (.rcons o8 (.rcons o8 (.rcons o8 (.rcons o8 (.rcons o8 (.rcons o8 (.rcons o8 (.rcons o8 (.rcons o8 (.rcons o8 (.rcons o8 (.rcons o8 (.rcons o8 (.rcons o8 (.rcons o8 (.rcons o8 (.rcons o8 (.rcons o8 (.rcons o8 (.rcons o8 (.rcons o8 (.rcons o8 .rnil)))))))))))))))))))))))))))))))) (.lit (0)) (.dtake .dnil (.imin (.lit (32)) (.lit (0))))) (.lit (0)) 29)) (.rcons (.vint .u8 (.icell (.c3 .xcopy (.rcons o8 (.rcons o8 (.rcons o8 (.rcons o8 (.rcons o8 (.rcons o8 (.rcons o8 (.rcons o8 (.rcons o8 (.rcons o8 (.rcons o8 (.rcons o8 (.rcons o8 (.rcons o8 (.rcons o8 (.rcons o8 (.rcons o8 (.rcons o8 (.rcons o8 (.rcons o8 (.rcons o8 (.rcons o8 (.rcons o8 (.rcons o8 (.rcons o8 (.rcons o8 (.rcons o8 (.rcons o8 (.rcons o8 (.rcons o8 (.rcons o8 (.rcons o8 .rnil)))))))))))))))))))))))))))))))) (.lit (0)) (.dtake .dnil (.imin (.lit (32)) (.lit (0))))) (.lit (0)) 30)) (.rcons (.vint .u8 (.icell (.c3 .xcopy (.rcons o8 (.rcons o8 (.rcons o8 (.rcons o8 (.rcons o8 (.rcons o8 (.rcons o8 (.rcons o8 (.rcons o8 (.rcons o8 (.rcons o8 (.rcons o8 (.rcons o8 (.rcons o8 (.rcons o8 (.rcons o8 (.rcons o8 (.rcons o8 (.rcons o8 (.rcons o8 (.rcons o8 (.rcons o8 (.rcons o8 (.rcons o8 (.rcons o8 (.rcons o8 (.rcons o8 (.rcons o8 (.rcons o8 (.rcons o8 (.rcons o8 (.rcons o8 .rnil)))))))))))))))))))))))))))))))) (.lit (0)) (.dtake .dnil (.imin (.lit (32)) (.lit (0))))) (.lit (0)) 31)) .rnil))))))))))))))))))))))))))))))))))], [], [], []⟩)) .top))) (.both (.fresh 10 (.fresh 11 (.fresh 12 (.fresh 13 (.fresh 14 (.post 0 1 ⟨0, [(7, (.t (.var 7))), (6, (.t (.var 6))), (5, (.t (.var 5))), (4, (.t (.var 4))), (3, (.t (.var 3))), (2, (.t (.var 2))), (1, (.r 1)), (8, (.t (.lit (32)))), (0, (.r 0))], [((.lit (0)), (.lit (0)))], [], []⟩ 10 (.both (.need (.cmp .leq (.lit (0)) (.var 10)) (.need (.cmp .leq (.plus (.var 10) (.lit (32))) (.dlen (.var 6))) (.fresh 15 (.ret 0 ⟨8, [(12, (.t (.lit (0)))), (11, (.t (.var 14))), (10, (.t (.var 13))), (9, (.t (.var 12))), (8, (.t (.rcons (.vint .u8 (.icell (.c3 .xcopy (.rcons o8 (.rcons o8 (.rcons o8 (.rcons o8 (.rcons o8 (.rcons o8 (.rcons o8 (.rcons o8 (.rcons o8 (.rcons o8 (.rcons o8 (.rcons o8 (.rcons o8 (.rcons o8 (.rcons o8 (.rcons o8 (.rcons o8 (.rcons o8 (.rcons o8 (.rcons o8 (.rcons o8 (.rcons o8 (.rcons o8 (.rcons o8 (.rcons o8 (.rcons o8 (.rcons o8 (.rcons o8 (.rcons o8 (.rcons o8 (.rcons o8 (.rcons o8 .rnil)))))))))))))))))))))))))))))))) (.lit (0)) (.dtake (.ddrop (.var 6) (.var 10)) (.lit (32)))) (.lit (0)) 0)) (.rcons (.vint .u8 (.icell (.c3 .xcopy (.rcons o8 (.rcons o8 (.rcons o8 (.rcons o8 (.rcons o8 (.rcons o8 (.rcons o8 (.rcons o8 (.rcons o8 (.rcons o8 (.rcons o8 (.rcons o8 (.rcons o8 (.rcons o8 (.rcons o8 (.rcons o8 (.rcons o8 (.rcons o8 (.rcons o8 (.rcons o8 (.rcons o8 (.rcons o8 (.rcons o8 (.rcons o8 (.rcons o8 (.rcons o8 (.rcons o8 (.rcons o8 (.rcons o8 (.rcons o8 (.rcons o8 (.rcons o8 .rnil)))))))))))))))))))))))))))))))) (.lit (0)) (.dtake (.ddrop (.var 6) (.var 10)) (.lit (32)))) (.lit (0)) 1)) (.rcons (.vint .u8 (.icell (.c3 .xcopy (.rcons o8 (.rcons o8 (.rcons o8 (.rcons o8 (.rcons o8 (.rcons o8 (.rcons o8 (.rcons o8 (.rcons o8 (.rcons o8 (.rcons o8 (.rcons o8 (.rcons o8 (.rcons o8 (.rcons o8 (.rcons o8 (.rcons o8 (.rcons o8 (.rcons o8 (.rcons o8 (.rcons o8 (.rcons o8 (.rcons o8 (.rcons o8 (.rcons o8 (.rcons o8 (.rcons o8 (.rcons o8 (.rcons o8 (.rcons o8 (.rcons o8 (.rcons o8 .rnil)))))))))))))))))))))))))))))))) (.lit (0)) (.dtake (.ddrop (.var 6) (.var 10)) (.lit (32)))) (.lit (0)) 2)) (.rcons (.vint .u8 (.icell (.c3 .xcopy (.rcons o8 (.rcons o8 (.rcons o8 (.rcons o8 (.rcons o8 (.rcons o8 (.rcons o8 (.rcons o8 (.rcons o8 (.rcons o8 (.rcons o8 (.rcons o8 (.rcons o8 (.rcons o8 (.rcons o8 (.rcons o8 (.rcons o8 (.rcons o8 (.rcons o8 (.rcons o8 (.rcons o8 (.rcons o8 (.rcons o8 (.rcons o8 (.rcons o8 (.rcons o8 (.rcons o8 (.rcons o8 (.rcons o8 (.rcons o8 (.rcons o8 (.rcons o8 .rnil)))))))))))))))))))))))))))))))) (.lit (0)) (.dtake (.ddrop (.var 6) (.var 10)) (.lit (32)))) (.lit (0)) 3)) (.rcons (.vint .u8 (.icell (.c3 .xcopy (.rcons o8 (.rcons o8 (.rcons o8 (.rcons o8 (.rcons o8 (.rcons o8 (.rcons o8 (.rcons o8 (.rcons o8 (.rcons o8 (.rcons o8 (.rcons o8 (.rcons o8 (.rcons o8 (.rcons o8 (.rcons o8 (.rcons o8 (.rcons o8 (.rcons o8 (.rcons o8 (.rcons o8 (.rcons o8 (.rcons o8 (.rcons o8 (.rcons o8 (.rcons o8 (.rcons o8 (.rcons o8 (.rcons o8 (.rcons o8 (.rcons o8 (.rcons o8 .rnil)))))))))))))))))))))))))))))))) (.lit (0)) (.dtake (.ddrop (.var 6) (.var 10)) (.lit (32)))) (.lit (0)) 4)) (.rcons (.vint .u8 (.icell (.c3 .xcopy (.rcons o8 (.rcons o8 (.rcons o8 (.rcons o8 (.rcons o8 (.rcons o8 (.rcons o8 (.rcons o8 (.rcons o8 (.rcons o8 (.rcons o8 (.rcons o8 (.rcons o8 (.rcons o8 (.rcons o8 (.rcons o8 (.rcons o8 (.rcons o8 (.rcons o8 (.rcons o8 (.rcons o8 (.rcons o8 (.rcons o8 (.rcons o8 (.rcons o8 (.rcons o8 (.rcons o8 (.rcons o8 (.rcons o8 (.rcons o8 (.rcons o8 (.rcons o8 .rnil)))))))))))))))))))))))))))))))) (.lit (0)) (.dtake (.ddrop (.var 6) (.var 10)) (.lit (32)))) (.lit (0)) 5)) (.rcons (.vint .u8 (.icell (.c3 .xcopy (.rcons o8 (.rcons o8 (.rcons o8 (.rcons o8 (.rcons o8 (.rcons o8 (.rcons o8 (.rcons o8 (.rcons o8 (.rcons o8 (.rcons o8 (.rcons o8 (.rcons o8 (.rcons o8 (.rcons o8 (.rcons o8 (.rcons o8 (.rcons o8 (.rcons o8 (.rcons o8 (.rcons o8 (.rcons o8 (.rcons o8 (.rcons o8 (.rcons o8 (.rcons o8 (.rcons o8 (.rcons o8 (.rcons o8 (.rcons o8 (.rcons o8 (.rcons o8 .rnil)))))))))))))))))))))))))))))))) (.lit (0)) (.dtake (.ddrop (.var 6) (.var 10)) (.lit (32)))) (.lit (0)) 6)) (.rcons (.vint .u8 (.icell (.c3 .xcopy (.rcons o8 (.rcons o8 (.rcons o8 (.rcons o8 (.rcons o8 (.rcons o8 (.rcons o8 (.rcons o8 (.rcons o8 (.rcons o8 (.rcons o8 (.rcons o8 (.rcons o8 (.rcons o8 (.rcons o8 (.rcons o8 (.rcons o8 (.rcons o8 (.rcons o8 (.rcons o8 (.rcons o8 (.rcons o8 (.rcons o8 (.rcons o8 (.rcons o8 (.rcons o8 (.rcons o8 (.rcons o8 (.rcons o8 (.rcons o8 (.rcons o8 (.rcons o8 .rnil)))))))))))))))))))))))))))))))) (.lit (0)) (.dtake (.ddrop (.var 6) (.var 10)) (.lit (32)))) (.lit (0)) 7)) (.rcons (.vint .u8 (.icell (.c3 .xcopy (.rcons o8 (.rcons o8 (.rcons o8 (.rcons o8 (.rcons o8 (.rcons o8 (.rcons o8 (.rcons o8 (.rcons o8 (.rcons o8 (.rcons o8 (.rcons o8 (.rcons o8 (.rcons o8 (.rcons o8 (.rcons o8 (.rcons o8 (.rcons o8 (.rcons o8 (.rcons o8 (.rcons o8 (.rcons o8 (.rcons o8 (.rcons o8 (.rcons o8 (.rcons o8 (.rcons o8 (.rcons o8 (.rcons o8 (.rcons o8 (.rcons o8 (.rcons o8 .rnil)))))))))))))))))))))))))))))))) (.lit (0)) (.dtake (.ddrop (.var 6) (.var 10)) (.lit (32)))) (.lit (0)) 8)) (.rcons (.vint .u8 (.icell (.c3 .xcopy (.rcons o8 (.rcons o8 (.rcons o8 (.rcons o8 (.rcons o8 (.rcons o8 (.rcons o8 (.rcons o8 (.rcons o8 (.rcons o8 (.rcons o8 (.rcons o8 (.rcons o8 (.rcons o8 (.rcons o8 (.rcons o8 (.rcons o8 (.rcons o8 (.rcons o8 (.rcons o8 (.rcons o8 (.rcons o8 (.rcons o8 (.rcons o8 (.rcons o8 (.rcons o8 (.rcons o8 (.rcons o8 (.rcons o8 (.rcons o8 (.rcons o8 (.rcons o8 .rnil)))))))))))))))))))))))))))))))) (.lit (0)) (.dtake (.ddrop (.var 6) (.var 10)) (.lit (32)))) (.lit (0)) 9)) (.rcons (.vint .u8 (.icell (.c3 .xcopy (.rcons o8 (.rcons o8 (.rcons o8 (.rcons o8 (.rcons o8 (.rcons o8 (.rcons o8 (.rcons o8 (.rcons o8 (.rcons o8 (.rcons o8 (.rcons o8 (.rcons o8 (.rcons o8 (.rcons o8 (.rcons o8 (.rcons o8 (.rcons o8 (.rcons o8 (.rcons o8 (.rcons o8 (.rcons o8 (.rcons o8 (.rcons o8 (.rcons o8 (.rcons o8 (.rcons o8 (.rcons o8 (.rcons o8 (.rcons o8 (.rcons o8 (.rcons o8 .rnil)))))))))))))))))))))))))))))))) (.lit (0)) (.dtake (.ddrop (.var 6) (.var 10)) (.lit (32)))) (.lit (0)) 10)) (.rcons (.vint .u8 (.icell (.c3 .xcopy (.rcons o8 (.rcons o8 (.rcons o8 (.rcons o8 (.rcons o8 (.rcons o8 (.rcons o8 (.rcons o8 (.rcons o8 (.rcons o8 (.rcons o8 (.rcons o8 (.rcons o8 (.rcons o8 (.rcons o8 (.rcons o8 (.rcons o8 (.rcons o8 (.rcons o8 (.rcons o8 (.rcons o8 (.rcons o8 (.rcons o8 (.rcons o8 (.rcons o8 (.rcons o8 (.rcons o8 (.rcons o8 (.rcons o8 (.rcons o8 (.rcons o8 (.rcons o8 .rnil)))))))))))))))))))))))))))))))) (.lit (0)) (.dtake (.ddrop (.var 6) (.var 10)) (.lit (32)))) (.lit (0)) 11)) (.rcons (.vint .u8 (.icell (.c3 .xcopy (.rcons o8 (.rcons o8 (.rcons o8 (.rcons o8 (.rcons o8 (.rcons o8 (.rcons o8 (.rcons o8 (.rcons o8 (.rcons o8 (.rcons o8 (.rcons o8 (.rcons o8 (.rcons o8 (.rcons o8 (.rcons o8 (.rcons o8 (.rcons o8 (.rcons o8 (.rcons o8 (.rcons o8 (.rcons o8 (.rcons o8 (.rcons o8 (.rcons o8 (.rcons o8 (.rcons o8 (.rcons o8 (.rcons o8 (.rcons o8 (.rcons o8 (.rcons o8 .rnil)))))))))))))))))))))))))))))))) (.lit (0)) (.dtake (.ddrop (.var 6) (.var 10)) (.lit (32)))) (.lit (0)) 12)) (.rcons (.vint .u8 (.icell (.c3 .xcopy (.rcons o8 (.rcons o8 (.rcons o8 (.rcons o8 (.rcons o8 (.rcons o8 (.rcons o8 (.rcons o8 (.rcons o8 (.rcons o8 (.rcons o8 (.rcons o8 (.rcons o8 (.rcons o8 (.rcons o8 (.rcons o8 (.rcons o8 (.rcons o8 (.rcons o8 (.rcons o8 (.rcons o8 (.rcons o8 (.rcons o8 (.rcons o8 (.rcons o8 (.rcons o8 (.rcons o8 (.rcons o8 (.rcons o8 (.rcons o8 (.rcons o8 (.rcons o8 .rnil)))))))))))))))))))))))))))))))) (.lit (0)) (.dtake (.ddrop (.var 6) (.var 10)) (.lit (32)))) (.lit (0)) 13)) (.rcons (.vint .u8 (.icell (.c3 .xcopy (.rcons o8 (.rcons o8 (.rcons o8 (.rcons o8 (.rcons o8 (.rcons o8 (.rcons o8 (.rcons o8 (.rcons o8 (.rcons o8 (.rcons o8 (.rcons o8 (.rcons o8 (.rcons o8 (.rcons o8 (.rcons o8 (.rcons o8 (.rcons o8 (.rcons o8 (.rcons o8 (.rcons o8 (.rcons o8 (.rcons o8 (.rcons o8 (.rcons o8 (.rcons o8 (.rcons o8 (.rcons o8 (.rcons o8 (.rcons o8 (.rcons o8 (.rcons o8 .rnil)))))))))))))))))))))))))))))))) (.lit (0)) (.dtake (.ddrop (.var 6) (.var 10)) (.lit (32)))) (.lit (0)) 14)) (.rcons (.vint .u8 (.icell (.c3 .xcopy (.rcons o8 (.rcons o8 (.rcons o8 (.rcons o8 (.rcons o8 (.rcons o8 (.rcons o8 (.rcons o8 (.rcons o8 (.rcons o8 (.rcons o8 (.rcons o8 (.rcons o8 (.rcons o8 (.rcons o8 (.rcons o8 (.rcons o8 (.rcons o8 (.rcons o8 (.rcons o8 (.rcons o8 (.rcons o8 (.rcons o8 (.rcons o8 (.rcons o8 (.rcons o8 (.rcons o8 (.rcons o8 (.rcons o8 (.rcons o8 (.rcons o8 (.rcons o8 .rnil)))))))))))))))))))))))))))))))) (.lit (0)) (.dtake (.ddrop (.var 6) (.var 10)) (.lit (32)))) (.lit (0)) 15)) (.rcons (.vint .u8 (.icell (.c3 .xcopy (.rcons o8 (.rcons o8 (.rcons o8 (.rcons o8 (.rcons o8 (.rcons o8 (.rcons o8 (.rcons o8 (.rcons o8 (.rcons o8 (.rcons o8 (.rcons o8 (.rcons o8 (.rcons o8 (.rcons o8 (.rcons o8 (.rcons o8 (.rcons o8 (.rcons o8 (.rcons o8 (.rcons o8 (.rcons o8 (.rcons o8 (.rcons o8 (.rcons o8 (.rcons o8 (.rcons o8 (.rcons o8 (.rcons o8 (.rcons o8 (.rcons o8 (.rcons o8 .rnil)))))))))))))))))))))))))))))))) (.lit (0)) (.dtake (.ddrop (.var 6) (.var 10)) (.lit (32)))) (.lit (0)) 16)) (.rcons (.vint .u8 (.icell (.c3 .xcopy (.rcons o8 (.rcons o8 (.rcons o8 (.rcons o8 (.rcons o8 (.rcons o8 (.rcons o8 (.rcons o8 (.rcons o8 (.rcons o8 (.rcons o8 (.rcons o8 (.rcons o8 (.rcons o8 (.rcons o8 (.rcons o8 (.rcons o8 (.rcons o8 (.rcons o8 (.rcons o8 (.rcons o8 (.rcons o8 (.rcons o8 (.rcons o8 (.rcons o8 (.rcons o8 (.rcons o8 (.rcons o8 (.rcons o8 (.rcons o8 (.rcons o8 (.rcons o8 .rnil)))))))))))))))))))))))))))))))) (.lit (0)) (.dtake (.ddrop (.var 6) (.var 10)) (.lit (32)))) (.lit (0)) 17)) (.rcons (.vint .u8 (.icell (.c3 .xcopy (.rcons o8 (.rcons o8 (.rcons o8 (.rcons o8 (.rcons o8 (.rcons o8 (.rcons o8 (.rcons o8 (.rcons o8 (.rcons o8 (.rcons o8 (.rcons o8 (.rcons o8 (.rcons o8 (.rcons o8 (.rcons o8 (.rcons o8 (.rcons o8 (.rcons o8 (.rcons o8 (.rcons o8 (.rcons o8 (.rcons o8 (.rcons o8 (.rcons o8 (.rcons o8 (.rcons o8 (.rcons o8 (.rcons o8 (.rcons o8 (.rcons o8 (.rcons o8 .rnil)))))))))))))))))))))))))))))))) (.lit (0)) (.dtake (.ddrop (.var 6) (.var 10)) (.lit (32)))) (.lit (0)) 18)) (.rcons (.vint .u8 (.icell (.c3 .xcopy (.rcons o8 (.rcons o8 (.rcons o8 (.rcons o8 (.rcons o8 (.rcons o8 (.rcons o8 (.rcons o8 (.rcons o8 (.rcons o8 (.rcons o8 (.rcons o8 (.rcons o8 (.rcons o8 (.rcons o8 (.rcons o8 (.rcons o8 (.rcons o8 (.rcons o8 (.rcons o8 (.rcons o8 (.rcons o8 (.rcons o8 (.rcons o8 (.rcons o8 (.rcons o8 (.rcons o8 (.rcons o8 (.rcons o8 (.rcons o8 (.rcons o8 (.rcons o8 .rnil)))))))))))))))))))))))))))))))) (.lit (0)) (.dtake (.ddrop (.var 6) (.var 10)) (.lit (32)))) (.lit (0)) 19)) (.rcons (.vint .u8 (.icell (.c3 .xcopy (.rcons o8 (.rcons o8 (.rcons o8 (.rcons o8 (.rcons o8 (.rcons o8 (.rcons o8 (.rcons o8 (.rcons o8 (.rcons o8 (.rcons o8 (.rcons o8 (.rcons o8 (.rcons o8 (.rcons o8 (.rcons o8 (.rcons o8 (.rcons o8 (.rcons o8 (.rcons o8 (.rcons o8 (.rcons o8 (.rcons o8 (.rcons o8 (.rcons o8 (.rcons o8 (.rcons o8 (.rcons o8 (.rcons o8 (.rcons o8 (.rcons o8 (.rcons o8 .rnil)))))))))))))))))))))))))))))))) (.lit (0)) (.dtake (.ddrop (.var 6) (.var 10)) (.lit (32)))) (.lit (0)) 20)) (.rcons (.vint .u8 (.icell (.c3 .xcopy (.rcons o8 (.rcons o8 (.rcons o8 (.rcons o8 (.rcons o8 (.rcons o8 (.rcons o8 (.rcons o8 (.rcons o8 (.rcons o8 (.rcons o8 (.rcons o8 (.rcons o8 (.rcons o8 (.rcons o8 (.rcons o8 (.rcons o8 (.rcons o8 (.rcons o8 (.rcons o8 (.rcons o8 (.rcons o8 (.rcons o8 (.rcons o8 (.rcons o8 (.rcons o8 (.rcons o8 (.rcons o8 (.rcons o8 (.rcons o8 (.rcons o8 (.rcons o8 .rnil)))))))))))))))))))))))))))))))) (.lit (0)) (.dtake (.ddrop (.var 6) (.var 10)) (.lit (32)))) (.lit (0)) 21)) (.rcons (.vint .u8 (.icell (.c3 .xcopy (.rcons o8 (.rcons o8 (.rcons o8 (.rcons o8 (.rcons o8 (.rcons o8 (.rcons o8 (.rcons o8 (.rcons o8 (.rcons o8 (.rcons o8 (.rcons o8 (.rcons o8 (.rcons o8 (.rcons o8 (.rcons o8 (.rcons o8 (.rcons o8 (.rcons o8 (.rcons o8 (.rcons o8 (.rcons o8 (.rcons o8 (.rcons o8 (.rcons o8 (.rcons o8 (.rcons o8 (.rcons o8 (.rcons o8 (.rcons o8 (.rcons o8 (.rcons o8 .rnil)))))))))))))))))))))))))))))))) (.lit (0)) (.dtake (.ddrop (.var 6) (.var 10)) (.lit (32)))) (.lit (0)) 22)) (.rcons (.vint .u8 (.icell (.c3 .xcopy (.rcons o8 (.rcons o8 (.rcons o8 (.rcons o8 (.rcons o8 (.rcons o8 (.rcons o8 (.rcons o8 (.rcons o8 (.rcons o8 (.rcons o8 (.rcons o8 (.rcons o8 (.rcons o8 (.rcons o8 (.rcons o8 (.rcons o8 (.rcons o8 (.rcons o8 (.rcons o8 (.rcons o8 (.rcons o8 (.rcons o8 (.rcons o8 (.rcons o8 (.rcons o8 (.rcons o8 (.rcons o8 (.rcons o8 (.rcons o8 (.rcons o8 (.rcons o8 .rnil)))))))))))))))))))))))))))))))) (.lit (0)) (.dtake (.ddrop (.var 6) (.var 10)) (.lit (32)))) (.lit (0)) 23)) (.rcons (.vint .u8 (.icell (.c3 .xcopy (.rcons o8 (.rcons o8 (.rcons o8 (.rcons o8 (.rcons o8 (.rcons o8 (.rcons o8 (.rcons o8 (.rcons o8 (.rcons o8 (.rcons o8 (.rcons o8 (.rcons o8 (.rcons o8 (.rcons o8 (.rcons o8 (.rcons o8 (.rcons o8 (.rcons o8 (.rcons o8 (.rcons o8 (.rcons o8 (.rcons o8 (.rcons o8 (.rcons o8 (.rcons o8 (.rcons o8 (.rcons o8 (.rcons o8 (.rcons o8 (.rcons o8 (.rcons o8 .rnil)))))))))))))))))))))))))))))))) (.lit (0)) (.dtake (.ddrop (.var 6) (.var 10)) (.lit (32)))) (.lit (0)) 24)) (.rcons (.vint .u8 (.icell (.c3 .xcopy (.rcons o8 (.rcons o8 (.rcons o8 (.rcons o8 (.rcons o8 (.rcons o8 (.rcons o8 (.rcons o8 (.rcons o8 (.rcons o8 (.rcons o8 (.rcons o8 (.rcons o8 (.rcons o8 (.rcons o8 (.rcons o8 (.rcons o8 (.rcons o8 (.rcons o8 (.rcons o8 (.rcons o8 (.rcons o8 (.rcons o8 (.rcons o8 (.rcons o8 (.rcons o8 (.rcons o8 (.rcons o8 (.rcons o8 (.rcons o8 (.rcons o8 (.rcons o8 .rnil)))))))))))))))))))))))))))))))) (.lit (0)) (.dtake (.ddrop (.var 6) (.var 10)) (.lit (32)))) (.lit (0)) 25)) (.rcons (.vint .u8 (.icell (.c3 .xcopy (.rcons o8 (.rcons o8 (.rcons o8 (.rcons o8 (.rcons o8 (.rcons o8 (.rcons o8 (.rcons o8 (.rcons o8 (.rcons o8 (.rcons o8 (.rcons o8 (.rcons o8 (.rcons o8 (.rcons o8 (.rcons o8 (.rcons o8 (.rcons o8 (.rcons o8 (.rcons o8 (.rcons o8 (.rcons o8 (.rcons o8 (.rcons o8 (.rcons o8 (.rcons o8 (.rcons o8 (.rcons o8 (.rcons o8 (.rcons o8 (.rcons o8 (.rcons o8 .rnil)))))))))))))))))))))))))))))))) (.lit (0)) (.dtake (.ddrop (.var 6) (.var 10)) (.lit (32)))) (.lit (0)) 26)) (.rcons (.vint .u8 (.icell (.c3 .xcopy (.rcons o8 (.rcons o8 (.rcons o8 (.rcons o8 (.rcons o8 (.rcons o8 (.rcons o8 (.rcons o8 (.rcons o8 (.rcons o8 (.rcons o8 (.rcons o8 (.rcons o8 (.rcons o8 (.rcons o8 (.rcons o8 (.rcons o8 (.rcons o8 (.rcons o8 (.rcons o8 (.rcons o8 (.rcons o8 (.rcons o8 (.rcons o8 (.rcons o8 (.rcons o8 (.rcons o8 (.rcons o8 (.rcons o8 (.rcons o8 (.rcons o8 (.rcons o8 .rnil)))))))))))))))))))))))))))))))) (.lit (0)) (.dtake (.ddrop (.var 6) (.var 10)) (.lit (32)))) (.lit (0)) 27)) (.rcons (.vint .u8 (.icell (.c3 .xcopy (.rcons o8 (.rcons o8 (.rcons o8 (.rcons o8 (.rcons o8 (.rcons o8 (.rcons o8 (.rcons o8 (.rcons o8 (.rcons o8 (.rcons o8 (.rcons o8 (.rcons o8 (.rcons o8 (.rcons o8 (.rcons o8 (.rcons o8 (.rcons o8 (.rcons o8 (.rcons o8 (.rcons o8 (.rcons o8 (.rcons o8 (.rcons o8 (.rcons o8 (.rcons o8 (.rcons o8 (.rcons o8 (.rcons o8 (.rcons o8 (.rcons o8 (.rcons o8 .rnil)))))))))))))))))))))))))))))))) (.lit (0)) (.dtake (.ddrop (.var 6) (.var 10)) (.lit (32)))) (.lit (0)) 28)) (.rcons (.vint .u8 (.icell (.c3 .xcopy (.rcons o8 (.rcons o8 (.rcons o8 (.rcons o8 (.rcons o8 (.rcons o8 (.rcons o8 (.rcons o8 (.rcons o8 (.rcons o8 (.rcons o8 (.rcons o8 (.rcons o8 (.rcons o8 (.rcons o8 (.rcons o8 (.rcons o8 (.rcons o8 (.rcons o8 (.rcons o8 (.rcons o8 (.rcons o8 (.rcons o8 (.rcons o8 (.rcons o8 (.rcons o8 (.rcons o8 (.rcons o8 (.rcons o8 (.rcons o8 (.rcons o8 (.rcons o8 .rnil)))))))))))))))))))))))))))))))) (.lit (0)) (.dtake (.ddrop (.var 6) (.var 10)) (.lit (32)))) (.lit (0)) 29)) (.rcons (.vint .u8 (.icell (.c3 .xcopy (.rcons o8 (.rcons o8 (.rcons o8 (.rcons o8 (.rcons o8 (.rcons o8 (.rcons o8 (.rcons o8 (.rcons o8 (.rcons o8 (.rcons o8 (.rcons o8 (.rcons o8 (.rcons o8 (.rcons o8 (.rcons o8 (.rcons o8 (.rcons o8 (.rcons o8 (.rcons o8 (.rcons o8 (.rcons o8 (.rcons o8 (.rcons o8 (.rcons o8 (.rcons o8 (.rcons o8 (.rcons o8 (.rcons o8 (.rcons o8 (.rcons o8 (.rcons o8 .rnil)))))))))))))))))))))))))))))))) (.lit (0)) (.dtake (.ddrop (.var 6) (.var 10)) (.lit (32)))) (.lit (0)) 30)) (.rcons (.vint .u8 (.icell (.c3 .xcopy (.rcons o8 (.rcons o8 (.rcons o8 (.rcons o8 (.rcons o8 (.rcons o8 (.rcons o8 (.rcons o8 (.rcons o8 (.rcons o8 (.rcons o8 (.rcons o8 (.rcons o8 (.rcons o8 (.rcons o8 (.rcons o8 (.rcons o8 (.rcons o8 (.rcons o8 (.rcons o8 (.rcons o8 (.rcons o8 (.rcons o8 (.rcons o8 (.rcons o8 (.rcons o8 (.rcons o8 (.rcons o8 (.rcons o8 (.rcons o8 (.rcons o8 (.rcons o8 .rnil)))))))))))))))))))))))))))))))) (.lit (0)) (.dtake (.ddrop (.var 6) (.var 10)) (.lit (32)))) (.lit (0)) 31)) .rnil))))))))))))))))))))))))))))))))))], [], [], []⟩)))) .top))))))) .top))) .top)))
theorem o_rDg_eq : treeOf ⟨Tryd.prog, rDgC, [takeC], []⟩ 100000 Tryd.f97 = o_rDg := by kernel_rfl
theorem rDg_of (hd : ∀ c ∈ ([takeC] : List Ctr), c.ok Tryd.prog) (h : ∀ ρ : Env, ρ.good → (rDgC).pre ρ → o_rDg.den ⟨Tryd.prog, rDgC, [takeC], []⟩ ρ) : (rDgC).ok Tryd.prog :=
  ok_of_tree Tryd.func97 (fun a w => Tryd.call97 a w) hd 100000 (fun ρ hg hp => by rw [o_rDg_eq]; exact h ρ hg hp)
def o_part : Out := (.fresh 6 (.fresh 7 (.inv 0 8 ⟨1000, [(1002, (.t (.rcons o8 (.rcons o8 (.rcons o8 (.rcons o8 (.rcons o8 (.rcons o8 (.rcons o8 (.rcons o8 (.rcons o8 (.rcons o8 (.rcons o8 (.rcons o8 (.rcons o8 (.rcons o8 (.rcons o8 (.rcons o8 (.rcons o8 (.rcons o8 (.rcons o8 (.rcons o8 (.rcons o8 (.rcons o8 (.rcons o8 (.rcons o8 (.rcons o8 (.rcons o8 (.rcons o8 (.rcons o8 (.rcons o8 (.rcons o8 (.rcons o8 (.rcons o8 .rnil)))))))))))))))))))))))))))))))))), (1003, (.t (.lit (0)))), (1001, (.r 7)), (1000, (.r 6))], [((.lit (1)), (.lit (1))), ((.lit (0)), (.lit (0))), ((.lit (0)), (.lit (0))), ((.lit (0)), (.lit (0))), ((.lit (0)), (.lit (0))), ((.lit (0)), (.lit (0))), ((.lit (0)), (.lit (0))), ((.lit (0)), (.lit (0))), ((.lit (0)), (.lit (0))), ((.lit (0)), (.lit (0))), ((.lit (0)), (.lit (0))), ((.lit (0)), (.lit (0))), ((.lit (0)), (.lit (0))), ((.lit (0)), (.lit (0))), ((.lit (0)), (.lit (0))), ((.lit (0)), (.lit (0))), ((.lit (0)), (.lit (0))), ((.lit (0)), (.lit (0))), ((.lit (0)), (.lit (0))), ((.lit (0)), (.lit (0))), ((.lit (0)), (.lit (0))), ((.lit (0)), (.lit (0))), ((.lit (0)), (.lit (0))), ((.lit (0)), (.lit (0))), ((.lit (0)), (.lit (0))), ((.lit (0)), (.lit (0))), ((.lit (0)), (.lit (0))), ((.lit (0)), (.lit (0))), ((.lit (0)), (.lit (0))), ((.lit (0)), (.lit (0))), ((.lit (0)), (.lit (0))), ((.lit (0)), (.lit (0))), ((.lit (0)), (.lit (0))), ((.var 5), (.var 5)), ((.var 2), (.var 2)), ((.var 1), (.var 1)), ((.lit (0)), (.lit (0)))], [], []⟩ (.fresh 8 (.fresh 9 (.fresh 10 (.fresh 11 (.hyp 0 8 (.br (.cmp .lss (.var 11) (.lit (32)))
 (.need (.cmp .leq (.lit (0)) (.arith .add .i64 (.var 5) (.var 11))) (.need (.cmp .lss (.arith .add .i64 (.var 5) (.var 11)) (.var 1)) (.need (.cmp .lss (.arith .add .i64 (.var 5) (.var 11)) (.dlen (.var 3))) (.need (.cmp .leq (.lit (0)) (.var 11)) (.need (.cmp .lss (.lit (0)) (.dlen (.var 10))) (.back 0 8 ⟨1000, [(1002, (.t (.c3 (.xput 0) (.var 10) (.var 11) (.vint .u8 (.icell (.var 3) (.arith .add .i64 (.var 5) (.var 11)) 0))))), (1003, (.t (.arith .add .i64 (.var 11) (.lit (1))))), (1001, (.r 9)), (1000, (.r 8))], [((.lit (1)), (.lit (1))), ((.lit (0)), (.lit (0))), ((.lit (0)), (.lit (0))), ((.lit (0)), (.lit (0))), ((.lit (0)), (.lit (0))), ((.lit (0)), (.lit (0))), ((.lit (0)), (.lit (0))), ((.lit (0)), (.lit (0))), ((.lit (0)), (.lit (0))), ((.lit (0)), (.lit (0))), ((.lit (0)), (.lit (0))), ((.lit (0)), (.lit (0))), ((.lit (0)), (.lit (0))), ((.lit (0)), (.lit (0))), ((.lit (0)), (.lit (0))), ((.lit (0)), (.lit (0))), ((.lit (0)), (.lit (0))), ((.lit (0)), (.lit (0))), ((.lit (0)), (.lit (0))), ((.lit (0)), (.lit (0))), ((.lit (0)), (.lit (0))), ((.lit (0)), (.lit (0))), ((.lit (0)), (.lit (0))), ((.lit (0)), (.lit (0))), ((.lit (0)), (.lit (0))), ((.lit (0)), (.lit (0))), ((.lit (0)), (.lit (0))), ((.lit (0)), (.lit (0))), ((.lit (0)), (.lit (0))), ((.lit (0)), (.lit (0))), ((.lit (0)), (.lit (0))), ((.lit (0)), (.lit (0))), ((.lit (0)), (.lit (0))), ((.lit (0)), (.lit (0))), ((.lit (0)), (.lit (0))), ((.var 5), (.var 5)), ((.var 2), (.var 2)), ((.var 1), (.var 1)), ((.lit (0)), (.lit (0)))], [], []⟩))))))
 (.need (.cmp .lss (.lit (0)) (.dlen (.var 10))) (.ret 0 ⟨6, [(6, (.t (.rcons (.vint .u8 (.icell (.var 10) (.lit (0)) 0)) (.rcons (.vint .u8 (.icell (.var 10) (.lit (0)) 1)) (.rcons (.vint .u8 (.icell (.var 10) (.lit (0)) 2)) (.rcons (.vint .u8 (.icell (.var 10) (.lit (0)) 3)) (.rcons (.vint .u8 (.icell (.var 10) (.lit (0)) 4)) (.rcons (.vint .u8 (.icell (.var 10) (.lit (0)) 5)) (.rcons (.vint .u8 (.icell (.var 10) (.lit (0)) 6)) (.rcons (.vint .u8 (.icell (.var 10) (.lit (0)) 7)) (.rcons (.vint .u8 (.icell (.var 10) (.lit (0)) 8)) (.rcons (.vint .u8 (.icell (.var 10) (.lit (0)) 9)) (.rcons (.vint .u8 (.icell (.var 10) (.lit (0)) 10)) (.rcons (.vint .u8 (.icell (.var 10) (.lit (0)) 11)) (.rcons (.vint .u8 (.icell (.var 10) (.lit (0)) 12)) (.rcons (.vint .u8 (.icell (.var 10) (.lit (0)) 13)) (.rcons (.vint .u8 (.icell (.var 10) (.lit (0)) 14)) (.rcons (.vint .u8 (.icell (.var 10) (.lit (0)) 15)) (.rcons (.vint .u8 (.icell (.var 10) (.lit (0)) 16)) (.rcons (.vint .u8 (.icell (.var 10) (.lit (0)) 17)) (.rcons (.vint .u8 (.icell (.var 10) (.lit (0)) 18)) (.rcons (.vint .u8 (.icell (.var 10) (.lit (0)) 19)) (.rcons (.vint .u8 (.icell (.var 10) (.lit (0)) 20)) (.rcons (.vint .u8 (.icell (.var 10) (.lit (0)) 21)) (.rcons (.vint .u8 (.icell (.var 10) (.lit (0)) 22)) (.rcons (.vint .u8 (.icell (.var 10) (.lit (0)) 23)) (.rcons (.vint .u8 (.icell (.var 10) (.lit (0)) 24)) (.rcons (.vint .u8 (.icell (.var 10) (.lit (0)) 25)) (.rcons (.vint .u8 (.icell (.var 10) (.lit (0)) 26)) (.rcons (.vint .u8 (.icell (.var 10) (.lit (0)) 27)) (.rcons (.vint .u8 (.icell (.var 10) (.lit (0)) 28)) (.rcons (.vint .u8 (.icell (.var 10) (.lit (0)) 29)) (.rcons (.vint .u8 (.icell (.var 10) (.lit (0)) 30)) (.rcons (.vint .u8 (.icell (.var 10) (.lit (0)) 31)) .rnil))))))))))))))))))))))))))))))))))], [], [], []⟩)))))))))))
theorem o_part_eq : treeOf ⟨Tryd.prog, partC, [], [partI]⟩ 100000 Tryd.f98 = o_part := by kernel_rfl
theorem part_of (hd : ∀ c ∈ ([] : List Ctr), c.ok Tryd.prog) (h : ∀ ρ : Env, ρ.good → (partC).pre ρ → o_part.den ⟨Tryd.prog, partC, [], [partI]⟩ ρ) : (partC).ok Tryd.prog :=
  ok_of_tree Tryd.func98 (fun a w => Tryd.call98 a w) hd 100000 (fun ρ hg hp => by rw [o_part_eq]; exact h ρ hg hp)
def o_sizesR : Out := (.br (.cmp .leq (.lit (1)) (.var 0))
 (.br (.cmp .leq (.var 0) (.var 1))
 (.br (.cmp .leq (.var 1) (.var 2))
 (.ret 0 ⟨3, [(3, (.t (.cmp .leq (.var 2) (.lit (255)))))], [], [], []⟩)
 (.ret 0 ⟨3, [(3, (.t (.bl false)))], [], [], []⟩))
 (.ret 0 ⟨3, [(3, (.t (.bl false)))], [], [], []⟩))
 (.ret 0 ⟨3, [(3, (.t (.bl false)))], [], [], []⟩))
theorem o_sizesR_eq : treeOf ⟨Tryd.prog, sizesRC, [], []⟩ 100000 Tryd.f73 = o_sizesR := by kernel_rfl
theorem sizesR_of (hd : ∀ c ∈ ([] : List Ctr), c.ok Tryd.prog) (h : ∀ ρ : Env, ρ.good → (sizesRC).pre ρ → o_sizesR.den ⟨Tryd.prog, sizesRC, [], []⟩ ρ) : (sizesRC).ok Tryd.prog :=
  ok_of_tree Tryd.func73 (fun a w => Tryd.call73 a w) hd 100000 (fun ρ hg hp => by rw [o_sizesR_eq]; exact h ρ hg hp)
def o_decM : Out := (.fresh 5 (.pre 0 ⟨0, [(4, (.t (.var 4))), (3, (.t (.var 3))), (2, (.t (.var 2))), (1, (.t (.var 1))), (0, (.r 0))], [((.lit (0)), (.lit (0)))], [], []⟩ (.both (.fresh 6 (.fresh 7 (.fresh 8 (.fresh 9 (.post 0 0 ⟨0, [(4, (.t (.var 4))), (3, (.t (.var 3))), (2, (.t (.var 2))), (1, (.t (.var 1))), (0, (.r 0))], [((.lit (0)), (.lit (0)))], [], []⟩ 6 (.know (.cmp .leq (.dlen (.var 9)) (.var 8)) (.pre 2 ⟨0, [(7, (.t (.var 8))), (6, (.t (.var 9))), (5, (.t (.lit (0)))), (4, (.t (.var 8))), (3, (.t (.var 1))), (2, (.t (.lit (0)))), (1, (.r 7)), (0, (.r 6))], [((.lit (0)), (.lit (0)))], [], []⟩ (.both (.fresh 10 (.fresh 11 (.fresh 12 (.fresh 13 (.fresh 14 (.post 2 0 ⟨0, [(7, (.t (.var 8))), (6, (.t (.var 9))), (5, (.t (.lit (0)))), (4, (.t (.var 8))), (3, (.t (.var 1))), (2, (.t (.lit (0)))), (1, (.r 7)), (0, (.r 6))], [((.lit (0)), (.lit (0)))], [], []⟩ 10 (.pre 1 ⟨0, [(7, (.t (.var 8))), (6, (.t (.var 9))), (5, (.t (.var 14))), (4, (.t (.var 13))), (3, (.t (.var 12))), (2, (.t (.var 11))), (1, (.r 7)), (0, (.r 6))], [((.lit (0)), (.lit (0)))], [], []⟩ (.both (.fresh 15 (.fresh 16 (.fresh 17 (.fresh 18 (.fresh 19 (.post 1 0 ⟨0, [(7, (.t (.var 8))), (6, (.t (.var 9))), (5, (.t (.var 14))), (4, (.t (.var 13))), (3, (.t (.var 12))), (2, (.t (.var 11))), (1, (.r 7)), (0, (.r 6))], [((.lit (0)), (.lit (0)))], [], []⟩ 15 (.pre 1 ⟨0, [(7, (.t (.var 8))), (6, (.t (.var 9))), (5, (.t (.var 19))), (4, (.t (.var 18))), (3, (.t (.var 17))), (2, (.t (.var 16))), (1, (.r 7)), (0, (.r 6))], [((.lit (0)), (.lit (0)))], [], []⟩ (.both (.fresh 20 (.fresh 21 (.fresh 22 (.fresh 23 (.fresh 24 (.post 1 0 ⟨0, [(7, (.t (.var 8))), (6, (.t (.var 9))), (5, (.t (.var 19))), (4, (.t (.var 18))), (3, (.t (.var 17))), (2, (.t (.var 16))), (1, (.r 7)), (0, (.r 6))], [((.lit (0)), (.lit (0)))], [], []⟩ 20 (.pre 1 ⟨0, [(7, (.t (.var 8))), (6, (.t (.var 9))), (5, (.t (.var 24))), (4, (.t (.var 23))), (3, (.t (.var 22))), (2, (.t (.var 21))), (1, (.r 7)), (0, (.r 6))], [((.lit (0)), (.lit (0)))], [], []⟩ (.both (.fresh 25 (.fresh 26 (.fresh 27 (.fresh 28 (.fresh 29 (.post 1 0 ⟨0, [(7, (.t (.var 8))), (6, (.t (.var 9))), (5, (.t (.var 24))), (4, (.t (.var 23))), (3, (.t (.var 22))), (2, (.t (.var 21))), (1, (.r 7)), (0, (.r 6))], [((.lit (0)), (.lit (0)))], [], []⟩ 25 (.pre 2 ⟨0, [(7, (.t (.var 8))), (6, (.t (.var 9))), (5, (.t (.var 29))), (4, (.t (.var 28))), (3, (.t (.var 27))), (2, (.t (.var 26))), (1, (.r 7)), (0, (.r 6))], [((.lit (0)), (.lit (0)))], [], []⟩ (.both (.fresh 30 (.fresh 31 (.fresh 32 (.fresh 33 (.fresh 34 (.post 2 0 ⟨0, [(7, (.t (.var 8))), (6, (.t (.var 9))), (5, (.t (.var 29))), (4, (.t (.var 28))), (3, (.t (.var 27))), (2, (.t (.var 26))), (1, (.r 7)), (0, (.r 6))], [((.lit (0)), (.lit (0)))], [], []⟩ 30 (.fresh 35 (.pre 3 ⟨0, [(5, (.t (.var 34))), (4, (.t (.var 33))), (3, (.t (.var 32))), (2, (.t (.var 31))), (1, (.r 7)), (0, (.r 6))], [((.lit (0)), (.lit (0)))], [], []⟩ (.both (.post 3 0 ⟨0, [(5, (.t (.var 34))), (4, (.t (.var 33))), (3, (.t (.var 32))), (2, (.t (.var 31))), (1, (.r 7)), (0, (.r 6))], [((.lit (0)), (.lit (0)))], [], []⟩ 36 (.br (.cmp .neq (.var 34) (.lit (0)))
 (.ret 0 ⟨5, [(5, (.t (.var 34)))], [((.lit (0)), (.lit (0))), ((.lit (0)), (.lit (0))), ((.lit (0)), (.lit (0))), ((.lit (0)), (.lit (0))), ((.lit (0)), (.lit (0))), ((.lit (0)), (.lit (0))), ((.lit (0)), (.lit (0))), ((.lit (0)), (.lit (0))), ((.lit (0)), (.lit (0))), ((.lit (0)), (.lit (0))), ((.lit (0)), (.lit (0))), ((.lit (0)), (.lit (0))), ((.lit (0)), (.lit (0))), ((.lit (0)), (.lit (0))), ((.lit (0)), (.lit (0))), ((.lit (0)), (.lit (0))), ((.lit (0)), (.lit (0))), ((.lit (0)), (.lit (0))), ((.lit (0)), (.lit (0))), ((.lit (0)), (.lit (0))), ((.lit (0)), (.lit (0))), ((.lit (0)), (.lit (0))), ((.lit (0)), (.lit (0))), ((.lit (0)), (.lit (0))), ((.lit (0)), (.lit (0))), ((.lit (0)), (.lit (0))), ((.lit (0)), (.lit (0))), ((.lit (0)), (.lit (0))), ((.lit (0)), (.lit (0))), ((.lit (0)), (.lit (0))), ((.lit (0)), (.lit (0))), ((.lit (0)), (.lit (0))), ((.lit (0)), (.lit (0))), ((.lit (0)), (.lit (0))), ((.lit (0)), (.lit (0))), ((.lit (0)), (.lit (0)))], [], []⟩)
 (.br (.cmp .neq (.var 10) (.lit (19713)))
 (.ret 0 ⟨5, [(5, (.t (.lit (5))))], [((.lit (0)), (.lit (0))), ((.lit (0)), (.lit (0))), ((.lit (0)), (.lit (0))), ((.lit (0)), (.lit (0))), ((.lit (0)), (.lit (0))), ((.lit (0)), (.lit (0))), ((.lit (0)), (.lit (0))), ((.lit (0)), (.lit (0))), ((.lit (0)), (.lit (0))), ((.lit (0)), (.lit (0))), ((.lit (0)), (.lit (0))), ((.lit (0)), (.lit (0))), ((.lit (0)), (.lit (0))), ((.lit (0)), (.lit (0))), ((.lit (0)), (.lit (0))), ((.lit (0)), (.lit (0))), ((.lit (0)), (.lit (0))), ((.lit (0)), (.lit (0))), ((.lit (0)), (.lit (0))), ((.lit (0)), (.lit (0))), ((.lit (0)), (.lit (0))), ((.lit (0)), (.lit (0))), ((.lit (0)), (.lit (0))), ((.lit (0)), (.lit (0))), ((.lit (0)), (.lit (0))), ((.lit (0)), (.lit (0))), ((.lit (0)), (.lit (0))), ((.lit (0)), (.lit (0))), ((.lit (0)), (.lit (0))), ((.lit (0)), (.lit (0))), ((.lit (0)), (.lit (0))), ((.lit (0)), (.lit (0))), ((.lit (0)), (.lit (0))), ((.lit (0)), (.lit (0))), ((.lit (0)), (.lit (0))), ((.lit (0)), (.lit (0)))], [], []⟩)
 (.pre 4 ⟨0, [(2, (.t (.conv .i64 (.var 25)))), (1, (.t (.conv .i64 (.var 20)))), (0, (.t (.conv .i64 (.var 15))))], [], [], []⟩ (.both (.fresh 36 (.post 4 0 ⟨0, [(2, (.t (.conv .i64 (.var 25)))), (1, (.t (.conv .i64 (.var 20)))), (0, (.t (.conv .i64 (.var 15))))], [], [], []⟩ 36 (.br (.not (.var 36))
 (.ret 0 ⟨5, [(5, (.t (.lit (2))))], [((.lit (0)), (.lit (0))), ((.lit (0)), (.lit (0))), ((.lit (0)), (.lit (0))), ((.lit (0)), (.lit (0))), ((.lit (0)), (.lit (0))), ((.lit (0)), (.lit (0))), ((.lit (0)), (.lit (0))), ((.lit (0)), (.lit (0))), ((.lit (0)), (.lit (0))), ((.lit (0)), (.lit (0))), ((.lit (0)), (.lit (0))), ((.lit (0)), (.lit (0))), ((.lit (0)), (.lit (0))), ((.lit (0)), (.lit (0))), ((.lit (0)), (.lit (0))), ((.lit (0)), (.lit (0))), ((.lit (0)), (.lit (0))), ((.lit (0)), (.lit (0))), ((.lit (0)), (.lit (0))), ((.lit (0)), (.lit (0))), ((.lit (0)), (.lit (0))), ((.lit (0)), (.lit (0))), ((.lit (0)), (.lit (0))), ((.lit (0)), (.lit (0))), ((.lit (0)), (.lit (0))), ((.lit (0)), (.lit (0))), ((.lit (0)), (.lit (0))), ((.lit (0)), (.lit (0))), ((.lit (0)), (.lit (0))), ((.lit (0)), (.lit (0))), ((.lit (0)), (.lit (0))), ((.lit (0)), (.lit (0))), ((.lit (0)), (.lit (0))), ((.lit (0)), (.lit (0))), ((.lit (0)), (.lit (0))), ((.lit (0)), (.lit (0)))], [], []⟩)
 (.br (.cmp .gtr (.conv .i64 (.var 30)) (.lit (8192)))
 (.ret 0 ⟨5, [(5, (.t (.lit (2))))], [((.lit (0)), (.lit (0))), ((.lit (0)), (.lit (0))), ((.lit (0)), (.lit (0))), ((.lit (0)), (.lit (0))), ((.lit (0)), (.lit (0))), ((.lit (0)), (.lit (0))), ((.lit (0)), (.lit (0))), ((.lit (0)), (.lit (0))), ((.lit (0)), (.lit (0))), ((.lit (0)), (.lit (0))), ((.lit (0)), (.lit (0))), ((.lit (0)), (.lit (0))), ((.lit (0)), (.lit (0))), ((.lit (0)), (.lit (0))), ((.lit (0)), (.lit (0))), ((.lit (0)), (.lit (0))), ((.lit (0)), (.lit (0))), ((.lit (0)), (.lit (0))), ((.lit (0)), (.lit (0))), ((.lit (0)), (.lit (0))), ((.lit (0)), (.lit (0))), ((.lit (0)), (.lit (0))), ((.lit (0)), (.lit (0))), ((.lit (0)), (.lit (0))), ((.lit (0)), (.lit (0))), ((.lit (0)), (.lit (0))), ((.lit (0)), (.lit (0))), ((.lit (0)), (.lit (0))), ((.lit (0)), (.lit (0))), ((.lit (0)), (.lit (0))), ((.lit (0)), (.lit (0))), ((.lit (0)), (.lit (0))), ((.lit (0)), (.lit (0))), ((.lit (0)), (.lit (0))), ((.lit (0)), (.lit (0))), ((.lit (0)), (.lit (0)))], [], []⟩)
 (.pre 5 ⟨0, [(7, (.t (.var 8))), (6, (.t (.var 9))), (5, (.t (.var 34))), (4, (.t (.var 33))), (3, (.t (.var 32))), (2, (.t (.var 31))), (1, (.r 7)), (0, (.r 6))], [((.lit (0)), (.lit (0)))], [], []⟩ (.both (.fresh 37 (.fresh 38 (.fresh 39 (.fresh 40 (.fresh 41 (.post 5 0 ⟨0, [(7, (.t (.var 8))), (6, (.t (.var 9))), (5, (.t (.var 34))), (4, (.t (.var 33))), (3, (.t (.var 32))), (2, (.t (.var 31))), (1, (.r 7)), (0, (.r 6))], [((.lit (0)), (.lit (0)))], [], []⟩ 37 (.inv 0 42 ⟨1000, [(1018, (.t (.var 8))), (1017, (.t (.var 9))), (1016, (.t (.var 41))), (1015, (.t (.var 40))), (1014, (.t (.var 39))), (1013, (.t (.var 38))), (1012, (.r 7)), (1010, (.t .dnil)), (1009, (.t (.lit (0)))), (1008, (.t (.lit (0)))), (1007, .nil), (1005, (.t (.conv .i64 (.var 30)))), (1003, (.t (.conv .i64 (.var 20)))), (1002, (.t (.conv .i64 (.var 15)))), (1006, (.t (.rcons (x8 0 37) (.rcons (x8 1 37) (.rcons (x8 2 37) (.rcons (x8 3 37) (.rcons (x8 4 37) (.rcons (x8 5 37) (.rcons (x8 6 37) (.rcons (x8 7 37) (.rcons (x8 8 37) (.rcons (x8 9 37) (.rcons (x8 10 37) (.rcons (x8 11 37) (.rcons (x8 12 37) (.rcons (x8 13 37) (.rcons (x8 14 37) (.rcons (x8 15 37) (.rcons (x8 16 37) (.rcons (x8 17 37) (.rcons (x8 18 37) (.rcons (x8 19 37) (.rcons (x8 20 37) (.rcons (x8 21 37) (.rcons (x8 22 37) (.rcons (x8 23 37) (.rcons (x8 24 37) (.rcons (x8 25 37) (.rcons (x8 26 37) (.rcons (x8 27 37) (.rcons (x8 28 37) (.rcons (x8 29 37) (.rcons (x8 30 37) (.rcons (x8 31 37) .rnil)))))))))))))))))))))))))))))))))), (1019, (.t (.lit (0)))), (1004, (.t (.conv .i64 (.var 25)))), (1001, (.r 35)), (1011, (.r 6)), (1000, (.r 5))], [((.var 1009), (.lit (0))), ((.lit (0)), (.lit (0))), ((.var 1004), (.conv .i64 (.var 25))), ((.lit (0)), (.lit (0))), ((.lit (0)), (.lit (0))), ((.lit (0)), (.lit (0))), ((.lit (0)), (.lit (0))), ((.lit (0)), (.lit (0))), ((.lit (0)), (.lit (0))), ((.lit (0)), (.lit (0))), ((.lit (0)), (.lit (0))), ((.lit (0)), (.lit (0))), ((.lit (0)), (.lit (0))), ((.lit (0)), (.lit (0))), ((.lit (0)), (.lit (0))), ((.lit (0)), (.lit (0))), ((.lit (0)), (.lit (0))), ((.lit (0)), (.lit (0))), ((.lit (0)), (.lit (0))), ((.lit (0)), (.lit (0))), ((.lit (0)), (.lit (0))), ((.lit (0)), (.lit (0))), ((.lit (0)), (.lit (0))), ((.lit (0)), (.lit (0))), ((.lit (0)), (.lit (0))), ((.lit (0)), (.lit (0))), ((.lit (0)), (.lit (0))), ((.lit (0)), (.lit (0))), ((.lit (0)), (.lit (0))), ((.lit (0)), (.lit (0))), ((.lit (0)), (.lit (0))), ((.lit (0)), (.lit (0))), ((.lit (0)), (.lit (0))), ((.lit (0)), (.lit (0))), ((.lit (0)), (.lit (0))), ((.lit (0)), (.lit (0))), ((.lit (0)), (.lit (0))), ((.lit (0)), (.lit (0))), ((.lit (0)), (.lit (0))), ((.lit (0)), (.lit (0)))], [], []⟩ (.fresh 42 (.fresh 43 (.fresh 44 (.fresh 45 (.fresh 46 (.fresh 47 (.fresh 48 (.fresh 49 (.fresh 50 (.fresh 51 (.fresh 52 (.fresh 53 (.fresh 54 (.fresh 55 (.fresh 56 (.fresh 57 (.fresh 58 (.fresh 59 (.fresh 60 (.fresh 61 (.hyp 0 42 (.br (.cmp .lss (.var 61) (.var 46))
 (.both (.know (.cmp .leq (.dlen (.var 59)) (.var 60)) (.pre 5 ⟨0, [(7, (.t (.var 60))), (6, (.t (.var 59))), (5, (.t (.var 58))), (4, (.t (.var 57))), (3, (.t (.var 56))), (2, (.t (.var 55))), (1, (.r 54)), (0, (.r 53))], [((.lit (0)), (.lit (0)))], [], []⟩ (.both (.fresh 62 (.fresh 63 (.fresh 64 (.fresh 65 (.fresh 66 (.post 5 0 ⟨0, [(7, (.t (.var 60))), (6, (.t (.var 59))), (5, (.t (.var 58))), (4, (.t (.var 57))), (3, (.t (.var 56))), (2, (.t (.var 55))), (1, (.r 54)), (0, (.r 53))], [((.lit (0)), (.lit (0)))], [], []⟩ 62 (.both (.fresh 67 (.both (.need (.cmp .eql (.var 50) (.dlen (.var 52))) (.need (.cmp .leq (.tims (.lit (32)) (.plus (.var 50) (.lit (1)))) (.lit (140737488355328))) (.fresh 68 (.fresh 69 (.both (.both (.back 0 42 ⟨1000, [(1018, (.t (.var 60))), (1017, (.t (.var 59))), (1016, (.t (.var 66))), (1015, (.t (.var 65))), (1014, (.t (.var 64))), (1013, (.t (.var 63))), (1012, (.r 54)), (1010, (.t (.dapp (.var 52) (.rcons (x8 0 62) (.rcons (x8 1 62) (.rcons (x8 2 62) (.rcons (x8 3 62) (.rcons (x8 4 62) (.rcons (x8 5 62) (.rcons (x8 6 62) (.rcons (x8 7 62) (.rcons (x8 8 62) (.rcons (x8 9 62) (.rcons (x8 10 62) (.rcons (x8 11 62) (.rcons (x8 12 62) (.rcons (x8 13 62) (.rcons (x8 14 62) (.rcons (x8 15 62) (.rcons (x8 16 62) (.rcons (x8 17 62) (.rcons (x8 18 62) (.rcons (x8 19 62) (.rcons (x8 20 62) (.rcons (x8 21 62) (.rcons (x8 22 62) (.rcons (x8 23 62) (.rcons (x8 24 62) (.rcons (x8 25 62) (.rcons (x8 26 62) (.rcons (x8 27 62) (.rcons (x8 28 62) (.rcons (x8 29 62) (.rcons (x8 30 62) (.rcons (x8 31 62) .rnil))))))))))))))))))))))))))))))))))), (1009, (.t (.var 69))), (1008, (.t (.plus (.var 50) (.lit (1))))), (1007, (.r 68)), (1005, (.t (.var 47))), (1003, (.t (.var 45))), (1002, (.t (.var 44))), (1006, (.t (.rcons (x8 0 48) (.rcons (x8 1 48) (.rcons (x8 2 48) (.rcons (x8 3 48) (.rcons (x8 4 48) (.rcons (x8 5 48) (.rcons (x8 6 48) (.rcons (x8 7 48) (.rcons (x8 8 48) (.rcons (x8 9 48) (.rcons (x8 10 48) (.rcons (x8 11 48) (.rcons (x8 12 48) (.rcons (x8 13 48) (.rcons (x8 14 48) (.rcons (x8 15 48) (.rcons (x8 16 48) (.rcons (x8 17 48) (.rcons (x8 18 48) (.rcons (x8 19 48) (.rcons (x8 20 48) (.rcons (x8 21 48) (.rcons (x8 22 48) (.rcons (x8 23 48) (.rcons (x8 24 48) (.rcons (x8 25 48) (.rcons (x8 26 48) (.rcons (x8 27 48) (.rcons (x8 28 48) (.rcons (x8 29 48) (.rcons (x8 30 48) (.rcons (x8 31 48) .rnil)))))))))))))))))))))))))))))))))), (1019, (.t (.arith .add .i64 (.var 61) (.lit (1))))), (1004, (.t (.var 46))), (1001, (.r 43)), (1011, (.r 53)), (1000, (.r 42))], [((.var 1009), (.var 69)), ((.lit (0)), (.lit (0))), ((.var 1004), (.var 46)), ((.lit (0)), (.lit (0))), ((.lit (0)), (.lit (0))), ((.lit (0)), (.lit (0))), ((.lit (0)), (.lit (0))), ((.lit (0)), (.lit (0))), ((.lit (0)), (.lit (0))), ((.lit (0)), (.lit (0))), ((.lit (0)), (.lit (0))), ((.lit (0)), (.lit (0))), ((.lit (0)), (.lit (0))), ((.lit (0)), (.lit (0))), ((.lit (0)), (.lit (0))), ((.lit (0)), (.lit (0))), ((.lit (0)), (.lit (0))), ((.lit (0)), (.lit (0))), ((.lit (0)), (.lit (0))), ((.lit (0)), (.lit (0))), ((.lit (0)), (.lit (0))), ((.lit (0)), (.lit (0))), ((.lit (0)), (.lit (0))), ((.lit (0)), (.lit (0))), ((.lit (0)), (.lit (0))), ((.lit (0)), (.lit (0))), ((.lit (0)), (.lit (0))), ((.lit (0)), (.lit (0))), ((.lit (0)), (.lit (0))), ((.lit (0)), (.lit (0))), ((.lit (0)), (.lit (0))), ((.lit (0)), (.lit (0))), ((.lit (0)), (.lit (0))), ((.lit (0)), (.lit (0))), ((.lit (0)), (.lit (0))), ((.lit (0)), (.lit (0))), ((.lit (0)), (.lit (0))), ((.lit (0)), (.lit (0))), ((.lit (0)), (.lit (0))), ((.lit (0)), (.lit (0))), ((.lit (0)), (.lit (0))), ((.lit (0)), (.lit (0)))], [], []⟩) .top) .top))))) .top)) .top))))))) .top))) .top)
 (.know (.cmp .leq (.dlen (.var 59)) (.var 60)) (.pre 6 ⟨0, [(5, (.t (.var 58))), (4, (.t (.var 57))), (3, (.t (.var 56))), (2, (.t (.var 55))), (1, (.r 54)), (0, (.r 53))], [((.lit (0)), (.lit (0)))], [], []⟩ (.both (.fresh 62 (.post 6 0 ⟨0, [(5, (.t (.var 58))), (4, (.t (.var 57))), (3, (.t (.var 56))), (2, (.t (.var 55))), (1, (.r 54)), (0, (.r 53))], [((.lit (0)), (.lit (0)))], [], []⟩ 62 (.br (.cmp .neq (.var 62) (.lit (0)))
 (.ret 0 ⟨5, [(5, (.t (.var 62)))], [((.lit (0)), (.lit (0))), ((.lit (0)), (.lit (0))), ((.lit (0)), (.lit (0))), ((.lit (0)), (.lit (0))), ((.lit (0)), (.lit (0))), ((.lit (0)), (.lit (0))), ((.lit (0)), (.lit (0))), ((.lit (0)), (.lit (0))), ((.lit (0)), (.lit (0))), ((.lit (0)), (.lit (0))), ((.lit (0)), (.lit (0))), ((.lit (0)), (.lit (0))), ((.lit (0)), (.lit (0))), ((.lit (0)), (.lit (0))), ((.lit (0)), (.lit (0))), ((.lit (0)), (.lit (0))), ((.lit (0)), (.lit (0))), ((.lit (0)), (.lit (0))), ((.lit (0)), (.lit (0))), ((.lit (0)), (.lit (0))), ((.lit (0)), (.lit (0))), ((.lit (0)), (.lit (0))), ((.lit (0)), (.lit (0))), ((.lit (0)), (.lit (0))), ((.lit (0)), (.lit (0))), ((.lit (0)), (.lit (0))), ((.lit (0)), (.lit (0))), ((.lit (0)), (.lit (0))), ((.lit (0)), (.lit (0))), ((.lit (0)), (.lit (0))), ((.lit (0)), (.lit (0))), ((.lit (0)), (.lit (0))), ((.lit (0)), (.lit (0))), ((.lit (0)), (.lit (0))), ((.lit (0)), (.lit (0))), ((.lit (0)), (.lit (0)))], [], []⟩)
 (.ret 1 ⟨5, [(13, (.t (.var 52))), (12, (.t (.var 51))), (11, (.t (.var 50))), (10, (.r 49)), (8, (.t (.var 47))), (7, (.t (.var 46))), (6, (.t (.var 45))), (5, (.t (.var 44))), (9, (.t (.rcons (x8 0 48) (.rcons (x8 1 48) (.rcons (x8 2 48) (.rcons (x8 3 48) (.rcons (x8 4 48) (.rcons (x8 5 48) (.rcons (x8 6 48) (.rcons (x8 7 48) (.rcons (x8 8 48) (.rcons (x8 9 48) (.rcons (x8 10 48) (.rcons (x8 11 48) (.rcons (x8 12 48) (.rcons (x8 13 48) (.rcons (x8 14 48) (.rcons (x8 15 48) (.rcons (x8 16 48) (.rcons (x8 17 48) (.rcons (x8 18 48) (.rcons (x8 19 48) (.rcons (x8 20 48) (.rcons (x8 21 48) (.rcons (x8 22 48) (.rcons (x8 23 48) (.rcons (x8 24 48) (.rcons (x8 25 48) (.rcons (x8 26 48) (.rcons (x8 27 48) (.rcons (x8 28 48) (.rcons (x8 29 48) (.rcons (x8 30 48) (.rcons (x8 31 48) .rnil))))))))))))))))))))))))))))))))))], [((.var 12), (.var 51)), ((.lit (0)), (.lit (0))), ((.lit (0)), (.lit (0)))], [], []⟩)))) .top)))))))))))))))))))))))))))))))) .top)))))) .top))))) .top))))))))) .top)))))))) .top)))))))) .top)))))))) .top)))))))) .top)))))))) .top)))
theorem o_decM_eq : treeOf ⟨Tryd.prog, decMC, [newReaderC, rU8C, rU16C, errC, sizes3C, rDgC, endC], [decMI]⟩ 100000 Tryd.f65 = o_decM := by kernel_rfl
theorem decM_of (hd : ∀ c ∈ ([newReaderC, rU8C, rU16C, errC, sizes3C, rDgC, endC] : List Ctr), c.ok Tryd.prog) (h : ∀ ρ : Env, ρ.good → (decMC).pre ρ → o_decM.den ⟨Tryd.prog, decMC, [newReaderC, rU8C, rU16C, errC, sizes3C, rDgC, endC], [decMI]⟩ ρ) : (decMC).ok Tryd.prog :=
  ok_of_tree Tryd.func65 (fun a w => Tryd.call65 a w) hd 100000 (fun ρ hg hp => by rw [o_decM_eq]; exact h ρ hg hp)
def o_ofBytes : Out := (.fresh 5 (.need (.cmp .leq (.lit (0)) (.var 1)) (.br (.cmp .lss (.var 1) (.lit (7)))
 (.ret 0 ⟨5, [(5, (.t (.lit (4))))], [((.lit (0)), (.lit (0))), ((.lit (0)), (.lit (0))), ((.lit (0)), (.lit (0))), ((.lit (0)), (.lit (0))), ((.lit (0)), (.lit (0))), ((.lit (0)), (.lit (0))), ((.lit (0)), (.lit (0))), ((.lit (0)), (.lit (0))), ((.lit (0)), (.lit (0))), ((.lit (0)), (.lit (0))), ((.lit (0)), (.lit (0))), ((.lit (0)), (.lit (0))), ((.lit (0)), (.lit (0))), ((.lit (0)), (.lit (0))), ((.lit (0)), (.lit (0))), ((.lit (0)), (.lit (0))), ((.lit (0)), (.lit (0))), ((.lit (0)), (.lit (0))), ((.lit (0)), (.lit (0))), ((.lit (0)), (.lit (0))), ((.lit (0)), (.lit (0))), ((.lit (0)), (.lit (0))), ((.lit (0)), (.lit (0))), ((.lit (0)), (.lit (0))), ((.lit (0)), (.lit (0))), ((.lit (0)), (.lit (0))), ((.lit (0)), (.lit (0))), ((.lit (0)), (.lit (0))), ((.lit (0)), (.lit (0))), ((.lit (0)), (.lit (0))), ((.lit (0)), (.lit (0))), ((.lit (0)), (.lit (0))), ((.lit (0)), (.lit (0))), ((.lit (0)), (.lit (0))), ((.lit (0)), (.lit (0))), ((.lit (0)), (.lit (0)))], [], []⟩)
 (.need (.cmp .lss (.lit (0)) (.var 1)) (.need (.cmp .lss (.lit (0)) (.dlen (.var 3))) (.br (.cmp .neq (.icell (.var 3) (.lit (0)) 0) (.lit (77)))
 (.ret 0 ⟨5, [(5, (.t (.lit (5))))], [((.lit (0)), (.lit (0))), ((.lit (0)), (.lit (0))), ((.lit (0)), (.lit (0))), ((.lit (0)), (.lit (0))), ((.lit (0)), (.lit (0))), ((.lit (0)), (.lit (0))), ((.lit (0)), (.lit (0))), ((.lit (0)), (.lit (0))), ((.lit (0)), (.lit (0))), ((.lit (0)), (.lit (0))), ((.lit (0)), (.lit (0))), ((.lit (0)), (.lit (0))), ((.lit (0)), (.lit (0))), ((.lit (0)), (.lit (0))), ((.lit (0)), (.lit (0))), ((.lit (0)), (.lit (0))), ((.lit (0)), (.lit (0))), ((.lit (0)), (.lit (0))), ((.lit (0)), (.lit (0))), ((.lit (0)), (.lit (0))), ((.lit (0)), (.lit (0))), ((.lit (0)), (.lit (0))), ((.lit (0)), (.lit (0))), ((.lit (0)), (.lit (0))), ((.lit (0)), (.lit (0))), ((.lit (0)), (.lit (0))), ((.lit (0)), (.lit (0))), ((.lit (0)), (.lit (0))), ((.lit (0)), (.lit (0))), ((.lit (0)), (.lit (0))), ((.lit (0)), (.lit (0))), ((.lit (0)), (.lit (0))), ((.lit (0)), (.lit (0))), ((.lit (0)), (.lit (0))), ((.lit (0)), (.lit (0))), ((.lit (0)), (.lit (0)))], [], []⟩)
 (.need (.cmp .lss (.lit (1)) (.var 1)) (.need (.cmp .lss (.lit (1)) (.dlen (.var 3))) (.br (.cmp .neq (.icell (.var 3) (.lit (1)) 0) (.lit (1)))
 (.ret 0 ⟨5, [(5, (.t (.lit (5))))], [((.lit (0)), (.lit (0))), ((.lit (0)), (.lit (0))), ((.lit (0)), (.lit (0))), ((.lit (0)), (.lit (0))), ((.lit (0)), (.lit (0))), ((.lit (0)), (.lit (0))), ((.lit (0)), (.lit (0))), ((.lit (0)), (.lit (0))), ((.lit (0)), (.lit (0))), ((.lit (0)), (.lit (0))), ((.lit (0)), (.lit (0))), ((.lit (0)), (.lit (0))), ((.lit (0)), (.lit (0))), ((.lit (0)), (.lit (0))), ((.lit (0)), (.lit (0))), ((.lit (0)), (.lit (0))), ((.lit (0)), (.lit (0))), ((.lit (0)), (.lit (0))), ((.lit (0)), (.lit (0))), ((.lit (0)), (.lit (0))), ((.lit (0)), (.lit (0))), ((.lit (0)), (.lit (0))), ((.lit (0)), (.lit (0))), ((.lit (0)), (.lit (0))), ((.lit (0)), (.lit (0))), ((.lit (0)), (.lit (0))), ((.lit (0)), (.lit (0))), ((.lit (0)), (.lit (0))), ((.lit (0)), (.lit (0))), ((.lit (0)), (.lit (0))), ((.lit (0)), (.lit (0))), ((.lit (0)), (.lit (0))), ((.lit (0)), (.lit (0))), ((.lit (0)), (.lit (0))), ((.lit (0)), (.lit (0))), ((.lit (0)), (.lit (0)))], [], []⟩)
 (.need (.cmp .lss (.lit (2)) (.var 1)) (.need (.cmp .lss (.lit (2)) (.dlen (.var 3))) (.need (.cmp .lss (.lit (3)) (.var 1)) (.need (.cmp .lss (.lit (3)) (.dlen (.var 3))) (.need (.cmp .lss (.lit (4)) (.var 1)) (.need (.cmp .lss (.lit (4)) (.dlen (.var 3))) (.need (.cmp .lss (.lit (5)) (.var 1)) (.need (.cmp .lss (.lit (5)) (.dlen (.var 3))) (.need (.cmp .lss (.lit (6)) (.var 1)) (.need (.cmp .lss (.lit (6)) (.dlen (.var 3))) (.both (.fresh 6 (.both (.pre 0 ⟨0, [(2, (.t (.conv .i64 (.icell (.var 3) (.lit (4)) 0)))), (1, (.t (.conv .i64 (.icell (.var 3) (.lit (3)) 0)))), (0, (.t (.conv .i64 (.icell (.var 3) (.lit (2)) 0))))], [], [], []⟩ (.both (.fresh 7 (.post 0 0 ⟨0, [(2, (.t (.conv .i64 (.icell (.var 3) (.lit (4)) 0)))), (1, (.t (.conv .i64 (.icell (.var 3) (.lit (3)) 0)))), (0, (.t (.conv .i64 (.icell (.var 3) (.lit (2)) 0))))], [], [], []⟩ 7 (.br (.not (.var 7))
 (.ret 0 ⟨5, [(5, (.t (.lit (2))))], [((.lit (0)), (.lit (0))), ((.lit (0)), (.lit (0))), ((.lit (0)), (.lit (0))), ((.lit (0)), (.lit (0))), ((.lit (0)), (.lit (0))), ((.lit (0)), (.lit (0))), ((.lit (0)), (.lit (0))), ((.lit (0)), (.lit (0))), ((.lit (0)), (.lit (0))), ((.lit (0)), (.lit (0))), ((.lit (0)), (.lit (0))), ((.lit (0)), (.lit (0))), ((.lit (0)), (.lit (0))), ((.lit (0)), (.lit (0))), ((.lit (0)), (.lit (0))), ((.lit (0)), (.lit (0))), ((.lit (0)), (.lit (0))), ((.lit (0)), (.lit (0))), ((.lit (0)), (.lit (0))), ((.lit (0)), (.lit (0))), ((.lit (0)), (.lit (0))), ((.lit (0)), (.lit (0))), ((.lit (0)), (.lit (0))), ((.lit (0)), (.lit (0))), ((.lit (0)), (.lit (0))), ((.lit (0)), (.lit (0))), ((.lit (0)), (.lit (0))), ((.lit (0)), (.lit (0))), ((.lit (0)), (.lit (0))), ((.lit (0)), (.lit (0))), ((.lit (0)), (.lit (0))), ((.lit (0)), (.lit (0))), ((.lit (0)), (.lit (0))), ((.lit (0)), (.lit (0))), ((.lit (0)), (.lit (0))), ((.lit (0)), (.lit (0)))], [], []⟩)
 (.br (.cmp .gtr (.arith .add .i64 (.arith .mul .i64 (.conv .i64 (.icell (.var 3) (.lit (5)) 0)) (.lit (256))) (.conv .i64 (.icell (.var 3) (.lit (6)) 0))) (.lit (8192)))
 (.ret 0 ⟨5, [(5, (.t (.lit (2))))], [((.lit (0)), (.lit (0))), ((.lit (0)), (.lit (0))), ((.lit (0)), (.lit (0))), ((.lit (0)), (.lit (0))), ((.lit (0)), (.lit (0))), ((.lit (0)), (.lit (0))), ((.lit (0)), (.lit (0))), ((.lit (0)), (.lit (0))), ((.lit (0)), (.lit (0))), ((.lit (0)), (.lit (0))), ((.lit (0)), (.lit (0))), ((.lit (0)), (.lit (0))), ((.lit (0)), (.lit (0))), ((.lit (0)), (.lit (0))), ((.lit (0)), (.lit (0))), ((.lit (0)), (.lit (0))), ((.lit (0)), (.lit (0))), ((.lit (0)), (.lit (0))), ((.lit (0)), (.lit (0))), ((.lit (0)), (.lit (0))), ((.lit (0)), (.lit (0))), ((.lit (0)), (.lit (0))), ((.lit (0)), (.lit (0))), ((.lit (0)), (.lit (0))), ((.lit (0)), (.lit (0))), ((.lit (0)), (.lit (0))), ((.lit (0)), (.lit (0))), ((.lit (0)), (.lit (0))), ((.lit (0)), (.lit (0))), ((.lit (0)), (.lit (0))), ((.lit (0)), (.lit (0))), ((.lit (0)), (.lit (0))), ((.lit (0)), (.lit (0))), ((.lit (0)), (.lit (0))), ((.lit (0)), (.lit (0))), ((.lit (0)), (.lit (0)))], [], []⟩)
 (.br (.cmp .lss (.var 1) (.arith .add .i64 (.lit (39)) (.arith .mul .i64 (.lit (32)) (.conv .i64 (.icell (.var 3) (.lit (4)) 0)))))
 (.ret 0 ⟨5, [(5, (.t (.lit (4))))], [((.lit (0)), (.lit (0))), ((.lit (0)), (.lit (0))), ((.lit (0)), (.lit (0))), ((.lit (0)), (.lit (0))), ((.lit (0)), (.lit (0))), ((.lit (0)), (.lit (0))), ((.lit (0)), (.lit (0))), ((.lit (0)), (.lit (0))), ((.lit (0)), (.lit (0))), ((.lit (0)), (.lit (0))), ((.lit (0)), (.lit (0))), ((.lit (0)), (.lit (0))), ((.lit (0)), (.lit (0))), ((.lit (0)), (.lit (0))), ((.lit (0)), (.lit (0))), ((.lit (0)), (.lit (0))), ((.lit (0)), (.lit (0))), ((.lit (0)), (.lit (0))), ((.lit (0)), (.lit (0))), ((.lit (0)), (.lit (0))), ((.lit (0)), (.lit (0))), ((.lit (0)), (.lit (0))), ((.lit (0)), (.lit (0))), ((.lit (0)), (.lit (0))), ((.lit (0)), (.lit (0))), ((.lit (0)), (.lit (0))), ((.lit (0)), (.lit (0))), ((.lit (0)), (.lit (0))), ((.lit (0)), (.lit (0))), ((.lit (0)), (.lit (0))), ((.lit (0)), (.lit (0))), ((.lit (0)), (.lit (0))), ((.lit (0)), (.lit (0))), ((.lit (0)), (.lit (0))), ((.lit (0)), (.lit (0))), ((.lit (0)), (.lit (0)))], [], []⟩)
 (.br (.cmp .gtr (.var 1) (.arith .add .i64 (.lit (39)) (.arith .mul .i64 (.lit (32)) (.conv .i64 (.icell (.var 3) (.lit (4)) 0)))))
 (.ret 0 ⟨5, [(5, (.t (.lit (5))))], [((.lit (0)), (.lit (0))), ((.lit (0)), (.lit (0))), ((.lit (0)), (.lit (0))), ((.lit (0)), (.lit (0))), ((.lit (0)), (.lit (0))), ((.lit (0)), (.lit (0))), ((.lit (0)), (.lit (0))), ((.lit (0)), (.lit (0))), ((.lit (0)), (.lit (0))), ((.lit (0)), (.lit (0))), ((.lit (0)), (.lit (0))), ((.lit (0)), (.lit (0))), ((.lit (0)), (.lit (0))), ((.lit (0)), (.lit (0))), ((.lit (0)), (.lit (0))), ((.lit (0)), (.lit (0))), ((.lit (0)), (.lit (0))), ((.lit (0)), (.lit (0))), ((.lit (0)), (.lit (0))), ((.lit (0)), (.lit (0))), ((.lit (0)), (.lit (0))), ((.lit (0)), (.lit (0))), ((.lit (0)), (.lit (0))), ((.lit (0)), (.lit (0))), ((.lit (0)), (.lit (0))), ((.lit (0)), (.lit (0))), ((.lit (0)), (.lit (0))), ((.lit (0)), (.lit (0))), ((.lit (0)), (.lit (0))), ((.lit (0)), (.lit (0))), ((.lit (0)), (.lit (0))), ((.lit (0)), (.lit (0))), ((.lit (0)), (.lit (0))), ((.lit (0)), (.lit (0))), ((.lit (0)), (.lit (0))), ((.lit (0)), (.lit (0)))], [], []⟩)
 (.pre 1 ⟨0, [(4, (.t (.var 4))), (3, (.t (.var 3))), (5, (.t (.lit (7)))), (2, (.t (.var 2))), (1, (.t (.var 1))), (0, (.r 0))], [((.lit (0)), (.lit (0)))], [], []⟩ (.both (.fresh 8 (.post 1 0 ⟨0, [(4, (.t (.var 4))), (3, (.t (.var 3))), (5, (.t (.lit (7)))), (2, (.t (.var 2))), (1, (.t (.var 1))), (0, (.r 0))], [((.lit (0)), (.lit (0)))], [], []⟩ 8 (.inv 0 9 ⟨1000, [(1010, (.t .dnil)), (1009, (.t (.lit (0)))), (1008, (.t (.lit (0)))), (1007, .nil), (1005, (.t (.arith .add .i64 (.arith .mul .i64 (.conv .i64 (.icell (.var 3) (.lit (5)) 0)) (.lit (256))) (.conv .i64 (.icell (.var 3) (.lit (6)) 0))))), (1004, (.t (.conv .i64 (.icell (.var 3) (.lit (4)) 0)))), (1003, (.t (.conv .i64 (.icell (.var 3) (.lit (3)) 0)))), (1002, (.t (.conv .i64 (.icell (.var 3) (.lit (2)) 0)))), (1006, (.t (.rcons (x8 0 8) (.rcons (x8 1 8) (.rcons (x8 2 8) (.rcons (x8 3 8) (.rcons (x8 4 8) (.rcons (x8 5 8) (.rcons (x8 6 8) (.rcons (x8 7 8) (.rcons (x8 8 8) (.rcons (x8 9 8) (.rcons (x8 10 8) (.rcons (x8 11 8) (.rcons (x8 12 8) (.rcons (x8 13 8) (.rcons (x8 14 8) (.rcons (x8 15 8) (.rcons (x8 16 8) (.rcons (x8 17 8) (.rcons (x8 18 8) (.rcons (x8 19 8) (.rcons (x8 20 8) (.rcons (x8 21 8) (.rcons (x8 22 8) (.rcons (x8 23 8) (.rcons (x8 24 8) (.rcons (x8 25 8) (.rcons (x8 26 8) (.rcons (x8 27 8) (.rcons (x8 28 8) (.rcons (x8 29 8) (.rcons (x8 30 8) (.rcons (x8 31 8) .rnil)))))))))))))))))))))))))))))))))), (1011, (.t (.lit (0)))), (1001, (.r 6)), (1000, (.r 5))], [((.var 1009), (.lit (0))), ((.lit (0)), (.lit (0))), ((.lit (0)), (.lit (0))), ((.lit (0)), (.lit (0))), ((.lit (0)), (.lit (0))), ((.lit (0)), (.lit (0))), ((.lit (0)), (.lit (0))), ((.lit (0)), (.lit (0))), ((.lit (0)), (.lit (0))), ((.lit (0)), (.lit (0))), ((.lit (0)), (.lit (0))), ((.lit (0)), (.lit (0))), ((.lit (0)), (.lit (0))), ((.lit (0)), (.lit (0))), ((.lit (0)), (.lit (0))), ((.lit (0)), (.lit (0))), ((.lit (0)), (.lit (0))), ((.lit (0)), (.lit (0))), ((.lit (0)), (.lit (0))), ((.lit (0)), (.lit (0))), ((.lit (0)), (.lit (0))), ((.lit (0)), (.lit (0))), ((.lit (0)), (.lit (0))), ((.lit (0)), (.lit (0))), ((.lit (0)), (.lit (0))), ((.lit (0)), (.lit (0))), ((.lit (0)), (.lit (0))), ((.lit (0)), (.lit (0))), ((.lit (0)), (.lit (0))), ((.lit (0)), (.lit (0))), ((.lit (0)), (.lit (0))), ((.lit (0)), (.lit (0))), ((.lit (0)), (.lit (0))), ((.lit (0)), (.lit (0))), ((.lit (0)), (.lit (0))), ((.lit (0)), (.lit (0))), ((.lit (0)), (.lit (0))), ((.lit (0)), (.lit (0))), ((.var 2), (.var 2)), ((.var 1), (.var 1)), ((.lit (0)), (.lit (0)))], [], []⟩ (.fresh 9 (.fresh 10 (.fresh 11 (.fresh 12 (.fresh 13 (.fresh 14 (.fresh 15 (.fresh 16 (.fresh 17 (.fresh 18 (.fresh 19 (.fresh 20 (.hyp 0 9 (.br (.cmp .lss (.var 20) (.var 13))
 (.both (.pre 1 ⟨0, [(4, (.t (.var 4))), (3, (.t (.var 3))), (5, (.t (.arith .add .i64 (.lit (39)) (.arith .mul .i64 (.lit (32)) (.var 20))))), (2, (.t (.var 2))), (1, (.t (.var 1))), (0, (.r 0))], [((.lit (0)), (.lit (0)))], [], []⟩ (.both (.fresh 21 (.post 1 0 ⟨0, [(4, (.t (.var 4))), (3, (.t (.var 3))), (5, (.t (.arith .add .i64 (.lit (39)) (.arith .mul .i64 (.lit (32)) (.var 20))))), (2, (.t (.var 2))), (1, (.t (.var 1))), (0, (.r 0))], [((.lit (0)), (.lit (0)))], [], []⟩ 21 (.both (.fresh 22 (.both (.need (.cmp .eql (.var 17) (.dlen (.var 19))) (.need (.cmp .leq (.tims (.lit (32)) (.plus (.var 17) (.lit (1)))) (.lit (140737488355328))) (.fresh 23 (.fresh 24 (.both (.both (.back 0 9 ⟨1000, [(1010, (.t (.dapp (.var 19) (.rcons (x8 0 21) (.rcons (x8 1 21) (.rcons (x8 2 21) (.rcons (x8 3 21) (.rcons (x8 4 21) (.rcons (x8 5 21) (.rcons (x8 6 21) (.rcons (x8 7 21) (.rcons (x8 8 21) (.rcons (x8 9 21) (.rcons (x8 10 21) (.rcons (x8 11 21) (.rcons (x8 12 21) (.rcons (x8 13 21) (.rcons (x8 14 21) (.rcons (x8 15 21) (.rcons (x8 16 21) (.rcons (x8 17 21) (.rcons (x8 18 21) (.rcons (x8 19 21) (.rcons (x8 20 21) (.rcons (x8 21 21) (.rcons (x8 22 21) (.rcons (x8 23 21) (.rcons (x8 24 21) (.rcons (x8 25 21) (.rcons (x8 26 21) (.rcons (x8 27 21) (.rcons (x8 28 21) (.rcons (x8 29 21) (.rcons (x8 30 21) (.rcons (x8 31 21) .rnil))))))))))))))))))))))))))))))))))), (1009, (.t (.var 24))), (1008, (.t (.plus (.var 17) (.lit (1))))), (1007, (.r 23)), (1005, (.t (.var 14))), (1004, (.t (.var 13))), (1003, (.t (.var 12))), (1002, (.t (.var 11))), (1006, (.t (.rcons (x8 0 15) (.rcons (x8 1 15) (.rcons (x8 2 15) (.rcons (x8 3 15) (.rcons (x8 4 15) (.rcons (x8 5 15) (.rcons (x8 6 15) (.rcons (x8 7 15) (.rcons (x8 8 15) (.rcons (x8 9 15) (.rcons (x8 10 15) (.rcons (x8 11 15) (.rcons (x8 12 15) (.rcons (x8 13 15) (.rcons (x8 14 15) (.rcons (x8 15 15) (.rcons (x8 16 15) (.rcons (x8 17 15) (.rcons (x8 18 15) (.rcons (x8 19 15) (.rcons (x8 20 15) (.rcons (x8 21 15) (.rcons (x8 22 15) (.rcons (x8 23 15) (.rcons (x8 24 15) (.rcons (x8 25 15) (.rcons (x8 26 15) (.rcons (x8 27 15) (.rcons (x8 28 15) (.rcons (x8 29 15) (.rcons (x8 30 15) (.rcons (x8 31 15) .rnil)))))))))))))))))))))))))))))))))), (1011, (.t (.arith .add .i64 (.var 20) (.lit (1))))), (1001, (.r 10)), (1000, (.r 9))], [((.var 1009), (.var 24)), ((.lit (0)), (.lit (0))), ((.lit (0)), (.lit (0))), ((.lit (0)), (.lit (0))), ((.lit (0)), (.lit (0))), ((.lit (0)), (.lit (0))), ((.lit (0)), (.lit (0))), ((.lit (0)), (.lit (0))), ((.lit (0)), (.lit (0))), ((.lit (0)), (.lit (0))), ((.lit (0)), (.lit (0))), ((.lit (0)), (.lit (0))), ((.lit (0)), (.lit (0))), ((.lit (0)), (.lit (0))), ((.lit (0)), (.lit (0))), ((.lit (0)), (.lit (0))), ((.lit (0)), (.lit (0))), ((.lit (0)), (.lit (0))), ((.lit (0)), (.lit (0))), ((.lit (0)), (.lit (0))), ((.lit (0)), (.lit (0))), ((.lit (0)), (.lit (0))), ((.lit (0)), (.lit (0))), ((.lit (0)), (.lit (0))), ((.lit (0)), (.lit (0))), ((.lit (0)), (.lit (0))), ((.lit (0)), (.lit (0))), ((.lit (0)), (.lit (0))), ((.lit (0)), (.lit (0))), ((.lit (0)), (.lit (0))), ((.lit (0)), (.lit (0))), ((.lit (0)), (.lit (0))), ((.lit (0)), (.lit (0))), ((.lit (0)), (.lit (0))), ((.lit (0)), (.lit (0))), ((.lit (0)), (.lit (0))), ((.lit (0)), (.lit (0))), ((.lit (0)), (.lit (0))), ((.lit (0)), (.lit (0))), ((.lit (0)), (.lit (0))), ((.var 2), (.var 2)), ((.var 1), (.var 1)), ((.lit (0)), (.lit (0)))], [], []⟩) .top) .top))))) .top)) .top))) .top)) .top)
 (.ret 1 ⟨5, [(13, (.t (.var 19))), (12, (.t (.var 18))), (11, (.t (.var 17))), (10, (.r 16)), (8, (.t (.var 14))), (7, (.t (.var 13))), (6, (.t (.var 12))), (5, (.t (.var 11))), (9, (.t (.rcons (x8 0 15) (.rcons (x8 1 15) (.rcons (x8 2 15) (.rcons (x8 3 15) (.rcons (x8 4 15) (.rcons (x8 5 15) (.rcons (x8 6 15) (.rcons (x8 7 15) (.rcons (x8 8 15) (.rcons (x8 9 15) (.rcons (x8 10 15) (.rcons (x8 11 15) (.rcons (x8 12 15) (.rcons (x8 13 15) (.rcons (x8 14 15) (.rcons (x8 15 15) (.rcons (x8 16 15) (.rcons (x8 17 15) (.rcons (x8 18 15) (.rcons (x8 19 15) (.rcons (x8 20 15) (.rcons (x8 21 15) (.rcons (x8 22 15) (.rcons (x8 23 15) (.rcons (x8 24 15) (.rcons (x8 25 15) (.rcons (x8 26 15) (.rcons (x8 27 15) (.rcons (x8 28 15) (.rcons (x8 29 15) (.rcons (x8 30 15) (.rcons (x8 31 15) .rnil))))))))))))))))))))))))))))))))))], [((.var 12), (.var 18)), ((.lit (0)), (.lit (0))), ((.lit (0)), (.lit (0)))], [], []⟩)))))))))))))))))) .top)))))))) .top)) .top)) .top))))))))))))))))))))
theorem o_ofBytes_eq : treeOf ⟨Tryd.prog, ofBytesC, [sizesRC, partC], [ofBytesI]⟩ 100000 Tryd.f66 = o_ofBytes := by kernel_rfl
theorem ofBytes_of (hd : ∀ c ∈ ([sizesRC, partC] : List Ctr), c.ok Tryd.prog) (h : ∀ ρ : Env, ρ.good → (ofBytesC).pre ρ → o_ofBytes.den ⟨Tryd.prog, ofBytesC, [sizesRC, partC], [ofBytesI]⟩ ρ) : (ofBytesC).ok Tryd.prog :=
  ok_of_tree Tryd.func66 (fun a w => Tryd.call66 a w) hd 100000 (fun ρ hg hp => by rw [o_ofBytes_eq]; exact h ρ hg hp)
def o_same : Out := (.fresh 20 (.fresh 21 (.br (.cmp .neq (.var 0) (.var 8))
 (.ret 0 ⟨20, [(20, (.t (.bl false)))], [], [], []⟩)
 (.br (.cmp .neq (.var 1) (.var 9))
 (.ret 0 ⟨20, [(20, (.t (.bl false)))], [], [], []⟩)
 (.br (.cmp .neq (.var 2) (.var 10))
 (.ret 0 ⟨20, [(20, (.t (.bl false)))], [], [], []⟩)
 (.br (.cmp .neq (.var 3) (.var 11))
 (.ret 0 ⟨20, [(20, (.t (.bl false)))], [], [], []⟩)
 (.br (.not (.c2 .req (.rcons (x8 0 4) (.rcons (x8 1 4) (.rcons (x8 2 4) (.rcons (x8 3 4) (.rcons (x8 4 4) (.rcons (x8 5 4) (.rcons (x8 6 4) (.rcons (x8 7 4) (.rcons (x8 8 4) (.rcons (x8 9 4) (.rcons (x8 10 4) (.rcons (x8 11 4) (.rcons (x8 12 4) (.rcons (x8 13 4) (.rcons (x8 14 4) (.rcons (x8 15 4) (.rcons (x8 16 4) (.rcons (x8 17 4) (.rcons (x8 18 4) (.rcons (x8 19 4) (.rcons (x8 20 4) (.rcons (x8 21 4) (.rcons (x8 22 4) (.rcons (x8 23 4) (.rcons (x8 24 4) (.rcons (x8 25 4) (.rcons (x8 26 4) (.rcons (x8 27 4) (.rcons (x8 28 4) (.rcons (x8 29 4) (.rcons (x8 30 4) (.rcons (x8 31 4) .rnil)))))))))))))))))))))))))))))))) (.rcons (x8 0 12) (.rcons (x8 1 12) (.rcons (x8 2 12) (.rcons (x8 3 12) (.rcons (x8 4 12) (.rcons (x8 5 12) (.rcons (x8 6 12) (.rcons (x8 7 12) (.rcons (x8 8 12) (.rcons (x8 9 12) (.rcons (x8 10 12) (.rcons (x8 11 12) (.rcons (x8 12 12) (.rcons (x8 13 12) (.rcons (x8 14 12) (.rcons (x8 15 12) (.rcons (x8 16 12) (.rcons (x8 17 12) (.rcons (x8 18 12) (.rcons (x8 19 12) (.rcons (x8 20 12) (.rcons (x8 21 12) (.rcons (x8 22 12) (.rcons (x8 23 12) (.rcons (x8 24 12) (.rcons (x8 25 12) (.rcons (x8 26 12) (.rcons (x8 27 12) (.rcons (x8 28 12) (.rcons (x8 29 12) (.rcons (x8 30 12) (.rcons (x8 31 12) .rnil))))))))))))))))))))))))))))))))))
 (.ret 0 ⟨20, [(20, (.t (.bl false)))], [], [], []⟩)
 (.need (.cmp .leq (.lit (0)) (.var 6)) (.need (.cmp .leq (.lit (0)) (.var 14)) (.br (.cmp .neq (.var 6) (.var 14))
 (.ret 0 ⟨20, [(20, (.t (.bl false)))], [], [], []⟩)
 (.inv 0 22 ⟨1000, [(1002, (.t (.lit (0)))), (1001, (.r 21)), (1000, (.r 20))], [((.var 15), (.var 15)), ((.var 14), (.var 14)), ((.lit (0)), (.lit (0))), ((.c2 (.xint 31) (.var 12) (.lit (0))), (.c2 (.xint 31) (.var 12) (.lit (0)))), ((.c2 (.xint 30) (.var 12) (.lit (0))), (.c2 (.xint 30) (.var 12) (.lit (0)))), ((.c2 (.xint 29) (.var 12) (.lit (0))), (.c2 (.xint 29) (.var 12) (.lit (0)))), ((.c2 (.xint 28) (.var 12) (.lit (0))), (.c2 (.xint 28) (.var 12) (.lit (0)))), ((.c2 (.xint 27) (.var 12) (.lit (0))), (.c2 (.xint 27) (.var 12) (.lit (0)))), ((.c2 (.xint 26) (.var 12) (.lit (0))), (.c2 (.xint 26) (.var 12) (.lit (0)))), ((.c2 (.xint 25) (.var 12) (.lit (0))), (.c2 (.xint 25) (.var 12) (.lit (0)))), ((.c2 (.xint 24) (.var 12) (.lit (0))), (.c2 (.xint 24) (.var 12) (.lit (0)))), ((.c2 (.xint 23) (.var 12) (.lit (0))), (.c2 (.xint 23) (.var 12) (.lit (0)))), ((.c2 (.xint 22) (.var 12) (.lit (0))), (.c2 (.xint 22) (.var 12) (.lit (0)))), ((.c2 (.xint 21) (.var 12) (.lit (0))), (.c2 (.xint 21) (.var 12) (.lit (0)))), ((.c2 (.xint 20) (.var 12) (.lit (0))), (.c2 (.xint 20) (.var 12) (.lit (0)))), ((.c2 (.xint 19) (.var 12) (.lit (0))), (.c2 (.xint 19) (.var 12) (.lit (0)))), ((.c2 (.xint 18) (.var 12) (.lit (0))), (.c2 (.xint 18) (.var 12) (.lit (0)))), ((.c2 (.xint 17) (.var 12) (.lit (0))), (.c2 (.xint 17) (.var 12) (.lit (0)))), ((.c2 (.xint 16) (.var 12) (.lit (0))), (.c2 (.xint 16) (.var 12) (.lit (0)))), ((.c2 (.xint 15) (.var 12) (.lit (0))), (.c2 (.xint 15) (.var 12) (.lit (0)))), ((.c2 (.xint 14) (.var 12) (.lit (0))), (.c2 (.xint 14) (.var 12) (.lit (0)))), ((.c2 (.xint 13) (.var 12) (.lit (0))), (.c2 (.xint 13) (.var 12) (.lit (0)))), ((.c2 (.xint 12) (.var 12) (.lit (0))), (.c2 (.xint 12) (.var 12) (.lit (0)))), ((.c2 (.xint 11) (.var 12) (.lit (0))), (.c2 (.xint 11) (.var 12) (.lit (0)))), ((.c2 (.xint 10) (.var 12) (.lit (0))), (.c2 (.xint 10) (.var 12) (.lit (0)))), ((.c2 (.xint 9) (.var 12) (.lit (0))), (.c2 (.xint 9) (.var 12) (.lit (0)))), ((.c2 (.xint 8) (.var 12) (.lit (0))), (.c2 (.xint 8) (.var 12) (.lit (0)))), ((.c2 (.xint 7) (.var 12) (.lit (0))), (.c2 (.xint 7) (.var 12) (.lit (0)))), ((.c2 (.xint 6) (.var 12) (.lit (0))), (.c2 (.xint 6) (.var 12) (.lit (0)))), ((.c2 (.xint 5) (.var 12) (.lit (0))), (.c2 (.xint 5) (.var 12) (.lit (0)))), ((.c2 (.xint 4) (.var 12) (.lit (0))), (.c2 (.xint 4) (.var 12) (.lit (0)))), ((.c2 (.xint 3) (.var 12) (.lit (0))), (.c2 (.xint 3) (.var 12) (.lit (0)))), ((.c2 (.xint 2) (.var 12) (.lit (0))), (.c2 (.xint 2) (.var 12) (.lit (0)))), ((.c2 (.xint 1) (.var 12) (.lit (0))), (.c2 (.xint 1) (.var 12) (.lit (0)))), ((.c2 (.xint 0) (.var 12) (.lit (0))), (.c2 (.xint 0) (.var 12) (.lit (0)))), ((.var 11), (.var 11)), ((.var 10), (.var 10)), ((.var 9), (.var 9)), ((.var 8), (.var 8)), ((.var 7), (.var 7)), ((.var 6), (.var 6)), ((.lit (0)), (.lit (0))), ((.c2 (.xint 31) (.var 4) (.lit (0))), (.c2 (.xint 31) (.var 4) (.lit (0)))), ((.c2 (.xint 30) (.var 4) (.lit (0))), (.c2 (.xint 30) (.var 4) (.lit (0)))), ((.c2 (.xint 29) (.var 4) (.lit (0))), (.c2 (.xint 29) (.var 4) (.lit (0)))), ((.c2 (.xint 28) (.var 4) (.lit (0))), (.c2 (.xint 28) (.var 4) (.lit (0)))), ((.c2 (.xint 27) (.var 4) (.lit (0))), (.c2 (.xint 27) (.var 4) (.lit (0)))), ((.c2 (.xint 26) (.var 4) (.lit (0))), (.c2 (.xint 26) (.var 4) (.lit (0)))), ((.c2 (.xint 25) (.var 4) (.lit (0))), (.c2 (.xint 25) (.var 4) (.lit (0)))), ((.c2 (.xint 24) (.var 4) (.lit (0))), (.c2 (.xint 24) (.var 4) (.lit (0)))), ((.c2 (.xint 23) (.var 4) (.lit (0))), (.c2 (.xint 23) (.var 4) (.lit (0)))), ((.c2 (.xint 22) (.var 4) (.lit (0))), (.c2 (.xint 22) (.var 4) (.lit (0)))), ((.c2 (.xint 21) (.var 4) (.lit (0))), (.c2 (.xint 21) (.var 4) (.lit (0)))), ((.c2 (.xint 20) (.var 4) (.lit (0))), (.c2 (.xint 20) (.var 4) (.lit (0)))), ((.c2 (.xint 19) (.var 4) (.lit (0))), (.c2 (.xint 19) (.var 4) (.lit (0)))), ((.c2 (.xint 18) (.var 4) (.lit (0))), (.c2 (.xint 18) (.var 4) (.lit (0)))), ((.c2 (.xint 17) (.var 4) (.lit (0))), (.c2 (.xint 17) (.var 4) (.lit (0)))), ((.c2 (.xint 16) (.var 4) (.lit (0))), (.c2 (.xint 16) (.var 4) (.lit (0)))), ((.c2 (.xint 15) (.var 4) (.lit (0))), (.c2 (.xint 15) (.var 4) (.lit (0)))), ((.c2 (.xint 14) (.var 4) (.lit (0))), (.c2 (.xint 14) (.var 4) (.lit (0)))), ((.c2 (.xint 13) (.var 4) (.lit (0))), (.c2 (.xint 13) (.var 4) (.lit (0)))), ((.c2 (.xint 12) (.var 4) (.lit (0))), (.c2 (.xint 12) (.var 4) (.lit (0)))), ((.c2 (.xint 11) (.var 4) (.lit (0))), (.c2 (.xint 11) (.var 4) (.lit (0)))), ((.c2 (.xint 10) (.var 4) (.lit (0))), (.c2 (.xint 10) (.var 4) (.lit (0)))), ((.c2 (.xint 9) (.var 4) (.lit (0))), (.c2 (.xint 9) (.var 4) (.lit (0)))), ((.c2 (.xint 8) (.var 4) (.lit (0))), (.c2 (.xint 8) (.var 4) (.lit (0)))), ((.c2 (.xint 7) (.var 4) (.lit (0))), (.c2 (.xint 7) (.var 4) (.lit (0)))), ((.c2 (.xint 6) (.var 4) (.lit (0))), (.c2 (.xint 6) (.var 4) (.lit (0)))), ((.c2 (.xint 5) (.var 4) (.lit (0))), (.c2 (.xint 5) (.var 4) (.lit (0)))), ((.c2 (.xint 4) (.var 4) (.lit (0))), (.c2 (.xint 4) (.var 4) (.lit (0)))), ((.c2 (.xint 3) (.var 4) (.lit (0))), (.c2 (.xint 3) (.var 4) (.lit (0)))), ((.c2 (.xint 2) (.var 4) (.lit (0))), (.c2 (.xint 2) (.var 4) (.lit (0)))), ((.c2 (.xint 1) (.var 4) (.lit (0))), (.c2 (.xint 1) (.var 4) (.lit (0)))), ((.c2 (.xint 0) (.var 4) (.lit (0))), (.c2 (.xint 0) (.var 4) (.lit (0)))), ((.var 3), (.var 3)), ((.var 2), (.var 2)), ((.var 1), (.var 1)), ((.var 0), (.var 0))], [], []⟩ (.fresh 22 (.fresh 23 (.fresh 24 (.hyp 0 22 (.br (.cmp .lss (.var 24) (.var 6))
 (.need (.cmp .leq (.lit (0)) (.var 24)) (.need (.cmp .lss (.var 24) (.dlen (.var 16))) (.need (.cmp .lss (.var 24) (.var 14)) (.need (.cmp .lss (.var 24) (.dlen (.var 18))) (.br (.not (.c2 .req (.rcons (i8 16 24 0) (.rcons (i8 16 24 1) (.rcons (i8 16 24 2) (.rcons (i8 16 24 3) (.rcons (i8 16 24 4) (.rcons (i8 16 24 5) (.rcons (i8 16 24 6) (.rcons (i8 16 24 7) (.rcons (i8 16 24 8) (.rcons (i8 16 24 9) (.rcons (i8 16 24 10) (.rcons (i8 16 24 11) (.rcons (i8 16 24 12) (.rcons (i8 16 24 13) (.rcons (i8 16 24 14) (.rcons (i8 16 24 15) (.rcons (i8 16 24 16) (.rcons (i8 16 24 17) (.rcons (i8 16 24 18) (.rcons (i8 16 24 19) (.rcons (i8 16 24 20) (.rcons (i8 16 24 21) (.rcons (i8 16 24 22) (.rcons (i8 16 24 23) (.rcons (i8 16 24 24) (.rcons (i8 16 24 25) (.rcons (i8 16 24 26) (.rcons (i8 16 24 27) (.rcons (i8 16 24 28) (.rcons (i8 16 24 29) (.rcons (i8 16 24 30) (.rcons (i8 16 24 31) .rnil)))))))))))))))))))))))))))))))) (.rcons (i8 18 24 0) (.rcons (i8 18 24 1) (.rcons (i8 18 24 2) (.rcons (i8 18 24 3) (.rcons (i8 18 24 4) (.rcons (i8 18 24 5) (.rcons (i8 18 24 6) (.rcons (i8 18 24 7) (.rcons (i8 18 24 8) (.rcons (i8 18 24 9) (.rcons (i8 18 24 10) (.rcons (i8 18 24 11) (.rcons (i8 18 24 12) (.rcons (i8 18 24 13) (.rcons (i8 18 24 14) (.rcons (i8 18 24 15) (.rcons (i8 18 24 16) (.rcons (i8 18 24 17) (.rcons (i8 18 24 18) (.rcons (i8 18 24 19) (.rcons (i8 18 24 20) (.rcons (i8 18 24 21) (.rcons (i8 18 24 22) (.rcons (i8 18 24 23) (.rcons (i8 18 24 24) (.rcons (i8 18 24 25) (.rcons (i8 18 24 26) (.rcons (i8 18 24 27) (.rcons (i8 18 24 28) (.rcons (i8 18 24 29) (.rcons (i8 18 24 30) (.rcons (i8 18 24 31) .rnil))))))))))))))))))))))))))))))))))
 (.ret 0 ⟨20, [(20, (.t (.bl false)))], [], [], []⟩)
 (.back 0 22 ⟨1000, [(1002, (.t (.arith .add .i64 (.var 24) (.lit (1))))), (1001, (.r 23)), (1000, (.r 22))], [((.var 15), (.var 15)), ((.var 14), (.var 14)), ((.lit (0)), (.lit (0))), ((.c2 (.xint 31) (.var 12) (.lit (0))), (.c2 (.xint 31) (.var 12) (.lit (0)))), ((.c2 (.xint 30) (.var 12) (.lit (0))), (.c2 (.xint 30) (.var 12) (.lit (0)))), ((.c2 (.xint 29) (.var 12) (.lit (0))), (.c2 (.xint 29) (.var 12) (.lit (0)))), ((.c2 (.xint 28) (.var 12) (.lit (0))), (.c2 (.xint 28) (.var 12) (.lit (0)))), ((.c2 (.xint 27) (.var 12) (.lit (0))), (.c2 (.xint 27) (.var 12) (.lit (0)))), ((.c2 (.xint 26) (.var 12) (.lit (0))), (.c2 (.xint 26) (.var 12) (.lit (0)))), ((.c2 (.xint 25) (.var 12) (.lit (0))), (.c2 (.xint 25) (.var 12) (.lit (0)))), ((.c2 (.xint 24) (.var 12) (.lit (0))), (.c2 (.xint 24) (.var 12) (.lit (0)))), ((.c2 (.xint 23) (.var 12) (.lit (0))), (.c2 (.xint 23) (.var 12) (.lit (0)))), ((.c2 (.xint 22) (.var 12) (.lit (0))), (.c2 (.xint 22) (.var 12) (.lit (0)))), ((.c2 (.xint 21) (.var 12) (.lit (0))), (.c2 (.xint 21) (.var 12) (.lit (0)))), ((.c2 (.xint 20) (.var 12) (.lit (0))), (.c2 (.xint 20) (.var 12) (.lit (0)))), ((.c2 (.xint 19) (.var 12) (.lit (0))), (.c2 (.xint 19) (.var 12) (.lit (0)))), ((.c2 (.xint 18) (.var 12) (.lit (0))), (.c2 (.xint 18) (.var 12) (.lit (0)))), ((.c2 (.xint 17) (.var 12) (.lit (0))), (.c2 (.xint 17) (.var 12) (.lit (0)))), ((.c2 (.xint 16) (.var 12) (.lit (0))), (.c2 (.xint 16) (.var 12) (.lit (0)))), ((.c2 (.xint 15) (.var 12) (.lit (0))), (.c2 (.xint 15) (.var 12) (.lit (0)))), ((.c2 (.xint 14) (.var 12) (.lit (0))), (.c2 (.xint 14) (.var 12) (.lit (0)))), ((.c2 (.xint 13) (.var 12) (.lit (0))), (.c2 (.xint 13) (.var 12) (.lit (0)))), ((.c2 (.xint 12) (.var 12) (.lit (0))), (.c2 (.xint 12) (.var 12) (.lit (0)))), ((.c2 (.xint 11) (.var 12) (.lit (0))), (.c2 (.xint 11) (.var 12) (.lit (0)))), ((.c2 (.xint 10) (.var 12) (.lit (0))), (.c2 (.xint 10) (.var 12) (.lit (0)))), ((.c2 (.xint 9) (.var 12) (.lit (0))), (.c2 (.xint 9) (.var 12) (.lit (0)))), ((.c2 (.xint 8) (.var 12) (.lit (0))), (.c2 (.xint 8) (.var 12) (.lit (0)))), ((.c2 (.xint 7) (.var 12) (.lit (0))), (.c2 (.xint 7) (.var 12) (.lit (0)))), ((.c2 (.xint 6) (.var 12) (.lit (0))), (.c2 (.xint 6) (.var 12) (.lit (0)))), ((.c2 (.xint 5) (.var 12) (.lit (0))), (.c2 (.xint 5) (.var 12) (.lit (0)))), ((.c2 (.xint 4) (.var 12) (.lit (0))), (.c2 (.xint 4) (.var 12) (.lit (0)))), ((.c2 (.xint 3) (.var 12) (.lit (0))), (.c2 (.xint 3) (.var 12) (.lit (0)))), ((.c2 (.xint 2) (.var 12) (.lit (0))), (.c2 (.xint 2) (.var 12) (.lit (0)))), ((.c2 (.xint 1) (.var 12) (.lit (0))), (.c2 (.xint 1) (.var 12) (.lit (0)))), ((.c2 (.xint 0) (.var 12) (.lit (0))), (.c2 (.xint 0) (.var 12) (.lit (0)))), ((.var 11), (.var 11)), ((.var 10), (.var 10)), ((.var 9), (.var 9)), ((.var 8), (.var 8)), ((.var 7), (.var 7)), ((.var 6), (.var 6)), ((.lit (0)), (.lit (0))), ((.c2 (.xint 31) (.var 4) (.lit (0))), (.c2 (.xint 31) (.var 4) (.lit (0)))), ((.c2 (.xint 30) (.var 4) (.lit (0))), (.c2 (.xint 30) (.var 4) (.lit (0)))), ((.c2 (.xint 29) (.var 4) (.lit (0))), (.c2 (.xint 29) (.var 4) (.lit (0)))), ((.c2 (.xint 28) (.var 4) (.lit (0))), (.c2 (.xint 28) (.var 4) (.lit (0)))), ((.c2 (.xint 27) (.var 4) (.lit (0))), (.c2 (.xint 27) (.var 4) (.lit (0)))), ((.c2 (.xint 26) (.var 4) (.lit (0))), (.c2 (.xint 26) (.var 4) (.lit (0)))), ((.c2 (.xint 25) (.var 4) (.lit (0))), (.c2 (.xint 25) (.var 4) (.lit (0)))), ((.c2 (.xint 24) (.var 4) (.lit (0))), (.c2 (.xint 24) (.var 4) (.lit (0)))), ((.c2 (.xint 23) (.var 4) (.lit (0))), (.c2 (.xint 23) (.var 4) (.lit (0)))), ((.c2 (.xint 22) (.var 4) (.lit (0))), (.c2 (.xint 22) (.var 4) (.lit (0)))), ((.c2 (.xint 21) (.var 4) (.lit (0))), (.c2 (.xint 21) (.var 4) (.lit (0)))), ((.c2 (.xint 20) (.var 4) (.lit (0))), (.c2 (.xint 20) (.var 4) (.lit (0)))), ((.c2 (.xint 19) (.var 4) (.lit (0))), (.c2 (.xint 19) (.var 4) (.lit (0)))), ((.c2 (.xint 18) (.var 4) (.lit (0))), (.c2 (.xint 18) (.var 4) (.lit (0)))), ((.c2 (.xint 17) (.var 4) (.lit (0))), (.c2 (.xint 17) (.var 4) (.lit (0)))), ((.c2 (.xint 16) (.var 4) (.lit (0))), (.c2 (.xint 16) (.var 4) (.lit (0)))), ((.c2 (.xint 15) (.var 4) (.lit (0))), (.c2 (.xint 15) (.var 4) (.lit (0)))), ((.c2 (.xint 14) (.var 4) (.lit (0))), (.c2 (.xint 14) (.var 4) (.lit (0)))), ((.c2 (.xint 13) (.var 4) (.lit (0))), (.c2 (.xint 13) (.var 4) (.lit (0)))), ((.c2 (.xint 12) (.var 4) (.lit (0))), (.c2 (.xint 12) (.var 4) (.lit (0)))), ((.c2 (.xint 11) (.var 4) (.lit (0))), (.c2 (.xint 11) (.var 4) (.lit (0)))), ((.c2 (.xint 10) (.var 4) (.lit (0))), (.c2 (.xint 10) (.var 4) (.lit (0)))), ((.c2 (.xint 9) (.var 4) (.lit (0))), (.c2 (.xint 9) (.var 4) (.lit (0)))), ((.c2 (.xint 8) (.var 4) (.lit (0))), (.c2 (.xint 8) (.var 4) (.lit (0)))), ((.c2 (.xint 7) (.var 4) (.lit (0))), (.c2 (.xint 7) (.var 4) (.lit (0)))), ((.c2 (.xint 6) (.var 4) (.lit (0))), (.c2 (.xint 6) (.var 4) (.lit (0)))), ((.c2 (.xint 5) (.var 4) (.lit (0))), (.c2 (.xint 5) (.var 4) (.lit (0)))), ((.c2 (.xint 4) (.var 4) (.lit (0))), (.c2 (.xint 4) (.var 4) (.lit (0)))), ((.c2 (.xint 3) (.var 4) (.lit (0))), (.c2 (.xint 3) (.var 4) (.lit (0)))), ((.c2 (.xint 2) (.var 4) (.lit (0))), (.c2 (.xint 2) (.var 4) (.lit (0)))), ((.c2 (.xint 1) (.var 4) (.lit (0))), (.c2 (.xint 1) (.var 4) (.lit (0)))), ((.c2 (.xint 0) (.var 4) (.lit (0))), (.c2 (.xint 0) (.var 4) (.lit (0)))), ((.var 3), (.var 3)), ((.var 2), (.var 2)), ((.var 1), (.var 1)), ((.var 0), (.var 0)), ((.lit (0)), (.lit (0))), ((.lit (0)), (.lit (0)))], [], []⟩))))))
 (.ret 0 ⟨20, [(20, (.t (.bl true)))], [], [], []⟩)))))))))))))))))
theorem o_same_eq : treeOf ⟨Tryd.prog, sameC, [], [sameI]⟩ 100000 Tryd.f26 = o_same := by kernel_rfl
theorem same_of (hd : ∀ c ∈ ([] : List Ctr), c.ok Tryd.prog) (h : ∀ ρ : Env, ρ.good → (sameC).pre ρ → o_same.den ⟨Tryd.prog, sameC, [], [sameI]⟩ ρ) : (sameC).ok Tryd.prog :=
  ok_of_tree Tryd.func26 (fun a w => Tryd.call26 a w) hd 100000 (fun ρ hg hp => by rw [o_same_eq]; exact h ρ hg hp)
def o_lawDecodes : Out := (.need (.cmp .leq (.lit (0)) (.var 1)) (.br (.cmp .gtr (.var 1) (.lit (20000)))
 (.pre 0 ⟨0, [(1, (.t (.var 6))), (0, (.r 5))], [((.lit (1)), (.lit (1)))], [], []⟩ (.both (.post 0 0 ⟨0, [(1, (.t (.var 6))), (0, (.r 5))], [((.lit (1)), (.lit (1)))], [], []⟩ 7 (.ret 0 ⟨7, [], [], [((.bl true), (.bl true))], []⟩)) .top))
 (.fresh 7 (.need (.cmp .leq (.var 1) (.dlen (.var 3))) (.need (.cmp .leq (.tims (.lit (1)) (.var 1)) (.lit (140737488355328))) (.fresh 8 (.fresh 9 (.pre 1 ⟨0, [(4, (.t (.var 9))), (3, (.t (.dtake (.var 3) (.var 1)))), (2, (.t (.var 9))), (1, (.t (.var 1))), (0, (.r 8))], [((.lit (0)), (.lit (0)))], [], []⟩ (.both (.fresh 10 (.post 1 0 ⟨0, [(4, (.t (.var 9))), (3, (.t (.dtake (.var 3) (.var 1)))), (2, (.t (.var 9))), (1, (.t (.var 1))), (0, (.r 8))], [((.lit (0)), (.lit (0)))], [], []⟩ 10 (.fresh 11 (.pre 2 ⟨0, [(4, (.t (.var 4))), (3, (.t (.var 3))), (2, (.t (.var 2))), (1, (.t (.var 1))), (0, (.r 0))], [((.lit (0)), (.lit (0)))], [], []⟩ (.both (.fresh 12 (.post 2 0 ⟨0, [(4, (.t (.var 4))), (3, (.t (.var 3))), (2, (.t (.var 2))), (1, (.t (.var 1))), (0, (.r 0))], [((.lit (0)), (.lit (0)))], [], []⟩ 12 (.fresh 13 (.br (.cmp .eql (.var 10) (.var 12))
 (.pre 3 ⟨0, [(19, (.t (.lit (0)))), (18, (.t .dnil)), (17, (.t (.lit (0)))), (16, (.t .dnil)), (15, (.t (.lit (0)))), (14, (.t (.lit (0)))), (13, .nil), (11, (.t (.lit (0)))), (10, (.t (.lit (0)))), (9, (.t (.lit (0)))), (8, (.t (.lit (0)))), (12, (.t (.rcons o8 (.rcons o8 (.rcons o8 (.rcons o8 (.rcons o8 (.rcons o8 (.rcons o8 (.rcons o8 (.rcons o8 (.rcons o8 (.rcons o8 (.rcons o8 (.rcons o8 (.rcons o8 (.rcons o8 (.rcons o8 (.rcons o8 (.rcons o8 (.rcons o8 (.rcons o8 (.rcons o8 (.rcons o8 (.rcons o8 (.rcons o8 (.rcons o8 (.rcons o8 (.rcons o8 (.rcons o8 (.rcons o8 (.rcons o8 (.rcons o8 (.rcons o8 .rnil)))))))))))))))))))))))))))))))))), (7, (.t (.lit (0)))), (6, (.t (.lit (0)))), (5, .nil), (3, (.t (.lit (0)))), (2, (.t (.lit (0)))), (1, (.t (.lit (0)))), (0, (.t (.lit (0)))), (4, (.t (.rcons o8 (.rcons o8 (.rcons o8 (.rcons o8 (.rcons o8 (.rcons o8 (.rcons o8 (.rcons o8 (.rcons o8 (.rcons o8 (.rcons o8 (.rcons o8 (.rcons o8 (.rcons o8 (.rcons o8 (.rcons o8 (.rcons o8 (.rcons o8 (.rcons o8 (.rcons o8 (.rcons o8 (.rcons o8 (.rcons o8 (.rcons o8 (.rcons o8 (.rcons o8 (.rcons o8 (.rcons o8 (.rcons o8 (.rcons o8 (.rcons o8 (.rcons o8 .rnil))))))))))))))))))))))))))))))))))], [((.lit (0)), (.lit (0))), ((.lit (0)), (.lit (0)))], [], []⟩ (.both (.fresh 14 (.post 3 0 ⟨0, [(19, (.t (.lit (0)))), (18, (.t .dnil)), (17, (.t (.lit (0)))), (16, (.t .dnil)), (15, (.t (.lit (0)))), (14, (.t (.lit (0)))), (13, .nil), (11, (.t (.lit (0)))), (10, (.t (.lit (0)))), (9, (.t (.lit (0)))), (8, (.t (.lit (0)))), (12, (.t (.rcons o8 (.rcons o8 (.rcons o8 (.rcons o8 (.rcons o8 (.rcons o8 (.rcons o8 (.rcons o8 (.rcons o8 (.rcons o8 (.rcons o8 (.rcons o8 (.rcons o8 (.rcons o8 (.rcons o8 (.rcons o8 (.rcons o8 (.rcons o8 (.rcons o8 (.rcons o8 (.rcons o8 (.rcons o8 (.rcons o8 (.rcons o8 (.rcons o8 (.rcons o8 (.rcons o8 (.rcons o8 (.rcons o8 (.rcons o8 (.rcons o8 (.rcons o8 .rnil)))))))))))))))))))))))))))))))))), (7, (.t (.lit (0)))), (6, (.t (.lit (0)))), (5, .nil), (3, (.t (.lit (0)))), (2, (.t (.lit (0)))), (1, (.t (.lit (0)))), (0, (.t (.lit (0)))), (4, (.t (.rcons o8 (.rcons o8 (.rcons o8 (.rcons o8 (.rcons o8 (.rcons o8 (.rcons o8 (.rcons o8 (.rcons o8 (.rcons o8 (.rcons o8 (.rcons o8 (.rcons o8 (.rcons o8 (.rcons o8 (.rcons o8 (.rcons o8 (.rcons o8 (.rcons o8 (.rcons o8 (.rcons o8 (.rcons o8 (.rcons o8 (.rcons o8 (.rcons o8 (.rcons o8 (.rcons o8 (.rcons o8 (.rcons o8 (.rcons o8 (.rcons o8 (.rcons o8 .rnil))))))))))))))))))))))))))))))))))], [((.lit (0)), (.lit (0))), ((.lit (0)), (.lit (0)))], [], []⟩ 14 (.br (.var 14)
 (.pre 0 ⟨0, [(1, (.t (.var 6))), (0, (.r 5))], [((.lit (1)), (.lit (1)))], [], []⟩ (.both (.post 0 0 ⟨0, [(1, (.t (.var 6))), (0, (.r 5))], [((.lit (1)), (.lit (1)))], [], []⟩ 15 (.ret 0 ⟨7, [], [], [((.bl true), (.bl true))], []⟩)) .top))
 (.stuck 7 0 0)))) .top))
 (.stuck 7 0 0))))) (.both (.fresh 12 (.fresh 13 (.fresh 14 (.fresh 15 (.fresh 16 (.fresh 17 (.fresh 18 (.fresh 19 (.fresh 20 (.post 2 1 ⟨0, [(4, (.t (.var 4))), (3, (.t (.var 3))), (2, (.t (.var 2))), (1, (.t (.var 1))), (0, (.r 0))], [((.lit (0)), (.lit (0)))], [], []⟩ 12 (.fresh 21 (.br (.cmp .eql (.var 10) (.lit (0)))
 (.know (.cmp .leq (.dlen (.var 20)) (.var 19)) (.pre 3 ⟨0, [(19, (.t (.var 19))), (18, (.t (.var 20))), (17, (.t (.lit (0)))), (16, (.t .dnil)), (15, (.t (.var 19))), (14, (.t (.var 18))), (13, (.r 17)), (11, (.t (.var 15))), (10, (.t (.var 14))), (9, (.t (.var 13))), (8, (.t (.var 12))), (12, (.t (.rcons (x8 0 16) (.rcons (x8 1 16) (.rcons (x8 2 16) (.rcons (x8 3 16) (.rcons (x8 4 16) (.rcons (x8 5 16) (.rcons (x8 6 16) (.rcons (x8 7 16) (.rcons (x8 8 16) (.rcons (x8 9 16) (.rcons (x8 10 16) (.rcons (x8 11 16) (.rcons (x8 12 16) (.rcons (x8 13 16) (.rcons (x8 14 16) (.rcons (x8 15 16) (.rcons (x8 16 16) (.rcons (x8 17 16) (.rcons (x8 18 16) (.rcons (x8 19 16) (.rcons (x8 20 16) (.rcons (x8 21 16) (.rcons (x8 22 16) (.rcons (x8 23 16) (.rcons (x8 24 16) (.rcons (x8 25 16) (.rcons (x8 26 16) (.rcons (x8 27 16) (.rcons (x8 28 16) (.rcons (x8 29 16) (.rcons (x8 30 16) (.rcons (x8 31 16) .rnil)))))))))))))))))))))))))))))))))), (7, (.t (.lit (0)))), (6, (.t (.lit (0)))), (5, .nil), (3, (.t (.lit (0)))), (2, (.t (.lit (0)))), (1, (.t (.lit (0)))), (0, (.t (.lit (0)))), (4, (.t (.rcons o8 (.rcons o8 (.rcons o8 (.rcons o8 (.rcons o8 (.rcons o8 (.rcons o8 (.rcons o8 (.rcons o8 (.rcons o8 (.rcons o8 (.rcons o8 (.rcons o8 (.rcons o8 (.rcons o8 (.rcons o8 (.rcons o8 (.rcons o8 (.rcons o8 (.rcons o8 (.rcons o8 (.rcons o8 (.rcons o8 (.rcons o8 (.rcons o8 (.rcons o8 (.rcons o8 (.rcons o8 (.rcons o8 (.rcons o8 (.rcons o8 (.rcons o8 .rnil))))))))))))))))))))))))))))))))))], [((.lit (0)), (.lit (0))), ((.lit (0)), (.lit (0)))], [], []⟩ (.both (.fresh 22 (.post 3 0 ⟨0, [(19, (.t (.var 19))), (18, (.t (.var 20))), (17, (.t (.lit (0)))), (16, (.t .dnil)), (15, (.t (.var 19))), (14, (.t (.var 18))), (13, (.r 17)), (11, (.t (.var 15))), (10, (.t (.var 14))), (9, (.t (.var 13))), (8, (.t (.var 12))), (12, (.t (.rcons (x8 0 16) (.rcons (x8 1 16) (.rcons (x8 2 16) (.rcons (x8 3 16) (.rcons (x8 4 16) (.rcons (x8 5 16) (.rcons (x8 6 16) (.rcons (x8 7 16) (.rcons (x8 8 16) (.rcons (x8 9 16) (.rcons (x8 10 16) (.rcons (x8 11 16) (.rcons (x8 12 16) (.rcons (x8 13 16) (.rcons (x8 14 16) (.rcons (x8 15 16) (.rcons (x8 16 16) (.rcons (x8 17 16) (.rcons (x8 18 16) (.rcons (x8 19 16) (.rcons (x8 20 16) (.rcons (x8 21 16) (.rcons (x8 22 16) (.rcons (x8 23 16) (.rcons (x8 24 16) (.rcons (x8 25 16) (.rcons (x8 26 16) (.rcons (x8 27 16) (.rcons (x8 28 16) (.rcons (x8 29 16) (.rcons (x8 30 16) (.rcons (x8 31 16) .rnil)))))))))))))))))))))))))))))))))), (7, (.t (.lit (0)))), (6, (.t (.lit (0)))), (5, .nil), (3, (.t (.lit (0)))), (2, (.t (.lit (0)))), (1, (.t (.lit (0)))), (0, (.t (.lit (0)))), (4, (.t (.rcons o8 (.rcons o8 (.rcons o8 (.rcons o8 (.rcons o8 (.rcons o8 (.rcons o8 (.rcons o8 (.rcons o8 (.rcons o8 (.rcons o8 (.rcons o8 (.rcons o8 (.rcons o8 (.rcons o8 (.rcons o8 (.rcons o8 (.rcons o8 (.rcons o8 (.rcons o8 (.rcons o8 (.rcons o8 (.rcons o8 (.rcons o8 (.rcons o8 (.rcons o8 (.rcons o8 (.rcons o8 (.rcons o8 (.rcons o8 (.rcons o8 (.rcons o8 .rnil))))))))))))))))))))))))))))))))))], [((.lit (0)), (.lit (0))), ((.lit (0)), (.lit (0)))], [], []⟩ 22 (.br (.var 22)
 (.pre 0 ⟨0, [(1, (.t (.var 6))), (0, (.r 5))], [((.lit (1)), (.lit (1)))], [], []⟩ (.both (.post 0 0 ⟨0, [(1, (.t (.var 6))), (0, (.r 5))], [((.lit (1)), (.lit (1)))], [], []⟩ 23 (.ret 0 ⟨7, [], [], [((.bl true), (.bl true))], []⟩)) .top))
 (.stuck 7 0 0)))) .top)))
 (.stuck 7 0 0))))))))))))) .top)))))) (.both (.fresh 10 (.fresh 11 (.fresh 12 (.fresh 13 (.fresh 14 (.fresh 15 (.fresh 16 (.fresh 17 (.fresh 18 (.post 1 1 ⟨0, [(4, (.t (.var 9))), (3, (.t (.dtake (.var 3) (.var 1)))), (2, (.t (.var 9))), (1, (.t (.var 1))), (0, (.r 8))], [((.lit (0)), (.lit (0)))], [], []⟩ 10 (.fresh 19 (.pre 2 ⟨0, [(4, (.t (.var 4))), (3, (.t (.var 3))), (2, (.t (.var 2))), (1, (.t (.var 1))), (0, (.r 0))], [((.lit (0)), (.lit (0)))], [], []⟩ (.both (.fresh 20 (.post 2 0 ⟨0, [(4, (.t (.var 4))), (3, (.t (.var 3))), (2, (.t (.var 2))), (1, (.t (.var 1))), (0, (.r 0))], [((.lit (0)), (.lit (0)))], [], []⟩ 20 (.fresh 21 (.br (.cmp .eql (.lit (0)) (.var 20))
 (.know (.cmp .leq (.dlen (.var 18)) (.var 17)) (.pre 3 ⟨0, [(19, (.t (.lit (0)))), (18, (.t .dnil)), (17, (.t (.var 17))), (16, (.t (.var 18))), (15, (.t (.lit (0)))), (14, (.t (.lit (0)))), (13, .nil), (11, (.t (.lit (0)))), (10, (.t (.lit (0)))), (9, (.t (.lit (0)))), (8, (.t (.lit (0)))), (12, (.t (.rcons o8 (.rcons o8 (.rcons o8 (.rcons o8 (.rcons o8 (.rcons o8 (.rcons o8 (.rcons o8 (.rcons o8 (.rcons o8 (.rcons o8 (.rcons o8 (.rcons o8 (.rcons o8 (.rcons o8 (.rcons o8 (.rcons o8 (.rcons o8 (.rcons o8 (.rcons o8 (.rcons o8 (.rcons o8 (.rcons o8 (.rcons o8 (.rcons o8 (.rcons o8 (.rcons o8 (.rcons o8 (.rcons o8 (.rcons o8 (.rcons o8 (.rcons o8 .rnil)))))))))))))))))))))))))))))))))), (7, (.t (.var 17))), (6, (.t (.var 16))), (5, (.r 15)), (3, (.t (.var 13))), (2, (.t (.var 12))), (1, (.t (.var 11))), (0, (.t (.var 10))), (4, (.t (.rcons (x8 0 14) (.rcons (x8 1 14) (.rcons (x8 2 14) (.rcons (x8 3 14) (.rcons (x8 4 14) (.rcons (x8 5 14) (.rcons (x8 6 14) (.rcons (x8 7 14) (.rcons (x8 8 14) (.rcons (x8 9 14) (.rcons (x8 10 14) (.rcons (x8 11 14) (.rcons (x8 12 14) (.rcons (x8 13 14) (.rcons (x8 14 14) (.rcons (x8 15 14) (.rcons (x8 16 14) (.rcons (x8 17 14) (.rcons (x8 18 14) (.rcons (x8 19 14) (.rcons (x8 20 14) (.rcons (x8 21 14) (.rcons (x8 22 14) (.rcons (x8 23 14) (.rcons (x8 24 14) (.rcons (x8 25 14) (.rcons (x8 26 14) (.rcons (x8 27 14) (.rcons (x8 28 14) (.rcons (x8 29 14) (.rcons (x8 30 14) (.rcons (x8 31 14) .rnil))))))))))))))))))))))))))))))))))], [((.lit (0)), (.lit (0))), ((.lit (0)), (.lit (0)))], [], []⟩ (.both (.fresh 22 (.post 3 0 ⟨0, [(19, (.t (.lit (0)))), (18, (.t .dnil)), (17, (.t (.var 17))), (16, (.t (.var 18))), (15, (.t (.lit (0)))), (14, (.t (.lit (0)))), (13, .nil), (11, (.t (.lit (0)))), (10, (.t (.lit (0)))), (9, (.t (.lit (0)))), (8, (.t (.lit (0)))), (12, (.t (.rcons o8 (.rcons o8 (.rcons o8 (.rcons o8 (.rcons o8 (.rcons o8 (.rcons o8 (.rcons o8 (.rcons o8 (.rcons o8 (.rcons o8 (.rcons o8 (.rcons o8 (.rcons o8 (.rcons o8 (.rcons o8 (.rcons o8 (.rcons o8 (.rcons o8 (.rcons o8 (.rcons o8 (.rcons o8 (.rcons o8 (.rcons o8 (.rcons o8 (.rcons o8 (.rcons o8 (.rcons o8 (.rcons o8 (.rcons o8 (.rcons o8 (.rcons o8 .rnil)))))))))))))))))))))))))))))))))), (7, (.t (.var 17))), (6, (.t (.var 16))), (5, (.r 15)), (3, (.t (.var 13))), (2, (.t (.var 12))), (1, (.t (.var 11))), (0, (.t (.var 10))), (4, (.t (.rcons (x8 0 14) (.rcons (x8 1 14) (.rcons (x8 2 14) (.rcons (x8 3 14) (.rcons (x8 4 14) (.rcons (x8 5 14) (.rcons (x8 6 14) (.rcons (x8 7 14) (.rcons (x8 8 14) (.rcons (x8 9 14) (.rcons (x8 10 14) (.rcons (x8 11 14) (.rcons (x8 12 14) (.rcons (x8 13 14) (.rcons (x8 14 14) (.rcons (x8 15 14) (.rcons (x8 16 14) (.rcons (x8 17 14) (.rcons (x8 18 14) (.rcons (x8 19 14) (.rcons (x8 20 14) (.rcons (x8 21 14) (.rcons (x8 22 14) (.rcons (x8 23 14) (.rcons (x8 24 14) (.rcons (x8 25 14) (.rcons (x8 26 14) (.rcons (x8 27 14) (.rcons (x8 28 14) (.rcons (x8 29 14) (.rcons (x8 30 14) (.rcons (x8 31 14) .rnil))))))))))))))))))))))))))))))))))], [((.lit (0)), (.lit (0))), ((.lit (0)), (.lit (0)))], [], []⟩ 22 (.br (.var 22)
 (.pre 0 ⟨0, [(1, (.t (.var 6))), (0, (.r 5))], [((.lit (1)), (.lit (1)))], [], []⟩ (.both (.post 0 0 ⟨0, [(1, (.t (.var 6))), (0, (.r 5))], [((.lit (1)), (.lit (1)))], [], []⟩ 23 (.ret 0 ⟨7, [], [], [((.bl true), (.bl true))], []⟩)) .top))
 (.stuck 7 0 0)))) .top)))
 (.stuck 7 0 0))))) (.both (.fresh 20 (.fresh 21 (.fresh 22 (.fresh 23 (.fresh 24 (.fresh 25 (.fresh 26 (.fresh 27 (.fresh 28 (.post 2 1 ⟨0, [(4, (.t (.var 4))), (3, (.t (.var 3))), (2, (.t (.var 2))), (1, (.t (.var 1))), (0, (.r 0))], [((.lit (0)), (.lit (0)))], [], []⟩ 20 (.fresh 29 (.know (.cmp .leq (.dlen (.var 18)) (.var 17)) (.pre 3 ⟨0, [(19, (.t (.var 27))), (18, (.t (.var 28))), (17, (.t (.var 17))), (16, (.t (.var 18))), (15, (.t (.var 27))), (14, (.t (.var 26))), (13, (.r 25)), (11, (.t (.var 23))), (10, (.t (.var 22))), (9, (.t (.var 21))), (8, (.t (.var 20))), (12, (.t (.rcons (x8 0 24) (.rcons (x8 1 24) (.rcons (x8 2 24) (.rcons (x8 3 24) (.rcons (x8 4 24) (.rcons (x8 5 24) (.rcons (x8 6 24) (.rcons (x8 7 24) (.rcons (x8 8 24) (.rcons (x8 9 24) (.rcons (x8 10 24) (.rcons (x8 11 24) (.rcons (x8 12 24) (.rcons (x8 13 24) (.rcons (x8 14 24) (.rcons (x8 15 24) (.rcons (x8 16 24) (.rcons (x8 17 24) (.rcons (x8 18 24) (.rcons (x8 19 24) (.rcons (x8 20 24) (.rcons (x8 21 24) (.rcons (x8 22 24) (.rcons (x8 23 24) (.rcons (x8 24 24) (.rcons (x8 25 24) (.rcons (x8 26 24) (.rcons (x8 27 24) (.rcons (x8 28 24) (.rcons (x8 29 24) (.rcons (x8 30 24) (.rcons (x8 31 24) .rnil)))))))))))))))))))))))))))))))))), (7, (.t (.var 17))), (6, (.t (.var 16))), (5, (.r 15)), (3, (.t (.var 13))), (2, (.t (.var 12))), (1, (.t (.var 11))), (0, (.t (.var 10))), (4, (.t (.rcons (x8 0 14) (.rcons (x8 1 14) (.rcons (x8 2 14) (.rcons (x8 3 14) (.rcons (x8 4 14) (.rcons (x8 5 14) (.rcons (x8 6 14) (.rcons (x8 7 14) (.rcons (x8 8 14) (.rcons (x8 9 14) (.rcons (x8 10 14) (.rcons (x8 11 14) (.rcons (x8 12 14) (.rcons (x8 13 14) (.rcons (x8 14 14) (.rcons (x8 15 14) (.rcons (x8 16 14) (.rcons (x8 17 14) (.rcons (x8 18 14) (.rcons (x8 19 14) (.rcons (x8 20 14) (.rcons (x8 21 14) (.rcons (x8 22 14) (.rcons (x8 23 14) (.rcons (x8 24 14) (.rcons (x8 25 14) (.rcons (x8 26 14) (.rcons (x8 27 14) (.rcons (x8 28 14) (.rcons (x8 29 14) (.rcons (x8 30 14) (.rcons (x8 31 14) .rnil))))))))))))))))))))))))))))))))))], [((.lit (0)), (.lit (0))), ((.lit (0)), (.lit (0)))], [], []⟩ (.both (.fresh 30 (.post 3 0 ⟨0, [(19, (.t (.var 27))), (18, (.t (.var 28))), (17, (.t (.var 17))), (16, (.t (.var 18))), (15, (.t (.var 27))), (14, (.t (.var 26))), (13, (.r 25)), (11, (.t (.var 23))), (10, (.t (.var 22))), (9, (.t (.var 21))), (8, (.t (.var 20))), (12, (.t (.rcons (x8 0 24) (.rcons (x8 1 24) (.rcons (x8 2 24) (.rcons (x8 3 24) (.rcons (x8 4 24) (.rcons (x8 5 24) (.rcons (x8 6 24) (.rcons (x8 7 24) (.rcons (x8 8 24) (.rcons (x8 9 24) (.rcons (x8 10 24) (.rcons (x8 11 24) (.rcons (x8 12 24) (.rcons (x8 13 24) (.rcons (x8 14 24) (.rcons (x8 15 24) (.rcons (x8 16 24) (.rcons (x8 17 24) (.rcons (x8 18 24) (.rcons (x8 19 24) (.rcons (x8 20 24) (.rcons (x8 21 24) (.rcons (x8 22 24) (.rcons (x8 23 24) (.rcons (x8 24 24) (.rcons (x8 25 24) (.rcons (x8 26 24) (.rcons (x8 27 24) (.rcons (x8 28 24) (.rcons (x8 29 24) (.rcons (x8 30 24) (.rcons (x8 31 24) .rnil)))))))))))))))))))))))))))))))))), (7, (.t (.var 17))), (6, (.t (.var 16))), (5, (.r 15)), (3, (.t (.var 13))), (2, (.t (.var 12))), (1, (.t (.var 11))), (0, (.t (.var 10))), (4, (.t (.rcons (x8 0 14) (.rcons (x8 1 14) (.rcons (x8 2 14) (.rcons (x8 3 14) (.rcons (x8 4 14) (.rcons (x8 5 14) (.rcons (x8 6 14) (.rcons (x8 7 14) (.rcons (x8 8 14) (.rcons (x8 9 14) (.rcons (x8 10 14) (.rcons (x8 11 14) (.rcons (x8 12 14) (.rcons (x8 13 14) (.rcons (x8 14 14) (.rcons (x8 15 14) (.rcons (x8 16 14) (.rcons (x8 17 14) (.rcons (x8 18 14) (.rcons (x8 19 14) (.rcons (x8 20 14) (.rcons (x8 21 14) (.rcons (x8 22 14) (.rcons (x8 23 14) (.rcons (x8 24 14) (.rcons (x8 25 14) (.rcons (x8 26 14) (.rcons (x8 27 14) (.rcons (x8 28 14) (.rcons (x8 29 14) (.rcons (x8 30 14) (.rcons (x8 31 14) .rnil))))))))))))))))))))))))))))))))))], [((.lit (0)), (.lit (0))), ((.lit (0)), (.lit (0)))], [], []⟩ 30 (.br (.var 30)
 (.pre 0 ⟨0, [(1, (.t (.var 6))), (0, (.r 5))], [((.lit (1)), (.lit (1)))], [], []⟩ (.both (.post 0 0 ⟨0, [(1, (.t (.var 6))), (0, (.r 5))], [((.lit (1)), (.lit (1)))], [], []⟩ 31 (.ret 0 ⟨7, [], [], [((.bl true), (.bl true))], []⟩)) .top))
 (.stuck 7 0 0)))) .top)))))))))))))) .top)))))))))))))) .top))))))))))
theorem o_lawDecodes_eq : treeOf ⟨Tryd.prog, lawDecodesC, [knownC, decMC, ofBytesC, sameC], []⟩ 100000 Tryd.f15 = o_lawDecodes := by kernel_rfl
theorem lawDecodes_of (hd : ∀ c ∈ ([knownC, decMC, ofBytesC, sameC] : List Ctr), c.ok Tryd.prog) (h : ∀ ρ : Env, ρ.good → (lawDecodesC).pre ρ → o_lawDecodes.den ⟨Tryd.prog, lawDecodesC, [knownC, decMC, ofBytesC, sameC], []⟩ ρ) : (lawDecodesC).ok Tryd.prog :=
  ok_of_tree Tryd.func15 (fun a w => Tryd.call15 a w) hd 100000 (fun ρ hg hp => by rw [o_lawDecodes_eq]; exact h ρ hg hp)
end Go.Proofs

set_option linter.unusedSimpArgs false
set_option linter.unusedVariables false
namespace Go.Proofs
open Go Go.Eng
set_option maxRecDepth 20000
theorem sizesR_ok : sizesRC.ok Tryd.prog := sizesR_of (by simp) fun ρ hg hp => by
  simp [o_sizesR, sizesRC]
  refine ⟨fun h1 => ⟨fun h2 => ⟨fun h3 => ?_, fun h3 => ?_⟩, fun h2 => ?_⟩, fun h1 => ?_⟩
  · simp [sizes3, h1, h2, h3, cmpOf]
  · simp [sizes3]; omega
  · simp [sizes3]; omega
  · simp [sizes3]; omega
theorem copy32 {x : Rows'} (h : x.length = 32) : rowL [dgCells (cellI (xcopyD [dgCells fun _ => 0] 0 x) 0)] 32 = bI x := by
  rw [rowL_cells]
  have h0 : oneRow [dgCells fun _ => 0] 32 := ⟨_, rfl, by simp [dgCells]⟩
  exact rowL_eq (by rw [bI_len, h]) fun j hj => by
    have := cellX_xcopy_in (s := x) (o := 0) h0 (by omega) (j := j) (by omega)
    rw [Nat.zero_add] at this
    rw [this, List.getD_eq_getElem?_getD]
theorem copy0 : rowL [dgCells (cellI (xcopyD [dgCells fun _ => 0] 0 []) 0)] 32 = List.replicate 32 0 := by
  rw [rowL_cells]
  have h0 : oneRow [dgCells fun _ => 0] 32 := ⟨_, rfl, by simp [dgCells]⟩
  exact (rowL_congr fun j hj => cellX_xcopy_out (s := []) (o := 0) h0 (by decide) (.inr (Nat.zero_le _))).trans rowL_zero
theorem rDg_ok : rDgC.ok Tryd.prog := rDg_of (by simp [take_ok]) fun ρ hg hp => by
  obtain ⟨hr, e0, e1⟩ := hp
  simp (config := { maxSteps := 2000000 }) [o_rDg, rDgC, takeC, rPre, rNow, rM, rdCells]
  refine ⟨⟨⟨hr, e0, e1⟩, by decide, by decide⟩, fun u _ hu hu0 hu1 => ?_, fun o _ c _ o2 _ l2 _ c2 _ hx hr2 ht => ?_⟩
  · rw [hu]
    exact ⟨copy0, hr, rfl, rfl, by omega, hu1⟩
  · rw [ht]
    have hl : (List.take 32 (List.drop o.i.toNat (ρ 6).d)).length = 32 := by
      obtain ⟨a0, a1, a2, a3, a4, a5⟩ := hx
      rw [List.length_take, List.length_drop]; omega
    exact ⟨hx.1, hx.2.2.2.1, (copy32 hl).trans (seg_bI (l := 32)), hr2, rfl, rfl⟩
theorem part_ok : partC.ok Tryd.prog := part_of (by simp) fun ρ hg hp => by
  obtain ⟨hl, a0, a1, a2⟩ := hp
  simp (config := { maxSteps := 2000000 }) [o_part, partC, partI]
  refine ⟨⟨⟨_, rfl, rfl⟩, fun j hj => by omega⟩, fun d _ i _ hd i0 i1 hj => ⟨fun hlt => ?_, fun hge => ?_⟩⟩
  · have m1 : arithOf .add .i64 (ρ 5).i i.i = (ρ 5).i + i.i := by rw [Go.Proofs.add64 (by omega) (by omega)]
    have m2 : arithOf .add .i64 i.i 1 = i.i + 1 := by rw [Go.Proofs.add64 (by omega) (by omega)]
    rw [m1, m2]
    refine ⟨by omega, by omega, by omega, i0, by rw [oneRow_len hd]; decide, ⟨oneRow_putX hd, by omega, by omega, fun j hj' => ?_⟩, by omega⟩
    by_cases e : j = i.i.toNat
    · rw [e, cellX_putX hd (by omega)]
      have := bI_get (d := (ρ 3).d) (i := (ρ 5).i + i.i) (by omega) (by omega)
      rw [show (ρ 5).i.toNat + i.i.toNat = ((ρ 5).i + i.i).toNat by omega, this]; rfl
    · rw [cellX_putX_ne e]; exact hj j (by omega)
  · refine ⟨by rw [oneRow_len hd]; decide, (rowL_cells (d := d.d)).trans (rowL_eq ?_ fun j hj32 => ?_)⟩
    · rw [List.length_take, List.length_drop, bI_len]; omega
    · rw [hj j (by omega), List.getElem?_take, if_pos hj32, List.getElem?_drop]
theorem dgs_len {D : Rows'} : (dgs D).length = D.length := by simp [dgs]
theorem dgs_cell {D D' : Rows'} (h : dgs D = dgs D') {i : Nat} (h1 : i < D.length) (h2 : i < D'.length) {j : Nat} (hj : j < 32) : cellI D i j = cellI D' i j := by
  have e : rowB D[i] = rowB D'[i] := by
    have := congrArg (fun l => l[i]?) h
    simpa [dgs, h1, h2] using this
  rw [← row_dgs h1, ← row_dgs h2] at e
  have := rowL_eq32 e j hj
  rwa [dgCells_get hj, dgCells_get hj] at this
theorem same_ok : sameC.ok Tryd.prog := same_of (by simp) fun ρ hg hp => by
  obtain ⟨h6, h14, h7⟩ := hp
  simp (config := { maxSteps := 2000000 }) [o_same, sameC, sameI, manV, manT, cellsT]
  refine ⟨fun h e => absurd e h, fun _ => ⟨fun h _ e => absurd e h, fun _ => ⟨fun h _ _ e => absurd e h, fun _ => ⟨fun h _ _ _ e => absurd e h, fun _ => ⟨fun hor _ _ _ _ hr => ?_, ?_⟩⟩⟩⟩⟩
  · have hc := rowL_eq32 hr
    simp [hc] at hor
  · intros
    refine ⟨by omega, by omega, fun h _ _ _ _ _ hd => ?_, fun hll => ⟨⟨hll, by omega⟩, fun u _ _ u0 u1 hlt => ⟨u0, by omega, by omega, by omega, fun hor _ _ _ _ _ hd => ?_, ?_⟩⟩⟩
    · have := congrArg List.length hd
      rw [dgs_len, dgs_len] at this
      omega
    · obtain ⟨I, hI⟩ : ∃ I : Nat, u.i = I := ⟨u.i.toNat, by omega⟩
      have hc : ∀ j, j < 32 → cellI (ρ 16).d I j = cellI (ρ 18).d I j := fun j hj => dgs_cell hd (by omega) (by omega) hj
      rw [hI] at hor
      simp [hc] at hor
    · intros
      have m2 : arithOf .add .i64 u.i 1 = u.i + 1 := by rw [Go.Proofs.add64 (by omega) (by omega)]
      rw [m2]
      exact ⟨⟨hll, by omega, by omega⟩, by omega⟩
/-! ### What bytes mean -/
theorem at0_get {d : Rows'} {j : Nat} (hB : allB d) (h : j < d.length) : cellI d j 0 = at0 (bI d) j ∧ 0 ≤ at0 (bI d) j ∧ at0 (bI d) j < 256 := by
  have hg := bI_get (d := d) (i := (j : Int)) (by omega) (by omega)
  rw [Int.toNat_natCast] at hg
  have e : at0 (bI d) j = cellI d j 0 := by rw [at0, List.getD_eq_getElem?_getD, hg]; rfl
  have := allB_list hB (at0 (bI d) j) (by rw [e]; exact List.mem_of_getElem? hg)
  exact ⟨e.symm, this⟩
theorem rowB_dgf {f : Nat → Int} : rowB (dgCells f) = (List.range 32).map f := List.map_congr_left fun j hj => dgCells_get (f := f) (List.mem_range.1 hj)
theorem decP_snoc {d X D : Rows'} {i l : Int} (hB : allB d) (h : decP (bI d) i l D) (hi : 0 ≤ i) (hx : rowL X 32 = chunk (bI d) i.toNat) : decP (bI d) (i + 1) (l + 1) (D ++ [dgCells (cellX X)]) := by
  obtain ⟨h1, h2, h3, h4⟩ := h
  have e : rowB (dgCells (cellX X)) = chunk (bI d) i.toNat := by rw [rowB_dgf]; exact hx
  refine ⟨by rw [List.length_append, List.length_singleton]; omega, by omega, fun row hr => ?_, ?_⟩
  · rcases List.mem_append.1 hr with hr | hr
    · exact h3 row hr
    · rw [List.mem_singleton.1 hr, e]
      exact ⟨by simp [dgCells], fun x hx => allB_list hB x (List.drop_subset _ _ (List.take_subset _ _ hx))⟩
  · rw [show (i + 1).toNat = i.toNat + 1 by omega, List.range_succ, List.map_append, ← h4, dgs, List.map_append]
    show _ ++ [rowB _] = _ ++ [chunk _ _]
    rw [e]; rfl
theorem decP_nil {m : List Int} : decP m 0 0 [] := ⟨rfl, rfl, fun r hr => (by cases hr), rfl⟩
theorem ofBytes_ok : ofBytesC.ok Tryd.prog := ofBytes_of (by simp [sizesR_ok, part_ok]) fun ρ hg hp => by
  obtain ⟨hl, h1, hB⟩ := hp
  simp (config := { maxSteps := 2000000 }) [o_ofBytes, ofBytesC, ofBytesI, decAlts, sizesRC, partC, manT, cellsT]
  have hML : (bI (ρ 3).d).length = (ρ 3).d.length := bI_len
  refine ⟨by omega, fun h => by rw [decE, if_pos (by omega)], fun h7 => ?_⟩
  have W : ∀ {x : Int}, 0 ≤ x → x < 256 → IntKind.i64.wrap x = x := fun a b => Go.Proofs.wrap64 (by omega) (by omega)
  have c0 : cellI (ρ 3).d 0 0 = at0 (bI (ρ 3).d) 0 := (at0_get (j := 0) hB (by omega)).1
  have c1 : cellI (ρ 3).d 1 0 = at0 (bI (ρ 3).d) 1 := (at0_get (j := 1) hB (by omega)).1
  have c2 : cellI (ρ 3).d 2 0 = at0 (bI (ρ 3).d) 2 := (at0_get (j := 2) hB (by omega)).1
  have c3 : cellI (ρ 3).d 3 0 = at0 (bI (ρ 3).d) 3 := (at0_get (j := 3) hB (by omega)).1
  have c4 : cellI (ρ 3).d 4 0 = at0 (bI (ρ 3).d) 4 := (at0_get (j := 4) hB (by omega)).1
  have c5 : cellI (ρ 3).d 5 0 = at0 (bI (ρ 3).d) 5 := (at0_get (j := 5) hB (by omega)).1
  have c6 : cellI (ρ 3).d 6 0 = at0 (bI (ρ 3).d) 6 := (at0_get (j := 6) hB (by omega)).1
  obtain ⟨_, p2, q2⟩ := at0_get (j := 2) hB (by omega)
  obtain ⟨_, p3, q3⟩ := at0_get (j := 3) hB (by omega)
  obtain ⟨_, p4, q4⟩ := at0_get (j := 4) hB (by omega)
  obtain ⟨_, p5, q5⟩ := at0_get (j := 5) hB (by omega)
  obtain ⟨_, p6, q6⟩ := at0_get (j := 6) hB (by omega)
  rw [c0, c1, c2, c3, c4, c5, c6, W p2 q2, W p3 q3, W p4 q4, W p5 q5, W p6 q6]
  have m5 : arithOf .add .i64 (arithOf .mul .i64 (at0 (bI (ρ 3).d) 5) 256) (at0 (bI (ρ 3).d) 6) = decS (bI (ρ 3).d) := by
    rw [Go.Proofs.mul64 (by omega) (by omega), Go.Proofs.add64 (by omega) (by omega)]; rfl
  have m4 : ∀ {x : Int}, 0 ≤ x → x < 256 → arithOf .add .i64 39 (arithOf .mul .i64 32 x) = 39 + 32 * x := fun a b => by
    rw [Go.Proofs.mul64 (by omega) (by omega), Go.Proofs.add64 (by omega) (by omega)]
  rw [m5, m4 p4 q4]
  refine ⟨by omega, by omega, fun h => by rw [decE, if_neg (by omega), if_pos (.inl h)], fun h0 => ⟨by omega, by omega, fun h => by rw [decE, if_neg (by omega), if_pos (.inr h)], fun h1' => ⟨by omega, by omega, by omega, by omega, by omega, by omega, by omega, by omega, by omega, by omega, fun u _ hu => ?_⟩⟩⟩
  have n1 : ¬ (at0 (bI (ρ 3).d) 0 ≠ 77 ∨ at0 (bI (ρ 3).d) 1 ≠ 1) := fun h => h.elim (fun h => h h0) (fun h => h h1')
  refine ⟨fun hf => by rw [decE, if_neg (by omega), if_neg n1, if_pos (.inl (by rw [← hu]; exact hf))], fun ht => ⟨fun h => by rw [decE, if_neg (by omega), if_neg n1, if_pos (.inr h)], fun hs => ?_⟩⟩
  have n2 : ¬ (sizes3 (at0 (bI (ρ 3).d) 2) (at0 (bI (ρ 3).d) 3) (at0 (bI (ρ 3).d) 4) = false ∨ 8192 < decS (bI (ρ 3).d)) := fun h => h.elim (fun h => by rw [← hu, ht] at h; cases h) (fun h => by omega)
  refine ⟨fun h => by rw [decE, if_neg (by omega), if_neg n1, if_neg n2, if_pos (by omega)], fun h3 => ⟨fun h => by rw [decE, if_neg (by omega), if_neg n1, if_neg n2, if_neg (by omega), if_pos (by omega)], fun h4 => ⟨⟨hl, by omega, by omega⟩, fun o _ ho => ⟨⟨⟨rfl, rfl, rfl, rfl⟩, by rw [decE, if_neg (by omega), if_neg n1, if_neg n2, if_neg (by omega), if_neg (by omega)], by omega, by omega, by omega, ho, decP_nil⟩, fun k _ n _ t _ s _ O _ l _ D _ i _ dH dE dL t5 i0 i1 dO dP => ⟨fun hlt => ?_, fun hge => ⟨dE, dH, dO, ?_⟩⟩⟩⟩⟩⟩
  · have m1 : arithOf .add .i64 i.i 1 = i.i + 1 := by rw [Go.Proofs.add64 (by omega) (by omega)]
    have hlD := dP.1
    have hli := dP.2.1
    rw [m1, m4 (by omega) (by omega)]
    refine ⟨⟨hl, by omega, by omega, by omega⟩, fun x _ hx => ⟨hlD, by omega, ⟨dH, dE, dL, t5, by omega, by omega, dO, decP_snoc hB dP i0 (hx.trans ?_)⟩, by omega⟩⟩
    rw [chunk, show (39 + 32 * i.i).toNat = 39 + 32 * i.i.toNat by omega]
  · have : i.i = at0 (bI (ρ 3).d) 4 := by have := dH.2.2.1; omega
    rw [← this]; exact dP
end Go.Proofs

set_option linter.unusedSimpArgs false
set_option linter.unusedVariables false
namespace Go.Proofs
open Go Go.Eng
set_option maxRecDepth 20000
/-! ### The head -/
def short (m : List Int) (e : Int) (n : Nat) : Prop := e = 4 ∨ (e = 0 ∧ m.length < n)
theorem short_step {m : List Int} {e : Int} {w n : Nat} (h : short m e (n + w)) : short (rdNum m e w).2.2.1 (rdNum m e w).2.2.2 n := by
  rcases h with h | ⟨h, hl⟩
  · rw [h, rdNum, rd_err (by decide)]; exact .inl rfl
  · rw [h]
    by_cases hw : m.length < w
    · rw [rdNum_short hw]; exact .inl rfl
    · rw [rdNum_some (by omega)]
      exact .inr ⟨rfl, by rw [List.length_drop]; omega⟩
theorem val_one {m : List Int} {j : Nat} (h : j < m.length) : valL ((m.drop j).take 1) = at0 m j := by
  rw [List.drop_eq_getElem_cons h, at0, List.getD_eq_getElem?_getD, List.getElem?_eq_getElem h]
  show 0 * 256 + m[j] = m[j]
  omega
theorem val_two {m : List Int} {j : Nat} (h : j + 1 < m.length) : valL ((m.drop j).take 2) = at0 m j * 256 + at0 m (j + 1) := by
  have h0 : j < m.length := by omega
  rw [List.drop_eq_getElem_cons h0, List.drop_eq_getElem_cons h, at0, at0, List.getD_eq_getElem?_getD, List.getElem?_eq_getElem h0, List.getD_eq_getElem?_getD, List.getElem?_eq_getElem h]
  show (0 * 256 + m[j]) * 256 + m[j + 1] = m[j] * 256 + m[j + 1]
  omega
theorem decE_head {m : List Int} (h7 : 7 ≤ m.length) (h0 : at0 m 0 = 77) (h1 : at0 m 1 = 1) (hs : sizes3 (at0 m 2) (at0 m 3) (at0 m 4) = true) (hz : decS m ≤ 8192) : decE m = if (m.length : Int) < 39 + 32 * at0 m 4 then 4 else if 39 + 32 * at0 m 4 < (m.length : Int) then 5 else 0 := by
  rw [decE, if_neg (by omega), if_neg (fun h => h.elim (fun h => h h0) (fun h => h h1)), if_neg (fun h => h.elim (fun h => by rw [hs] at h; cases h) (fun h => by omega))]
theorem sizes3_t {k n t : Int} (h : sizes3 k n t = true) : 1 ≤ t ∧ t ≤ 255 := by
  have := of_decide_eq_true h
  omega
set_option maxHeartbeats 1600000 in
theorem decM_ok : decMC.ok Tryd.prog := decM_of (by simp [newReader_ok, rU8_ok, rU16_ok, err_ok, sizes3_ok, rDg_ok, endD_ok]) fun ρ hg hp => by
  obtain ⟨hl, hb1, hB⟩ := hp
  simp (config := { maxSteps := 4000000 }) [o_decM, decMC, decMI, decAlts, newReaderC, rU8C, rU16C, rNumFn, errC, sizes3C, rDgC, endC, rPre, rNow, rM, rdCells, inV, manT, cellsT]
  have hML : (bI (ρ 3).d).length = (ρ 3).d.length := bI_len
  refine ⟨⟨by omega, hl, by omega⟩, fun cu _ du _ hdu hcap => ⟨?_, ?_⟩⟩
  · rw [hdu] at hcap ⊢
    exact ⟨by omega, by omega, by omega, by omega, hB, by omega⟩
  have hM : segB du.d 0 (ρ 1).i = bI (ρ 3).d := by rw [hdu]; exact segB_all hl
  rw [hM]
  intro v _ o1 _ l1 _ c1 _ e1 _ hv hr1 hs1 he1 x1 y1
  refine ⟨⟨hr1, x1, y1⟩, fun k _ o2 _ l2 _ c2 _ e2 _ hk hr2 hs2 he2 x2 y2 => ⟨⟨hr2, x2, y2⟩, fun n _ o3 _ l3 _ c3 _ e3 _ hn hr3 hs3 he3 x3 y3 => ⟨⟨hr3, x3, y3⟩, fun t _ o4 _ l4 _ c4 _ e4 _ ht hr4 hs4 he4 x4 y4 => ⟨⟨hr4, x4, y4⟩, fun s _ o5 _ l5 _ c5 _ e5 _ hs hr5 hs5 he5 x5 y5 => ?_⟩⟩⟩⟩
  by_cases h7 : (bI (ρ 3).d).length < 7
  · have s1 : short (segB du.d o1.i l1.i) e1.i 5 := by rw [hs1, he1]; exact short_step (n := 5) (.inr ⟨rfl, h7⟩)
    have s2 : short (segB du.d o2.i l2.i) e2.i 4 := by rw [hs2, he2]; exact short_step (n := 4) s1
    have s3 : short (segB du.d o3.i l3.i) e3.i 3 := by rw [hs3, he3]; exact short_step (n := 3) s2
    have s4 : short (segB du.d o4.i l4.i) e4.i 2 := by rw [hs4, he4]; exact short_step (n := 2) s3
    have s5 : short (segB du.d o5.i l5.i) e5.i 0 := by rw [hs5, he5]; exact short_step (n := 0) s4
    have h4 : e5.i = 4 := s5.elim id fun h => by have := h.2; omega
    exact ⟨fun _ => ⟨by rw [h4, decE, if_pos h7], by omega⟩, fun h => by exfalso; omega⟩
  generalize hMM : bI (ρ 3).d = M at *
  have a0 : ∀ j, j < 7 → 0 ≤ at0 M j ∧ at0 M j < 256 := fun j hj => by
    have := (at0_get (d := (ρ 3).d) (j := j) hB (by omega)).2
    rwa [hMM] at this
  rw [rdNum_some (by omega)] at hv hs1 he1
  simp only at hv hs1 he1
  rw [hs1, he1, rdNum_some (by rw [List.length_drop]; omega), List.drop_drop] at hk hs2 he2
  simp only [Nat.reduceAdd] at hk hs2 he2
  rw [hs2, he2, rdNum_some (by rw [List.length_drop]; omega), List.drop_drop] at hn hs3 he3
  simp only [Nat.reduceAdd] at hn hs3 he3
  rw [hs3, he3, rdNum_some (by rw [List.length_drop]; omega), List.drop_drop] at ht hs4 he4
  simp only [Nat.reduceAdd] at ht hs4 he4
  rw [hs4, he4, rdNum_some (by rw [List.length_drop]; omega), List.drop_drop] at hs hs5 he5
  simp only [Nat.reduceAdd] at hs hs5 he5
  have W : ∀ {x : Int}, 0 ≤ x → x < 65536 → IntKind.i64.wrap x = x := fun a b => Go.Proofs.wrap64 (by omega) (by omega)
  have v2 : v.i = at0 M 0 * 256 + at0 M 1 := hv.trans (val_two (m := M) (j := 0) (by omega))
  have k1 : k.i = at0 M 2 := hk.trans (val_one (by omega))
  have n1 : n.i = at0 M 3 := hn.trans (val_one (by omega))
  have t1 : t.i = at0 M 4 := ht.trans (val_one (by omega))
  have s1 : s.i = decS M := hs.trans (val_two (by omega))
  have hS : decS M = at0 M 5 * 256 + at0 M 6 := rfl
  obtain ⟨p0, q0⟩ := a0 0 (by decide)
  obtain ⟨p1, q1⟩ := a0 1 (by decide)
  obtain ⟨p2, q2⟩ := a0 2 (by decide)
  obtain ⟨p3, q3⟩ := a0 3 (by decide)
  obtain ⟨p4, q4⟩ := a0 4 (by decide)
  obtain ⟨p5, q5⟩ := a0 5 (by decide)
  obtain ⟨p6, q6⟩ := a0 6 (by decide)
  rw [v2, k1, n1, t1, s1, W p2 (by omega), W p3 (by omega), W p4 (by omega), W (x := decS M) (by omega) (by omega)]
  refine ⟨fun h => by exfalso; omega, fun _ => ⟨fun h => ?_, fun hver => ?_⟩⟩
  · have hne : at0 M 0 ≠ 77 ∨ at0 M 1 ≠ 1 := by omega
    rw [decE, if_neg h7, if_pos hne]
  have hh0 : at0 M 0 = 77 := by omega
  have hh1 : at0 M 1 = 1 := by omega
  have n1 : ¬ (at0 M 0 ≠ 77 ∨ at0 M 1 ≠ 1) := fun h => h.elim (fun h => h hh0) (fun h => h hh1)
  refine fun z _ hz => ⟨fun hf => by rw [decE, if_neg h7, if_neg n1, if_pos (.inl (by rw [← hz]; exact hf))], fun hzt => ⟨fun hbig => by rw [decE, if_neg h7, if_neg n1, if_pos (.inr hbig)], fun hle => ⟨⟨hr5, x5, y5⟩, fun O _ o6 _ l6 _ c6 _ e6 _ hO hr6 hs6 he6 x6 y6 => ⟨⟨⟨rfl, rfl, rfl, rfl⟩, by rw [← hz]; exact hzt, hle, by omega, hh0, hh1, p4, ⟨hr6.2.1, fun _ => hr6⟩, ?_⟩, ?_⟩⟩⟩⟩
  · rw [hz] at hzt
    obtain ⟨tl, tu⟩ := sizes3_t hzt
    rw [hs5, he5] at hO hs6 he6
    by_cases h39 : M.length < 39
    · rw [rd_short (by decide) (by rw [List.length_drop]; omega)] at he6
      exact .inr ⟨he6, by omega⟩
    · rw [rd_some (by decide) (by rw [List.length_drop]; omega)] at hO hs6 he6
      exact .inl ⟨he6, by omega, by rw [hs6]; show List.drop (32 : Int).toNat (List.drop 7 M) = _; rw [List.drop_drop]; rfl, hO, decP_nil⟩
  intro K _ N _ T _ Z _ OO _ L _ D _ o _ l _ c _ e _ dd _ cp _ i _ dH hsz hz8 hl7 _ _ i0 i1 hLD hLi hin hst
  obtain ⟨tl, tu⟩ := sizes3_t hsz
  refine ⟨fun hlt hc => ⟨⟨hin.2 hc, by omega, by omega⟩, fun X _ o' _ l' _ c' _ e' _ hX hr hs' he' x' y' => ?_⟩, fun hge hc => ⟨hin.1, fun u _ hu => ?_⟩⟩
  · have m1 : arithOf .add .i64 i.i 1 = i.i + 1 := by rw [Go.Proofs.add64 (by omega) (by omega)]
    rw [m1]
    refine ⟨hLD, by omega, ⟨dH, hsz, hz8, hl7, hh0, hh1, by omega, by omega, hLD, by omega, ⟨hr.2.1, fun _ => hr⟩, ?_⟩, by omega⟩
    rcases hst with ⟨he, hle', hseg, dO, dP⟩ | ⟨he, hsh⟩
    · rw [hseg, he] at hX hs' he'
      by_cases h39 : (M.length : Int) < 39 + 32 * (i.i + 1)
      · rw [rd_short (by decide) (by rw [List.length_drop]; omega)] at he'
        exact .inr ⟨he', by omega⟩
      · rw [rd_some (by decide) (by rw [List.length_drop]; omega)] at hX hs' he'
        refine .inl ⟨he', by omega, ?_, dO, ?_⟩
        · rw [hs']
          show List.drop (32 : Int).toNat (List.drop _ M) = _
          rw [List.drop_drop]
          congr 1
          omega
        · rw [← hMM] at dP hX ⊢
          refine decP_snoc hB dP i0 (hX.trans ?_)
          show List.take (32 : Int).toNat (List.drop _ _) = _
          rw [chunk, show (39 + 32 * i.i).toNat = 39 + 32 * i.i.toNat by omega]
          rfl
    · rw [he, rd_err (by decide)] at he'
      exact .inr ⟨he', hsh⟩
  · have hT : T.i = at0 M 4 := dH.2.2.1
    have hiT : i.i = T.i := by omega
    have hE := decE_head (m := M) (by omega) hh0 hh1 (by rw [← dH.1, ← dH.2.1, ← hT]; exact hsz) (by rw [← dH.2.2.2]; exact hz8)
    rcases hst with ⟨he, hle', hseg, dO, dP⟩ | ⟨he, hsh⟩
    · have hlen := congrArg List.length hseg
      rw [sg_len (hin.2 hc), List.length_drop] at hlen
      have hl0 := (hin.2 hc).2.1
      rw [he, endE, if_neg (by decide)] at hu
      by_cases hpos : 0 < l.i
      · rw [if_pos hpos] at hu
        rw [if_neg (by omega), if_pos (by omega)] at hE
        exact ⟨fun _ => ⟨by omega, by omega⟩, fun h => by exfalso; omega⟩
      · rw [if_neg hpos] at hu
        rw [if_neg (by omega), if_neg (by omega)] at hE
        exact ⟨fun h => by exfalso; omega, fun _ => ⟨hE, dH, dO, by rw [← hT, ← hiT]; exact dP⟩⟩
    · rw [he, endE, if_pos (by decide)] at hu
      rw [if_pos (by omega)] at hE
      exact ⟨fun _ => ⟨by omega, by omega⟩, fun h => by exfalso; omega⟩
theorem lawDecodes_ok (hk : knownC.ok Tryd.prog) : lawDecodesC.ok Tryd.prog := lawDecodes_of (by simp [hk, decM_ok, ofBytes_ok, same_ok]) fun ρ hg hp => by
  obtain ⟨⟨hl, h1, hB⟩, hGr, hGd⟩ := hp
  simp only [Nat.reduceAdd] at hl h1 hB
  simp (config := { maxSteps := 4000000 }) [o_lawDecodes, lawDecodesC, knownC, decMC, ofBytesC, sameC, decAlts, decPre, lawTrue, gOk]
  have ht : List.take (ρ 1).i.toNat (ρ 3).d = (ρ 3).d := List.take_of_length_le (by omega)
  simp only [ht]
  refine ⟨by omega, fun _ => ⟨hGr, hGd⟩, fun h2 => ⟨by omega, by omega, ⟨by omega, by omega, hB⟩, ?_, ?_⟩⟩
  · refine fun u _ hu hu0 => ⟨⟨hl, by omega, hB⟩, fun w _ hw hw0 => ⟨fun _ x _ hx => ⟨fun _ => ⟨hGr, hGd⟩, hx⟩, by omega⟩, ?_⟩
    intros
    exfalso; omega
  · refine fun k _ n _ t _ s _ O _ L _ c _ D _ hE dH dO dP => ⟨⟨hl, by omega, hB⟩, fun w _ hw hw0 => by exfalso; omega, fun k' _ n' _ t' _ s' _ O' _ L' _ D' _ _ dH' dO' dP' hc => ⟨⟨dP.1, dP'.1, ?_⟩, fun x _ hx => ?_⟩⟩
    · have h4 := dP.2.1
      by_cases h5 : 4 < (ρ 3).d.length
      · have := at0_get (d := (ρ 3).d) (j := 4) hB h5
        omega
      · have : at0 (bI (ρ 3).d) 4 = 0 := by rw [at0, List.getD_eq_getElem?_getD, List.getElem?_eq_none (by rw [bI_len]; omega)]; rfl
        omega
    · have hxb : x.b = true := hx (dH.1.trans dH'.1.symm) (dH.2.1.trans dH'.2.1.symm) (dH.2.2.1.trans dH'.2.2.1.symm) (dH.2.2.2.trans dH'.2.2.2.symm) (Eq.trans (b := (bI (ρ 3).d).drop 7 |>.take 32) dO dO'.symm) (dP.2.2.2.trans dP'.2.2.2.symm)
      exact ⟨fun _ => ⟨hGr, hGd⟩, hxb⟩
end Go.Proofs

set_option linter.unusedSimpArgs false
set_option linter.unusedVariables false
namespace Go.Eng
open Go Go.ChangeShapes Go.WideShapes Go.ChangeAt Go.RowKit

/-- Of what was there nothing has turned. -/
structure Grew (W w' : World) : Prop where
  os : w'.os = W.os
  out : w'.output = W.output
  blk : ∀ (b : Nat) (o : Obj), W.heap[b]? = some o → w'.heap[b]? = some o

theorem Grew.block {W w' : World} (h : Grew W w') {i : Nat} (hi : i < W.heap.size) : w'.heap[i]? = W.heap[i]? := by
  rw [Array.getElem?_eq_getElem hi]; exact h.blk i _ (Array.getElem?_eq_getElem hi)

theorem Grew.kept {W w' : World} (h : Grew W w') (may : MemPlace → Prop) : W.keptBut w' may := by
  refine ⟨h.os, h.out, fun i hi => ?_⟩
  rw [h.block hi, Array.getElem?_eq_getElem hi]
  cases W.heap[i] <;> simp

theorem Grew.trodAll {H : Type} {enc : TypeId × Value → H} {P : Program} {W W' : World} (hg : Grew W W') (hl : laidOutB P = true) {sp : Nat → Bool} : ∀ {ts : List TypeId} {vs : List Value} {ds : List (DataW H)} {ps : List MemPlace},
    (∀ t ∈ ts, P.readableRec t = true ∧ t < P.types.size) → DataW.TrodAll enc P W 0 (fun _ => true) true ts vs ds ps → (∀ p ∈ ps, p.block < W.heap.size) → (∀ p ∈ ps, sp p.block = true) →
    DataW.TrodAll enc P W' 0 sp true ts vs ds ps
  | [], [], [], _, _, h, _, _ => h
  | _ :: _, _ :: _, _ :: _, _, hT, ⟨p, q, h1, h2, e⟩, hlt, hs => by
    subst e
    refine ⟨p, q, ?_, Grew.trodAll hg hl (fun t ht => hT t (List.mem_cons_of_mem _ ht)) h2 (fun x hx => hlt x (List.mem_append_right _ hx)) (fun x hx => hs x (List.mem_append_right _ hx)), rfl⟩
    have hr := hT _ (List.mem_cons_self ..)
    refine WideElems.Trod_stays hl hr.1 hr.2 h1 (fun x hx => ?_) (fun x hx => hs x (List.mem_append_left _ hx))
    have hb := hg.block (hlt x (List.mem_append_left _ hx))
    cases x with
    | cell b o => exact World.cell?_of_block (w := W) hb
    | map b => exact hb

/-- The call's contract, at the whole memory as its frame. -/
theorem law_calls {P : Program} {c : Ctr} (hok : c.ok P) (hheap : c.heap = []) (halts : ∀ al ∈ c.alts, al.ret = .one (.vbool (.bl true))) {ρ : Env} (hg : ρ.good) (W : World)
    (hro : ∀ x ∈ c.ro, x.roden ρ (fun b => W.heap[b]?)) (hpre : c.pre ρ) :
    Calls P c.fn (c.args.map (SV.den ρ)).toArray W fun e W' => e = .returned (.bool true) ∧ Grew W W' := by
  have h := hok.2 ρ W ⟨fun b => W.heap[b]?, W.os, W.output⟩ Hp.emp hg (Hp.disj_emp _)
    ⟨fun b o hb => by simpa [Hp.union, Hp.emp] using hb, rfl, rfl⟩ (by rw [hheap]; trivial) hro hpre
  refine h.mono fun e w' hq => ?_
  obtain ⟨ai, al, ρ', hal, _, _, rfl, _, hO, _, _, hsub, hwi⟩ := hq
  refine ⟨by rw [halts al (List.mem_of_getElem? hal)]; rfl, ⟨hwi.1, hwi.2, fun b o hb => hsub b o ?_⟩⟩
  simp [Hp.union, hb]

theorem law_post {H : Type} {enc : TypeId × Value → H} {P : Program} {f : Func} {s : ChangeSpec} {W W' : World} {args : Array Value} {ds gs : List (DataW H)} {before : List MemPlace} {bt : TypeId}
    (hl : laidOutB P = true) (hT : ∀ t ∈ f.params.toList, P.readableRec t = true ∧ t < P.types.size) (hvars : s.vars = []) (hrt : f.resultTypes = #[bt]) (hbt : P.underlying bt = some .bool)
    (hfn : ∀ ds' : List (DataW H), ds'.length = f.params.size → s.fn H ds' = { results := [.lit (.bool true)], args := ds' })
    (hW : DataW.Whole enc P f.params.toList s.vars false W args.toList ds gs before) (hg : Grew W W') : s.post enc P f false true false false W args (.bool true) W' := by
  have hlt := hW.lt
  have hW0 := hW
  obtain ⟨p, q, hA, hV, hpq, hz, hn⟩ := hW
  rw [hvars] at hV
  obtain ⟨rfl, rfl⟩ := trodVars_none hV
  have hlen : ds.length = f.params.size := by
    have : ∀ {ts : List TypeId} {vs : List Value} {ds : List (DataW H)} {ps : List MemPlace}, DataW.TrodAll enc P W 0 (fun _ => true) true ts vs ds ps → ds.length = ts.length := by
      intro ts
      induction ts with
      | nil => intro vs ds ps h; cases vs <;> cases ds <;> simp_all [DataW.TrodAll]
      | cons t ts ih =>
        intro vs ds ps h
        cases vs <;> cases ds <;> simp_all [DataW.TrodAll]
        obtain ⟨p, q, _, h2, _⟩ := h
        exact ih h2
    simpa using this hA
  have hlt' : ∀ x ∈ p, x.block < W.heap.size := fun x hx => hlt x (by rw [hpq]; exact List.mem_append_left _ hx)
  refine ⟨ds, [], before, [], p, [], hW0, ?_, ?_, ?_, hg.kept _, fun h => by cases h⟩
  · rw [List.append_nil, hfn ds hlen, hrt]
    exact ⟨[], [], ⟨1, by simp [DataW.trod, hbt, Value.cells]⟩, rfl, rfl⟩
  · rw [List.append_nil, hfn ds hlen]
    exact hg.trodAll hl hT hA hlt' (fun x hx => by simpa using hlt' x hx)
  · rw [List.append_nil, hfn ds hlen, hvars]
    rfl

/-- What is asked of a law's call. -/
theorem law_call {H : Type} {enc : TypeId × Value → H} {P : Program} {f : Func} {s : ChangeSpec} {c : Ctr} {W : World} {args : Array Value} {ds gs : List (DataW H)} {before : List MemPlace} {bt : TypeId} {ρ : Env}
    (hok : c.ok P) (hheap : c.heap = []) (halts : ∀ al ∈ c.alts, al.ret = .one (.vbool (.bl true)))
    (hl : laidOutB P = true) (hT : ∀ t ∈ f.params.toList, P.readableRec t = true ∧ t < P.types.size) (hvars : s.vars = []) (hrt : f.resultTypes = #[bt]) (hbt : P.underlying bt = some .bool)
    (hfn : ∀ ds' : List (DataW H), ds'.length = f.params.size → s.fn H ds' = { results := [.lit (.bool true)], args := ds' })
    (hW : DataW.Whole enc P f.params.toList s.vars false W args.toList ds gs before)
    (hg : ρ.good) (hargs : args = (c.args.map (SV.den ρ)).toArray) (hro : ∀ x ∈ c.ro, x.roden ρ (fun b => W.heap[b]?)) (hpre : c.pre ρ) :
    Calls P c.fn args W fun e W' => ∃ v, e = .returned v ∧ s.post enc P f false true false false W args v W' := by
  rw [hargs]
  refine (law_calls hok hheap halts hg W hro hpre).mono fun e W' ⟨he, hgr⟩ => ⟨_, he, ?_⟩
  rw [← hargs]
  exact law_post hl hT hvars hrt hbt hfn hW hgr
end Go.Eng

set_option linter.unusedSimpArgs false
set_option linter.unusedVariables false
namespace Go.Eng
open Go Go.ChangeShapes Go.WideShapes Go.ChangeAt Go.RowKit

def patFs (P : Program) (f : TypeId → Option (List CK)) : List Field → Nat → Option (List CK)
  | [], _ => some []
  | x :: fs, off =>
    if Nat.beq x.offset off then
      match f x.type with
      | some p => if Nat.beq p.length (P.cellsOf x.type) then (patFs P f fs (off + p.length)).map (p ++ ·) else none
      | none => none
    else none
def patArr (p : List CK) : Nat → List CK
  | 0 => []
  | n + 1 => p ++ patArr p n
/-- The kinds of a type's cells. -/
def patP (P : Program) : Nat → TypeId → Option (List CK)
  | 0, _ => none
  | n + 1, t =>
    match P.underlying t with
    | some (.int k) => some [.int k]
    | some .bool => some [.bool]
    | some .string => some [.any]
    | some (.slice _) => some [.any]
    | some (.pointer _) => some [.any]
    | some (.struct fs) => match patFs P (patP P n) fs.toList 0 with
      | some p => if Nat.beq p.length (P.cellsOf t) then some p else none
      | none => none
    | some (.array m e) => match patP P n e with
      | some p => if Nat.beq p.length (P.cellsOf e) && Nat.beq (P.cellsOf t) (m * P.cellsOf e) then some (patArr p m) else none
      | none => none
    | _ => none

theorem fitsRow_append {p q : List CK} {cs : List Value} (h1 : fitsRow p (cs.take p.length)) (h2 : fitsRow q (cs.drop p.length)) : fitsRow (p ++ q) cs := by
  obtain ⟨a1, a2⟩ := h1
  obtain ⟨b1, b2⟩ := h2
  have hle : p.length ≤ cs.length := by simp at a1; omega
  refine ⟨by simp at a1 b1 ⊢; omega, fun c k v hk hv => ?_⟩
  by_cases hc : c < p.length
  · rw [List.getElem?_append_left hc] at hk
    exact a2 c k v hk (by rw [List.getElem?_take, if_pos hc]; exact hv)
  · rw [List.getElem?_append_right (by omega)] at hk
    exact b2 (c - p.length) k v hk (by rw [List.getElem?_drop, show p.length + (c - p.length) = c by omega]; exact hv)

section
variable {H : Type} {enc : TypeId × Value → H} {P : Program} {w : World} {base : Nat} {spare : Nat → Bool} {held : Bool}

theorem fits_one_any {v : Value} (h : v.oneCell' = true) : fitsRow [.any] [v] := ⟨rfl, fun c k v' hk hv => by
  cases c with
  | zero => simp at hk hv; subst hk; subst hv; exact h
  | succ c => simp at hk⟩

theorem patFs_fits {f : TypeId → Option (List CK)} {cs : List Value} (hf : ∀ t p, f t = some p → ∀ cs', (∃ fuel x, DataW.trod enc P w base spare held fuel t cs' = some x) → fitsRow p cs') :
    ∀ {fs : List Field} {off : Nat} {p : List CK}, patFs P f fs off = some p → (∀ x ∈ fs, ∃ fuel y, DataW.trod enc P w base spare held fuel x.type ((cs.drop x.offset).take (P.cellsOf x.type)) = some y) → off + p.length = cs.length → fitsRow p (cs.drop off)
  | [], off, p, h, _, hl => by
    simp only [patFs, Option.some.injEq] at h; subst h
    simp at hl
    refine ⟨by simp; omega, fun c k v hk => by simp at hk⟩
  | x :: fs, off, p, h, ht, hl => by
    simp only [patFs] at h
    split at h
    · rename_i ho
      have ho := Nat.eq_of_beq_eq_true ho
      split at h
      · rename_i p1 hp1
        split at h
        · rename_i hc
          have hc := Nat.eq_of_beq_eq_true hc
          simp only [Option.map_eq_some_iff] at h
          obtain ⟨p2, hp2, rfl⟩ := h
          simp only [List.length_append] at hl
          have h1 := hf x.type p1 hp1 _ (ht x (List.mem_cons_self ..))
          rw [ho, ← hc] at h1
          have h2 := patFs_fits hf hp2 (fun y hy => ht y (List.mem_cons_of_mem _ hy)) (by omega)
          exact fitsRow_append h1 (by rw [List.drop_drop]; exact h2)
        · simp at h
      · simp at h
    · simp at h

theorem patArr_fits {p : List CK} : ∀ {m : Nat} {cs : List Value}, cs.length = m * p.length → (∀ i, i < m → fitsRow p ((cs.drop (i * p.length)).take p.length)) → fitsRow (patArr p m) cs
  | 0, cs, hl, _ => by
    simp at hl; subst hl
    exact ⟨rfl, fun c k v hk => by simp [patArr] at hk⟩
  | m + 1, cs, hl, h => by
    simp only [patArr]
    refine fitsRow_append (by simpa using h 0 (by omega)) (patArr_fits (by rw [List.length_drop, hl, Nat.add_mul]; omega) fun i hi => ?_)
    rw [List.drop_drop, show p.length + i * p.length = (i + 1) * p.length by rw [Nat.add_mul]; omega]
    exact h (i + 1) (by omega)

theorem trod_fits : ∀ (n : Nat) {t : TypeId} {pat : List CK}, patP P n t = some pat → ∀ cs, (∃ fuel x, DataW.trod enc P w base spare held fuel t cs = some x) → fitsRow pat cs
  | 0, t, pat, h, _, _ => by simp [patP] at h
  | n + 1, t, pat, h, cs, ⟨fuel, x, hx⟩ => by
    simp only [patP] at h
    split at h
    · rename_i k hu
      simp only [Option.some.injEq] at h; subst h
      obtain ⟨z, rfl, _, _⟩ := DataW.trod_int hu hx
      refine ⟨rfl, fun c k' v hk hv => ?_⟩
      cases c with
      | zero => simp at hk hv; subst hk; subst hv; simp [CK.fits]
      | succ c => simp at hk
    · rename_i hu
      simp only [Option.some.injEq] at h; subst h
      cases fuel with
      | zero => simp [DataW.trod] at hx
      | succ m =>
        unfold DataW.trod at hx
        rw [hu] at hx
        split at hx <;> simp_all
        refine ⟨rfl, fun c k' v hk hv => ?_⟩
        cases c with
        | zero => simp at hk hv; subst hk; subst hv; simp [CK.fits]
        | succ c => simp at hk
    · rename_i hu
      simp only [Option.some.injEq] at h; subst h
      cases fuel with
      | zero => simp [DataW.trod] at hx
      | succ m =>
        unfold DataW.trod at hx
        rw [hu] at hx
        split at hx <;> simp_all
        exact fits_one_any rfl
    · rename_i e hu
      simp only [Option.some.injEq] at h; subst h
      rcases DataW.trod_slice hu hx with ⟨rfl, _⟩ | ⟨a, len, cap, elems, rest, m, _, rfl, _⟩
      · exact fits_one_any rfl
      · exact fits_one_any rfl
    · rename_i e hu
      simp only [Option.some.injEq] at h; subst h
      cases fuel with
      | zero => simp [DataW.trod] at hx
      | succ m =>
        unfold DataW.trod at hx
        rw [hu] at hx
        split at hx <;> simp_all
        all_goals exact fits_one_any rfl
    · rename_i fs hu
      split at h
      · rename_i p hp
        split at h
        · rename_i hc
          have hc := Nat.eq_of_beq_eq_true hc
          simp only [Option.some.injEq] at h; subst h
          obtain ⟨xs, m, _, _, hl, hxl, hall⟩ := DataW.trod_struct hu hx
          have := patFs_fits (cs := cs) (f := patP P n) (fun t p hp cs' hh => trod_fits n hp cs' hh) hp (fun y hy => by
            obtain ⟨i, hi⟩ := List.getElem?_of_mem hy
            have hi' : fs[i]? = some y := by simpa using hi
            have h1 := hall i y hi'
            have hlt : i < xs.length := by
              rw [hxl]; exact (Array.getElem?_eq_some_iff.1 hi').1
            exact ⟨m, xs[i], by rw [h1]; simp [hlt]⟩) (by omega)
          simpa using this
        · simp at h
      · simp at h
    · rename_i m e hu
      split at h
      · rename_i p hp
        split at h
        · rename_i hc
          simp only [Bool.and_eq_true] at hc
          have hc1 := Nat.eq_of_beq_eq_true hc.1
          have hc2 := Nat.eq_of_beq_eq_true hc.2
          simp only [Option.some.injEq] at h; subst h
          obtain ⟨xs, k, _, _, hl, hxl, hall⟩ := DataW.trod_array hu hx
          refine patArr_fits (by rw [hl, hc2, hc1]) fun i hi => ?_
          have h1 := hall i hi
          rw [← hc1] at h1
          exact trod_fits n hp _ ⟨k, xs[i]'(by omega), by rw [h1]; simp [hxl, hi]⟩
        · simp at h
      · simp at h
    · simp at h

theorem cells?_get {a : Addr} {n : Nat} {cs : List Value} (h : w.cells? base a n = some cs) : cs.length = n ∧ ∀ i, i < n → w.cell? (a.add i) = cs[i]? := by
  unfold World.cells? at h
  split at h
  · exact ⟨by simpa using mapM_some_length h, fun i hi => by simpa using mapM_some_get h i i (by simp [hi])⟩
  · simp at h

/-- A slice that reads as data: its rows in memory, each of which reads; what it is read as. -/
theorem open_rows {t e : TypeId} {pat : List CK} {n : Nat} {v : Value} {d : DataW H} {ps : List MemPlace} (ht : P.underlying t = some (.slice e)) (hpat : patP P n e = some pat) (hce : P.cellsOf e = pat.length) (hpos : 0 < pat.length)
    {fuel : Nat} (hsp : ∀ b, spare b = true) (hf : DataW.trod enc P w base spare held fuel t [v] = some (d, ps)) :
    ∃ rows : List (List Value), Rd (fun b => w.heap[b]?) pat v rows ∧ (∀ row ∈ rows, ∃ fuel x, DataW.trod enc P w base spare held fuel e row = some x) ∧
      ((d = .nil ∧ rows = []) ∨ ∃ elems sp, d = .slice elems sp ∧ elems.length = rows.length ∧ ∀ (i : Nat) (row : List Value), rows[i]? = some row → ∃ fuel x, DataW.trod enc P w base spare held fuel e row = some x ∧ elems[i]? = some x.1) := by
  rcases DataW.trod_slice ht hf with ⟨h1, h2⟩ | ⟨a, len, cap, elems, rest, m, _, h1, h2, hb, hlc, hcm, hel, hall, hrest, _⟩
  · simp at h1 h2
    exact ⟨[], .inl ⟨_, h1, rfl⟩, by simp, .inl ⟨h2.1, rfl⟩⟩
  · simp at h1 h2
    subst h1
    have hrow : ∀ i, i < len → ∃ cs x, w.cells? base (a.add (i * P.cellsOf e)) (P.cellsOf e) = some cs ∧ DataW.trod enc P w base spare held m e cs = some x ∧ elems[i]? = some x := fun i hi => by
      have := hall i hi
      rw [List.getElem?_eq_getElem (by omega)] at this
      obtain ⟨cs, g1, g2⟩ := Option.bind_eq_some_iff.1 this
      exact ⟨cs, _, g1, g2, List.getElem?_eq_getElem _⟩
    let rows : List (List Value) := (List.range len).map fun i => ((w.cells? base (a.add (i * P.cellsOf e)) (P.cellsOf e)).getD [])
    have hget : ∀ i row, rows[i]? = some row → i < len ∧ w.cells? base (a.add (i * P.cellsOf e)) (P.cellsOf e) = some row := fun i row hr => by
      simp only [rows, List.getElem?_map, Option.map_eq_some_iff] at hr
      obtain ⟨j, hj, rfl⟩ := hr
      have hlt : i < len := by
        have := (List.getElem?_eq_some_iff.1 hj).1; simpa using this
      rw [List.getElem?_range hlt] at hj
      simp only [Option.some.injEq] at hj; subst hj
      obtain ⟨cs, x, g1, _, _⟩ := hrow i hlt
      exact ⟨hlt, by rw [g1]; rfl⟩
    have hrl : rows.length = len := by simp [rows]
    have htr : ∀ row ∈ rows, ∃ fuel x, DataW.trod enc P w base spare held fuel e row = some x := fun row hr => by
      obtain ⟨i, hi⟩ := List.getElem?_of_mem hr
      obtain ⟨hlt, hc⟩ := hget i row hi
      obtain ⟨cs, x, g1, g2, _⟩ := hrow i hlt
      rw [hc] at g1
      simp only [Option.some.injEq] at g1; subst g1
      exact ⟨m, x, g2⟩
    refine ⟨rows, ?_, htr, .inr ⟨_, _, h2.1, by simp [hel, hrl], fun i row hi => ?_⟩⟩
    rotate_left
    · obtain ⟨hlt, hc⟩ := hget i row hi
      obtain ⟨cs, x, g1, g2, g3⟩ := hrow i hlt
      rw [hc] at g1
      simp only [Option.some.injEq] at g1; subst g1
      exact ⟨m, x, g2, by simp [g3]⟩
    by_cases hcap : cap = 0
    · have hl0 : len = 0 := by omega
      have : rows = [] := by apply List.eq_nil_of_length_eq_zero; omega
      exact .inl ⟨some a, by rw [hl0, hcap], this⟩
    have hfirst : ∃ cs, w.cells? base (a.add 0) (P.cellsOf e) = some cs := by
      by_cases hl : 0 < len
      · obtain ⟨cs, _, g1, _, _⟩ := hrow 0 hl
        rw [Nat.zero_mul] at g1
        exact ⟨cs, g1⟩
      · obtain ⟨r1, r2⟩ := hrest (hsp _)
        have := r2 0 (by omega)
        rw [show (len + 0) * P.cellsOf e = 0 by rw [show len + 0 = 0 by omega]; simp, List.getElem?_eq_getElem (by omega)] at this
        obtain ⟨cs, g1, _⟩ := Option.bind_eq_some_iff.1 this
        exact ⟨cs, g1⟩
    obtain ⟨cs0, hc0⟩ := hfirst
    obtain ⟨hl0, hg0⟩ := cells?_get hc0
    have h00 := hg0 0 (by omega)
    rw [show (a.add 0).add 0 = a from rfl, List.getElem?_eq_getElem (by omega)] at h00
    obtain ⟨ab, ao, asp⟩ := a
    have hblk0 := h00
    unfold World.cell? at hblk0
    split at hblk0
    · rename_i c ty fr hblk
      simp only at hblk
      have hsp0 : asp = none := by
        cases asp with
        | none => rfl
        | some s => simp at hblk0
      subst hsp0
      refine .inr ⟨ab, ao, cap, c, ty, fr, by rw [hrl], by omega, hblk, fun i row hi => ?_⟩
      obtain ⟨hlt, hc⟩ := hget i row hi
      refine ⟨trod_fits n hpat row (htr row (List.mem_of_getElem? hi)), fun k x hk => ?_⟩
      obtain ⟨hl1, hg⟩ := cells?_get hc
      have hkl : k < P.cellsOf e := by
        rw [← hl1]; exact (List.getElem?_eq_some_iff.1 hk).1
      have := hg k hkl
      rw [hk, hce] at this
      rw [Go.Eng.addr_add, Go.Eng.addr_add, cell_of_heap hblk] at this
      exact this
    · simp at hblk0
end

/-- What the form says of a slice argument: it lies at a block that is there. -/
theorem okWide_slice {P : Program} {w : World} {r : Go.Reach} {b : Nat} {t e : TypeId} {v : Value} (ht : P.underlying t = some (.slice e)) (h : Value.okWide P w r b t v) :
    v.cells = #[v] ∧ ∀ a len cap, v = .slice (some a) len cap → a.spot = none ∧ (w.shape? a.block).isSome = true := by
  simp only [Value.okWide, ht, Cell.okWide, Cell.ok] at h
  cases v <;> simp_all [Value.cells]
  rename_i a len cap
  intro a' ha
  subst ha
  obtain ⟨_, _, _, h1, row, cells, h2, _⟩ := h
  exact ⟨h1, by rw [h2]; rfl⟩
end Go.Eng
