/- Texts BM, BN, BO, BQ, BR, BS, DP, ZC, ZT, ZP, ZO, ZN, ZQ, ZR, ZD, ZH. -/
import Derived.Test.YtelcnkclppkicaaGreatDoorG5
import Derived.Test.YtelcnkclppkicaaGreatDoorProg
import Derived.Tactics
import Derived.Tactics2
import Derived.Defers
import Derived.Laws.Pointers
import Derived.Laws.LoneSync
import Derived.RegionTactic
import Derived.RegionCalls
import Derived.ChangeAlike
set_option linter.unusedSimpArgs false
set_option linter.unusedVariables false
set_option maxRecDepth 100000
namespace Go.Proofs
open Go Go.Eng

@[simp] def qsO:T:=.arith .add .u32 (.arith .add .u32 (.arith .add .u32 (.arith .add .u32 (.icell (.var 30) (.lit 0) 7) (.arith .xor .u32 (.arith .xor .u32 (.var 31) (.var 32)) (.var 33))) (.arith .xor .u32 (.arith .and .u32 (.icell (.var 30) (.lit 0) 4) (.icell (.var 30) (.lit 0) 5)) (.arith .and .u32 (.arith .xor .u32 (.lit 4294967295) (.icell (.var 30) (.lit 0) 4)) (.icell (.var 30) (.lit 0) 6)))) (.c2 (.xint 0) (.var 24) (.var 28))) (.c2 (.xint 0) (.var 27) (.var 28))
def qrs:Out:=(.fresh 8 (.fresh 9 (.fresh 10 (.fresh 11 (.inv 0 12 (sg 1000 [bt 1006 (.rcons (.vint .u32 (.lit 0)) (.rcons (.vint .u32 (.lit 0)) (.rcons (.vint .u32 (.lit 0)) (.rcons (.vint .u32 (.lit 0)) (.rcons (.vint .u32 (.lit 0)) (.rcons (.vint .u32 (.lit 0)) (.rcons (.vint .u32 (.lit 0)) (.rcons (.vint .u32 (.lit 0)) (.rcons (.vint .u32 (.lit 0)) (.rcons (.vint .u32 (.lit 0)) (.rcons (.vint .u32 (.lit 0)) (.rcons (.vint .u32 (.lit 0)) (.rcons (.vint .u32 (.lit 0)) (.rcons (.vint .u32 (.lit 0)) (.rcons (.vint .u32 (.lit 0)) (.rcons (.vint .u32 (.lit 0)) (.rcons (.vint .u32 (.lit 0)) (.rcons (.vint .u32 (.lit 0)) (.rcons (.vint .u32 (.lit 0)) (.rcons (.vint .u32 (.lit 0)) (.rcons (.vint .u32 (.lit 0)) (.rcons (.vint .u32 (.lit 0)) (.rcons (.vint .u32 (.lit 0)) (.rcons (.vint .u32 (.lit 0)) (.rcons (.vint .u32 (.lit 0)) (.rcons (.vint .u32 (.lit 0)) (.rcons (.vint .u32 (.lit 0)) (.rcons (.vint .u32 (.lit 0)) (.rcons (.vint .u32 (.lit 0)) (.rcons (.vint .u32 (.lit 0)) (.rcons (.vint .u32 (.lit 0)) (.rcons (.vint .u32 (.lit 0)) (.rcons (.vint .u32 (.lit 0)) (.rcons (.vint .u32 (.lit 0)) (.rcons (.vint .u32 (.lit 0)) (.rcons (.vint .u32 (.lit 0)) (.rcons (.vint .u32 (.lit 0)) (.rcons (.vint .u32 (.lit 0)) (.rcons (.vint .u32 (.lit 0)) (.rcons (.vint .u32 (.lit 0)) (.rcons (.vint .u32 (.lit 0)) (.rcons (.vint .u32 (.lit 0)) (.rcons (.vint .u32 (.lit 0)) (.rcons (.vint .u32 (.lit 0)) (.rcons (.vint .u32 (.lit 0)) (.rcons (.vint .u32 (.lit 0)) (.rcons (.vint .u32 (.lit 0)) (.rcons (.vint .u32 (.lit 0)) (.rcons (.vint .u32 (.lit 0)) (.rcons (.vint .u32 (.lit 0)) (.rcons (.vint .u32 (.lit 0)) (.rcons (.vint .u32 (.lit 0)) (.rcons (.vint .u32 (.lit 0)) (.rcons (.vint .u32 (.lit 0)) (.rcons (.vint .u32 (.lit 0)) (.rcons (.vint .u32 (.lit 0)) (.rcons (.vint .u32 (.lit 0)) (.rcons (.vint .u32 (.lit 0)) (.rcons (.vint .u32 (.lit 0)) (.rcons (.vint .u32 (.lit 0)) (.rcons (.vint .u32 (.lit 0)) (.rcons (.vint .u32 (.lit 0)) (.rcons (.vint .u32 (.lit 0)) (.rcons (.vint .u32 (.lit 0)) .rnil)))))))))))))))))))))))))))))))))))))))))))))))))))))))))))))))),bt 1003 (.rcons (.vint .u32 (.c2 (.xint 0) (.var 1) (.lit 0))) (.rcons (.vint .u32 (.c2 (.xint 1) (.var 1) (.lit 0))) (.rcons (.vint .u32 (.c2 (.xint 2) (.var 1) (.lit 0))) (.rcons (.vint .u32 (.c2 (.xint 3) (.var 1) (.lit 0))) (.rcons (.vint .u32 (.c2 (.xint 4) (.var 1) (.lit 0))) (.rcons (.vint .u32 (.c2 (.xint 5) (.var 1) (.lit 0))) (.rcons (.vint .u32 (.c2 (.xint 6) (.var 1) (.lit 0))) (.rcons (.vint .u32 (.c2 (.xint 7) (.var 1) (.lit 0))) (.rcons (.vint .u32 (.c2 (.xint 8) (.var 1) (.lit 0))) (.rcons (.vint .u32 (.c2 (.xint 9) (.var 1) (.lit 0))) (.rcons (.vint .u32 (.c2 (.xint 10) (.var 1) (.lit 0))) (.rcons (.vint .u32 (.c2 (.xint 11) (.var 1) (.lit 0))) (.rcons (.vint .u32 (.c2 (.xint 12) (.var 1) (.lit 0))) (.rcons (.vint .u32 (.c2 (.xint 13) (.var 1) (.lit 0))) (.rcons (.vint .u32 (.c2 (.xint 14) (.var 1) (.lit 0))) (.rcons (.vint .u32 (.c2 (.xint 15) (.var 1) (.lit 0))) (.rcons (.vint .u32 (.c2 (.xint 16) (.var 1) (.lit 0))) (.rcons (.vint .u32 (.c2 (.xint 17) (.var 1) (.lit 0))) (.rcons (.vint .u32 (.c2 (.xint 18) (.var 1) (.lit 0))) (.rcons (.vint .u32 (.c2 (.xint 19) (.var 1) (.lit 0))) (.rcons (.vint .u32 (.c2 (.xint 20) (.var 1) (.lit 0))) (.rcons (.vint .u32 (.c2 (.xint 21) (.var 1) (.lit 0))) (.rcons (.vint .u32 (.c2 (.xint 22) (.var 1) (.lit 0))) (.rcons (.vint .u32 (.c2 (.xint 23) (.var 1) (.lit 0))) (.rcons (.vint .u32 (.c2 (.xint 24) (.var 1) (.lit 0))) (.rcons (.vint .u32 (.c2 (.xint 25) (.var 1) (.lit 0))) (.rcons (.vint .u32 (.c2 (.xint 26) (.var 1) (.lit 0))) (.rcons (.vint .u32 (.c2 (.xint 27) (.var 1) (.lit 0))) (.rcons (.vint .u32 (.c2 (.xint 28) (.var 1) (.lit 0))) (.rcons (.vint .u32 (.c2 (.xint 29) (.var 1) (.lit 0))) (.rcons (.vint .u32 (.c2 (.xint 30) (.var 1) (.lit 0))) (.rcons (.vint .u32 (.c2 (.xint 31) (.var 1) (.lit 0))) (.rcons (.vint .u32 (.c2 (.xint 32) (.var 1) (.lit 0))) (.rcons (.vint .u32 (.c2 (.xint 33) (.var 1) (.lit 0))) (.rcons (.vint .u32 (.c2 (.xint 34) (.var 1) (.lit 0))) (.rcons (.vint .u32 (.c2 (.xint 35) (.var 1) (.lit 0))) (.rcons (.vint .u32 (.c2 (.xint 36) (.var 1) (.lit 0))) (.rcons (.vint .u32 (.c2 (.xint 37) (.var 1) (.lit 0))) (.rcons (.vint .u32 (.c2 (.xint 38) (.var 1) (.lit 0))) (.rcons (.vint .u32 (.c2 (.xint 39) (.var 1) (.lit 0))) (.rcons (.vint .u32 (.c2 (.xint 40) (.var 1) (.lit 0))) (.rcons (.vint .u32 (.c2 (.xint 41) (.var 1) (.lit 0))) (.rcons (.vint .u32 (.c2 (.xint 42) (.var 1) (.lit 0))) (.rcons (.vint .u32 (.c2 (.xint 43) (.var 1) (.lit 0))) (.rcons (.vint .u32 (.c2 (.xint 44) (.var 1) (.lit 0))) (.rcons (.vint .u32 (.c2 (.xint 45) (.var 1) (.lit 0))) (.rcons (.vint .u32 (.c2 (.xint 46) (.var 1) (.lit 0))) (.rcons (.vint .u32 (.c2 (.xint 47) (.var 1) (.lit 0))) (.rcons (.vint .u32 (.c2 (.xint 48) (.var 1) (.lit 0))) (.rcons (.vint .u32 (.c2 (.xint 49) (.var 1) (.lit 0))) (.rcons (.vint .u32 (.c2 (.xint 50) (.var 1) (.lit 0))) (.rcons (.vint .u32 (.c2 (.xint 51) (.var 1) (.lit 0))) (.rcons (.vint .u32 (.c2 (.xint 52) (.var 1) (.lit 0))) (.rcons (.vint .u32 (.c2 (.xint 53) (.var 1) (.lit 0))) (.rcons (.vint .u32 (.c2 (.xint 54) (.var 1) (.lit 0))) (.rcons (.vint .u32 (.c2 (.xint 55) (.var 1) (.lit 0))) (.rcons (.vint .u32 (.c2 (.xint 56) (.var 1) (.lit 0))) (.rcons (.vint .u32 (.c2 (.xint 57) (.var 1) (.lit 0))) (.rcons (.vint .u32 (.c2 (.xint 58) (.var 1) (.lit 0))) (.rcons (.vint .u32 (.c2 (.xint 59) (.var 1) (.lit 0))) (.rcons (.vint .u32 (.c2 (.xint 60) (.var 1) (.lit 0))) (.rcons (.vint .u32 (.c2 (.xint 61) (.var 1) (.lit 0))) (.rcons (.vint .u32 (.c2 (.xint 62) (.var 1) (.lit 0))) (.rcons (.vint .u32 (.c2 (.xint 63) (.var 1) (.lit 0))) .rnil)))))))))))))))))))))))))))))))))))))))))))))))))))))))))))))))),bt 1001 (.rcons (.vint .u32 (.c2 (.xint 0) (.var 0) (.lit 0))) (.rcons (.vint .u32 (.c2 (.xint 1) (.var 0) (.lit 0))) (.rcons (.vint .u32 (.c2 (.xint 2) (.var 0) (.lit 0))) (.rcons (.vint .u32 (.c2 (.xint 3) (.var 0) (.lit 0))) (.rcons (.vint .u32 (.c2 (.xint 4) (.var 0) (.lit 0))) (.rcons (.vint .u32 (.c2 (.xint 5) (.var 0) (.lit 0))) (.rcons (.vint .u32 (.c2 (.xint 6) (.var 0) (.lit 0))) (.rcons (.vint .u32 (.c2 (.xint 7) (.var 0) (.lit 0))) .rnil)))))))),bt 1007 (.lit 0),bg 1005 11,bg 1004 10,bg 1002 9,bg 1000 8]) (.fresh 12 (.fresh 13 (.fresh 14 (.fresh 15 (.fresh 16 (.fresh 17 (.fresh 18 (.fresh 19 (.hyp 0 12 (.br (.cmp .lss (.var 19) (.lit 64))
 (.br (.cmp .lss (.var 19) (.lit 16))
 (.need (.cmp .leq (.lit 0) (.arith .mul .i64 (.lit 4) (.var 19))) (.need (.cmp .lss (.arith .mul .i64 (.lit 4) (.var 19)) (.var 4)) (.need (.cmp .leq (.lit 0) (.var 3)) (.need (.cmp .leq (.lit 0) (.plus (.var 3) (.arith .mul .i64 (.lit 4) (.var 19)))) (.need (.cmp .lss (.plus (.var 3) (.arith .mul .i64 (.lit 4) (.var 19))) (.dlen (.var 6))) (.need (.cmp .leq (.lit 0) (.arith .add .i64 (.arith .mul .i64 (.lit 4) (.var 19)) (.lit 1))) (.need (.cmp .lss (.arith .add .i64 (.arith .mul .i64 (.lit 4) (.var 19)) (.lit 1)) (.var 4)) (.need (.cmp .leq (.lit 0) (.plus (.var 3) (.arith .add .i64 (.arith .mul .i64 (.lit 4) (.var 19)) (.lit 1)))) (.need (.cmp .lss (.plus (.var 3) (.arith .add .i64 (.arith .mul .i64 (.lit 4) (.var 19)) (.lit 1))) (.dlen (.var 6))) (.need (.cmp .leq (.lit 0) (.arith .add .i64 (.arith .mul .i64 (.lit 4) (.var 19)) (.lit 2))) (.need (.cmp .lss (.arith .add .i64 (.arith .mul .i64 (.lit 4) (.var 19)) (.lit 2)) (.var 4)) (.need (.cmp .leq (.lit 0) (.plus (.var 3) (.arith .add .i64 (.arith .mul .i64 (.lit 4) (.var 19)) (.lit 2)))) (.need (.cmp .lss (.plus (.var 3) (.arith .add .i64 (.arith .mul .i64 (.lit 4) (.var 19)) (.lit 2))) (.dlen (.var 6))) (.need (.cmp .leq (.lit 0) (.arith .add .i64 (.arith .mul .i64 (.lit 4) (.var 19)) (.lit 3))) (.need (.cmp .lss (.arith .add .i64 (.arith .mul .i64 (.lit 4) (.var 19)) (.lit 3)) (.var 4)) (.need (.cmp .leq (.lit 0) (.plus (.var 3) (.arith .add .i64 (.arith .mul .i64 (.lit 4) (.var 19)) (.lit 3)))) (.need (.cmp .lss (.plus (.var 3) (.arith .add .i64 (.arith .mul .i64 (.lit 4) (.var 19)) (.lit 3))) (.dlen (.var 6))) (.need (.cmp .leq (.lit 0) (.var 19)) (.need (.cmp .lss (.lit 0) (.dlen (.var 18))) (.both (.back 0 12 (sg 1000 [bt 1006 (.c3 (.xput 0) (.var 18) (.var 19) (.vint .u32 (.arith .or .u32 (.arith .or .u32 (.arith .or .u32 (.arith .shl .u32 (.conv .u32 (.icell (.var 6) (.plus (.var 3) (.arith .mul .i64 (.lit 4) (.var 19))) 0)) (.lit 24)) (.arith .shl .u32 (.conv .u32 (.icell (.var 6) (.plus (.var 3) (.arith .add .i64 (.arith .mul .i64 (.lit 4) (.var 19)) (.lit 1))) 0)) (.lit 16))) (.arith .shl .u32 (.conv .u32 (.icell (.var 6) (.plus (.var 3) (.arith .add .i64 (.arith .mul .i64 (.lit 4) (.var 19)) (.lit 2))) 0)) (.lit 8))) (.conv .u32 (.icell (.var 6) (.plus (.var 3) (.arith .add .i64 (.arith .mul .i64 (.lit 4) (.var 19)) (.lit 3))) 0))))),bv 1003 15,bv 1001 13,bt 1007 (.arith .add .i64 (.var 19) (.lit 1)),bg 1005 17,bg 1004 16,bg 1002 14,bg 1000 12])) .top))))))))))))))))))))
 (.need (.cmp .leq (.lit 0) (.arith .sub .i64 (.var 19) (.lit 15))) (.need (.cmp .lss (.arith .sub .i64 (.var 19) (.lit 15)) (.lit 64)) (.need (.cmp .lss (.lit 0) (.dlen (.var 18))) (.both (.pre 0 (sg 0 [bt 1 (.lit 7),bt 0 (.c2 (.xint 0) (.var 18) (.arith .sub .i64 (.var 19) (.lit 15)))]) (.both (.fresh 20 (.post 0 0 (sg 0 [bt 1 (.lit 7),bt 0 (.c2 (.xint 0) (.var 18) (.arith .sub .i64 (.var 19) (.lit 15)))]) 20 (.both (.pre 0 (sg 0 [bt 1 (.lit 18),bt 0 (.c2 (.xint 0) (.var 18) (.arith .sub .i64 (.var 19) (.lit 15)))]) (.both (.fresh 21 (.post 0 0 (sg 0 [bt 1 (.lit 18),bt 0 (.c2 (.xint 0) (.var 18) (.arith .sub .i64 (.var 19) (.lit 15)))]) 21 (.need (.cmp .leq (.lit 0) (.arith .sub .i64 (.var 19) (.lit 2))) (.need (.cmp .lss (.arith .sub .i64 (.var 19) (.lit 2)) (.lit 64)) (.both (.pre 0 (sg 0 [bt 1 (.lit 17),bt 0 (.c2 (.xint 0) (.var 18) (.arith .sub .i64 (.var 19) (.lit 2)))]) (.both (.fresh 22 (.post 0 0 (sg 0 [bt 1 (.lit 17),bt 0 (.c2 (.xint 0) (.var 18) (.arith .sub .i64 (.var 19) (.lit 2)))]) 22 (.both (.pre 0 (sg 0 [bt 1 (.lit 19),bt 0 (.c2 (.xint 0) (.var 18) (.arith .sub .i64 (.var 19) (.lit 2)))]) (.both (.fresh 23 (.post 0 0 (sg 0 [bt 1 (.lit 19),bt 0 (.c2 (.xint 0) (.var 18) (.arith .sub .i64 (.var 19) (.lit 2)))]) 23 (.need (.cmp .leq (.lit 0) (.arith .sub .i64 (.var 19) (.lit 7))) (.need (.cmp .lss (.arith .sub .i64 (.var 19) (.lit 7)) (.lit 64)) (.need (.cmp .leq (.lit 0) (.arith .sub .i64 (.var 19) (.lit 16))) (.need (.cmp .lss (.arith .sub .i64 (.var 19) (.lit 16)) (.lit 64)) (.need (.cmp .leq (.lit 0) (.var 19)) (.both (.back 0 12 (sg 1000 [bt 1006 (.c3 (.xput 0) (.var 18) (.var 19) (.vint .u32 (.arith .add .u32 (.arith .add .u32 (.arith .add .u32 (.arith .xor .u32 (.arith .xor .u32 (.var 22) (.var 23)) (.arith .shr .u32 (.c2 (.xint 0) (.var 18) (.arith .sub .i64 (.var 19) (.lit 2))) (.lit 10))) (.c2 (.xint 0) (.var 18) (.arith .sub .i64 (.var 19) (.lit 7)))) (.arith .xor .u32 (.arith .xor .u32 (.var 20) (.var 21)) (.arith .shr .u32 (.c2 (.xint 0) (.var 18) (.arith .sub .i64 (.var 19) (.lit 15))) (.lit 3)))) (.c2 (.xint 0) (.var 18) (.arith .sub .i64 (.var 19) (.lit 16)))))),bv 1003 15,bv 1001 13,bt 1007 (.arith .add .i64 (.var 19) (.lit 1)),bg 1005 17,bg 1004 16,bg 1002 14,bg 1000 12])) .top)))))))) .top)) .top))) .top)) .top))))) .top)) .top))) .top)) .top)))))
 (.need (.cmp .lss (.lit 0) (.dlen (.var 13))) (.fresh 20 (.inv 1 21 (sg 1000 [bt 1009 (.rcons (.vint .u32 (.icell (.var 13) (.lit 0) 0)) (.rcons (.vint .u32 (.icell (.var 13) (.lit 0) 1)) (.rcons (.vint .u32 (.icell (.var 13) (.lit 0) 2)) (.rcons (.vint .u32 (.icell (.var 13) (.lit 0) 3)) (.rcons (.vint .u32 (.icell (.var 13) (.lit 0) 4)) (.rcons (.vint .u32 (.icell (.var 13) (.lit 0) 5)) (.rcons (.vint .u32 (.icell (.var 13) (.lit 0) 6)) (.rcons (.vint .u32 (.icell (.var 13) (.lit 0) 7)) .rnil)))))))),bv 1006 18,bv 1003 15,bv 1001 13,bt 1007 (.lit 0),bg 1008 20,bg 1005 17,bg 1004 16,bg 1002 14,bg 1000 12]) (.fresh 21 (.fresh 22 (.fresh 23 (.fresh 24 (.fresh 25 (.fresh 26 (.fresh 27 (.fresh 28 (.fresh 29 (.fresh 30 (.hyp 1 21 (.br (.cmp .lss (.var 28) (.lit 64))
 (.need (.cmp .lss (.lit 0) (.dlen (.var 30))) (.need (.cmp .leq (.lit 0) (.var 28)) (.need (.cmp .lss (.lit 0) (.dlen (.var 24))) (.need (.cmp .lss (.lit 0) (.dlen (.var 27))) (.both (.pre 0 (sg 0 [bt 1 (.lit 6),bt 0 (.icell (.var 30) (.lit 0) 4)]) (.both (.fresh 31 (.post 0 0 (sg 0 [bt 1 (.lit 6),bt 0 (.icell (.var 30) (.lit 0) 4)]) 31 (.both (.pre 0 (sg 0 [bt 1 (.lit 11),bt 0 (.icell (.var 30) (.lit 0) 4)]) (.both (.fresh 32 (.post 0 0 (sg 0 [bt 1 (.lit 11),bt 0 (.icell (.var 30) (.lit 0) 4)]) 32 (.both (.pre 0 (sg 0 [bt 1 (.lit 25),bt 0 (.icell (.var 30) (.lit 0) 4)]) (.both (.fresh 33 (.post 0 0 (sg 0 [bt 1 (.lit 25),bt 0 (.icell (.var 30) (.lit 0) 4)]) 33 (.pre 0 (sg 0 [bt 1 (.lit 2),bt 0 (.icell (.var 30) (.lit 0) 0)]) (.both (.fresh 34 (.post 0 0 (sg 0 [bt 1 (.lit 2),bt 0 (.icell (.var 30) (.lit 0) 0)]) 34 (.pre 0 (sg 0 [bt 1 (.lit 13),bt 0 (.icell (.var 30) (.lit 0) 0)]) (.both (.fresh 35 (.post 0 0 (sg 0 [bt 1 (.lit 13),bt 0 (.icell (.var 30) (.lit 0) 0)]) 35 (.pre 0 (sg 0 [bt 1 (.lit 22),bt 0 (.icell (.var 30) (.lit 0) 0)]) (.both (.fresh 36 (.post 0 0 (sg 0 [bt 1 (.lit 22),bt 0 (.icell (.var 30) (.lit 0) 0)]) 36 (.back 1 21 (sg 1000 [bt 1009 (.dput (.var 30) (.lit 0) 0 (.rcons (.vint .u32 (.arith .add .u32 qsO (.arith .add .u32 (.arith .xor .u32 (.arith .xor .u32 (.var 34) (.var 35)) (.var 36)) (.arith .xor .u32 (.arith .xor .u32 (.arith .and .u32 (.icell (.var 30) (.lit 0) 0) (.icell (.var 30) (.lit 0) 1)) (.arith .and .u32 (.icell (.var 30) (.lit 0) 0) (.icell (.var 30) (.lit 0) 2))) (.arith .and .u32 (.icell (.var 30) (.lit 0) 1) (.icell (.var 30) (.lit 0) 2)))))) (.rcons (.vint .u32 (.icell (.var 30) (.lit 0) 0)) (.rcons (.vint .u32 (.icell (.var 30) (.lit 0) 1)) (.rcons (.vint .u32 (.icell (.var 30) (.lit 0) 2)) (.rcons (.vint .u32 (.arith .add .u32 (.icell (.var 30) (.lit 0) 3) qsO)) (.rcons (.vint .u32 (.icell (.var 30) (.lit 0) 4)) (.rcons (.vint .u32 (.icell (.var 30) (.lit 0) 5)) (.rcons (.vint .u32 (.icell (.var 30) (.lit 0) 6)) .rnil))))))))),bv 1006 27,bv 1003 24,bv 1001 22,bt 1007 (.arith .add .i64 (.var 28) (.lit 1)),bg 1008 29,bg 1005 26,bg 1004 25,bg 1002 23,bg 1000 21])))) .top)))) .top)))) .top)))) .top)) .top))) .top)) .top))) .top)) .top)))))
 (.inv 2 31 (sg 1000 [bv 1009 30,bv 1001 22,bt 1007 (.lit 0),bg 1008 29,bg 1004 25,bg 1000 21]) (.fresh 31 (.fresh 32 (.fresh 33 (.fresh 34 (.fresh 35 (.fresh 36 (.fresh 37 (.fresh 38 (.fresh 39 (.fresh 40 (.hyp 2 31 (.br (.cmp .lss (.var 38) (.lit 8))
 (.need (.cmp .leq (.lit 0) (.var 38)) (.need (.cmp .lss (.lit 0) (.dlen (.var 32))) (.need (.cmp .lss (.lit 0) (.dlen (.var 40))) (.both (.back 2 31 (sg 1000 [bv 1009 40,bt 1001 (.c3 (.xput 0) (.var 32) (.var 38) (.vint .u32 (.arith .add .u32 (.c2 (.xint 0) (.var 32) (.var 38)) (.c2 (.xint 0) (.var 40) (.var 38))))),bt 1007 (.arith .add .i64 (.var 38) (.lit 1)),bg 1008 39,bg 1004 35,bg 1000 31])) .top))))
 (.need (.cmp .lss (.lit 0) (.dlen (.var 32))) (.ret 0 (sg 8 [bt 8 (.rcons (.vint .u32 (.icell (.var 32) (.lit 0) 0)) (.rcons (.vint .u32 (.icell (.var 32) (.lit 0) 1)) (.rcons (.vint .u32 (.icell (.var 32) (.lit 0) 2)) (.rcons (.vint .u32 (.icell (.var 32) (.lit 0) 3)) (.rcons (.vint .u32 (.icell (.var 32) (.lit 0) 4)) (.rcons (.vint .u32 (.icell (.var 32) (.lit 0) 5)) (.rcons (.vint .u32 (.icell (.var 32) (.lit 0) 6)) (.rcons (.vint .u32 (.icell (.var 32) (.lit 0) 7)) .rnil))))))))]))))))))))))))))))))))))))))))))))))))))))))))
theorem qzN:qk ⟨Tryz.prog,qeJ,[qgE],[qtA,qtU,qwg]⟩ 100000 Tryz.f138 = qrs:=by kernel_rfl
theorem q5k (hd:∀ c ∈ ([qgE]:List Ctr),c.ok Tryz.prog) (h:∀ ρ:Env,ρ.good->(qeJ).pre ρ->qrs.den ⟨Tryz.prog,qeJ,[qgE],[qtA,qtU,qwg]⟩ ρ):(qeJ).ok Tryz.prog :=
 qf Tryz.func138 (fun a w=>Tryz.call138 a w) hd 100000 (fun ρ hg hp=>by rw [qzN]; exact h ρ hg hp)
@[simp] def qvh:Sg:=sg 0 [bv 7 43,bv 6 44,bt 5 (.minus (.var 43) (.var 45)),bt 4 (.minus (.arith .add .i64 (.var 45) (.lit 64)) (.var 45)),bt 3 (.ife (.var 43) (.var 45) (.lit 0) (.var 45)),bg 2 41,bt 1 (.rcons (.vint .u32 (.icell (.var 37) (.lit 0) 0)) (.rcons (.vint .u32 (.icell (.var 37) (.lit 0) 1)) (.rcons (.vint .u32 (.icell (.var 37) (.lit 0) 2)) (.rcons (.vint .u32 (.icell (.var 37) (.lit 0) 3)) (.rcons (.vint .u32 (.icell (.var 37) (.lit 0) 4)) (.rcons (.vint .u32 (.icell (.var 37) (.lit 0) 5)) (.rcons (.vint .u32 (.icell (.var 37) (.lit 0) 6)) (.rcons (.vint .u32 (.icell (.var 37) (.lit 0) 7)) (.rcons (.vint .u32 (.icell (.var 37) (.lit 0) 8)) (.rcons (.vint .u32 (.icell (.var 37) (.lit 0) 9)) (.rcons (.vint .u32 (.icell (.var 37) (.lit 0) 10)) (.rcons (.vint .u32 (.icell (.var 37) (.lit 0) 11)) (.rcons (.vint .u32 (.icell (.var 37) (.lit 0) 12)) (.rcons (.vint .u32 (.icell (.var 37) (.lit 0) 13)) (.rcons (.vint .u32 (.icell (.var 37) (.lit 0) 14)) (.rcons (.vint .u32 (.icell (.var 37) (.lit 0) 15)) (.rcons (.vint .u32 (.icell (.var 37) (.lit 0) 16)) (.rcons (.vint .u32 (.icell (.var 37) (.lit 0) 17)) (.rcons (.vint .u32 (.icell (.var 37) (.lit 0) 18)) (.rcons (.vint .u32 (.icell (.var 37) (.lit 0) 19)) (.rcons (.vint .u32 (.icell (.var 37) (.lit 0) 20)) (.rcons (.vint .u32 (.icell (.var 37) (.lit 0) 21)) (.rcons (.vint .u32 (.icell (.var 37) (.lit 0) 22)) (.rcons (.vint .u32 (.icell (.var 37) (.lit 0) 23)) (.rcons (.vint .u32 (.icell (.var 37) (.lit 0) 24)) (.rcons (.vint .u32 (.icell (.var 37) (.lit 0) 25)) (.rcons (.vint .u32 (.icell (.var 37) (.lit 0) 26)) (.rcons (.vint .u32 (.icell (.var 37) (.lit 0) 27)) (.rcons (.vint .u32 (.icell (.var 37) (.lit 0) 28)) (.rcons (.vint .u32 (.icell (.var 37) (.lit 0) 29)) (.rcons (.vint .u32 (.icell (.var 37) (.lit 0) 30)) (.rcons (.vint .u32 (.icell (.var 37) (.lit 0) 31)) (.rcons (.vint .u32 (.icell (.var 37) (.lit 0) 32)) (.rcons (.vint .u32 (.icell (.var 37) (.lit 0) 33)) (.rcons (.vint .u32 (.icell (.var 37) (.lit 0) 34)) (.rcons (.vint .u32 (.icell (.var 37) (.lit 0) 35)) (.rcons (.vint .u32 (.icell (.var 37) (.lit 0) 36)) (.rcons (.vint .u32 (.icell (.var 37) (.lit 0) 37)) (.rcons (.vint .u32 (.icell (.var 37) (.lit 0) 38)) (.rcons (.vint .u32 (.icell (.var 37) (.lit 0) 39)) (.rcons (.vint .u32 (.icell (.var 37) (.lit 0) 40)) (.rcons (.vint .u32 (.icell (.var 37) (.lit 0) 41)) (.rcons (.vint .u32 (.icell (.var 37) (.lit 0) 42)) (.rcons (.vint .u32 (.icell (.var 37) (.lit 0) 43)) (.rcons (.vint .u32 (.icell (.var 37) (.lit 0) 44)) (.rcons (.vint .u32 (.icell (.var 37) (.lit 0) 45)) (.rcons (.vint .u32 (.icell (.var 37) (.lit 0) 46)) (.rcons (.vint .u32 (.icell (.var 37) (.lit 0) 47)) (.rcons (.vint .u32 (.icell (.var 37) (.lit 0) 48)) (.rcons (.vint .u32 (.icell (.var 37) (.lit 0) 49)) (.rcons (.vint .u32 (.icell (.var 37) (.lit 0) 50)) (.rcons (.vint .u32 (.icell (.var 37) (.lit 0) 51)) (.rcons (.vint .u32 (.icell (.var 37) (.lit 0) 52)) (.rcons (.vint .u32 (.icell (.var 37) (.lit 0) 53)) (.rcons (.vint .u32 (.icell (.var 37) (.lit 0) 54)) (.rcons (.vint .u32 (.icell (.var 37) (.lit 0) 55)) (.rcons (.vint .u32 (.icell (.var 37) (.lit 0) 56)) (.rcons (.vint .u32 (.icell (.var 37) (.lit 0) 57)) (.rcons (.vint .u32 (.icell (.var 37) (.lit 0) 58)) (.rcons (.vint .u32 (.icell (.var 37) (.lit 0) 59)) (.rcons (.vint .u32 (.icell (.var 37) (.lit 0) 60)) (.rcons (.vint .u32 (.icell (.var 37) (.lit 0) 61)) (.rcons (.vint .u32 (.icell (.var 37) (.lit 0) 62)) (.rcons (.vint .u32 (.icell (.var 37) (.lit 0) 63)) .rnil)))))))))))))))))))))))))))))))))))))))))))))))))))))))))))))))),bt 0 (.rcons (.vint .u32 (.icell (.var 39) (.lit 0) 0)) (.rcons (.vint .u32 (.icell (.var 39) (.lit 0) 1)) (.rcons (.vint .u32 (.icell (.var 39) (.lit 0) 2)) (.rcons (.vint .u32 (.icell (.var 39) (.lit 0) 3)) (.rcons (.vint .u32 (.icell (.var 39) (.lit 0) 4)) (.rcons (.vint .u32 (.icell (.var 39) (.lit 0) 5)) (.rcons (.vint .u32 (.icell (.var 39) (.lit 0) 6)) (.rcons (.vint .u32 (.icell (.var 39) (.lit 0) 7)) .rnil))))))))]
def qvG:Out:=(.fresh 7 (.fresh 8 (.fresh 9 (.fresh 10 (.need (.cmp .leq (.lit 0) (.var 1)) (.need (.cmp .leq (.var 1) (.dlen (.var 3))) (.need (.cmp .leq (.tims (.lit 1) (.var 1)) (.lit 140737488355328)) (.fresh 11 (.fresh 12 (.fresh 13 (.need (.cmp .eql (.var 1) (.dlen (.dtake (.var 3) (.var 1)))) (.need (.cmp .leq (.tims (.lit 1) (.plus (.var 1) (.lit 1))) (.lit 140737488355328)) (.fresh 14 (.fresh 15 (.inv 0 16 (sg 1000 [bt 1008 (.dapp (.dtake (.var 3) (.var 1)) (.rcons (.vint .u8 (.lit 128)) .rnil)),bt 1003 (.rcons (.vint .u32 (.c2 (.xint 0) (.var 6) (.lit 0))) (.rcons (.vint .u32 (.c2 (.xint 1) (.var 6) (.lit 0))) (.rcons (.vint .u32 (.c2 (.xint 2) (.var 6) (.lit 0))) (.rcons (.vint .u32 (.c2 (.xint 3) (.var 6) (.lit 0))) (.rcons (.vint .u32 (.c2 (.xint 4) (.var 6) (.lit 0))) (.rcons (.vint .u32 (.c2 (.xint 5) (.var 6) (.lit 0))) (.rcons (.vint .u32 (.c2 (.xint 6) (.var 6) (.lit 0))) (.rcons (.vint .u32 (.c2 (.xint 7) (.var 6) (.lit 0))) .rnil)))))))),bt 1001 (.rcons (.vint .u32 (.c2 (.xint 0) (.var 5) (.lit 0))) (.rcons (.vint .u32 (.c2 (.xint 1) (.var 5) (.lit 0))) (.rcons (.vint .u32 (.c2 (.xint 2) (.var 5) (.lit 0))) (.rcons (.vint .u32 (.c2 (.xint 3) (.var 5) (.lit 0))) (.rcons (.vint .u32 (.c2 (.xint 4) (.var 5) (.lit 0))) (.rcons (.vint .u32 (.c2 (.xint 5) (.var 5) (.lit 0))) (.rcons (.vint .u32 (.c2 (.xint 6) (.var 5) (.lit 0))) (.rcons (.vint .u32 (.c2 (.xint 7) (.var 5) (.lit 0))) (.rcons (.vint .u32 (.c2 (.xint 8) (.var 5) (.lit 0))) (.rcons (.vint .u32 (.c2 (.xint 9) (.var 5) (.lit 0))) (.rcons (.vint .u32 (.c2 (.xint 10) (.var 5) (.lit 0))) (.rcons (.vint .u32 (.c2 (.xint 11) (.var 5) (.lit 0))) (.rcons (.vint .u32 (.c2 (.xint 12) (.var 5) (.lit 0))) (.rcons (.vint .u32 (.c2 (.xint 13) (.var 5) (.lit 0))) (.rcons (.vint .u32 (.c2 (.xint 14) (.var 5) (.lit 0))) (.rcons (.vint .u32 (.c2 (.xint 15) (.var 5) (.lit 0))) (.rcons (.vint .u32 (.c2 (.xint 16) (.var 5) (.lit 0))) (.rcons (.vint .u32 (.c2 (.xint 17) (.var 5) (.lit 0))) (.rcons (.vint .u32 (.c2 (.xint 18) (.var 5) (.lit 0))) (.rcons (.vint .u32 (.c2 (.xint 19) (.var 5) (.lit 0))) (.rcons (.vint .u32 (.c2 (.xint 20) (.var 5) (.lit 0))) (.rcons (.vint .u32 (.c2 (.xint 21) (.var 5) (.lit 0))) (.rcons (.vint .u32 (.c2 (.xint 22) (.var 5) (.lit 0))) (.rcons (.vint .u32 (.c2 (.xint 23) (.var 5) (.lit 0))) (.rcons (.vint .u32 (.c2 (.xint 24) (.var 5) (.lit 0))) (.rcons (.vint .u32 (.c2 (.xint 25) (.var 5) (.lit 0))) (.rcons (.vint .u32 (.c2 (.xint 26) (.var 5) (.lit 0))) (.rcons (.vint .u32 (.c2 (.xint 27) (.var 5) (.lit 0))) (.rcons (.vint .u32 (.c2 (.xint 28) (.var 5) (.lit 0))) (.rcons (.vint .u32 (.c2 (.xint 29) (.var 5) (.lit 0))) (.rcons (.vint .u32 (.c2 (.xint 30) (.var 5) (.lit 0))) (.rcons (.vint .u32 (.c2 (.xint 31) (.var 5) (.lit 0))) (.rcons (.vint .u32 (.c2 (.xint 32) (.var 5) (.lit 0))) (.rcons (.vint .u32 (.c2 (.xint 33) (.var 5) (.lit 0))) (.rcons (.vint .u32 (.c2 (.xint 34) (.var 5) (.lit 0))) (.rcons (.vint .u32 (.c2 (.xint 35) (.var 5) (.lit 0))) (.rcons (.vint .u32 (.c2 (.xint 36) (.var 5) (.lit 0))) (.rcons (.vint .u32 (.c2 (.xint 37) (.var 5) (.lit 0))) (.rcons (.vint .u32 (.c2 (.xint 38) (.var 5) (.lit 0))) (.rcons (.vint .u32 (.c2 (.xint 39) (.var 5) (.lit 0))) (.rcons (.vint .u32 (.c2 (.xint 40) (.var 5) (.lit 0))) (.rcons (.vint .u32 (.c2 (.xint 41) (.var 5) (.lit 0))) (.rcons (.vint .u32 (.c2 (.xint 42) (.var 5) (.lit 0))) (.rcons (.vint .u32 (.c2 (.xint 43) (.var 5) (.lit 0))) (.rcons (.vint .u32 (.c2 (.xint 44) (.var 5) (.lit 0))) (.rcons (.vint .u32 (.c2 (.xint 45) (.var 5) (.lit 0))) (.rcons (.vint .u32 (.c2 (.xint 46) (.var 5) (.lit 0))) (.rcons (.vint .u32 (.c2 (.xint 47) (.var 5) (.lit 0))) (.rcons (.vint .u32 (.c2 (.xint 48) (.var 5) (.lit 0))) (.rcons (.vint .u32 (.c2 (.xint 49) (.var 5) (.lit 0))) (.rcons (.vint .u32 (.c2 (.xint 50) (.var 5) (.lit 0))) (.rcons (.vint .u32 (.c2 (.xint 51) (.var 5) (.lit 0))) (.rcons (.vint .u32 (.c2 (.xint 52) (.var 5) (.lit 0))) (.rcons (.vint .u32 (.c2 (.xint 53) (.var 5) (.lit 0))) (.rcons (.vint .u32 (.c2 (.xint 54) (.var 5) (.lit 0))) (.rcons (.vint .u32 (.c2 (.xint 55) (.var 5) (.lit 0))) (.rcons (.vint .u32 (.c2 (.xint 56) (.var 5) (.lit 0))) (.rcons (.vint .u32 (.c2 (.xint 57) (.var 5) (.lit 0))) (.rcons (.vint .u32 (.c2 (.xint 58) (.var 5) (.lit 0))) (.rcons (.vint .u32 (.c2 (.xint 59) (.var 5) (.lit 0))) (.rcons (.vint .u32 (.c2 (.xint 60) (.var 5) (.lit 0))) (.rcons (.vint .u32 (.c2 (.xint 61) (.var 5) (.lit 0))) (.rcons (.vint .u32 (.c2 (.xint 62) (.var 5) (.lit 0))) (.rcons (.vint .u32 (.c2 (.xint 63) (.var 5) (.lit 0))) .rnil)))))))))))))))))))))))))))))))))))))))))))))))))))))))))))))))),bv 1007 15,bt 1006 (.plus (.var 1) (.lit 1)),bg 1005 14,bg 1004 9,bg 1002 8,bg 1000 7]) (.fresh 16 (.fresh 17 (.fresh 18 (.fresh 19 (.fresh 20 (.fresh 21 (.fresh 22 (.fresh 23 (.fresh 24 (.hyp 0 16 (.need (.cmp .leq (.lit 0) (.var 22)) (.br (.cmp .neq (.arith .rem .i64 (.var 22) (.lit 64)) (.lit 56))
 (.fresh 25 (.need (.cmp .eql (.var 22) (.dlen (.var 24))) (.need (.cmp .leq (.tims (.lit 1) (.plus (.var 22) (.lit 1))) (.lit 140737488355328)) (.fresh 26 (.fresh 27 (.back 0 16 (sg 1000 [bt 1008 (.dapp (.var 24) (.rcons o8 .rnil)),bv 1003 19,bv 1001 17,bv 1007 27,bt 1006 (.plus (.var 22) (.lit 1)),bg 1005 26,bg 1004 20,bg 1002 18,bg 1000 16])))))))
 (.inv 1 25 (sg 1000 [bv 1008 24,bv 1003 19,bv 1001 17,bt 1009 (.lit 7),bt 1010 (.arith .mul .u64 (.conv .u64 (.var 1)) (.lit 8)),bv 1007 23,bv 1006 22,bg 1005 21,bg 1004 20,bg 1002 18,bg 1000 16]) (.fresh 25 (.fresh 26 (.fresh 27 (.fresh 28 (.fresh 29 (.fresh 30 (.fresh 31 (.fresh 32 (.fresh 33 (.fresh 34 (.fresh 35 (.hyp 1 25 (.br (.cmp .geq (.var 34) (.lit 0))
 (.need (.cmp .geq (.arith .mul .u64 (.lit 8) (.conv .u64 (.var 34))) (.lit 0)) (.fresh 36 (.need (.cmp .eql (.var 31) (.dlen (.var 33))) (.need (.cmp .leq (.tims (.lit 1) (.plus (.var 31) (.lit 1))) (.lit 140737488355328)) (.fresh 37 (.fresh 38 (.back 1 25 (sg 1000 [bt 1008 (.dapp (.var 33) (.rcons (.vint .u8 (.conv .u8 (.arith .shr .u64 (.var 35) (.arith .mul .u64 (.lit 8) (.conv .u64 (.var 34)))))) .rnil)),bv 1003 28,bv 1001 26,bt 1009 (.arith .sub .i64 (.var 34) (.lit 1)),bv 1010 35,bv 1007 38,bt 1006 (.plus (.var 31) (.lit 1)),bg 1005 37,bg 1004 29,bg 1002 27,bg 1000 25]))))))))
 (.inv 2 36 (sg 1000 [bv 1008 33,bv 1003 28,bv 1001 26,bt 1009 (.lit 0),bv 1007 32,bv 1006 31,bg 1005 30,bg 1004 29,bg 1002 27,bg 1000 25]) (.fresh 36 (.fresh 37 (.fresh 38 (.fresh 39 (.fresh 40 (.fresh 41 (.fresh 42 (.fresh 43 (.fresh 44 (.fresh 45 (.hyp 2 36 (.need (.cmp .leq (.lit 0) (.var 42)) (.br (.cmp .lss (.var 45) (.var 42))
 (.need (.cmp .lss (.lit 0) (.dlen (.var 39))) (.need (.cmp .lss (.lit 0) (.dlen (.var 37))) (.know (.cmp .leq (.dlen (.var 44)) (.var 43)) (.need (.cmp .leq (.lit 0) (.var 43)) (.need (.cmp .leq (.lit 0) (.var 45)) (.need (.cmp .leq (.var 45) (.arith .add .i64 (.var 45) (.lit 64))) (.need (.cmp .leq (.arith .add .i64 (.var 45) (.lit 64)) (.var 43)) (.both (.pre 0 qvh (.both (.fresh 46 (.post 0 0 qvh 46 (.both (.back 2 36 (sg 1000 [bv 1008 44,bt 1003 (.dput (.var 39) (.lit 0) 0 (.rcons (.vint .u32 (.c2 (.xint 0) (.var 46) (.lit 0))) (.rcons (.vint .u32 (.c2 (.xint 1) (.var 46) (.lit 0))) (.rcons (.vint .u32 (.c2 (.xint 2) (.var 46) (.lit 0))) (.rcons (.vint .u32 (.c2 (.xint 3) (.var 46) (.lit 0))) (.rcons (.vint .u32 (.c2 (.xint 4) (.var 46) (.lit 0))) (.rcons (.vint .u32 (.c2 (.xint 5) (.var 46) (.lit 0))) (.rcons (.vint .u32 (.c2 (.xint 6) (.var 46) (.lit 0))) (.rcons (.vint .u32 (.c2 (.xint 7) (.var 46) (.lit 0))) .rnil))))))))),bv 1001 37,bt 1009 (.arith .add .i64 (.var 45) (.lit 64)),bv 1007 43,bv 1006 42,bg 1005 41,bg 1004 40,bg 1002 38,bg 1000 36])) .top))) .top)) .top))))))))
 (.fresh 46 (.inv 3 47 (sg 1000 [bt 1006 z8,bv 1003 39,bt 1007 (.lit 0),bg 1005 46,bg 1004 40,bg 1002 38]) (.fresh 47 (.fresh 48 (.fresh 49 (.fresh 50 (.fresh 51 (.fresh 52 (.fresh 53 (.fresh 54 (.hyp 3 47 (.br (.cmp .lss (.var 54) (.lit 32))
 (.need (.cmp .leq (.lit 0) (.arith .quo .i64 (.var 54) (.lit 4))) (.need (.cmp .lss (.arith .quo .i64 (.var 54) (.lit 4)) (.lit 8)) (.need (.cmp .lss (.lit 0) (.dlen (.var 50))) (.need (.cmp .geq (.arith .sub .u64 (.lit 24) (.arith .mul .u64 (.lit 8) (.conv .u64 (.arith .rem .i64 (.var 54) (.lit 4))))) (.lit 0)) (.need (.cmp .leq (.lit 0) (.var 54)) (.need (.cmp .lss (.lit 0) (.dlen (.var 53))) (.back 3 47 (sg 1000 [bt 1006 (.c3 (.xput 0) (.var 53) (.var 54) (.vint .u8 (.conv .u8 (.arith .shr .u32 (.c2 (.xint 0) (.var 50) (.arith .quo .i64 (.var 54) (.lit 4))) (.arith .sub .u64 (.lit 24) (.arith .mul .u64 (.lit 8) (.conv .u64 (.arith .rem .i64 (.var 54) (.lit 4))))))))),bv 1003 50,bt 1007 (.arith .add .i64 (.var 54) (.lit 1)),bg 1005 52,bg 1004 51,bg 1002 49]))))))))
 (.need (.cmp .lss (.lit 0) (.dlen (.var 53))) (.ret 0 (sg 7 [bt 7 (.rcons (.vint .u8 (.icell (.var 53) (.lit 0) 0)) (.rcons (.vint .u8 (.icell (.var 53) (.lit 0) 1)) (.rcons (.vint .u8 (.icell (.var 53) (.lit 0) 2)) (.rcons (.vint .u8 (.icell (.var 53) (.lit 0) 3)) (.rcons (.vint .u8 (.icell (.var 53) (.lit 0) 4)) (.rcons (.vint .u8 (.icell (.var 53) (.lit 0) 5)) (.rcons (.vint .u8 (.icell (.var 53) (.lit 0) 6)) (.rcons (.vint .u8 (.icell (.var 53) (.lit 0) 7)) (.rcons (.vint .u8 (.icell (.var 53) (.lit 0) 8)) (.rcons (.vint .u8 (.icell (.var 53) (.lit 0) 9)) (.rcons (.vint .u8 (.icell (.var 53) (.lit 0) 10)) (.rcons (.vint .u8 (.icell (.var 53) (.lit 0) 11)) (.rcons (.vint .u8 (.icell (.var 53) (.lit 0) 12)) (.rcons (.vint .u8 (.icell (.var 53) (.lit 0) 13)) (.rcons (.vint .u8 (.icell (.var 53) (.lit 0) 14)) (.rcons (.vint .u8 (.icell (.var 53) (.lit 0) 15)) (.rcons (.vint .u8 (.icell (.var 53) (.lit 0) 16)) (.rcons (.vint .u8 (.icell (.var 53) (.lit 0) 17)) (.rcons (.vint .u8 (.icell (.var 53) (.lit 0) 18)) (.rcons (.vint .u8 (.icell (.var 53) (.lit 0) 19)) (.rcons (.vint .u8 (.icell (.var 53) (.lit 0) 20)) (.rcons (.vint .u8 (.icell (.var 53) (.lit 0) 21)) (.rcons (.vint .u8 (.icell (.var 53) (.lit 0) 22)) (.rcons (.vint .u8 (.icell (.var 53) (.lit 0) 23)) (.rcons (.vint .u8 (.icell (.var 53) (.lit 0) 24)) (.rcons (.vint .u8 (.icell (.var 53) (.lit 0) 25)) (.rcons (.vint .u8 (.icell (.var 53) (.lit 0) 26)) (.rcons (.vint .u8 (.icell (.var 53) (.lit 0) 27)) (.rcons (.vint .u8 (.icell (.var 53) (.lit 0) 28)) (.rcons (.vint .u8 (.icell (.var 53) (.lit 0) 29)) (.rcons (.vint .u8 (.icell (.var 53) (.lit 0) 30)) (.rcons (.vint .u8 (.icell (.var 53) (.lit 0) 31)) .rnil))))))))))))))))))))))))))))))))]))))))))))))))))))))))))))))))))))))))))))))))))))))))))))))))))))))))
theorem q3u:qk ⟨Tryz.prog,qgI,[qeJ],[q0F,q06,q0o,qzW]⟩ 100000 Tryz.f117 = qvG:=by kernel_rfl
theorem q7c (hd:∀ c ∈ ([qeJ]:List Ctr),c.ok Tryz.prog) (h:∀ ρ:Env,ρ.good->(qgI).pre ρ->qvG.den ⟨Tryz.prog,qgI,[qeJ],[q0F,q06,q0o,qzW]⟩ ρ):(qgI).ok Tryz.prog :=
 qf Tryz.func117 (fun a w=>Tryz.call117 a w) hd 100000 (fun ρ hg hp=>by rw [q3u]; exact h ρ hg hp)
@[simp] def quY:Sg:=sg 0 [bv 4 4,bv 3 3,bt 6 (.rcons (.vint .u32 (.lit 1779033703)) (.rcons (.vint .u32 (.lit 3144134277)) (.rcons (.vint .u32 (.lit 1013904242)) (.rcons (.vint .u32 (.lit 2773480762)) (.rcons (.vint .u32 (.lit 1359893119)) (.rcons (.vint .u32 (.lit 2600822924)) (.rcons (.vint .u32 (.lit 528734635)) (.rcons (.vint .u32 (.lit 1541459225)) .rnil)))))))),bt 5 (.rcons (.vint .u32 (.icell (.var 6) (.lit 0) 0)) (.rcons (.vint .u32 (.icell (.var 6) (.lit 0) 1)) (.rcons (.vint .u32 (.icell (.var 6) (.lit 0) 2)) (.rcons (.vint .u32 (.icell (.var 6) (.lit 0) 3)) (.rcons (.vint .u32 (.icell (.var 6) (.lit 0) 4)) (.rcons (.vint .u32 (.icell (.var 6) (.lit 0) 5)) (.rcons (.vint .u32 (.icell (.var 6) (.lit 0) 6)) (.rcons (.vint .u32 (.icell (.var 6) (.lit 0) 7)) (.rcons (.vint .u32 (.icell (.var 6) (.lit 0) 8)) (.rcons (.vint .u32 (.icell (.var 6) (.lit 0) 9)) (.rcons (.vint .u32 (.icell (.var 6) (.lit 0) 10)) (.rcons (.vint .u32 (.icell (.var 6) (.lit 0) 11)) (.rcons (.vint .u32 (.icell (.var 6) (.lit 0) 12)) (.rcons (.vint .u32 (.icell (.var 6) (.lit 0) 13)) (.rcons (.vint .u32 (.icell (.var 6) (.lit 0) 14)) (.rcons (.vint .u32 (.icell (.var 6) (.lit 0) 15)) (.rcons (.vint .u32 (.icell (.var 6) (.lit 0) 16)) (.rcons (.vint .u32 (.icell (.var 6) (.lit 0) 17)) (.rcons (.vint .u32 (.icell (.var 6) (.lit 0) 18)) (.rcons (.vint .u32 (.icell (.var 6) (.lit 0) 19)) (.rcons (.vint .u32 (.icell (.var 6) (.lit 0) 20)) (.rcons (.vint .u32 (.icell (.var 6) (.lit 0) 21)) (.rcons (.vint .u32 (.icell (.var 6) (.lit 0) 22)) (.rcons (.vint .u32 (.icell (.var 6) (.lit 0) 23)) (.rcons (.vint .u32 (.icell (.var 6) (.lit 0) 24)) (.rcons (.vint .u32 (.icell (.var 6) (.lit 0) 25)) (.rcons (.vint .u32 (.icell (.var 6) (.lit 0) 26)) (.rcons (.vint .u32 (.icell (.var 6) (.lit 0) 27)) (.rcons (.vint .u32 (.icell (.var 6) (.lit 0) 28)) (.rcons (.vint .u32 (.icell (.var 6) (.lit 0) 29)) (.rcons (.vint .u32 (.icell (.var 6) (.lit 0) 30)) (.rcons (.vint .u32 (.icell (.var 6) (.lit 0) 31)) (.rcons (.vint .u32 (.icell (.var 6) (.lit 0) 32)) (.rcons (.vint .u32 (.icell (.var 6) (.lit 0) 33)) (.rcons (.vint .u32 (.icell (.var 6) (.lit 0) 34)) (.rcons (.vint .u32 (.icell (.var 6) (.lit 0) 35)) (.rcons (.vint .u32 (.icell (.var 6) (.lit 0) 36)) (.rcons (.vint .u32 (.icell (.var 6) (.lit 0) 37)) (.rcons (.vint .u32 (.icell (.var 6) (.lit 0) 38)) (.rcons (.vint .u32 (.icell (.var 6) (.lit 0) 39)) (.rcons (.vint .u32 (.icell (.var 6) (.lit 0) 40)) (.rcons (.vint .u32 (.icell (.var 6) (.lit 0) 41)) (.rcons (.vint .u32 (.icell (.var 6) (.lit 0) 42)) (.rcons (.vint .u32 (.icell (.var 6) (.lit 0) 43)) (.rcons (.vint .u32 (.icell (.var 6) (.lit 0) 44)) (.rcons (.vint .u32 (.icell (.var 6) (.lit 0) 45)) (.rcons (.vint .u32 (.icell (.var 6) (.lit 0) 46)) (.rcons (.vint .u32 (.icell (.var 6) (.lit 0) 47)) (.rcons (.vint .u32 (.icell (.var 6) (.lit 0) 48)) (.rcons (.vint .u32 (.icell (.var 6) (.lit 0) 49)) (.rcons (.vint .u32 (.icell (.var 6) (.lit 0) 50)) (.rcons (.vint .u32 (.icell (.var 6) (.lit 0) 51)) (.rcons (.vint .u32 (.icell (.var 6) (.lit 0) 52)) (.rcons (.vint .u32 (.icell (.var 6) (.lit 0) 53)) (.rcons (.vint .u32 (.icell (.var 6) (.lit 0) 54)) (.rcons (.vint .u32 (.icell (.var 6) (.lit 0) 55)) (.rcons (.vint .u32 (.icell (.var 6) (.lit 0) 56)) (.rcons (.vint .u32 (.icell (.var 6) (.lit 0) 57)) (.rcons (.vint .u32 (.icell (.var 6) (.lit 0) 58)) (.rcons (.vint .u32 (.icell (.var 6) (.lit 0) 59)) (.rcons (.vint .u32 (.icell (.var 6) (.lit 0) 60)) (.rcons (.vint .u32 (.icell (.var 6) (.lit 0) 61)) (.rcons (.vint .u32 (.icell (.var 6) (.lit 0) 62)) (.rcons (.vint .u32 (.icell (.var 6) (.lit 0) 63)) .rnil)))))))))))))))))))))))))))))))))))))))))))))))))))))))))))))))),bv 2 2,bv 1 1,bg 0 0]
def qvq:Out:=(.fresh 7 (.need (.c1 (.isg 0) (.var 5)) (.need (.cmp .lss (.lit 0) (.dlen (.var 6))) (.pre 0 quY (.both (.fresh 8 (.post 0 0 quY 8 (.ret 0 (sg 7 [bt 7 (r8 8)])))) .top)))))
theorem q2w:qk ⟨Tryz.prog,qgK,[qgI],[]⟩ 100000 Tryz.f79 = qvq:=by kernel_rfl
theorem q6W (hd:∀ c ∈ ([qgI]:List Ctr),c.ok Tryz.prog) (h:∀ ρ:Env,ρ.good->(qgK).pre ρ->qvq.den ⟨Tryz.prog,qgK,[qgI],[]⟩ ρ):(qgK).ok Tryz.prog :=
 qf Tryz.func79 (fun a w=>Tryz.call79 a w) hd 100000 (fun ρ hg hp=>by rw [q2w]; exact h ρ hg hp)
end Go.Proofs

set_option linter.unusedSimpArgs false
set_option linter.unusedVariables false
namespace Go.Proofs
open Go Go.Eng
set_option maxRecDepth 20000
theorem q8H {x y:Nat} (h:x * y < 18446744073709551616):qc .mul .u64 (x:Int) (y:Int) = ((x * y:Nat):Int):=by
 show IntKind.u64.wrap ((x:Int) * (y:Int)) = _
 rw [qmQ,<- Int.natCast_mul]; omega
def qZ (f:Nat->Int) (n:Nat):List Value:=(List.range n).map fun j=>.int .u32 (f j)
theorem qce {f:Nat->Int} {n j:Nat} (h:j < n):qa [qZ f n] j = f j:=by
 rw [qsC]; simp [qZ,h,qV]
end Go.Proofs

set_option linter.unusedSimpArgs false
set_option linter.unusedVariables false
namespace Go.Proofs
open Go Go.Eng
set_option maxRecDepth 20000
theorem qh2 {d:qe} {o:Int} {j:Nat} (h0:0 <= o) (hl:o + 64 <= d.length) (hj:j < 64):(qaH d o 64).getD j 0 = qg d (o + j) 0:=by
 have hg:=qfH (d:=d) (i:=o + j) (by omega) (by omega)
 unfold qaH
 rw [List.getD_eq_getElem?_getD,List.getElem?_take,if_pos (show j < (64:Int).toNat from hj),List.getElem?_drop,show o.toNat + j = (o + j).toNat by omega,hg]
 rfl
theorem qn6 {m:List Int} {o:Nat}:(qax m o).length = 16:=by simp [qax]
theorem qxr {m:List Int} {o t:Nat} (h:t < 16):(qax m o).getD t 0 = qj3 m (o + 4 * t):=by
 simp [qax,List.getD_eq_getElem?_getD,h]
theorem q8m {d:qe} {t:Nat} (h:t < 64):(kW d).getD t 0 = toW (qa d t):=by
 simp [kW,qev,qd,List.getD_eq_getElem?_getD,h]
theorem q9P {x:Int}:qc .xor .u32 4294967295 x = ofW (~~~ toW x):=by
 rw [qoA]
 refine congrArg ofW ?_
 apply BitVec.eq_of_getLsbD_eq
 intro j hj
 have h1:∀ i:Nat,i < 32->(toW 4294967295).getLsbD i = true:=by decide
 rw [BitVec.getLsbD_xor,BitVec.getLsbD_not,h1 j hj]
 simp [hj]
theorem qm4 {d:qe}:qaY (qd d 8) = ⟨toW (qa d 0),toW (qa d 1),toW (qa d 2),toW (qa d 3),toW (qa d 4),toW (qa d 5),toW (qa d 6),toW (qa d 7)⟩:=rfl
theorem qyu {d:qe} {n:Nat} {vs:List Value} (h:qD d n) (hv:vs.length = n):qcd d 0 0 vs = [vs]:=by
 obtain ⟨row,rfl,hl⟩:=h
 simp [qcd,qa5]
 omega
theorem qv1 {d e:List (List Value)} (h:qd d 8 = qd e 8):∀ j,j < 8->qa d j = qa e j:=fun j hj=>by
 have:=qgu (d:=d) hj
 rw [h,qgu hj] at this
 exact this.symm
theorem q11 {d e:List (List Value)} (h:qd d 64 = qd e 64):∀ j,j < 64->qa d j = qa e j:=fun j hj=>by
 have:=qgu (d:=d) hj
 rw [h,qgu hj] at this
 exact this.symm
theorem qp1 {f:Nat->Int} {n:Nat}:qD [qZ f n] n:=⟨_,rfl,by simp [qZ]⟩
theorem qkC {d:qe} {n:Nat}:qd [qZ (qa d) n] n = qd d n:=qe4 fun j hj=>qce hj
theorem qeZ {d:qe} {n:Nat}:qd [qZ (qg d 0) n] n = qd d n:=qe4 fun j hj=>(qce hj).trans qbz
theorem q5H:qeJ.ok Tryz.prog:=q5k (by simp [q7g]) fun ρ hg hp=>by
 obtain ⟨hw8,hw64,ho,h64,hol,hB⟩:=hp
 simp (config:={ maxSteps:=2000000 }) [qrs,qeJ,qtA,qtU,qwg,qqv,qur,qgE]
 have c64:qD [qZ (qa (ρ 1).d) 64] 64/\qd [qZ (qa (ρ 1).d) 64] 64 = qd (ρ 1).d 64:=⟨qp1,qkC⟩
 have c8:qD [qZ (qa (ρ 0).d) 8] 8/\qd [qZ (qa (ρ 0).d) 8] 8 = qd (ρ 0).d 8:=⟨qp1,qkC⟩
 refine ⟨⟨c64,c8.1,c8.2,⟨_,rfl,rfl⟩,fun j hj=>absurd hj (by omega)⟩,fun h _ k _ w _ t _ hk hk2 hh hh2 t0 t1 hA=>⟨fun hlt=>⟨fun h16=>?_,fun h16=>?_⟩,fun hge=>⟨by rw [qv hh]; decide,⟨⟨hk,hk2⟩,hh,hh2,?_,⟨_,rfl,rfl⟩,?_,?_⟩,fun h2 _ k2 _ w2 _ t2 _ v _ hk3 hk4 hh3 hh4 u0 u1 hW hv hvw hR=>⟨fun hlt=>?_,fun hge2=>⟨⟨hh3,hv,hvw,?_,fun j hj=>?_⟩,fun h5 _ t5 _ v5 _ hh5 s0 s1 hv5 hvw5 hR5 hc5=>⟨fun hlt=>?_,fun hge5=>⟨by rw [qv hh5]; decide,?_,?_⟩⟩⟩⟩⟩⟩⟩
 ·obtain ⟨T,hT⟩:∃ T:Nat,t.i = T:=⟨t.i.toNat,by omega⟩
  have m0:qc .mul .i64 4 t.i = ((4 * T:Nat):Int):=by rw [qc4 (by omega) (by omega)]; omega
  have m1:qc .add .i64 (qc .mul .i64 4 t.i) 1 = ((4 * T + 1:Nat):Int):=by rw [m0,add64 (by omega) (by omega)]; omega
  have m2:qc .add .i64 (qc .mul .i64 4 t.i) 2 = ((4 * T + 2:Nat):Int):=by rw [m0,add64 (by omega) (by omega)]; omega
  have m3:qc .add .i64 (qc .mul .i64 4 t.i) 3 = ((4 * T + 3:Nat):Int):=by rw [m0,add64 (by omega) (by omega)]; omega
  have m5:qc .add .i64 t.i 1 = ((T + 1:Nat):Int):=by rw [add64 (by omega) (by omega)]; omega
  rw [m1,m2,m3,m0,m5]
  rw [hT,Int.toNat_natCast] at hA
  rw [hT]
  simp only [Int.toNat_natCast]
  have e2:=qv hA.1
  refine ⟨by omega,by omega,ho,by omega,by omega,by omega,by omega,by omega,by omega,by omega,by omega,by omega,by omega,by omega,by omega,by omega,by omega,by omega,by omega,⟨⟨hk,hk2⟩,hh,hh2,by omega,by omega,qhG hA (by omega) ?_⟩,by omega⟩
  rw [qvL,qpN (by rw [qn6]; omega),qxr (by omega),qj3,Nat.zero_add,qh2 ho hol (by omega),qh2 ho hol (by omega),qh2 ho hol (by omega),qh2 ho hol (by omega)]
 ·obtain ⟨T,hT⟩:∃ T:Nat,t.i = ((16 + T:Nat):Int):=⟨t.i.toNat - 16,by omega⟩
  have m15:qc .sub .i64 t.i 15 = ((1 + T:Nat):Int):=by rw [sub64 (by omega) (by omega)]; omega
  have m2:qc .sub .i64 t.i 2 = ((14 + T:Nat):Int):=by rw [sub64 (by omega) (by omega)]; omega
  have m16:qc .sub .i64 t.i 16 = (T:Int):=by rw [sub64 (by omega) (by omega)]; omega
  have m7:qc .sub .i64 t.i 7 = ((9 + T:Nat):Int):=by rw [sub64 (by omega) (by omega)]; omega
  have m5:qc .add .i64 t.i 1 = ((16 + T + 1:Nat):Int):=by rw [add64 (by omega) (by omega)]; omega
  rw [m15,m2,m16,m7,m5]
  rw [hT,Int.toNat_natCast] at hA
  rw [hT]
  simp only [Int.toNat_natCast]
  have e2:=qv hA.1
  refine ⟨by omega,by omega,by omega,qbd hA (by omega),fun r1 _ g1=>⟨qbd hA (by omega),fun r2 _ g2=>⟨by omega,by omega,qbd hA (by omega),fun r3 _ g3=>⟨qbd hA (by omega),fun r4 _ g4=>⟨by omega,by omega,by omega,by omega,by omega,⟨⟨hk,hk2⟩,hh,hh2,by omega,by omega,qhG hA (by omega) ?_⟩,by omega⟩⟩⟩⟩⟩
  rw [g1,g2,g3,g4]
  rw [q8Z (qbd hA (by omega)),q6m (qbd hA (by omega))]
  simp only [qgd,qoA,qbY]
  rw [qcU hA (by omega:1 + T < 16 + T),qcU hA (by omega:14 + T < 16 + T),qcU hA (by omega:T < 16 + T),qcU hA (by omega:9 + T < 16 + T),qn2 qn6 (by omega)]
  generalize (qag (qax (qaH (ρ 6).d (ρ 3).i 64) 0) 48).getD (1 + T) 0 = p1
  generalize (qag (qax (qaH (ρ 6).d (ρ 3).i 64) 0) 48).getD (14 + T) 0 = p14
  generalize (qag (qax (qaH (ρ 6).d (ρ 3).i 64) 0) 48).getD (9 + T) 0 = p9
  generalize (qag (qax (qaH (ρ 6).d (ρ 3).i 64) 0) 48).getD T 0 = p0
  refine congrArg ofW ?_
  simp only [sg0,sg1]
 ·have:t.i = 64:=by omega
  rw [this] at hA; exact hA
 ·have e:qd9 [qZ (qg h.d 0) 8]:=fun j hj=>by
   rw [qce hj,qbz,qv1 hh2 j hj]; exact hw8 j hj
  exact e
 ·have e:qaY (qd [qZ (qg h.d 0) 8] 8) = qaY (qd (ρ 0).d 8):=by rw [qeZ,hh2]
  exact e
 ·obtain ⟨T,hT⟩:∃ T:Nat,t2.i = T:=⟨t2.i.toNat,by omega⟩
  have m5:qc .add .i64 t2.i 1 = ((T + 1:Nat):Int):=by rw [add64 (by omega) (by omega)]; omega
  rw [m5]
  rw [hT,Int.toNat_natCast] at hR
  rw [hT]
  simp only [Int.toNat_natCast,qbz]
  refine ⟨by rw [qv hv]; decide,by omega,by rw [qv hk3]; decide,by rw [qv hW.1]; decide,hvw 4 (by omega),fun r1 _ g1=>⟨hvw 4 (by omega),fun r2 _ g2=>⟨hvw 4 (by omega),fun r3 _ g3=>⟨hvw 0 (by omega),fun r4 _ g4=>⟨hvw 0 (by omega),fun r5 _ g5=>⟨hvw 0 (by omega),fun r6 _ g6=>?_⟩⟩⟩⟩⟩⟩
  rw [qyu hv rfl,g1,g2,g3,g4,g5,g6]
  refine ⟨⟨⟨hk3,hk4⟩,hh3,hh4,by omega,by omega,hW,⟨_,rfl,rfl⟩,fun j hj=>?_,?_⟩,by omega⟩
  ·match j,hj with
   | 0,_=>show isW (qc .add .u32 _ _); rw [qgd]; exact qgr
   | 1,_=>exact hvw 0 (by omega)
   | 2,_=>exact hvw 1 (by omega)
   | 3,_=>exact hvw 2 (by omega)
   | 4,_=>show isW (qc .add .u32 _ _); rw [qgd]; exact qgr
   | 5,_=>exact hvw 4 (by omega)
   | 6,_=>exact hvw 5 (by omega)
   | 7,_=>exact hvw 6 (by omega)
  ·rw [qlf,<- hR,q8m (by omega),<- q11 hk4 T (by omega),<- qcU hW (by omega:T < 64)]
   simp only [qgd,qoA,q6y,q9P,qbY]
   rw [qm4,qm4]
   simp only [qsC,List.getElem?_cons_zero,List.getElem?_cons_succ,Option.getD_some,qV,qbY]
   rfl
 ·have:t2.i = 64:=by omega
  rw [this] at hR; exact hR
 ·rw [if_neg (by omega)]; exact qv1 hh4 j hj
 ·obtain ⟨T,hT⟩:∃ T:Nat,t5.i = T:=⟨t5.i.toNat,by omega⟩
  have m5:qc .add .i64 t5.i 1 = ((T + 1:Nat):Int):=by rw [add64 (by omega) (by omega)]; omega
  rw [m5]
  rw [hT] at hc5
  rw [hT]
  simp only [Int.toNat_natCast]
  refine ⟨by omega,by rw [qv hh5]; decide,by rw [qv hv5]; decide,⟨qcY hh5,by omega,by omega,hv5,hvw5,hR5,fun j hj=>?_⟩,by omega⟩
  by_cases e:j = T
  ·rw [e,qcL hh5 (by omega),hc5 T (by omega),if_neg (by omega),if_pos (by omega),qgd]
  ·rw [qa3 e,hc5 j hj]
   by_cases e2:j < T
   ·rw [if_pos (by omega),if_pos (by omega)]
   ·rw [if_neg (by omega),if_neg (by omega)]
 ·have e:qd9 [qZ (qg h5.d 0) 8]:=fun j hj=>by
   rw [qce hj,qbz,hc5 j hj,if_pos (by omega)]; exact qgr
  exact e
 ·have e:qaY (qd [qZ (qg h5.d 0) 8] 8) = qeM (kW (ρ 1).d) (qaY (qd (ρ 0).d 8)) (qax (qaH (ρ 6).d (ρ 3).i 64) 0):=by
   rw [qeZ,qeM,<- hR5,qm4,qm4,qm4]
   have hc:∀ j,j < 8->qa h5.d j = ofW (toW (qa (ρ 0).d j) + toW (qa v5.d j)):=fun j hj=>by rw [hc5 j hj,if_pos (by omega)]
   rw [hc 0 (by omega),hc 1 (by omega),hc 2 (by omega),hc 3 (by omega),hc 4 (by omega),hc 5 (by omega),hc 6 (by omega),hc 7 (by omega)]
   simp only [qbY,q4C]
  exact e
end Go.Proofs

set_option linter.unusedSimpArgs false
set_option linter.unusedVariables false
namespace Go.Proofs
open Go Go.Eng
set_option maxRecDepth 20000
theorem qxi {l:List Int} {o:Nat}:qax ((l.drop o).take 64) 0 = qax l o:=by
 unfold qax
 refine List.map_congr_left fun t ht=>?_
 have ht:=List.mem_range.1 ht
 have e:∀ j,j < 64->((l.drop o).take 64).getD j 0 = l.getD (o + j) 0:=fun j hj=>by
  rw [List.getD_eq_getElem?_getD,List.getD_eq_getElem?_getD,List.getElem?_take,if_pos hj,List.getElem?_drop]
 unfold qj3
 rw [e _ (by omega),e _ (by omega),e _ (by omega),e _ (by omega),show o + (0 + 4 * t) = o + 4 * t by omega,show o + (0 + 4 * t + 1) = o + 4 * t + 1 by omega,show o + (0 + 4 * t + 2) = o + 4 * t + 2 by omega,show o + (0 + 4 * t + 3) = o + 4 * t + 3 by omega]
theorem q4N {d:qe} (h:qd9 d) {k:Nat} (hk:k < 8):(stL (qaY (qd d 8))).getD k 0 = qa d k:=by
 have h8:stL (qaY (qd d 8)) = [ofW (toW (qa d 0)),ofW (toW (qa d 1)),ofW (toW (qa d 2)),ofW (toW (qa d 3)),ofW (toW (qa d 4)),ofW (toW (qa d 5)),ofW (toW (qa d 6)),ofW (toW (qa d 7))]:=rfl
 rw [h8,qbl (h 0 (by omega)),qbl (h 1 (by omega)),qbl (h 2 (by omega)),qbl (h 3 (by omega)),qbl (h 4 (by omega)),qbl (h 5 (by omega)),qbl (h 6 (by omega)),qbl (h 7 (by omega))]
 match k,hk with
 | 0,_=>rfl
 | 1,_=>rfl
 | 2,_=>rfl
 | 3,_=>rfl
 | 4,_=>rfl
 | 5,_=>rfl
 | 6,_=>rfl
 | 7,_=>rfl
theorem qxf {d:qe} (h:qd9 d) {t:Nat} (ht:t < 32):(qem (qaY (qd d 8)))[t]?.getD 0 = ((qa d (t / 4)).fdiv (2 ^ (24 - 8 * (t % 4)))) % 256:=by
 rw [<- q4N h (by omega)]
 simp [qem,ht]
theorem q92 {x:Nat} (h:x <= 24):qc .sub .u64 24 (x:Int) = ((24 - x:Nat):Int):=by
 show IntKind.u64.wrap (24 - (x:Int)) = _
 rw [qmQ]; omega
theorem q03 {x:Nat} (h:x < 18446744073709551616):IntKind.u64.wrap (x:Int) = (x:Int):=by rw [qmQ]; omega
theorem q9j {x:Nat} (h:x < 1000000000000000):qc .mul .u64 8 (x:Int) = ((8 * x:Nat):Int):=q8H (x:=8) (by omega)
theorem q7v:qgI.ok Tryz.prog:=q7c (by simp [q5H]) fun ρ hg hp=>by
 obtain ⟨hl,hle,hB,hw64,hw8⟩:=hp
 simp (config:={ maxSteps:=2000000 }) [qvG,qgI,q0F,q06,q0o,qzW,qpi,qeJ]
 have hbl:(bI (ρ 3).d).length = (ρ 3).d.length:=bI_len
 refine ⟨by omega,by omega,by omega,by omega,by omega,⟨⟨fun j hj=>qce (f:=qa (ρ 5).d) (n:=64) hj,⟨_,rfl,rfl⟩,⟨_,rfl,rfl⟩,by omega,?_⟩,fun j hj=>qce (f:=qa (ρ 6).d) (n:=8) hj,0,by omega,?_⟩,fun k _ h _ n _ m _ hk hk1 hh hn hmB hh2 z hz hm=>⟨by omega,fun hne=>?_,fun heq=>?_⟩⟩
 ·refine qid (q6A hB) fun r hr=>?_
  obtain rfl:=List.mem_singleton.1 hr
  decide
 ·rw [qj4,List.take_of_length_le (by omega)]; rfl
 ·have hml:m.d.length = (ρ 3).d.length + 1 + z:=by
   have:=congrArg List.length hm
   rw [bI_len,List.length_append,hbl,List.length_cons,List.length_replicate] at this; omega
  rw [hn,qpf] at hne
  have hzlt:z < qio (ρ 3).d.length:=by unfold qio at hz ⊢; omega
  refine ⟨hn,by unfold qio at hz; omega,⟨⟨hk,hk1,hh,hn,qid hmB fun r hr=>?_⟩,hh2,z + 1,hzlt,?_⟩,by omega⟩
  ·obtain rfl:=List.mem_singleton.1 hr
   decide
  ·rw [qj4,hm,List.replicate_succ',<- List.cons_append,<- List.append_assoc]; rfl
 ·have hml:m.d.length = (ρ 3).d.length + 1 + z:=by
   have:=congrArg List.length hm
   rw [bI_len,List.length_append,hbl,List.length_cons,List.length_replicate] at this; omega
  rw [hn,qpf] at heq
  have hzz:z = qio (ρ 3).d.length:=by unfold qio at hz ⊢; omega
  rw [hzz] at hm
  refine ⟨⟨⟨hk,hk1,hh,hn,hmB⟩,hh2,?_,hm⟩,fun k2 _ h2 _ n2 _ m2 _ i _ q _ hk2 hk3 hh3 hn2 hmB2 hh4 i0 i1 hq hm2=>⟨fun hi=>?_,fun hi=>⟨⟨⟨hk2,hk3,hh3,hn2,hmB2⟩,?_,?_,0,rfl,by omega,?_⟩,fun k4 _ h4 _ n4 _ c4 _ m4 _ t _ hk4 hk5 hh5 hn4 hmB4 hw4 hm4 x hx hxl hst=>?_⟩⟩⟩
  ·rw [hl,q03 (by omega)]
   exact (q8H (x:=(ρ 3).d.length) (y:=8) (by omega)).trans (by omega)
  ·obtain ⟨I,hI⟩:∃ I:Nat,i.i = I:=⟨i.i.toNat,by omega⟩
   have m1:qc .sub .i64 i.i 1 = i.i - 1:=by rw [Go.Proofs.sub64 (by omega) (by omega)]
   have hml2:m2.d.length <= (ρ 3).d.length + 1 + qio (ρ 3).d.length + 8:=by
    have:=congrArg List.length hm2
    rw [bI_len,List.length_append,hbl,List.length_cons,List.length_append,List.length_replicate,List.length_take,qas] at this; omega
   have hp64:qio (ρ 3).d.length <= 63:=by unfold qio; omega
   rw [m1,hI,q03 (by omega),q9j (by omega),qr0 (by omega),qgW,hq]
   rw [hI] at hm2
   refine ⟨by omega,hn2,by omega,⟨⟨hk2,hk3,hh3,hn2,qid hmB2 fun r hr=>?_⟩,hh4,by omega,by omega,rfl,?_⟩,by omega⟩
   ·obtain rfl:=List.mem_singleton.1 hr
    show 0 <= _ % 256/\_ % 256 < 256
    omega
   ·have hg:=qrh (v:=(ρ 1).i * 8) (n:=8) (j:=7 - I) (by omega)
    rw [show 8 - 1 - (7 - I) = I by omega] at hg
    rw [show (7 - ((I:Int) - 1)).toNat = (7 - I) + 1 by omega,List.take_add_one,List.getElem?_eq_getElem (by rw [qas]; omega)]
    rw [List.getElem?_eq_getElem (by rw [qas]; omega)] at hg
    rw [qj4,hm2,show (7 - (I:Int)).toNat = 7 - I by omega,<- hg]
    simp [bI,qb6,qV]
  ·exact fun j hj=>by rw [hh4 j hj]; exact hw8 j hj
  ·have h8:(7 - i.i).toNat = 8:=by omega
   rw [hm2,h8,List.take_of_length_le (by rw [qas]; omega),qd4,hbl,hl]
   rfl
  ·exact congrArg qaY (qe4 hh4)
  ·have hpl:=q4L (m:=bI (ρ 3).d)
   have hml4:m4.d.length = (qd4 (bI (ρ 3).d)).length:=by rw [<- hm4,bI_len]
   refine ⟨by omega,fun hlt=>⟨by rw [qv hh5]; decide,by rw [qv hk5]; decide,fun hcap=>?_⟩,fun hge=>⟨⟨hh5,hw4,?_,⟨_,rfl,rfl⟩,fun j hj=>absurd hj (by omega)⟩,fun h6 _ d6 _ t6 _ hh6 hw6 hst6 hd6 s0 s1 hc6=>⟨fun hlt=>?_,fun hge2=>⟨by rw [qv hd6]; decide,?_⟩⟩⟩⟩
   ·have m1:qc .add .i64 t.i 64 = t.i + 64:=by rw [Go.Proofs.add64 (by omega) (by omega)]
    have h9:64 * x + 64 <= m4.d.length:=by omega
    rw [if_neg (by omega),m1]
    refine ⟨by omega,by omega,by omega,by omega,⟨fun j hj=>?_,fun j hj=>?_,by omega,by omega,by omega,hmB4⟩,fun g _ hgw hgs=>?_⟩
    ·have:qa [qZ (qg h4.d 0) 8] j = qa h4.d j:=(qce hj).trans qbz
     exact (congrArg isW this).mpr (hw4 j hj)
    ·have:qa [qZ (qg k4.d 0) 64] j = qa (ρ 5).d j:=((qce hj).trans qbz).trans (hk4 j hj)
     exact (congrArg isW this).mpr (hw64 j hj)
    ·rw [qyu hh5 rfl]
     have hgs':qaY (qd g.d 8) = qeM (kW [qZ (qg k4.d 0) 64]) (qaY (qd [qZ (qg h4.d 0) 8] 8)) (qax (qaH m4.d t.i 64) 0):=hgs
     have e1:kW [qZ (qg k4.d 0) 64] = kW (ρ 5).d:=by
      unfold kW; rw [qeZ]; exact congrArg qev (qe4 hk4)
     have e2:qax (qaH m4.d t.i 64) 0 = qax (qd4 (bI (ρ 3).d)) (64 * x):=by
      rw [qaH,hm4,hx,show ((64:Int) * (x:Int)).toNat = 64 * x by omega]
      exact qxi
     rw [e1,e2,qeZ,hst] at hgs'
     refine ⟨⟨⟨hk4,hk5,⟨_,rfl,rfl⟩,hn4,hmB4⟩,fun j hj=>?_,hm4,x + 1,by omega,by omega,?_⟩,by omega⟩
     ·have:qa [qZ (qa g.d) 8] j = qa g.d j:=qce hj
      exact (congrArg isW this).mpr (hgw j hj)
     ·have e3:qaY (qd [qZ (qa g.d) 8] 8) = qgp (kW (ρ 5).d) (qaY (qd (ρ 6).d 8)) (qd4 (bI (ρ 3).d)) (x + 1):=by
       rw [qkC,hgs',qgp]
      exact e3
   ·rw [hst]
    refine congrArg _ ?_
    omega
   ·obtain ⟨T,hT⟩:∃ T:Nat,t6.i = T:=⟨t6.i.toNat,by omega⟩
    have m3:qc .add .i64 t6.i 1 = ((T + 1:Nat):Int):=by rw [Go.Proofs.add64 (by omega) (by omega)]; omega
    have m1:qc .sub .u64 24 (qc .mul .u64 8 (IntKind.u64.wrap (qc .rem .i64 t6.i 4))) = ((24 - 8 * (T % 4):Nat):Int):=by
     rw [hT,q8T,q03 (by omega),q9j (by omega),q92 (by omega)]
    rw [m1,m3,hT,q8i (by omega),qyz (by omega),qgW]
    rw [hT] at hc6
    simp only [Int.toNat_natCast]
    refine ⟨by omega,by omega,by rw [qv hh6]; decide,by omega,by omega,by rw [qv hd6]; decide,⟨hh6,hw6,hst6,qcY hd6,by omega,by omega,fun j hj=>?_⟩,by omega⟩
    by_cases ej:j = T
    ·rw [ej,qcL hd6 (by omega),qxf hw6 (by omega)]
    ·rw [qa3 ej,hc6 j (by omega)]
   ·have e:qd [qdM (qg d6.d 0)] 32 = qem (qaY (qd h6.d 8)):=qqU qkH fun j hj=>by
     rw [qiR hj,qbz]; exact hc6 j (by omega)
    rw [hst6] at e
    exact e
theorem qoC:∀ x ∈ qL,isW x:=by unfold isW; decide
theorem q2U:∀ x ∈ qmF,isW x:=by unfold isW; decide
theorem q3J {d:qe} (h:qd d 64 = qL):kW d = qev qL:=by rw [kW,h]
theorem q0B {d:qe} (h:qd d 64 = qL):qrn d:=fun j hj=>by
 rw [<- qgu hj,h]
 refine qoC _ ?_
 rw [List.getD_eq_getElem?_getD,List.getElem?_eq_getElem (by rw [qgf]; exact hj)]
 exact List.getElem_mem _
theorem q1u {d:qe} (h:qd d 8 = qmF):qd9 d:=fun j hj=>by
 rw [<- qgu hj,h]
 refine q2U _ ?_
 rw [List.getD_eq_getElem?_getD,List.getElem?_eq_getElem (by show j < 8; exact hj)]
 exact List.getElem_mem _
theorem q4f {d:qe} (h:d = [qL.map (Value.int .u32)]):qd d 64 = qL:=qqU qgf fun j hj=>by
 rw [h,qsd hj,List.getD_eq_getElem?_getD]
theorem q7m:qgK.ok Tryz.prog:=q6W (by simp [q7v]) fun ρ hg hp=>by
 obtain ⟨hl,hle,hB,hGr,hGd⟩:=hp
 simp (config:={ maxSteps:=2000000 }) [qvq,qgK,qgI,gOk]
 have ek:qd [qZ (qg (ρ 6).d 0) 64] 64 = qL:=qeZ.trans (q4f hGd)
 refine ⟨hGr,by rw [hGd]; decide,⟨hl,hle,hB,q0B ek,q1u rfl⟩,fun d _ hd=>?_⟩
 have hd':qd d.d 32 = q5t (kW [qZ (qg (ρ 6).d 0) 64]) (qaY qmF) (bI (ρ 3).d):=hd
 rw [q3J ek] at hd'
 exact hd'
end Go.Proofs

set_option linter.unusedSimpArgs false
set_option linter.unusedVariables false
set_option maxRecDepth 100000
namespace Go.Proofs
open Go Go.Eng

end Go.Proofs

set_option linter.unusedSimpArgs false
set_option linter.unusedVariables false
namespace Go.Proofs
open Go Go.Eng
set_option maxRecDepth 20000
end Go.Proofs

set_option linter.unusedSimpArgs false
set_option linter.unusedVariables false
set_option maxRecDepth 100000
namespace Go.Proofs
open Go Go.Eng

def qnT:Out:=(.br (.cmp .leq (.lit 1) (.var 0))
 (.br (.cmp .leq (.var 0) (.var 1))
 (.br (.cmp .leq (.var 1) (.var 2))
 (.ret 0 (sg 3 [bt 3 (.cmp .leq (.var 2) (.lit 255))]))
 (.ret 0 (sg 3 [bt 3 (.bl false)])))
 (.ret 0 (sg 3 [bt 3 (.bl false)])))
 (.ret 0 (sg 3 [bt 3 (.bl false)])))
theorem qx3:qk ⟨Tryz.prog,qca,[],[]⟩ 100000 Tryz.f86 = qnT:=by kernel_rfl
theorem q2P (hd:∀ c ∈ ([]:List Ctr),c.ok Tryz.prog) (h:∀ ρ:Env,ρ.good->(qca).pre ρ->qnT.den ⟨Tryz.prog,qca,[],[]⟩ ρ):(qca).ok Tryz.prog :=
 qf Tryz.func86 (fun a w=>Tryz.call86 a w) hd 100000 (fun ρ hg hp=>by rw [qx3]; exact h ρ hg hp)
def qnZ:Out:=(.fresh 10 (.pre 0 (sg 0 [bv 2 2,bv 1 1,bv 0 0]) (.both (.fresh 11 (.post 0 0 (sg 0 [bv 2 2,bv 1 1,bv 0 0]) 11 (.br (.not (.var 11))
 (.ret 0 (sg 10 [bt 10 (.lit 2)]))
 (.br (.cmp .lss (.var 3) (.lit 0))
 (.ret 0 (sg 10 [bt 10 (.lit 2)]))
 (.br (.cmp .gtr (.var 3) (.lit 8192))
 (.ret 0 (sg 10 [bt 10 (.lit 2)]))
 (.need (.cmp .leq (.lit 0) (.var 6)) (.br (.cmp .neq (.var 6) (.var 2))
 (.ret 0 (sg 10 [bt 10 (.lit 2)]))
 (.ret 0 (sg 10 [bt 10 (.lit 0)]))))))))) .top)))
theorem qx2:qk ⟨Tryz.prog,qbX,[qca],[]⟩ 100000 Tryz.f74 = qnZ:=by kernel_rfl
theorem q3l (hd:∀ c ∈ ([qca]:List Ctr),c.ok Tryz.prog) (h:∀ ρ:Env,ρ.good->(qbX).pre ρ->qnZ.den ⟨Tryz.prog,qbX,[qca],[]⟩ ρ):(qbX).ok Tryz.prog :=
 qf Tryz.func74 (fun a w=>Tryz.call74 a w) hd 100000 (fun ρ hg hp=>by rw [qx2]; exact h ρ hg hp)
@[simp] def qnq:Sg:=sg 0 [bv 9 8,bt 7 (.lit 2),bt 6 (.dapp (.rcons (.vint .u8 (.conv .u8 (.arith .shr .i64 (.var 0) (.lit 8)))) .rnil) (.rcons (.vint .u8 (.conv .u8 (.var 0))) .rnil)),bv 1 11,bt 5 (.lit 2),bt 4 (.lit 2),bt 3 (.lit 0),bg 2 12,bg 0 10,bg 8 7]
def qlH:Out:=(.fresh 9 (.pre 0 (sg 0 []) (.both (.fresh 10 (.fresh 11 (.post 0 0 (sg 0 []) 10 (.fresh 12 (.pre 1 qnq (.both (.fresh 13 (.post 1 0 qnq 13 (.pre 1 (sg 0 [bv 9 8,bv 7 6,bv 6 5,bv 1 13,bv 5 4,bv 4 3,bv 3 2,bg 2 1,bg 0 10,bg 8 7]) (.both (.fresh 14 (.post 1 0 (sg 0 [bv 9 8,bv 7 6,bv 6 5,bv 1 13,bv 5 4,bv 4 3,bv 3 2,bg 2 1,bg 0 10,bg 8 7]) 14 (.pre 2 (sg 0 [bv 3 8,bv 1 14,bg 0 10,bg 2 7]) (.both (.fresh 15 (.post 2 0 (sg 0 [bv 3 8,bv 1 14,bg 0 10,bg 2 7]) 15 (.ret 0 (sg 9 [bt 9 (r8 15)])))) .top)))) .top)))) .top)))))) .top)))
theorem qvV:qk ⟨Tryz.prog,qbp,[qbt,qc8,qgb],[]⟩ 100000 Tryz.f88 = qlH:=by kernel_rfl
theorem qyX (hd:∀ c ∈ ([qbt,qc8,qgb]:List Ctr),c.ok Tryz.prog) (h:∀ ρ:Env,ρ.good->(qbp).pre ρ->qlH.den ⟨Tryz.prog,qbp,[qbt,qc8,qgb],[]⟩ ρ):(qbp).ok Tryz.prog :=
 qf Tryz.func88 (fun a w=>Tryz.call88 a w) hd 100000 (fun ρ hg hp=>by rw [qvV]; exact h ρ hg hp)
@[simp] def qkm:Sg:=sg 0 [bv 6 52,bv 5 51,bv 4 50,bg 3 49,bv 2 48,bv 1 47,bg 0 46]
@[simp] def qpJ:Sg:=sg 0 [bt 6 .dnil,bt 5 (.lit 0),bt 4 (.lit 0),(3,.nil),bt 2 (.bl false),bv 1 13,bt 7 (.lit 19713),bg 0 12]
@[simp] def qoJ:Sg:=sg 0 [bt 8 (.rcons (i8 8 53 0) (.rcons (i8 8 53 1) (.rcons (i8 8 53 2) (.rcons (i8 8 53 3) (.rcons (i8 8 53 4) (.rcons (i8 8 53 5) (.rcons (i8 8 53 6) (.rcons (i8 8 53 7) (.rcons (i8 8 53 8) (.rcons (i8 8 53 9) (.rcons (i8 8 53 10) (.rcons (i8 8 53 11) (.rcons (i8 8 53 12) (.rcons (i8 8 53 13) (.rcons (i8 8 53 14) (.rcons (i8 8 53 15) (.rcons (i8 8 53 16) (.rcons (i8 8 53 17) (.rcons (i8 8 53 18) (.rcons (i8 8 53 19) (.rcons (i8 8 53 20) (.rcons (i8 8 53 21) (.rcons (i8 8 53 22) (.rcons (i8 8 53 23) (.rcons (i8 8 53 24) (.rcons (i8 8 53 25) (.rcons (i8 8 53 26) (.rcons (i8 8 53 27) (.rcons (i8 8 53 28) (.rcons (i8 8 53 29) (.rcons (i8 8 53 30) (.rcons (i8 8 53 31) .rnil)))))))))))))))))))))))))))))))),bv 6 52,bv 5 51,bv 4 50,bg 3 49,bv 2 48,bv 1 47,bg 7 54,bg 0 46]
@[simp] def qp9:Sg:=sg 0 [bt 8 (.rcons (.vint .i64 (.var 0)) (.rcons (.vint .i64 (.var 1)) (.rcons (.vint .i64 (.var 2)) (.rcons (.vint .i64 (.var 3)) (.rcons (x8 0 4) (.rcons (x8 1 4) (.rcons (x8 2 4) (.rcons (x8 3 4) (.rcons (x8 4 4) (.rcons (x8 5 4) (.rcons (x8 6 4) (.rcons (x8 7 4) (.rcons (x8 8 4) (.rcons (x8 9 4) (.rcons (x8 10 4) (.rcons (x8 11 4) (.rcons (x8 12 4) (.rcons (x8 13 4) (.rcons (x8 14 4) (.rcons (x8 15 4) (.rcons (x8 16 4) (.rcons (x8 17 4) (.rcons (x8 18 4) (.rcons (x8 19 4) (.rcons (x8 20 4) (.rcons (x8 21 4) (.rcons (x8 22 4) (.rcons (x8 23 4) (.rcons (x8 24 4) (.rcons (x8 25 4) (.rcons (x8 26 4) (.rcons (x8 27 4) (.rcons (x8 28 4) (.rcons (x8 29 4) (.rcons (x8 30 4) (.rcons (x8 31 4) (.rcons (.vslice 5 (.lit 0) (.var 6) (.var 7) 32) .rnil))))))))))))))))))))))))))))))))))))),bv 6 40,bv 5 39,bv 4 38,bg 3 37,bv 2 36,bv 1 13,bg 7 10,bg 0 12]
def qo1:Out:=(.fresh 10 (.pre 0 (sg 0 [bv 9 9,bv 8 8,bv 7 7,bv 6 6,bg 5 5,bv 3 3,bv 2 2,bv 1 1,bv 0 0,bt 4 (r8 4)]) (.both (.fresh 11 (.post 0 0 (sg 0 [bv 9 9,bv 8 8,bv 7 7,bv 6 6,bg 5 5,bv 3 3,bv 2 2,bv 1 1,bv 0 0,bt 4 (r8 4)]) 11 (.br (.cmp .neq (.var 11) (.lit 0))
 (.need (.cmp .eql (.lit 2) (.var 11)) (.ret 0 (sg 10 [])))
 (.pre 1 (sg 0 [bt 0 (.arith .add .i64 (.lit 39) (.arith .mul .i64 (.lit 32) (.var 2)))]) (.both (.fresh 12 (.fresh 13 (.fresh 14 (.fresh 15 (.post 1 0 (sg 0 [bt 0 (.arith .add .i64 (.lit 39) (.arith .mul .i64 (.lit 32) (.var 2)))]) 12 (.pre 3 qpJ (.both (.fresh 16 (.fresh 17 (.fresh 18 (.fresh 19 (.fresh 20 (.post 3 0 qpJ 16 (.pre 2 (sg 0 [bv 6 20,bv 5 19,bv 4 18,bg 3 17,bv 2 16,bv 1 13,bt 7 (.conv .u8 (.var 0)),bg 0 12]) (.both (.fresh 21 (.fresh 22 (.fresh 23 (.fresh 24 (.fresh 25 (.post 2 0 (sg 0 [bv 6 20,bv 5 19,bv 4 18,bg 3 17,bv 2 16,bv 1 13,bt 7 (.conv .u8 (.var 0)),bg 0 12]) 21 (.pre 2 (sg 0 [bv 6 25,bv 5 24,bv 4 23,bg 3 22,bv 2 21,bv 1 13,bt 7 (.conv .u8 (.var 1)),bg 0 12]) (.both (.fresh 26 (.fresh 27 (.fresh 28 (.fresh 29 (.fresh 30 (.post 2 0 (sg 0 [bv 6 25,bv 5 24,bv 4 23,bg 3 22,bv 2 21,bv 1 13,bt 7 (.conv .u8 (.var 1)),bg 0 12]) 26 (.pre 2 (sg 0 [bv 6 30,bv 5 29,bv 4 28,bg 3 27,bv 2 26,bv 1 13,bt 7 (.conv .u8 (.var 2)),bg 0 12]) (.both (.fresh 31 (.fresh 32 (.fresh 33 (.fresh 34 (.fresh 35 (.post 2 0 (sg 0 [bv 6 30,bv 5 29,bv 4 28,bg 3 27,bv 2 26,bv 1 13,bt 7 (.conv .u8 (.var 2)),bg 0 12]) 31 (.pre 3 (sg 0 [bv 6 35,bv 5 34,bv 4 33,bg 3 32,bv 2 31,bv 1 13,bt 7 (.conv .u16 (.var 3)),bg 0 12]) (.both (.fresh 36 (.fresh 37 (.fresh 38 (.fresh 39 (.fresh 40 (.post 3 0 (sg 0 [bv 6 35,bv 5 34,bv 4 33,bg 3 32,bv 2 31,bv 1 13,bt 7 (.conv .u16 (.var 3)),bg 0 12]) 36 (.pre 4 qp9 (.both (.fresh 41 (.fresh 42 (.fresh 43 (.fresh 44 (.fresh 45 (.post 4 0 qp9 41 (.need (.cmp .leq (.lit 0) (.var 6)) (.inv 0 46 (sg 1000 [bv 1006 45,bv 1005 44,bv 1004 43,bg 1003 42,bv 1002 41,bv 1001 13,bt 1007 (.lit 0),bg 1000 12]) (.fresh 46 (.fresh 47 (.fresh 48 (.fresh 49 (.fresh 50 (.fresh 51 (.fresh 52 (.fresh 53 (.hyp 0 46 (.br (.cmp .lss (.var 53) (.var 6))
 (.need (.cmp .leq (.lit 0) (.var 53)) (.need (.cmp .lss (.var 53) (.dlen (.var 8))) (.fresh 54 (.pre 5 qoJ (.both (.fresh 55 (.fresh 56 (.fresh 57 (.fresh 58 (.fresh 59 (.post 5 0 qoJ 55 (.back 0 46 (sg 1000 [bv 1006 59,bv 1005 58,bv 1004 57,bg 1003 56,bv 1002 55,bv 1001 47,bt 1007 (.arith .add .i64 (.var 53) (.lit 1)),bg 1000 46])))))))) .top)))))
 (.pre 6 qkm (.both (.post 6 0 qkm 54 (.stuck 7 0 0)) (.both (.fresh 54 (.fresh 55 (.fresh 56 (.fresh 57 (.post 6 1 qkm 54 (.ret 1 (sg 10 [bv 13 56,bv 12 55,bv 11 50,bg 10 54]))))))) .top))))))))))))))))))))) .top)))))))) .top)))))))) .top)))))))) .top)))))))) .top)))))))) .top))))))) .top))))) .top)))
theorem qxc:qk ⟨Tryz.prog,qdG,[qbX,qbF,u8C,qjb,qg8,qeR,qfd],[qrm]⟩ 100000 Tryz.f73 = qo1:=by kernel_rfl
theorem q27 (hd:∀ c ∈ ([qbX,qbF,u8C,qjb,qg8,qeR,qfd]:List Ctr),c.ok Tryz.prog) (h:∀ ρ:Env,ρ.good->(qdG).pre ρ->qo1.den ⟨Tryz.prog,qdG,[qbX,qbF,u8C,qjb,qg8,qeR,qfd],[qrm]⟩ ρ):(qdG).ok Tryz.prog :=
 qf Tryz.func73 (fun a w=>Tryz.call73 a w) hd 100000 (fun ρ hg hp=>by rw [qxc]; exact h ρ hg hp)
@[simp] def qnL:Sg:=sg 0 [bv 8 9,bv 7 8,bv 1 1,bv 6 7,bv 5 6,bg 4 5,bv 3 4,bv 2 2,bg 0 0]
@[simp] def qkg:Sg:=sg 0 [bv 7 11,bv 5 9,bv 4 8,bv 3 7,bv 2 6,bt 1 (.lit 0),bg 0 5,bg 6 10]
@[simp] def qw7:Sg:=sg 0 [bv 8 11,bv 6 35,bv 5 36,bv 4 35,bt 3 (.dlen (.var 36)),bt 2 (.lit 0),bg 1 34,bt 0 (.icell (.var 29) (.var 26) 0),bg 7 10]
@[simp] def qvl:Sg:=sg 0 [bv 8 11,bv 6 33,bv 5 34,bv 4 33,bt 3 (.dlen (.var 34)),bt 2 (.lit 0),bg 1 32,bt 0 (.icell (.var 27) (.var 24) 0),bg 7 10]
def quk:Out:=(.fresh 12 (.br (.and (.cmp .eql (.dlen (.var 1)) (.lit 0)) (.isnil 0))
 (.ret 0 (sg 12 [bv 13 1,bt 12 (.lit 1)]))
 (.pre 0 (sg 0 [bv 2 4,bv 1 3,bv 0 2]) (.both (.fresh 13 (.post 0 0 (sg 0 [bv 2 4,bv 1 3,bv 0 2]) 13 (.br (.not (.var 13))
 (.ret 0 (sg 12 [bv 13 1,bt 12 (.lit 2)]))
 (.pre 1 qnL (.both (.fresh 14 (.fresh 15 (.post 1 0 qnL 14 (.br (.cmp .neq (.var 14) (.lit 0))
 (.ret 0 (sg 12 [bv 13 15,bv 12 14]))
 (.need (.cmp .leq (.lit 0) (.var 6)) (.pre 2 qkg (.both (.fresh 16 (.post 2 0 qkg 16 (.fresh 17 (.pack [] 18 (.need (.cmp .eql (.var 4) (.lit 0)) (.inv 0 19 (sg 1000 [bg 1011 18,bt 1008 .dnil,bt 1007 .dnil,bt 1006 (.lit 0),(1004,.nil),bt 1003 (r8 16),bv 1010 15,bt 1005 (.lit 0),bg 1002 17,bt 1009 (.lit 0),(1001,.nil),bg 1000 12]) (.fresh 19 (.fresh 20 (.fresh 21 (.fresh 22 (.fresh 23 (.fresh 24 (.fresh 25 (.fresh 26 (.fresh 27 (.fresh 28 (.fresh 29 (.fresh 30 (.hyp 0 19 (.br (.cmp .lss (.var 24) (.var 4))
 (.need (.cmp .leq (.lit 0) (.var 24)) (.need (.cmp .lss (.var 24) (.dlen (.var 27))) (.fresh 31 (.both (.viewL (.vcell (.var 27) (.var 24) 1) [CK.int .u8] [30] 32 (.pre 3 qvl (.both (.fresh 35 (.post 3 0 qvl 35 (.both (.fresh 36 (.both (.need (.cmp .eql (.var 24) (.dlen (.var 26))) (.need (.cmp .leq (.tims (.lit 32) (.plus (.var 24) (.lit 1))) (.lit 140737488355328)) (.fresh 37 (.fresh 38 (.both (.both (.pack [.cells 36 24 [(x8 0 35),(x8 1 35),(x8 2 35),(x8 3 35),(x8 4 35),(x8 5 35),(x8 6 35),(x8 7 35),(x8 8 35),(x8 9 35),(x8 10 35),(x8 11 35),(x8 12 35),(x8 13 35),(x8 14 35),(x8 15 35),(x8 16 35),(x8 17 35),(x8 18 35),(x8 19 35),(x8 20 35),(x8 21 35),(x8 22 35),(x8 23 35),(x8 24 35),(x8 25 35),(x8 26 35),(x8 27 35),(x8 28 35),(x8 29 35),(x8 30 35),(x8 31 35)],.cells 31 86 [(.vint .i64 (.icell (.var 27) (.var 24) 0)),(.vcell (.var 27) (.var 24) 1)],.abs 30 2] 39 (.need (.cmp .eql (.arith .add .i64 (.var 24) (.lit 1)) (.plus (.var 24) (.lit 1))) (.back 0 19 (sg 1000 [bg 1011 39,bv 1008 27,bt 1007 (.dapp (.var 26) (r8 35)),bv 1006 38,bg 1004 37,bt 1003 (r8 22),bv 1010 29,bt 1005 (.arith .add .i64 (.var 24) (.lit 1)),bg 1002 21,bv 1009 28,bg 1001 20,bg 1000 19])))) .top) .top))))) .top)) .top))) .top))) .top))))
 (.pack [.cells 19 27 [(.vint .i64 (.var 2)),(.vint .i64 (.var 3)),(.vint .i64 (.var 4)),(.vint .i64 (.var 6)),(x8 0 22),(x8 1 22),(x8 2 22),(x8 3 22),(x8 4 22),(x8 5 22),(x8 6 22),(x8 7 22),(x8 8 22),(x8 9 22),(x8 10 22),(x8 11 22),(x8 12 22),(x8 13 22),(x8 14 22),(x8 15 22),(x8 16 22),(x8 17 22),(x8 18 22),(x8 19 22),(x8 20 22),(x8 21 22),(x8 22 22),(x8 23 22),(x8 24 22),(x8 25 22),(x8 26 22),(x8 27 22),(x8 28 22),(x8 29 22),(x8 30 22),(x8 31 22),(.vslice 23 (.lit 0) (.var 24) (.var 25) 32)],.cells 21 27 [(.vint .i64 (.var 2)),(.vint .i64 (.var 3)),(.vint .i64 (.var 4)),(.vint .i64 (.var 6)),(x8 0 22),(x8 1 22),(x8 2 22),(x8 3 22),(x8 4 22),(x8 5 22),(x8 6 22),(x8 7 22),(x8 8 22),(x8 9 22),(x8 10 22),(x8 11 22),(x8 12 22),(x8 13 22),(x8 14 22),(x8 15 22),(x8 16 22),(x8 17 22),(x8 18 22),(x8 19 22),(x8 20 22),(x8 21 22),(x8 22 22),(x8 23 22),(x8 24 22),(x8 25 22),(x8 26 22),(x8 27 22),(x8 28 22),(x8 29 22),(x8 30 22),(x8 31 22),(.vslice 23 (.lit 0) (.var 24) (.var 25) 32)],.abs 30 2] 31 (.need (.cmp .eql (.var 4) (.var 24)) (.ret 1 (sg 12 [bg 20 31,bv 19 27,bv 18 26,bv 17 29,bv 16 28,bg 15 20,bv 14 25,bg 13 23,bt 12 (r8 22)])))))))))))))))))))))))) .top))))))) (.both (.fresh 14 (.fresh 15 (.fresh 16 (.fresh 17 (.fresh 18 (.post 1 1 qnL 14 (.need (.cmp .leq (.lit 0) (.var 6)) (.pre 2 qkg (.both (.fresh 19 (.post 2 0 qkg 19 (.fresh 20 (.need (.cmp .leq (.lit 0) (.var 4)) (.inv 0 21 (sg 1000 [bg 1011 18,bv 1008 17,bt 1007 .dnil,bt 1006 (.lit 0),(1004,.nil),bt 1003 (r8 19),bv 1010 16,bt 1005 (.lit 0),bg 1002 20,bv 1009 15,bg 1001 14,bg 1000 12]) (.fresh 21 (.fresh 22 (.fresh 23 (.fresh 24 (.fresh 25 (.fresh 26 (.fresh 27 (.fresh 28 (.fresh 29 (.fresh 30 (.fresh 31 (.fresh 32 (.hyp 0 21 (.br (.cmp .lss (.var 26) (.var 4))
 (.need (.cmp .leq (.lit 0) (.var 26)) (.need (.cmp .lss (.var 26) (.dlen (.var 29))) (.fresh 33 (.both (.viewL (.vcell (.var 29) (.var 26) 1) [CK.int .u8] [32] 34 (.pre 3 qw7 (.both (.fresh 37 (.post 3 0 qw7 37 (.both (.fresh 38 (.both (.need (.cmp .eql (.var 26) (.dlen (.var 28))) (.need (.cmp .leq (.tims (.lit 32) (.plus (.var 26) (.lit 1))) (.lit 140737488355328)) (.fresh 39 (.fresh 40 (.both (.both (.pack [.cells 38 24 [(x8 0 37),(x8 1 37),(x8 2 37),(x8 3 37),(x8 4 37),(x8 5 37),(x8 6 37),(x8 7 37),(x8 8 37),(x8 9 37),(x8 10 37),(x8 11 37),(x8 12 37),(x8 13 37),(x8 14 37),(x8 15 37),(x8 16 37),(x8 17 37),(x8 18 37),(x8 19 37),(x8 20 37),(x8 21 37),(x8 22 37),(x8 23 37),(x8 24 37),(x8 25 37),(x8 26 37),(x8 27 37),(x8 28 37),(x8 29 37),(x8 30 37),(x8 31 37)],.cells 33 86 [(.vint .i64 (.icell (.var 29) (.var 26) 0)),(.vcell (.var 29) (.var 26) 1)],.abs 32 2] 41 (.need (.cmp .eql (.arith .add .i64 (.var 26) (.lit 1)) (.plus (.var 26) (.lit 1))) (.back 0 21 (sg 1000 [bg 1011 41,bv 1008 29,bt 1007 (.dapp (.var 28) (r8 37)),bv 1006 40,bg 1004 39,bt 1003 (r8 24),bv 1010 31,bt 1005 (.arith .add .i64 (.var 26) (.lit 1)),bg 1002 23,bv 1009 30,bg 1001 22,bg 1000 21])))) .top) .top))))) .top)) .top))) .top))) .top))))
 (.pack [.cells 21 27 [(.vint .i64 (.var 2)),(.vint .i64 (.var 3)),(.vint .i64 (.var 4)),(.vint .i64 (.var 6)),(x8 0 24),(x8 1 24),(x8 2 24),(x8 3 24),(x8 4 24),(x8 5 24),(x8 6 24),(x8 7 24),(x8 8 24),(x8 9 24),(x8 10 24),(x8 11 24),(x8 12 24),(x8 13 24),(x8 14 24),(x8 15 24),(x8 16 24),(x8 17 24),(x8 18 24),(x8 19 24),(x8 20 24),(x8 21 24),(x8 22 24),(x8 23 24),(x8 24 24),(x8 25 24),(x8 26 24),(x8 27 24),(x8 28 24),(x8 29 24),(x8 30 24),(x8 31 24),(.vslice 25 (.lit 0) (.var 26) (.var 27) 32)],.cells 23 27 [(.vint .i64 (.var 2)),(.vint .i64 (.var 3)),(.vint .i64 (.var 4)),(.vint .i64 (.var 6)),(x8 0 24),(x8 1 24),(x8 2 24),(x8 3 24),(x8 4 24),(x8 5 24),(x8 6 24),(x8 7 24),(x8 8 24),(x8 9 24),(x8 10 24),(x8 11 24),(x8 12 24),(x8 13 24),(x8 14 24),(x8 15 24),(x8 16 24),(x8 17 24),(x8 18 24),(x8 19 24),(x8 20 24),(x8 21 24),(x8 22 24),(x8 23 24),(x8 24 24),(x8 25 24),(x8 26 24),(x8 27 24),(x8 28 24),(x8 29 24),(x8 30 24),(x8 31 24),(.vslice 25 (.lit 0) (.var 26) (.var 27) 32)],.abs 32 2] 33 (.need (.cmp .eql (.var 4) (.var 26)) (.ret 1 (sg 12 [bg 20 33,bv 19 29,bv 18 28,bv 17 31,bv 16 30,bg 15 22,bv 14 27,bg 13 25,bt 12 (r8 24)]))))))))))))))))))))))) .top))))))))) .top)))))) .top))))
theorem q2x:qk ⟨Tryz.prog,qgG,[qca,qcj,qaT,qbp],[qzF]⟩ 100000 Tryz.f43 = quk:=by kernel_rfl
theorem qru (hd:∀ c ∈ ([qca,qcj,qaT,qbp]:List Ctr),c.ok Tryz.prog) (h:∀ ρ:Env,ρ.good->(qgG).pre ρ->quk.den ⟨Tryz.prog,qgG,[qca,qcj,qaT,qbp],[qzF]⟩ ρ):(qgG).ok Tryz.prog :=
 qf Tryz.func43 (fun a w=>Tryz.call43 a w) hd 100000 (fun ρ hg hp=>by rw [q2x]; exact h ρ hg hp)
end Go.Proofs

set_option linter.unusedSimpArgs false
set_option linter.unusedVariables false
set_option maxRecDepth 100000
namespace Go.Proofs
open Go Go.Eng

def qld:Out:=(.br (.cmp .leq (.lit 1) (.var 0))
 (.br (.cmp .leq (.var 0) (.var 1))
 (.ret 0 (sg 2 [bt 2 (.cmp .leq (.var 1) (.lit 255))]))
 (.ret 0 (sg 2 [bt 2 (.bl false)])))
 (.ret 0 (sg 2 [bt 2 (.bl false)])))
theorem qwh:qk ⟨Tryz.prog,qbq,[],[]⟩ 100000 Tryz.f109 = qld:=by kernel_rfl
theorem q0W (hd:∀ c ∈ ([]:List Ctr),c.ok Tryz.prog) (h:∀ ρ:Env,ρ.good->(qbq).pre ρ->qld.den ⟨Tryz.prog,qbq,[],[]⟩ ρ):(qbq).ok Tryz.prog :=
 qf Tryz.func109 (fun a w=>Tryz.call109 a w) hd 100000 (fun ρ hg hp=>by rw [qwh]; exact h ρ hg hp)
def qlU:Out:=(.br (.cmp .lss (.var 0) (.lit 1))
 (.ret 0 (sg 2 [bt 3 (.lit 2),bt 2 (.lit 0)]))
 (.br (.cmp .gtr (.var 0) (.lit 255))
 (.ret 0 (sg 2 [bt 3 (.lit 2),bt 2 (.lit 0)]))
 (.br (.cmp .lss (.var 1) (.lit 0))
 (.ret 0 (sg 2 [bt 3 (.lit 2),bt 2 (.lit 0)]))
 (.br (.cmp .gtr (.var 1) (.lit 8192))
 (.ret 0 (sg 2 [bt 3 (.lit 2),bt 2 (.lit 0)]))
 (.need (.cmp .neq (.var 0) (.lit 0)) (.ret 0 (sg 2 [bt 3 (.lit 0),bt 2 (.arith .quo .i64 (.arith .sub .i64 (.arith .add .i64 (.var 1) (.var 0)) (.lit 1)) (.var 0))])))))))
theorem qwo:qk ⟨Tryz.prog,qby,[],[]⟩ 100000 Tryz.f99 = qlU:=by kernel_rfl
theorem qz5 (hd:∀ c ∈ ([]:List Ctr),c.ok Tryz.prog) (h:∀ ρ:Env,ρ.good->(qby).pre ρ->qlU.den ⟨Tryz.prog,qby,[],[]⟩ ρ):(qby).ok Tryz.prog :=
 qf Tryz.func99 (fun a w=>Tryz.call99 a w) hd 100000 (fun ρ hg hp=>by rw [qwo]; exact h ρ hg hp)
def qoj:Out:=(.fresh 2 (.need (.cmp .leq (.lit 0) (.arith .mul .i64 (.var 0) (.var 1))) (.need (.cmp .leq (.tims (.lit 1) (.arith .mul .i64 (.var 0) (.var 1))) (.lit 281474976710656)) (.fresh 3 (.ret 0 (sg 2 [bt 5 (.drep (.arith .mul .i64 (.var 0) (.var 1)) (.rcons (.vint .u8 (.lit 0)) .rnil)),bt 4 (.arith .mul .i64 (.var 0) (.var 1)),bt 3 (.arith .mul .i64 (.var 0) (.var 1)),bg 2 3]))))))
theorem qxz:qk ⟨Tryz.prog,qaU,[],[]⟩ 100000 Tryz.f165 = qoj:=by kernel_rfl
theorem q2o (hd:∀ c ∈ ([]:List Ctr),c.ok Tryz.prog) (h:∀ ρ:Env,ρ.good->(qaU).pre ρ->qoj.den ⟨Tryz.prog,qaU,[],[]⟩ ρ):(qaU).ok Tryz.prog :=
 qf Tryz.func165 (fun a w=>Tryz.call165 a w) hd 100000 (fun ρ hg hp=>by rw [qxz]; exact h ρ hg hp)
def qrO:Out:=(.fresh 8 (.need (.cmp .leq (.lit 0) (.var 3)) (.need (.cmp .leq (.lit 0) (.var 4)) (.need (.cmp .leq (.lit 0) (.arith .mul .i64 (.var 7) (.var 1))) (.need (.cmp .leq (.arith .mul .i64 (.var 7) (.var 1)) (.arith .mul .i64 (.arith .add .i64 (.var 7) (.lit 1)) (.var 1))) (.need (.cmp .leq (.arith .mul .i64 (.arith .add .i64 (.var 7) (.lit 1)) (.var 1)) (.var 4)) (.ret 0 (sg 8 [bt 10 (.minus (.arith .mul .i64 (.arith .add .i64 (.var 7) (.lit 1)) (.var 1)) (.arith .mul .i64 (.var 7) (.var 1))),bt 9 (.minus (.arith .mul .i64 (.arith .add .i64 (.var 7) (.lit 1)) (.var 1)) (.arith .mul .i64 (.var 7) (.var 1))),bt 8 (.ife (.arith .mul .i64 (.arith .add .i64 (.var 7) (.lit 1)) (.var 1)) (.arith .mul .i64 (.var 7) (.var 1)) (.lit 0) (.arith .mul .i64 (.var 7) (.var 1)))]))))))))
theorem q1o:qk ⟨Tryz.prog,qb5,[],[]⟩ 100000 Tryz.f123 = qrO:=by kernel_rfl
theorem q5D (hd:∀ c ∈ ([]:List Ctr),c.ok Tryz.prog) (h:∀ ρ:Env,ρ.good->(qb5).pre ρ->qrO.den ⟨Tryz.prog,qb5,[],[]⟩ ρ):(qb5).ok Tryz.prog :=
 qf Tryz.func123 (fun a w=>Tryz.call123 a w) hd 100000 (fun ρ hg hp=>by rw [q1o]; exact h ρ hg hp)
def qla:Out:=(.fresh 7 (.br (.cmp .geq (.var 0) (.lit 1))
 (.br (.cmp .leq (.var 0) (.lit 255))
 (.br (.cmp .geq (.var 1) (.lit 1))
 (.br (.cmp .leq (.var 1) (.lit 255))
 (.need (.cmp .leq (.lit 0) (.var 3)) (.ret 0 (sg 7 [bt 7 (.cmp .eql (.var 3) (.arith .mul .i64 (.var 0) (.var 1)))])))
 (.ret 0 (sg 7 [bt 7 (.bl false)])))
 (.ret 0 (sg 7 [bt 7 (.bl false)])))
 (.ret 0 (sg 7 [bt 7 (.bl false)])))
 (.ret 0 (sg 7 [bt 7 (.bl false)]))))
theorem qtI:qk ⟨Tryz.prog,qbu,[],[]⟩ 100000 Tryz.f164 = qla:=by kernel_rfl
theorem qzJ (hd:∀ c ∈ ([]:List Ctr),c.ok Tryz.prog) (h:∀ ρ:Env,ρ.good->(qbu).pre ρ->qla.den ⟨Tryz.prog,qbu,[],[]⟩ ρ):(qbu).ok Tryz.prog :=
 qf Tryz.func164 (fun a w=>Tryz.call164 a w) hd 100000 (fun ρ hg hp=>by rw [qtI]; exact h ρ hg hp)
def qlT:Out:=(.fresh 7 (.fresh 8 (.both (.fresh 9 (.both (.need (.cmp .leq (.lit 0) (.var 3)) (.need (.cmp .leq (.var 3) (.dlen (.var 5))) (.need (.cmp .leq (.tims (.lit 1) (.var 3)) (.lit 140737488355328)) (.fresh 10 (.fresh 11 (.both (.both (.ret 0 (sg 7 [bt 9 (.dtake (.var 5) (.var 3)),bv 8 11,bg 7 10])) .top) .top)))))) .top)) .top)))
theorem qvu:qk ⟨Tryz.prog,qeq,[],[]⟩ 100000 Tryz.f168 = qlT:=by kernel_rfl
theorem qz4 (hd:∀ c ∈ ([]:List Ctr),c.ok Tryz.prog) (h:∀ ρ:Env,ρ.good->(qeq).pre ρ->qlT.den ⟨Tryz.prog,qeq,[],[]⟩ ρ):(qeq).ok Tryz.prog :=
 qf Tryz.func168 (fun a w=>Tryz.call168 a w) hd 100000 (fun ρ hg hp=>by rw [qvu]; exact h ρ hg hp)
def qrx:Out:=(.br (.cmp .eql (.var 14) (.lit 0))
 (.ret 0 (sg 15 [bv 16 6,bv 15 1]))
 (.need (.cmp .leq (.lit 0) (.var 10)) (.inv 0 15 (sg 1000 [bv 1002 6,bv 1001 1,bt 1000 (.lit 0)]) (.fresh 15 (.fresh 16 (.fresh 17 (.hyp 0 15 (.br (.cmp .lss (.var 15) (.var 10))
 (.need (.cmp .leq (.lit 0) (.var 15)) (.need (.cmp .leq (.lit 0) (.var 9)) (.need (.cmp .leq (.lit 0) (.plus (.var 9) (.var 15))) (.need (.cmp .lss (.plus (.var 9) (.var 15)) (.dlen (.var 12))) (.need (.cmp .lss (.var 15) (.var 4)) (.need (.cmp .leq (.lit 0) (.var 3)) (.need (.cmp .leq (.lit 0) (.plus (.var 3) (.var 15))) (.need (.cmp .lss (.plus (.var 3) (.var 15)) (.dlen (.var 17))) (.both (.pre 0 (sg 0 [bv 1 16,bt 3 (.icell (.var 12) (.plus (.var 9) (.var 15)) 0),bv 2 14,bg 0 0]) (.both (.fresh 18 (.fresh 19 (.post 0 0 (sg 0 [bv 1 16,bt 3 (.icell (.var 12) (.plus (.var 9) (.var 15)) 0),bv 2 14,bg 0 0]) 18 (.both (.back 0 15 (sg 1000 [bt 1002 (.dput (.var 17) (.plus (.var 3) (.var 15)) 0 (.rcons (.vint .u8 (.arith .xor .u8 (.icell (.var 17) (.plus (.var 3) (.var 15)) 0) (.var 18))) .rnil)),bv 1001 19,bt 1000 (.arith .add .i64 (.var 15) (.lit 1))])) .top)))) .top)) .top)))))))))
 (.ret 0 (sg 15 [bv 16 17,bv 15 16]))))))))))
theorem qzX:qk ⟨Tryz.prog,qb4,[qdT],[qt5]⟩ 100000 Tryz.f124 = qrx:=by kernel_rfl
theorem q4G (hd:∀ c ∈ ([qdT]:List Ctr),c.ok Tryz.prog) (h:∀ ρ:Env,ρ.good->(qb4).pre ρ->qrx.den ⟨Tryz.prog,qb4,[qdT],[qt5]⟩ ρ):(qb4).ok Tryz.prog :=
 qf Tryz.func124 (fun a w=>Tryz.call124 a w) hd 100000 (fun ρ hg hp=>by rw [qzX]; exact h ρ hg hp)
def qjf:Out:=(.br (.cmp .eql (.var 11) (.lit 0))
 (.ret 0 (sg 12 [bv 13 6,bv 12 1]))
 (.need (.cmp .leq (.lit 0) (.var 9)) (.inv 0 12 (sg 1000 [bv 1002 6,bv 1001 1,bt 1000 (.lit 0)]) (.fresh 12 (.fresh 13 (.fresh 14 (.hyp 0 12 (.br (.cmp .lss (.var 12) (.var 9))
 (.need (.cmp .leq (.lit 0) (.var 12)) (.need (.cmp .leq (.lit 0) (.var 8)) (.need (.cmp .leq (.lit 0) (.plus (.var 8) (.var 12))) (.need (.cmp .lss (.plus (.var 8) (.var 12)) (.dlen (.var 14))) (.need (.cmp .lss (.var 12) (.var 4)) (.need (.cmp .leq (.lit 0) (.var 3)) (.need (.cmp .leq (.lit 0) (.plus (.var 3) (.var 12))) (.need (.cmp .lss (.plus (.var 3) (.var 12)) (.dlen (.var 14))) (.both (.pre 0 (sg 0 [bv 1 13,bt 3 (.icell (.var 14) (.plus (.var 8) (.var 12)) 0),bv 2 11,bg 0 0]) (.both (.fresh 15 (.fresh 16 (.post 0 0 (sg 0 [bv 1 13,bt 3 (.icell (.var 14) (.plus (.var 8) (.var 12)) 0),bv 2 11,bg 0 0]) 15 (.both (.back 0 12 (sg 1000 [bt 1002 (.dput (.var 14) (.plus (.var 3) (.var 12)) 0 (.rcons (.vint .u8 (.arith .xor .u8 (.icell (.var 14) (.plus (.var 3) (.var 12)) 0) (.var 15))) .rnil)),bv 1001 16,bt 1000 (.arith .add .i64 (.var 12) (.lit 1))])) .top)))) .top)) .top)))))))))
 (.ret 0 (sg 12 [bv 13 14,bv 12 13]))))))))))
theorem qqQ:qk ⟨Tryz.prog,qeS,[qdT],[qrQ]⟩ 100000 Tryz.f124 = qjf:=by kernel_rfl
theorem qtY (hd:∀ c ∈ ([qdT]:List Ctr),c.ok Tryz.prog) (h:∀ ρ:Env,ρ.good->(qeS).pre ρ->qjf.den ⟨Tryz.prog,qeS,[qdT],[qrQ]⟩ ρ):(qeS).ok Tryz.prog :=
 qf Tryz.func124 (fun a w=>Tryz.call124 a w) hd 100000 (fun ρ hg hp=>by rw [qqQ]; exact h ρ hg hp)
def qqC:Out:=(.need (.cmp .leq (.lit 0) (.var 4)) (.inv 0 9 (sg 1000 [bv 1002 6,bv 1001 1,bt 1000 (.lit 0)]) (.fresh 9 (.fresh 10 (.fresh 11 (.hyp 0 9 (.br (.cmp .lss (.var 9) (.var 4))
 (.need (.cmp .leq (.lit 0) (.var 9)) (.need (.cmp .leq (.lit 0) (.var 3)) (.need (.cmp .leq (.lit 0) (.plus (.var 3) (.var 9))) (.need (.cmp .lss (.plus (.var 3) (.var 9)) (.dlen (.var 11))) (.pre 0 (sg 0 [bv 1 10,bv 3 8,bt 2 (.icell (.var 11) (.plus (.var 3) (.var 9)) 0),bg 0 0]) (.both (.fresh 12 (.fresh 13 (.post 0 0 (sg 0 [bv 1 10,bv 3 8,bt 2 (.icell (.var 11) (.plus (.var 3) (.var 9)) 0),bg 0 0]) 12 (.back 0 9 (sg 1000 [bt 1002 (.dput (.var 11) (.plus (.var 3) (.var 9)) 0 (.rcons (.vint .u8 (.var 12)) .rnil)),bv 1001 13,bt 1000 (.arith .add .i64 (.var 9) (.lit 1))]))))) .top))))))
 (.ret 0 (sg 9 [bv 10 11,bv 9 10])))))))))
theorem qzP:qk ⟨Tryz.prog,qeU,[qdT],[qvd]⟩ 100000 Tryz.f185 = qqC:=by kernel_rfl
theorem q49 (hd:∀ c ∈ ([qdT]:List Ctr),c.ok Tryz.prog) (h:∀ ρ:Env,ρ.good->(qeU).pre ρ->qqC.den ⟨Tryz.prog,qeU,[qdT],[qvd]⟩ ρ):(qeU).ok Tryz.prog :=
 qf Tryz.func185 (fun a w=>Tryz.call185 a w) hd 100000 (fun ρ hg hp=>by rw [qzP]; exact h ρ hg hp)
def qrG:Out:=(.br (.and (.cmp .eql (.dlen (.var 1)) (.lit 0)) (.isnil 0))
 (.ret 0 (sg 3 [bv 5 1,bt 4 (.lit 1),bt 3 (.lit 0)]))
 (.br (.cmp .eql (.var 2) (.lit 0))
 (.ret 0 (sg 3 [bv 5 1,bt 4 (.lit 2),bt 3 (.lit 0)]))
 (.need (.cmp .lss (.lit 0) (.dlen (.var 1))) (.pre 0 (sg 0 [bv 1 1,bg 0 0]) (.both (.fresh 3 (.post 0 0 (sg 0 [bv 1 1,bg 0 0]) 3 (.need (.cmp .lss (.lit 0) (.dlen (.var 3))) (.need (.cmp .leq (.lit 0) (.var 2)) (.need (.cmp .lss (.var 2) (.lit 256)) (.need (.cmp .leq (.lit 0) (.arith .sub .i64 (.lit 255) (.c2 (.xint 513) (.var 3) (.var 2)))) (.need (.cmp .lss (.arith .sub .i64 (.lit 255) (.c2 (.xint 513) (.var 3) (.var 2))) (.lit 510)) (.ret 0 (sg 3 [bv 5 3,bt 4 (.lit 0),bt 3 (.c2 (.xint 3) (.var 3) (.arith .sub .i64 (.lit 255) (.c2 (.xint 513) (.var 3) (.var 2))))]))))))))) .top)))))
theorem q0M:qk ⟨Tryz.prog,qeT,[qcg],[]⟩ 100000 Tryz.f184 = qrG:=by kernel_rfl
theorem q5x (hd:∀ c ∈ ([qcg]:List Ctr),c.ok Tryz.prog) (h:∀ ρ:Env,ρ.good->(qeT).pre ρ->qrG.den ⟨Tryz.prog,qeT,[qcg],[]⟩ ρ):(qeT).ok Tryz.prog :=
 qf Tryz.func184 (fun a w=>Tryz.call184 a w) hd 100000 (fun ρ hg hp=>by rw [q0M]; exact h ρ hg hp)
@[simp] def qln:T:=.arith .rem .i64 (.arith .mul .i64 (.c2 (.xint 513) (.var 4) (.var 2)) (.arith .rem .i64 (.var 3) (.lit 255))) (.lit 255)
def qqH:Out:=(.br (.and (.cmp .eql (.dlen (.var 1)) (.lit 0)) (.isnil 0))
 (.ret 0 (sg 4 [bv 5 1,bt 4 (.lit 0)]))
 (.br (.cmp .leq (.var 3) (.lit 0))
 (.ret 0 (sg 4 [bv 5 1,bt 4 (.lit 1)]))
 (.br (.cmp .eql (.var 2) (.lit 0))
 (.ret 0 (sg 4 [bv 5 1,bt 4 (.lit 0)]))
 (.need (.cmp .lss (.lit 0) (.dlen (.var 1))) (.pre 0 (sg 0 [bv 1 1,bg 0 0]) (.both (.fresh 4 (.post 0 0 (sg 0 [bv 1 1,bg 0 0]) 4 (.need (.cmp .lss (.lit 0) (.dlen (.var 4))) (.need (.cmp .leq (.lit 0) (.var 2)) (.need (.cmp .lss (.var 2) (.lit 256)) (.need (.cmp .leq (.lit 0) qln) (.need (.cmp .lss qln (.lit 510)) (.ret 0 (sg 4 [bv 5 4,bt 4 (.c2 (.xint 3) (.var 4) qln)]))))))))) .top))))))
theorem qyQ:qk ⟨Tryz.prog,qfe,[qcg],[]⟩ 100000 Tryz.f177 = qqH:=by kernel_rfl
theorem q4x (hd:∀ c ∈ ([qcg]:List Ctr),c.ok Tryz.prog) (h:∀ ρ:Env,ρ.good->(qfe).pre ρ->qqH.den ⟨Tryz.prog,qfe,[qcg],[]⟩ ρ):(qfe).ok Tryz.prog :=
 qf Tryz.func177 (fun a w=>Tryz.call177 a w) hd 100000 (fun ρ hg hp=>by rw [qyQ]; exact h ρ hg hp)
end Go.Proofs

set_option linter.unusedSimpArgs false
set_option linter.unusedVariables false
set_option maxRecDepth 100000
namespace Go.Proofs
open Go Go.Eng

def qkp:Out:=(.fresh 0 (.ret 0 (sg 0 [bt 1 (.rcons (.vint .u32 (.lit 0)) (.rcons (.vint .i32 (.lit 0)) (.rcons (.vint .u32 (.lit 0)) (.rcons (.vint .u8 (.lit 0)) (.rcons (.vint .u8 (.lit 0)) (.rcons (.vint .u8 (.lit 0)) (.rcons (.vint .u8 (.lit 0)) (.rcons (.vint .u8 (.lit 0)) (.rcons (.vint .u8 (.lit 0)) (.rcons (.vint .u8 (.lit 0)) (.rcons (.vint .u8 (.lit 0)) (.rcons (.vint .u8 (.lit 0)) (.rcons (.vint .u8 (.lit 0)) (.rcons (.vint .u8 (.lit 0)) (.rcons (.vint .u8 (.lit 0)) (.rcons (.vint .u8 (.lit 0)) (.rcons (.vint .u8 (.lit 0)) (.rcons (.vint .u8 (.lit 0)) (.rcons (.vint .u8 (.lit 0)) (.rcons (.vint .u8 (.lit 0)) (.rcons (.vint .u8 (.lit 0)) (.rcons (.vint .u8 (.lit 0)) (.rcons (.vint .u8 (.lit 0)) (.rcons (.vint .u8 (.lit 0)) (.rcons (.vint .u8 (.lit 0)) (.rcons (.vint .u8 (.lit 0)) (.rcons (.vint .u8 (.lit 0)) (.rcons (.vint .u8 (.lit 0)) (.rcons (.vint .u8 (.lit 0)) (.rcons (.vint .u8 (.lit 0)) (.rcons (.vint .u8 (.lit 0)) (.rcons (.vint .u8 (.lit 0)) (.rcons (.vint .u8 (.lit 0)) (.rcons (.vint .u8 (.lit 0)) (.rcons (.vint .u8 (.lit 0)) (.rcons (.vint .u8 (.lit 0)) (.rcons (.vint .u8 (.lit 0)) (.rcons (.vint .u8 (.lit 0)) (.rcons (.vint .u8 (.lit 0)) (.rcons (.vint .u8 (.lit 0)) (.rcons (.vint .u8 (.lit 0)) (.rcons (.vint .u8 (.lit 0)) (.rcons (.vint .u8 (.lit 0)) (.rcons (.vint .u8 (.lit 0)) (.rcons (.vint .u8 (.lit 0)) (.rcons (.vint .u8 (.lit 0)) (.rcons (.vint .u8 (.lit 0)) (.rcons (.vint .u8 (.lit 0)) (.rcons (.vint .u8 (.lit 0)) (.rcons (.vint .u8 (.lit 0)) (.rcons (.vint .u8 (.lit 0)) (.rcons (.vint .u8 (.lit 0)) (.rcons (.vint .u8 (.lit 0)) (.rcons (.vint .u8 (.lit 0)) (.rcons (.vint .u8 (.lit 0)) (.rcons (.vint .u8 (.lit 0)) (.rcons (.vint .u8 (.lit 0)) (.rcons (.vint .u8 (.lit 0)) (.rcons (.vint .u8 (.lit 0)) (.rcons (.vint .u8 (.lit 0)) (.rcons (.vint .u8 (.lit 0)) (.rcons (.vint .u8 (.lit 0)) (.rcons (.vint .u8 (.lit 0)) (.rcons (.vint .u8 (.lit 0)) (.rcons (.vint .u8 (.lit 0)) (.rcons (.vint .u8 (.lit 0)) (.rcons (.vint .u8 (.lit 0)) (.rcons (.vint .u8 (.lit 0)) (.rcons (.vint .u8 (.lit 0)) (.rcons (.vint .u8 (.lit 0)) (.rcons (.vint .u8 (.lit 0)) (.rcons (.vint .u8 (.lit 0)) (.rcons (.vint .u8 (.lit 0)) (.rcons (.vint .u8 (.lit 0)) (.rcons (.vint .u8 (.lit 0)) (.rcons (.vint .u8 (.lit 0)) (.rcons (.vint .u8 (.lit 0)) (.rcons (.vint .u8 (.lit 0)) (.rcons (.vint .u8 (.lit 0)) (.rcons (.vint .u8 (.lit 0)) (.rcons (.vint .u8 (.lit 0)) (.rcons (.vint .u8 (.lit 0)) (.rcons (.vint .u8 (.lit 0)) (.rcons (.vint .u8 (.lit 0)) (.rcons (.vint .u8 (.lit 0)) (.rcons (.vint .u8 (.lit 0)) (.rcons (.vint .u8 (.lit 0)) (.rcons (.vint .u8 (.lit 0)) (.rcons (.vint .u8 (.lit 0)) (.rcons (.vint .u8 (.lit 0)) (.rcons (.vint .u8 (.lit 0)) (.rcons (.vint .u8 (.lit 0)) (.rcons (.vint .u8 (.lit 0)) (.rcons (.vint .u8 (.lit 0)) (.rcons (.vint .u8 (.lit 0)) (.rcons (.vint .u8 (.lit 0)) (.rcons (.vint .u8 (.lit 0)) (.rcons (.vint .u8 (.lit 0)) (.rcons (.vint .u8 (.lit 0)) (.rcons (.vint .u8 (.lit 0)) (.rcons (.vint .u8 (.lit 0)) (.rcons (.vint .u8 (.lit 0)) (.rcons (.vint .u8 (.lit 0)) (.rcons (.vint .u8 (.lit 0)) (.rcons (.vint .u8 (.lit 0)) (.rcons (.vint .u8 (.lit 0)) (.rcons (.vint .u8 (.lit 0)) (.rcons (.vint .u8 (.lit 0)) (.rcons (.vint .u8 (.lit 0)) (.rcons (.vint .u8 (.lit 0)) (.rcons (.vint .u8 (.lit 0)) (.rcons (.vint .u8 (.lit 0)) (.rcons (.vint .u8 (.lit 0)) (.rcons (.vint .u8 (.lit 0)) (.rcons (.vint .u8 (.lit 0)) (.rcons (.vint .u8 (.lit 0)) (.rcons (.vint .u8 (.lit 0)) (.rcons (.vint .u8 (.lit 0)) (.rcons (.vint .u8 (.lit 0)) (.rcons (.vint .u8 (.lit 0)) (.rcons (.vint .u8 (.lit 0)) (.rcons (.vint .u8 (.lit 0)) (.rcons (.vint .u8 (.lit 0)) (.rcons (.vint .u8 (.lit 0)) (.rcons (.vint .u8 (.lit 0)) (.rcons (.vint .u8 (.lit 0)) (.rcons (.vint .u8 (.lit 0)) (.rcons (.vint .u8 (.lit 0)) (.rcons (.vint .u8 (.lit 0)) (.rcons (.vint .u8 (.lit 0)) (.rcons (.vint .u8 (.lit 0)) (.rcons (.vint .u8 (.lit 0)) (.rcons (.vint .u8 (.lit 0)) (.rcons (.vint .u8 (.lit 0)) (.rcons (.vint .u8 (.lit 0)) (.rcons (.vint .u8 (.lit 0)) (.rcons (.vint .u8 (.lit 0)) (.rcons (.vint .u8 (.lit 0)) (.rcons (.vint .u8 (.lit 0)) (.rcons (.vint .u8 (.lit 0)) (.rcons (.vint .u8 (.lit 0)) (.rcons (.vint .u8 (.lit 0)) (.rcons (.vint .u8 (.lit 0)) (.rcons (.vint .u8 (.lit 0)) (.rcons (.vint .u8 (.lit 0)) (.rcons (.vint .u8 (.lit 0)) (.rcons (.vint .u8 (.lit 0)) (.rcons (.vint .u8 (.lit 0)) (.rcons (.vint .u8 (.lit 0)) (.rcons (.vint .u8 (.lit 0)) (.rcons (.vint .u8 (.lit 0)) (.rcons (.vint .u8 (.lit 0)) (.rcons (.vint .u8 (.lit 0)) (.rcons (.vint .u8 (.lit 0)) (.rcons (.vint .u8 (.lit 0)) (.rcons (.vint .u8 (.lit 0)) (.rcons (.vint .u8 (.lit 0)) (.rcons (.vint .u8 (.lit 0)) (.rcons (.vint .u8 (.lit 0)) (.rcons (.vint .u8 (.lit 0)) (.rcons (.vint .u8 (.lit 0)) (.rcons (.vint .u8 (.lit 0)) (.rcons (.vint .u8 (.lit 0)) (.rcons (.vint .u8 (.lit 0)) (.rcons (.vint .u8 (.lit 0)) (.rcons (.vint .u8 (.lit 0)) (.rcons (.vint .u8 (.lit 0)) (.rcons (.vint .u8 (.lit 0)) (.rcons (.vint .u8 (.lit 0)) (.rcons (.vint .u8 (.lit 0)) (.rcons (.vint .u8 (.lit 0)) (.rcons (.vint .u8 (.lit 0)) (.rcons (.vint .u8 (.lit 0)) (.rcons (.vint .u8 (.lit 0)) (.rcons (.vint .u8 (.lit 0)) (.rcons (.vint .u8 (.lit 0)) (.rcons (.vint .u8 (.lit 0)) (.rcons (.vint .u8 (.lit 0)) (.rcons (.vint .u8 (.lit 0)) (.rcons (.vint .u8 (.lit 0)) (.rcons (.vint .u8 (.lit 0)) (.rcons (.vint .u8 (.lit 0)) (.rcons (.vint .u8 (.lit 0)) (.rcons (.vint .u8 (.lit 0)) (.rcons (.vint .u8 (.lit 0)) (.rcons (.vint .u8 (.lit 0)) (.rcons (.vint .u8 (.lit 0)) (.rcons (.vint .u8 (.lit 0)) (.rcons (.vint .u8 (.lit 0)) (.rcons (.vint .u8 (.lit 0)) (.rcons (.vint .u8 (.lit 0)) (.rcons (.vint .u8 (.lit 0)) (.rcons (.vint .u8 (.lit 0)) (.rcons (.vint .u8 (.lit 0)) (.rcons (.vint .u8 (.lit 0)) (.rcons (.vint .u8 (.lit 0)) (.rcons (.vint .u8 (.lit 0)) (.rcons (.vint .u8 (.lit 0)) (.rcons (.vint .u8 (.lit 0)) (.rcons (.vint .u8 (.lit 0)) (.rcons (.vint .u8 (.lit 0)) (.rcons (.vint .u8 (.lit 0)) (.rcons (.vint .u8 (.lit 0)) (.rcons (.vint .u8 (.lit 0)) (.rcons (.vint .u8 (.lit 0)) (.rcons (.vint .u8 (.lit 0)) (.rcons (.vint .u8 (.lit 0)) (.rcons (.vint .u8 (.lit 0)) (.rcons (.vint .u8 (.lit 0)) (.rcons (.vint .u8 (.lit 0)) (.rcons (.vint .u8 (.lit 0)) (.rcons (.vint .u8 (.lit 0)) (.rcons (.vint .u8 (.lit 0)) (.rcons (.vint .u8 (.lit 0)) (.rcons (.vint .u8 (.lit 0)) (.rcons (.vint .u8 (.lit 0)) (.rcons (.vint .u8 (.lit 0)) (.rcons (.vint .u8 (.lit 0)) (.rcons (.vint .u8 (.lit 0)) (.rcons (.vint .u8 (.lit 0)) (.rcons (.vint .u8 (.lit 0)) (.rcons (.vint .u8 (.lit 0)) (.rcons (.vint .u8 (.lit 0)) (.rcons (.vint .u8 (.lit 0)) (.rcons (.vint .u8 (.lit 0)) (.rcons (.vint .u8 (.lit 0)) (.rcons (.vint .u8 (.lit 0)) (.rcons (.vint .u8 (.lit 0)) (.rcons (.vint .u8 (.lit 0)) (.rcons (.vint .u8 (.lit 0)) (.rcons (.vint .u8 (.lit 0)) (.rcons (.vint .u8 (.lit 0)) (.rcons (.vint .u8 (.lit 0)) (.rcons (.vint .u8 (.lit 0)) (.rcons (.vint .u8 (.lit 0)) (.rcons (.vint .u8 (.lit 0)) (.rcons (.vint .u8 (.lit 0)) (.rcons (.vint .u8 (.lit 0)) (.rcons (.vint .u8 (.lit 0)) (.rcons (.vint .u8 (.lit 0)) (.rcons (.vint .u8 (.lit 0)) (.rcons (.vint .u8 (.lit 0)) (.rcons (.vint .u8 (.lit 0)) (.rcons (.vint .u8 (.lit 0)) (.rcons (.vint .u8 (.lit 0)) (.rcons (.vint .u8 (.lit 0)) (.rcons (.vint .u8 (.lit 0)) (.rcons (.vint .u8 (.lit 0)) (.rcons (.vint .u8 (.lit 0)) (.rcons (.vint .u8 (.lit 0)) (.rcons (.vint .u8 (.lit 0)) (.rcons (.vint .u8 (.lit 0)) (.rcons (.vint .u8 (.lit 0)) (.rcons (.vint .u8 (.lit 0)) (.rcons (.vint .u8 (.lit 0)) (.rcons (.vint .u8 (.lit 0)) (.rcons (.vint .u8 (.lit 0)) (.rcons (.vint .u8 (.lit 0)) (.rcons (.vint .u8 (.lit 0)) (.rcons (.vint .u8 (.lit 0)) (.rcons (.vint .u8 (.lit 0)) (.rcons (.vint .u8 (.lit 0)) (.rcons (.vint .u8 (.lit 0)) (.rcons (.vint .u8 (.lit 0)) (.rcons (.vint .u8 (.lit 0)) (.rcons (.vint .u8 (.lit 0)) (.rcons (.vint .u8 (.lit 0)) (.rcons (.vint .u8 (.lit 0)) (.rcons (.vint .u8 (.lit 0)) (.rcons (.vint .u8 (.lit 0)) (.rcons (.vint .u8 (.lit 0)) (.rcons (.vint .u8 (.lit 0)) (.rcons (.vint .u8 (.lit 0)) (.rcons (.vint .u8 (.lit 0)) (.rcons (.vint .u8 (.lit 0)) (.rcons (.vint .u8 (.lit 0)) (.rcons (.vint .u8 (.lit 0)) (.rcons (.vint .u8 (.lit 0)) (.rcons (.vint .u8 (.lit 0)) (.rcons (.vint .u8 (.lit 0)) (.rcons (.vint .u8 (.lit 0)) (.rcons (.vint .u8 (.lit 0)) (.rcons (.vint .u8 (.lit 0)) (.rcons (.vint .u8 (.lit 0)) (.rcons (.vint .u8 (.lit 0)) (.rcons (.vint .u8 (.lit 0)) (.rcons (.vint .u8 (.lit 0)) (.rcons (.vint .u8 (.lit 0)) (.rcons (.vint .u8 (.lit 0)) (.rcons (.vint .u8 (.lit 0)) (.rcons (.vint .u8 (.lit 0)) (.rcons (.vint .u8 (.lit 0)) (.rcons (.vint .u8 (.lit 0)) (.rcons (.vint .u8 (.lit 0)) (.rcons (.vint .u8 (.lit 0)) (.rcons (.vint .u8 (.lit 0)) (.rcons (.vint .u8 (.lit 0)) (.rcons (.vint .u8 (.lit 0)) (.rcons (.vint .u8 (.lit 0)) (.rcons (.vint .u8 (.lit 0)) (.rcons (.vint .u8 (.lit 0)) (.rcons (.vint .u8 (.lit 0)) (.rcons (.vint .u8 (.lit 0)) (.rcons (.vint .u8 (.lit 0)) (.rcons (.vint .u8 (.lit 0)) (.rcons (.vint .u8 (.lit 0)) (.rcons (.vint .u8 (.lit 0)) (.rcons (.vint .u8 (.lit 0)) (.rcons (.vint .u8 (.lit 0)) (.rcons (.vint .u8 (.lit 0)) (.rcons (.vint .u8 (.lit 0)) (.rcons (.vint .u8 (.lit 0)) (.rcons (.vint .u8 (.lit 0)) (.rcons (.vint .u8 (.lit 0)) (.rcons (.vint .u8 (.lit 0)) (.rcons (.vint .u8 (.lit 0)) (.rcons (.vint .u8 (.lit 0)) (.rcons (.vint .u8 (.lit 0)) (.rcons (.vint .u8 (.lit 0)) (.rcons (.vint .u8 (.lit 0)) (.rcons (.vint .u8 (.lit 0)) (.rcons (.vint .u8 (.lit 0)) (.rcons (.vint .u8 (.lit 0)) (.rcons (.vint .u8 (.lit 0)) (.rcons (.vint .u8 (.lit 0)) (.rcons (.vint .u8 (.lit 0)) (.rcons (.vint .u8 (.lit 0)) (.rcons (.vint .u8 (.lit 0)) (.rcons (.vint .u8 (.lit 0)) (.rcons (.vint .u8 (.lit 0)) (.rcons (.vint .u8 (.lit 0)) (.rcons (.vint .u8 (.lit 0)) (.rcons (.vint .u8 (.lit 0)) (.rcons (.vint .u8 (.lit 0)) (.rcons (.vint .u8 (.lit 0)) (.rcons (.vint .u8 (.lit 0)) (.rcons (.vint .u8 (.lit 0)) (.rcons (.vint .u8 (.lit 0)) (.rcons (.vint .u8 (.lit 0)) (.rcons (.vint .u8 (.lit 0)) (.rcons (.vint .u8 (.lit 0)) (.rcons (.vint .u8 (.lit 0)) (.rcons (.vint .u8 (.lit 0)) (.rcons (.vint .u8 (.lit 0)) (.rcons (.vint .u8 (.lit 0)) (.rcons (.vint .u8 (.lit 0)) (.rcons (.vint .u8 (.lit 0)) (.rcons (.vint .u8 (.lit 0)) (.rcons (.vint .u8 (.lit 0)) (.rcons (.vint .u8 (.lit 0)) (.rcons (.vint .u8 (.lit 0)) (.rcons (.vint .u8 (.lit 0)) (.rcons (.vint .u8 (.lit 0)) (.rcons (.vint .u8 (.lit 0)) (.rcons (.vint .u8 (.lit 0)) (.rcons (.vint .u8 (.lit 0)) (.rcons (.vint .u8 (.lit 0)) (.rcons (.vint .u8 (.lit 0)) (.rcons (.vint .u8 (.lit 0)) (.rcons (.vint .u8 (.lit 0)) (.rcons (.vint .u8 (.lit 0)) (.rcons (.vint .u8 (.lit 0)) (.rcons (.vint .u8 (.lit 0)) (.rcons (.vint .u8 (.lit 0)) (.rcons (.vint .u8 (.lit 0)) (.rcons (.vint .u8 (.lit 0)) (.rcons (.vint .u8 (.lit 0)) (.rcons (.vint .u8 (.lit 0)) (.rcons (.vint .u8 (.lit 0)) (.rcons (.vint .u8 (.lit 0)) (.rcons (.vint .u8 (.lit 0)) (.rcons (.vint .u8 (.lit 0)) (.rcons (.vint .u8 (.lit 0)) (.rcons (.vint .u8 (.lit 0)) (.rcons (.vint .u8 (.lit 0)) (.rcons (.vint .u8 (.lit 0)) (.rcons (.vint .u8 (.lit 0)) (.rcons (.vint .u8 (.lit 0)) (.rcons (.vint .u8 (.lit 0)) (.rcons (.vint .u8 (.lit 0)) (.rcons (.vint .u8 (.lit 0)) (.rcons (.vint .u8 (.lit 0)) (.rcons (.vint .u8 (.lit 0)) (.rcons (.vint .u8 (.lit 0)) (.rcons (.vint .u8 (.lit 0)) (.rcons (.vint .u8 (.lit 0)) (.rcons (.vint .u8 (.lit 0)) (.rcons (.vint .u8 (.lit 0)) (.rcons (.vint .u8 (.lit 0)) (.rcons (.vint .u8 (.lit 0)) (.rcons (.vint .u8 (.lit 0)) (.rcons (.vint .u8 (.lit 0)) (.rcons (.vint .u8 (.lit 0)) (.rcons (.vint .u8 (.lit 0)) (.rcons (.vint .u8 (.lit 0)) (.rcons (.vint .u8 (.lit 0)) (.rcons (.vint .u8 (.lit 0)) (.rcons (.vint .u8 (.lit 0)) (.rcons (.vint .u8 (.lit 0)) (.rcons (.vint .u8 (.lit 0)) (.rcons (.vint .u8 (.lit 0)) (.rcons (.vint .u8 (.lit 0)) (.rcons (.vint .u8 (.lit 0)) (.rcons (.vint .u8 (.lit 0)) (.rcons (.vint .u8 (.lit 0)) (.rcons (.vint .u8 (.lit 0)) (.rcons (.vint .u8 (.lit 0)) (.rcons (.vint .u8 (.lit 0)) (.rcons (.vint .u8 (.lit 0)) (.rcons (.vint .u8 (.lit 0)) (.rcons (.vint .u8 (.lit 0)) (.rcons (.vint .u8 (.lit 0)) (.rcons (.vint .u8 (.lit 0)) (.rcons (.vint .u8 (.lit 0)) (.rcons (.vint .u8 (.lit 0)) (.rcons (.vint .u8 (.lit 0)) (.rcons (.vint .u8 (.lit 0)) (.rcons (.vint .u8 (.lit 0)) (.rcons (.vint .u8 (.lit 0)) (.rcons (.vint .u8 (.lit 0)) (.rcons (.vint .u8 (.lit 0)) (.rcons (.vint .u8 (.lit 0)) (.rcons (.vint .u8 (.lit 0)) (.rcons (.vint .u8 (.lit 0)) (.rcons (.vint .u8 (.lit 0)) (.rcons (.vint .u8 (.lit 0)) (.rcons (.vint .u8 (.lit 0)) (.rcons (.vint .u8 (.lit 0)) (.rcons (.vint .u8 (.lit 0)) (.rcons (.vint .u8 (.lit 0)) (.rcons (.vint .u8 (.lit 0)) (.rcons (.vint .u8 (.lit 0)) (.rcons (.vint .u8 (.lit 0)) (.rcons (.vint .u8 (.lit 0)) (.rcons (.vint .u8 (.lit 0)) (.rcons (.vint .u8 (.lit 0)) (.rcons (.vint .u8 (.lit 0)) (.rcons (.vint .u8 (.lit 0)) (.rcons (.vint .u8 (.lit 0)) (.rcons (.vint .u8 (.lit 0)) (.rcons (.vint .u8 (.lit 0)) (.rcons (.vint .u8 (.lit 0)) (.rcons (.vint .u8 (.lit 0)) (.rcons (.vint .u8 (.lit 0)) (.rcons (.vint .u8 (.lit 0)) (.rcons (.vint .u8 (.lit 0)) (.rcons (.vint .u8 (.lit 0)) (.rcons (.vint .u8 (.lit 0)) (.rcons (.vint .u8 (.lit 0)) (.rcons (.vint .u8 (.lit 0)) (.rcons (.vint .u8 (.lit 0)) (.rcons (.vint .u8 (.lit 0)) (.rcons (.vint .u8 (.lit 0)) (.rcons (.vint .u8 (.lit 0)) (.rcons (.vint .u8 (.lit 0)) (.rcons (.vint .u8 (.lit 0)) (.rcons (.vint .u8 (.lit 0)) (.rcons (.vint .u8 (.lit 0)) (.rcons (.vint .u8 (.lit 0)) (.rcons (.vint .u8 (.lit 0)) (.rcons (.vint .u8 (.lit 0)) (.rcons (.vint .u8 (.lit 0)) (.rcons (.vint .u8 (.lit 0)) (.rcons (.vint .u8 (.lit 0)) (.rcons (.vint .u8 (.lit 0)) (.rcons (.vint .u8 (.lit 0)) (.rcons (.vint .u8 (.lit 0)) (.rcons (.vint .u8 (.lit 0)) (.rcons (.vint .u8 (.lit 0)) (.rcons (.vint .u8 (.lit 0)) (.rcons (.vint .u8 (.lit 0)) (.rcons (.vint .u8 (.lit 0)) (.rcons (.vint .u8 (.lit 0)) (.rcons (.vint .u8 (.lit 0)) (.rcons (.vint .u8 (.lit 0)) (.rcons (.vint .u8 (.lit 0)) (.rcons (.vint .u8 (.lit 0)) (.rcons (.vint .u8 (.lit 0)) (.rcons (.vint .u8 (.lit 0)) (.rcons (.vint .u8 (.lit 0)) (.rcons (.vint .u8 (.lit 0)) (.rcons (.vint .u8 (.lit 0)) (.rcons (.vint .u8 (.lit 0)) (.rcons (.vint .u8 (.lit 0)) (.rcons (.vint .u8 (.lit 0)) (.rcons (.vint .u8 (.lit 0)) (.rcons (.vint .u8 (.lit 0)) (.rcons (.vint .u8 (.lit 0)) (.rcons (.vint .u8 (.lit 0)) (.rcons (.vint .u8 (.lit 0)) (.rcons (.vint .u8 (.lit 0)) (.rcons (.vint .u8 (.lit 0)) (.rcons (.vint .u8 (.lit 0)) (.rcons (.vint .u8 (.lit 0)) (.rcons (.vint .u8 (.lit 0)) (.rcons (.vint .u8 (.lit 0)) (.rcons (.vint .u8 (.lit 0)) (.rcons (.vint .u8 (.lit 0)) (.rcons (.vint .u8 (.lit 0)) (.rcons (.vint .u8 (.lit 0)) (.rcons (.vint .u8 (.lit 0)) (.rcons (.vint .u8 (.lit 0)) (.rcons (.vint .u8 (.lit 0)) (.rcons (.vint .u8 (.lit 0)) (.rcons (.vint .u8 (.lit 0)) (.rcons (.vint .u8 (.lit 0)) (.rcons (.vint .u8 (.lit 0)) (.rcons (.vint .u8 (.lit 0)) (.rcons (.vint .u8 (.lit 0)) (.rcons (.vint .u8 (.lit 0)) (.rcons (.vint .u8 (.lit 0)) (.rcons (.vint .u8 (.lit 0)) (.rcons (.vint .u8 (.lit 0)) (.rcons (.vint .i64 (.lit 0)) (.rcons (.vint .i64 (.lit 0)) (.rcons (.vint .i64 (.lit 0)) (.rcons (.vint .i64 (.lit 0)) (.rcons (.vint .i64 (.lit 0)) (.rcons (.vint .i64 (.lit 0)) (.rcons (.vint .i64 (.lit 0)) (.rcons (.vint .i64 (.lit 0)) (.rcons (.vint .i64 (.lit 0)) (.rcons (.vint .i64 (.lit 0)) (.rcons (.vint .i64 (.lit 0)) (.rcons (.vint .i64 (.lit 0)) (.rcons (.vint .i64 (.lit 0)) (.rcons (.vint .i64 (.lit 0)) (.rcons (.vint .i64 (.lit 0)) (.rcons (.vint .i64 (.lit 0)) (.rcons (.vint .i64 (.lit 0)) (.rcons (.vint .i64 (.lit 0)) (.rcons (.vint .i64 (.lit 0)) (.rcons (.vint .i64 (.lit 0)) (.rcons (.vint .i64 (.lit 0)) (.rcons (.vint .i64 (.lit 0)) (.rcons (.vint .i64 (.lit 0)) (.rcons (.vint .i64 (.lit 0)) (.rcons (.vint .i64 (.lit 0)) (.rcons (.vint .i64 (.lit 0)) (.rcons (.vint .i64 (.lit 0)) (.rcons (.vint .i64 (.lit 0)) (.rcons (.vint .i64 (.lit 0)) (.rcons (.vint .i64 (.lit 0)) (.rcons (.vint .i64 (.lit 0)) (.rcons (.vint .i64 (.lit 0)) (.rcons (.vint .i64 (.lit 0)) (.rcons (.vint .i64 (.lit 0)) (.rcons (.vint .i64 (.lit 0)) (.rcons (.vint .i64 (.lit 0)) (.rcons (.vint .i64 (.lit 0)) (.rcons (.vint .i64 (.lit 0)) (.rcons (.vint .i64 (.lit 0)) (.rcons (.vint .i64 (.lit 0)) (.rcons (.vint .i64 (.lit 0)) (.rcons (.vint .i64 (.lit 0)) (.rcons (.vint .i64 (.lit 0)) (.rcons (.vint .i64 (.lit 0)) (.rcons (.vint .i64 (.lit 0)) (.rcons (.vint .i64 (.lit 0)) (.rcons (.vint .i64 (.lit 0)) (.rcons (.vint .i64 (.lit 0)) (.rcons (.vint .i64 (.lit 0)) (.rcons (.vint .i64 (.lit 0)) (.rcons (.vint .i64 (.lit 0)) (.rcons (.vint .i64 (.lit 0)) (.rcons (.vint .i64 (.lit 0)) (.rcons (.vint .i64 (.lit 0)) (.rcons (.vint .i64 (.lit 0)) (.rcons (.vint .i64 (.lit 0)) (.rcons (.vint .i64 (.lit 0)) (.rcons (.vint .i64 (.lit 0)) (.rcons (.vint .i64 (.lit 0)) (.rcons (.vint .i64 (.lit 0)) (.rcons (.vint .i64 (.lit 0)) (.rcons (.vint .i64 (.lit 0)) (.rcons (.vint .i64 (.lit 0)) (.rcons (.vint .i64 (.lit 0)) (.rcons (.vint .i64 (.lit 0)) (.rcons (.vint .i64 (.lit 0)) (.rcons (.vint .i64 (.lit 0)) (.rcons (.vint .i64 (.lit 0)) (.rcons (.vint .i64 (.lit 0)) (.rcons (.vint .i64 (.lit 0)) (.rcons (.vint .i64 (.lit 0)) (.rcons (.vint .i64 (.lit 0)) (.rcons (.vint .i64 (.lit 0)) (.rcons (.vint .i64 (.lit 0)) (.rcons (.vint .i64 (.lit 0)) (.rcons (.vint .i64 (.lit 0)) (.rcons (.vint .i64 (.lit 0)) (.rcons (.vint .i64 (.lit 0)) (.rcons (.vint .i64 (.lit 0)) (.rcons (.vint .i64 (.lit 0)) (.rcons (.vint .i64 (.lit 0)) (.rcons (.vint .i64 (.lit 0)) (.rcons (.vint .i64 (.lit 0)) (.rcons (.vint .i64 (.lit 0)) (.rcons (.vint .i64 (.lit 0)) (.rcons (.vint .i64 (.lit 0)) (.rcons (.vint .i64 (.lit 0)) (.rcons (.vint .i64 (.lit 0)) (.rcons (.vint .i64 (.lit 0)) (.rcons (.vint .i64 (.lit 0)) (.rcons (.vint .i64 (.lit 0)) (.rcons (.vint .i64 (.lit 0)) (.rcons (.vint .i64 (.lit 0)) (.rcons (.vint .i64 (.lit 0)) (.rcons (.vint .i64 (.lit 0)) (.rcons (.vint .i64 (.lit 0)) (.rcons (.vint .i64 (.lit 0)) (.rcons (.vint .i64 (.lit 0)) (.rcons (.vint .i64 (.lit 0)) (.rcons (.vint .i64 (.lit 0)) (.rcons (.vint .i64 (.lit 0)) (.rcons (.vint .i64 (.lit 0)) (.rcons (.vint .i64 (.lit 0)) (.rcons (.vint .i64 (.lit 0)) (.rcons (.vint .i64 (.lit 0)) (.rcons (.vint .i64 (.lit 0)) (.rcons (.vint .i64 (.lit 0)) (.rcons (.vint .i64 (.lit 0)) (.rcons (.vint .i64 (.lit 0)) (.rcons (.vint .i64 (.lit 0)) (.rcons (.vint .i64 (.lit 0)) (.rcons (.vint .i64 (.lit 0)) (.rcons (.vint .i64 (.lit 0)) (.rcons (.vint .i64 (.lit 0)) (.rcons (.vint .i64 (.lit 0)) (.rcons (.vint .i64 (.lit 0)) (.rcons (.vint .i64 (.lit 0)) (.rcons (.vint .i64 (.lit 0)) (.rcons (.vint .i64 (.lit 0)) (.rcons (.vint .i64 (.lit 0)) (.rcons (.vint .i64 (.lit 0)) (.rcons (.vint .i64 (.lit 0)) (.rcons (.vint .i64 (.lit 0)) (.rcons (.vint .i64 (.lit 0)) (.rcons (.vint .i64 (.lit 0)) (.rcons (.vint .i64 (.lit 0)) (.rcons (.vint .i64 (.lit 0)) (.rcons (.vint .i64 (.lit 0)) (.rcons (.vint .i64 (.lit 0)) (.rcons (.vint .i64 (.lit 0)) (.rcons (.vint .i64 (.lit 0)) (.rcons (.vint .i64 (.lit 0)) (.rcons (.vint .i64 (.lit 0)) (.rcons (.vint .i64 (.lit 0)) (.rcons (.vint .i64 (.lit 0)) (.rcons (.vint .i64 (.lit 0)) (.rcons (.vint .i64 (.lit 0)) (.rcons (.vint .i64 (.lit 0)) (.rcons (.vint .i64 (.lit 0)) (.rcons (.vint .i64 (.lit 0)) (.rcons (.vint .i64 (.lit 0)) (.rcons (.vint .i64 (.lit 0)) (.rcons (.vint .i64 (.lit 0)) (.rcons (.vint .i64 (.lit 0)) (.rcons (.vint .i64 (.lit 0)) (.rcons (.vint .i64 (.lit 0)) (.rcons (.vint .i64 (.lit 0)) (.rcons (.vint .i64 (.lit 0)) (.rcons (.vint .i64 (.lit 0)) (.rcons (.vint .i64 (.lit 0)) (.rcons (.vint .i64 (.lit 0)) (.rcons (.vint .i64 (.lit 0)) (.rcons (.vint .i64 (.lit 0)) (.rcons (.vint .i64 (.lit 0)) (.rcons (.vint .i64 (.lit 0)) (.rcons (.vint .i64 (.lit 0)) (.rcons (.vint .i64 (.lit 0)) (.rcons (.vint .i64 (.lit 0)) (.rcons (.vint .i64 (.lit 0)) (.rcons (.vint .i64 (.lit 0)) (.rcons (.vint .i64 (.lit 0)) (.rcons (.vint .i64 (.lit 0)) (.rcons (.vint .i64 (.lit 0)) (.rcons (.vint .i64 (.lit 0)) (.rcons (.vint .i64 (.lit 0)) (.rcons (.vint .i64 (.lit 0)) (.rcons (.vint .i64 (.lit 0)) (.rcons (.vint .i64 (.lit 0)) (.rcons (.vint .i64 (.lit 0)) (.rcons (.vint .i64 (.lit 0)) (.rcons (.vint .i64 (.lit 0)) (.rcons (.vint .i64 (.lit 0)) (.rcons (.vint .i64 (.lit 0)) (.rcons (.vint .i64 (.lit 0)) (.rcons (.vint .i64 (.lit 0)) (.rcons (.vint .i64 (.lit 0)) (.rcons (.vint .i64 (.lit 0)) (.rcons (.vint .i64 (.lit 0)) (.rcons (.vint .i64 (.lit 0)) (.rcons (.vint .i64 (.lit 0)) (.rcons (.vint .i64 (.lit 0)) (.rcons (.vint .i64 (.lit 0)) (.rcons (.vint .i64 (.lit 0)) (.rcons (.vint .i64 (.lit 0)) (.rcons (.vint .i64 (.lit 0)) (.rcons (.vint .i64 (.lit 0)) (.rcons (.vint .i64 (.lit 0)) (.rcons (.vint .i64 (.lit 0)) (.rcons (.vint .i64 (.lit 0)) (.rcons (.vint .i64 (.lit 0)) (.rcons (.vint .i64 (.lit 0)) (.rcons (.vint .i64 (.lit 0)) (.rcons (.vint .i64 (.lit 0)) (.rcons (.vint .i64 (.lit 0)) (.rcons (.vint .i64 (.lit 0)) (.rcons (.vint .i64 (.lit 0)) (.rcons (.vint .i64 (.lit 0)) (.rcons (.vint .i64 (.lit 0)) (.rcons (.vint .i64 (.lit 0)) (.rcons (.vint .i64 (.lit 0)) (.rcons (.vint .i64 (.lit 0)) (.rcons (.vint .i64 (.lit 0)) (.rcons (.vint .i64 (.lit 0)) (.rcons (.vint .i64 (.lit 0)) (.rcons (.vint .i64 (.lit 0)) (.rcons (.vint .i64 (.lit 0)) (.rcons (.vint .i64 (.lit 0)) (.rcons (.vint .i64 (.lit 0)) (.rcons (.vint .i64 (.lit 0)) (.rcons (.vint .i64 (.lit 0)) (.rcons (.vint .i64 (.lit 0)) (.rcons (.vint .i64 (.lit 0)) (.rcons (.vint .i64 (.lit 0)) (.rcons (.vint .i64 (.lit 0)) (.rcons (.vint .i64 (.lit 0)) (.rcons (.vint .i64 (.lit 0)) (.rcons (.vint .i64 (.lit 0)) (.rcons (.vint .i64 (.lit 0)) (.rcons (.vint .i64 (.lit 0)) (.rcons (.vint .i64 (.lit 0)) (.rcons (.vint .i64 (.lit 0)) (.rcons (.vint .i64 (.lit 0)) (.rcons (.vint .i64 (.lit 0)) (.rcons (.vint .i64 (.lit 0)) (.rcons (.vint .i64 (.lit 0)) (.rcons (.vint .i64 (.lit 0)) (.rcons (.vint .i64 (.lit 0)) (.rcons (.vint .i64 (.lit 0)) (.rcons (.vint .i64 (.lit 0)) (.rcons (.vint .i64 (.lit 0)) (.rcons (.vint .i64 (.lit 0)) (.rcons (.vint .i64 (.lit 0)) (.rcons (.vint .i64 (.lit 0)) (.rcons (.vint .i64 (.lit 0)) (.rcons (.vint .i64 (.lit 0)) (.rcons (.vint .i64 (.lit 0)) (.rcons (.vint .i64 (.lit 0)) (.rcons (.vint .i64 (.lit 0)) (.rcons (.vint .i64 (.lit 0)) (.rcons (.vint .i64 (.lit 0)) (.rcons (.vint .i64 (.lit 0)) (.rcons (.vint .i64 (.lit 0)) (.rcons (.vint .i64 (.lit 0)) (.rcons (.vint .i64 (.lit 0)) (.rcons (.vint .i64 (.lit 0)) (.rcons (.vint .i64 (.lit 0)) (.rcons (.vint .i64 (.lit 0)) (.rcons (.vint .i64 (.lit 0)) (.rcons (.vint .i64 (.lit 0)) (.rcons (.vint .i64 (.lit 0)) (.rcons (.vint .i64 (.lit 0)) (.rcons (.vint .i64 (.lit 0)) (.rcons (.vint .i64 (.lit 0)) (.rcons (.vint .i64 (.lit 0)) (.rcons (.vint .i64 (.lit 0)) (.rcons (.vint .i64 (.lit 0)) .rnil))))))))))))))))))))))))))))))))))))))))))))))))))))))))))))))))))))))))))))))))))))))))))))))))))))))))))))))))))))))))))))))))))))))))))))))))))))))))))))))))))))))))))))))))))))))))))))))))))))))))))))))))))))))))))))))))))))))))))))))))))))))))))))))))))))))))))))))))))))))))))))))))))))))))))))))))))))))))))))))))))))))))))))))))))))))))))))))))))))))))))))))))))))))))))))))))))))))))))))))))))))))))))))))))))))))))))))))))))))))))))))))))))))))))))))))))))))))))))))))))))))))))))))))))))))))))))))))))))))))))))))))))))))))))))))))))))))))))))))))))))))))))))))))))))))))))))))))))))))))))))))))))))))))))))))))))))))))))))))))))))))))))))))))))))))))))))))))))))))))))))))))))))))))))))))))))))))))))))))))))))))))))))))))))))))))))))))))))))))))))))))))))),bg 0 0])))
theorem qtr:qk ⟨Tryz.prog,qbS,[],[]⟩ 100000 Tryz.f20 = qkp:=by kernel_rfl
theorem qxM (hd:∀ c ∈ ([]:List Ctr),c.ok Tryz.prog) (h:∀ ρ:Env,ρ.good->(qbS).pre ρ->qkp.den ⟨Tryz.prog,qbS,[],[]⟩ ρ):(qbS).ok Tryz.prog :=
 qf Tryz.func20 (fun a w=>Tryz.call20 a w) hd 100000 (fun ρ hg hp=>by rw [qtr]; exact h ρ hg hp)
@[simp] def qsQ:T:=.c3 (.xput 513) (.c3 (.xput 3) (.c3 (.xput 3) (.var 4) (.var 3) (.vint .u8 (.conv .u8 (.var 2)))) (.arith .add .i64 (.var 3) (.lit 255)) (.vint .u8 (.conv .u8 (.var 2)))) (.var 2) (.vint .i64 (.var 3))
def qra:Out:=(.inv 0 2 (sg 1000 [bv 1002 1,bt 1001 (.lit 0),bt 1000 (.lit 1)]) (.fresh 2 (.fresh 3 (.fresh 4 (.hyp 0 2 (.br (.cmp .lss (.var 3) (.lit 255))
 (.need (.cmp .lss (.lit 0) (.dlen (.var 4))) (.need (.cmp .leq (.lit 0) (.var 3)) (.need (.cmp .lss (.var 3) (.lit 510)) (.need (.cmp .leq (.lit 0) (.arith .add .i64 (.var 3) (.lit 255))) (.need (.cmp .lss (.arith .add .i64 (.var 3) (.lit 255)) (.lit 510)) (.need (.cmp .leq (.lit 0) (.var 2)) (.need (.cmp .lss (.var 2) (.lit 256)) (.br (.cmp .geq (.arith .shl .i64 (.var 2) (.lit 1)) (.lit 256))
 (.back 0 2 (sg 1000 [bt 1002 qsQ,bt 1001 (.arith .add .i64 (.var 3) (.lit 1)),bt 1000 (.arith .xor .i64 (.arith .shl .i64 (.var 2) (.lit 1)) (.lit 285))]))
 (.back 0 2 (sg 1000 [bt 1002 qsQ,bt 1001 (.arith .add .i64 (.var 3) (.lit 1)),bt 1000 (.arith .shl .i64 (.var 2) (.lit 1))]))))))))))
 (.ret 0 (sg 2 [bv 2 4]))))))))
theorem q05:qk ⟨Tryz.prog,qjI,[],[qub]⟩ 100000 Tryz.f179 = qra:=by kernel_rfl
theorem q5p (hd:∀ c ∈ ([]:List Ctr),c.ok Tryz.prog) (h:∀ ρ:Env,ρ.good->(qjI).pre ρ->qra.den ⟨Tryz.prog,qjI,[],[qub]⟩ ρ):(qjI).ok Tryz.prog :=
 qf Tryz.func179 (fun a w=>Tryz.call179 a w) hd 100000 (fun ρ hg hp=>by rw [q05]; exact h ρ hg hp)
@[simp] def qrd:T:=.arith .add .i64 (.c2 (.xint 513) (.var 4) (.var 2)) (.c2 (.xint 513) (.var 4) (.var 3))
def q02:Out:=(.br (.and (.cmp .eql (.dlen (.var 1)) (.lit 0)) (.isnil 0))
 (.ret 0 (sg 4 [bv 5 1,bt 4 (.lit 0)]))
 (.br (.cmp .eql (.var 2) (.lit 0))
 (.ret 0 (sg 4 [bv 5 1,bt 4 (.lit 0)]))
 (.br (.cmp .eql (.var 3) (.lit 0))
 (.ret 0 (sg 4 [bv 5 1,bt 4 (.lit 0)]))
 (.need (.cmp .lss (.lit 0) (.dlen (.var 1))) (.pre 0 (sg 0 [bv 1 1,bg 0 0]) (.both (.fresh 4 (.post 0 0 (sg 0 [bv 1 1,bg 0 0]) 4 (.need (.cmp .lss (.lit 0) (.dlen (.var 4))) (.need (.cmp .leq (.lit 0) (.var 2)) (.need (.cmp .lss (.var 2) (.lit 256)) (.need (.cmp .leq (.lit 0) (.var 3)) (.need (.cmp .lss (.var 3) (.lit 256)) (.need (.cmp .leq (.lit 0) qrd) (.need (.cmp .lss qrd (.lit 510)) (.ret 0 (sg 4 [bv 5 4,bt 4 (.c2 (.xint 3) (.var 4) qrd)]))))))))))) .top))))))
theorem q5i:qk ⟨Tryz.prog,qdT,[qcg],[]⟩ 100000 Tryz.f152 = q02:=by kernel_rfl
theorem q88 (hd:∀ c ∈ ([qcg]:List Ctr),c.ok Tryz.prog) (h:∀ ρ:Env,ρ.good->(qdT).pre ρ->q02.den ⟨Tryz.prog,qdT,[qcg],[]⟩ ρ):(qdT).ok Tryz.prog :=
 qf Tryz.func152 (fun a w=>Tryz.call152 a w) hd 100000 (fun ρ hg hp=>by rw [q5i]; exact h ρ hg hp)
end Go.Proofs

set_option linter.unusedSimpArgs false
set_option linter.unusedVariables false
namespace Go.Proofs
open Go Go.Eng
set_option maxRecDepth 100000 in
theorem qwM:qbS.ok Tryz.prog:=qxM (by simp) fun ρ hg hp=>by
 simp [qkp,qbS]
 kernel_rfl
theorem quX:∀ x:Fin 256,0 <= qiJ (x.val:Int)/\qiJ (x.val:Int) < 256:=by decide +kernel
theorem qwU {x:Int} (h0:0 <= x) (h1:x < 256):0 <= qiJ x/\qiJ x < 256:=by
 have:=quX ⟨x.toNat,by omega⟩
 simp only [Int.toNat_of_nonneg h0] at this
 exact this
theorem qim (d:qe):∀ n,0 <= (qbR d n).2/\(qbR d n).2 < 256
 | 0=>by simp [qbR]
 | n + 1=>qwU (qim d n).1 (qim d n).2
theorem q5X {d:qe} {i:Nat} {v:Value}:(qa6 d i v).length = d.length:=by cases d <;> simp [qa6]
theorem qk2 (d:qe):∀ n,(qbR d n).1.length = d.length
 | 0=>rfl
 | n + 1=>by simp only [qbR,qmv,q5X,qk2 d n]
theorem q55:qjI.ok Tryz.prog:=q5p (by simp) fun ρ hg hp=>by
 have hl:(ρ 1).d.length = 1:=hp
 simp [qra,qjI,qub]
 refine ⟨rfl,fun x _ i _ d _ i0 i1 hd=>⟨fun hi=>?_,fun hi=>?_⟩⟩
 ·obtain ⟨x0,x1⟩:=qim (ρ 1).d i.i.toNat
  have hlen:=qk2 (ρ 1).d i.i.toNat
  rw [<- hd] at x0 x1 hlen
  simp only at x0 x1 hlen
  have w1:qc .add .i64 i.i 255 = i.i + 255:=by simp [qc,IntKind.wrap,IntKind.bits,IntKind.signed]; omega
  have w2:qc .add .i64 i.i 1 = i.i + 1:=by simp [qc,IntKind.wrap,IntKind.bits,IntKind.signed]; omega
  have w3:qc .shl .i64 x.i 1 = 2 * x.i:=by simp [qc,IntKind.wrap,IntKind.bits,IntKind.signed]; omega
  have w4:IntKind.u8.wrap x.i = x.i:=by simp [IntKind.wrap,IntKind.bits,IntKind.signed]; omega
  have hstep:∀ y,y = qiJ x.i->(qa6 (qa6 (qa6 d.d (i.i.toNat + 3) (.int .u8 x.i)) ((i.i + 255).toNat + 3) (.int .u8 x.i)) (x.i.toNat + 513) (.int .i64 i.i),y) = qbR (ρ 1).d (i.i + 1).toNat:=fun y hy=>by
   rw [show (i.i + 1).toNat = i.i.toNat + 1 by omega,qbR,<- hd,qmv,hy]
   simp only
   rw [show (i.i + 255).toNat = i.i.toNat + 255 by omega,Int.toNat_of_nonneg i0]
  rw [w1,w2,w3,w4]
  refine ⟨by omega,i0,by omega,by omega,by omega,x0,x1,fun h=>⟨⟨by omega,by omega,hstep _ ?_⟩,by omega⟩,fun h=>⟨⟨by omega,by omega,hstep _ ?_⟩,by omega⟩⟩
  ·rw [qiJ,if_pos h]
  ·rw [qiJ,if_neg (by omega)]
 ·have:i.i.toNat = 255:=by omega
  rw [this] at hd
  rw [<- hd]
end Go.Proofs

set_option linter.unusedSimpArgs false
set_option linter.unusedVariables false
namespace Go.Proofs
open Go Go.Eng

theorem ql7 (w:World):(callFunc 198 #[]).run Tryz.prog w = .ok (.value (.tuple #[])) w:=run_call_mark0 Tryz.func198 (by kernel_rfl) (by kernel_rfl) (by kernel_rfl) .disable (by kernel_rfl) w
theorem qni (w:World):(callFunc 200 #[]).run Tryz.prog w = .ok (.value (.tuple #[])) w:=run_call_mark0 Tryz.func200 (by kernel_rfl) (by kernel_rfl) (by kernel_rfl) .enable (by kernel_rfl) w
theorem qw3 (a:Addr) (w:World):(callFunc 201 #[.pointer (some a)]).run Tryz.prog w = .ok (.value (.tuple #[])) w:=run_call_marked Tryz.func201 (by kernel_rfl) (by kernel_rfl) (by kernel_rfl) .acquire (by kernel_rfl) a w
theorem quw (a:Addr) (w:World):(callFunc 203 #[.pointer (some a)]).run Tryz.prog w = .ok (.value (.tuple #[])) w:=run_call_marked Tryz.func203 (by kernel_rfl) (by kernel_rfl) (by kernel_rfl) .releaseMerge (by kernel_rfl) a w
theorem q1f (a:Addr) (x:Value) (u:FrameMode) (w:World) (hc:w.cell? a = some x) (hz:w.frozen? a = false) :
  CallsD Tryz.prog 193 #[.pointer (some a),.bool true] u w fun e u' w'=>u' = u/\(e = .returned (.tuple #[])/\w' = w.drew.setCell a (.int .u32 1)):=by
 have hc':w.drew.cell? a = some x:=by go_simp
 have hz':w.drew.frozen? a = false:=by go_simp
 have hst:=run_call_store (P:=Tryz.prog) Tryz.func196 (by kernel_rfl) (by kernel_rfl) (by kernel_rfl) (by kernel_rfl) (k:=.u32) (y:=1) hc' hz'
 go_enter_d Tryz.func193,Tryz.ntmps193
 go_wp2
 go_region_calls
 all_goals (go_end0; exact ⟨rfl,rfl⟩)
set_option maxRecDepth 100000 in
set_option maxHeartbeats 1600000 in
theorem quy (a:Addr) (w:World) (hc:w.cell? a = some (.int .i32 0)) (hz:w.frozen? a = false) :
  Calls Tryz.prog 194 #[.pointer (some a)] w fun e w'=>e = .returned (.tuple #[])/\w' = w.setCell a (.int .i32 1):=by
 have hd:=ql7
 have he:=qni
 have ha:=qw3
 have hcas:=run_call_cas_hit (P:=Tryz.prog) Tryz.func199 (by kernel_rfl) (by kernel_rfl) (by kernel_rfl) .i32 (by kernel_rfl) (y:=1) hc hz
 have hc':(w.setCell a (.int .i32 1)).cell? a = some (.int .i32 1):=World.cell?_setCell_same w a _ hc
 have hcv:=run_convert_to_unsafe (P:=Tryz.prog) (src:=283) (dst := 287) Tryz.underlying283 Tryz.underlying287 (by kernel_rfl) hc'
 go_enter Tryz.func194,Tryz.ntmps194
 go_wp2
 first | go_end0 | (simp only [Exit.inBlock,Exit.then]; refine bodyPost_ret (results_none rfl _ _ _) rfl ?_) | refine bodyPost_ret (results_none rfl _ _ _) rfl ?_
 go_wp2
 all_goals (go_end0; exact ⟨rfl,rfl⟩)
set_option maxRecDepth 100000 in
set_option maxHeartbeats 1600000 in
theorem qrJ (a:Addr) (w:World) (hc:w.cell? a = some (.int .i32 1)) (hz:w.frozen? a = false) :
  Calls Tryz.prog 195 #[.pointer (some a)] w fun e w'=>e = .returned (.tuple #[])/\w' = w.setCell a (.int .i32 0):=by
 have hd:=ql7
 have he:=qni
 have hr:=quw
 have hadd:=run_call_add (P:=Tryz.prog) Tryz.func204 (by kernel_rfl) (by kernel_rfl) (by kernel_rfl) .i32 (by kernel_rfl) (y:=-1) (s:=0) hc hz (by simp [go_sem]; rfl)
 have hcv:=run_convert_to_unsafe (P:=Tryz.prog) (src:=283) (dst := 287) Tryz.underlying283 Tryz.underlying287 (by kernel_rfl) hc
 go_enter Tryz.func195,Tryz.ntmps195
 go_wp2
 all_goals (try go_end0)
 all_goals (try go_wp2)
 all_goals (try go_end0)
 all_goals (exact ⟨rfl,rfl⟩)
set_option maxRecDepth 100000 in
theorem q2s (b off:Nat) (w:World) (hc:w.cell? ⟨b,off,none⟩ = some (.int .i32 0)) (hz:w.frozen? ⟨b,off,none⟩ = false) :
  Calls Tryz.prog 191 #[.pointer (some ⟨b,off,none⟩)] w fun e w'=>e = .returned (.tuple #[])/\w' = w.setCell ⟨b,off,none⟩ (.int .i32 1):=by
 go_enter Tryz.func191,Tryz.ntmps191
 go_wp2_with (go_at_call 194; refine (quy ⟨b,off,none⟩ _ (by go_simp) (by go_simp)).mono ?_; rintro e w' ⟨rfl,rfl⟩)
 all_goals (go_end0; exact ⟨rfl,rfl⟩)
set_option maxRecDepth 100000 in
theorem qxK (b off:Nat) (u:FrameMode) (w:World) (hc:w.cell? ⟨b,off,none⟩ = some (.int .i32 1)) (hz:w.frozen? ⟨b,off,none⟩ = false) :
  CallsD Tryz.prog 192 #[.pointer (some ⟨b,off,none⟩)] u w fun e u' w'=>u' = u/\(e = .returned (.tuple #[])/\w' = w.setCell ⟨b,off,none⟩ (.int .i32 0)):=by
 go_enter_d Tryz.func192,Tryz.ntmps192
 go_wp2_with (go_at_call 195; refine (qrJ ⟨b,off,none⟩ _ (by go_simp) (by go_simp)).mono ?_; rintro e w' ⟨rfl,rfl⟩)
 all_goals (go_end0; exact ⟨rfl,rfl⟩)
end Go.Proofs

set_option linter.unusedSimpArgs false
set_option linter.unusedVariables false
namespace Go.Proofs
open Go Go.Eng


theorem qoP {k:CK} {v:Value} (h:CK.fits k v = true):v.oneCell' = true:=by
 cases k <;> cases v <;> simp_all [CK.fits,Value.oneCell']
def At (w:World) (b:Nat) (c:Array Value):Prop:=w.heap[b]? = some (.cells c 151 (0,0))
structure Else (w w':World) (b:Nat):Prop where
 blk:∀ b',b' ≠ b->∀ o,w.heap[b']? = some o->w'.heap[b']? = some o
 os:w'.os = w.os
 out:w'.output = w.output
theorem Else.trans {w1 w2 w3:World} {b:Nat} (h:Else w1 w2 b) (h':Else w2 w3 b):Else w1 w3 b :=
 ⟨fun b' hb o ho=>h'.blk b' hb o (h.blk b' hb o ho),h'.os.trans h.os,h'.out.trans h.out⟩
theorem At.set {w:World} {b:Nat} {c:Array Value} (h:At w b c) (k:Nat) (v:Value):At (w.setCell ⟨b,k,none⟩ v) b (c.setIfInBounds k v)/\Else w (w.setCell ⟨b,k,none⟩ v) b:=by
 refine ⟨?_,fun b' hb o ho=>?_,rfl,rfl⟩
 ·have h:w.heap[b]? = some (.cells c 151 (0,0)):=h
  simp only [At,World.setCell,Array.getElem?_modify,if_true,h,Option.map_some]
  simp
 ·simp only [World.setCell,Array.getElem?_modify]
  rw [if_neg (fun h=>hb h.symm)]; exact ho
theorem At.drew {w:World} {b:Nat} {c:Array Value} (h:At w b c):At w.drew b c/\Else w w.drew b:=⟨h,fun _ _ _ ho=>ho,rfl,rfl⟩
theorem At.cell {w:World} {b:Nat} {c:Array Value} (h:At w b c) {k:Nat} {v:Value} (hv:c[k]? = some v):w.cell? ⟨b,k,none⟩ = some v:=by rw [qaV h,hv]
theorem At.frozen {w:World} {b:Nat} {c:Array Value} (h:At w b c) (k:Nat):w.frozen? ⟨b,k,none⟩ = false:=by
 have h:w.heap[b]? = some (.cells c 151 (0,0)):=h
 simp [World.frozen?,h]
theorem qjX {c:Array Value} {k:Nat} {v:Value}:(c.setIfInBounds k v).toList = c.toList.set k v:=by simp

theorem qdz:qhn.length = 769:=by simp only [qhn,List.length_append,List.length_replicate,List.length_cons,List.length_nil]
set_option maxRecDepth 100000 in
theorem qwA {w:World} {b:Nat} {c:Array Value} (hb:At w b c) (hf:qt qhn c.toList) :
  Calls Tryz.prog 179 #[.pointer (some ⟨b,0,none⟩)] w fun e w'=>e = .returned (.tuple #[])/\∃ c',At w' b c'/\[c'.toList] = (qbR [c.toList] 255).1/\Else w w' b:=by
 let us:List U:=[{ r:=some ⟨b,0,none⟩ },{ d:=[c.toList] }]
 have hgood:Env.good fun n=>us.getD n {}:=fun n=>by
  match n with
  | 0=>simp [us,U.good,Value.oneCell']
  | 1 =>
   refine ⟨rfl,fun row hr v hv=>?_⟩
   simp only [us,List.getD_cons_succ,List.getD_cons_zero,List.mem_singleton] at hr
   subst hr
   obtain ⟨k,hk⟩:=List.getElem?_of_mem hv
   have hlt:k < qhn.length:=by rw [<- hf.1]; exact (List.getElem?_eq_some_iff.1 hk).1
   exact qoP (hf.2 k _ v (List.getElem?_eq_getElem hlt) hk)
  | n + 2=>simp [us,U.good,Value.oneCell']
 have hsz:c.size = 769:=by have:=hf.1; rw [qdz] at this; simpa using this
 have h:=q55.2 (fun n=>us.getD n {}) w ⟨fun b'=>if b' = b then none else w.heap[b']?,w.os,w.output⟩ (Hp.one b (.cells c 151 (0,0))) hgood
  (fun y=>by by_cases hy:y = b <;> simp [hy,Hp.one])
  ⟨fun y o hy=>by
   by_cases hyb:y = b
   ·subst hyb
    simp [Hp.union,Hp.one] at hy
    rw [<- hy]; exact hb
   ·simpa [Hp.union,Hp.one,hyb] using hy,rfl,rfl⟩
  ⟨Hp.one b (.cells c 151 (0,0)),Hp.emp,Hp.disj_emp _,by funext y; simp [Hp.union,Hp.emp],.inr ⟨b,c,rfl,by simp [Hp.one],by rw [qdz,hsz]; simp [T.den,O0.den],by simp [us,T.den,O0.den],fun i row hi=>by
   match i with
   | 0 =>
    simp only [T.den,us,List.getD_cons_succ,List.getD_cons_zero,List.getElem?_cons_zero,Option.some.injEq] at hi
    subst hi
    exact ⟨hf,fun k v hv=>by simpa using hv⟩
   | i + 1=>simp [T.den,us] at hi⟩,trivial⟩
  (fun x hx=>by cases hx) (show ([c.toList]:qe).length = 1 from rfl)
 refine h.mono fun e w' hq=>?_
 obtain ⟨ai,al,ρ',hal,hg',hag,he,hpost,hO',hd',hst',hsub',hwi'⟩:=hq
 match ai,hal with
 | 0,hal =>
  obtain rfl:=Option.some.inj hal
  refine ⟨he,?_⟩
  obtain ⟨h1,h2,hdj,hu,hden,_⟩:=hst'
  have r0:(ρ' 0).r = some ⟨b,0,none⟩:=by rw [hag 0 (by decide)]; rfl
  have d1:(ρ' 1).d = [c.toList]:=by rw [hag 1 (by decide)]; rfl
  have hp2:(ρ' 2).d = (qbR (ρ' 1).d 255).1:=hpost
  rw [d1] at hp2
  have hl2:(ρ' 2).d.length = 1:=by rw [hp2,qk2]; rfl
  rcases hden with ⟨hn,_,_⟩ | ⟨b',c',g1,g2,g3,g4,g5⟩
  ·rw [r0] at hn; cases hn
  ·rw [r0] at g1
   simp only [Option.some.injEq,Addr.mk.injEq] at g1
   obtain ⟨rfl,_⟩:=g1
   obtain ⟨row,hrow⟩:∃ row,(ρ' 2).d = [row]:=List.length_eq_one_iff.1 hl2
   obtain ⟨f1,f2⟩:=g5 0 row (by simp only [T.den]; rw [hrow]; rfl)
   have hs':c'.size = 769:=by rw [g3,qdz]; simp [T.den,O0.den]
   have hlr:row.length = 769:=by rw [f1.1,qdz]
   have hcl:c'.toList = row:=by
    apply List.ext_getElem?
    intro k
    by_cases hk:k < row.length
    ·have:=f2 k _ (List.getElem?_eq_getElem hk)
     rw [Array.getElem?_toList,List.getElem?_eq_getElem hk]
     simpa using this
    ·rw [List.getElem?_eq_none (by simp; omega),List.getElem?_eq_none (by omega)]
   refine ⟨c',hsub' b _ ?_,by rw [hcl,<- hrow,hp2],fun y hy o ho=>hsub' y o ?_,hwi'.1,hwi'.2⟩
   ·have:hO' b = some (.cells c' 151 (0,0)):=by rw [hu]; simp [Hp.union,g2]
    simp [Hp.union,this]
   ·simp [Hp.union,hy,ho]
 | n + 1,hal=>cases hal
end Go.Proofs

set_option linter.unusedSimpArgs false
set_option linter.unusedVariables false
namespace Go.Proofs
open Go Go.Eng
theorem qow:∀ (x:Bool) (w:World),(Op.unary .not (.bool x)).run Tryz.prog w = .ok (.bool (!x)) w:=fun _ _=>rfl
set_option maxRecDepth 100000 in
theorem qlo (b:Nat) (x:Int) (w:World) (hc:w.cell? ⟨b,0,none⟩ = some (.int .u32 x)) :
  Calls Tryz.prog 187 #[.pointer (some ⟨b,0,none⟩)] w fun e w'=>e = .returned (.bool (x != 0))/\w' = w:=by
 have hl:=run_call_load (P:=Tryz.prog) Tryz.func190 (by kernel_rfl) (by kernel_rfl) (by kernel_rfl) .u32 (by kernel_rfl) hc
 go_enter Tryz.func187,Tryz.ntmps187
 go_wp2
 go_ret
 exact ⟨rfl,rfl⟩
set_option maxRecDepth 100000 in
theorem q12 (b:Nat) (d:Int) (hd:¬ d = 0) (fv:Value) (w:World) (h0:w.cell? ⟨b,0,none⟩ = some (.int .u32 d)) :
  Calls Tryz.prog 178 #[.pointer (some ⟨b,0,none⟩),fv] w fun e w'=>e = .returned (.tuple #[])/\w' = w:=by
 have hnot:=qow
 have hd':(d != 0) = true:=by simp [hd]
 go_enter Tryz.func178,Tryz.ntmps178
 go_wp2_with (go_at_call 187; refine (qlo b d _ h0).mono ?_; rintro e w' ⟨rfl,rfl⟩)
 all_goals (try go_end0)
 all_goals (exact ⟨rfl,rfl⟩)
def qoO:List CK->List Value->Bool
 | [],[]=>true
 | k :: ks,v :: vs=>CK.fits k v && qoO ks vs
 | _,_=>false
theorem qhi:∀ {ks:List CK} {vs:List Value},qoO ks vs = true->qt ks vs
 | [],[],_=>⟨rfl,fun c k v hk=>by simp at hk⟩
 | k :: ks,v :: vs,h=>by
  simp only [qoO,Bool.and_eq_true] at h
  obtain ⟨h1,h2⟩:=qhi h.2
  refine ⟨by simp [h1],fun c k' v' hk hv=>?_⟩
  cases c with
  | zero=>simp at hk hv; subst hk; subst hv; exact h.1
  | succ c=>exact h2 c k' v' (by simpa using hk) (by simpa using hv)
 | [],_ :: _,h=>by simp [qoO] at h
 | _ :: _,[],h=>by simp [qoO] at h
theorem q0A:qt qhn (qb7.set 1 (.int .i32 1)):=qhi (by kernel_rfl)
theorem qyE:[(((qbR [qb7.set 1 (.int .i32 1)] 255).1.headD []).set 0 (.int .u32 1)).set 1 (.int .i32 0)] = qaJ:=by kernel_rfl
theorem q6N:((qbR [qb7.set 1 (.int .i32 1)] 255).1.headD [])[1]? = some (.int .i32 1):=by kernel_rfl
theorem q7M:((qbR [qb7.set 1 (.int .i32 1)] 255).1.headD [])[0]? = some (.int .u32 0):=by kernel_rfl
set_option maxRecDepth 100000 in
set_option maxHeartbeats 1600000 in
theorem q10 (b:Nat) (c:Array Value) (w:World) (hb:At w b c) (hc:c.toList = qb7) :
  Calls Tryz.prog 188 #[.pointer (some ⟨b,0,none⟩),.func (.func 179) #[.pointer (some ⟨b,0,none⟩)] #[]] w fun e w'=>e = .returned (.tuple #[])/\∃ c',At w' b c'/\[c'.toList] = qaJ/\Else w w' b:=by
 have hnot:=qow
 have hget:∀ k:Nat,c[k]? = qb7[k]?:=fun k=>by rw [<- hc]; simp
 have h1:w.cell? ⟨b,1,none⟩ = some (.int .i32 0):=hb.cell (by rw [hget]; rfl)
 have f1:w.frozen? ⟨b,1,none⟩ = false:=hb.frozen 1
 obtain ⟨a1,e1⟩:=hb.set 1 (.int .i32 1)
 have l1:(c.setIfInBounds 1 (.int .i32 1)).toList = qb7.set 1 (.int .i32 1):=by rw [qjX,hc]
 have h0:(w.setCell ⟨b,1,none⟩ (.int .i32 1)).cell? ⟨b,0,none⟩ = some (.int .u32 0):=a1.cell (by rw [<- Array.getElem?_toList,l1]; rfl)
 have hbuild:=qwA a1 (by rw [l1]; exact q0A)
 rw [l1] at hbuild
 go_enter_defers Tryz.func188,Tryz.ntmps188
 go_wp2_with (first | (go_at_call 191; refine (q2s b 1 _ h1 f1).mono ?_; rintro e w' ⟨rfl,rfl⟩) | (go_at_call 187; refine (qlo b 0 _ h0).mono ?_; rintro e w' ⟨rfl,rfl⟩) | (go_at_call 179; refine hbuild.mono ?_; rintro e w' ⟨rfl,c2,a2,l2,e2⟩))
 have hrow:c2.toList = (qbR [qb7.set 1 (.int .i32 1)] 255).1.headD []:=by rw [<- l2]; rfl
 have k0:c2[0]? = some (.int .u32 0):=by rw [<- Array.getElem?_toList,hrow]; exact q7M
 have k1:c2[1]? = some (.int .i32 1):=by rw [<- Array.getElem?_toList,hrow]; exact q6N
 obtain ⟨a3,e3⟩:=a2.drew
 obtain ⟨a4,e4⟩:=a3.set 0 (.int .u32 1)
 obtain ⟨a5,e5⟩:=a4.set 1 (.int .i32 0)
 refine leaves_cons (f := 193) (args:=#[.pointer (some ⟨b,0,none⟩),.bool true]) (by simp) (by simp [go_sem]) ?_
 refine (q1f ⟨b,0,none⟩ (.int .u32 0) .returning _ (a2.cell k0) (a2.frozen 0)).mono ?_
 rintro e u' w'' ⟨rfl,rfl,rfl⟩
 refine leaves_cons (f := 192) (args:=#[.pointer (some ⟨b,1,none⟩)]) (by simp [settle]) (by simp [go_sem]) ?_
 refine (qxK b 1 _ _ (a4.cell (by simp [k1])) (a4.frozen 1)).mono ?_
 rintro e u' w'' ⟨rfl,rfl,rfl⟩
 have hfin:[((c2.setIfInBounds 0 (.int .u32 1)).setIfInBounds 1 (.int .i32 0)).toList] = qaJ:=by
  rw [qjX,qjX,hrow]; exact qyE
 simp [Leaves,settle,results,Tryz.results188]
 exact ⟨_,a5,hfin,e1.trans (e2.trans (e3.trans (e4.trans e5)))⟩
set_option maxRecDepth 100000 in
theorem qzb (b:Nat) (c:Array Value) (w:World) (hb:At w b c) (hc:c.toList = qb7) :
  Calls Tryz.prog 178 #[.pointer (some ⟨b,0,none⟩),.func (.func 179) #[.pointer (some ⟨b,0,none⟩)] #[]] w fun e w'=>e = .returned (.tuple #[])/\∃ c',At w' b c'/\[c'.toList] = qaJ/\Else w w' b:=by
 have hnot:=qow
 have h0:w.cell? ⟨b,0,none⟩ = some (.int .u32 0):=hb.cell (by rw [<- Array.getElem?_toList,hc]; rfl)
 have hslow:=q10 b c w hb hc
 go_enter Tryz.func178,Tryz.ntmps178
 go_wp2_with (first | (go_at_call 187; refine (qlo b 0 _ h0).mono ?_; rintro e w' ⟨rfl,rfl⟩) | (go_at_call 188; refine hslow.mono ?_; rintro e w' ⟨rfl,c2,a2,l2,e2⟩))
 all_goals (try go_end0)
 exact ⟨rfl,c2,a2,l2,e2⟩
end Go.Proofs

set_option linter.unusedSimpArgs false
set_option linter.unusedVariables false
namespace Go.Proofs
open Go Go.Eng
theorem q83:(qaJ.headD [])[0]? = some (.int .u32 1):=by kernel_rfl
theorem qk9:qaJ.length = 1:=by kernel_rfl
theorem qmy:qt qhn (qaJ.headD []):=qhi (by kernel_rfl)
set_option maxRecDepth 100000 in
theorem qrI:qcg.ok Tryz.prog:=by
 refine ⟨fun args w=>Tryz.call178 args w,fun ρ w hF hO hg hd hsub hst hro hpre=>?_⟩
 obtain ⟨h1,h2,hdj,hu,hden,_⟩:=hst
 have hlen:(ρ 1).d.length = 1:=by
  rcases hpre with h | h
  ·rw [h]; rfl
  ·rw [h]; exact qk9
 rcases hden with ⟨hn,hnil,_⟩ | ⟨b,c,g1,g2,g3,g4,g5⟩
 ·have:(ρ 1).d = []:=hnil
  rw [this] at hlen; cases hlen
 obtain ⟨row,hrow⟩:∃ row,(ρ 1).d = [row]:=List.length_eq_one_iff.1 hlen
 obtain ⟨f1,f2⟩:=g5 0 row (by simp only [T.den]; rw [hrow]; rfl)
 have hs':c.size = 769:=by rw [g3,qdz]; simp [T.den,O0.den]
 have hlr:row.length = 769:=by rw [f1.1,qdz]
 have hcl:c.toList = row:=by
  apply List.ext_getElem?
  intro k
  by_cases hk:k < row.length
  ·have:=f2 k _ (List.getElem?_eq_getElem hk)
   rw [Array.getElem?_toList,List.getElem?_eq_getElem hk]
   simpa using this
  ·rw [List.getElem?_eq_none (by simp; omega),List.getElem?_eq_none (by omega)]
 have hOb:hO b = some (.cells c 151 (0,0)):=by rw [hu]; simp [Hp.union,g2]
 have hFb:hF b = none:=(hd b).resolve_right (by rw [hOb]; simp)
 have hb:At w b c:=hsub.1 b _ (by simp [Hp.union,hFb,hOb])
 have fin:∀ w',(∃ c',At w' b c'/\[c'.toList] = qaJ/\Else w w' b)->∃ (ai:Nat) (al:Alt) (ρ':Env),qcg.alts[ai]? = some al/\ρ'.good/\(∀ n,n < qcg.nv->ρ' n = ρ n)/\(Ending.returned (.tuple #[]):Ending) = .returned (al.ret.den ρ')/\al.post (ρ'.upto (qcg.nv + al.k))/\qr ρ' hF al.heap w':=fun w' ⟨c',a',hl',he'⟩=>by
  have hgd:({ d:=qaJ }:U).good:=by
   refine ⟨rfl,fun r hr v hv=>?_⟩
   have hr:r ∈ qaJ:=hr
   rw [<- hl',List.mem_singleton] at hr
   subst hr
   have hh:qaJ.headD [] = c'.toList:=by rw [<- hl']; rfl
   obtain ⟨k,hk⟩:=List.getElem?_of_mem hv
   have hfit:=qmy
   rw [hh] at hfit
   have hlt:k < qhn.length:=by rw [<- hfit.1]; exact (List.getElem?_eq_some_iff.1 hk).1
   exact qoP (hfit.2 k _ v (List.getElem?_eq_getElem hlt) hk)
  refine ⟨0,_,ρ.set 2 { d:=qaJ },rfl,fun n=>?_,fun n hn=>Env.set_ne ρ _ (by have:qcg.nv = 2:=rfl; omega),rfl,?_,Hp.upd hO b (.cells c' 151 (0,0)),?_,?_,?_,he'.os.trans hsub.2.1,he'.out.trans hsub.2.2⟩
  ·by_cases hn:n = 2
   ·subst hn; rw [Env.set_same]; exact hgd
   ·rw [Env.set_ne ρ _ hn]; exact hg n
  ·show ((ρ.set 2 { d:=qaJ }).upto 3 2).d = qaJ
   simp [Env.upto,Env.set_same]
  ·intro y
   by_cases hy:y = b
   ·subst hy; exact .inl hFb
   ·rcases hd y with h | h
    ·exact .inl h
    ·exact .inr (by simp [Hp.upd,hy,h])
  ·refine ⟨Hp.upd hO b (.cells c' 151 (0,0)),Hp.emp,Hp.disj_emp _,by funext y; simp [Hp.union,Hp.emp],.inr ⟨b,c',?_,by simp [Hp.upd],?_,?_,?_⟩,trivial⟩
   ·rw [Env.set_ne ρ _ (by omega)]; exact g1
   ·have hfit:=qmy
    have hh:qaJ.headD [] = c'.toList:=by rw [<- hl']; rfl
    rw [hh] at hfit
    have:=hfit.1
    rw [qdz] at this ⊢
    simp [T.den,O0.den] at this ⊢; omega
   ·simp only [T.den,Env.set_same,O0.den]; rw [qk9]; decide
   ·intro i r hi
    simp only [T.den,Env.set_same] at hi
    rw [<- hl'] at hi
    match i with
    | 0 =>
     simp only [List.getElem?_cons_zero,Option.some.injEq] at hi
     subst hi
     have hfit:=qmy
     have hh:qaJ.headD [] = c'.toList:=by rw [<- hl']; rfl
     rw [hh] at hfit
     exact ⟨hfit,fun k v hv=>by simpa using hv⟩
    | i + 1=>simp at hi
  ·intro y o ho
   by_cases hy:y = b
   ·subst hy
    simp [Hp.union,hFb,Hp.upd] at ho
    rw [<- ho]; exact a'
   ·refine he'.blk y hy o (hsub.1 y o ?_)
    simpa [Hp.union,Hp.upd,hy] using ho
 have hargs:(qcg.args.map (SV.den ρ)).toArray = #[.pointer (some ⟨b,0,none⟩),.func (.func 179) #[.pointer (some ⟨b,0,none⟩)] #[]]:=by
  simp [qcg,qbE,SV.den,T.den,O0.den,O1.den,g1,qm,qb]
 rw [hargs]
 rcases hpre with h | h
 ·refine (qzb b c w hb ?_).mono fun e w' ⟨he,hh⟩=>?_
  ·rw [hcl]
   have:[row] = [qb7]:=hrow.symm.trans h
   exact (List.cons.inj this).1
  ·rw [he]; exact fin w' hh
 ·have hh:[row] = qaJ:=hrow.symm.trans h
  have hr0:qaJ.headD [] = row:=by rw [<- hh]; rfl
  have h0:=q83
  rw [hr0] at h0
  refine (q12 b 1 (by decide) _ w (hb.cell (by rw [<- Array.getElem?_toList,hcl]; exact h0))).mono fun e w' ⟨he,hw⟩=>?_
  rw [he,hw]
  exact fin w ⟨c,hb,by rw [hcl]; exact hh,fun _ _ _ ho=>ho,rfl,rfl⟩
theorem qw2:qdT.ok Tryz.prog:=q88 (by simp [qrI]) fun ρ hg hp=>by
 obtain ⟨h1,a0,a1,b0,b1⟩:=hp
 simp [q02,qdT,qcg]
 obtain ⟨l0,l1⟩:=qcE a0 a1
 obtain ⟨m0,m1⟩:=qcE b0 b1
 have hz:∀ h:(ρ 2).i = 0∨(ρ 3).i = 0,0 = qd5 (ρ 2).i (ρ 3).i:=fun h=>by rw [qd5,if_pos h]
 have hne:¬ (ρ 1).d = []:=fun h=>by
  have hl:=qk9
  rcases h1 with h' | h' <;> rw [h'] at h
  ·cases h
  ·rw [h] at hl; cases hl
 refine ⟨fun h=>(hne h).elim,fun _=>⟨fun h=>⟨h1,hz (.inl h)⟩,fun n2=>⟨fun h=>⟨h1,hz (.inr h)⟩,fun n3=>⟨List.length_pos_iff.2 hne,h1,fun u _ hu=>?_⟩⟩⟩⟩
 rw [hu]
 have e1:qa qaJ ((ρ 2).i.toNat + 513) = qbw (ρ 2).i.toNat:=rfl
 have e2:qa qaJ ((ρ 3).i.toNat + 513) = qbw (ρ 3).i.toNat:=rfl
 rw [e1,e2]
 have w:qc .add .i64 (qbw (ρ 2).i.toNat) (qbw (ρ 3).i.toNat) = qbw (ρ 2).i.toNat + qbw (ρ 3).i.toNat:=by
  simp [qc,IntKind.wrap,IntKind.bits,IntKind.signed]; omega
 rw [w]
 refine ⟨by rw [qk9]; decide,a0,a1,b0,b1,by omega,by omega,.inr rfl,?_⟩
 rw [qd5,if_neg (by omega)]; rfl
end Go.Proofs

set_option linter.unusedSimpArgs false
set_option linter.unusedVariables false
namespace Go.Proofs
open Go Go.Eng
theorem qp8:qbq.ok Tryz.prog:=q0W (by simp) fun ρ hg hp=>by
 simp [qld,qbq]
 refine ⟨fun h1=>⟨fun h2=>?_,fun h2=>?_⟩,fun h1=>?_⟩
 ·simp [qaF,h1,h2,qK]
 ·simp [qaF]; omega
 ·simp [qaF]; omega
theorem qoT:qby.ok Tryz.prog:=qz5 (by simp) fun ρ hg hp=>by
 simp [qlU,qby]
 unfold qfm
 refine ⟨fun h=>by omega,fun h1=>⟨fun h=>by omega,fun h2=>⟨fun h=>by omega,fun h3=>⟨fun h=>by omega,fun h4=>⟨by omega,by omega,fun _=>?_⟩⟩⟩⟩⟩
 rw [add64 (by omega) (by omega),sub64 (by omega) (by omega)]
 have hq:0 <= ((ρ 1).i + (ρ 0).i - 1).tdiv (ρ 0).i/\((ρ 1).i + (ρ 0).i - 1).tdiv (ρ 0).i <= 10000:=by
  rw [Int.tdiv_eq_ediv_of_nonneg (by omega)]
  refine ⟨Int.ediv_nonneg (by omega) (by omega),?_⟩
  have:=Int.ediv_le_self (a:=(ρ 1).i + (ρ 0).i - 1) (ρ 0).i (by omega)
  omega
 exact wrap64 (by omega) (by omega)
theorem qlO:qaU.ok Tryz.prog:=q2o (by simp) fun ρ hg hp=>by
 obtain ⟨h1,h2,h3,h4⟩:=hp
 simp [qoj,qaU]
 have hb:=qap h1 h2 h3 h4
 rw [qc4 (by omega) (by omega)]
 omega
theorem qo8:qb5.ok Tryz.prog:=q5D (by simp) fun ρ hg hp=>by
 obtain ⟨r0,r1,a0,a1,c0,c1,hl,hc,hd,hB⟩:=hp
 simp [qrO,qb5]
 have hb:=qap (x:=(ρ 7).i) (y:=(ρ 1).i) r0 (show (ρ 7).i <= 255 by omega) c0 c1
 have hb2:=qap (x:=(ρ 7).i + 1) (y:=(ρ 1).i) (by omega) (show (ρ 7).i + 1 <= 255 by omega) c0 c1
 have he:((ρ 7).i + 1) * (ρ 1).i = (ρ 7).i * (ρ 1).i + (ρ 1).i:=by rw [Int.add_mul,Int.one_mul]
 have hle:((ρ 7).i + 1) * (ρ 1).i <= (ρ 0).i * (ρ 1).i:=Int.mul_le_mul_of_nonneg_right (by omega) c0
 rw [add64 (by omega) (by omega),qc4 (by omega) (by omega),qc4 (by omega) (by omega)]
 refine ⟨by omega,by omega,hb.1,by omega,by omega,?_,by omega⟩
 split
 ·have:(ρ 1).i = 0:=by omega
  rw [this,Int.mul_zero]
 ·rfl
theorem qpC:qbu.ok Tryz.prog:=qzJ (by simp) fun ρ hg hp=>by
 have hp:0 <= (ρ 3).i:=hp
 simp [qla,qbu]
 refine ⟨fun h1=>⟨fun h2=>⟨fun h3=>⟨fun h4=>⟨by omega,?_⟩,fun _=>by omega⟩,fun _=>by omega⟩,fun _=>by omega⟩,fun _=>by omega⟩
 have hb:=qap (x:=(ρ 0).i) (y:=(ρ 1).i) (by omega) h2 (by omega) h4
 rw [qc4 (by omega) (by omega)]
 omega
theorem qp0:qeq.ok Tryz.prog:=qz4 (by simp) fun ρ hg hp=>by
 obtain ⟨h0,h1,h2⟩:=hp
 simp [qlT,qeq]
 unfold Go.Eng.big at h2
 exact ⟨by omega,by omega,by omega⟩
theorem qos:qb4.ok Tryz.prog:=q4G (by simp [qw2]) fun ρ hg hp=>by
 obtain ⟨hf,⟨o0,o1,o2,o3⟩,⟨s0,s1,s2,s3⟩,hle,hB,hB2,c0,c1⟩:=hp
 unfold Go.Eng.big at o3 s3
 simp [qrx,qb4,qt5,qdT]
 refine ⟨fun hc=>⟨hf,hB,?_⟩,fun hc=>⟨s1,⟨s1,hf,hB,?_⟩,fun i _ fd _ dd _ i0 i1 hfd hl hBd hd=>⟨fun hi=>?_,fun hi=>?_⟩⟩⟩
 ·rw [hc,qng (allB_list hB)]
 ·rw [show seg (bI (ρ 12).d) (ρ 9).i.toNat 0 = [] by simp [seg],qoE]
 ·have hcell:=qd8 hB2 (i:=(ρ 9).i + i.i) (by omega) (by omega)
  refine ⟨i0,s0,by omega,by omega,by omega,o0,by omega,by omega,⟨hfd,c0,c1,hcell⟩,fun m _ fd2 _ hf2 hm=>?_⟩
  rw [add64 (by omega) (by omega)]
  have hy:=qfH (d:=(ρ 12).d) (i:=(ρ 9).i + i.i) (by omega) (by omega)
  rw [show ((ρ 9).i + i.i).toNat = (ρ 9).i.toNat + i.i.toNat by omega] at hy
  have hz:=qfH (d:=dd.d) (i:=(ρ 3).i + i.i) (by omega) (by omega)
  rw [show ((ρ 3).i + i.i).toNat = (ρ 3).i.toNat + i.i.toNat by omega,hd,qko (by right; rw [qf2 (by rw [bI_len]; omega)]; omega)] at hz
  refine ⟨⟨by omega,by omega,hf2,by rw [qfl,hl],qjU hBd qhE.1 qhE.2,?_⟩,by omega⟩
  rw [qlY,hd,hm,show (i.i + 1).toNat = i.i.toNat + 1 by omega,qnj hz hy,show ((ρ 3).i + i.i).toNat = (ρ 3).i.toNat + i.i.toNat by omega]
  rfl
 ·have:i.i = (ρ 10).i:=by omega
  rw [this] at hd
  exact ⟨hfd,hl,hBd,hd⟩
theorem q2H:qeS.ok Tryz.prog:=qtY (by simp [qw2]) fun ρ hg hp=>by
 obtain ⟨hf,⟨o0,o1,o2,o3⟩,⟨s0,s1,s2,s3⟩,hle,hdis,hB,c0,c1⟩:=hp
 unfold Go.Eng.big at o3 s3
 simp [qjf,qeS,qrQ,qdT]
 refine ⟨fun hc=>⟨hf,hB,?_⟩,fun hc=>⟨s1,⟨s1,hf,hB,?_⟩,fun i _ fd _ dd _ i0 i1 hfd hl hBd hd=>⟨fun hi=>?_,fun hi=>?_⟩⟩⟩
 ·rw [hc,qng (allB_list hB)]
 ·rw [show seg (bI (ρ 6).d) (ρ 8).i.toNat 0 = [] by simp [seg],qoE]
 ·have hcell:=qd8 hBd (i:=(ρ 8).i + i.i) (by omega) (by omega)
  have hsl:(seg (bI (ρ 6).d) (ρ 8).i.toNat i.i.toNat).length = i.i.toNat:=qf2 (by rw [bI_len]; omega)
  have hy:=qfH (d:=dd.d) (i:=(ρ 8).i + i.i) (by omega) (by omega)
  rw [show ((ρ 8).i + i.i).toNat = (ρ 8).i.toNat + i.i.toNat by omega,hd,qko (by rw [hsl]; omega)] at hy
  have hz:=qfH (d:=dd.d) (i:=(ρ 3).i + i.i) (by omega) (by omega)
  rw [show ((ρ 3).i + i.i).toNat = (ρ 3).i.toNat + i.i.toNat by omega,hd,qko (by rw [hsl]; omega)] at hz
  refine ⟨i0,s0,by omega,by omega,by omega,o0,by omega,by omega,⟨hfd,c0,c1,hcell⟩,fun m _ fd2 _ hf2 hm=>?_⟩
  rw [add64 (by omega) (by omega)]
  refine ⟨⟨by omega,by omega,hf2,by rw [qfl,hl],qjU hBd qhE.1 qhE.2,?_⟩,by omega⟩
  rw [qlY,hd,hm,show (i.i + 1).toNat = i.i.toNat + 1 by omega,qnj hz hy,show ((ρ 3).i + i.i).toNat = (ρ 3).i.toNat + i.i.toNat by omega]
  rfl
 ·have:i.i = (ρ 9).i:=by omega
  rw [this] at hd
  exact ⟨hfd,hl,hBd,hd⟩
theorem q5l:qeU.ok Tryz.prog:=q49 (by simp [qw2]) fun ρ hg hp=>by
 obtain ⟨hf,⟨o0,o1,o2,o3⟩,hB,c0,c1⟩:=hp
 unfold Go.Eng.big at o3
 simp [qqC,qeU,qvd,qdT]
 refine ⟨o1,⟨o1,hf,hB,?_⟩,fun i _ fd _ dd _ i0 i1 hfd hl hBd hd=>⟨fun hi=>?_,fun hi=>?_⟩⟩
 ·rw [qwN]
 ·have hcell:=qd8 hBd (i:=(ρ 3).i + i.i) (by omega) (by omega)
  refine ⟨i0,o0,by omega,by omega,⟨hfd,hcell.1,hcell.2,c0,c1⟩,fun m _ fd2 _ hf2 hm=>?_⟩
  rw [add64 (by omega) (by omega)]
  have hz:=qfH (d:=dd.d) (i:=(ρ 3).i + i.i) (by omega) (by omega)
  rw [show ((ρ 3).i + i.i).toNat = (ρ 3).i.toNat + i.i.toNat by omega,hd,qyB (by omega)] at hz
  have hmr:=q0J hcell.1 hcell.2 c0 c1
  refine ⟨⟨by omega,by omega,hf2,by rw [qfl,hl],qjU hBd (by rw [hm]; exact hmr.1) (by rw [hm]; exact hmr.2),?_⟩,by omega⟩
  rw [qlY,hd,hm,show (i.i + 1).toNat = i.i.toNat + 1 by omega,qwO hz,show ((ρ 3).i + i.i).toNat = (ρ 3).i.toNat + i.i.toNat by omega]
 ·have:i.i = (ρ 4).i:=by omega
  rw [this] at hd
  exact ⟨hfd,hl,hBd,hd⟩
theorem q51:qeT.ok Tryz.prog:=q5x (by simp [qrI]) fun ρ hg hp=>by
 obtain ⟨hf,a0,a1⟩:=hp
 obtain ⟨hne,hpos⟩:=qck hf
 simp [qrG,qeT,qcg]
 refine ⟨fun h=>(hne h).elim,fun _=>⟨fun h=>⟨hf,by rw [qfN,if_pos h],h⟩,fun h=>⟨hpos,hf,fun u _ hu=>?_⟩⟩⟩
 rw [hu]
 obtain ⟨l0,l1⟩:=qcE a0 a1
 have e1:qa qaJ ((ρ 2).i.toNat + 513) = qbw (ρ 2).i.toNat:=rfl
 rw [e1,sub64 (by omega) (by omega)]
 exact ⟨(qck (.inr rfl)).2,a0,a1,by omega,by omega,.inr rfl,by rw [qfN,if_neg h]; rfl,h⟩
theorem q5a:qfe.ok Tryz.prog:=q4x (by simp [qrI]) fun ρ hg hp=>by
 obtain ⟨hf,a0,a1,e1⟩:=hp
 obtain ⟨hne,hpos⟩:=qck hf
 simp [qqH,qfe,qcg]
 refine ⟨fun h=>(hne h).elim,fun _=>⟨fun h=>⟨hf,by rw [qhv,if_pos h]⟩,fun he=>⟨fun h=>⟨hf,by rw [qhv,if_neg (by omega),if_pos h]⟩,fun h=>⟨hpos,hf,fun u _ hu=>?_⟩⟩⟩⟩
 rw [hu]
 obtain ⟨l0,l1⟩:=qcE a0 a1
 have e1:qa qaJ ((ρ 2).i.toNat + 513) = qbw (ρ 2).i.toNat:=rfl
 have hr:qc .rem .i64 (ρ 3).i 255 = (ρ 3).i.tmod 255:=rfl
 have hr0:0 <= (ρ 3).i.tmod 255:=Int.tmod_nonneg _ (by omega)
 have hr1:(ρ 3).i.tmod 255 < 255:=Int.tmod_lt_of_pos _ (by omega)
 have hb:=qap l0 (show qbw (ρ 2).i.toNat <= 255 by omega) hr0 (show (ρ 3).i.tmod 255 <= 255 by omega)
 rw [e1,hr,qc4 (by omega) (by omega)]
 have hr2:qc .rem .i64 (qbw (ρ 2).i.toNat * (ρ 3).i.tmod 255) 255 = (qbw (ρ 2).i.toNat * (ρ 3).i.tmod 255).tmod 255:=rfl
 have hr3:0 <= (qbw (ρ 2).i.toNat * (ρ 3).i.tmod 255).tmod 255:=Int.tmod_nonneg _ hb.1
 have hr4:(qbw (ρ 2).i.toNat * (ρ 3).i.tmod 255).tmod 255 < 255:=Int.tmod_lt_of_pos _ (by omega)
 rw [hr2]
 refine ⟨(qck (.inr rfl)).2,a0,a1,hr3,by omega,.inr rfl,?_⟩
 rw [qhv,if_neg (by omega),if_neg h]; rfl
end Go.Proofs

set_option linter.unusedSimpArgs false
set_option linter.unusedVariables false
set_option maxRecDepth 100000
namespace Go.Proofs
open Go Go.Eng

def qlk:Out:=(.fresh 1 (.br (.cmp .lss (.var 0) (.lit 1))
 (.ret 0 (sg 1 []))
 (.br (.cmp .gtr (.var 0) (.lit 255))
 (.ret 0 (sg 1 []))
 (.pre 0 (sg 0 [bv 1 0,bv 0 0]) (.both (.fresh 2 (.fresh 3 (.fresh 4 (.fresh 5 (.post 0 0 (sg 0 [bv 1 0,bv 0 0]) 2 (.fresh 6 (.inv 0 7 (sg 1000 [bv 1004 5,bv 1003 4,bv 1002 3,bg 1001 2,bt 1000 (.lit 0),bg 1005 6,bg 1006 1]) (.fresh 7 (.fresh 8 (.fresh 9 (.fresh 10 (.fresh 11 (.fresh 12 (.fresh 13 (.hyp 0 7 (.br (.cmp .lss (.var 7) (.var 0))
 (.need (.cmp .leq (.lit 0) (.arith .add .i64 (.arith .mul .i64 (.var 7) (.var 0)) (.var 7))) (.need (.cmp .lss (.arith .add .i64 (.arith .mul .i64 (.var 7) (.var 0)) (.var 7)) (.var 9)) (.need (.cmp .lss (.arith .add .i64 (.arith .mul .i64 (.var 7) (.var 0)) (.var 7)) (.dlen (.var 11))) (.back 0 7 (sg 1000 [bt 1004 (.dput (.var 11) (.arith .add .i64 (.arith .mul .i64 (.var 7) (.var 0)) (.var 7)) 0 (.rcons (.vint .u8 (.lit 1)) .rnil)),bv 1003 10,bv 1002 9,bg 1001 8,bt 1000 (.arith .add .i64 (.var 7) (.lit 1)),bg 1005 12,bg 1006 13])))))
 (.ret 1 (sg 1 [bv 4 11,bv 3 10,bv 2 9,bg 1 8])))))))))))))))))) .top)))))
theorem qut:qk ⟨Tryz.prog,qd2,[qaU],[qnU]⟩ 100000 Tryz.f166 = qlk:=by kernel_rfl
theorem qzq (hd:∀ c ∈ ([qaU]:List Ctr),c.ok Tryz.prog) (h:∀ ρ:Env,ρ.good->(qd2).pre ρ->qlk.den ⟨Tryz.prog,qd2,[qaU],[qnU]⟩ ρ):(qd2).ok Tryz.prog :=
 qf Tryz.func166 (fun a w=>Tryz.call166 a w) hd 100000 (fun ρ hg hp=>by rw [qut]; exact h ρ hg hp)
def qjZ:Out:=(.fresh 4 (.br (.and (.cmp .eql (.dlen (.var 1)) (.lit 0)) (.isnil 0))
 (.stuck 7 0 0)
 (.br (.cmp .lss (.var 2) (.lit 1))
 (.ret 0 (sg 4 [bv 4 1]))
 (.br (.cmp .gtr (.var 2) (.lit 255))
 (.ret 0 (sg 4 [bv 4 1]))
 (.br (.cmp .lss (.var 3) (.lit 1))
 (.ret 0 (sg 4 [bv 4 1]))
 (.br (.cmp .gtr (.var 3) (.lit 255))
 (.ret 0 (sg 4 [bv 4 1]))
 (.pre 0 (sg 0 [bv 1 3,bv 0 2]) (.both (.fresh 5 (.fresh 6 (.fresh 7 (.fresh 8 (.post 0 0 (sg 0 [bv 1 3,bv 0 2]) 5 (.fresh 9 (.inv 0 10 (sg 1000 [bv 1004 8,bv 1003 7,bv 1002 6,bg 1001 5,bv 1006 1,bt 1000 (.lit 0),bg 1005 9,bg 1007 4]) (.fresh 10 (.fresh 11 (.fresh 12 (.fresh 13 (.fresh 14 (.fresh 15 (.fresh 16 (.fresh 17 (.hyp 0 10 (.br (.cmp .lss (.var 10) (.var 2))
 (.inv 1 18 (sg 1000 [bv 1004 14,bv 1003 13,bv 1002 12,bg 1001 11,bv 1006 16,bt 1008 (.lit 0),bv 1000 10,bg 1005 15,bg 1007 17]) (.fresh 18 (.fresh 19 (.fresh 20 (.fresh 21 (.fresh 22 (.fresh 23 (.fresh 24 (.fresh 25 (.fresh 26 (.hyp 1 18 (.br (.cmp .lss (.var 26) (.var 3))
 (.both (.pre 1 (sg 0 [bv 1 24,bv 3 26,bt 2 (.conv .u8 (.var 18)),bg 0 0]) (.both (.fresh 27 (.fresh 28 (.post 1 0 (sg 0 [bv 1 24,bv 3 26,bt 2 (.conv .u8 (.var 18)),bg 0 0]) 27 (.need (.cmp .leq (.lit 0) (.arith .add .i64 (.arith .mul .i64 (.var 18) (.var 3)) (.var 26))) (.need (.cmp .lss (.arith .add .i64 (.arith .mul .i64 (.var 18) (.var 3)) (.var 26)) (.var 20)) (.need (.cmp .lss (.arith .add .i64 (.arith .mul .i64 (.var 18) (.var 3)) (.var 26)) (.dlen (.var 22))) (.both (.back 1 18 (sg 1000 [bt 1004 (.dput (.var 22) (.arith .add .i64 (.arith .mul .i64 (.var 18) (.var 3)) (.var 26)) 0 (.rcons (.vint .u8 (.var 27)) .rnil)),bv 1003 21,bv 1002 20,bg 1001 19,bv 1006 28,bt 1008 (.arith .add .i64 (.var 26) (.lit 1)),bv 1000 18,bg 1005 23,bg 1007 25])) .top))))))) .top)) .top)
 (.back 0 10 (sg 1000 [bv 1004 22,bv 1003 21,bv 1002 20,bg 1001 19,bv 1006 24,bt 1000 (.arith .add .i64 (.var 18) (.lit 1)),bg 1005 23,bg 1007 25]))))))))))))))
 (.ret 1 (sg 4 [bv 8 14,bv 7 16,bv 6 13,bv 5 12,bg 4 11]))))))))))))))))))) .top))))))))
theorem qtb:qk ⟨Tryz.prog,qcK,[qaU,qfe],[qlc,qm5]⟩ 100000 Tryz.f150 = qjZ:=by kernel_rfl
theorem qxb (hd:∀ c ∈ ([qaU,qfe]:List Ctr),c.ok Tryz.prog) (h:∀ ρ:Env,ρ.good->(qcK).pre ρ->qjZ.den ⟨Tryz.prog,qcK,[qaU,qfe],[qlc,qm5]⟩ ρ):(qcK).ok Tryz.prog :=
 qf Tryz.func150 (fun a w=>Tryz.call150 a w) hd 100000 (fun ρ hg hp=>by rw [qtb]; exact h ρ hg hp)
@[simp] def qpL:Sg:=sg 0 [bv 13 15,bv 12 14,bv 7 42,bv 6 43,bv 1 45,bt 14 (.icell (.var 7) (.plus (.var 50) (.var 49)) 0),bv 11 58,bv 10 57,bv 9 56,bg 8 11,bv 5 55,bv 4 54,bv 3 53,bg 2 40,bg 0 0]
def qod:Out:=(.fresh 16 (.fresh 17 (.fresh 18 (.br (.and (.cmp .eql (.dlen (.var 1)) (.lit 0)) (.isnil 0))
 (.stuck 7 0 0)
 (.pre 0 (sg 0 [bv 6 8,bv 5 7,bv 4 6,bv 3 5,bg 2 4,bv 1 3,bv 0 2]) (.both (.fresh 19 (.post 0 0 (sg 0 [bv 6 8,bv 5 7,bv 4 6,bv 3 5,bg 2 4,bv 1 3,bv 0 2]) 19 (.br (.not (.var 19))
 (.ret 0 (sg 16 [bv 16 1]))
 (.pre 0 (sg 0 [bv 6 15,bv 5 14,bv 4 13,bv 3 12,bg 2 11,bv 1 10,bv 0 9]) (.both (.fresh 20 (.post 0 0 (sg 0 [bv 6 15,bv 5 14,bv 4 13,bv 3 12,bg 2 11,bv 1 10,bv 0 9]) 20 (.br (.not (.var 20))
 (.ret 0 (sg 16 [bv 16 1]))
 (.br (.cmp .neq (.var 3) (.var 9))
 (.ret 1 (sg 16 [bv 16 1]))
 (.pre 1 (sg 0 [bv 1 10,bv 0 2]) (.both (.fresh 21 (.fresh 22 (.fresh 23 (.fresh 24 (.post 1 0 (sg 0 [bv 1 10,bv 0 2]) 21 (.fresh 25 (.inv 0 26 (sg 1000 [bv 1004 24,bv 1003 23,bv 1002 22,bg 1001 21,bv 1006 1,bt 1000 (.lit 0),bg 1005 25,bg 1008 17,bg 1007 16,bg 1009 18]) (.fresh 26 (.fresh 27 (.fresh 28 (.fresh 29 (.fresh 30 (.fresh 31 (.fresh 32 (.fresh 33 (.fresh 34 (.fresh 35 (.hyp 0 26 (.br (.cmp .lss (.var 26) (.var 2))
 (.pre 2 (sg 0 [bv 6 8,bv 5 7,bv 7 26,bv 4 6,bv 3 5,bg 2 4,bv 1 3,bv 0 2]) (.both (.fresh 36 (.fresh 37 (.fresh 38 (.post 2 0 (sg 0 [bv 6 8,bv 5 7,bv 7 26,bv 4 6,bv 3 5,bg 2 4,bv 1 3,bv 0 2]) 36 (.need (.cmp .leq (.lit 0) (.var 37)) (.inv 1 39 (sg 1000 [bv 1004 30,bv 1003 29,bv 1002 28,bg 1001 27,bv 1006 32,bt 1010 (.lit 0),bv 1013 38,bv 1012 37,bv 1011 36,bv 1000 26,bg 1005 31,bg 1008 34,bg 1007 33,bg 1009 35]) (.fresh 39 (.fresh 40 (.fresh 41 (.fresh 42 (.fresh 43 (.fresh 44 (.fresh 45 (.fresh 46 (.fresh 47 (.fresh 48 (.fresh 49 (.fresh 50 (.fresh 51 (.fresh 52 (.hyp 1 39 (.br (.cmp .lss (.var 49) (.var 51))
 (.need (.cmp .leq (.lit 0) (.var 49)) (.need (.cmp .leq (.lit 0) (.var 50)) (.need (.cmp .leq (.lit 0) (.plus (.var 50) (.var 49))) (.need (.cmp .lss (.plus (.var 50) (.var 49)) (.dlen (.var 7))) (.both (.pre 2 (sg 0 [bv 6 42,bv 5 43,bv 7 39,bv 4 42,bv 3 41,bg 2 40,bv 1 10,bv 0 2]) (.both (.fresh 53 (.fresh 54 (.fresh 55 (.post 2 0 (sg 0 [bv 6 42,bv 5 43,bv 7 39,bv 4 42,bv 3 41,bg 2 40,bv 1 10,bv 0 2]) 53 (.both (.pre 2 (sg 0 [bv 6 15,bv 5 14,bv 7 49,bv 4 13,bv 3 12,bg 2 11,bv 1 10,bv 0 9]) (.both (.fresh 56 (.fresh 57 (.fresh 58 (.post 2 0 (sg 0 [bv 6 15,bv 5 14,bv 7 49,bv 4 13,bv 3 12,bg 2 11,bv 1 10,bv 0 9]) 56 (.both (.pre 3 qpL (.both (.fresh 59 (.fresh 60 (.post 3 0 qpL 59 (.back 1 39 (sg 1000 [bv 1004 60,bv 1003 42,bv 1002 41,bg 1001 40,bv 1006 59,bt 1010 (.arith .add .i64 (.var 49) (.lit 1)),bv 1013 52,bv 1012 51,bv 1011 50,bv 1000 39,bg 1005 44,bg 1008 47,bg 1007 46,bg 1009 48]))))) .top)) .top))))) .top)) .top))))) .top)) .top)))))
 (.back 0 26 (sg 1000 [bv 1004 43,bv 1003 42,bv 1002 41,bg 1001 40,bv 1006 45,bt 1000 (.arith .add .i64 (.var 39) (.lit 1)),bg 1005 44,bg 1008 47,bg 1007 46,bg 1009 48])))))))))))))))))))))))) .top))
 (.ret 2 (sg 16 [bv 20 30,bv 19 32,bv 18 29,bv 17 28,bg 16 27]))))))))))))))))))))) .top)))))) .top))))) .top))))))
theorem qwJ:qk ⟨Tryz.prog,qdF,[qbu,qaU,qb5,qb4],[qrg,qrK]⟩ 100000 Tryz.f151 = qod:=by kernel_rfl
theorem q2a (hd:∀ c ∈ ([qbu,qaU,qb5,qb4]:List Ctr),c.ok Tryz.prog) (h:∀ ρ:Env,ρ.good->(qdF).pre ρ->qod.den ⟨Tryz.prog,qdF,[qbu,qaU,qb5,qb4],[qrg,qrK]⟩ ρ):(qdF).ok Tryz.prog :=
 qf Tryz.func151 (fun a w=>Tryz.call151 a w) hd 100000 (fun ρ hg hp=>by rw [qwJ]; exact h ρ hg hp)
end Go.Proofs
