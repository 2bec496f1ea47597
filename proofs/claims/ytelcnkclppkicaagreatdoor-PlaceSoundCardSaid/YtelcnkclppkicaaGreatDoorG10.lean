/- Texts QJ, QK, QL, RP, RF, RE, RG, TA, TC, TI, TJ, TL, TM. -/
import Derived.Test.YtelcnkclppkicaaGreatDoorG9
import Derived.Test.YtelcnkclppkicaaGreatDoorG5
import Derived.Test.YtelcnkclppkicaaGreatDoorProg
import Derived.Test.YtelcnkclppkicaaGreatDoorG8
import Derived.Test.YtelcnkclppkicaaGreatDoorG7
set_option linter.unusedSimpArgs false
set_option linter.unusedVariables false
set_option maxRecDepth 100000
namespace Go.Proofs
open Go Go.Eng

@[simp] def qbN:T:=.rcons (.vint .u8 (.lit 1)) (.rcons o8 (.rcons o8 (.rcons o8 (.rcons o8 (.rcons o8 (.rcons o8 (.rcons o8 (.rcons o8 (.rcons o8 (.rcons o8 (.rcons o8 (.rcons o8 (.rcons o8 (.rcons o8 (.rcons o8 (.rcons o8 (.rcons o8 (.rcons o8 (.rcons o8 (.rcons o8 (.rcons o8 (.rcons o8 (.rcons o8 (.rcons o8 (.rcons o8 (.rcons o8 (.rcons o8 (.rcons o8 (.rcons o8 (.rcons o8 (.rcons o8 .rnil)))))))))))))))))))))))))))))))
@[simp] def qgR:Sg:=sg 0 [bg 9 68,bv 8 67,bv 4 63,bv 3 62,bv 7 66,bv 6 65,bg 5 64,bg 2 61,bt 1 (s8 40),bg 0 39]
@[simp] def qoh:Sg:=sg 0 [bv 11 1,bv 9 28,bv 8 32,bv 7 28,bt 6 (.lit 1),bg 5 27,bt 3 (.lit 1),bt 2 (.lit 1),bt 1 (.lit 1),bt 0 (.lit 1),bt 4 (r8 26),bg 10 0]
@[simp] def qoi:Sg:=sg 0 [bv 11 1,bt 9 (.lit 1),bt 8 (.rcons (.vint .u8 (.lit 120)) .rnil),bv 1 23,bt 7 (.lit 1),bt 6 (.lit 1),bg 5 24,bt 4 (.lit 1),bt 3 (.lit 1),bt 2 (.lit 1),bg 0 22,bg 10 0]
@[simp] def qnQ:Sg:=sg 0 [bv 27 1,bv 25 59,bv 24 60,bv 19 52,bv 18 53,bg 9 48,bv 8 47,bv 4 43,bv 3 42,bv 7 46,bv 6 45,bg 5 44,bg 2 41,bt 1 (r8 40),bv 23 59,bt 22 (.dlen (.var 60)),bg 21 58,bt 20 (.icell (.var 56) (.lit 0) 0),bv 17 52,bt 16 (.lit 1),bg 15 51,bt 13 (.lit 1),bt 12 (.lit 1),bt 11 (.lit 1),bt 10 (.lit 1),bt 14 (r8 50),bg 0 39,bg 26 0]
@[simp] def qqt:Sg:=sg 0 [bv 3 1,bt 1 (.lit 1),bt 0 qbN,bg 2 0]
@[simp] def qpV:Sg:=sg 0 [bv 3 1,bt 1 (.lit 0),bt 0 qbN,bg 2 0]
@[simp] def qpw:Sg:=sg 0 [bv 3 1,bt 1 (.lit 3),bt 0 qbN,bg 2 0]
@[simp] def qqx:Sg:=sg 0 [bg 5 13,bv 4 12,bt 3 (.lit 5),bt 2 (.icell (.var 6) (.lit 0) 0),bt 1 qbN,bg 0 11]
@[simp] def qql:Sg:=sg 0 [bv 9 1,bv 7 5,bv 6 6,bv 5 5,bt 4 (.lit 2),bg 3 3,bt 2 (.lit 2),bt 1 (.icell (.var 6) (.lit 2) 0),bt 0 qbN,bg 8 0]
@[simp] def qqF:Sg:=sg 0 [bv 17 1,bt 15 (.lit 0),bt 14 .dnil,bv 10 5,bv 9 6,bg 5 16,bv 4 12,bt 13 (.lit 0),bt 12 (.lit 0),(11,.nil),bv 8 5,bv 7 4,bg 6 3,bt 3 (.lit 17),bt 2 (.icell (.var 6) (.lit 1) 0),bt 1 qbN,bg 0 11,bg 16 0]
@[simp] def qpX:Sg:=sg 0 [bv 17 1,bt 15 (.lit 0),bt 14 .dnil,bv 10 5,bv 9 6,bg 5 14,bv 4 12,bt 13 (.lit 0),bt 12 (.lit 0),(11,.nil),bv 8 5,bv 7 4,bg 6 3,bt 3 (.lit 16),bt 2 (.icell (.var 6) (.lit 1) 0),bt 1 qbN,bg 0 11,bg 16 0]
@[simp] def qqz:Sg:=sg 0 [bv 11 1,bt 6 (.lit 3),bt 5 (.dapp (.rcons (.vint .i64 (.lit 0)) .rnil) (.dapp (.rcons (.vint .i64 (.lit 1)) .rnil) (.rcons (.vint .i64 (.lit 2)) .rnil))),bt 9 (.bl false),bt 8 (.bl true),bt 7 (.lit 3),bt 4 (.lit 3),bt 3 (.lit 3),bg 2 9,bt 1 (.lit 3),bt 0 qbN,bg 10 0]
@[simp] def qqu:Sg:=sg 0 [bv 11 1,bt 6 (.lit 3),bt 5 (.dapp (.rcons (.vint .i64 (.lit 0)) .rnil) (.dapp (.rcons (.vint .i64 (.lit 1)) .rnil) (.rcons (.vint .i64 (.lit 2)) .rnil))),bt 9 (.bl false),bt 8 (.bl false),bt 7 (.lit 3),bt 4 (.lit 3),bt 3 (.lit 3),bg 2 7,bt 1 (.lit 1),bt 0 qbN,bg 10 0]
def qo1:Out:=(.fresh 2 (.pre 0 qpw (.both (.fresh 3 (.fresh 4 (.fresh 5 (.fresh 6 (.post 0 0 qpw 3 (.need (.cmp .leq (.lit 0) (.var 4)) (.br (.cmp .neq (.var 4) (.lit 3))
 (.stuck 7 0 0)
 (.fresh 7 (.pre 1 qqu (.both (.fresh 8 (.post 1 0 qqu 8 (.br (.cmp .neq (.var 8) (.lit 1))
 (.stuck 7 0 0)
 (.fresh 9 (.pre 1 qqz (.both (.fresh 10 (.post 1 0 qqz 10 (.br (.cmp .neq (.var 10) (.lit 2))
 (.stuck 7 0 0)
 (.pre 2 (sg 0 []) (.both (.fresh 11 (.fresh 12 (.fresh 13 (.post 2 0 (sg 0 []) 11 (.need (.cmp .lss (.lit 0) (.var 4)) (.need (.cmp .lss (.lit 0) (.dlen (.var 6))) (.both (.pre 3 qqx (.both (.fresh 14 (.post 3 0 qqx 14 (.need (.cmp .lss (.lit 1) (.var 4)) (.need (.cmp .lss (.lit 1) (.dlen (.var 6))) (.both (.pre 4 qpX (.both (.fresh 15 (.fresh 16 (.post 4 0 qpX 15 (.br (.not (.var 15))
 (.both (.both (.both (.both (.stuck 7 0 0) .top) .top) .top) .top)
 (.both (.pre 4 qqF (.both (.fresh 17 (.fresh 18 (.post 4 0 qqF 17 (.br (.var 17)
 (.both (.both (.both (.stuck 7 0 0) .top) .top) .top)
 (.need (.cmp .lss (.lit 2) (.var 4)) (.need (.cmp .lss (.lit 2) (.dlen (.var 6))) (.know (.cmp .leq (.dlen (.var 6)) (.var 5)) (.need (.cmp .leq (.lit 0) (.var 5)) (.need (.cmp .leq (.lit 2) (.var 5)) (.both (.pre 5 qql (.both (.fresh 19 (.post 5 0 qql 19 (.br (.not (.var 19))
 (.both (.both (.stuck 7 0 0) .top) .top)
 (.both (.pre 6 qpV (.both (.fresh 20 (.post 6 0 qpV 20 (.both (.pre 6 qqt (.both (.fresh 21 (.post 6 0 qqt 21 (.br (.c2 .req (r8 20) (r8 21))
 (.stuck 7 0 0)
 (.pre 7 (sg 0 []) (.both (.fresh 22 (.fresh 23 (.post 7 0 (sg 0 []) 22 (.fresh 24 (.fresh 25 (.pre 8 qoi (.both (.fresh 26 (.fresh 27 (.fresh 28 (.fresh 29 (.fresh 30 (.fresh 31 (.fresh 32 (.fresh 33 (.fresh 34 (.post 8 0 qoi 26 (.fresh 35 (.pre 9 qoh (.both (.fresh 36 (.fresh 37 (.post 9 0 qoh 36 (.fresh 38 (.both (.pre 10 (sg 0 [bt 0 (r8 36)]) (.both (.fresh 39 (.post 10 0 (sg 0 [bt 0 (r8 36)]) 39 (.pack [.cells 38 24 [(x8 0 36),(x8 1 36),(x8 2 36),(x8 3 36),(x8 4 36),(x8 5 36),(x8 6 36),(x8 7 36),(x8 8 36),(x8 9 36),(x8 10 36),(x8 11 36),(x8 12 36),(x8 13 36),(x8 14 36),(x8 15 36),(x8 16 36),(x8 17 36),(x8 18 36),(x8 19 36),(x8 20 36),(x8 21 36),(x8 22 36),(x8 23 36),(x8 24 36),(x8 25 36),(x8 26 36),(x8 27 36),(x8 28 36),(x8 29 36),(x8 30 36),(x8 31 36)],.arr 22 151 [CK.int .u32,CK.int .i32,CK.int .u32,CK.int .u8,CK.int .u8,CK.int .u8,CK.int .u8,CK.int .u8,CK.int .u8,CK.int .u8,CK.int .u8,CK.int .u8,CK.int .u8,CK.int .u8,CK.int .u8,CK.int .u8,CK.int .u8,CK.int .u8,CK.int .u8,CK.int .u8,CK.int .u8,CK.int .u8,CK.int .u8,CK.int .u8,CK.int .u8,CK.int .u8,CK.int .u8,CK.int .u8,CK.int .u8,CK.int .u8,CK.int .u8,CK.int .u8,CK.int .u8,CK.int .u8,CK.int .u8,CK.int .u8,CK.int .u8,CK.int .u8,CK.int .u8,CK.int .u8,CK.int .u8,CK.int .u8,CK.int .u8,CK.int .u8,CK.int .u8,CK.int .u8,CK.int .u8,CK.int .u8,CK.int .u8,CK.int .u8,CK.int .u8,CK.int .u8,CK.int .u8,CK.int .u8,CK.int .u8,CK.int .u8,CK.int .u8,CK.int .u8,CK.int .u8,CK.int .u8,CK.int .u8,CK.int .u8,CK.int .u8,CK.int .u8,CK.int .u8,CK.int .u8,CK.int .u8,CK.int .u8,CK.int .u8,CK.int .u8,CK.int .u8,CK.int .u8,CK.int .u8,CK.int .u8,CK.int .u8,CK.int .u8,CK.int .u8,CK.int .u8,CK.int .u8,CK.int .u8,CK.int .u8,CK.int .u8,CK.int .u8,CK.int .u8,CK.int .u8,CK.int .u8,CK.int .u8,CK.int .u8,CK.int .u8,CK.int .u8,CK.int .u8,CK.int .u8,CK.int .u8,CK.int .u8,CK.int .u8,CK.int .u8,CK.int .u8,CK.int .u8,CK.int .u8,CK.int .u8,CK.int .u8,CK.int .u8,CK.int .u8,CK.int .u8,CK.int .u8,CK.int .u8,CK.int .u8,CK.int .u8,CK.int .u8,CK.int .u8,CK.int .u8,CK.int .u8,CK.int .u8,CK.int .u8,CK.int .u8,CK.int .u8,CK.int .u8,CK.int .u8,CK.int .u8,CK.int .u8,CK.int .u8,CK.int .u8,CK.int .u8,CK.int .u8,CK.int .u8,CK.int .u8,CK.int .u8,CK.int .u8,CK.int .u8,CK.int .u8,CK.int .u8,CK.int .u8,CK.int .u8,CK.int .u8,CK.int .u8,CK.int .u8,CK.int .u8,CK.int .u8,CK.int .u8,CK.int .u8,CK.int .u8,CK.int .u8,CK.int .u8,CK.int .u8,CK.int .u8,CK.int .u8,CK.int .u8,CK.int .u8,CK.int .u8,CK.int .u8,CK.int .u8,CK.int .u8,CK.int .u8,CK.int .u8,CK.int .u8,CK.int .u8,CK.int .u8,CK.int .u8,CK.int .u8,CK.int .u8,CK.int .u8,CK.int .u8,CK.int .u8,CK.int .u8,CK.int .u8,CK.int .u8,CK.int .u8,CK.int .u8,CK.int .u8,CK.int .u8,CK.int .u8,CK.int .u8,CK.int .u8,CK.int .u8,CK.int .u8,CK.int .u8,CK.int .u8,CK.int .u8,CK.int .u8,CK.int .u8,CK.int .u8,CK.int .u8,CK.int .u8,CK.int .u8,CK.int .u8,CK.int .u8,CK.int .u8,CK.int .u8,CK.int .u8,CK.int .u8,CK.int .u8,CK.int .u8,CK.int .u8,CK.int .u8,CK.int .u8,CK.int .u8,CK.int .u8,CK.int .u8,CK.int .u8,CK.int .u8,CK.int .u8,CK.int .u8,CK.int .u8,CK.int .u8,CK.int .u8,CK.int .u8,CK.int .u8,CK.int .u8,CK.int .u8,CK.int .u8,CK.int .u8,CK.int .u8,CK.int .u8,CK.int .u8,CK.int .u8,CK.int .u8,CK.int .u8,CK.int .u8,CK.int .u8,CK.int .u8,CK.int .u8,CK.int .u8,CK.int .u8,CK.int .u8,CK.int .u8,CK.int .u8,CK.int .u8,CK.int .u8,CK.int .u8,CK.int .u8,CK.int .u8,CK.int .u8,CK.int .u8,CK.int .u8,CK.int .u8,CK.int .u8,CK.int .u8,CK.int .u8,CK.int .u8,CK.int .u8,CK.int .u8,CK.int .u8,CK.int .u8,CK.int .u8,CK.int .u8,CK.int .u8,CK.int .u8,CK.int .u8,CK.int .u8,CK.int .u8,CK.int .u8,CK.int .u8,CK.int .u8,CK.int .u8,CK.int .u8,CK.int .u8,CK.int .u8,CK.int .u8,CK.int .u8,CK.int .u8,CK.int .u8,CK.int .u8,CK.int .u8,CK.int .u8,CK.int .u8,CK.int .u8,CK.int .u8,CK.int .u8,CK.int .u8,CK.int .u8,CK.int .u8,CK.int .u8,CK.int .u8,CK.int .u8,CK.int .u8,CK.int .u8,CK.int .u8,CK.int .u8,CK.int .u8,CK.int .u8,CK.int .u8,CK.int .u8,CK.int .u8,CK.int .u8,CK.int .u8,CK.int .u8,CK.int .u8,CK.int .u8,CK.int .u8,CK.int .u8,CK.int .u8,CK.int .u8,CK.int .u8,CK.int .u8,CK.int .u8,CK.int .u8,CK.int .u8,CK.int .u8,CK.int .u8,CK.int .u8,CK.int .u8,CK.int .u8,CK.int .u8,CK.int .u8,CK.int .u8,CK.int .u8,CK.int .u8,CK.int .u8,CK.int .u8,CK.int .u8,CK.int .u8,CK.int .u8,CK.int .u8,CK.int .u8,CK.int .u8,CK.int .u8,CK.int .u8,CK.int .u8,CK.int .u8,CK.int .u8,CK.int .u8,CK.int .u8,CK.int .u8,CK.int .u8,CK.int .u8,CK.int .u8,CK.int .u8,CK.int .u8,CK.int .u8,CK.int .u8,CK.int .u8,CK.int .u8,CK.int .u8,CK.int .u8,CK.int .u8,CK.int .u8,CK.int .u8,CK.int .u8,CK.int .u8,CK.int .u8,CK.int .u8,CK.int .u8,CK.int .u8,CK.int .u8,CK.int .u8,CK.int .u8,CK.int .u8,CK.int .u8,CK.int .u8,CK.int .u8,CK.int .u8,CK.int .u8,CK.int .u8,CK.int .u8,CK.int .u8,CK.int .u8,CK.int .u8,CK.int .u8,CK.int .u8,CK.int .u8,CK.int .u8,CK.int .u8,CK.int .u8,CK.int .u8,CK.int .u8,CK.int .u8,CK.int .u8,CK.int .u8,CK.int .u8,CK.int .u8,CK.int .u8,CK.int .u8,CK.int .u8,CK.int .u8,CK.int .u8,CK.int .u8,CK.int .u8,CK.int .u8,CK.int .u8,CK.int .u8,CK.int .u8,CK.int .u8,CK.int .u8,CK.int .u8,CK.int .u8,CK.int .u8,CK.int .u8,CK.int .u8,CK.int .u8,CK.int .u8,CK.int .u8,CK.int .u8,CK.int .u8,CK.int .u8,CK.int .u8,CK.int .u8,CK.int .u8,CK.int .u8,CK.int .u8,CK.int .u8,CK.int .u8,CK.int .u8,CK.int .u8,CK.int .u8,CK.int .u8,CK.int .u8,CK.int .u8,CK.int .u8,CK.int .u8,CK.int .u8,CK.int .u8,CK.int .u8,CK.int .u8,CK.int .u8,CK.int .u8,CK.int .u8,CK.int .u8,CK.int .u8,CK.int .u8,CK.int .u8,CK.int .u8,CK.int .u8,CK.int .u8,CK.int .u8,CK.int .u8,CK.int .u8,CK.int .u8,CK.int .u8,CK.int .u8,CK.int .u8,CK.int .u8,CK.int .u8,CK.int .u8,CK.int .u8,CK.int .u8,CK.int .u8,CK.int .u8,CK.int .u8,CK.int .u8,CK.int .u8,CK.int .u8,CK.int .u8,CK.int .u8,CK.int .u8,CK.int .u8,CK.int .u8,CK.int .u8,CK.int .u8,CK.int .u8,CK.int .u8,CK.int .u8,CK.int .u8,CK.int .u8,CK.int .u8,CK.int .u8,CK.int .u8,CK.int .u8,CK.int .u8,CK.int .u8,CK.int .u8,CK.int .u8,CK.int .u8,CK.int .u8,CK.int .u8,CK.int .u8,CK.int .u8,CK.int .u8,CK.int .u8,CK.int .u8,CK.int .u8,CK.int .u8,CK.int .u8,CK.int .u8,CK.int .u8,CK.int .u8,CK.int .u8,CK.int .u8,CK.int .u8,CK.int .u8,CK.int .u8,CK.int .u8,CK.int .u8,CK.int .u8,CK.int .u8,CK.int .u8,CK.int .u8,CK.int .u8,CK.int .u8,CK.int .u8,CK.int .u8,CK.int .u8,CK.int .u8,CK.int .u8,CK.int .u8,CK.int .u8,CK.int .u8,CK.int .u8,CK.int .u8,CK.int .u8,CK.int .u8,CK.int .u8,CK.int .u8,CK.int .u8,CK.int .u8,CK.int .u8,CK.int .u8,CK.int .u8,CK.int .u8,CK.int .u8,CK.int .u8,CK.int .u8,CK.int .u8,CK.int .u8,CK.int .i64,CK.int .i64,CK.int .i64,CK.int .i64,CK.int .i64,CK.int .i64,CK.int .i64,CK.int .i64,CK.int .i64,CK.int .i64,CK.int .i64,CK.int .i64,CK.int .i64,CK.int .i64,CK.int .i64,CK.int .i64,CK.int .i64,CK.int .i64,CK.int .i64,CK.int .i64,CK.int .i64,CK.int .i64,CK.int .i64,CK.int .i64,CK.int .i64,CK.int .i64,CK.int .i64,CK.int .i64,CK.int .i64,CK.int .i64,CK.int .i64,CK.int .i64,CK.int .i64,CK.int .i64,CK.int .i64,CK.int .i64,CK.int .i64,CK.int .i64,CK.int .i64,CK.int .i64,CK.int .i64,CK.int .i64,CK.int .i64,CK.int .i64,CK.int .i64,CK.int .i64,CK.int .i64,CK.int .i64,CK.int .i64,CK.int .i64,CK.int .i64,CK.int .i64,CK.int .i64,CK.int .i64,CK.int .i64,CK.int .i64,CK.int .i64,CK.int .i64,CK.int .i64,CK.int .i64,CK.int .i64,CK.int .i64,CK.int .i64,CK.int .i64,CK.int .i64,CK.int .i64,CK.int .i64,CK.int .i64,CK.int .i64,CK.int .i64,CK.int .i64,CK.int .i64,CK.int .i64,CK.int .i64,CK.int .i64,CK.int .i64,CK.int .i64,CK.int .i64,CK.int .i64,CK.int .i64,CK.int .i64,CK.int .i64,CK.int .i64,CK.int .i64,CK.int .i64,CK.int .i64,CK.int .i64,CK.int .i64,CK.int .i64,CK.int .i64,CK.int .i64,CK.int .i64,CK.int .i64,CK.int .i64,CK.int .i64,CK.int .i64,CK.int .i64,CK.int .i64,CK.int .i64,CK.int .i64,CK.int .i64,CK.int .i64,CK.int .i64,CK.int .i64,CK.int .i64,CK.int .i64,CK.int .i64,CK.int .i64,CK.int .i64,CK.int .i64,CK.int .i64,CK.int .i64,CK.int .i64,CK.int .i64,CK.int .i64,CK.int .i64,CK.int .i64,CK.int .i64,CK.int .i64,CK.int .i64,CK.int .i64,CK.int .i64,CK.int .i64,CK.int .i64,CK.int .i64,CK.int .i64,CK.int .i64,CK.int .i64,CK.int .i64,CK.int .i64,CK.int .i64,CK.int .i64,CK.int .i64,CK.int .i64,CK.int .i64,CK.int .i64,CK.int .i64,CK.int .i64,CK.int .i64,CK.int .i64,CK.int .i64,CK.int .i64,CK.int .i64,CK.int .i64,CK.int .i64,CK.int .i64,CK.int .i64,CK.int .i64,CK.int .i64,CK.int .i64,CK.int .i64,CK.int .i64,CK.int .i64,CK.int .i64,CK.int .i64,CK.int .i64,CK.int .i64,CK.int .i64,CK.int .i64,CK.int .i64,CK.int .i64,CK.int .i64,CK.int .i64,CK.int .i64,CK.int .i64,CK.int .i64,CK.int .i64,CK.int .i64,CK.int .i64,CK.int .i64,CK.int .i64,CK.int .i64,CK.int .i64,CK.int .i64,CK.int .i64,CK.int .i64,CK.int .i64,CK.int .i64,CK.int .i64,CK.int .i64,CK.int .i64,CK.int .i64,CK.int .i64,CK.int .i64,CK.int .i64,CK.int .i64,CK.int .i64,CK.int .i64,CK.int .i64,CK.int .i64,CK.int .i64,CK.int .i64,CK.int .i64,CK.int .i64,CK.int .i64,CK.int .i64,CK.int .i64,CK.int .i64,CK.int .i64,CK.int .i64,CK.int .i64,CK.int .i64,CK.int .i64,CK.int .i64,CK.int .i64,CK.int .i64,CK.int .i64,CK.int .i64,CK.int .i64,CK.int .i64,CK.int .i64,CK.int .i64,CK.int .i64,CK.int .i64,CK.int .i64,CK.int .i64,CK.int .i64,CK.int .i64,CK.int .i64,CK.int .i64,CK.int .i64,CK.int .i64,CK.int .i64,CK.int .i64,CK.int .i64,CK.int .i64,CK.int .i64,CK.int .i64,CK.int .i64,CK.int .i64,CK.int .i64,CK.int .i64,CK.int .i64,CK.int .i64,CK.int .i64,CK.int .i64,CK.int .i64,CK.int .i64,CK.int .i64,CK.int .i64,CK.int .i64,CK.int .i64,CK.int .i64,CK.int .i64,CK.int .i64,CK.int .i64,CK.int .i64,CK.int .i64,CK.int .i64,CK.int .i64,CK.int .i64,CK.int .i64,CK.int .i64,CK.int .i64,CK.int .i64,CK.int .i64] (.var 31) (.lit 1),.cells 11 179 [(.var 12)],.cells 9 3 [(.vint .i64 (.lit 0)),(.vint .i64 (.lit 1)),(.vint .i64 (.lit 2))],.cells 7 3 [(.vint .i64 (.lit 0)),(.vint .i64 (.lit 1)),(.vint .i64 (.lit 2))],.arr 3 3 [CK.int .i64] (.var 6) (.var 5),.cells 2 24 [(.vint .u8 (.lit 1)),o8,o8,o8,o8,o8,o8,o8,o8,o8,o8,o8,o8,o8,o8,o8,o8,o8,o8,o8,o8,o8,o8,o8,o8,o8,o8,o8,o8,o8,o8,o8]] 40 (.cut 0 39 (sg 1000 [bg 1018 34,bv 1017 33,bv 1014 32,bv 1013 28,bg 1012 27,bt 1011 (r8 26),bg 1009 40,bt 1008 .dnil,bt 1004 (.lit 0),bt 1003 .dnil,bt 1007 (.lit 0),bt 1006 (.lit 0),(1005,.nil),(1002,.nil),bt 1001 (s8 36),bg 1000 39,bv 1016 30,bg 1015 29,bg 1010 35]))))) .top)) (.fresh 39 (.fresh 40 (.fresh 41 (.fresh 42 (.fresh 43 (.fresh 44 (.fresh 45 (.fresh 46 (.fresh 47 (.fresh 48 (.fresh 49 (.fresh 50 (.fresh 51 (.fresh 52 (.fresh 53 (.fresh 54 (.fresh 55 (.fresh 56 (.fresh 57 (.hyp 0 39 (.need (.cmp .lss (.lit 0) (.dlen (.var 56))) (.both (.viewL (.vcell (.var 56) (.lit 0) 1) [CK.int .u8] [57] 58 (.pre 11 qnQ (.both (.fresh 61 (.fresh 62 (.fresh 63 (.fresh 64 (.fresh 65 (.fresh 66 (.fresh 67 (.fresh 68 (.fresh 69 (.post 11 0 qnQ 61 (.both (.both (.both (.br (.cmp .eql (.var 69) (.lit 0))
 (.both (.both (.pre 12 qgR (.both (.fresh 70 (.post 12 0 qgR 70 (.both (.both (.br (.var 70)
 (.both (.both (.pre 13 qgR (.both (.fresh 71 (.fresh 72 (.fresh 73 (.fresh 74 (.post 13 0 qgR 71 (.both (.need (.cmp .leq (.lit 0) (.var 72)) (.both (.both (.both (.need (.beq (.bl true) (.cmp .eql (.var 72) (.lit 1))) (.ret 0 (sg 2 []))) .top) .top) .top)) .top)))))) .top)) .top) .top)
 (.both (.both (.both (.both (.both (.both (.stuck 7 0 0) .top) .top) .top) .top) .top) .top)) .top) .top))) .top)) .top) .top)
 (.both (.both (.both (.both (.both (.both (.both (.both (.both (.both (.stuck 7 0 0) .top) .top) .top) .top) .top) .top) .top) .top) .top) .top)) .top) .top) .top))))))))))) .top))) .top))))))))))))))))))))))))))) .top))))))))))))) .top))))))) .top))))) .top)) .top))) .top)) .top)))) .top)) .top)))))))))) .top)) .top))))) .top)) .top))))) .top)) .top))))))) .top))))) .top)))))) .top)))))))))) .top)))
theorem qxM:qj ⟨Tryz.prog,qdj,[qcx,qgl,qey,qfX,qc3,qfO,qcz,qaJ,qjE,idC,qc2,qcu,qb1,qci],[qre]⟩ 100000 Tryz.f31 = qo1:=by kernel_rfl
theorem q3p (hd:∀ c ∈ ([qcx,qgl,qey,qfX,qc3,qfO,qcz,qaJ,qjE,idC,qc2,qcu,qb1,qci]:List Ctr),c.ok Tryz.prog) (h:∀ ρ:Env,ρ.good->(qdj).pre ρ->qo1.den ⟨Tryz.prog,qdj,[qcx,qgl,qey,qfX,qc3,qfO,qcz,qaJ,qjE,idC,qc2,qcu,qb1,qci],[qre]⟩ ρ):(qdj).ok Tryz.prog :=
 qf Tryz.func31 (fun a w=>Tryz.call31 a w) hd 100000 (fun ρ hg hp=>by rw [qxM]; exact h ρ hg hp)
end Go.Proofs

set_option linter.unusedSimpArgs false
set_option linter.unusedVariables false
namespace Go.Proofs
open Go Go.Eng
def d1:List Int:=1 :: List.replicate 31 0
theorem qup:qS d1 0 1 = true:=by decide +kernel
theorem qvz:qS d1 0 2 = true:=by decide +kernel
theorem qwQ:qS d1 1 2 = true:=by decide +kernel
theorem q6V:¬ qO d1 0 = qO d1 1:=by decide +kernel
theorem qz3:qau d1 [0,1,2] = [0,1,2]:=by
 symm
 refine q0K ⟨List.Perm.refl _,?_⟩ (by decide)
 simp [qup,qvz,qwQ]
theorem qw9:qcJ [0,1,2] = [0,1,2]:=by decide
theorem q8p:qko d1 3 = [0,1,2]:=by
 have h:qgr 3 = [0,1,2]:=by decide
 rw [qko,h,qbu,qw9,qz3]; rfl
theorem qty:qbu d1 [0,1,2] 3 = [0,1,2]:=by
 rw [qbu,qw9,qz3]; rfl
theorem q6X:qgN d1 1 [0,1,2] 3 false false = 1:=by simp [qgN,qty]
theorem q5y:qgN d1 3 [0,1,2] 3 true false = 2:=by simp [qgN,qty]
theorem q9Y:qlN d1 2 2 [0,1] = true:=by
 have h:qcJ [0,1] = [0,1]:=by decide
 rw [qlN,h]; simp [qvz,qwQ]
def cl1:Cl:=qeC (fun _ _=>none) d1 0 5
theorem q1q:qej cl1 d1 1 16 [0,1,2] [] = true:=by
 rw [qej,List.any_eq_true]
 refine ⟨0,by simp,?_⟩
 have h:cl1 d1 ((0:Nat):Int) = some 5:=by simp [cl1,qeC]
 rw [h]
 simp [qup,qkG]
theorem q12:qej cl1 d1 1 17 [0,1,2] [] = false:=by
 rw [qej,List.any_eq_false]
 intro i _
 by_cases hi:i = 0
 ·subst hi
  have h:cl1 d1 ((0:Nat):Int) = some 5:=by simp [cl1,qeC]
  rw [h]; simp [qkG]
 ·have h:cl1 d1 ((i:Nat):Int) = none:=by simp [cl1,qeC,hi]
  rw [h]; simp
end Go.Proofs

set_option linter.unusedSimpArgs false
set_option linter.unusedVariables false
namespace Go.Proofs
open Go Go.Eng
theorem q8r:qg [[Value.int .u8 1,.int .u8 0,.int .u8 0,.int .u8 0,.int .u8 0,.int .u8 0,.int .u8 0,.int .u8 0,.int .u8 0,.int .u8 0,.int .u8 0,.int .u8 0,.int .u8 0,.int .u8 0,.int .u8 0,.int .u8 0,.int .u8 0,.int .u8 0,.int .u8 0,.int .u8 0,.int .u8 0,.int .u8 0,.int .u8 0,.int .u8 0,.int .u8 0,.int .u8 0,.int .u8 0,.int .u8 0,.int .u8 0,.int .u8 0,.int .u8 0,.int .u8 0]] 32 = d1:=by rfl
theorem q8z:qL d1:=by intro x hx; simp [d1] at hx; rcases hx with rfl | rfl <;> decide
theorem q6Q {h:Hp}:qaL h none [] 0 0 [] none []:=by
 refine ⟨rfl,⟨rfl,?_,?_⟩,?_,by decide,.inl ⟨rfl,rfl,rfl,rfl,rfl⟩⟩
 ·intro j hj; exact absurd hj (Nat.not_lt_zero j)
 ·intro j hj; exact absurd hj (Nat.not_lt_zero j)
 ·intro x hx; cases hx
theorem qBl:(qcm 1 1).2.2 = 1:=by kernel_rfl
theorem q6g:qn [[Value.int .u8 120]]:=by intro row hr; simp at hr; subst hr; decide
set_option pp.funBinderTypes false
set_option format.width 2000
set_option format.indent 1
set_option maxRecDepth 20000 in
set_option maxHeartbeats 4000000 in
theorem qvi (hd:∀ c ∈ ([qcx,qgl,qey,qfX,qc3,qfO,qcz,qaJ,qjE,idC,qc2,qcu,qb1,qci]:List Ctr),c.ok Tryz.prog):qdj.ok Tryz.prog:=q3p hd fun ρ hg hp=>by
 obtain ⟨hGr,hGd⟩:=hp
 simp (config:={ maxSteps:=4000000 }) [qo1,qdj,qre,qcx,qgl,q7P,qey,qfX,qc3,q77,qfO,q6O,qn3,qcz,qaJ,qjE,qgI,idC,qlZ,qul,qc2,qcu,qvN,qb1,qci,qr9,qvh,qdT,qaG,qnx,qk1,qfz,qeO,qnu,qkx,qbD,qcw,qeU,gaB,gOk,hGr,hGd,q8r,q8z]
 have e012:qx [[Value.int IntKind.i64 0],[Value.int IntKind.i64 1],[Value.int IntKind.i64 2]] = [0,1,2]:=rfl
 intro _ _ l0 _ n _ c _ D _ hl
 obtain ⟨hn,hD,hrow⟩:=hl
 rw [q8p] at hD
 have hDl:D.d.length = 3:=by have:=congrArg List.length hD; simpa [qx] using this
 refine ⟨by omega,by omega,fun _ _ _ x5 _ h5=>?_⟩
 rw [e012,q6X] at h5
 refine ⟨h5,fun _ _ _ x6 _ h6=>?_⟩
 rw [e012,q5y] at h6
 refine ⟨h6,fun _ _ _ v _ H0 _ hc0=>⟨by omega,by omega,⟨_,hc0⟩,fun H1 _ hc1=>?_⟩⟩
 have g0:qb D.d 0 0 = 0:=by rw [qeM (d:=D.d) (by omega) (by omega),hD]; rfl
 have g1:qb D.d 1 0 = 1:=by rw [qeM (d:=D.d) (by omega) (by omega),hD]; rfl
 have g2:qb D.d 2 0 = 2:=by rw [qeM (d:=D.d) (by omega) (by omega),hD]; rfl
 have hcl:=hc1 _ hc0
 rw [g0] at hcl
 refine ⟨by omega,by omega,⟨⟨_,hcl⟩,by omega,by omega,hrow⟩,fun b1 _ H2 _ hb1=>?_⟩
 obtain ⟨hcl2,hb1⟩:=hb1 _ hcl
 rw [g1,hD] at hb1
 have hb1':b1.b = true:=hb1.trans q1q
 refine ⟨hb1',fun _=>⟨⟨⟨_,hcl2⟩,by omega,by omega,hrow⟩,fun b2 _ H3 _ hb2=>?_⟩⟩
 obtain ⟨hcl3,hb2⟩:=hb2 _ hcl2
 rw [g1,hD] at hb2
 have hb2':b2.b = false:=hb2.trans q12
 refine ⟨hb2',fun _=>⟨by omega,by omega,fun hcap=>⟨by omega,by omega,⟨by omega,hrow⟩,fun b3 _ hb3=>?_⟩⟩⟩
 rw [g2,hD] at hb3
 have hb3':b3.b = true:=hb3.trans q9Y
 refine ⟨hb3',fun _ s0 _ hs0 s1 _ hs1=>?_⟩
 rw [hs0,hs1]
 refine ⟨q6V,fun _ _ _ fl _ hfl _ _ _ _=>⟨⟨⟨.inl hfl,q6g,fun _=>qBl⟩,by decide⟩,?_⟩⟩
 intro o _ _ _ f _ _ _ _ _ _ _ Ds _ P _ Hp _ _ _ hPl hE ho hDs hdg _ _
 have hDl1:Ds.d.length = 1:=by
  have:=congrArg List.length hdg
  rw [q0O] at this; simpa [dgs] using this
 have hoM:qL (qg o.d 32):=by rw [ho]; exact qgz _
 have hm1:qz 1 1 1 1 1 = true:=by decide
 refine ⟨⟨by omega,hoM,hDs⟩,fun ID _ e _ hid gn _=>⟨fun _ _ _ _ _=>?_,?_⟩⟩
 ·obtain ⟨q1,q2⟩:=q9P hE
  refine ⟨q6Q,hoM,hDs,hDl1,hPl,q1,(q2 0 (by decide)).1,?_,?_⟩
  ·exact q7c (data:=[120]) hm1 (by intro x hx; simp at hx; subst hx; exact ⟨by decide,by decide⟩) rfl hdg (by decide) (by decide) (q2 0 (by decide)).2
  ·rcases hid with ⟨h,_⟩ | ⟨_,_,h⟩
   ·exact absurd h (by decide)
   ·exact h
 intro ar _ id _ mr _ mp _ mc _ pr _ pl _ pq _ pd _ gh _ bm _ om _ dr _ dq _ dd _ br _ bq _ bp _ bh _ hga hom hdd hdl hbl hpk hpi hck hid2
 obtain ⟨v0,B0,eP,hv,hRd,hB,hpd⟩:=quf hpk (j:=0) (by decide)
 obtain ⟨_,_,_,hlen,hsum⟩:=qi5 hck
 have hB1:B0.length = 1:=by rw [hpd,bI_len] at hlen; rw [show qdi 1 1 = 1 from rfl] at hlen; omega
 have hci:qb bp.d 0 0 = 0:=hpi
 have hidM:qL (qg id.d 32):=by rw [hid2]; exact qgz _
 have hck':qcg 1 1 1 1 1 (dgs dd.d) 0 (bI B0) = 0:=by rw [<- hpd]; exact hck
 have hddl:(dgs dd.d).length = 1:=by simpa [dgs] using hdl
 have hoff:qfy (qg id.d 32) none [] { k:=1,n:=1,t:=1,s:=1,o:=qg om.d 32,D:=dgs dd.d } 0 (bI B0) = 0:=by
  have hok:ManV.ok { k:=1,n:=1,t:=1,s:=1,o:=qg om.d 32,D:=dgs dd.d } = true:=by simp only [ManV.ok,hddl]; decide
  have hbt:sha (ManV.bytes { k:=1,n:=1,t:=1,s:=1,o:=qg om.d 32,D:=dgs dd.d }) = qg id.d 32:=hid2.symm
  rw [qfy,if_neg (by rw [hok]; decide),if_neg (fun h=>h hbt)]
  simp [hddl,hck',qbf]
 refine ⟨by omega,B0,by rw [show (0:Int) = ((0:Nat):Int) from rfl,hv]; exact hRd,?_⟩
 rw [hci]
 intro vr _ vc _ _ hcap
 refine ⟨⟨⟨_,_,hga⟩,hidM,⟨hom,by omega,hdd⟩,by decide,⟨by omega,by omega,hB⟩,by omega⟩,?_⟩
 intro _ _ _ _ _ _ _ _ _ _ _ _ _ _ _ _ oe _ hofr
 obtain ⟨he0,hga2⟩:=hofr _ _ hga
 rw [hoff] at he0
 rw [if_pos he0,if_pos he0] at hga2
 refine ⟨fun _=>⟨⟨_,_,hga2⟩,fun rb _ hrb=>?_⟩,he0⟩
 have hr1:=hrb _ _ hga2
 have hr2:rb.b = true:=by rw [hr1]; rfl
 refine ⟨fun _=>⟨⟨_,_,hga2⟩,fun _ _ il _ _ _ di _ hi=>?_⟩,hr2⟩
 obtain ⟨hi1,hi2,_⟩:=hi _ _ hga2
 have hdi:di.d.length = 1:=by
  have:=congrArg List.length hi2
  rw [qdb] at this; simpa using this
 exact ⟨by omega,by omega,trivial⟩
theorem qqZ:qbs.ok Tryz.prog:=q3T q7Y
theorem q46:qdj.ok Tryz.prog:=qvi (by simp [q1k qqZ,q7Z qqZ,q71,q9l,q0L,q8n,qxe,qnE,q6T,qzI,qvL,quy,qoL,qrJ])
end Go.Proofs

set_option linter.unusedSimpArgs false
set_option linter.unusedVariables false
set_option maxRecDepth 100000
namespace Go.Proofs
open Go Go.Eng

def qwj:Out:=(.fresh 16 (.fresh 17 (.fresh 18 (.fresh 19 (.fresh 20 (.need (.cmp .leq (.lit 0) (.var 6)) (.need (.cmp .leq (.var 6) (.dlen (.var 8))) (.need (.cmp .leq (.tims (.lit 32) (.var 6)) (.lit 140737488355328)) (.fresh 21 (.fresh 22 (.fresh 23 (.need (.cmp .leq (.lit 0) (.var 12)) (.need (.cmp .leq (.var 12) (.dlen (.var 14))) (.need (.cmp .leq (.tims (.lit 1) (.var 12)) (.lit 140737488355328)) (.fresh 24 (.fresh 25 (.both (.both (.ret 0 (sg 16 [bt 21 (.dtake (.var 14) (.var 12)),bt 20 (.dtake (.var 8) (.var 6)),bv 19 25,bg 18 24,bv 17 22,bg 16 21])) .top) .top)))))))))))))))))
theorem q3x:qj ⟨Tryz.prog,qgW,[],[]⟩ 100000 Tryz.f49 = qwj:=by kernel_rfl
theorem q8b (hd:∀ c ∈ ([]:List Ctr),c.ok Tryz.prog) (h:∀ ρ:Env,ρ.good->(qgW).pre ρ->qwj.den ⟨Tryz.prog,qgW,[],[]⟩ ρ):(qgW).ok Tryz.prog :=
 qf Tryz.func49 (fun a w=>Tryz.call49 a w) hd 100000 (fun ρ hg hp=>by rw [q3x]; exact h ρ hg hp)
end Go.Proofs

set_option linter.unusedSimpArgs false
set_option linter.unusedVariables false
namespace Go.Proofs
open Go Go.Eng
set_option maxRecDepth 20000
theorem q9v:qgW.ok Tryz.prog:=q8b (by simp) fun ρ hg hp=>by
 obtain ⟨h0,h1,h2,h3⟩:=hp
 simp (config:={ maxSteps:=2000000 }) [qwj,qgW,qnx,qfz,qdT,qaG]
 exact ⟨by omega,by omega,by omega,by omega,by omega,by omega,List.take_of_length_le (by omega),List.take_of_length_le (by omega)⟩
end Go.Proofs

set_option linter.unusedSimpArgs false
set_option linter.unusedVariables false
namespace Go.Eng
open Go Go.Proofs
def isS (r l c:Nat):SV:=.one (.vslice r (.lit 0) (.var l) (.var c) 1)
end Go.Eng

set_option linter.unusedSimpArgs false
set_option linter.unusedVariables false
namespace Go.Proofs
open Go Go.Eng
section
variable {h0 H:Hp} {v it mv it2:Value} {kd:List Int} {clock:Int} {cl cl1:Cl} {b c b' c':Nat} {l m:List ME} {seen seen2:List Nat} {e:ME}
end
section
variable {h0 H:Hp} {v it:Value} {o L:List Int} {cl:Cl}
end
end Go.Proofs

set_option linter.unusedSimpArgs false
set_option linter.unusedVariables false
namespace Go.Eng
open Go Go.Proofs
end Go.Eng

set_option linter.unusedSimpArgs false
set_option linter.unusedVariables false
namespace Go.Proofs
open Go Go.Eng
def q84 (d:qd) (i:Int):List Value:=(qnz d i).map (Value.int .u8) ++ [.int .i64 (qb d i 32),.int .u64 (qb d i 33)]
def q63 (d:qd) (a b:Int):List Value:=(qg d 32).map (Value.int .u8) ++ [.int .i64 a,.int .u64 b]
@[simp high] theorem qAW (d:qd) (i:Int):([.int .u8 (qb d i 0),.int .u8 (qb d i 1),.int .u8 (qb d i 2),.int .u8 (qb d i 3),.int .u8 (qb d i 4),.int .u8 (qb d i 5),.int .u8 (qb d i 6),.int .u8 (qb d i 7),.int .u8 (qb d i 8),.int .u8 (qb d i 9),.int .u8 (qb d i 10),.int .u8 (qb d i 11),.int .u8 (qb d i 12),.int .u8 (qb d i 13),.int .u8 (qb d i 14),.int .u8 (qb d i 15),.int .u8 (qb d i 16),.int .u8 (qb d i 17),.int .u8 (qb d i 18),.int .u8 (qb d i 19),.int .u8 (qb d i 20),.int .u8 (qb d i 21),.int .u8 (qb d i 22),.int .u8 (qb d i 23),.int .u8 (qb d i 24),.int .u8 (qb d i 25),.int .u8 (qb d i 26),.int .u8 (qb d i 27),.int .u8 (qb d i 28),.int .u8 (qb d i 29),.int .u8 (qb d i 30),.int .u8 (qb d i 31),.int .i64 (qb d i 32),.int .u64 (qb d i 33)]:List Value) = q84 d i:=rfl
@[simp high] theorem qAO (d:qd) (a b:Int):([.int .u8 (qa d 0),.int .u8 (qa d 1),.int .u8 (qa d 2),.int .u8 (qa d 3),.int .u8 (qa d 4),.int .u8 (qa d 5),.int .u8 (qa d 6),.int .u8 (qa d 7),.int .u8 (qa d 8),.int .u8 (qa d 9),.int .u8 (qa d 10),.int .u8 (qa d 11),.int .u8 (qa d 12),.int .u8 (qa d 13),.int .u8 (qa d 14),.int .u8 (qa d 15),.int .u8 (qa d 16),.int .u8 (qa d 17),.int .u8 (qa d 18),.int .u8 (qa d 19),.int .u8 (qa d 20),.int .u8 (qa d 21),.int .u8 (qa d 22),.int .u8 (qa d 23),.int .u8 (qa d 24),.int .u8 (qa d 25),.int .u8 (qa d 26),.int .u8 (qa d 27),.int .u8 (qa d 28),.int .u8 (qa d 29),.int .u8 (qa d 30),.int .u8 (qa d 31),.int .i64 a,.int .u64 b]:List Value) = q63 d a b:=rfl
theorem q8U {d:qd} {n:Int} {l:List Int} (h:qdC d n l):n = (l.length:Int):=by rw [h.1,<- h.2.1]; simp [qx]
end Go.Proofs

set_option linter.unusedSimpArgs false
set_option linter.unusedVariables false
set_option maxRecDepth 100000
namespace Go.Proofs
open Go Go.Eng

def qv8:Out:=(.fresh 10 (.br (.and (.cmp .eql (.dlen (.var 3)) (.lit 0)) (.isnil 2))
 (.ret 0 (sg 10 [bt 18 .dnil,bt 19 (.bl false),bt 17 (.lit 0),bt 16 (.lit 0),(15,.nil),bt 13 (.lit 0),bt 12 (.lit 0),bt 11 (.lit 0),bt 10 (.lit 0),bt 14 z8]))
 (.need (.cmp .lss (.lit 0) (.dlen (.var 3))) (.fresh 11 (.viewL (.vcell (.var 3) (.lit 0) 36) [CK.int .u8,CK.int .u8,CK.int .u8,CK.int .u8,CK.int .u8,CK.int .u8,CK.int .u8,CK.int .u8,CK.int .u8,CK.int .u8,CK.int .u8,CK.int .u8,CK.int .u8,CK.int .u8,CK.int .u8,CK.int .u8,CK.int .u8,CK.int .u8,CK.int .u8,CK.int .u8,CK.int .u8,CK.int .u8,CK.int .u8,CK.int .u8,CK.int .u8,CK.int .u8,CK.int .u8,CK.int .u8,CK.int .u8,CK.int .u8,CK.int .u8,CK.int .u8] [9] 12 (.pre 0 (sg 0 [bv 4 13,bv 3 14,bv 2 13,bt 1 (.dlen (.var 14)),bg 0 12]) (.both (.fresh 15 (.fresh 16 (.fresh 17 (.post 0 0 (sg 0 [bv 4 13,bv 3 14,bv 2 13,bt 1 (.dlen (.var 14)),bg 0 12]) 15 (.ret 0 (sg 10 [bv 18 17,bt 19 (.bl true),bv 17 16,bt 16 (.dlen (.var 14)),bg 15 15,bt 13 (.icell (.var 3) (.lit 0) 3),bt 12 (.icell (.var 3) (.lit 0) 2),bt 11 (.icell (.var 3) (.lit 0) 1),bt 10 (.icell (.var 3) (.lit 0) 0),bt 14 (.rcons (.vint .u8 (.icell (.var 3) (.lit 0) 4)) (.rcons (.vint .u8 (.icell (.var 3) (.lit 0) 5)) (.rcons (.vint .u8 (.icell (.var 3) (.lit 0) 6)) (.rcons (.vint .u8 (.icell (.var 3) (.lit 0) 7)) (.rcons (.vint .u8 (.icell (.var 3) (.lit 0) 8)) (.rcons (.vint .u8 (.icell (.var 3) (.lit 0) 9)) (.rcons (.vint .u8 (.icell (.var 3) (.lit 0) 10)) (.rcons (.vint .u8 (.icell (.var 3) (.lit 0) 11)) (.rcons (.vint .u8 (.icell (.var 3) (.lit 0) 12)) (.rcons (.vint .u8 (.icell (.var 3) (.lit 0) 13)) (.rcons (.vint .u8 (.icell (.var 3) (.lit 0) 14)) (.rcons (.vint .u8 (.icell (.var 3) (.lit 0) 15)) (.rcons (.vint .u8 (.icell (.var 3) (.lit 0) 16)) (.rcons (.vint .u8 (.icell (.var 3) (.lit 0) 17)) (.rcons (.vint .u8 (.icell (.var 3) (.lit 0) 18)) (.rcons (.vint .u8 (.icell (.var 3) (.lit 0) 19)) (.rcons (.vint .u8 (.icell (.var 3) (.lit 0) 20)) (.rcons (.vint .u8 (.icell (.var 3) (.lit 0) 21)) (.rcons (.vint .u8 (.icell (.var 3) (.lit 0) 22)) (.rcons (.vint .u8 (.icell (.var 3) (.lit 0) 23)) (.rcons (.vint .u8 (.icell (.var 3) (.lit 0) 24)) (.rcons (.vint .u8 (.icell (.var 3) (.lit 0) 25)) (.rcons (.vint .u8 (.icell (.var 3) (.lit 0) 26)) (.rcons (.vint .u8 (.icell (.var 3) (.lit 0) 27)) (.rcons (.vint .u8 (.icell (.var 3) (.lit 0) 28)) (.rcons (.vint .u8 (.icell (.var 3) (.lit 0) 29)) (.rcons (.vint .u8 (.icell (.var 3) (.lit 0) 30)) (.rcons (.vint .u8 (.icell (.var 3) (.lit 0) 31)) (.rcons (.vint .u8 (.icell (.var 3) (.lit 0) 32)) (.rcons (.vint .u8 (.icell (.var 3) (.lit 0) 33)) (.rcons (.vint .u8 (.icell (.var 3) (.lit 0) 34)) (.rcons (.vint .u8 (.icell (.var 3) (.lit 0) 35)) .rnil))))))))))))))))))))))))))))))))])))))) .top)))))))
theorem q4R:qj ⟨Tryz.prog,qgP,[qca],[]⟩ 100000 Tryz.f52 = qv8:=by kernel_rfl
theorem q7W (hd:∀ c ∈ ([qca]:List Ctr),c.ok Tryz.prog) (h:∀ ρ:Env,ρ.good->(qgP).pre ρ->qv8.den ⟨Tryz.prog,qgP,[qca],[]⟩ ρ):(qgP).ok Tryz.prog :=
 qf Tryz.func52 (fun a w=>Tryz.call52 a w) hd 100000 (fun ρ hg hp=>by rw [q4R]; exact h ρ hg hp)
@[simp] def qt2:Sg:=sg 0 [bv 19 13,bg 17 9,bv 16 7,bv 15 8,bv 11 16,bv 10 17,bv 1 11,bv 14 7,bv 13 6,bg 12 5,bv 9 16,bt 8 (.dlen (.var 17)),bg 7 15,bt 5 (.icell (.var 3) (.lit 0) 3),bt 4 (.icell (.var 3) (.lit 0) 2),bt 3 (.icell (.var 3) (.lit 0) 1),bt 2 (.icell (.var 3) (.lit 0) 0),bt 6 (.rcons (.vint .u8 (.icell (.var 3) (.lit 0) 4)) (.rcons (.vint .u8 (.icell (.var 3) (.lit 0) 5)) (.rcons (.vint .u8 (.icell (.var 3) (.lit 0) 6)) (.rcons (.vint .u8 (.icell (.var 3) (.lit 0) 7)) (.rcons (.vint .u8 (.icell (.var 3) (.lit 0) 8)) (.rcons (.vint .u8 (.icell (.var 3) (.lit 0) 9)) (.rcons (.vint .u8 (.icell (.var 3) (.lit 0) 10)) (.rcons (.vint .u8 (.icell (.var 3) (.lit 0) 11)) (.rcons (.vint .u8 (.icell (.var 3) (.lit 0) 12)) (.rcons (.vint .u8 (.icell (.var 3) (.lit 0) 13)) (.rcons (.vint .u8 (.icell (.var 3) (.lit 0) 14)) (.rcons (.vint .u8 (.icell (.var 3) (.lit 0) 15)) (.rcons (.vint .u8 (.icell (.var 3) (.lit 0) 16)) (.rcons (.vint .u8 (.icell (.var 3) (.lit 0) 17)) (.rcons (.vint .u8 (.icell (.var 3) (.lit 0) 18)) (.rcons (.vint .u8 (.icell (.var 3) (.lit 0) 19)) (.rcons (.vint .u8 (.icell (.var 3) (.lit 0) 20)) (.rcons (.vint .u8 (.icell (.var 3) (.lit 0) 21)) (.rcons (.vint .u8 (.icell (.var 3) (.lit 0) 22)) (.rcons (.vint .u8 (.icell (.var 3) (.lit 0) 23)) (.rcons (.vint .u8 (.icell (.var 3) (.lit 0) 24)) (.rcons (.vint .u8 (.icell (.var 3) (.lit 0) 25)) (.rcons (.vint .u8 (.icell (.var 3) (.lit 0) 26)) (.rcons (.vint .u8 (.icell (.var 3) (.lit 0) 27)) (.rcons (.vint .u8 (.icell (.var 3) (.lit 0) 28)) (.rcons (.vint .u8 (.icell (.var 3) (.lit 0) 29)) (.rcons (.vint .u8 (.icell (.var 3) (.lit 0) 30)) (.rcons (.vint .u8 (.icell (.var 3) (.lit 0) 31)) (.rcons (.vint .u8 (.icell (.var 3) (.lit 0) 32)) (.rcons (.vint .u8 (.icell (.var 3) (.lit 0) 33)) (.rcons (.vint .u8 (.icell (.var 3) (.lit 0) 34)) (.rcons (.vint .u8 (.icell (.var 3) (.lit 0) 35)) .rnil)))))))))))))))))))))))))))))))),bg 0 10,bg 18 12]
def qsf:Out:=(.pre 0 (sg 0 [bg 9 9,bv 8 8,bv 4 4,bv 3 3,bv 7 7,bv 6 6,bg 5 5,bg 2 2,bt 1 (r8 1),bg 0 0]) (.both (.fresh 14 (.post 0 0 (sg 0 [bg 9 9,bv 8 8,bv 4 4,bv 3 3,bv 7 7,bv 6 6,bg 5 5,bg 2 2,bt 1 (r8 1),bg 0 0]) 14 (.br (.cmp .neq (.var 14) (.lit 0))
 (.ret 0 (sg 14 [bt 16 (.lit 0),bt 17 .dnil,bv 19 11,bv 18 14,bt 20 (.lit 0),bt 15 (.lit 0),(14,.nil)]))
 (.need (.cmp .lss (.lit 0) (.dlen (.var 3))) (.both (.viewL (.vcell (.var 3) (.lit 0) 36) [CK.int .u8,CK.int .u8,CK.int .u8,CK.int .u8,CK.int .u8,CK.int .u8,CK.int .u8,CK.int .u8,CK.int .u8,CK.int .u8,CK.int .u8,CK.int .u8,CK.int .u8,CK.int .u8,CK.int .u8,CK.int .u8,CK.int .u8,CK.int .u8,CK.int .u8,CK.int .u8,CK.int .u8,CK.int .u8,CK.int .u8,CK.int .u8,CK.int .u8,CK.int .u8,CK.int .u8,CK.int .u8,CK.int .u8,CK.int .u8,CK.int .u8,CK.int .u8] [9] 15 (.pre 1 qt2 (.both (.fresh 18 (.fresh 19 (.fresh 20 (.fresh 21 (.fresh 22 (.fresh 23 (.fresh 24 (.post 1 0 qt2 18 (.ret 0 (sg 14 [bv 16 20,bv 17 21,bv 19 23,bv 18 22,bv 20 24,bv 15 19,bg 14 18])))))))))) .top))) .top))))) .top))
theorem q0U:qj ⟨Tryz.prog,qdG,[qcG,qhw],[]⟩ 100000 Tryz.f46 = qsf:=by kernel_rfl
theorem q6Z (hd:∀ c ∈ ([qcG,qhw]:List Ctr),c.ok Tryz.prog) (h:∀ ρ:Env,ρ.good->(qdG).pre ρ->qsf.den ⟨Tryz.prog,qdG,[qcG,qhw],[]⟩ ρ):(qdG).ok Tryz.prog :=
 qf Tryz.func46 (fun a w=>Tryz.call46 a w) hd 100000 (fun ρ hg hp=>by rw [q0U]; exact h ρ hg hp)
@[simp] def qq2:Sg:=sg 0 [bv 19 13,bg 17 9,bv 16 7,bv 15 8,bv 11 18,bv 10 19,bv 1 11,bv 20 14,bv 14 7,bv 13 6,bg 12 5,bv 9 18,bt 8 (.dlen (.var 19)),bg 7 17,bt 5 (.icell (.var 3) (.lit 0) 3),bt 4 (.icell (.var 3) (.lit 0) 2),bt 3 (.icell (.var 3) (.lit 0) 1),bt 2 (.icell (.var 3) (.lit 0) 0),bt 6 (.rcons (.vint .u8 (.icell (.var 3) (.lit 0) 4)) (.rcons (.vint .u8 (.icell (.var 3) (.lit 0) 5)) (.rcons (.vint .u8 (.icell (.var 3) (.lit 0) 6)) (.rcons (.vint .u8 (.icell (.var 3) (.lit 0) 7)) (.rcons (.vint .u8 (.icell (.var 3) (.lit 0) 8)) (.rcons (.vint .u8 (.icell (.var 3) (.lit 0) 9)) (.rcons (.vint .u8 (.icell (.var 3) (.lit 0) 10)) (.rcons (.vint .u8 (.icell (.var 3) (.lit 0) 11)) (.rcons (.vint .u8 (.icell (.var 3) (.lit 0) 12)) (.rcons (.vint .u8 (.icell (.var 3) (.lit 0) 13)) (.rcons (.vint .u8 (.icell (.var 3) (.lit 0) 14)) (.rcons (.vint .u8 (.icell (.var 3) (.lit 0) 15)) (.rcons (.vint .u8 (.icell (.var 3) (.lit 0) 16)) (.rcons (.vint .u8 (.icell (.var 3) (.lit 0) 17)) (.rcons (.vint .u8 (.icell (.var 3) (.lit 0) 18)) (.rcons (.vint .u8 (.icell (.var 3) (.lit 0) 19)) (.rcons (.vint .u8 (.icell (.var 3) (.lit 0) 20)) (.rcons (.vint .u8 (.icell (.var 3) (.lit 0) 21)) (.rcons (.vint .u8 (.icell (.var 3) (.lit 0) 22)) (.rcons (.vint .u8 (.icell (.var 3) (.lit 0) 23)) (.rcons (.vint .u8 (.icell (.var 3) (.lit 0) 24)) (.rcons (.vint .u8 (.icell (.var 3) (.lit 0) 25)) (.rcons (.vint .u8 (.icell (.var 3) (.lit 0) 26)) (.rcons (.vint .u8 (.icell (.var 3) (.lit 0) 27)) (.rcons (.vint .u8 (.icell (.var 3) (.lit 0) 28)) (.rcons (.vint .u8 (.icell (.var 3) (.lit 0) 29)) (.rcons (.vint .u8 (.icell (.var 3) (.lit 0) 30)) (.rcons (.vint .u8 (.icell (.var 3) (.lit 0) 31)) (.rcons (.vint .u8 (.icell (.var 3) (.lit 0) 32)) (.rcons (.vint .u8 (.icell (.var 3) (.lit 0) 33)) (.rcons (.vint .u8 (.icell (.var 3) (.lit 0) 34)) (.rcons (.vint .u8 (.icell (.var 3) (.lit 0) 35)) .rnil)))))))))))))))))))))))))))))))),bg 0 10,bg 18 12]
def qoC:Out:=(.fresh 15 (.pre 0 (sg 0 [bg 9 9,bv 8 8,bv 4 4,bv 3 3,bv 7 7,bv 6 6,bg 5 5,bg 2 2,bt 1 (r8 1),bg 0 0]) (.both (.fresh 16 (.post 0 0 (sg 0 [bg 9 9,bv 8 8,bv 4 4,bv 3 3,bv 7 7,bv 6 6,bg 5 5,bg 2 2,bt 1 (r8 1),bg 0 0]) 16 (.br (.cmp .neq (.var 16) (.lit 0))
 (.ret 0 (sg 15 [bt 19 .dnil,bv 21 11,bv 20 16,bt 18 (.lit 0),bt 17 (.lit 0),(16,.nil),bt 15 (.lit 0)]))
 (.need (.cmp .lss (.lit 0) (.dlen (.var 3))) (.both (.viewL (.vcell (.var 3) (.lit 0) 36) [CK.int .u8,CK.int .u8,CK.int .u8,CK.int .u8,CK.int .u8,CK.int .u8,CK.int .u8,CK.int .u8,CK.int .u8,CK.int .u8,CK.int .u8,CK.int .u8,CK.int .u8,CK.int .u8,CK.int .u8,CK.int .u8,CK.int .u8,CK.int .u8,CK.int .u8,CK.int .u8,CK.int .u8,CK.int .u8,CK.int .u8,CK.int .u8,CK.int .u8,CK.int .u8,CK.int .u8,CK.int .u8,CK.int .u8,CK.int .u8,CK.int .u8,CK.int .u8] [9] 17 (.pre 1 qq2 (.both (.fresh 20 (.fresh 21 (.fresh 22 (.fresh 23 (.fresh 24 (.fresh 25 (.fresh 26 (.post 1 0 qq2 20 (.both (.ret 0 (sg 15 [bv 19 24,bv 21 26,bv 20 25,bv 18 23,bv 17 22,bg 16 21,bv 15 20])) .top))))))))) .top))) .top))))) .top)))
theorem qys:qj ⟨Tryz.prog,qdQ,[qcG,qh5],[]⟩ 100000 Tryz.f50 = qoC:=by kernel_rfl
theorem q4f (hd:∀ c ∈ ([qcG,qh5]:List Ctr),c.ok Tryz.prog) (h:∀ ρ:Env,ρ.good->(qdQ).pre ρ->qoC.den ⟨Tryz.prog,qdQ,[qcG,qh5],[]⟩ ρ):(qdQ).ok Tryz.prog :=
 qf Tryz.func50 (fun a w=>Tryz.call50 a w) hd 100000 (fun ρ hg hp=>by rw [qys]; exact h ρ hg hp)
end Go.Proofs

set_option linter.unusedSimpArgs false
set_option linter.unusedVariables false
namespace Go.Proofs
open Go Go.Eng
set_option maxRecDepth 20000
theorem q9e:qhw.ok Tryz.prog:=Ctr.ok_tags qAi rfl rfl rfl rfl (fun x hx=>by
 simp only [qkv,List.mem_cons,List.not_mem_nil,or_false] at hx
 rcases hx with rfl | rfl | rfl | rfl
 ·exact .inl (by simp [qhw])
 ·exact .inl (by simp [qhw])
 ·exact .inr ⟨17,4,20,rfl,by simp [qhw]⟩
 ·exact .inl (by simp [qhw])) (fun ρ h=>h) rfl
theorem q8g:qh5.ok Tryz.prog:=Ctr.ok_tags qAy rfl rfl rfl rfl (fun x hx=>by
 simp only [qkD,List.mem_cons,List.not_mem_nil,or_false] at hx
 rcases hx with rfl | rfl | rfl | rfl
 ·exact .inl (by simp [qh5])
 ·exact .inl (by simp [qh5])
 ·exact .inr ⟨17,4,20,rfl,by simp [qh5]⟩
 ·exact .inl (by simp [qh5])) (fun ρ h=>h) rfl
def qA5 (d:qd):List Int:=(List.range 32).map fun j=>qb d 0 (4 + j)
@[simp high] theorem qB5 (d:qd):qg [[.int .u8 (qb d 0 4),.int .u8 (qb d 0 5),.int .u8 (qb d 0 6),.int .u8 (qb d 0 7),.int .u8 (qb d 0 8),.int .u8 (qb d 0 9),.int .u8 (qb d 0 10),.int .u8 (qb d 0 11),.int .u8 (qb d 0 12),.int .u8 (qb d 0 13),.int .u8 (qb d 0 14),.int .u8 (qb d 0 15),.int .u8 (qb d 0 16),.int .u8 (qb d 0 17),.int .u8 (qb d 0 18),.int .u8 (qb d 0 19),.int .u8 (qb d 0 20),.int .u8 (qb d 0 21),.int .u8 (qb d 0 22),.int .u8 (qb d 0 23),.int .u8 (qb d 0 24),.int .u8 (qb d 0 25),.int .u8 (qb d 0 26),.int .u8 (qb d 0 27),.int .u8 (qb d 0 28),.int .u8 (qb d 0 29),.int .u8 (qb d 0 30),.int .u8 (qb d 0 31),.int .u8 (qb d 0 32),.int .u8 (qb d 0 33),.int .u8 (qb d 0 34),.int .u8 (qb d 0 35)]] 32 = qA5 d:=rfl
theorem q2P:([0,0,0,0,0,0,0,0,0,0,0,0,0,0,0,0,0,0,0,0,0,0,0,0,0,0,0,0,0,0,0,0]:List Int) = List.replicate 32 0:=rfl
theorem qlj {m:ManV} (h:m.ok = true):qbD m.k/\qbD m.n/\qbD m.t/\qbD m.s:=by
 simp only [ManV.ok,qz,qbe,Bool.and_eq_true,decide_eq_true_eq] at h
 unfold qbD
 omega
theorem qiI {h:Hp} {d:qd} {m:ManV} (hm:qfS h d m):qb d 0 0 = m.k/\qb d 0 1 = m.n/\qb d 0 2 = m.t/\qb d 0 3 = m.s/\qA5 d = m.o/\qL m.o/\m.ok = true/\0 < d.length/\∃ D,Rd h k32 (qF d 0 36) D/\qcC D/\dgs D = m.D/\(D.length:Int) = m.D.length:=by
 obtain ⟨row,D,rfl,hf,hrd,hD,a1,a2,a3,a4,a5,a6,a7,a8⟩:=hm
 refine ⟨a2,a3,a4,a5,a6,a7,a8,Nat.one_pos,D,hrd,hD,a1,?_⟩
 rw [<- a1]; simp [dgs]
section
variable {h:Hp} {r:Option Addr} {d P:qd} {c n:Int} {M:Option ManV} {L:PcL}
theorem qv0 (hg:qaL h r d c n P M L) (hr:qbf M L = true):∃ m,M = some m/\qfS h d m:=by
 obtain ⟨_,_,_,_,hc⟩:=hg
 rcases hc with ⟨rfl,_⟩ | ⟨m,rfl,_,hm,_⟩
 ·cases hr
 ·exact ⟨m,rfl,hm⟩
theorem qsJ (hg:qaL h r d c n P M L):qhC h P n/\n = P.length/\∀ j,j < P.length->(pcD h P j).length <= 9000:=by
 obtain ⟨hn,hp,hb,hl,_⟩:=hg
 have hlen:=hp.1
 have h9:∀ j,j < P.length->(pcD h P j).length <= 9000:=fun j hj=>by
  have e:=hp.2.2 j hj
  have hj':j < L.length:=by omega
  rw [List.getD_eq_getElem?_getD,List.getElem?_eq_getElem hj'] at e
  have e:(pcI P j,pcD h P j) = L[j]:=e
  have:=hb _ (List.getElem_mem hj')
  rw [<- e] at this
  have this:((pcD h P j).length:Int) <= 9000:=this
  omega
 refine ⟨⟨by omega,by omega,?_⟩,hn,h9⟩
 rw [hn,Int.toNat_natCast]; exact hp.2.1
end
theorem q9k:qgP.ok Tryz.prog:=q7W (by simp [qsY]) fun ρ hg hp=>by
 obtain ⟨M,L,h⟩:=hp
 simp (config:={ maxSteps:=4000000 }) [qv8,qgP,qca,gaB,qk1]
 have h0:qaL (ρ 9).h (ρ 2).r (ρ 3).d (ρ 4).i (ρ 6).i (ρ 8).d M L:=h
 obtain ⟨hn,hp,hb,hl,hc⟩:=h
 intro u _
 rcases hc with ⟨rfl,hr,c0,hd,hL⟩ | ⟨m,rfl,c1,hm,hL⟩
 ·have hd:(ρ 3).d = []:=hd
  have hr:(ρ 2).r = none:=hr
  have z1:qbD 0:=by unfold qbD; omega
  have z2:qL (List.replicate 32 0):=fun x hx=>by rw [(List.mem_replicate.1 hx).2]; omega
  have z3:qcC []:=by simp [qcC]
  rw [q2P]
  refine ⟨fun _ _=>⟨⟨z1,z2,z3⟩,fun M' L' h'=>(qdM h0 h').1⟩,fun hcon=>?_⟩
  ·have:=hcon hd
   rw [hr] at this; cases this
 ·obtain ⟨e0,e1,e2,e3,e4,hO,hok,hlen,D,hR,hD,hdg,hDl⟩:=qiI hm
  obtain ⟨b0,b1,b2,b3⟩:=qlj hok
  have hDt:(D.length:Int) <= 255:=by
   simp only [ManV.ok,qz,qbe,Bool.and_eq_true,decide_eq_true_eq] at hok
   omega
  refine ⟨fun hd=>absurd hlen (by rw [show (ρ 3).d = [] from hd]; decide),fun _=>⟨hlen,fun _ _=>⟨D,hR,fun _ _ _ _ _ _=>⟨by omega,fun _ _ _ _ u4 _ h4=>⟨?_,fun M' L' h'=>?_⟩⟩⟩⟩⟩
  ·rw [h4,e0,e1,e2,e3,e4]
   exact ⟨b0,b1,b2,b3,hO,rfl,by omega,hD⟩
  ·rw [(qdM h0 h').1]
   simp [qkx,h4,e0,e1,e2,e3,e4,hdg]
theorem q54:qdG.ok Tryz.prog:=q6Z (by simp [quP,q9e]) fun ρ hg hp=>by
 obtain ⟨⟨M,L,h⟩,hf,hGr,hGd⟩:=hp
 simp (config:={ maxSteps:=4000000 }) [qsf,qdG,qcG,qhw,qkv,gaB,qow,psP,mOk,qse,mF,q6h,gOk,hGr,hGd,hf]
 have h0:qaL (ρ 9).h (ρ 2).r (ρ 3).d (ρ 4).i (ρ 6).i (ρ 8).d M L:=h
 refine ⟨⟨M,L,h0⟩,fun u _ hu=>⟨fun hne M' L' h'=>?_,fun he=>?_⟩⟩
 ·have:=hu M' L' h'
  cases hr:qbf M' L' with
  | true=>rw [hr] at this; simp at this; exact absurd this hne
  | false=>rw [hr] at this; simp at this; exact .inl ⟨hr,this,rfl,rfl⟩
 ·have hr:qbf M L = true:=by
   have:=hu M L h0
   rw [he] at this
   cases hr:qbf M L with
   | true=>rfl
   | false=>rw [hr] at this; simp at this
  obtain ⟨m,rfl,hm⟩:=qv0 h0 hr
  obtain ⟨e0,e1,e2,e3,e4,hO,hok,hlen,D,hR,hD,hdg,hDl⟩:=qiI hm
  obtain ⟨b0,b1,b2,b3⟩:=qlj hok
  refine ⟨hlen,D,hR,fun _ _ _ _ _ _=>?_⟩
  rw [e0,e1,e2,e3,e4,hdg,hDl]
  refine ⟨⟨⟨b0,b1,b2,b3,hD⟩,hO,qsJ h0⟩,?_⟩
  intro a _ b _ e _ f _ g _ hf' hS hle
  refine ⟨hf',hle,fun M' L' h'=>?_⟩
  obtain ⟨rfl,rfl⟩:=qdM h0 h'
  exact .inr ⟨m,rfl,hr,hS⟩
theorem q3h:qdQ.ok Tryz.prog:=q4f (by simp [quP,q8g]) fun ρ hg hp=>by
 obtain ⟨⟨M,L,h⟩,hf,⟨hGr,hGd⟩,hx⟩:=hp
 simp (config:={ maxSteps:=4000000 }) [qoC,qdQ,qcG,qh5,qkD,gaB,qow,psP,mOk,qse,mF,q5j,gOk,hGr,hGd,hf]
 have h0:qaL (ρ 9).h (ρ 2).r (ρ 3).d (ρ 4).i (ρ 6).i (ρ 8).d M L:=h
 refine ⟨⟨M,L,h0⟩,fun u _ hu=>⟨fun hne M' L' h'=>?_,fun he=>?_⟩⟩
 ·have:=hu M' L' h'
  cases hr:qbf M' L' with
  | true=>rw [hr] at this; simp at this; exact absurd this hne
  | false=>rw [hr] at this; simp at this; exact .inl ⟨hr,this,rfl,rfl,rfl⟩
 ·have hr:qbf M L = true:=by
   have:=hu M L h0
   rw [he] at this
   cases hr:qbf M L with
   | true=>rfl
   | false=>rw [hr] at this; simp at this
  obtain ⟨m,rfl,hm⟩:=qv0 h0 hr
  obtain ⟨e0,e1,e2,e3,e4,hO,hok,hlen,D,hR,hD,hdg,hDl⟩:=qiI hm
  obtain ⟨b0,b1,b2,b3⟩:=qlj hok
  refine ⟨hlen,D,hR,fun _ _ _ _ _ _=>?_⟩
  rw [e0,e1,e2,e3,hdg,hDl]
  refine ⟨⟨⟨b0,b1,b2,b3,hD⟩,qsJ h0,hx⟩,?_⟩
  intro a _ b _ c _ e _ f _ hf' hS
  refine ⟨hf',fun M' L' h'=>?_⟩
  obtain ⟨rfl,rfl⟩:=qdM h0 h'
  exact .inr ⟨m,rfl,hr,hS⟩
end Go.Proofs

set_option linter.unusedSimpArgs false
set_option linter.unusedVariables false
set_option maxRecDepth 100000
namespace Go.Proofs
open Go Go.Eng

@[simp] def qlC:Sg:=sg 0 [bv 27 8,bv 25 43,bv 24 45,bv 19 41,bv 18 44,bg 9 26,bv 8 25,bv 4 21,bv 3 20,bv 7 24,bv 6 23,bg 5 22,bg 2 19,bt 1 (r8 18),bv 23 43,bt 22 (.dlen (.var 39)),bg 21 42,bt 20 (.icell (.var 4) (.var 27) 37),bv 17 41,bt 16 (.dlen (.var 36)),bg 15 40,bt 13 (.icell (.var 4) (.var 27) 3),bt 12 (.icell (.var 4) (.var 27) 2),bt 11 (.icell (.var 4) (.var 27) 1),bt 10 (.icell (.var 4) (.var 27) 0),bt 14 (ms8 4 27),bg 0 17,bg 26 7]
@[simp] def qlB:Sg:=sg 0 [bv 13 8,bg 9 74,bv 8 73,bv 4 69,bv 3 68,bv 7 72,bv 6 71,bg 5 70,bg 2 67,bt 1 (r8 66),bv 11 64,bg 10 63,bg 0 65,bg 12 7]
@[simp] def ql2:Sg:=sg 0 [bv 13 8,bg 9 99,bv 8 98,bv 4 94,bv 3 93,bv 7 97,bv 6 96,bg 5 95,bg 2 92,bt 1 (r8 91),bv 11 89,bt 14 (.icell (.var 4) (.var 100) 39),bg 10 88,bg 0 90,bg 12 7]
@[simp] def ql0:Sg:=sg 0 [bv 17 8,bv 15 114,bv 14 115,bv 9 109,bv 8 110,bv 13 114,bv 12 113,bg 11 112,bv 10 111,bv 7 109,bv 6 108,bg 5 107,bv 3 105,bv 2 104,bv 1 103,bv 0 102,bt 4 (r8 106),bg 16 7]
@[simp] def ql1:Sg:=sg 0 [bv 15 38,bv 14 39,bv 9 35,bv 8 36,bv 13 38,bt 12 (.dlen (.var 39)),bg 11 37,bt 10 (.icell (.var 4) (.var 27) 37),bv 7 35,bt 6 (.dlen (.var 36)),bg 5 34,bt 3 (.icell (.var 4) (.var 27) 3),bt 2 (.icell (.var 4) (.var 27) 2),bt 1 (.icell (.var 4) (.var 27) 1),bt 0 (.icell (.var 4) (.var 27) 0),bt 4 (m8 4 27)]
@[simp] def ql9:Out:=.pack [.cells 61 24 [(x8 0 59),(x8 1 59),(x8 2 59),(x8 3 59),(x8 4 59),(x8 5 59),(x8 6 59),(x8 7 59),(x8 8 59),(x8 9 59),(x8 10 59),(x8 11 59),(x8 12 59),(x8 13 59),(x8 14 59),(x8 15 59),(x8 16 59),(x8 17 59),(x8 18 59),(x8 19 59),(x8 20 59),(x8 21 59),(x8 22 59),(x8 23 59),(x8 24 59),(x8 25 59),(x8 26 59),(x8 27 59),(x8 28 59),(x8 29 59),(x8 30 59),(x8 31 59)],.abs 46 20] 62 (.cut 2 62 (sg 1000 [bv 1023 56,bv 1022 55,bv 1021 54,bg 1020 53,bv 1018 51,bv 1017 50,bv 1016 49,bv 1015 48,bt 1019 (r8 52),bg 1012 62,bv 1011 45,bv 1007 41,bv 1006 40,bv 1010 44,bv 1009 43,bg 1008 42,bg 1005 39,bt 1004 (r8 38),bv 1002 36,bv 1024 57,bg 1014 58,bv 1013 47,bg 1003 37,bg 1001 35,bg 1000 34]))
@[simp] def ql7:Out:=.both (.both (.know (.cmp .leq (.dlen (.var 25)) (.var 24)) (.know (.cmp .leq (.dlen (.var 44)) (.var 41)) (.know (.cmp .leq (.dlen (.var 45)) (.var 43)) (.pre 4 qlC (.both (.fresh 46 (.fresh 47 (.fresh 48 (.fresh 49 (.fresh 50 (.fresh 51 (.fresh 52 (.fresh 53 (.fresh 54 (.post 4 0 qlC 46 (.pack [.abs 53 20,.arr 40 24 k32 (.var 44) (.var 41),.arr 42 5 [CK.int .u8] (.var 45) (.var 43)] 55 (.cut 1 34 (sg 1000 [bg 1012 55,bv 1011 52,bv 1007 48,bv 1006 47,bv 1010 51,bv 1009 50,bg 1008 49,bg 1005 46,bt 1004 (s8 18),bv 1002 16,bv 1013 27,bg 1003 17,bg 1001 15,bg 1000 14]))))))))))))) .top))))) .top) .top
def qj3:Out:=(.fresh 9 (.need (.cmp .leq (.lit 0) (.var 2)) (.br (.cmp .gtr (.var 2) (.lit 20))
 (.pre 0 (sg 0 [bv 1 8,bg 0 7]) (.both (.post 0 0 (sg 0 [bv 1 8,bg 0 7]) 10 (.ret 0 (sg 9 []))) .top))
 (.pre 1 (sg 0 []) (.both (.fresh 10 (.fresh 11 (.post 1 0 (sg 0 []) 10 (.pre 2 (sg 0 [bt 0 (r8 0)]) (.both (.fresh 12 (.post 2 0 (sg 0 [bt 0 (r8 0)]) 12 (.pack [] 13 (.inv 0 14 (sg 1000 [bg 1012 13,bt 1011 .dnil,bt 1007 (.lit 0),bt 1006 .dnil,bt 1010 (.lit 0),bt 1009 (.lit 0),(1008,.nil),(1005,.nil),bt 1004 (s8 0),bv 1002 11,bt 1013 (.lit 0),bg 1003 12,bg 1001 10,bg 1000 9]) (.fresh 14 (.fresh 15 (.fresh 16 (.fresh 17 (.fresh 18 (.fresh 19 (.fresh 20 (.fresh 21 (.fresh 22 (.fresh 23 (.fresh 24 (.fresh 25 (.fresh 26 (.fresh 27 (.hyp 0 14 (.br (.cmp .lss (.var 27) (.var 2))
 (.need (.cmp .leq (.lit 0) (.var 27)) (.need (.cmp .lss (.var 27) (.dlen (.var 4))) (.viewL (.vcell (.var 4) (.var 27) 36) k32 [26,6] 28 (.br (.cmp .gtr (.dlen (.var 30)) (.lit 60))
 (.pre 0 (sg 0 [bv 1 8,bg 0 7]) (.both (.post 0 0 (sg 0 [bv 1 8,bg 0 7]) 31 (.ret 0 (sg 9 []))) .top))
 (.viewL (.vcell (.var 4) (.var 27) 38) [CK.int .u8] [26,6] 31 (.br (.cmp .gtr (.dlen (.var 33)) (.lit 2000))
 (.pre 0 (sg 0 [bv 1 8,bg 0 7]) (.both (.post 0 0 (sg 0 [bv 1 8,bg 0 7]) 34 (.ret 0 (sg 9 []))) .top))
 (.both (.both (.viewL (.vcell (.var 4) (.var 27) 36) k32 [26,6] 34 (.viewL (.vcell (.var 4) (.var 27) 38) [CK.int .u8] [26,6] 37 (.pre 3 ql1 (.both (.fresh 40 (.fresh 41 (.fresh 42 (.fresh 43 (.fresh 44 (.fresh 45 (.post 3 0 ql1 40 (.both ql7 (.both ql7 .top))))))))) .top)))) .top) (.fresh 34 (.fresh 35 (.fresh 36 (.fresh 37 (.fresh 38 (.fresh 39 (.fresh 40 (.fresh 41 (.fresh 42 (.fresh 43 (.fresh 44 (.fresh 45 (.fresh 46 (.fresh 47 (.hyp 1 34 (.know (.cmp .leq (.dlen (.var 45)) (.var 44)) (.pre 5 (sg 0 [bg 9 46,bv 8 45,bv 4 41,bv 3 40,bv 7 44,bv 6 43,bg 5 42,bg 2 39,bt 1 (r8 38),bg 0 37]) (.both (.fresh 48 (.fresh 49 (.fresh 50 (.fresh 51 (.fresh 52 (.fresh 53 (.fresh 54 (.fresh 55 (.fresh 56 (.fresh 57 (.post 5 0 (sg 0 [bg 9 46,bv 8 45,bv 4 41,bv 3 40,bv 7 44,bv 6 43,bg 5 42,bg 2 39,bt 1 (r8 38),bg 0 37]) 48 (.fresh 58 (.know (.cmp .leq (.dlen (.var 56)) (.var 55)) (.pre 6 (sg 0 [bv 11 8,bv 9 55,bv 8 56,bv 7 55,bv 6 54,bg 5 53,bv 3 51,bv 2 50,bv 1 49,bv 0 48,bt 4 (r8 52),bg 10 7]) (.both (.fresh 59 (.fresh 60 (.post 6 0 (sg 0 [bv 11 8,bv 9 55,bv 8 56,bv 7 55,bv 6 54,bg 5 53,bv 3 51,bv 2 50,bv 1 49,bv 0 48,bt 4 (r8 52),bg 10 7]) 59 (.fresh 61 (.both (.br (.var 57)
 (.br (.not (.c2 .req (r8 59) (r8 0)))
 (.stuck 7 0 0)
 ql9)
 ql9) (.fresh 62 (.fresh 63 (.fresh 64 (.fresh 65 (.fresh 66 (.fresh 67 (.fresh 68 (.fresh 69 (.fresh 70 (.fresh 71 (.fresh 72 (.fresh 73 (.fresh 74 (.fresh 75 (.fresh 76 (.fresh 77 (.fresh 78 (.fresh 79 (.fresh 80 (.fresh 81 (.fresh 82 (.fresh 83 (.fresh 84 (.fresh 85 (.fresh 86 (.hyp 2 62 (.both (.know (.cmp .leq (.dlen (.var 73)) (.var 72)) (.pre 7 qlB (.both (.fresh 87 (.fresh 88 (.fresh 89 (.fresh 90 (.fresh 91 (.fresh 92 (.fresh 93 (.post 7 0 qlB 87 (.br (.cmp .eql (.var 91) (.lit 0))
 (.br (.not (.var 86))
 (.both (.both (.stuck 7 0 0) .top) .top)
 (.both (.know (.cmp .leq (.dlen (.var 90)) (.var 89)) (.pre 8 (sg 0 [bv 7 8,bv 5 89,bv 4 90,bv 3 93,bv 2 88,bt 1 (.lit 0),bg 0 87,bg 6 7]) (.both (.fresh 94 (.post 8 0 (sg 0 [bv 7 8,bv 5 89,bv 4 90,bv 3 93,bv 2 88,bt 1 (.lit 0),bg 0 87,bg 6 7]) 94 (.br (.not (.c2 .req (r8 94) (r8 81)))
 (.both (.stuck 7 0 0) .top)
 (.need (.cmp .leq (.lit 0) (.var 88)) (.br (.cmp .neq (.var 88) (.var 80))
 (.both (.stuck 7 0 0) .top)
 (.both (.pre 9 (sg 0 [bg 9 74,bv 8 73,bv 4 69,bv 3 68,bv 7 72,bv 6 71,bg 5 70,bg 2 67,bt 1 (r8 66),bg 0 65]) (.both (.fresh 95 (.fresh 96 (.fresh 97 (.fresh 98 (.post 9 0 (sg 0 [bg 9 74,bv 8 73,bv 4 69,bv 3 68,bv 7 72,bv 6 71,bg 5 70,bg 2 67,bt 1 (r8 66),bg 0 65]) 95 (.need (.cmp .leq (.lit 0) (.var 96)) (.br (.cmp .lss (.var 96) (.var 77))
 (.stuck 7 0 0)
 (.pack [.arr 95 3 [CK.int .i64] (.var 98) (.var 97),.arr 87 5 [CK.int .u8] (.var 90) (.var 89),.abs 74 20] 99 (.cut 3 87 (sg 1000 [bv 1023 85,bv 1022 84,bv 1021 83,bg 1020 82,bv 1018 80,bv 1017 79,bv 1016 78,bv 1015 77,bt 1019 (r8 81),bg 1012 99,bv 1011 73,bv 1007 69,bv 1006 68,bv 1010 72,bv 1009 71,bg 1008 70,bg 1005 67,bt 1004 (r8 66),bv 1002 92,bg 1014 76,bv 1013 75,bg 1003 65,bg 1001 63,bg 1000 62])))))))))) .top)) .top)))))) .top))) .top))
 (.both (.both (.pack [.arr 87 5 [CK.int .u8] (.var 90) (.var 89),.abs 74 20] 94 (.cut 3 87 (sg 1000 [bv 1023 85,bv 1022 84,bv 1021 83,bg 1020 82,bv 1018 80,bv 1017 79,bv 1016 78,bv 1015 77,bt 1019 (r8 81),bg 1012 94,bv 1011 73,bv 1007 69,bv 1006 68,bv 1010 72,bv 1009 71,bg 1008 70,bg 1005 67,bt 1004 (r8 66),bv 1002 92,bg 1014 76,bv 1013 75,bg 1003 65,bg 1001 63,bg 1000 62]))) .top) .top)))))))))) .top))) (.fresh 87 (.fresh 88 (.fresh 89 (.fresh 90 (.fresh 91 (.fresh 92 (.fresh 93 (.fresh 94 (.fresh 95 (.fresh 96 (.fresh 97 (.fresh 98 (.fresh 99 (.fresh 100 (.fresh 101 (.fresh 102 (.fresh 103 (.fresh 104 (.fresh 105 (.fresh 106 (.fresh 107 (.fresh 108 (.fresh 109 (.fresh 110 (.hyp 3 87 (.need (.cmp .leq (.lit 0) (.var 100)) (.need (.cmp .lss (.var 100) (.var 2)) (.need (.cmp .lss (.var 100) (.dlen (.var 4))) (.know (.cmp .leq (.dlen (.var 98)) (.var 97)) (.pre 10 ql2 (.both (.fresh 111 (.fresh 112 (.fresh 113 (.fresh 114 (.fresh 115 (.fresh 116 (.fresh 117 (.post 10 0 ql2 111 (.fresh 118 (.br (.cmp .eql (.var 116) (.lit 0))
 (.br (.cmp .neq (.var 111) (.icell (.var 4) (.var 100) 39))
 (.both (.stuck 7 0 0) .top)
 (.both (.know (.cmp .leq (.dlen (.var 110)) (.var 109)) (.know (.cmp .leq (.dlen (.var 115)) (.var 114)) (.pre 11 ql0 (.both (.fresh 119 (.post 11 0 ql0 119 (.br (.cmp .neq (.var 119) (.lit 0))
 (.stuck 7 0 0)
 (.pack [.cells 118 86 [(.vint .i64 (.var 111)),(.vslice 112 (.lit 0) (.var 113) (.var 114) 1)],.arr 112 5 [CK.int .u8] (.var 115) (.var 114),.abs 99 20,.cells 101 27 [(.vint .i64 (.var 102)),(.vint .i64 (.var 103)),(.vint .i64 (.var 104)),(.vint .i64 (.var 105)),(x8 0 106),(x8 1 106),(x8 2 106),(x8 3 106),(x8 4 106),(x8 5 106),(x8 6 106),(x8 7 106),(x8 8 106),(x8 9 106),(x8 10 106),(x8 11 106),(x8 12 106),(x8 13 106),(x8 14 106),(x8 15 106),(x8 16 106),(x8 17 106),(x8 18 106),(x8 19 106),(x8 20 106),(x8 21 106),(x8 22 106),(x8 23 106),(x8 24 106),(x8 25 106),(x8 26 106),(x8 27 106),(x8 28 106),(x8 29 106),(x8 30 106),(x8 31 106),(.vslice 107 (.lit 0) (.var 108) (.var 109) 32)],.arr 107 24 k32 (.var 110) (.var 109)] 120 (.back 0 14 (sg 1000 [bg 1012 120,bv 1011 98,bv 1007 94,bv 1006 93,bv 1010 97,bv 1009 96,bg 1008 95,bg 1005 92,bt 1004 (r8 91),bv 1002 117,bt 1013 (.arith .add .i64 (.var 100) (.lit 1)),bg 1003 90,bg 1001 88,bg 1000 87])))))) .top)))) .top))
 (.both (.pack [.cells 118 86 [(.vint .i64 (.var 111)),(.vslice 112 (.lit 0) (.var 113) (.var 114) 1)],.arr 112 5 [CK.int .u8] (.var 115) (.var 114),.abs 99 20,.cells 101 27 [(.vint .i64 (.var 102)),(.vint .i64 (.var 103)),(.vint .i64 (.var 104)),(.vint .i64 (.var 105)),(x8 0 106),(x8 1 106),(x8 2 106),(x8 3 106),(x8 4 106),(x8 5 106),(x8 6 106),(x8 7 106),(x8 8 106),(x8 9 106),(x8 10 106),(x8 11 106),(x8 12 106),(x8 13 106),(x8 14 106),(x8 15 106),(x8 16 106),(x8 17 106),(x8 18 106),(x8 19 106),(x8 20 106),(x8 21 106),(x8 22 106),(x8 23 106),(x8 24 106),(x8 25 106),(x8 26 106),(x8 27 106),(x8 28 106),(x8 29 106),(x8 30 106),(x8 31 106),(.vslice 107 (.lit 0) (.var 108) (.var 109) 32)],.arr 107 24 k32 (.var 110) (.var 109)] 119 (.back 0 14 (sg 1000 [bg 1012 119,bv 1011 98,bv 1007 94,bv 1006 93,bv 1010 97,bv 1009 96,bg 1008 95,bg 1005 92,bt 1004 (r8 91),bv 1002 117,bt 1013 (.arith .add .i64 (.var 100) (.lit 1)),bg 1003 90,bg 1001 88,bg 1000 87]))) .top))))))))))) .top))))))))))))))))))))))))))))))))))))))))))))))))))))))))))))))) .top))))))))))))))) .top)))))))))))))))))))))))))
 (.pre 0 (sg 0 [bv 1 8,bg 0 7]) (.both (.post 0 0 (sg 0 [bv 1 8,bg 0 7]) 28 (.ret 0 (sg 9 []))) .top)))))))))))))))))))))) .top))))) .top)))))
theorem qrA:qj ⟨Tryz.prog,qbw,[qdj,qaJ,qc2,qgW,qcu,qgP,idC,qdG,qah,qci,qdQ,qbb],[qwg,qw7,quG,qwU]⟩ 100000 Tryz.f12 = qj3:=by kernel_rfl
theorem qxg (hd:∀ c ∈ ([qdj,qaJ,qc2,qgW,qcu,qgP,idC,qdG,qah,qci,qdQ,qbb]:List Ctr),c.ok Tryz.prog) (h:∀ ρ:Env,ρ.good->(qbw).pre ρ->qj3.den ⟨Tryz.prog,qbw,[qdj,qaJ,qc2,qgW,qcu,qgP,idC,qdG,qah,qci,qdQ,qbb],[qwg,qw7,quG,qwU]⟩ ρ):(qbw).ok Tryz.prog :=
 qf Tryz.func12 (fun a w=>Tryz.call12 a w) hd 100000 (fun ρ hg hp=>by rw [qrA]; exact h ρ hg hp)
end Go.Proofs

set_option linter.unusedSimpArgs false
set_option linter.unusedVariables false
namespace Go.Proofs
open Go Go.Eng
set_option maxRecDepth 20000
def qBK (d:qd) (i:Int):List Int:=(List.range 32).map fun j=>qb d i (4 + j)
@[simp high] theorem qBH (d:qd) (i:Int):qg [[.int .u8 (qb d i 4),.int .u8 (qb d i 5),.int .u8 (qb d i 6),.int .u8 (qb d i 7),.int .u8 (qb d i 8),.int .u8 (qb d i 9),.int .u8 (qb d i 10),.int .u8 (qb d i 11),.int .u8 (qb d i 12),.int .u8 (qb d i 13),.int .u8 (qb d i 14),.int .u8 (qb d i 15),.int .u8 (qb d i 16),.int .u8 (qb d i 17),.int .u8 (qb d i 18),.int .u8 (qb d i 19),.int .u8 (qb d i 20),.int .u8 (qb d i 21),.int .u8 (qb d i 22),.int .u8 (qb d i 23),.int .u8 (qb d i 24),.int .u8 (qb d i 25),.int .u8 (qb d i 26),.int .u8 (qb d i 27),.int .u8 (qb d i 28),.int .u8 (qb d i 29),.int .u8 (qb d i 30),.int .u8 (qb d i 31),.int .u8 (qb d i 32),.int .u8 (qb d i 33),.int .u8 (qb d i 34),.int .u8 (qb d i 35)]] 32 = qBK d i:=rfl
theorem q4q {o:List Int} {M:Option ManV} {L:PcL} {m:ManV} {i:Int} {b:List Int} (h:qfy o M L m i b = 0):sha m.bytes = o:=by
 unfold qfy at h
 by_cases h1:m.ok = false
 ·rw [if_pos h1] at h; cases h
 ·rw [if_neg h1] at h
  by_cases h2:sha m.bytes ≠ o
  ·rw [if_pos h2] at h; cases h
  ·exact Classical.not_not.1 h2
section
variable {h:Hp} {r:Option Addr} {d P:qd} {c n e:Int} {M:Option ManV} {L:PcL} {m:ManV} {R:qd}
theorem q4y (hg:qaL h r d c n P (some m) L):m.ok = true:=by
 obtain ⟨_,_,_,_,hc⟩:=hg
 rcases hc with ⟨h1,_⟩ | ⟨m',h1,_,hm,_⟩
 ·cases h1
 ·obtain rfl:=Option.some.inj h1
  exact (qiI hm).2.2.2.2.2.2.1
theorem q45 (hr:qbf (some m) L = true):m.k <= L.length:=of_decide_eq_true hr
theorem q1d (hs:qzA M L h P e n R) (he:e = 0):∃ m,M = some m/\m.k <= L.length/\n = m.s/\0 <= n/\n <= R.length/\qn R/\sha (qbF R 0 n) = m.o:=by
 rcases hs with ⟨_,h1,_⟩ | ⟨m,rfl,hr,ho,h2⟩
 ·omega
 ·rcases h2 with ⟨h2,_⟩ | ⟨_,h3,h4,h5,h6,h7⟩
  ·exact absurd he h2
  ·refine ⟨m,rfl,q45 hr,h3,h4,h5,h6,?_⟩
   have hseg:qbF R 0 n = bI (R.take n.toNat):=by
    unfold qbF bI
    rw [List.map_take]; rfl
   rw [hseg,h7]
   rcases ho with ⟨_,h8⟩ | ⟨_,_,h8⟩ | ⟨_,_,h8⟩
   ·omega
   ·exact absurd he h8
   ·rcases h8 with ⟨_,h8⟩ | ⟨h8,_⟩
    ·omega
    ·exact h8
end
set_option maxHeartbeats 2000000 in
theorem qva:qbw.ok Tryz.prog:=qxg (by simp [q46,qnE,qvL,q9v,quy,q9k,qzI,q54,qhj,qrJ,q3h,qlV]) fun ρ hg hp=>by
 obtain ⟨hO,⟨hl,hb,hA⟩,hGr,hGd⟩:=hp
 simp (config:={ maxSteps:=8000000 }) [qj3,qbw,qwg,qw7,quG,qwU,qlL,qdj,qaJ,qc2,qgW,qcu,qvN,qgP,idC,qul,qlZ,qr9,qvh,qdG,qah,qhJ,qci,qdQ,qbb,qqM,qkg,qeO,qk1,gaB,qkx,qn2,gOk,hGr,hGd]
 intro _ _
 refine ⟨by omega,fun h20=>?_⟩
 intro _ _ F _ hF0 _ _ H4 _ _
 refine ⟨⟨by omega,.inl hF0,none,⟨[],rfl,⟨rfl,fun j hj=>absurd hj (Nat.not_lt_zero j),fun j hj=>absurd hj (Nat.not_lt_zero j)⟩,fun x hx=>(by cases hx),by decide,.inl ⟨rfl,rfl,rfl,rfl,rfl⟩⟩,fun m hm=>by cases hm⟩,?_⟩
 intro _ _ _ _ F7 _ _ _ O9 _ R10 _ D11 _ C12 _ _ _ N14 _ _ _ P16 _ H17 _ I18 _ i0 i1 hF hOb M L hG hM hlt
 obtain ⟨b0,b1,b2,b3,hOo,⟨D,hD1,hD2⟩,b37,⟨B,hB1,hB2⟩,b39⟩:=hA I18.i i0 hlt
 refine ⟨i0,by omega,D,.inr hD1,fun _ _ _ _ _ _ d60=>⟨B,.inr hB1,fun _ _ _ _ _ _ b2000=>⟨?_,?_⟩⟩⟩
 ·refine ⟨D,.inr hD1,fun _ _ _ _ _ _=>⟨B,.inr hB1,fun _ _ _ _ _ _=>?_⟩⟩
  intros
  refine ⟨⟨by omega,by omega⟩,?_⟩
  intro u19 _ u20 _ u21 _ U22 _ U23 _ U24 _ h23 h24
  have l24:=congrArg List.length h24
  have l23:=congrArg List.length h23
  intros
  refine ⟨⟨⟨M,L,hG⟩,by rw [hOb]; exact hO,⟨b0,b1,b2,b3,hOo,by rw [h23],by omega,by rw [h23]; exact hD2⟩,b37,⟨by rw [h24],by omega,by omega,by rw [h24]; exact hB2⟩,by omega⟩,?_⟩
  intro _ _ _ _ _ _ _ _ _ _ _ _ _ _ V32 _ V33 _ hoff H34 _ hst
  obtain ⟨hE,hG2⟩:=hoff M L hG
  have hle:Hp.le V32.h H34.h:=by
   have h:=qb2 53 20 hst (by simp)
   simpa using h
  refine ⟨hF,hOb,_,⟨_,qdo hG2 hle⟩,fun m hm=>?_⟩
  by_cases hz:V33.i = 0
  ·rw [if_pos hz] at hm
   rw [<- Option.some.inj hm,<- hOb]
   rw [hz] at hE
   exact q4q hE.symm
  ·rw [if_neg hz] at hm
   exact hM m hm
 intro _ _ _ _ F21 _ _ _ O23 _ R24 _ D25 _ C26 _ _ _ N28 _ _ _ P30 _ H31 _ I32 _ eI hF2 hOb2 M2 L2 hG2 hM2
 intros
 refine ⟨⟨M2,L2,hG2⟩,?_⟩
 intro k33 _ k34 _ k35 _ k36 _ k37 _ _ _ k39 _ _ _ k41 _ k42 _ c0 c1 c2 c3 cO cL cb cD hman
 have hman2:=hman M2 L2 hG2
 intros
 refine ⟨⟨cL,cO,cD⟩,?_⟩
 intro id44 _ e45 _ hid _ _
 refine ⟨⟨fun hb=>⟨?_,fun _ H47 _ hst=>?_⟩,fun hb H47 _ hst=>?_⟩,?_⟩
 ·rcases hman2 with ⟨_,hm⟩ | ⟨h1,_⟩
  ·have hsha:=hM2 _ hm
   subst hm
   have hok:=q4y hG2
   simp only [ManV.ok,qro] at hok
   rw [<- cL] at hok
   rcases hid with ⟨h1,_⟩ | ⟨_,_,h3⟩
   ·rw [hok] at h1; cases h1
   ·rw [h3,<- hsha]; rfl
  ·rw [hb] at h1; cases h1
 ·have hle:Hp.le H31.h H47.h:=by
   have h:=qb2 46 20 hst (by simp)
   simpa using h
  refine ⟨eI,hF2,⟨hOb2,M2,⟨L2,qdo hG2 hle⟩,hM2⟩,⟨c0,c1,c2,c3,cO,cL,cb,cD⟩,fun M' L' h'=>?_⟩
  rw [(qdM (qdo hG2 hle) h').1]; exact hman2
 ·have hle:Hp.le H31.h H47.h:=by
   have h:=qb2 46 20 hst (by simp)
   simpa using h
  refine ⟨eI,hF2,⟨hOb2,M2,⟨L2,qdo hG2 hle⟩,hM2⟩,⟨c0,c1,c2,c3,cO,cL,cb,cD⟩,fun M' L' h'=>?_⟩
  rw [(qdM (qdo hG2 hle) h').1]; exact hman2
 clear hman hman2 hG2 hM2
 intro _ _ _ _ F49 _ _ _ O51 _ R52 _ D53 _ C54 _ _ _ N56 _ _ _ P58 _ H59 _ I60 _ _ _ k62 _ k63 _ k64 _ k65 _ k66 _ _ _ k68 _ _ _ k70 _ k71 _ eI3 hF3 hOb3 M3 L3 hG3 hM3 c0 c1 c2 c3 cO cL cb cD hman
 have hman3:=hman M3 L3 hG3
 have hstate:∀ (H:Hp),Hp.le H59.h H->(∃ M,(∃ x,qaL H R52.r D53.d C54.i N56.i P58.d M x)/\∀ m:ManV,M = some m->sha m.bytes = qg (ρ 0).d 32):=fun H hle=>⟨M3,⟨L3,qdo hG3 hle⟩,hM3⟩
 have hman4:∀ (H:Hp),Hp.le H59.h H->∀ (M:Option ManV) (L:PcL),qaL H R52.r D53.d C54.i N56.i P58.d M L->M = some ⟨k62.i,k63.i,k64.i,k65.i,qg k66.d 32,dgs k70.d⟩∨M = none:=fun H hle M' L' h'=>by
  rw [(qdM (qdo hG3 hle) h').1]
  rcases hman3 with ⟨_,h⟩ | ⟨_,h⟩
  ·exact .inl h
  ·exact .inr h
 refine ⟨?_,?_⟩
 ·intros
  refine ⟨⟨⟨M3,L3,hG3⟩,hF3⟩,?_⟩
  intro d72 _ d73 _ d74 _ d75 _ d76 _ d77 _ d78 _ hf hle hdata
  have hS:=hdata M3 L3 hG3
  refine ⟨fun he=>?_,fun hne H _ hst=>?_⟩
  ·obtain ⟨m,hm,hk,hn,hn0,hnl,hnB,hsha⟩:=q1d hS he
   rcases hman3 with ⟨hb,hmm⟩ | ⟨_,hmm⟩
   ·rw [hm] at hmm
    obtain rfl:=Option.some.inj hmm
    subst hm
    have hok:=q4y hG3
    simp only [ManV.ok,qz,Bool.and_eq_true,decide_eq_true_eq] at hok
    simp only at hk hn hsha
    refine ⟨hb,fun _=>?_⟩
    intros
    refine ⟨⟨hn0,hle,by omega,hnl,hnB⟩,?_⟩
    intro s79 _ hs
    refine ⟨by rw [hs]; exact hsha,fun _=>⟨hn0,hn,fun _=>?_⟩⟩
    intros
    refine ⟨⟨_,L3,hG3⟩,?_⟩
    intro i80 _ i81 _ i82 _ i83 _ hinds
    have hil:=q8U (hinds _ L3 hG3)
    rw [List.length_map] at hil
    refine ⟨by omega,by omega,fun _ H _ hst=>?_⟩
    have hle':Hp.le H59.h H.h:=by
     have h:=qb2 74 20 hst (by simp)
     simpa using h
    exact ⟨eI3,hf,⟨hOb3,hstate _ hle'⟩,⟨c0,c1,c2,c3,cO,cL,cb,cD⟩,hman4 _ hle'⟩
   ·rw [hm] at hmm; cases hmm
  ·have hle':Hp.le H59.h H.h:=by
    have h:=qb2 74 20 hst (by simp)
    simpa using h
   exact ⟨eI3,hf,⟨hOb3,hstate _ hle'⟩,⟨c0,c1,c2,c3,cO,cL,cb,cD⟩,hman4 _ hle'⟩
 clear hman hman3 hman4 hstate hG3 hM3
 intro _ _ _ _ F2 _ _ _ O4 _ R5 _ D6 _ C7 _ _ _ N9 _ Q10 _ P11 _ H12 _ I13 _ _ _ k15 _ k16 _ k17 _ k18 _ k19 _ _ _ k21 _ k22 _ k23 _ eI hF hOb M4 L4 hG4 hM4 c0 c1 c2 c3 cO cL cb cD hman
 refine ⟨by omega,by omega,by omega,fun hk0=>⟨⟨⟨M4,L4,hG4⟩,hF,by rw [eI]; exact b39⟩,?_⟩⟩
 intro p24 _ p25 _ p26 _ p27 _ p28 _ p29 _ p30 _ hf hpiece _ _
 have hS:=hpiece M4 L4 hG4
 have hadd:qe .add .i64 I13.i 1 = I13.i + 1:=qeR (by omega) (by omega)
 rw [hadd]
 have hback:∀ (H:Hp),Hp.le H12.h H->(0 <= I13.i + 1/\I13.i + 1 <= (ρ 2).i/\qk p30.d/\qg O4.d 32 = qg (ρ 0).d 32/\∃ M,(∃ x,qaL H R5.r D6.d C7.i N9.i P11.d M x)/\∀ m:ManV,M = some m->sha m.bytes = qg (ρ 0).d 32)/\max ((ρ 2).i - (I13.i + 1)) 0 < (ρ 2).i - I18.i:=fun H hle=>⟨⟨by omega,by omega,hf,hOb,M4,⟨L4,qdo hG4 hle⟩,hM4⟩,by omega⟩
 refine ⟨fun he=>?_,fun hne=>?_⟩
 ·rcases hS with ⟨_,h1,_⟩ | ⟨m,hm,hr,hreg⟩
  ·omega
  ·rcases hman M4 L4 hG4 with h1 | h1
   ·rw [hm] at h1
    obtain rfl:=Option.some.inj h1
    have hR:qic (qz k15.i k16.i k17.i k18.i ((dgs k23.d).length:Int)) (qee (qk2 k15.i k16.i k17.i k18.i ((dgs k23.d).length:Int) (dgs k23.d) H12.h P11.d) (pcI P11.d) P11.d.length k15.i) (qb (ρ 4).d I13.i 39) k17.i p29.i p24.i p26.i (qgF H12.h P11.d k15.i.toNat (qb (ρ 4).d I13.i 39)) ((dgs k23.d)[(qb (ρ 4).d I13.i 39).toNat]?.getD []) p28.d:=hreg
    obtain ⟨hMok,⟨x0,x1⟩,_,hlen,hsha,hy,hmR,hB,_⟩:=quA hR he
    refine ⟨hy,fun _ _ hcap=>⟨⟨c0,c3,cL,cD,hmR,by omega,?_,hB⟩,fun v32 _ hv=>⟨?_,fun _ H _ hst=>?_⟩⟩⟩
    ·obtain ⟨k1,k2,k3,k4,s0,s1,_⟩:=qdq.1 hMok
     have hq:qdi k15.i k18.i <= k18.i + k15.i - 1:=Int.tdiv_le_self _ (by omega)
     rw [bI_len] at hlen
     omega
    ·rw [show k21.i = ((dgs k23.d).length:Int) by rw [cL,qro]] at hv
     exact q3j hR he hv hy rfl rfl
    ·refine hback _ ?_
     have h:=qb2 99 20 hst (by simp)
     simpa using h
   ·rw [hm] at h1; cases h1
 ·intro H _ hst
  refine hback _ ?_
  have h:=qb2 99 20 hst (by simp)
  simpa using h
end Go.Proofs
