/- Texts QJ, QK, QL, RP, RF, RE, RG, TA, TC, TI, TJ, TL, TM, UA, UB, UC, UD, UE. -/
import Derived.Test.YtelcnkclppkicaaGreatDoorG9
import Derived.Test.YtelcnkclppkicaaGreatDoorG5
import Derived.Test.YtelcnkclppkicaaGreatDoorProg
import Derived.Test.YtelcnkclppkicaaGreatDoorG1
import Derived.Test.YtelcnkclppkicaaGreatDoorG8
import Derived.Test.YtelcnkclppkicaaGreatDoorG6
set_option linter.unusedSimpArgs false
set_option linter.unusedVariables false
set_option maxRecDepth 100000
namespace Go.Proofs
open Go Go.Eng
@[simp] def qbL:T:=.rcons (tu (tl 1)) (rr 31 o8 .rnil)
@[simp] def qhm:Sg:=sg 0 [bg 9 68,bv 8 67,bv 4 63,bv 3 62,bv 7 66,bv 6 65,bg 5 64,bg 2 61,bt 1 (s8 40),bg 0 39]
@[simp] def qoY:Sg:=sg 0 [bv 11 1,bv 9 28,bv 8 32,bv 7 28,bt 6 (tl 1),bg 5 27,bt 3 (tl 1),bt 2 (tl 1),bt 1 (tl 1),bt 0 (tl 1),bt 4 (r8 26),bg 10 0]
@[simp] def qoT:Sg:=sg 0 [bv 11 1,bt 9 (tl 1),bt 8 (.rcons (tu (tl 120)) .rnil),bv 1 23,bt 7 (tl 1),bt 6 (tl 1),bg 5 24,bt 4 (tl 1),bt 3 (tl 1),bt 2 (tl 1),bg 0 22,bg 10 0]
@[simp] def qpa:Sg:=sg 0 [bv 27 1,bv 25 59,bv 24 60,bv 19 52,bv 18 53,bg 9 48,bv 8 47,bv 4 43,bv 3 42,bv 7 46,bv 6 45,bg 5 44,bg 2 41,bt 1 (r8 40),bv 23 59,bt 22 (.dlen (tv 60)),bg 21 58,bt 20 (.icell (tv 56) (tl 0) 0),bv 17 52,bt 16 (tl 1),bg 15 51,bt 13 (tl 1),bt 12 (tl 1),bt 11 (tl 1),bt 10 (tl 1),bt 14 (r8 50),bg 0 39,bg 26 0]
@[simp] def qr6:Sg:=sg 0 [bv 3 1,bt 1 (tl 1),bt 0 qbL,bg 2 0]
@[simp] def qrJ:Sg:=sg 0 [bv 3 1,bt 1 (tl 0),bt 0 qbL,bg 2 0]
@[simp] def qrK:Sg:=sg 0 [bv 3 1,bt 1 (tl 3),bt 0 qbL,bg 2 0]
@[simp] def qqG:Sg:=sg 0 [bg 5 13,bv 4 12,bt 3 (tl 5),bt 2 (.icell (tv 6) (tl 0) 0),bt 1 qbL,bg 0 11]
@[simp] def qrc:Sg:=sg 0 [bv 9 1,bv 7 5,bv 6 6,bv 5 5,bt 4 (tl 2),bg 3 3,bt 2 (tl 2),bt 1 (.icell (tv 6) (tl 2) 0),bt 0 qbL,bg 8 0]
@[simp] def qqZ:Sg:=sg 0 [bv 17 1,bt 15 (tl 0),bt 14 .dnil,bv 10 5,bv 9 6,bg 5 16,bv 4 12,bt 13 (tl 0),bt 12 (tl 0),(11,.nil),bv 8 5,bv 7 4,bg 6 3,bt 3 (tl 17),bt 2 (.icell (tv 6) (tl 1) 0),bt 1 qbL,bg 0 11,bg 16 0]
@[simp] def qrG:Sg:=sg 0 [bv 17 1,bt 15 (tl 0),bt 14 .dnil,bv 10 5,bv 9 6,bg 5 14,bv 4 12,bt 13 (tl 0),bt 12 (tl 0),(11,.nil),bv 8 5,bv 7 4,bg 6 3,bt 3 (tl 16),bt 2 (.icell (tv 6) (tl 1) 0),bt 1 qbL,bg 0 11,bg 16 0]
@[simp] def qrf:Sg:=sg 0 [bv 11 1,bt 6 (tl 3),bt 5 (.dapp (.rcons (ti (tl 0)) .rnil) (.dapp (.rcons (ti (tl 1)) .rnil) (.rcons (ti (tl 2)) .rnil))),bt 9 (.bl false),bt 8 (.bl true),bt 7 (tl 3),bt 4 (tl 3),bt 3 (tl 3),bg 2 9,bt 1 (tl 3),bt 0 qbL,bg 10 0]
@[simp] def qqi:Sg:=sg 0 [bv 11 1,bt 6 (tl 3),bt 5 (.dapp (.rcons (ti (tl 0)) .rnil) (.dapp (.rcons (ti (tl 1)) .rnil) (.rcons (ti (tl 2)) .rnil))),bt 9 (.bl false),bt 8 (.bl false),bt 7 (tl 3),bt 4 (tl 3),bt 3 (tl 3),bg 2 7,bt 1 (tl 1),bt 0 qbL,bg 10 0]
def qxK:Out:=(.fresh 2 (.pre 0 qrK (tb (fr 3 4 (.post 0 0 qrK 3 (tn (tl 0) (tv 4) (.br (.cmp .neq (tv 4) (tl 3))
 (.stuck 7 0 0)
 (.fresh 7 (.pre 1 qqi (tb (.fresh 8 (.post 1 0 qqi 8 (.br (.cmp .neq (tv 8) (tl 1))
 (.stuck 7 0 0)
 (.fresh 9 (.pre 1 qrf (tb (.fresh 10 (.post 1 0 qrf 10 (.br (.cmp .neq (tv 10) (tl 2))
 (.stuck 7 0 0)
 (.pre 2 (sg 0 []) (tb (fr 11 3 (.post 2 0 (sg 0 []) 11 (ts (tl 0) (tv 4) (ts (tl 0) (.dlen (tv 6)) (tb (.pre 3 qqG (tb (.fresh 14 (.post 3 0 qqG 14 (ts (tl 1) (tv 4) (ts (tl 1) (.dlen (tv 6)) (tb (.pre 4 qrG (tb (fr 15 2 (.post 4 0 qrG 15 (.br (.not (tv 15))
 (tb (tb (tb (tb (.stuck 7 0 0)))))
 (tb (.pre 4 qqZ (tb (fr 17 2 (.post 4 0 qqZ 17 (.br (tv 17)
 (tb (tb (tb (.stuck 7 0 0))))
 (ts (tl 2) (tv 4) (ts (tl 2) (.dlen (tv 6)) (.know (.cmp .leq (.dlen (tv 6)) (tv 5)) (tn (tl 0) (tv 5) (tn (tl 2) (tv 5) (tb (.pre 5 qrc (tb (.fresh 19 (.post 5 0 qrc 19 (.br (.not (tv 19))
 (tb (tb (.stuck 7 0 0)))
 (tb (.pre 6 qrJ (tb (.fresh 20 (.post 6 0 qrJ 20 (tb (.pre 6 qr6 (tb (.fresh 21 (.post 6 0 qr6 21 (.br (.c2 .req (r8 20) (r8 21))
 (.stuck 7 0 0)
 (.pre 7 (sg 0 []) (tb (fr 22 2 (.post 7 0 (sg 0 []) 22 (fr 24 2 (.pre 8 qoT (tb (fr 26 9 (.post 8 0 qoT 26 (.fresh 35 (.pre 9 qoY (tb (fr 36 2 (.post 9 0 qoY 36 (.fresh 38 (.both (.pre 10 (sg 0 [bt 0 (r8 36)]) (tb (.fresh 39 (.post 10 0 (sg 0 [bt 0 (r8 36)]) 39 (.pack [.cells 38 24 [(x8 0 36),(x8 1 36),(x8 2 36),(x8 3 36),(x8 4 36),(x8 5 36),(x8 6 36),(x8 7 36),(x8 8 36),(x8 9 36),(x8 10 36),(x8 11 36),(x8 12 36),(x8 13 36),(x8 14 36),(x8 15 36),(x8 16 36),(x8 17 36),(x8 18 36),(x8 19 36),(x8 20 36),(x8 21 36),(x8 22 36),(x8 23 36),(x8 24 36),(x8 25 36),(x8 26 36),(x8 27 36),(x8 28 36),(x8 29 36),(x8 30 36),(x8 31 36)],.arr 22 151 [CK.int .u32,CK.int .i32,CK.int .u32,CK.int .u8,CK.int .u8,CK.int .u8,CK.int .u8,CK.int .u8,CK.int .u8,CK.int .u8,CK.int .u8,CK.int .u8,CK.int .u8,CK.int .u8,CK.int .u8,CK.int .u8,CK.int .u8,CK.int .u8,CK.int .u8,CK.int .u8,CK.int .u8,CK.int .u8,CK.int .u8,CK.int .u8,CK.int .u8,CK.int .u8,CK.int .u8,CK.int .u8,CK.int .u8,CK.int .u8,CK.int .u8,CK.int .u8,CK.int .u8,CK.int .u8,CK.int .u8,CK.int .u8,CK.int .u8,CK.int .u8,CK.int .u8,CK.int .u8,CK.int .u8,CK.int .u8,CK.int .u8,CK.int .u8,CK.int .u8,CK.int .u8,CK.int .u8,CK.int .u8,CK.int .u8,CK.int .u8,CK.int .u8,CK.int .u8,CK.int .u8,CK.int .u8,CK.int .u8,CK.int .u8,CK.int .u8,CK.int .u8,CK.int .u8,CK.int .u8,CK.int .u8,CK.int .u8,CK.int .u8,CK.int .u8,CK.int .u8,CK.int .u8,CK.int .u8,CK.int .u8,CK.int .u8,CK.int .u8,CK.int .u8,CK.int .u8,CK.int .u8,CK.int .u8,CK.int .u8,CK.int .u8,CK.int .u8,CK.int .u8,CK.int .u8,CK.int .u8,CK.int .u8,CK.int .u8,CK.int .u8,CK.int .u8,CK.int .u8,CK.int .u8,CK.int .u8,CK.int .u8,CK.int .u8,CK.int .u8,CK.int .u8,CK.int .u8,CK.int .u8,CK.int .u8,CK.int .u8,CK.int .u8,CK.int .u8,CK.int .u8,CK.int .u8,CK.int .u8,CK.int .u8,CK.int .u8,CK.int .u8,CK.int .u8,CK.int .u8,CK.int .u8,CK.int .u8,CK.int .u8,CK.int .u8,CK.int .u8,CK.int .u8,CK.int .u8,CK.int .u8,CK.int .u8,CK.int .u8,CK.int .u8,CK.int .u8,CK.int .u8,CK.int .u8,CK.int .u8,CK.int .u8,CK.int .u8,CK.int .u8,CK.int .u8,CK.int .u8,CK.int .u8,CK.int .u8,CK.int .u8,CK.int .u8,CK.int .u8,CK.int .u8,CK.int .u8,CK.int .u8,CK.int .u8,CK.int .u8,CK.int .u8,CK.int .u8,CK.int .u8,CK.int .u8,CK.int .u8,CK.int .u8,CK.int .u8,CK.int .u8,CK.int .u8,CK.int .u8,CK.int .u8,CK.int .u8,CK.int .u8,CK.int .u8,CK.int .u8,CK.int .u8,CK.int .u8,CK.int .u8,CK.int .u8,CK.int .u8,CK.int .u8,CK.int .u8,CK.int .u8,CK.int .u8,CK.int .u8,CK.int .u8,CK.int .u8,CK.int .u8,CK.int .u8,CK.int .u8,CK.int .u8,CK.int .u8,CK.int .u8,CK.int .u8,CK.int .u8,CK.int .u8,CK.int .u8,CK.int .u8,CK.int .u8,CK.int .u8,CK.int .u8,CK.int .u8,CK.int .u8,CK.int .u8,CK.int .u8,CK.int .u8,CK.int .u8,CK.int .u8,CK.int .u8,CK.int .u8,CK.int .u8,CK.int .u8,CK.int .u8,CK.int .u8,CK.int .u8,CK.int .u8,CK.int .u8,CK.int .u8,CK.int .u8,CK.int .u8,CK.int .u8,CK.int .u8,CK.int .u8,CK.int .u8,CK.int .u8,CK.int .u8,CK.int .u8,CK.int .u8,CK.int .u8,CK.int .u8,CK.int .u8,CK.int .u8,CK.int .u8,CK.int .u8,CK.int .u8,CK.int .u8,CK.int .u8,CK.int .u8,CK.int .u8,CK.int .u8,CK.int .u8,CK.int .u8,CK.int .u8,CK.int .u8,CK.int .u8,CK.int .u8,CK.int .u8,CK.int .u8,CK.int .u8,CK.int .u8,CK.int .u8,CK.int .u8,CK.int .u8,CK.int .u8,CK.int .u8,CK.int .u8,CK.int .u8,CK.int .u8,CK.int .u8,CK.int .u8,CK.int .u8,CK.int .u8,CK.int .u8,CK.int .u8,CK.int .u8,CK.int .u8,CK.int .u8,CK.int .u8,CK.int .u8,CK.int .u8,CK.int .u8,CK.int .u8,CK.int .u8,CK.int .u8,CK.int .u8,CK.int .u8,CK.int .u8,CK.int .u8,CK.int .u8,CK.int .u8,CK.int .u8,CK.int .u8,CK.int .u8,CK.int .u8,CK.int .u8,CK.int .u8,CK.int .u8,CK.int .u8,CK.int .u8,CK.int .u8,CK.int .u8,CK.int .u8,CK.int .u8,CK.int .u8,CK.int .u8,CK.int .u8,CK.int .u8,CK.int .u8,CK.int .u8,CK.int .u8,CK.int .u8,CK.int .u8,CK.int .u8,CK.int .u8,CK.int .u8,CK.int .u8,CK.int .u8,CK.int .u8,CK.int .u8,CK.int .u8,CK.int .u8,CK.int .u8,CK.int .u8,CK.int .u8,CK.int .u8,CK.int .u8,CK.int .u8,CK.int .u8,CK.int .u8,CK.int .u8,CK.int .u8,CK.int .u8,CK.int .u8,CK.int .u8,CK.int .u8,CK.int .u8,CK.int .u8,CK.int .u8,CK.int .u8,CK.int .u8,CK.int .u8,CK.int .u8,CK.int .u8,CK.int .u8,CK.int .u8,CK.int .u8,CK.int .u8,CK.int .u8,CK.int .u8,CK.int .u8,CK.int .u8,CK.int .u8,CK.int .u8,CK.int .u8,CK.int .u8,CK.int .u8,CK.int .u8,CK.int .u8,CK.int .u8,CK.int .u8,CK.int .u8,CK.int .u8,CK.int .u8,CK.int .u8,CK.int .u8,CK.int .u8,CK.int .u8,CK.int .u8,CK.int .u8,CK.int .u8,CK.int .u8,CK.int .u8,CK.int .u8,CK.int .u8,CK.int .u8,CK.int .u8,CK.int .u8,CK.int .u8,CK.int .u8,CK.int .u8,CK.int .u8,CK.int .u8,CK.int .u8,CK.int .u8,CK.int .u8,CK.int .u8,CK.int .u8,CK.int .u8,CK.int .u8,CK.int .u8,CK.int .u8,CK.int .u8,CK.int .u8,CK.int .u8,CK.int .u8,CK.int .u8,CK.int .u8,CK.int .u8,CK.int .u8,CK.int .u8,CK.int .u8,CK.int .u8,CK.int .u8,CK.int .u8,CK.int .u8,CK.int .u8,CK.int .u8,CK.int .u8,CK.int .u8,CK.int .u8,CK.int .u8,CK.int .u8,CK.int .u8,CK.int .u8,CK.int .u8,CK.int .u8,CK.int .u8,CK.int .u8,CK.int .u8,CK.int .u8,CK.int .u8,CK.int .u8,CK.int .u8,CK.int .u8,CK.int .u8,CK.int .u8,CK.int .u8,CK.int .u8,CK.int .u8,CK.int .u8,CK.int .u8,CK.int .u8,CK.int .u8,CK.int .u8,CK.int .u8,CK.int .u8,CK.int .u8,CK.int .u8,CK.int .u8,CK.int .u8,CK.int .u8,CK.int .u8,CK.int .u8,CK.int .u8,CK.int .u8,CK.int .u8,CK.int .u8,CK.int .u8,CK.int .u8,CK.int .u8,CK.int .u8,CK.int .u8,CK.int .u8,CK.int .u8,CK.int .u8,CK.int .u8,CK.int .u8,CK.int .u8,CK.int .u8,CK.int .u8,CK.int .u8,CK.int .u8,CK.int .u8,CK.int .u8,CK.int .u8,CK.int .u8,CK.int .u8,CK.int .u8,CK.int .u8,CK.int .u8,CK.int .u8,CK.int .u8,CK.int .u8,CK.int .u8,CK.int .u8,CK.int .u8,CK.int .u8,CK.int .u8,CK.int .u8,CK.int .u8,CK.int .u8,CK.int .u8,CK.int .u8,CK.int .u8,CK.int .u8,CK.int .u8,CK.int .u8,CK.int .u8,CK.int .u8,CK.int .u8,CK.int .u8,CK.int .u8,CK.int .u8,CK.int .u8,CK.int .u8,CK.int .u8,CK.int .u8,CK.int .u8,CK.int .u8,CK.int .u8,CK.int .u8,CK.int .u8,CK.int .u8,CK.int .u8,CK.int .u8,CK.int .u8,CK.int .u8,CK.int .u8,CK.int .u8,CK.int .u8,CK.int .u8,CK.int .u8,CK.int .u8,CK.int .u8,CK.int .u8,CK.int .u8,CK.int .u8,CK.int .u8,CK.int .u8,CK.int .u8,CK.int .u8,CK.int .u8,CK.int .u8,CK.int .u8,CK.int .u8,CK.int .u8,CK.int .u8,CK.int .u8,CK.int .u8,CK.int .u8,CK.int .u8,CK.int .u8,CK.int .u8,CK.int .u8,CK.int .u8,CK.int .u8,CK.int .u8,CK.int .u8,CK.int .u8,CK.int .u8,CK.int .u8,CK.int .u8,CK.int .u8,CK.int .u8,CK.int .u8,CK.int .u8,CK.int .u8,CK.int .u8,CK.int .i64,CK.int .i64,CK.int .i64,CK.int .i64,CK.int .i64,CK.int .i64,CK.int .i64,CK.int .i64,CK.int .i64,CK.int .i64,CK.int .i64,CK.int .i64,CK.int .i64,CK.int .i64,CK.int .i64,CK.int .i64,CK.int .i64,CK.int .i64,CK.int .i64,CK.int .i64,CK.int .i64,CK.int .i64,CK.int .i64,CK.int .i64,CK.int .i64,CK.int .i64,CK.int .i64,CK.int .i64,CK.int .i64,CK.int .i64,CK.int .i64,CK.int .i64,CK.int .i64,CK.int .i64,CK.int .i64,CK.int .i64,CK.int .i64,CK.int .i64,CK.int .i64,CK.int .i64,CK.int .i64,CK.int .i64,CK.int .i64,CK.int .i64,CK.int .i64,CK.int .i64,CK.int .i64,CK.int .i64,CK.int .i64,CK.int .i64,CK.int .i64,CK.int .i64,CK.int .i64,CK.int .i64,CK.int .i64,CK.int .i64,CK.int .i64,CK.int .i64,CK.int .i64,CK.int .i64,CK.int .i64,CK.int .i64,CK.int .i64,CK.int .i64,CK.int .i64,CK.int .i64,CK.int .i64,CK.int .i64,CK.int .i64,CK.int .i64,CK.int .i64,CK.int .i64,CK.int .i64,CK.int .i64,CK.int .i64,CK.int .i64,CK.int .i64,CK.int .i64,CK.int .i64,CK.int .i64,CK.int .i64,CK.int .i64,CK.int .i64,CK.int .i64,CK.int .i64,CK.int .i64,CK.int .i64,CK.int .i64,CK.int .i64,CK.int .i64,CK.int .i64,CK.int .i64,CK.int .i64,CK.int .i64,CK.int .i64,CK.int .i64,CK.int .i64,CK.int .i64,CK.int .i64,CK.int .i64,CK.int .i64,CK.int .i64,CK.int .i64,CK.int .i64,CK.int .i64,CK.int .i64,CK.int .i64,CK.int .i64,CK.int .i64,CK.int .i64,CK.int .i64,CK.int .i64,CK.int .i64,CK.int .i64,CK.int .i64,CK.int .i64,CK.int .i64,CK.int .i64,CK.int .i64,CK.int .i64,CK.int .i64,CK.int .i64,CK.int .i64,CK.int .i64,CK.int .i64,CK.int .i64,CK.int .i64,CK.int .i64,CK.int .i64,CK.int .i64,CK.int .i64,CK.int .i64,CK.int .i64,CK.int .i64,CK.int .i64,CK.int .i64,CK.int .i64,CK.int .i64,CK.int .i64,CK.int .i64,CK.int .i64,CK.int .i64,CK.int .i64,CK.int .i64,CK.int .i64,CK.int .i64,CK.int .i64,CK.int .i64,CK.int .i64,CK.int .i64,CK.int .i64,CK.int .i64,CK.int .i64,CK.int .i64,CK.int .i64,CK.int .i64,CK.int .i64,CK.int .i64,CK.int .i64,CK.int .i64,CK.int .i64,CK.int .i64,CK.int .i64,CK.int .i64,CK.int .i64,CK.int .i64,CK.int .i64,CK.int .i64,CK.int .i64,CK.int .i64,CK.int .i64,CK.int .i64,CK.int .i64,CK.int .i64,CK.int .i64,CK.int .i64,CK.int .i64,CK.int .i64,CK.int .i64,CK.int .i64,CK.int .i64,CK.int .i64,CK.int .i64,CK.int .i64,CK.int .i64,CK.int .i64,CK.int .i64,CK.int .i64,CK.int .i64,CK.int .i64,CK.int .i64,CK.int .i64,CK.int .i64,CK.int .i64,CK.int .i64,CK.int .i64,CK.int .i64,CK.int .i64,CK.int .i64,CK.int .i64,CK.int .i64,CK.int .i64,CK.int .i64,CK.int .i64,CK.int .i64,CK.int .i64,CK.int .i64,CK.int .i64,CK.int .i64,CK.int .i64,CK.int .i64,CK.int .i64,CK.int .i64,CK.int .i64,CK.int .i64,CK.int .i64,CK.int .i64,CK.int .i64,CK.int .i64,CK.int .i64,CK.int .i64,CK.int .i64,CK.int .i64,CK.int .i64,CK.int .i64,CK.int .i64,CK.int .i64,CK.int .i64,CK.int .i64,CK.int .i64,CK.int .i64,CK.int .i64,CK.int .i64,CK.int .i64,CK.int .i64,CK.int .i64,CK.int .i64,CK.int .i64,CK.int .i64,CK.int .i64,CK.int .i64,CK.int .i64,CK.int .i64,CK.int .i64,CK.int .i64,CK.int .i64,CK.int .i64,CK.int .i64,CK.int .i64,CK.int .i64,CK.int .i64,CK.int .i64,CK.int .i64,CK.int .i64,CK.int .i64,CK.int .i64] (tv 31) (tl 1),.cells 11 179 [(tv 12)],.cells 9 3 [(ti (tl 0)),(ti (tl 1)),(ti (tl 2))],.cells 7 3 [(ti (tl 0)),(ti (tl 1)),(ti (tl 2))],.arr 3 3 [CK.int .i64] (tv 6) (tv 5),.cells 2 24 [(tu (tl 1)),o8,o8,o8,o8,o8,o8,o8,o8,o8,o8,o8,o8,o8,o8,o8,o8,o8,o8,o8,o8,o8,o8,o8,o8,o8,o8,o8,o8,o8,o8,o8]] 40 (.cut 0 39 (sg 1000 [bg 1018 34,bv 1017 33,bv 1014 32,bv 1013 28,bg 1012 27,bt 1011 (r8 26),bg 1009 40,bt 1008 .dnil,bt 1004 (tl 0),bt 1003 .dnil,bt 1007 (tl 0),bt 1006 (tl 0),(1005,.nil),(1002,.nil),bt 1001 (s8 36),bg 1000 39,bv 1016 30,bg 1015 29,bg 1010 35]))))))) (fr 39 19 (.hyp 0 39 (ts (tl 0) (.dlen (tv 56)) (tb (.viewL (.vcell (tv 56) (tl 0) 1) [CK.int .u8] [57] 58 (.pre 11 qpa (tb (fr 61 9 (.post 11 0 qpa 61 (tb (tb (tb (.br (.cmp .eql (tv 69) (tl 0))
 (tb (tb (.pre 12 qhm (tb (.fresh 70 (.post 12 0 qhm 70 (tb (tb (.br (tv 70)
 (tb (tb (.pre 13 qhm (tb (fr 71 4 (.post 13 0 qhm 71 (tb (tn (tl 0) (tv 72) (tb (tb (tb (.need (.beq (.bl true) (.cmp .eql (tv 72) (tl 1))) (.ret 0 (sg 2 []))))))))))))))
 (tb (tb (tb (tb (tb (tb (.stuck 7 0 0))))))))))))))))
 (tb (tb (tb (tb (tb (tb (tb (tb (tb (tb (.stuck 7 0 0))))))))))))))))))))))))))))))))))))))))))))))))))))))))))))))))))))))))))))))))))))))))))))))))))))))))))
theorem q55:qj Tryz.prog qfO [qg8,qoh,qk1,qo1,qhd,qhZ,qh6,qc9,qrb,idC,qg1,qgd,qda,qge] [q1n] qxK:=qg Tryz.func31 Tryz.call31 (by kernel_rfl)
def d1:List Int:=1 :: List.replicate 31 0
theorem qvM:qZ d1 0 1 = true:=by decide +kernel
theorem qwY:qZ d1 0 2 = true:=by decide +kernel
theorem qym:qZ d1 1 2 = true:=by decide +kernel
theorem q8J:¬ qW d1 0 = qW d1 1:=by decide +kernel
theorem q0T:qa2 d1 [0,1,2] = [0,1,2]:=by
 symm
 refine q2M ⟨List.Perm.refl _,?_⟩ (by decide);simp [qvM,qwY,qym]
theorem qzi:qc4 [0,1,2] = [0,1,2]:=by decide
theorem qCn:qlT d1 3 = [0,1,2]:=by
 have h:qgS 3 = [0,1,2]:=by decide
 rw [qlT,h,qb1,qzi,q0T]; rfl
theorem qtI:qb1 d1 [0,1,2] 3 = [0,1,2]:=by
 rw [qb1,qzi,q0T]; rfl
theorem q9j:qh2 d1 1 [0,1,2] 3 false false = 1:=by simp [qh2,qtI]
theorem q9S:qh2 d1 3 [0,1,2] 3 true false = 2:=by simp [qh2,qtI]
theorem qDR:qng d1 2 2 [0,1] = true:=by
 have h:qc4 [0,1] = [0,1]:=by decide
 rw [qng,h]; simp [qwY,qym]
def cl1:Cl:=qeA (fun _ _=>none) d1 0 5
theorem q3j:qej cl1 d1 1 16 [0,1,2] [] = true:=by
 rw [qej,jd2];refine ⟨0,by simp,?_⟩;have h:cl1 d1 ((0:Nat):Int) = some 5:=by simp [cl1,qeA]
 rw [h];simp [qvM,qmo]
theorem q5i:qej cl1 d1 1 17 [0,1,2] [] = false:=by
 rw [qej,je4];intro i _;by_cases hi:i = 0
 ·subst hi
  have h:cl1 d1 ((0:Nat):Int) = some 5:=by simp [cl1,qeA]
  rw [h]; simp [qmo]
 ·have h:cl1 d1 ((i:Nat):Int) = none:=by simp [cl1,qeA,hi]
  rw [h]; simp
theorem qC7:qf [[Value.int .u8 1,.int .u8 0,.int .u8 0,.int .u8 0,.int .u8 0,.int .u8 0,.int .u8 0,.int .u8 0,.int .u8 0,.int .u8 0,.int .u8 0,.int .u8 0,.int .u8 0,.int .u8 0,.int .u8 0,.int .u8 0,.int .u8 0,.int .u8 0,.int .u8 0,.int .u8 0,.int .u8 0,.int .u8 0,.int .u8 0,.int .u8 0,.int .u8 0,.int .u8 0,.int .u8 0,.int .u8 0,.int .u8 0,.int .u8 0,.int .u8 0,.int .u8 0]] 32 = d1:=by rfl
theorem qBI:qH d1:=by intro x hx; simp [d1] at hx; rcases hx with rfl | rfl <;> decide
theorem q8O {h:Hp}:qbt h none [] 0 0 [] none []:=by
 refine ⟨rfl,⟨rfl,?_,?_⟩,?_,by decide,.inl ⟨rfl,rfl,rfl,rfl,rfl⟩⟩
 ·intro j hj; exact absurd hj (jea j)
 ·intro j hj; exact absurd hj (jea j)
 ·intro x hx; cases hx
theorem qFd:(qck 1 1).2.2 = 1:=by kernel_rfl
theorem qAj:qk [[Value.int .u8 120]]:=by intro row hr; simp at hr; subst hr; decide
set_option pp.funBinderTypes false
set_option format.width 2000
set_option format.indent 1
set_option maxRecDepth 20000 in
set_option maxHeartbeats 4000000 in
theorem qx6 (hd:∀ c ∈ ([qg8,qoh,qk1,qo1,qhd,qhZ,qh6,qc9,qrb,idC,qg1,qgd,qda,qge]:List Ctr),c.ok Tryz.prog):qfO.ok Tryz.prog:=q55 hd fun Z hg hp=>by
 obtain ⟨hGr,hGd⟩:=hp;simp (config:={ maxSteps:=4000000 }) [qxK,qfO,q1n,qg8,qoh,qAO,qk1,qo1,qhd,qBw,qhZ,q9o,qow,qh6,qc9,qrb,qlP,idC,qjg,qqK,qg1,qgd,qw5,qda,qge,qgc,qsR,qbe,qN,qo5,qgw,qd6,qcI,qkU,qf4,qa8,qbx,qdm,gaB,gOk,hGr,hGd,qC7,qBI];have e012:qt [[Value.int IntKind.i64 0],[Value.int IntKind.i64 1],[Value.int IntKind.i64 2]] = [0,1,2]:=rfl;intro _ _ l0 _ n _ c _ D _ hl;obtain ⟨hn,hD,hrow⟩:=hl;rw [qCn] at hD;have hDl:D.d.length = 3:=by have:=congrArg List.length hD; simpa [qt] using this
 refine ⟨by omega,by omega,fun _ _ _ x5 _ h5=>?_⟩;rw [e012,q9j] at h5;refine ⟨h5,fun _ _ _ x6 _ h6=>?_⟩;rw [e012,q9S] at h6;refine ⟨h6,fun _ _ _ v _ H0 _ hc0=>⟨by omega,by omega,⟨_,hc0⟩,fun H1 _ hc1=>?_⟩⟩;have g0:qb D.d 0 0 = 0:=by rw [qbF (d:=D.d) (by omega) (by omega),hD]; rfl
 have g1:qb D.d 1 0 = 1:=by rw [qbF (d:=D.d) (by omega) (by omega),hD]; rfl
 have g2:qb D.d 2 0 = 2:=by rw [qbF (d:=D.d) (by omega) (by omega),hD]; rfl
 have hcl:=hc1 _ hc0;rw [g0] at hcl;refine ⟨by omega,by omega,⟨⟨_,hcl⟩,by omega,by omega,hrow⟩,fun b1 _ H2 _ hb1=>?_⟩;obtain ⟨hcl2,hb1⟩:=hb1 _ hcl;rw [g1,hD] at hb1;have hb1':b1.b = true:=hb1.trans q3j;refine ⟨hb1',fun _=>⟨⟨⟨_,hcl2⟩,by omega,by omega,hrow⟩,fun b2 _ H3 _ hb2=>?_⟩⟩;obtain ⟨hcl3,hb2⟩:=hb2 _ hcl2;rw [g1,hD] at hb2;have hb2':b2.b = false:=hb2.trans q5i;refine ⟨hb2',fun _=>⟨by omega,by omega,fun hcap=>⟨by omega,by omega,⟨by omega,hrow⟩,fun b3 _ hb3=>?_⟩⟩⟩;rw [g2,hD] at hb3;have hb3':b3.b = true:=hb3.trans qDR;refine ⟨hb3',fun _ s0 _ hs0 s1 _ hs1=>?_⟩;rw [hs0,hs1];refine ⟨q8J,fun _ _ _ fl _ hfl _ _ _ _=>⟨⟨⟨.inl hfl,qAj,fun _=>qFd⟩,by decide⟩,?_⟩⟩;intro o _ _ _ f _ _ _ _ _ _ _ Ds _ P _ Hp _ _ _ hPl hE ho hDs hdg _ _;have hDl1:Ds.d.length = 1:=by
  have:=congrArg List.length hdg;rw [q3w] at this; simpa [dgs] using this
 have hoM:qH (qf o.d 32):=by rw [ho]; exact qgI _
 have hm1:qy 1 1 1 1 1 = true:=by decide
 refine ⟨⟨by omega,hoM,hDs⟩,fun ID _ e _ hid gn _=>⟨fun _ _ _ _ _=>?_,?_⟩⟩
 ·obtain ⟨q1,q2⟩:=qDW hE
  refine ⟨q8O,hoM,hDs,hDl1,hPl,q1,(q2 0 (by decide)).1,?_,?_⟩
  ·exact q80 (data:=[120]) hm1 (by intro x hx; simp at hx; subst hx; exact ⟨by decide,by decide⟩) rfl hdg (by decide) (by decide) (q2 0 (by decide)).2
  ·rcases hid with ⟨h,_⟩ | ⟨_,_,h⟩
   ·exact absurd h (by decide)
   ·exact h
 intro ar _ id _ mr _ mp _ mc _ pr _ pl _ pq _ pd _ gh _ bm _ om _ dr _ dq _ dd _ br _ bq _ bp _ bh _ hga hom hdd hdl hbl hpk hpi hck hid2;obtain ⟨v0,B0,eP,hv,hRd,hB,hpd⟩:=qv3 hpk (j:=0) (by decide);obtain ⟨_,_,_,hlen,hsum⟩:=qj4 hck;have hB1:B0.length = 1:=by rw [hpd,bI_len] at hlen; rw [show qcD 1 1 = 1 from rfl] at hlen; omega
 have hci:qb bp.d 0 0 = 0:=hpi;have hidM:qH (qf id.d 32):=by rw [hid2]; exact qgI _
 have hck':qci 1 1 1 1 1 (dgs dd.d) 0 (bI B0) = 0:=by rw [<- hpd]; exact hck
 have hddl:(dgs dd.d).length = 1:=by simpa [dgs] using hdl
 have hoff:qfw (qf id.d 32) none [] { k:=1,n:=1,t:=1,s:=1,o:=qf om.d 32,D:=dgs dd.d } 0 (bI B0) = 0:=by
  have hok:ManV.ok { k:=1,n:=1,t:=1,s:=1,o:=qf om.d 32,D:=dgs dd.d } = true:=by simp only [ManV.ok,hddl]; decide
  have hbt:sha (ManV.bytes { k:=1,n:=1,t:=1,s:=1,o:=qf om.d 32,D:=dgs dd.d }) = qf id.d 32:=hid2.symm;rw [qfw,jaf (by rw [hok]; decide),jaf (fun h=>h hbt)];simp [hddl,hck',qa3]
 refine ⟨by omega,B0,by rw [show (0:Int) = ((0:Nat):Int) from rfl,hv]; exact hRd,?_⟩;rw [hci];intro vr _ vc _ _ hcap;refine ⟨⟨⟨_,_,hga⟩,hidM,⟨hom,by omega,hdd⟩,by decide,⟨by omega,by omega,hB⟩,by omega⟩,?_⟩;intro _ _ _ _ _ _ _ _ _ _ _ _ _ _ _ _ oe _ hofr;obtain ⟨he0,hga2⟩:=hofr _ _ hga;rw [hoff] at he0;rw [jah he0,jah he0] at hga2;refine ⟨fun _=>⟨⟨_,_,hga2⟩,fun rb _ hrb=>?_⟩,he0⟩;have hr1:=hrb _ _ hga2;have hr2:rb.b = true:=by rw [hr1]; rfl
 refine ⟨fun _=>⟨⟨_,_,hga2⟩,fun _ _ il _ _ _ di _ hi=>?_⟩,hr2⟩;obtain ⟨hi1,hi2,_⟩:=hi _ _ hga2;have hdi:di.d.length = 1:=by
  have:=congrArg List.length hi2;rw [qbh] at this; simpa using this
 exact ⟨by omega,by omega,trivial⟩
theorem qqX:qdM.ok Tryz.prog:=q7T qBD
theorem q7C:qfO.ok Tryz.prog:=qx6 (by simp [q4H qqX,qCM qqX,qAc,qBU,q3m,qB7,qxB,qpv,qAt,qBi,qyl,qxy,qme,qsW])
def q7x:Out:=(fr 16 5 (tn (tl 0) (tv 6) (tn (tv 6) (.dlen (tv 8)) (tn (.tims (tl 32) (tv 6)) (tl 140737488355328) (fr 21 3 (tn (tl 0) (tv 12) (tn (tv 12) (.dlen (tv 14)) (tn (.tims (tl 1) (tv 12)) (tl 140737488355328) (fr 24 2 (tb (tb (.ret 0 (sg 16 [bt 21 (.dtake (tv 14) (tv 12)),bt 20 (.dtake (tv 8) (tv 6)),bv 19 25,bg 18 24,bv 17 22,bg 16 21])))))))))))))
theorem qCX:qj Tryz.prog qo3 [] [] q7x:=qg Tryz.func49 Tryz.call49 (by kernel_rfl)
set_option maxRecDepth 20000
theorem qCp:qo3.ok Tryz.prog:=qCX (by simp) fun Z hg hp=>by
 obtain ⟨h0,h1,h2,h3⟩:=hp;simp (config:={ maxSteps:=2000000 }) [q7x,qo3,qo5,qd6,qbe,qN];exact ⟨by omega,by omega,by omega,by omega,by omega,by omega,jap (by omega),jap (by omega)⟩
end Go.Proofs
namespace Go.Eng
open Go Go.Proofs
def isS (r l c:Nat):SV:=.one (.vslice r (.lit 0) (.var l) (.var c) 1)
end Go.Eng
namespace Go.Proofs
open Go Go.Eng
section
variable {h0 H:Hp} {v it mv it2:Value} {kd:List Int} {clock:Int} {cl cl1:Cl} {b c b' c':Nat} {l m:List ME} {seen seen2:List Nat} {e:ME}
end
section
variable {h0 H:Hp} {v it:Value} {o L:List Int} {cl:Cl}
end
end Go.Proofs
namespace Go.Proofs
open Go Go.Eng
def qDg (d:qe) (i:Int):List Value:=(qj0 d i).map (Value.int .u8) ++ [.int .i64 (qb d i 32),.int .u64 (qb d i 33)]
def q9r (d:qe) (a b:Int):List Value:=(qf d 32).map (Value.int .u8) ++ [.int .i64 a,.int .u64 b]
@[simp high] theorem qEW (d:qe) (i:Int):([.int .u8 (qb d i 0),.int .u8 (qb d i 1),.int .u8 (qb d i 2),.int .u8 (qb d i 3),.int .u8 (qb d i 4),.int .u8 (qb d i 5),.int .u8 (qb d i 6),.int .u8 (qb d i 7),.int .u8 (qb d i 8),.int .u8 (qb d i 9),.int .u8 (qb d i 10),.int .u8 (qb d i 11),.int .u8 (qb d i 12),.int .u8 (qb d i 13),.int .u8 (qb d i 14),.int .u8 (qb d i 15),.int .u8 (qb d i 16),.int .u8 (qb d i 17),.int .u8 (qb d i 18),.int .u8 (qb d i 19),.int .u8 (qb d i 20),.int .u8 (qb d i 21),.int .u8 (qb d i 22),.int .u8 (qb d i 23),.int .u8 (qb d i 24),.int .u8 (qb d i 25),.int .u8 (qb d i 26),.int .u8 (qb d i 27),.int .u8 (qb d i 28),.int .u8 (qb d i 29),.int .u8 (qb d i 30),.int .u8 (qb d i 31),.int .i64 (qb d i 32),.int .u64 (qb d i 33)]:List Value) = qDg d i:=rfl
@[simp high] theorem qEA (d:qe) (a b:Int):([.int .u8 (qa d 0),.int .u8 (qa d 1),.int .u8 (qa d 2),.int .u8 (qa d 3),.int .u8 (qa d 4),.int .u8 (qa d 5),.int .u8 (qa d 6),.int .u8 (qa d 7),.int .u8 (qa d 8),.int .u8 (qa d 9),.int .u8 (qa d 10),.int .u8 (qa d 11),.int .u8 (qa d 12),.int .u8 (qa d 13),.int .u8 (qa d 14),.int .u8 (qa d 15),.int .u8 (qa d 16),.int .u8 (qa d 17),.int .u8 (qa d 18),.int .u8 (qa d 19),.int .u8 (qa d 20),.int .u8 (qa d 21),.int .u8 (qa d 22),.int .u8 (qa d 23),.int .u8 (qa d 24),.int .u8 (qa d 25),.int .u8 (qa d 26),.int .u8 (qa d 27),.int .u8 (qa d 28),.int .u8 (qa d 29),.int .u8 (qa d 30),.int .u8 (qa d 31),.int .i64 a,.int .u64 b]:List Value) = q9r d a b:=rfl
def qwE:Out:=(.fresh 10 (.br (.and (.cmp .eql (.dlen (tv 3)) (tl 0)) (.isnil 2))
 (.ret 0 (sg 10 [bt 18 .dnil,bt 19 (.bl false),bt 17 (tl 0),bt 16 (tl 0),(15,.nil),bt 13 (tl 0),bt 12 (tl 0),bt 11 (tl 0),bt 10 (tl 0),bt 14 z8]))
 (ts (tl 0) (.dlen (tv 3)) (.fresh 11 (.viewL (.vcell (tv 3) (tl 0) 36) [CK.int .u8,CK.int .u8,CK.int .u8,CK.int .u8,CK.int .u8,CK.int .u8,CK.int .u8,CK.int .u8,CK.int .u8,CK.int .u8,CK.int .u8,CK.int .u8,CK.int .u8,CK.int .u8,CK.int .u8,CK.int .u8,CK.int .u8,CK.int .u8,CK.int .u8,CK.int .u8,CK.int .u8,CK.int .u8,CK.int .u8,CK.int .u8,CK.int .u8,CK.int .u8,CK.int .u8,CK.int .u8,CK.int .u8,CK.int .u8,CK.int .u8,CK.int .u8] [9] 12 (.pre 0 (sg 0 [bv 4 13,bv 3 14,bv 2 13,bt 1 (.dlen (tv 14)),bg 0 12]) (tb (fr 15 3 (.post 0 0 (sg 0 [bv 4 13,bv 3 14,bv 2 13,bt 1 (.dlen (tv 14)),bg 0 12]) 15 (.ret 0 (sg 10 [bv 18 17,bt 19 (.bl true),bv 17 16,bt 16 (.dlen (tv 14)),bg 15 15,bt 13 (.icell (tv 3) (tl 0) 3),bt 12 (.icell (tv 3) (tl 0) 2),bt 11 (.icell (tv 3) (tl 0) 1),bt 10 (.icell (tv 3) (tl 0) 0),bt 14 (.rcons (tu (.icell (tv 3) (tl 0) 4)) (.rcons (tu (.icell (tv 3) (tl 0) 5)) (.rcons (tu (.icell (tv 3) (tl 0) 6)) (.rcons (tu (.icell (tv 3) (tl 0) 7)) (.rcons (tu (.icell (tv 3) (tl 0) 8)) (.rcons (tu (.icell (tv 3) (tl 0) 9)) (.rcons (tu (.icell (tv 3) (tl 0) 10)) (.rcons (tu (.icell (tv 3) (tl 0) 11)) (.rcons (tu (.icell (tv 3) (tl 0) 12)) (.rcons (tu (.icell (tv 3) (tl 0) 13)) (.rcons (tu (.icell (tv 3) (tl 0) 14)) (.rcons (tu (.icell (tv 3) (tl 0) 15)) (.rcons (tu (.icell (tv 3) (tl 0) 16)) (.rcons (tu (.icell (tv 3) (tl 0) 17)) (.rcons (tu (.icell (tv 3) (tl 0) 18)) (.rcons (tu (.icell (tv 3) (tl 0) 19)) (.rcons (tu (.icell (tv 3) (tl 0) 20)) (.rcons (tu (.icell (tv 3) (tl 0) 21)) (.rcons (tu (.icell (tv 3) (tl 0) 22)) (.rcons (tu (.icell (tv 3) (tl 0) 23)) (.rcons (tu (.icell (tv 3) (tl 0) 24)) (.rcons (tu (.icell (tv 3) (tl 0) 25)) (.rcons (tu (.icell (tv 3) (tl 0) 26)) (.rcons (tu (.icell (tv 3) (tl 0) 27)) (.rcons (tu (.icell (tv 3) (tl 0) 28)) (.rcons (tu (.icell (tv 3) (tl 0) 29)) (.rcons (tu (.icell (tv 3) (tl 0) 30)) (.rcons (tu (.icell (tv 3) (tl 0) 31)) (.rcons (tu (.icell (tv 3) (tl 0) 32)) (.rcons (tu (.icell (tv 3) (tl 0) 33)) (.rcons (tu (.icell (tv 3) (tl 0) 34)) (.rcons (tu (.icell (tv 3) (tl 0) 35)) .rnil))))))))))))))))))))))))))))))))])))))))))))
@[simp] def qub:Sg:=sg 0 [bv 19 13,bg 17 9,bv 16 7,bv 15 8,bv 11 16,bv 10 17,bv 1 11,bv 14 7,bv 13 6,bg 12 5,bv 9 16,bt 8 (.dlen (tv 17)),bg 7 15,bt 5 (.icell (tv 3) (tl 0) 3),bt 4 (.icell (tv 3) (tl 0) 2),bt 3 (.icell (tv 3) (tl 0) 1),bt 2 (.icell (tv 3) (tl 0) 0),bt 6 (.rcons (tu (.icell (tv 3) (tl 0) 4)) (.rcons (tu (.icell (tv 3) (tl 0) 5)) (.rcons (tu (.icell (tv 3) (tl 0) 6)) (.rcons (tu (.icell (tv 3) (tl 0) 7)) (.rcons (tu (.icell (tv 3) (tl 0) 8)) (.rcons (tu (.icell (tv 3) (tl 0) 9)) (.rcons (tu (.icell (tv 3) (tl 0) 10)) (.rcons (tu (.icell (tv 3) (tl 0) 11)) (.rcons (tu (.icell (tv 3) (tl 0) 12)) (.rcons (tu (.icell (tv 3) (tl 0) 13)) (.rcons (tu (.icell (tv 3) (tl 0) 14)) (.rcons (tu (.icell (tv 3) (tl 0) 15)) (.rcons (tu (.icell (tv 3) (tl 0) 16)) (.rcons (tu (.icell (tv 3) (tl 0) 17)) (.rcons (tu (.icell (tv 3) (tl 0) 18)) (.rcons (tu (.icell (tv 3) (tl 0) 19)) (.rcons (tu (.icell (tv 3) (tl 0) 20)) (.rcons (tu (.icell (tv 3) (tl 0) 21)) (.rcons (tu (.icell (tv 3) (tl 0) 22)) (.rcons (tu (.icell (tv 3) (tl 0) 23)) (.rcons (tu (.icell (tv 3) (tl 0) 24)) (.rcons (tu (.icell (tv 3) (tl 0) 25)) (.rcons (tu (.icell (tv 3) (tl 0) 26)) (.rcons (tu (.icell (tv 3) (tl 0) 27)) (.rcons (tu (.icell (tv 3) (tl 0) 28)) (.rcons (tu (.icell (tv 3) (tl 0) 29)) (.rcons (tu (.icell (tv 3) (tl 0) 30)) (.rcons (tu (.icell (tv 3) (tl 0) 31)) (.rcons (tu (.icell (tv 3) (tl 0) 32)) (.rcons (tu (.icell (tv 3) (tl 0) 33)) (.rcons (tu (.icell (tv 3) (tl 0) 34)) (.rcons (tu (.icell (tv 3) (tl 0) 35)) .rnil)))))))))))))))))))))))))))))))),bg 0 10,bg 18 12]
def q2h:Out:=(.pre 0 (sg 0 [bg 9 9,bv 8 8,bv 4 4,bv 3 3,bv 7 7,bv 6 6,bg 5 5,bg 2 2,bt 1 (r8 1),bg 0 0]) (tb (.fresh 14 (.post 0 0 (sg 0 [bg 9 9,bv 8 8,bv 4 4,bv 3 3,bv 7 7,bv 6 6,bg 5 5,bg 2 2,bt 1 (r8 1),bg 0 0]) 14 (.br (.cmp .neq (tv 14) (tl 0))
 (.ret 0 (sg 14 [bt 16 (tl 0),bt 17 .dnil,bv 19 11,bv 18 14,bt 20 (tl 0),bt 15 (tl 0),(14,.nil)]))
 (ts (tl 0) (.dlen (tv 3)) (tb (.viewL (.vcell (tv 3) (tl 0) 36) [CK.int .u8,CK.int .u8,CK.int .u8,CK.int .u8,CK.int .u8,CK.int .u8,CK.int .u8,CK.int .u8,CK.int .u8,CK.int .u8,CK.int .u8,CK.int .u8,CK.int .u8,CK.int .u8,CK.int .u8,CK.int .u8,CK.int .u8,CK.int .u8,CK.int .u8,CK.int .u8,CK.int .u8,CK.int .u8,CK.int .u8,CK.int .u8,CK.int .u8,CK.int .u8,CK.int .u8,CK.int .u8,CK.int .u8,CK.int .u8,CK.int .u8,CK.int .u8] [9] 15 (.pre 1 qub (tb (fr 18 7 (.post 1 0 qub 18 (.ret 0 (sg 14 [bv 16 20,bv 17 21,bv 19 23,bv 18 22,bv 20 24,bv 15 19,bg 14 18]))))))))))))))
theorem qAh:qj Tryz.prog qiw [qju,qmt] [] q2h:=qg Tryz.func46 Tryz.call46 (by kernel_rfl)
@[simp] def qrV:Sg:=sg 0 [bv 19 13,bg 17 9,bv 16 7,bv 15 8,bv 11 18,bv 10 19,bv 1 11,bv 20 14,bv 14 7,bv 13 6,bg 12 5,bv 9 18,bt 8 (.dlen (tv 19)),bg 7 17,bt 5 (.icell (tv 3) (tl 0) 3),bt 4 (.icell (tv 3) (tl 0) 2),bt 3 (.icell (tv 3) (tl 0) 1),bt 2 (.icell (tv 3) (tl 0) 0),bt 6 (.rcons (tu (.icell (tv 3) (tl 0) 4)) (.rcons (tu (.icell (tv 3) (tl 0) 5)) (.rcons (tu (.icell (tv 3) (tl 0) 6)) (.rcons (tu (.icell (tv 3) (tl 0) 7)) (.rcons (tu (.icell (tv 3) (tl 0) 8)) (.rcons (tu (.icell (tv 3) (tl 0) 9)) (.rcons (tu (.icell (tv 3) (tl 0) 10)) (.rcons (tu (.icell (tv 3) (tl 0) 11)) (.rcons (tu (.icell (tv 3) (tl 0) 12)) (.rcons (tu (.icell (tv 3) (tl 0) 13)) (.rcons (tu (.icell (tv 3) (tl 0) 14)) (.rcons (tu (.icell (tv 3) (tl 0) 15)) (.rcons (tu (.icell (tv 3) (tl 0) 16)) (.rcons (tu (.icell (tv 3) (tl 0) 17)) (.rcons (tu (.icell (tv 3) (tl 0) 18)) (.rcons (tu (.icell (tv 3) (tl 0) 19)) (.rcons (tu (.icell (tv 3) (tl 0) 20)) (.rcons (tu (.icell (tv 3) (tl 0) 21)) (.rcons (tu (.icell (tv 3) (tl 0) 22)) (.rcons (tu (.icell (tv 3) (tl 0) 23)) (.rcons (tu (.icell (tv 3) (tl 0) 24)) (.rcons (tu (.icell (tv 3) (tl 0) 25)) (.rcons (tu (.icell (tv 3) (tl 0) 26)) (.rcons (tu (.icell (tv 3) (tl 0) 27)) (.rcons (tu (.icell (tv 3) (tl 0) 28)) (.rcons (tu (.icell (tv 3) (tl 0) 29)) (.rcons (tu (.icell (tv 3) (tl 0) 30)) (.rcons (tu (.icell (tv 3) (tl 0) 31)) (.rcons (tu (.icell (tv 3) (tl 0) 32)) (.rcons (tu (.icell (tv 3) (tl 0) 33)) (.rcons (tu (.icell (tv 3) (tl 0) 34)) (.rcons (tu (.icell (tv 3) (tl 0) 35)) .rnil)))))))))))))))))))))))))))))))),bg 0 10,bg 18 12]
def qvE:Out:=(.fresh 15 (.pre 0 (sg 0 [bg 9 9,bv 8 8,bv 4 4,bv 3 3,bv 7 7,bv 6 6,bg 5 5,bg 2 2,bt 1 (r8 1),bg 0 0]) (tb (.fresh 16 (.post 0 0 (sg 0 [bg 9 9,bv 8 8,bv 4 4,bv 3 3,bv 7 7,bv 6 6,bg 5 5,bg 2 2,bt 1 (r8 1),bg 0 0]) 16 (.br (.cmp .neq (tv 16) (tl 0))
 (.ret 0 (sg 15 [bt 19 .dnil,bv 21 11,bv 20 16,bt 18 (tl 0),bt 17 (tl 0),(16,.nil),bt 15 (tl 0)]))
 (ts (tl 0) (.dlen (tv 3)) (tb (.viewL (.vcell (tv 3) (tl 0) 36) [CK.int .u8,CK.int .u8,CK.int .u8,CK.int .u8,CK.int .u8,CK.int .u8,CK.int .u8,CK.int .u8,CK.int .u8,CK.int .u8,CK.int .u8,CK.int .u8,CK.int .u8,CK.int .u8,CK.int .u8,CK.int .u8,CK.int .u8,CK.int .u8,CK.int .u8,CK.int .u8,CK.int .u8,CK.int .u8,CK.int .u8,CK.int .u8,CK.int .u8,CK.int .u8,CK.int .u8,CK.int .u8,CK.int .u8,CK.int .u8,CK.int .u8,CK.int .u8] [9] 17 (.pre 1 qrV (tb (fr 20 7 (.post 1 0 qrV 20 (tb (.ret 0 (sg 15 [bv 19 24,bv 21 26,bv 20 25,bv 18 23,bv 17 22,bg 16 21,bv 15 20]))))))))))))))))
theorem q8f:qj Tryz.prog qiy [qju,qlY] [] qvE:=qg Tryz.func50 Tryz.call50 (by kernel_rfl)
set_option maxRecDepth 20000
theorem qCJ:qmt.ok Tryz.prog:=Ctr.ok_tags qEu rfl rfl rfl rfl (fun x hx=>by
 simp only [qsU,ja9,jco,or_false] at hx;rcases hx with rfl | rfl | rfl | rfl
 ·exact .inl (by simp [qmt])
 ·exact .inl (by simp [qmt])
 ·exact .inr ⟨17,4,20,rfl,by simp [qmt]⟩
 ·exact .inl (by simp [qmt])) (fun Z h=>h) rfl
theorem qB8:qlY.ok Tryz.prog:=Ctr.ok_tags qD6 rfl rfl rfl rfl (fun x hx=>by
 simp only [qtj,ja9,jco,or_false] at hx;rcases hx with rfl | rfl | rfl | rfl
 ·exact .inl (by simp [qlY])
 ·exact .inl (by simp [qlY])
 ·exact .inr ⟨17,4,20,rfl,by simp [qlY]⟩
 ·exact .inl (by simp [qlY])) (fun Z h=>h) rfl
def qEc (d:qe):List Int:=(List.range 32).map fun j=>qb d 0 (4 + j)
@[simp high] theorem qFr (d:qe):qf [[.int .u8 (qb d 0 4),.int .u8 (qb d 0 5),.int .u8 (qb d 0 6),.int .u8 (qb d 0 7),.int .u8 (qb d 0 8),.int .u8 (qb d 0 9),.int .u8 (qb d 0 10),.int .u8 (qb d 0 11),.int .u8 (qb d 0 12),.int .u8 (qb d 0 13),.int .u8 (qb d 0 14),.int .u8 (qb d 0 15),.int .u8 (qb d 0 16),.int .u8 (qb d 0 17),.int .u8 (qb d 0 18),.int .u8 (qb d 0 19),.int .u8 (qb d 0 20),.int .u8 (qb d 0 21),.int .u8 (qb d 0 22),.int .u8 (qb d 0 23),.int .u8 (qb d 0 24),.int .u8 (qb d 0 25),.int .u8 (qb d 0 26),.int .u8 (qb d 0 27),.int .u8 (qb d 0 28),.int .u8 (qb d 0 29),.int .u8 (qb d 0 30),.int .u8 (qb d 0 31),.int .u8 (qb d 0 32),.int .u8 (qb d 0 33),.int .u8 (qb d 0 34),.int .u8 (qb d 0 35)]] 32 = qEc d:=rfl
theorem qjH:([0,0,0,0,0,0,0,0,0,0,0,0,0,0,0,0,0,0,0,0,0,0,0,0,0,0,0,0,0,0,0,0]:List Int) = List.replicate 32 0:=rfl
theorem qlo {m:ManV} (h:m.ok = true):qa8 m.k/\qa8 m.n/\qa8 m.t/\qa8 m.s:=by
 simp only [ManV.ok,qy,qam,jag,ja8] at h;unfold qa8;omega
theorem qmM {h:Hp} {d:qe} {m:ManV} (hm:qgl h d m):qb d 0 0 = m.k/\qb d 0 1 = m.n/\qb d 0 2 = m.t/\qb d 0 3 = m.s/\qEc d = m.o/\qH m.o/\m.ok = true/\0 < d.length/\∃ D,Rd h k32 (qC d 0 36) D/\qbJ D/\dgs D = m.D/\(D.length:Int) = m.D.length:=by
 obtain ⟨row,D,rfl,hf,hrd,hD,a1,a2,a3,a4,a5,a6,a7,a8⟩:=hm;refine ⟨a2,a3,a4,a5,a6,a7,a8,Nat.one_pos,D,hrd,hD,a1,?_⟩;rw [<- a1]; simp [dgs]
section
variable {h:Hp} {r:Option Addr} {d P:qe} {c n:Int} {M:Option ManV} {L:PcL}
theorem qyn (hg:qbt h r d c n P M L) (hr:qa3 M L = true):∃ m,M = some m/\qgl h d m:=by
 obtain ⟨_,_,_,_,hc⟩:=hg;rcases hc with ⟨rfl,_⟩ | ⟨m,rfl,_,hm,_⟩
 ·cases hr
 ·exact ⟨m,rfl,hm⟩
theorem qup (hg:qbt h r d c n P M L):qdV h P n/\n = P.length/\∀ j,j < P.length->(pcD h P j).length <= 9000:=by
 obtain ⟨hn,hp,hb,hl,_⟩:=hg;have hlen:=hp.1;have h9:∀ j,j < P.length->(pcD h P j).length <= 9000:=fun j hj=>by
  have e:=hp.2.2 j hj;have hj':j < L.length:=by omega
  rw [jab,jac hj'] at e;have e:(pcI P j,pcD h P j) = L[j]:=e;have:=hb _ (jbv hj');rw [<- e] at this;have this:((pcD h P j).length:Int) <= 9000:=this;omega
 refine ⟨⟨by omega,by omega,?_⟩,hn,h9⟩;rw [hn,jal]; exact hp.2.1
end
theorem q9z:qiw.ok Tryz.prog:=qAh (by simp [qvW,qCJ]) fun Z hg hp=>by
 obtain ⟨⟨M,L,h⟩,hf,hGr,hGd⟩:=hp;simp (config:={ maxSteps:=4000000 }) [q2h,qiw,qju,qmt,qsU,gaB,qgB,psP,mOk,qhN,mF,qti,gOk,hGr,hGd,hf];have h0:qbt (Z 9).h (Z 2).r (Z 3).d (Z 4).i (Z 6).i (Z 8).d M L:=h;refine ⟨⟨M,L,h0⟩,fun u _ hu=>⟨fun hne M' L' h'=>?_,fun he=>?_⟩⟩
 ·have:=hu M' L' h'
  cases hr:qa3 M' L' with
  | true=>rw [hr] at this; simp at this; exact absurd this hne
  | false=>rw [hr] at this; simp at this; exact .inl ⟨hr,this,rfl,rfl⟩
 ·have hr:qa3 M L = true:=by
   have:=hu M L h0;rw [he] at this;cases hr:qa3 M L with
   | true=>rfl
   | false=>rw [hr] at this; simp at this
  obtain ⟨m,rfl,hm⟩:=qyn h0 hr;obtain ⟨e0,e1,e2,e3,e4,hO,hok,hlen,D,hR,hD,hdg,hDl⟩:=qmM hm;obtain ⟨b0,b1,b2,b3⟩:=qlo hok;refine ⟨hlen,D,hR,fun _ _ _ _ _ _=>?_⟩;rw [e0,e1,e2,e3,e4,hdg,hDl];refine ⟨⟨⟨b0,b1,b2,b3,hD⟩,hO,qup h0⟩,?_⟩;intro a _ b _ e _ f _ g _ hf' hS hle;refine ⟨hf',hle,fun M' L' h'=>?_⟩;obtain ⟨rfl,rfl⟩:=qg2 h0 h';exact .inr ⟨m,rfl,hr,hS⟩
theorem q6W:qiy.ok Tryz.prog:=q8f (by simp [qvW,qB8]) fun Z hg hp=>by
 obtain ⟨⟨M,L,h⟩,hf,⟨hGr,hGd⟩,hx⟩:=hp;simp (config:={ maxSteps:=4000000 }) [qvE,qiy,qju,qlY,qtj,gaB,qgB,psP,mOk,qhN,mF,qsw,gOk,hGr,hGd,hf];have h0:qbt (Z 9).h (Z 2).r (Z 3).d (Z 4).i (Z 6).i (Z 8).d M L:=h;refine ⟨⟨M,L,h0⟩,fun u _ hu=>⟨fun hne M' L' h'=>?_,fun he=>?_⟩⟩
 ·have:=hu M' L' h'
  cases hr:qa3 M' L' with
  | true=>rw [hr] at this; simp at this; exact absurd this hne
  | false=>rw [hr] at this; simp at this; exact .inl ⟨hr,this,rfl,rfl,rfl⟩
 ·have hr:qa3 M L = true:=by
   have:=hu M L h0;rw [he] at this;cases hr:qa3 M L with
   | true=>rfl
   | false=>rw [hr] at this; simp at this
  obtain ⟨m,rfl,hm⟩:=qyn h0 hr;obtain ⟨e0,e1,e2,e3,e4,hO,hok,hlen,D,hR,hD,hdg,hDl⟩:=qmM hm;obtain ⟨b0,b1,b2,b3⟩:=qlo hok;refine ⟨hlen,D,hR,fun _ _ _ _ _ _=>?_⟩;rw [e0,e1,e2,e3,hdg,hDl];refine ⟨⟨⟨b0,b1,b2,b3,hD⟩,qup h0,hx⟩,?_⟩;intro a _ b _ c _ e _ f _ hf' hS;refine ⟨hf',fun M' L' h'=>?_⟩;obtain ⟨rfl,rfl⟩:=qg2 h0 h';exact .inr ⟨m,rfl,hr,hS⟩
def qFs (d:qe) (i:Int):List Int:=(List.range 32).map fun j=>qb d i (4 + j)
@[simp high] theorem ql6 (d:qe) (i:Int):qf [[.int .u8 (qb d i 4),.int .u8 (qb d i 5),.int .u8 (qb d i 6),.int .u8 (qb d i 7),.int .u8 (qb d i 8),.int .u8 (qb d i 9),.int .u8 (qb d i 10),.int .u8 (qb d i 11),.int .u8 (qb d i 12),.int .u8 (qb d i 13),.int .u8 (qb d i 14),.int .u8 (qb d i 15),.int .u8 (qb d i 16),.int .u8 (qb d i 17),.int .u8 (qb d i 18),.int .u8 (qb d i 19),.int .u8 (qb d i 20),.int .u8 (qb d i 21),.int .u8 (qb d i 22),.int .u8 (qb d i 23),.int .u8 (qb d i 24),.int .u8 (qb d i 25),.int .u8 (qb d i 26),.int .u8 (qb d i 27),.int .u8 (qb d i 28),.int .u8 (qb d i 29),.int .u8 (qb d i 30),.int .u8 (qb d i 31),.int .u8 (qb d i 32),.int .u8 (qb d i 33),.int .u8 (qb d i 34),.int .u8 (qb d i 35)]] 32 = qFs d i:=rfl
section
variable {h:Hp} {r:Option Addr} {d P:qe} {c n e:Int} {M:Option ManV} {L:PcL} {m:ManV} {R:qe}
end
end Go.Proofs
namespace Go.Eng
open Go Go.Proofs
def rgT (o b:Nat):List T:=qN .u8 o 32 ++ ([.vint .i64 (.var (b + 1)),.vint .i64 (.var (b + 2)),.vint .i64 (.var (b + 3)),.vint .i64 (.var (b + 4))] ++ (qN .u8 (b + 5) 32 ++ [.var (b + 6),.vslice (b + 7) (.lit 0) (.var (b + 8)) (.var (b + 9)) 2]))
def qsM (b:Nat):SH:=qc0 (b + 7) (b + 10) (b + 9)
@[simp] def c8 (v:Nat):List T:=[x8 0 v,x8 1 v,x8 2 v,x8 3 v,x8 4 v,x8 5 v,x8 6 v,x8 7 v,x8 8 v,x8 9 v,x8 10 v,x8 11 v,x8 12 v,x8 13 v,x8 14 v,x8 15 v,x8 16 v,x8 17 v,x8 18 v,x8 19 v,x8 20 v,x8 21 v,x8 22 v,x8 23 v,x8 24 v,x8 25 v,x8 26 v,x8 27 v,x8 28 v,x8 29 v,x8 30 v,x8 31 v]
def q49:ManV:=⟨0,0,0,0,List.replicate 32 0,[]⟩
def q35 (Z:Env) (k o:Nat) (D:qe):ManV:=⟨(Z k).i,(Z (k + 1)).i,(Z (k + 2)).i,(Z (k + 3)).i,qf (Z o).d 32,dgs D⟩
def qjt (h:Hp) (k n t s:Int) (o:List Int) (v:Value) (l:Int) (P:qe) (M:Option ManV) (L:PcL):Prop:=l = P.length/\qcX h P L/\(∀ x ∈ L,(x.2.length:Int) <= 9000)/\L.length <= 255/\(qa8 k/\qa8 n/\qa8 t/\qa8 s)/\qH o/\∃ D,Rd h k32 v D/\qbJ D/\((M = none/\L = []/\(⟨k,n,t,s,o,dgs D⟩:ManV) = q49)∨(M = some ⟨k,n,t,s,o,dgs D⟩/\L ≠ []/\ManV.ok ⟨k,n,t,s,o,dgs D⟩ = true))
def rgB (Z:Env) (b h:Nat) (M:Option ManV) (L:PcL):Prop:=qjt (Z h).h (Z (b + 1)).i (Z (b + 2)).i (Z (b + 3)).i (Z (b + 4)).i (qf (Z (b + 5)).d 32) (Z (b + 6)).v (Z (b + 8)).i (Z (b + 10)).d M L
def qc2:Ctr:={ fn := 53,nv:=11,args:=[.agg (rgT 0 0)],heap:=[],ro:=[],pre:=fun Z=>0 <= (Z 8).i,alts:=[
 { k:=1,ret:=.one (.vbool (.var 11)),heap:=[],post:=fun Z=>(Z 11).b = decide (0 < (Z 8).i/\(Z 1).i <= (Z 8).i) }] }
def qhJ:Ctr:={ fn := 56,nv:=11,args:=[.agg (rgT 0 0)],heap:=[],ro:=[qsM 0],pre:=fun Z=>(Z 8).i = (Z 10).d.length/\(Z 8).i <= 10000,alts:=[
 { k:=4,ret:=.one (.vslice 11 (.lit 0) (.var 12) (.var 13) 1),heap:=[iHp 11 14 13],post:=fun Z=>qcg (Z 14).d (Z 12).i (qav (Z 10).d (Z 8).i.toNat) }] }
def q6f:Inv:={ key:=3,nv:=6,env:=[(1,.one (.vptr 1005 (.lit 0) 70 0)),(3,.one (.vslice 1000 (.lit 0) (.var 1001) (.var 1002) 1)),(4,iv .i64 (.var 1004))],heap:=[.cells 1005 94 (rgT 0 0),iHp 1000 1003 1002],inv:=(fun Z=>0 <= (Z 1004).i/\(Z 1004).i <= (Z 8).i/\qcg (Z 1003).d (Z 1001).i (qav (Z 10).d (Z 1004).i.toNat)),mu:=(fun Z=>((Z 8).i - (Z 1004).i).toNat) }
def qiv:Ctr:={ fn := 51,nv:=22,ip:=[gIs 20,(1001,9),(1002,9)],ow:=[1003],args:=[.agg (rgT 0 0),.agg ([.vint .i64 (.var 11),.vint .i64 (.var 12),.vint .i64 (.var 13),.vint .i64 (.var 14)] ++ (qN .u8 15 32 ++ [.var 16])),.agg [.vint .i64 (.var 17),.var 18]],heap:=[qsM 0],ro:=[.abs 19 0,gHp 20 21],pre:=fun Z=>((∃ M L,rgB Z 0 19 M L)/\qH (qf (Z 0).d 32)/\(qa8 (Z 11).i/\qa8 (Z 12).i/\qa8 (Z 13).i/\qa8 (Z 14).i)/\qH (qf (Z 15).d 32)/\(∃ D,Rd (Z 19).h k32 (Z 16).v D/\qbJ D/\D.length <= 60)/\qa8 (Z 17).i/\∃ B,Rd (Z 19).h kB (Z 18).v B/\qk B/\B.length <= 9000)/\gOk Z 20 21 gS,alts:=[
 { k:=12,ret:=.tup [(true,rgT 0 22),qa7 (.var 22)],heap:=[qsM 22,.abs 33 20],post:=fun Z=>∀ M L,rgB Z 0 19 M L->∀ D B,Rd (Z 19).h k32 (Z 16).v D->Rd (Z 19).h kB (Z 18).v B->(Z 22).i = qfw (qf (Z 0).d 32) M L (q35 Z 11 15 D) (Z 17).i (bI B)/\rgB Z 22 19 (if (Z 22).i = 0 then some (q35 Z 11 15 D) else M) (if (Z 22).i = 0 then L ++ [((Z 17).i,bI B)] else L) }] }
def qkA:Ctr:={ fn := 57,nv:=14,ip:=[gIs 12,(1001,9),(1002,9)],ow:=[1003],args:=[.agg (rgT 0 0)],heap:=[],ro:=[qsM 0,.abs 11 0,gHp 12 13],pre:=fun Z=>(∃ M L,rgB Z 0 11 M L)/\((Z 10).d.length:Int) <= (Z 9).i/\gOk Z 12 13 gS,alts:=[
 { k:=6,ret:=.tup [(false,[.vslice 14 (.lit 0) (.var 15) (.var 18) 1]),qa7 (.var 19)],heap:=[.arr 14 5 kB (.var 17) (.var 16)],post:=fun Z=>∀ M L,rgB Z 0 11 M L->qk0 M L (Z 11).h (Z 10).d (Z 19).i (Z 15).i (Z 17).d }] }
def qix:Ctr:={ fn := 58,nv:=15,ip:=[gIs 12,(1001,9),(1002,9)],ow:=[1003],args:=[.agg (rgT 0 0),iv .i64 (.var 14)],heap:=[],ro:=[qsM 0,.abs 11 0,gHp 12 13],pre:=fun Z=>(∃ M L,rgB Z 0 11 M L)/\((Z 10).d.length:Int) <= (Z 9).i/\gOk Z 12 13 gS/\qa8 (Z 14).i,alts:=[
 { k:=6,ret:=.tup [(true,[.vint .i64 (.var 15),.vslice 16 (.lit 0) (.var 17) (.var 18) 1]),qa7 (.var 20)],heap:=[.arr 16 5 kB (.var 19) (.var 18)],post:=fun Z=>∀ M L,rgB Z 0 11 M L->qiR M L (Z 11).h (Z 10).d (Z 14).i (Z 20).i (Z 15).i (Z 17).i (Z 19).d }] }
def qgq:Ctr:={ q2Q with alts:=[
 { k:=10,ret:=.tup [(true,qbe 10 11 12 13 14 15 16 17),(false,[.vbool (.var 19)])],heap:=[qaC 15 18 17],post:=fun Z=>qgw Z 10/\∀ M L,gaB Z 0 M L->((Z 19).b = true/\M = some (qf4 Z 10))∨((Z 19).b = false/\M = none/\qf4 Z 10 = q49) }] }
def qjm:Ctr:={ qoz with ro:=[qaC 5 8 9,qc0 10 13 14,.abs 15 0,gHp 16 17] }
def qiK:Ctr:={ qo2 with ro:=[qaC 5 8 9,qc0 10 13 14,.abs 15 0,gHp 16 17] }
def qaT:Ctr:={ fn := 11,nv:=11,ip:=[gIp 7,gIs 9,(1115,8),(1001,9),(1002,9),(1005,7)],ow:=[1003],args:=[dgV 0,qzf],heap:=[],ro:=[.arr 1 96 qsZ (.var 4) (.var 5),.abs 6 0,gHp 7 8,gHp 9 10],pre:=fun Z=>qH (qf (Z 0).d 32)/\qlD Z/\gOk Z 7 8 gR/\gOk Z 9 10 gS,alts:=[qdE] }
def qtz:List (Nat × SV):=[(1,qzf),(2,q29 1000),(5,fP 1001),(6,gaP 1003),(7,.one (.vptr 1013 (.lit 0) 70 0)),(8,iv .i64 (.var 1024))]
def qtc:List SH:=q2F 1000 :: qyG 1001 1002 :: (qip 1003 20 ++ [.cells 1013 94 (rgT 0 1013),qsM 1013])
def ql3 (Z:Env):Prop:=ql (Z 1002).d/\qf (Z 1004).d 32 = qf (Z 0).d 32/\∃ M L,gaB Z 1003 M L/\rgB Z 1013 6 M L
def qw4:Inv:={ key:=7,nv:=25,env:=qtz,heap:=qtc,inv:=(fun Z=>0 <= (Z 1024).i/\(Z 1024).i <= (Z 2).i/\ql3 Z),mu:=(fun Z=>((Z 2).i - (Z 1024).i).toNat) }
def qxx:List SH:=[.arr 1025 96 qsZ (.var 1026) (.lit 1)]
def qsp:List (Nat × SV):=[(9,.one (.vptr 1025 (.lit 0) 40 0))]
def qiE (Z:Env):Prop:=0 < (Z 1026).d.length/\qa8 (qb (Z 1026).d 0 39)/\ql3 Z
def q9e:List (Nat × SV):=[(12,iv .i64 (.var 1027)),(14,iv .i64 (.var 1028))]
def qB2:List SH:=[.cells 1029 86 [.vint .i64 (.var 1030),.vslice 1031 (.lit 0) (.var 1032) (.var 1033) 1],.arr 1031 5 kB (.var 1034) (.var 1033)]
def qEK:List SH:=[.cells 1036 27 (qbe 1037 1038 1039 1040 1041 1042 1043 1044),qaC 1042 1045 1044]
def q4c:Inv:={ key:=17,nv:=46,env:=qtz ++ qsp ++ q9e ++ [(10,.one (.vptr 1036 (.lit 0) 37 0)),(11,.one (.vptr 1029 (.lit 0) 2 0)),(15,iv .i64 (.var 1035))],heap:=qtc ++ qxx ++ qB2 ++ qEK,inv:=(fun Z=>((Z 1024).i = (Z 41).i/\0 <= (Z 1024).i/\(Z 1024).i < (Z 2).i)/\(Z 1027).i = (Z 1028).i/\qiE Z/\(0 <= (Z 1032).i/\(Z 1032).i <= (Z 1034).d.length/\(Z 1032).i <= 2000)/\0 <= (Z 1035).i/\(Z 1035).i <= (Z 1043).i/\(Z 1043).i = (Z 1045).d.length/\(Z 1043).i <= 60),mu:=(fun Z=>((Z 1043).i - (Z 1035).i).toNat) }
def q3n:Inv:={ key:=21,nv:=36,env:=qtz ++ qsp ++ q9e ++ [(11,.one (.vptr 1029 (.lit 0) 2 0)),(16,iv .i64 (.var 1035))],heap:=qtc ++ qxx ++ qB2,inv:=(fun Z=>((Z 1024).i = (Z 41).i/\0 <= (Z 1024).i/\(Z 1024).i < (Z 2).i)/\(Z 1027).i = (Z 1028).i/\qiE Z/\0 <= (Z 1035).i/\(Z 1035).i <= (Z 1032).i/\(Z 1032).i <= (Z 1034).d.length/\(Z 1032).i <= 2000),mu:=(fun Z=>((Z 1032).i - (Z 1035).i).toNat) }
def qvU:Inv:={ key:=1000024,nv:=29,env:=qtz ++ qsp ++ q9e,heap:=qtc ++ qxx,inv:=(fun Z=>((Z 1024).i = (Z 41).i/\0 <= (Z 1024).i/\(Z 1024).i < (Z 2).i)/\(Z 1027).i = (Z 1028).i/\qiE Z),mu:=fun _=>0 }
def q30:Inv:={ key:=1000027,nv:=27,env:=qtz ++ qsp,heap:=qtc ++ qxx,inv:=(fun Z=>((Z 1024).i = (Z 41).i/\0 <= (Z 1024).i/\(Z 1024).i < (Z 2).i)/\qiE Z),mu:=fun _=>0 }
def q2W:Inv:={ key:=1000031,nv:=27,env:=qtz ++ qsp,heap:=qtc ++ qxx,inv:=(fun Z=>((Z 1024).i = (Z 41).i/\0 <= (Z 1024).i/\(Z 1024).i < (Z 2).i)/\qiE Z),mu:=fun _=>0 }
end Go.Eng
namespace Go.Proofs
open Go Go.Eng
def qvA:Out:=(.fresh 11 (tn (tl 0) (tv 8) (.br (.cmp .gtr (tv 8) (tl 0))
 (.ret 0 (sg 11 [bt 11 (.cmp .geq (tv 8) (tv 1))]))
 (.ret 0 (sg 11 [bt 11 (.bl false)])))))
theorem q5o:qj Tryz.prog qc2 [] [] qvA:=qg Tryz.func53 Tryz.call53 (by kernel_rfl)
def q0H:Out:=(fr 11 2 (.inv 0 13 (sg 1000 [bt 1003 .dnil,bt 1004 (tl 0),bt 1002 (tl 0),bt 1001 (tl 0),bg 1000 12,bg 1005 11]) (fr 13 6 (.hyp 0 13 (tn (tl 0) (tv 8) (.br (.cmp .lss (tv 17) (tv 8))
 (tn (tl 0) (tv 17) (ts (tv 17) (.dlen (tv 10)) (.fresh 19 (.need (.cmp .eql (tv 14) (.dlen (tv 16))) (tn (.tims (tl 8) (.plus (tv 14) (tl 1))) (tl 140737488355328) (fr 20 2 (.back 0 13 (sg 1000 [bt 1003 (.dapp (tv 16) (.rcons (ti (.icell (tv 10) (tv 17) 0)) .rnil)),bt 1004 (.arith .add .i64 (tv 17) (tl 1)),bv 1002 21,bt 1001 (.plus (tv 14) (tl 1)),bg 1000 20,bg 1005 18]))))))))
 (.ret 0 (sg 11 [bv 14 16,bv 13 15,bv 12 14,bg 11 13]))))))))
theorem q9Z:qj Tryz.prog qhJ [] [q6f] q0H:=qg Tryz.func56 Tryz.call56 (by kernel_rfl)
@[simp] def qmm:T:=.cmp .leq (.tims (tl 32) (.plus (tv 8) (tl 1))) (tl 140737488355328)
@[simp] def qrL:Sg:=sg 0 [bv 11 21,bv 9 27,bv 8 28,bv 7 27,bt 6 (.dlen (tv 28)),bg 5 26,bv 3 14,bv 2 13,bv 1 12,bv 0 11,bt 4 (r8 15),bg 10 20]
@[simp] def qqH:Sg:=sg 0 [bv 17 21,bv 15 36,bv 14 37,bv 9 33,bv 8 34,bv 13 36,bt 12 (.dlen (tv 37)),bg 11 35,bv 10 17,bv 7 33,bt 6 (.dlen (tv 34)),bg 5 32,bv 3 14,bv 2 13,bv 1 12,bv 0 11,bt 4 (r8 15),bg 16 20]
@[simp] def qms:Out:=.ret 0 (sg 22 [bg 33 51,bt 32 (.dapp (.dtake (tv 10) (tv 8)) (.rcons (ti (tv 17)) (.rcons (tv 18) .rnil))),bt 22 (tl 0),bv 31 50,bt 30 (.plus (tv 8) (tl 1)),bg 29 49,bv 28 16,bv 26 14,bv 25 13,bv 24 12,bv 23 11,bt 27 (r8 15)])
def qwC:Out:=(fr 22 4 (.viewL (tv 16) k32 [19] 26 (.pre 0 qrL (tb (fr 29 2 (.post 0 0 qrL 29 (.fresh 31 (.br (.cmp .neq (tv 30) (tl 0))
 (.pack [.cells 31 24 (c8 29),.cells 25 94 (c8 0 ++ ([(ti (tv 1)),(ti (tv 2)),(ti (tv 3)),(ti (tv 4))] ++ (c8 5 ++ [(tv 6),(.vslice 7 (tl 0) (tv 8) (tv 9) 2)]))),.cells 24 86 [(ti (tv 17)),(tv 18)],.cells 23 27 ([(ti (tv 11)),(ti (tv 12)),(ti (tv 13)),(ti (tv 14))] ++ (c8 15 ++ [(tv 16)])),.cells 22 94 (c8 0 ++ ([(ti (tv 1)),(ti (tv 2)),(ti (tv 3)),(ti (tv 4))] ++ (c8 5 ++ [(tv 6),(.vslice 7 (tl 0) (tv 8) (tv 9) 2)])))] 32 (.ret 0 (sg 22 [bg 33 32,bv 32 10,bt 22 (tl 2),bv 31 9,bv 30 8,bg 29 7,bv 28 6,bv 26 4,bv 25 3,bv 24 2,bv 23 1,bt 27 (r8 5)])))
 (.br (.not (.c2 .req (r8 29) (r8 0)))
 (.pack [.cells 31 24 (c8 29),.cells 25 94 (c8 0 ++ ([(ti (tv 1)),(ti (tv 2)),(ti (tv 3)),(ti (tv 4))] ++ (c8 5 ++ [(tv 6),(.vslice 7 (tl 0) (tv 8) (tv 9) 2)]))),.cells 24 86 [(ti (tv 17)),(tv 18)],.cells 23 27 ([(ti (tv 11)),(ti (tv 12)),(ti (tv 13)),(ti (tv 14))] ++ (c8 15 ++ [(tv 16)])),.cells 22 94 (c8 0 ++ ([(ti (tv 1)),(ti (tv 2)),(ti (tv 3)),(ti (tv 4))] ++ (c8 5 ++ [(tv 6),(.vslice 7 (tl 0) (tv 8) (tv 9) 2)])))] 32 (.ret 0 (sg 22 [bg 33 32,bv 32 10,bt 22 (tl 20),bv 31 9,bv 30 8,bg 29 7,bv 28 6,bv 26 4,bv 25 3,bv 24 2,bv 23 1,bt 27 (r8 5)])))
 (.viewL (tv 16) k32 [19] 32 (.viewL (tv 18) [CK.int .u8] [19] 35 (.pre 1 qqH (tb (.fresh 38 (.post 1 0 qqH 38 (.br (.cmp .neq (tv 38) (tl 0))
 (.pack [.cells 31 24 (c8 29),.cells 25 94 (c8 0 ++ ([(ti (tv 1)),(ti (tv 2)),(ti (tv 3)),(ti (tv 4))] ++ (c8 5 ++ [(tv 6),(.vslice 7 (tl 0) (tv 8) (tv 9) 2)]))),.cells 24 86 [(ti (tv 17)),(tv 18)],.cells 23 27 ([(ti (tv 11)),(ti (tv 12)),(ti (tv 13)),(ti (tv 14))] ++ (c8 15 ++ [(tv 16)])),.cells 22 94 (c8 0 ++ ([(ti (tv 1)),(ti (tv 2)),(ti (tv 3)),(ti (tv 4))] ++ (c8 5 ++ [(tv 6),(.vslice 7 (tl 0) (tv 8) (tv 9) 2)])))] 39 (.ret 0 (sg 22 [bg 33 39,bv 32 10,bv 22 38,bv 31 9,bv 30 8,bg 29 7,bv 28 6,bv 26 4,bv 25 3,bv 24 2,bv 23 1,bt 27 (r8 5)])))
 (tb (.pre 2 (sg 0 [bv 10 10,bv 9 9,bv 8 8,bg 7 7,bv 6 6,bv 4 4,bv 3 3,bv 2 2,bv 1 1,bt 5 (r8 5),bt 0 (r8 0)]) (tb (fr 39 4 (.post 2 0 (sg 0 [bv 10 10,bv 9 9,bv 8 8,bg 7 7,bv 6 6,bv 4 4,bv 3 3,bv 2 2,bv 1 1,bt 5 (r8 5),bt 0 (r8 0)]) 39 (tb (.pre 3 (sg 0 [bv 4 41,bv 3 42,bv 5 17,bv 2 41,bv 1 40,bg 0 39]) (tb (.fresh 43 (.post 3 0 (sg 0 [bv 4 41,bv 3 42,bv 5 17,bv 2 41,bv 1 40,bg 0 39]) 43 (.br (tv 43)
 (.pack [.arr 39 3 [CK.int .i64] (tv 42) (tv 41),.cells 31 24 (c8 29),.cells 25 94 (c8 0 ++ ([(ti (tv 1)),(ti (tv 2)),(ti (tv 3)),(ti (tv 4))] ++ (c8 5 ++ [(tv 6),(.vslice 7 (tl 0) (tv 8) (tv 9) 2)]))),.cells 24 86 [(ti (tv 17)),(tv 18)],.cells 23 27 ([(ti (tv 11)),(ti (tv 12)),(ti (tv 13)),(ti (tv 14))] ++ (c8 15 ++ [(tv 16)])),.cells 22 94 (c8 0 ++ ([(ti (tv 1)),(ti (tv 2)),(ti (tv 3)),(ti (tv 4))] ++ (c8 5 ++ [(tv 6),(.vslice 7 (tl 0) (tv 8) (tv 9) 2)])))] 44 (.ret 0 (sg 22 [bg 33 44,bv 32 10,bt 22 (tl 7),bv 31 9,bv 30 8,bg 29 7,bv 28 6,bv 26 4,bv 25 3,bv 24 2,bv 23 1,bt 27 (r8 5)])))
 (.pre 4 (sg 0 [bv 9 9,bv 8 8,bg 7 7,bv 6 6,bv 4 4,bv 3 3,bv 2 2,bv 1 1,bt 5 (r8 5),bt 0 (r8 0)]) (tb (.fresh 44 (.post 4 0 (sg 0 [bv 9 9,bv 8 8,bg 7 7,bv 6 6,bv 4 4,bv 3 3,bv 2 2,bv 1 1,bt 5 (r8 5),bt 0 (r8 0)]) 44 (.br (tv 44)
 (.pack [.arr 39 3 [CK.int .i64] (tv 42) (tv 41),.cells 31 24 (c8 29),.cells 25 94 (c8 0 ++ ([(ti (tv 1)),(ti (tv 2)),(ti (tv 3)),(ti (tv 4))] ++ (c8 5 ++ [(tv 6),(.vslice 7 (tl 0) (tv 8) (tv 9) 2)]))),.cells 24 86 [(ti (tv 17)),(tv 18)],.cells 23 27 ([(ti (tv 11)),(ti (tv 12)),(ti (tv 13)),(ti (tv 14))] ++ (c8 15 ++ [(tv 16)])),.cells 22 94 (c8 0 ++ ([(ti (tv 1)),(ti (tv 2)),(ti (tv 3)),(ti (tv 4))] ++ (c8 5 ++ [(tv 6),(.vslice 7 (tl 0) (tv 8) (tv 9) 2)])))] 45 (.ret 0 (sg 22 [bg 33 45,bv 32 10,bt 22 (tl 8),bv 31 9,bv 30 8,bg 29 7,bv 28 6,bv 26 4,bv 25 3,bv 24 2,bv 23 1,bt 27 (r8 5)])))
 (.both (.fresh 45 (.both (tn (tl 0) (tv 8) (tn (tv 8) (.dlen (tv 10)) (tn (.tims (tl 32) (tv 8)) (tl 140737488355328) (fr 46 2 (tb (.fresh 48 (tb (.need (.cmp .eql (tv 8) (.dlen (.dtake (tv 10) (tv 8)))) (.need qmm (fr 49 2 (tb (.pack [.cells 48 86 [(ti (tv 17)),(tv 18)],.arr 39 3 [CK.int .i64] (tv 42) (tv 41),.cells 31 24 (c8 29),.cells 25 94 (c8 0 ++ ([(ti (tv 11)),(ti (tv 12)),(ti (tv 13)),(ti (tv 14))] ++ (c8 15 ++ [(tv 16),(.vslice 49 (tl 0) (.plus (tv 8) (tl 1)) (tv 50) 2)]))),.cells 24 86 [(ti (tv 17)),(tv 18)],.cells 23 27 ([(ti (tv 11)),(ti (tv 12)),(ti (tv 13)),(ti (tv 14))] ++ (c8 15 ++ [(tv 16)])),.cells 22 94 (c8 0 ++ ([(ti (tv 11)),(ti (tv 12)),(ti (tv 13)),(ti (tv 14))] ++ (c8 15 ++ [(tv 16),(.vslice 49 (tl 0) (.plus (tv 8) (tl 1)) (tv 50) 2)]))),.arr 7 86 [CK.int .i64,CK.any] (tv 10) (tv 9)] 51 qms)))))))))))) (tb (.fresh 46 (tb (tn (tl 0) (tv 8) (tn (tv 8) (.dlen (tv 10)) (tn (.tims (tl 32) (tv 8)) (tl 140737488355328) (fr 47 2 (tb (.need (.cmp .eql (tv 8) (.dlen (.dtake (tv 10) (tv 8)))) (.need qmm (fr 49 2 (tb (.pack [.cells 46 86 [(ti (tv 17)),(tv 18)],.arr 39 3 [CK.int .i64] (tv 42) (tv 41),.cells 31 24 (c8 29),.cells 25 94 (c8 0 ++ ([(ti (tv 11)),(ti (tv 12)),(ti (tv 13)),(ti (tv 14))] ++ (c8 15 ++ [(tv 16),(.vslice 49 (tl 0) (.plus (tv 8) (tl 1)) (tv 50) 2)]))),.cells 24 86 [(ti (tv 17)),(tv 18)],.cells 23 27 ([(ti (tv 11)),(ti (tv 12)),(ti (tv 13)),(ti (tv 14))] ++ (c8 15 ++ [(tv 16)])),.cells 22 94 (c8 0 ++ ([(ti (tv 11)),(ti (tv 12)),(ti (tv 13)),(ti (tv 14))] ++ (c8 15 ++ [(tv 16),(.vslice 49 (tl 0) (.plus (tv 8) (tl 1)) (tv 50) 2)]))),.arr 7 86 [CK.int .i64,CK.any] (tv 10) (tv 9)] 51 qms))))))))))))))) (tb (.fresh 45 (tb (.fresh 46 (tb (tn (tl 0) (tv 8) (tn (tv 8) (.dlen (tv 10)) (tn (.tims (tl 32) (tv 8)) (tl 140737488355328) (fr 47 2 (tb (.need (.cmp .eql (tv 8) (.dlen (.dtake (tv 10) (tv 8)))) (.need qmm (fr 49 2 (tb (.pack [.cells 45 86 [(ti (tv 17)),(tv 18)],.arr 39 3 [CK.int .i64] (tv 42) (tv 41),.cells 31 24 (c8 29),.cells 25 94 (c8 0 ++ ([(ti (tv 11)),(ti (tv 12)),(ti (tv 13)),(ti (tv 14))] ++ (c8 15 ++ [(tv 16),(.vslice 49 (tl 0) (.plus (tv 8) (tl 1)) (tv 50) 2)]))),.cells 24 86 [(ti (tv 17)),(tv 18)],.cells 23 27 ([(ti (tv 11)),(ti (tv 12)),(ti (tv 13)),(ti (tv 14))] ++ (c8 15 ++ [(tv 16)])),.cells 22 94 (c8 0 ++ ([(ti (tv 11)),(ti (tv 12)),(ti (tv 13)),(ti (tv 14))] ++ (c8 15 ++ [(tv 16),(.vslice 49 (tl 0) (.plus (tv 8) (tl 1)) (tv 50) 2)]))),.arr 7 86 [CK.int .i64,CK.any] (tv 10) (tv 9)] 51 qms))))))))))))))))))))))))))))))))))))))))))))))))
theorem q7W:qj Tryz.prog qiv [qmY,qgC,qhJ,qwj,qc2] [] qwC:=qg Tryz.func51 Tryz.call51 (by kernel_rfl)
@[simp] def quy:Sg:=sg 0 [bv 17 13,bg 15 11,bv 14 9,bv 13 10,bv 9 17,bv 8 18,bv 12 9,bv 11 8,bg 10 7,bv 7 17,bt 6 (.dlen (tv 18)),bg 5 16,bv 3 4,bv 2 3,bv 1 2,bv 0 1,bt 4 (r8 5),bg 16 12]
def q1v:Out:=(.fresh 14 (.pre 0 (sg 0 [bv 9 9,bv 8 8,bg 7 7,bv 6 6,bv 4 4,bv 3 3,bv 2 2,bv 1 1,bt 5 (r8 5),bt 0 (r8 0)]) (tb (.fresh 15 (.post 0 0 (sg 0 [bv 9 9,bv 8 8,bg 7 7,bv 6 6,bv 4 4,bv 3 3,bv 2 2,bv 1 1,bt 5 (r8 5),bt 0 (r8 0)]) 15 (.br (.not (tv 15))
 (.ret 0 (sg 14 [bt 16 (tl 0),bt 17 .dnil,bt 19 (tl 12),bt 18 (tl 0),bt 15 (tl 0),(14,.nil)]))
 (.viewL (tv 6) k32 [11] 16 (.pre 1 quy (tb (fr 19 6 (.post 1 0 quy 19 (.ret 0 (sg 14 [bv 16 24,bv 17 22,bv 19 23,bv 18 21,bv 15 20,bg 14 19])))))))))))))
theorem q8U:qj Tryz.prog qkA [qc2,qjm] [] q1v:=qg Tryz.func57 Tryz.call57 (by kernel_rfl)
@[simp] def qsc:Sg:=sg 0 [bv 17 13,bg 15 11,bv 14 9,bv 13 10,bv 9 19,bv 8 20,bv 18 14,bv 12 9,bv 11 8,bg 10 7,bv 7 19,bt 6 (.dlen (tv 20)),bg 5 18,bv 3 4,bv 2 3,bv 1 2,bv 0 1,bt 4 (r8 5),bg 16 12]
def qzl:Out:=(fr 15 2 (.pre 0 (sg 0 [bv 9 9,bv 8 8,bg 7 7,bv 6 6,bv 4 4,bv 3 3,bv 2 2,bv 1 1,bt 5 (r8 5),bt 0 (r8 0)]) (tb (.fresh 17 (.post 0 0 (sg 0 [bv 9 9,bv 8 8,bg 7 7,bv 6 6,bv 4 4,bv 3 3,bv 2 2,bv 1 1,bt 5 (r8 5),bt 0 (r8 0)]) 17 (.br (.not (tv 17))
 (.ret 0 (sg 15 [bt 19 .dnil,bt 20 (tl 12),bt 18 (tl 0),bt 17 (tl 0),(16,.nil),bt 15 (tl 0)]))
 (.viewL (tv 6) k32 [11] 18 (.pre 1 qsc (tb (fr 21 6 (.post 1 0 qsc 21 (.ret 0 (sg 15 [bv 19 25,bv 20 26,bv 18 24,bv 17 23,bg 16 22,bv 15 21])))))))))))))
theorem q7b:qj Tryz.prog qix [qc2,qiK] [] qzl:=qg Tryz.func58 Tryz.call58 (by kernel_rfl)
def q48:Out:=(.hyp 2 133 (.know (.cmp .leq (.dlen (tv 167)) (tv 166)) (tn (tl 0) (tv 165) (.br (.cmp .lss (tv 168) (tv 165))
 (tn (tl 0) (tv 168) (ts (tv 168) (.dlen (tv 167)) (.back 2 133 (sg 1000 [bt 1034 (.dput (tv 167) (tv 168) 0 (.rcons (tu (.arith .xor .u8 (.icell (tv 167) (tv 168) 0) (tl 255))) .rnil)),bv 1033 166,bv 1032 165,bg 1031 164,bv 1030 163,bv 1026 159,bv 1023 156,bv 1022 155,bv 1021 154,bg 1020 153,bv 1019 152,bv 1017 150,bv 1016 149,bv 1015 148,bv 1014 147,bt 1018 (r8 151),bg 1012 145,bv 1011 144,bv 1007 140,bv 1006 139,bv 1010 143,bv 1009 142,bg 1008 141,bg 1005 138,bt 1004 (r8 137),bv 1002 135,bt 1035 (.arith .add .i64 (tv 168) (tl 1)),bg 1029 162,bv 1028 161,bv 1027 160,bg 1025 158,bv 1024 157,bg 1013 146,bg 1003 136,bg 1001 134,bg 1000 133]))))
 (.pack [.abs 145 20,.cells 162 86 [(ti (tv 163)),(.vslice 164 (tl 0) (tv 165) (tv 166) 1)],.arr 164 5 [CK.int .u8] (tv 167) (tv 166)] 169 (.cut 3 132 (sg 1000 [bv 1026 159,bv 1023 156,bv 1022 155,bv 1021 154,bg 1020 153,bv 1019 152,bv 1017 150,bv 1016 149,bv 1015 148,bv 1014 147,bt 1018 (r8 151),bg 1012 169,bv 1011 144,bv 1007 140,bv 1006 139,bv 1010 143,bv 1009 142,bg 1008 141,bg 1005 138,bt 1004 (r8 137),bv 1002 135,bv 1028 161,bv 1027 160,bg 1025 158,bv 1024 157,bg 1013 146,bg 1003 136,bg 1001 134,bg 1000 133])))))))
@[simp] def q1h:Sg:=sg 0 [bv 13 8,bg 9 224,bv 8 223,bv 4 219,bv 3 218,bv 7 222,bv 6 221,bg 5 220,bg 2 217,bt 1 (r8 216),bv 11 214,bt 14 (.icell (tv 238) (tl 0) 39),bg 10 213,bg 0 215,bg 12 7]
@[simp] def q1w:Sg:=sg 0 [bv 13 10,bg 11 6,bv 10 235,bt 14 (.icell (tv 238) (tl 0) 39),bv 9 234,bv 8 233,bg 7 232,bv 6 231,bv 4 229,bv 3 228,bv 2 227,bv 1 226,bt 5 (r8 230),bt 0 (r8 0),bg 12 9]
def q4B:Out:=(.hyp 5 212 (ts (tl 0) (.dlen (tv 238)) (.know (.cmp .leq (.dlen (tv 223)) (tv 222)) (.pre 15 q1h (tb (fr 239 7 (.post 15 0 q1h 239 (.fresh 246 (.know (.cmp .leq (.dlen (tv 235)) (tv 234)) (.pre 16 q1w (tb (fr 247 6 (.post 16 0 q1w 247 (.fresh 253 (.br (.cmp .neq (tv 244) (tv 252))
 (.stuck 7 0 0)
 (.br (.cmp .neq (tv 239) (tv 247))
 (.stuck 7 0 0)
 (tn (tl 0) (tv 241) (tn (tv 241) (.dlen (tv 243)) (tn (tl 0) (tv 249) (tn (tv 249) (.dlen (tv 251)) (.br (.not (.c2 .veq (.c1 .vbytes (.dtake (tv 243) (tv 241))) (.c1 .vbytes (.dtake (tv 251) (tv 249)))))
 (.stuck 7 0 0)
 (.pack [.cells 253 86 [(ti (tv 247)),(.vslice 248 (tl 0) (tv 249) (tv 250) 1)],.arr 248 5 [CK.int .u8] (tv 251) (tv 250),.cells 246 86 [(ti (tv 239)),(.vslice 240 (tl 0) (tv 241) (tv 242) 1)],.arr 240 5 [CK.int .u8] (tv 243) (tv 242),.abs 224 20,.arr 237 96 qsZ (tv 238) (tl 1)] 254 (.back 0 17 (sg 1000 [bv 1023 235,bv 1022 234,bv 1021 233,bg 1020 232,bv 1019 231,bv 1017 229,bv 1016 228,bv 1015 227,bv 1014 226,bt 1018 (r8 230),bg 1012 254,bv 1011 223,bv 1007 219,bv 1006 218,bv 1010 222,bv 1009 221,bg 1008 220,bg 1005 217,bt 1004 (r8 216),bv 1002 245,bt 1024 (.arith .add .i64 (tv 236) (tl 1)),bg 1013 225,bg 1003 215,bg 1001 213,bg 1000 212]))))))))))))))))))))))))
@[simp] def q0U:Sg:=sg 0 [bv 13 8,bg 9 184,bv 8 183,bv 4 179,bv 3 178,bv 7 182,bv 6 181,bg 5 180,bg 2 177,bt 1 (r8 176),bv 11 174,bg 10 173,bg 0 175,bg 12 7]
@[simp] def q0G:Sg:=sg 0 [bv 13 10,bg 11 6,bv 10 195,bv 9 194,bv 8 193,bg 7 192,bv 6 191,bv 4 189,bv 3 188,bv 2 187,bv 1 186,bt 5 (r8 190),bt 0 (r8 0),bg 12 9]
def q2V:Out:=(.hyp 4 172 (.know (.cmp .leq (.dlen (tv 183)) (tv 182)) (.pre 13 q0U (tb (fr 199 7 (.post 13 0 q0U 199 (.know (.cmp .leq (.dlen (tv 195)) (tv 194)) (.pre 14 q0G (tb (fr 206 6 (.post 14 0 q0G 206 (.both (.br (.cmp .neq (tv 203) (tv 211))
 (.stuck 7 0 0)
 (tn (tl 0) (tv 200) (tn (tv 200) (.dlen (tv 202)) (tn (tl 0) (tv 207) (tn (tv 207) (.dlen (tv 209)) (.br (.not (.c2 .veq (.c1 .vbytes (.dtake (tv 202) (tv 200))) (.c1 .vbytes (.dtake (tv 209) (tv 207)))))
 (.stuck 7 0 0)
 (.pack [.arr 206 5 [CK.int .u8] (tv 209) (tv 208),.arr 199 5 [CK.int .u8] (tv 202) (tv 201),.abs 184 20] 212 (.cut 5 212 (sg 1000 [bv 1026 198,bv 1023 195,bv 1022 194,bv 1021 193,bg 1020 192,bv 1019 191,bv 1017 189,bv 1016 188,bv 1015 187,bv 1014 186,bt 1018 (r8 190),bg 1012 212,bv 1011 183,bv 1007 179,bv 1006 178,bv 1010 182,bv 1009 181,bg 1008 180,bg 1005 177,bt 1004 (r8 176),bv 1002 204,bg 1025 197,bv 1024 196,bg 1013 185,bg 1003 175,bg 1001 173,bg 1000 172]))))))))) (fr 212 27 q4B)))))))))))))
@[simp] def q1S:Sg:=sg 0 [bv 9 184,bv 8 185,bv 4 180,bv 3 181,bv 7 184,bv 6 183,bg 5 182,bv 2 180,bv 1 179,bg 0 178]
@[simp] def qi0:Sg:=sg 0 [bg 9 144,bv 8 143,bv 4 139,bv 3 138,bv 7 142,bv 6 141,bg 5 140,bg 2 137,bt 1 (r8 136),bg 0 135]
@[simp] def q2y:Sg:=sg 0 [bv 9 154,bv 8 153,bg 7 152,bv 6 151,bv 4 149,bv 3 148,bv 2 147,bv 1 146,bt 5 (r8 150),bt 0 (r8 0)]
@[simp] def q02:Sg:=sg 0 [bv 10 155,bv 9 154,bv 8 153,bg 7 152,bv 6 151,bv 4 149,bv 3 148,bv 2 147,bv 1 146,bt 5 (r8 150),bt 0 (r8 0)]
@[simp] def q0L:Sg:=sg 0 [bv 19 175,bv 18 176,bv 17 168,bv 16 169,bv 15 175,bt 14 (.dlen (tv 176)),bg 13 174,bv 11 149,bv 10 148,bv 9 147,bv 8 146,bt 12 (r8 150),bv 7 168,bv 6 167,bg 5 166,bv 3 164,bv 2 163,bv 1 162,bv 0 161,bt 4 (r8 165)]
def q3J:Out:=(.hyp 3 132 (.know (.cmp .leq (.dlen (tv 143)) (tv 142)) (.pre 6 qi0 (tb (fr 161 10 (.post 6 0 qi0 161 (.fresh 171 (.both (.br (.cmp .neq (tv 159) (tv 160))
 (tb (tb (tb (tb (tb (tb (.stuck 7 0 0)))))))
 (tb (.pre 7 qi0 (tb (.fresh 172 (.post 7 0 qi0 172 (tb (.know (.cmp .leq (.dlen (tv 155)) (tv 154)) (.pre 8 q2y (tb (.fresh 173 (.post 8 0 q2y 173 (.br (.not (.beq (tv 172) (tv 173)))
 (tb (tb (tb (tb (.stuck 7 0 0)))))
 (tn (tl 0) (tv 153) (.br (.not (.beq (tv 170) (.cmp .gtr (tv 153) (tl 0))))
 (tb (tb (tb (tb (.stuck 7 0 0)))))
 (tb (.viewL (tv 151) k32 [144,6] 174 (.know (.cmp .leq (.dlen (tv 169)) (tv 168)) (.pre 9 q0L (tb (.fresh 177 (.post 9 0 q0L 177 (.br (.not (tv 177))
 (tb (tb (tb (.stuck 7 0 0))))
 (tb (.pre 10 qi0 (tb (fr 178 4 (.post 10 0 qi0 178 (tb (.pre 11 q02 (tb (fr 182 4 (.post 11 0 q02 182 (tb (.know (.cmp .leq (.dlen (tv 181)) (tv 180)) (.know (.cmp .leq (.dlen (tv 185)) (tv 184)) (.pre 12 q1S (tb (.fresh 186 (.post 12 0 q1S 186 (.br (.not (tv 186))
 (.stuck 7 0 0)
 (.pack [.arr 182 3 [CK.int .i64] (tv 185) (tv 184),.arr 178 3 [CK.int .i64] (tv 181) (tv 180),.cells 171 27 ([(ti (tv 161)),(ti (tv 162)),(ti (tv 163)),(ti (tv 164))] ++ (c8 165 ++ [(.vslice 166 (tl 0) (tv 167) (tv 168) 32)])),.arr 166 24 k32 (tv 169) (tv 168),.abs 144 20] 187 (.cut 4 172 (sg 1000 [bv 1026 158,bv 1023 155,bv 1022 154,bv 1021 153,bg 1020 152,bv 1019 151,bv 1017 149,bv 1016 148,bv 1015 147,bv 1014 146,bt 1018 (r8 150),bg 1012 187,bv 1011 143,bv 1007 139,bv 1006 138,bv 1010 142,bv 1009 141,bg 1008 140,bg 1005 137,bt 1004 (r8 136),bv 1002 134,bg 1025 157,bv 1024 156,bg 1013 145,bg 1003 135,bg 1001 133,bg 1000 132])))))))))))))))))))))))))))))))))))))))))))) (fr 172 27 q2V)))))))))
def q5f:Out:=(.hyp 1 86 (.know (.cmp .leq (.dlen (tv 131)) (tv 130)) (tn (tl 0) (tv 129) (.br (.cmp .lss (tv 121) (tv 129))
 (tn (tl 0) (tv 121) (ts (tv 121) (.dlen (tv 131)) (.back 1 86 (sg 1000 [bt 1045 (.dput (tv 131) (tv 121) 0 z8),bv 1044 130,bv 1043 129,bg 1042 128,bv 1040 126,bv 1039 125,bv 1038 124,bv 1037 123,bt 1041 (r8 127),bv 1034 120,bv 1033 119,bv 1032 118,bg 1031 117,bv 1030 116,bv 1026 112,bv 1023 109,bv 1022 108,bv 1021 107,bg 1020 106,bv 1019 105,bv 1017 103,bv 1016 102,bv 1015 101,bv 1014 100,bt 1018 (r8 104),bg 1012 98,bv 1011 97,bv 1007 93,bv 1006 92,bv 1010 96,bv 1009 95,bg 1008 94,bg 1005 91,bt 1004 (r8 90),bv 1002 88,bt 1035 (.arith .add .i64 (tv 121) (tl 1)),bg 1029 115,bg 1036 122,bv 1028 114,bv 1027 113,bg 1025 111,bv 1024 110,bg 1013 99,bg 1003 89,bg 1001 87,bg 1000 86]))))
 (.both (.pack [.abs 98 20,.cells 122 27 ([(ti (tv 123)),(ti (tv 124)),(ti (tv 125)),(ti (tv 126))] ++ (c8 127 ++ [(.vslice 128 (tl 0) (tv 129) (tv 130) 32)])),.arr 128 24 k32 (tv 131) (tv 130)] 132 (.inv 2 133 (sg 1000 [bv 1034 120,bv 1033 119,bv 1032 118,bg 1031 117,bv 1030 116,bv 1026 112,bv 1023 109,bv 1022 108,bv 1021 107,bg 1020 106,bv 1019 105,bv 1017 103,bv 1016 102,bv 1015 101,bv 1014 100,bt 1018 (r8 104),bg 1012 132,bv 1011 97,bv 1007 93,bv 1006 92,bv 1010 96,bv 1009 95,bg 1008 94,bg 1005 91,bt 1004 (r8 90),bv 1002 88,bt 1035 (tl 0),bg 1029 115,bv 1028 114,bv 1027 113,bg 1025 111,bv 1024 110,bg 1013 99,bg 1003 89,bg 1001 87,bg 1000 86]) (fr 133 36 q48))) (fr 132 29 q3J))))))
@[simp] def q1V:Sg:=sg 0 [bv 15 53,bv 14 54,bv 9 50,bv 8 51,bv 13 53,bt 12 (.dlen (tv 54)),bg 11 52,bt 10 (.icell (tv 4) (tv 41) 37),bv 7 50,bt 6 (.dlen (tv 51)),bg 5 49,bt 3 (.icell (tv 4) (tv 41) 3),bt 2 (.icell (tv 4) (tv 41) 2),bt 1 (.icell (tv 4) (tv 41) 1),bt 0 (.icell (tv 4) (tv 41) 0),bt 4 (m8 4 41)]
@[simp] def q1j:Sg:=sg 0 [bv 21 10,bg 19 6,bv 10 40,bt 18 (.vcell (tv 4) (tv 41) 38),bt 17 (.icell (tv 4) (tv 41) 37),bt 16 (.vcell (tv 4) (tv 41) 36),bt 14 (.icell (tv 4) (tv 41) 3),bt 13 (.icell (tv 4) (tv 41) 2),bt 12 (.icell (tv 4) (tv 41) 1),bt 11 (.icell (tv 4) (tv 41) 0),bt 15 (m8 4 41),bv 9 39,bv 8 38,bg 7 37,bv 6 36,bv 4 34,bv 3 33,bv 2 32,bv 1 31,bt 5 (r8 35),bt 0 (r8 0),bg 20 9]
@[simp] def q0Q:Sg:=sg 0 [bv 27 8,bv 25 58,bv 24 60,bv 19 56,bv 18 59,bg 9 29,bv 8 28,bv 4 24,bv 3 23,bv 7 27,bv 6 26,bg 5 25,bg 2 22,bt 1 (r8 21),bv 23 58,bt 22 (.dlen (tv 54)),bg 21 57,bt 20 (.icell (tv 4) (tv 41) 37),bv 17 56,bt 16 (.dlen (tv 51)),bg 15 55,bt 13 (.icell (tv 4) (tv 41) 3),bt 12 (.icell (tv 4) (tv 41) 2),bt 11 (.icell (tv 4) (tv 41) 1),bt 10 (.icell (tv 4) (tv 41) 0),bt 14 (ms8 4 41),bg 0 20,bg 26 7]
def q4W:Out:=(.hyp 0 17 (.br (.cmp .lss (tv 41) (tv 2))
 (tn (tl 0) (tv 41) (ts (tv 41) (.dlen (tv 4)) (.fresh 42 (.viewL (.vcell (tv 4) (tv 41) 36) k32 [29,6] 43 (.br (.cmp .gtr (.dlen (tv 45)) (tl 60))
 (.pre 0 (sg 0 [bv 1 8,bg 0 7]) (tb (.post 0 0 (sg 0 [bv 1 8,bg 0 7]) 46 (.ret 0 (sg 11 [])))))
 (.viewL (.vcell (tv 4) (tv 41) 38) [CK.int .u8] [29,6] 46 (.br (.cmp .gtr (.dlen (tv 48)) (tl 2000))
 (.pre 0 (sg 0 [bv 1 8,bg 0 7]) (tb (.post 0 0 (sg 0 [bv 1 8,bg 0 7]) 49 (.ret 0 (sg 11 [])))))
 (.viewL (.vcell (tv 4) (tv 41) 36) k32 [29,6] 49 (.viewL (.vcell (tv 4) (tv 41) 38) [CK.int .u8] [29,6] 52 (.pre 3 q1V (tb (fr 55 6 (.post 3 0 q1V 55 (fr 61 2 (.know (.cmp .leq (.dlen (tv 28)) (tv 27)) (.know (.cmp .leq (.dlen (tv 59)) (tv 56)) (.know (.cmp .leq (.dlen (tv 60)) (tv 58)) (.pre 4 q0Q (tb (fr 63 9 (.post 4 0 q0Q 63 (.know (.cmp .leq (.dlen (tv 40)) (tv 39)) (.pre 5 q1j (tb (fr 72 12 (.post 5 0 q1j 72 (.fresh 84 (.pack [.cells 84 94 ([(q8 0 0),(q8 1 0),(q8 2 0),(q8 3 0),(q8 4 0),(q8 5 0),(q8 6 0),(q8 7 0),(q8 8 0),(q8 9 0),(q8 10 0),(q8 11 0),(q8 12 0),(q8 13 0),(q8 14 0),(q8 15 0),(q8 16 0),(q8 17 0),(q8 18 0),(q8 19 0),(q8 20 0),(q8 21 0),(q8 22 0),(q8 23 0),(q8 24 0),(q8 25 0),(q8 26 0),(q8 27 0),(q8 28 0),(q8 29 0),(q8 30 0),(q8 31 0),(ti (tv 73)),(ti (tv 74)),(ti (tv 75)),(ti (tv 76))] ++ (c8 77 ++ [(tv 78),(.vslice 79 (tl 0) (tv 80) (tv 81) 2)])),.abs 83 20,.abs 70 20] 85 (.need (.cmp .eql (.c2 (.xint 31) (tv 0) (tl 0)) (.c2 (.xint 31) (r8 0) (tl 0))) (.need (.cmp .eql (.c2 (.xint 30) (tv 0) (tl 0)) (.c2 (.xint 30) (r8 0) (tl 0))) (.need (.cmp .eql (.c2 (.xint 29) (tv 0) (tl 0)) (.c2 (.xint 29) (r8 0) (tl 0))) (.need (.cmp .eql (.c2 (.xint 28) (tv 0) (tl 0)) (.c2 (.xint 28) (r8 0) (tl 0))) (.need (.cmp .eql (.c2 (.xint 27) (tv 0) (tl 0)) (.c2 (.xint 27) (r8 0) (tl 0))) (.need (.cmp .eql (.c2 (.xint 26) (tv 0) (tl 0)) (.c2 (.xint 26) (r8 0) (tl 0))) (.need (.cmp .eql (.c2 (.xint 25) (tv 0) (tl 0)) (.c2 (.xint 25) (r8 0) (tl 0))) (.need (.cmp .eql (.c2 (.xint 24) (tv 0) (tl 0)) (.c2 (.xint 24) (r8 0) (tl 0))) (.need (.cmp .eql (.c2 (.xint 23) (tv 0) (tl 0)) (.c2 (.xint 23) (r8 0) (tl 0))) (.need (.cmp .eql (.c2 (.xint 22) (tv 0) (tl 0)) (.c2 (.xint 22) (r8 0) (tl 0))) (.need (.cmp .eql (.c2 (.xint 21) (tv 0) (tl 0)) (.c2 (.xint 21) (r8 0) (tl 0))) (.need (.cmp .eql (.c2 (.xint 20) (tv 0) (tl 0)) (.c2 (.xint 20) (r8 0) (tl 0))) (.need (.cmp .eql (.c2 (.xint 19) (tv 0) (tl 0)) (.c2 (.xint 19) (r8 0) (tl 0))) (.need (.cmp .eql (.c2 (.xint 18) (tv 0) (tl 0)) (.c2 (.xint 18) (r8 0) (tl 0))) (.need (.cmp .eql (.c2 (.xint 17) (tv 0) (tl 0)) (.c2 (.xint 17) (r8 0) (tl 0))) (.need (.cmp .eql (.c2 (.xint 16) (tv 0) (tl 0)) (.c2 (.xint 16) (r8 0) (tl 0))) (.need (.cmp .eql (.c2 (.xint 15) (tv 0) (tl 0)) (.c2 (.xint 15) (r8 0) (tl 0))) (.need (.cmp .eql (.c2 (.xint 14) (tv 0) (tl 0)) (.c2 (.xint 14) (r8 0) (tl 0))) (.need (.cmp .eql (.c2 (.xint 13) (tv 0) (tl 0)) (.c2 (.xint 13) (r8 0) (tl 0))) (.need (.cmp .eql (.c2 (.xint 12) (tv 0) (tl 0)) (.c2 (.xint 12) (r8 0) (tl 0))) (.need (.cmp .eql (.c2 (.xint 11) (tv 0) (tl 0)) (.c2 (.xint 11) (r8 0) (tl 0))) (.need (.cmp .eql (.c2 (.xint 10) (tv 0) (tl 0)) (.c2 (.xint 10) (r8 0) (tl 0))) (.need (.cmp .eql (.c2 (.xint 9) (tv 0) (tl 0)) (.c2 (.xint 9) (r8 0) (tl 0))) (.need (.cmp .eql (.c2 (.xint 8) (tv 0) (tl 0)) (.c2 (.xint 8) (r8 0) (tl 0))) (.need (.cmp .eql (.c2 (.xint 7) (tv 0) (tl 0)) (.c2 (.xint 7) (r8 0) (tl 0))) (.need (.cmp .eql (.c2 (.xint 6) (tv 0) (tl 0)) (.c2 (.xint 6) (r8 0) (tl 0))) (.need (.cmp .eql (.c2 (.xint 5) (tv 0) (tl 0)) (.c2 (.xint 5) (r8 0) (tl 0))) (.need (.cmp .eql (.c2 (.xint 4) (tv 0) (tl 0)) (.c2 (.xint 4) (r8 0) (tl 0))) (.need (.cmp .eql (.c2 (.xint 3) (tv 0) (tl 0)) (.c2 (.xint 3) (r8 0) (tl 0))) (.need (.cmp .eql (.c2 (.xint 2) (tv 0) (tl 0)) (.c2 (.xint 2) (r8 0) (tl 0))) (.need (.cmp .eql (.c2 (.xint 1) (tv 0) (tl 0)) (.c2 (.xint 1) (r8 0) (tl 0))) (.need (.cmp .eql (.c2 (.xint 0) (tv 0) (tl 0)) (.c2 (.xint 0) (r8 0) (tl 0))) (.inv 1 86 (sg 1000 [bv 1045 59,bv 1044 56,bt 1043 (.dlen (tv 51)),bg 1042 55,bt 1040 (.icell (tv 4) (tv 41) 3),bt 1039 (.icell (tv 4) (tv 41) 2),bt 1038 (.icell (tv 4) (tv 41) 1),bt 1037 (.icell (tv 4) (tv 41) 0),bt 1041 (ms8 4 41),bv 1034 60,bv 1033 58,bt 1032 (.dlen (tv 54)),bg 1031 57,bt 1030 (.icell (tv 4) (tv 41) 37),bt 1026 (.rcons (ti (.icell (tv 4) (tv 41) 0)) (.rcons (ti (.icell (tv 4) (tv 41) 1)) (.rcons (ti (.icell (tv 4) (tv 41) 2)) (.rcons (ti (.icell (tv 4) (tv 41) 3)) (.rcons (i8 4 41 4) (.rcons (i8 4 41 5) (.rcons (i8 4 41 6) (.rcons (i8 4 41 7) (.rcons (i8 4 41 8) (.rcons (i8 4 41 9) (.rcons (i8 4 41 10) (.rcons (i8 4 41 11) (.rcons (i8 4 41 12) (.rcons (i8 4 41 13) (.rcons (i8 4 41 14) (.rcons (i8 4 41 15) (.rcons (i8 4 41 16) (.rcons (i8 4 41 17) (.rcons (i8 4 41 18) (.rcons (i8 4 41 19) (.rcons (i8 4 41 20) (.rcons (i8 4 41 21) (.rcons (i8 4 41 22) (.rcons (i8 4 41 23) (.rcons (i8 4 41 24) (.rcons (i8 4 41 25) (.rcons (i8 4 41 26) (.rcons (i8 4 41 27) (.rcons (i8 4 41 28) (.rcons (i8 4 41 29) (.rcons (i8 4 41 30) (.rcons (i8 4 41 31) (.rcons (i8 4 41 32) (.rcons (i8 4 41 33) (.rcons (i8 4 41 34) (.rcons (i8 4 41 35) (.rcons (.vcell (tv 4) (tv 41) 36) (.rcons (ti (.icell (tv 4) (tv 41) 37)) (.rcons (.vcell (tv 4) (tv 41) 38) (.rcons (ti (.icell (tv 4) (tv 41) 39)) .rnil)))))))))))))))))))))))))))))))))))))))),bv 1023 82,bv 1022 81,bv 1021 80,bg 1020 79,bv 1019 78,bv 1017 76,bv 1016 75,bv 1015 74,bv 1014 73,bt 1018 (r8 77),bg 1012 85,bv 1011 69,bv 1007 65,bv 1006 64,bv 1010 68,bv 1009 67,bg 1008 66,bg 1005 63,bt 1004 (s8 21),bv 1002 19,bt 1035 (tl 0),bg 1029 62,bg 1036 61,bv 1028 72,bv 1027 71,bg 1025 42,bv 1024 41,bg 1013 30,bg 1003 20,bg 1001 18,bg 1000 17]) (fr 86 46 q5f))))))))))))))))))))))))))))))))))))))))))))))))))))))))))))))
 (.pre 0 (sg 0 [bv 1 8,bg 0 7]) (tb (.post 0 0 (sg 0 [bv 1 8,bg 0 7]) 42 (.ret 0 (sg 11 [])))))))
def q0A:Out:=(.fresh 11 (tn (tl 0) (tv 2) (.br (.cmp .gtr (tv 2) (tl 20))
 (.pre 0 (sg 0 [bv 1 8,bg 0 7]) (tb (.post 0 0 (sg 0 [bv 1 8,bg 0 7]) 12 (.ret 0 (sg 11 [])))))
 (.pre 1 (sg 0 []) (tb (fr 12 2 (.post 1 0 (sg 0 []) 12 (.pre 2 (sg 0 [bt 0 (r8 0)]) (tb (.fresh 14 (.post 2 0 (sg 0 [bt 0 (r8 0)]) 14 (.fresh 15 (.pack [] 16 (.inv 0 17 (sg 1000 [bt 1023 .dnil,bt 1022 (tl 0),bt 1021 (tl 0),(1020,.nil),bt 1019 .vnils,bt 1017 (tl 0),bt 1016 (tl 0),bt 1015 (tl 0),bt 1014 (tl 0),bt 1018 z8,bg 1012 16,bt 1011 .dnil,bt 1007 (tl 0),bt 1006 .dnil,bt 1010 (tl 0),bt 1009 (tl 0),(1008,.nil),(1005,.nil),bt 1004 (s8 0),bv 1002 13,bt 1024 (tl 0),bg 1013 15,bg 1003 14,bg 1001 12,bg 1000 11]) (fr 17 25 q4W)))))))))))))))
theorem q9g:qj Tryz.prog qaT [qfO,qc9,qg1,qo3,qgd,qiv,qgq,qda,qc2,qo4,qge,qhJ,qkP,qiw,qkA,qiy,qix] [qw4,q4c,q3n,qvU,q30,q2W] q0A:=qg Tryz.func11 Tryz.call11 (by kernel_rfl)
section
set_option maxRecDepth 20000
variable {h h':Hp} {k n t s l:Int} {o:List Int} {v:Value} {P:qe} {M M':Option ManV} {L L':PcL}
theorem qkS (h1:qjt h k n t s o v l P M L) (h2:qjt h k n t s o v l P M' L'):M' = M/\L' = L:=by
 obtain ⟨_,p1,_,_,_,_,D,r1,_,c1⟩:=h1;obtain ⟨_,p2,_,_,_,_,D',r2,_,c2⟩:=h2;obtain rfl:=qaR r1 r2;obtain rfl:=qwq p1 p2;refine ⟨?_,rfl⟩;rcases c1 with ⟨rfl,l1,_⟩ | ⟨rfl,l1,_⟩ <;> rcases c2 with ⟨rfl,l2,_⟩ | ⟨rfl,l2,_⟩
 ·rfl
 ·exact absurd l1 l2
 ·exact absurd l2 l1
 ·rfl
theorem qgO (hg:qjt h k n t s o v l P M L):qa3 M L = decide (0 < l/\k <= l):=by
 obtain ⟨hn,p,_,_,_,_,D,r,_,c⟩:=hg;have hl:=p.1;rcases c with ⟨rfl,rfl,_⟩ | ⟨rfl,hn',_⟩
 ·have h0:l = 0:=by rw [hn,hl]; rfl
  simp [qa3,h0]
 ·have h0:0 < L.length:=jfm.2 hn'
  show decide (k <= (L.length:Int)) = _
  rw [jfz]; omega
theorem q8h (hg:qjt h k n t s o v l P M L) (hr:qa3 M L = true):∃ D,Rd h k32 v D/\qbJ D/\M = some ⟨k,n,t,s,o,dgs D⟩/\ManV.ok ⟨k,n,t,s,o,dgs D⟩ = true:=by
 obtain ⟨_,p,_,_,_,_,D,r,hD,c⟩:=hg;rcases c with ⟨rfl,_⟩ | ⟨rfl,_,hk⟩
 ·cases hr
 ·exact ⟨D,r,hD,rfl,hk⟩
theorem qBM (hg:qjt h k n t s o v l P M L):(M = none->l = 0)/\(∀ m,M = some m->0 < l):=by
 obtain ⟨hn,p,_,_,_,_,D,r,_,c⟩:=hg;have hl:=p.1;rcases c with ⟨rfl,rfl,_⟩ | ⟨rfl,hn',_⟩
 ·exact ⟨fun _=>by rw [hn,hl]; rfl,fun m hm=>by cases hm⟩
 ·have h0:0 < L.length:=jfm.2 hn'
  exact ⟨fun hm=>(by cases hm),fun _ _=>by omega⟩
theorem q2t (p1:qcX h P L):qav P P.length = L.map Prod.fst:=by
 refine jbs fun j=>?_
 by_cases hj:j < P.length
 ·have e:=congrArg Prod.fst (p1.2.2 j hj)
  rw [jab,jac (by have:=p1.1; omega)] at e;rw [qav,jaq,jbp hj,jaq,jac (by have:=p1.1; omega)];exact congrArg some e
 ·rw [jat (by simp [qav]; omega),jat (by rw [ja7]; have:=p1.1; omega)]
theorem qrt (hn:n = P.length) (hp:qcX h P L) (hb:∀ x ∈ L,(x.2.length:Int) <= 9000) (hl:L.length <= 255):qdV h P n/\n = P.length/\∀ j,j < P.length->(pcD h P j).length <= 9000:=by
 have hlen:=hp.1;have h9:∀ j,j < P.length->(pcD h P j).length <= 9000:=fun j hj=>by
  have e:=hp.2.2 j hj;have hj':j < L.length:=by omega
  rw [jab,jac hj'] at e;have e:(pcI P j,pcD h P j) = L[j]:=e;have:=hb _ (jbv hj');rw [<- e] at this;have this:((pcD h P j).length:Int) <= 9000:=this;omega
 refine ⟨⟨by omega,by omega,?_⟩,hn,h9⟩;rw [hn,jal]; exact hp.2.1
theorem qBB {B:qe} {i:Int} (a2:qcX h P L) (hRd:Rd h kB v B) (hB:qk B):qcX h (P ++ [[.int .i64 i,v]]) (L ++ [(i,bI B)]):=by
 have hPl:=a2.1;refine ⟨by rw [jaj,jaj,hPl]; rfl,fun j hj=>?_,fun j hj=>?_⟩
 ·rw [jaj,jck] at hj
  rcases jbu j P.length with hjP | hjP
  ·obtain ⟨i0,v0,d0,e1,e2⟩:=a2.2.1 j hjP
   exact ⟨i0,v0,d0,by rw [jar hjP]; exact e1,e2⟩
  ·have:j = P.length:=by omega
   subst this;exact ⟨i,v,B,by rw [jao (ja4 _),jds]; rfl,hRd,hB⟩
 ·rw [jaj,jck] at hj
  rcases jbu j P.length with hjP | hjP
  ·have h3:=a2.2.2 j hjP
   have e1:pcI (P ++ [[.int .i64 i,v]]) j = pcI P j:=by unfold pcI qb qC; rw [jal,jar hjP]
   have e2:pcD h (P ++ [[.int .i64 i,v]]) j = pcD h P j:=by unfold pcD qC; rw [jal,jar hjP]
   rw [e1,e2,h3,jab,jab,jar (by omega)]
  ·have:j = P.length:=by omega
   subst this;have e1:pcI (P ++ [[.int .i64 i,v]]) P.length = i:=by unfold pcI qb qC; rw [jal,jao (ja4 _),jds]; rfl
   have e2:pcD h (P ++ [[.int .i64 i,v]]) P.length = bI B:=by
    unfold pcD qC;rw [jal,jao (ja4 _),jds];exact qeZ hRd
   rw [e1,e2,hPl,jab,jao (ja4 _),jds]; rfl
theorem qxS {P':qe} (a:qcX h P L) (b:qcX h' P' L):P.length = P'.length/\∀ j,j < P.length->pcI P j = pcI P' j/\pcD h P j = pcD h' P' j:=by
 have hl:P.length = P'.length:=a.1.trans b.1.symm;refine ⟨hl,fun j hj=>?_⟩;have e:=(a.2.2 j hj).trans (b.2.2 j (by omega)).symm;exact ⟨congrArg Prod.fst e,congrArg Prod.snd e⟩
theorem q5M {m:ManV} (hr:qa3 (some m) L = true):m.k <= L.length:=jbh hr
theorem q6x {P' R R':qe} {e e' n':Int} (a:qk0 M L h P e n R) (b:qk0 M L h' P' e' n' R') (hp:qcX h P L) (hp':qcX h' P' L):e = e'/\bytesOf (R.take n.toNat) = bytesOf (R'.take n'.toNat):=by
 obtain ⟨hl,H⟩:=qxS hp hp';rcases a with ⟨r,e1,n1,R1⟩ | ⟨m,hm,r,o,a⟩ <;> rcases b with ⟨r',e1',n1',R1'⟩ | ⟨m',hm',r',o',b⟩
 ·exact ⟨by rw [e1,e1'],by rw [R1,R1']; simp⟩
 ·rw [r] at r'; cases r'
 ·rw [r] at r'; cases r'
 ·obtain rfl:m = m':=jax (hm.symm.trans hm')
  subst hm;have hk:m.k.toNat <= P.length:=by have:=q5M r; have:=hp.1; omega
  have hD:=q4d (k:=m.k.toNat) (fun j hj=>H j (by omega));have he:e = e':=qt5 (fun x y hx hy=>qtX (by rw [<- hl]; exact qsh (fun j hj=>⟨qq4 (H j hj),(H j hj).1⟩) hx) hy) (fun _ _=>by rw [hD]) o o';refine ⟨he,?_⟩;rcases a with ⟨a1,a2,a3⟩ | ⟨a1,a2,a3,a4,a5,a6⟩ <;> rcases b with ⟨b1,b2,b3⟩ | ⟨b1,b2,b3,b4,b5,b6⟩
  ·rw [a3,b3]; simp
  ·omega
  ·omega
  ·rw [qiq,qiq,a6,b6,hD]
theorem q3M {P' R R':qe} {x e y e' y' n':Int} (a:qiR M L h P x e y n R) (b:qiR M L h' P' x e' y' n' R') (hp:qcX h P L) (hp':qcX h' P' L):e = e'/\y = y'/\bytesOf (R.take n.toNat) = bytesOf (R'.take n'.toNat):=by
 obtain ⟨hl,H⟩:=qxS hp hp';rcases a with ⟨r,e1,y1,n1,R1⟩ | ⟨m,hm,r,a⟩ <;> rcases b with ⟨r',e1',y1',n1',R1'⟩ | ⟨m',hm',r',b⟩
 ·exact ⟨by rw [e1,e1'],by rw [y1,y1'],by rw [R1,R1']; simp⟩
 ·rw [r] at r'; cases r'
 ·rw [r] at r'; cases r'
 ·obtain rfl:m = m':=jax (hm.symm.trans hm')
  subst hm;have hk:m.k.toNat <= P.length:=by have:=q5M r; have:=hp.1; omega
  have hn:n = R.length/\n' = R'.length:=by
   refine ⟨?_,?_⟩
   ·rcases a.2 with ⟨_,_,h1,h2⟩ | ⟨_,_,h1,_⟩
    ·rw [h1,h2]; rfl
    ·exact h1
   ·rcases b.2 with ⟨_,_,h1,h2⟩ | ⟨_,_,h1,_⟩
    ·rw [h1,h2]; rfl
    ·exact h1
  obtain ⟨q1,q2,q3⟩:=qDO (fun x y hx hy=>qtX (by rw [<- hl]; exact qsh (fun j hj=>⟨qq4 (H j hj),(H j hj).1⟩) hx) hy) (fun hok hC0=>qpp (k:=m.k.toNat) (by
   rw [jag] at hok;have:=hok.1;simp only [ManV.ok,qy,qam,jag,ja8] at this;omega) (fun j hj=>H j (by omega))) a b
  refine ⟨q1,q2,?_⟩;rw [jap (by omega),jap (by omega),qiq,qiq,q3]
theorem qxv {R:qe} {e:Int} (a:qk0 M L h P e n R):0 <= n/\n <= R.length:=by
 rcases a with ⟨_,_,h1,_⟩ | ⟨m,_,_,_,a⟩
 ·omega
 ·rcases a with ⟨_,h1,_⟩ | ⟨_,_,h1,h2,_⟩ <;> omega
theorem qtZ {R:qe} {x e y:Int} (a:qiR M L h P x e y n R):0 <= n/\n <= R.length:=by
 rcases a with ⟨_,_,_,h1,_⟩ | ⟨m,_,_,a⟩
 ·omega
 ·rcases a.2 with ⟨_,_,h1,_⟩ | ⟨_,_,h1,_⟩ <;> omega
end
theorem q9s:qjm.ok Tryz.prog:=Ctr.ok_tags qC0 rfl rfl rfl rfl (fun x hx=>by
 simp only [qoz,ja9,jco,or_false] at hx;rcases hx with rfl | rfl | rfl | rfl
 ·exact .inl (by simp [qjm])
 ·exact .inl (by simp [qjm])
 ·exact .inr ⟨15,6,0,rfl,by simp [qjm]⟩
 ·exact .inl (by simp [qjm])) (fun Z h=>h) rfl
theorem qAF:qiK.ok Tryz.prog:=Ctr.ok_tags qBZ rfl rfl rfl rfl (fun x hx=>by
 simp only [qo2,ja9,jco,or_false] at hx;rcases hx with rfl | rfl | rfl | rfl
 ·exact .inl (by simp [qiK])
 ·exact .inl (by simp [qiK])
 ·exact .inr ⟨15,6,0,rfl,by simp [qiK]⟩
 ·exact .inl (by simp [qiK])) (fun Z h=>h) rfl
theorem qjG:qc2.ok Tryz.prog:=q5o (by simp) fun Z hg hp=>by
 have hp:0 <= (Z 8).i:=hp;simp (config:={ maxSteps:=4000000 }) [qvA,qc2];refine ⟨hp,fun h=>?_,fun h h'=>by omega⟩;rw [jcl h,jel]; rfl
theorem qvQ:qhJ.ok Tryz.prog:=q9Z (by simp) fun Z hg hp=>by
 obtain ⟨h1,h2⟩:=hp;simp (config:={ maxSteps:=4000000 }) [q0H,qhJ,q6f,qcg];refine ⟨⟨by omega,rfl⟩,fun a _ D _ i _ i0 i1 ha hD hr=>⟨by omega,fun hi=>?_,fun hi=>?_⟩⟩
 ·have hDl:D.d.length = i.i.toNat:=by
   have:=congrArg List.length hD;rw [qbh] at this;simpa [qav] using this
  have hnx:(qc .add .i64 i.i 1).toNat = i.i.toNat + 1:=by rw [qdz i0 (by omega)]; omega
  refine ⟨i0,by omega,ha,by omega,⟨by rw [qdz i0 (by omega)]; omega,by rw [qdz i0 (by omega)]; omega,ha,?_,fun row h=>qoe h hr⟩,by rw [qdz i0 (by omega)]; omega⟩;rw [hnx,qwa,qjE,hD];unfold pcI;rw [jay i0]
 ·exact ⟨ha,by rw [hD,show i.i = (Z 8).i by omega],hr⟩
set_option maxHeartbeats 4000000 in
theorem q6k:qiv.ok Tryz.prog:=q7W (by simp [qAk,qu7,qvQ,qEn,qjG]) fun Z hg hp=>by
 obtain ⟨⟨⟨M,L,h0⟩,hO,⟨q0,q1,q2,q3⟩,hOm,⟨D,hRd,hD,hD60⟩,hi64,B,hRb,hB,h9⟩,hGr,hGd⟩:=hp;simp (config:={ maxSteps:=8000000 }) [qwC,qiv,rgB,q35,qmY,qqK,qjg,qgc,qsR,qgC,qlc,qfE,qcI,qhJ,qcg,qwj,qbx,qc2,gOk,hGr,hGd];intro u _ u1 _ u2 _ u3 _;refine ⟨D,hRd,fun v0 _ v1 _ hv hvl=>⟨⟨hOm,hD⟩,?_⟩⟩;intro u4 _ u5 _ hid u6 _;refine ⟨fun hne u7 _ hst M' L' h' D' B' hD' hB'=>?_,fun he=>⟨fun hno u7 _ hst M' L' h' D' B' hD' hB'=>?_,fun ho=>⟨D,hRd,fun _ _ _ _ _ _=>⟨B,hRb,fun _ _ _ _ hvb hvl2=>⟨⟨q0,q3,hD,hvl2,by omega,hB⟩,?_⟩⟩⟩⟩⟩
 ·obtain rfl:=qaR hD' hRd
  have h2:u5.i = 2:=by
   rcases hid with ⟨_,h,_⟩ | ⟨_,h,_⟩
   ·exact h
   ·exact absurd h hne
  exact ⟨by rw [<- h2]; exact qBr rfl hid hne,h'⟩
 ·obtain rfl:=qaR hD' hRd
  exact ⟨q5p rfl hid he hno,h'⟩
 have h0:qjt (Z 19).h (Z 1).i (Z 2).i (Z 3).i (Z 4).i (qf (Z 5).d 32) (Z 6).v (Z 8).i (Z 10).d M L:=h0;intro u7 _ hc;refine ⟨fun hne u8 _ hst M' L' h' D' B' hD' hB'=>?_,fun hc0=>?_⟩
 ·obtain rfl:=qaR hD' hRd
  obtain rfl:=qaR hB' hRb;rw [jaf hne,jaf hne];exact ⟨qBn rfl hid he ho hc hne,h'⟩
 have hlast:=qpE (M:=M) (L:=L) rfl hid he ho hc hc0;have hn:(Z 8).i = ((Z 10).d.length:Int):=h0.1;have hpl:=h0.2.1.1;have h255:=h0.2.2.2.1;refine ⟨⟨hn,by omega⟩,?_⟩;intro w2 _ w3 _ w4 _ w5 _ k1 k2 k3;have hidx:qt w5.d = L.map Prod.fst:=by rw [k2,hn,jal,q2t h0.2.1]
 have hil:w5.d.length = L.length:=by
  have:=congrArg List.length hidx;rw [qbh,ja7] at this;exact this
 refine ⟨⟨k1,by omega,k3⟩,?_⟩;intro w6 _ hmem;rw [hidx] at hmem;refine ⟨fun ht w7 _ hst M' L' h' D' B' hD' hB'=>?_,fun hf=>⟨by omega,?_⟩⟩
 ·obtain rfl:=qaR hD' hRd
  obtain rfl:=qaR hB' hRb;obtain ⟨rfl,rfl⟩:=qkS h0 h';exact ⟨by rw [hlast,jah (jbh (hmem.symm.trans ht))],h'⟩
 have hnm:¬ (Z 17).i ∈ L.map Prod.fst:=jdb (hmem.symm.trans hf);intro w7 _ hrd;have hready:w7.b = qa3 M L:=by rw [hrd,qgO h0,jeb]
 refine ⟨fun ht w8 _ hst M' L' h' D' B' hD' hB'=>?_,fun hf2=>?_⟩
 ·obtain rfl:=qaR hD' hRd
  obtain rfl:=qaR hB' hRb;obtain ⟨rfl,rfl⟩:=qkS h0 h';exact ⟨by rw [hlast,jaf hnm,<- hready,ht]; rfl,h'⟩
 have hcore:∀ (M':Option ManV) (L':PcL),qjt (Z 19).h (Z 1).i (Z 2).i (Z 3).i (Z 4).i (qf (Z 5).d 32) (Z 6).v (Z 8).i (Z 10).d M' L'->∀ (D' B':qe),Rd (Z 19).h k32 (Z 16).v D'->Rd (Z 19).h kB (Z 18).v B' ->
   0 = qfw (qf (Z 0).d 32) M' L' ⟨(Z 11).i,(Z 12).i,(Z 13).i,(Z 14).i,qf (Z 15).d 32,dgs D'⟩ (Z 17).i (bI B')/\qjt (Z 19).h (Z 11).i (Z 12).i (Z 13).i (Z 14).i (qf (Z 15).d 32) (Z 16).v ((Z 8).i + 1) ((Z 10).d.take (Z 8).i.toNat ++ [[.int .i64 (Z 17).i,(Z 18).v]]) (some ⟨(Z 11).i,(Z 12).i,(Z 13).i,(Z 14).i,qf (Z 15).d 32,dgs D'⟩) (L' ++ [((Z 17).i,bI B')]):=by
  intro M' L' h' D' B' hD' hB';obtain rfl:=qaR hD' hRd;obtain rfl:=qaR hB' hRb;obtain ⟨rfl,rfl⟩:=qkS h0 h';have hrf:=hready.symm.trans hf2;refine ⟨by rw [hlast,jaf hnm,hrf]; rfl,?_⟩;have hl254:L'.length < 255:=by
   obtain ⟨_,_,_,_,_,_,_,_,_,c⟩:=h0;rcases c with ⟨_,rfl,_⟩ | ⟨rfl,_,hk⟩
   ·decide
   ·have h1:¬ (Z 1).i <= (L'.length:Int):=jdb hrf
    simp only [ManV.ok,qy,qam,jag,ja8] at hk;omega
  rw [jap (by omega)];refine ⟨by rw [jaj,jck]; omega,qBB h0.2.1 hRb hB,fun x hx=>?_,by rw [jaj,jck]; omega,⟨q0,q1,q2,q3⟩,hOm,_,hRd,hD,.inr ⟨rfl,by simp,by rw [qi2 rfl]; exact (qne hid he).1⟩⟩;rcases jaw.1 hx with hx | hx
  ·exact h0.2.2.1 x hx
  ·rw [jak.1 hx,bI_len]; omega
 repeat' (first | with_reducible apply And.intro | with_reducible intro _)
 all_goals first
  | omega
  | exact (hcore _ _ (by assumption) _ _ (by assumption) (by assumption)).1
  | exact (hcore _ _ (by assumption) _ _ (by assumption) (by assumption)).2
  | (rw [jbe]; omega)
theorem qAg:qkA.ok Tryz.prog:=q8U (by simp [qjG,q9s]) fun Z hg hp=>by
 obtain ⟨⟨M,L,h0⟩,hc,hGr,hGd⟩:=hp;have h0:qjt (Z 11).h (Z 1).i (Z 2).i (Z 3).i (Z 4).i (qf (Z 5).d 32) (Z 6).v (Z 8).i (Z 10).d M L:=h0;obtain ⟨hn,hp,hb,hl,⟨i0,i1,i2,i3⟩,hO,_⟩:=h0;simp (config:={ maxSteps:=4000000 }) [q1v,qkA,rgB,qc2,qjm,qoz,qgB,psP,mOk,qhN,mF,qti,gOk,hGr,hGd];refine ⟨by omega,fun u1 _ hu1=>⟨fun hf M' L' h'=>.inl ⟨?_,rfl,rfl,rfl⟩,fun ht=>?_⟩⟩
 ·rw [qgO h',jeb,<- hu1]; exact hf
 have hr:qa3 M L = true:=by rw [qgO h0,jeb,<- hu1]; exact ht
 obtain ⟨D,hRd,hD,hM,hok⟩:=q8h h0 hr;have hdl:(((dgs D).length:Nat):Int) = (D.length:Int):=by rw [qfC]
 refine ⟨D,hRd,fun u2 _ u3 _ hv hle=>⟨⟨⟨i0,i1,i2,i3,hD⟩,qrt hn hp hb hl,by omega⟩,?_⟩⟩;intro a _ d _ e _ hS;intro M' L' h';obtain ⟨rfl,rfl⟩:=qkS h0 h';refine .inr ⟨_,hM,hr,?_⟩;unfold ManV.ok;simp only [hdl];exact hS
theorem q6J:qix.ok Tryz.prog:=q7b (by simp [qjG,qAF]) fun Z hg hp=>by
 obtain ⟨⟨M,L,h0⟩,hc,⟨hGr,hGd⟩,hx⟩:=hp;have h0:qjt (Z 11).h (Z 1).i (Z 2).i (Z 3).i (Z 4).i (qf (Z 5).d 32) (Z 6).v (Z 8).i (Z 10).d M L:=h0;obtain ⟨hn,hp,hb,hl,⟨i0,i1,i2,i3⟩,hO,_⟩:=h0;simp (config:={ maxSteps:=4000000 }) [qzl,qix,rgB,qc2,qiK,qo2,qgB,psP,mOk,qhN,mF,qsw,gOk,hGr,hGd];refine ⟨by omega,fun u1 _ hu1=>⟨fun hf M' L' h'=>.inl ⟨?_,rfl,rfl,rfl,rfl⟩,fun ht=>?_⟩⟩
 ·rw [qgO h',jeb,<- hu1]; exact hf
 have hr:qa3 M L = true:=by rw [qgO h0,jeb,<- hu1]; exact ht
 obtain ⟨D,hRd,hD,hM,hok⟩:=q8h h0 hr;have hdl:(((dgs D).length:Nat):Int) = (D.length:Int):=by rw [qfC]
 refine ⟨D,hRd,fun u2 _ u3 _ hv hle=>⟨⟨⟨i0,i1,i2,i3,hD⟩,qrt hn hp hb hl,by omega,hx⟩,?_⟩⟩;intro a _ b _ d _ e _ hS M' L' h';obtain ⟨rfl,rfl⟩:=qkS h0 h';refine .inr ⟨_,hM,hr,?_⟩;unfold ManV.ok;simp only [hdl,jab];exact hS
theorem q4J:qkV ⟨Tryz.prog,qgq,[qeI],[]⟩ 100000 Tryz.f52 = qwE:=by kernel_rfl
theorem q90 (hd:∀ c ∈ ([qeI]:List Ctr),c.ok Tryz.prog) (h:∀ Z:Env,Z.good->(qgq).pre Z->qwE.den ⟨Tryz.prog,qgq,[qeI],[]⟩ Z):(qgq).ok Tryz.prog :=
 qis Tryz.func52 (fun a w=>Tryz.call52 a w) hd 100000 (fun Z hg hp=>by rw [q4J]; exact h Z hg hp)
theorem q9h:qgq.ok Tryz.prog:=q90 (by simp [quj]) fun Z hg hp=>by
 obtain ⟨M,L,h⟩:=hp;simp (config:={ maxSteps:=4000000 }) [qwE,qgq,q2Q,qeI,gaB,qgw,-ql6];have h0:qbt (Z 9).h (Z 2).r (Z 3).d (Z 4).i (Z 6).i (Z 8).d M L:=h;obtain ⟨hn,hp,hb,hl,hc⟩:=h;intro u _;rcases hc with ⟨rfl,hr,c0,hd,hL⟩ | ⟨m,rfl,c1,hm,hL⟩
 ·have hd:(Z 3).d = []:=hd
  have hr:(Z 2).r = none:=hr;have z1:qa8 0:=by unfold qa8; omega
  have z2:qH (List.replicate 32 0):=fun x hx=>by rw [(jfp.1 hx).2]; omega
  have z3:qbJ []:=by simp [qbJ]
  rw [qjH];refine ⟨fun _ _=>⟨⟨z1,z2,z3⟩,fun M' L' h'=>⟨(qg2 h0 h').1,?_⟩⟩,fun hcon=>?_⟩
  ·simp [qf4,q49,qjH,dgs,-ql6]
  ·have:=hcon hd
   rw [hr] at this; cases this
 ·obtain ⟨e0,e1,e2,e3,e4,hO,hok,hlen,D,hR,hD,hdg,hDl⟩:=qmM hm
  obtain ⟨b0,b1,b2,b3⟩:=qlo hok;have hDt:(D.length:Int) <= 255:=by
   simp only [ManV.ok,qy,qam,jag,ja8] at hok;omega
  refine ⟨fun hd=>absurd hlen (by rw [show (Z 3).d = [] from hd]; decide),fun _=>⟨hlen,fun _ _=>⟨D,hR,fun _ _ _ _ _ _=>⟨by omega,fun _ _ _ _ u4 _ h4=>⟨?_,fun M' L' h'=>?_⟩⟩⟩⟩⟩
  ·rw [h4,e0,e1,e2,e3,e4]
   exact ⟨b0,b1,b2,b3,hO,rfl,by omega,hD⟩
  ·rw [(qg2 h0 h').1]
   simp [qf4,h4,e0,e1,e2,e3,e4,hdg,-ql6]
noncomputable abbrev gaC:Ctx:=⟨Tryz.prog,qaT,[qfO,qc9,qg1,qo3,qgd,qiv,qgq,qda,qc2,qo4,qge,qhJ,qkP,qiw,qkA,qiy,qix],[qw4,q4c,q3n,qvU,q30,q2W]⟩
theorem qkZ {Z Z':Env} (h:∀ n,n < 11->Z' n = Z n) (hp:qaT.pre Z):qaT.pre Z':=by
 change qH (qf (Z' 0).d 32)/\qlD Z'/\gOk Z' 7 8 gR/\gOk Z' 9 10 gS;have hp:qH (qf (Z 0).d 32)/\qlD Z/\gOk Z 7 8 gR/\gOk Z 9 10 gS:=hp;unfold qlD gOk at hp ⊢;simp only [h 0 (by decide),h 2 (by decide),h 4 (by decide),h 6 (by decide),h 7 (by decide),h 8 (by decide),h 9 (by decide),h 10 (by decide)] at hp ⊢;exact hp
set_option maxHeartbeats 4000000 in
theorem qFy:∀ Z:Env,qaT.pre Z->q4B.den gaC Z:=fun Z hp=>by
 have hp0:=hp;obtain ⟨hO,⟨hl,hb,hA⟩,⟨hGr,hGd⟩,hSr,hSd⟩:=hp;simp (config:={ maxSteps:=8000000 }) [q4B,gaC,qaT,qw4,q2W,ql3,qiE,rgB,qiy,qix,qgw,gaB,qf4,qdE,gOk,hGr,hGd,hSr,hSd];have ha:∀ x y:Int,0 <= x->x < y->y <= 17592186043904->qc .add .i64 x 1 = x + 1:=fun x y h0 h1 h2=>add64 (by omega) (by omega)
 intro e41 i0 i1 hbx hi hf hOb M L hg hr;refine ⟨hbx,fun hc=>⟨⟨⟨M,L,hg⟩,hf,hi⟩,?_⟩⟩;intro u _ u1 _ u2 _ u3 _ u4 _ u5 _ u6 _ hf' hp1 u7 _ hc2;refine ⟨⟨⟨M,L,hr⟩,hc2,hi⟩,?_⟩;intro v0 _ v1 _ v2 _ v3 _ v4 _ v5 _ hp2 w _;obtain ⟨e1,e2,e3⟩:=q3M (hp1 M L hg) (hp2 M L hr) hg.2.1 hr.2.1;obtain ⟨l1,l2⟩:=qtZ (hp1 M L hg);obtain ⟨l3,l4⟩:=qtZ (hp2 M L hr);rw [ha _ _ i0 i1 hb];refine ⟨e1,fun _=>⟨e2,fun _=>⟨l1,l2,l3,l4,by rw [e3],fun _ w1 _ hst=>⟨⟨by omega,by omega,hf',hOb,M,L,qeF hg ?_,hr⟩,by omega⟩⟩⟩⟩;have h:=qbI 224 20 hst (by simp);simpa using h
set_option maxHeartbeats 4000000 in
theorem qFp:∀ Z:Env,qaT.pre Z->q2V.den gaC Z:=fun Z hp=>by
 have hp0:=hp;obtain ⟨hO,⟨hl,hb,hA⟩,⟨hGr,hGd⟩,hSr,hSd⟩:=hp;simp (config:={ maxSteps:=8000000 }) [q2V,gaC,qaT,q30,q2W,ql3,qiE,rgB,qiw,qkA,qgw,gaB,qf4,qdE,gOk,hGr,hGd,hSr,hSd];intro e41 i0 i1 hbx hi hf hOb M L hg hr hc;refine ⟨⟨⟨M,L,hg⟩,hf⟩,?_⟩;intro u _ u1 _ u2 _ u3 _ u4 _ u5 _ u6 _ hf' hle hd1 hc2;refine ⟨⟨⟨M,L,hr⟩,hc2⟩,?_⟩;intro v0 _ v1 _ v2 _ v3 _ v4 _ v5 _ hd2;obtain ⟨e1,e2⟩:=q6x (hd1 M L hg) (hd2 M L hr) hg.2.1 hr.2.1;obtain ⟨l1,l2⟩:=qxv (hd1 M L hg);obtain ⟨l3,l4⟩:=qxv (hd2 M L hr);refine ⟨⟨e1,fun _=>⟨l1,l2,l3,l4,by rw [e2],fun _ w _ hst=>⟨⟨e41,i0,i1⟩,hbx,hi,hf',hOb,M,L,qeF hg ?_,hr⟩⟩⟩,?_⟩
 ·have h:=qbI 184 20 hst (by simp)
  simpa using h
 ·intros; exact qFy _ (qkZ (fun n hn=>by repeat rw [Env.set_ne _ _ (by omega)]) hp0)
set_option maxHeartbeats 4000000 in
theorem qFw:∀ Z:Env,qaT.pre Z->q3J.den gaC Z:=fun Z hp=>by
 have hp0:=hp;obtain ⟨hO,⟨hl,hb,hA⟩,⟨hGr,hGd⟩,hSr,hSd⟩:=hp;simp (config:={ maxSteps:=8000000 }) [q3J,gaC,qaT,qvU,q30,ql3,qiE,rgB,qgq,q2Q,qda,qc2,qo4,qge,qhJ,qkP,qbx,qcg,qgw,gaB,qf4,qdE,gOk,hGr,hGd,hSr,hSd];intro e41 i0 i1 e12 hbx hi hf hOb M L hg hr hc;refine ⟨⟨M,L,hg⟩,?_⟩;intro u0 _ u1 _ u2 _ u3 _ u4 _ u5 _ u6 _ u7 _ u8 _ u9 _ c0 c1 c2 c3 cO cL cb cD hman u10 _;have hman2:=hman M L hg;refine ⟨⟨e12,fun _=>⟨⟨M,L,hg⟩,?_⟩⟩,?_⟩
 ·intro r0 _ hrd hc2
  have hrdy:=hrd M L hg;obtain ⟨sn,ss⟩:=qBM hr;have h153:(Z 153).i = ((Z 155).d.length:Int):=hr.1;have h255:=hr.2.2.2.1;have hpl:=hr.2.1.1;refine ⟨by omega,?_⟩;intro r1 _ hr1;have e1:r0.b = r1.b:=by rw [hrdy,hr1,qgO hr,jeb]
  have hgt:u9.b = qJ .gtr (Z 153).i 0:=by
   rcases hman2 with ⟨hb9,hm⟩ | ⟨hb9,hm,_⟩
   ·rw [hb9]; exact (jcl (ss _ hm)).symm
   ·rw [hb9,sn hm]; rfl
  refine ⟨e1,fun _=>⟨by omega,hgt,fun _=>?_⟩⟩;have hr0:=hr;obtain ⟨_,hpcs,_,_,_,_,D,hRD,hDD,hcase⟩:=hr;refine ⟨D,.inr hRD,fun a0 _ a1 _ hv hvl hc3=>⟨⟨cL,by omega⟩,?_⟩⟩;intro s0 _ hsame;have hmm:(⟨u0.i,u1.i,u2.i,u3.i,qf u4.d 32,dgs u8.d⟩:ManV) = ⟨(Z 146).i,(Z 147).i,(Z 148).i,(Z 149).i,qf (Z 150).d 32,dgs D⟩:=by
   rcases hman2 with ⟨_,hm⟩ | ⟨_,hm,hz⟩ <;> rcases hcase with ⟨g1,_,gz⟩ | ⟨g1,_,_⟩
   ·rw [hm] at g1; cases g1
   ·exact jax (hm.symm.trans g1)
   ·rw [hz,gz]
   ·rw [hm] at g1; cases g1
  simp only [ManV.mk.injEq] at hmm;have hs:=hsame hmm.1 hmm.2.1 hmm.2.2.1 hmm.2.2.2.1 hmm.2.2.2.2.1 hmm.2.2.2.2.2;refine ⟨hs,fun _=>⟨⟨M,L,hg⟩,?_⟩⟩;intro a2 _ a3 _ a4 _ a5 _ hi1;refine ⟨⟨h153,by omega⟩,?_⟩;intro b0 _ b1 _ b2 _ b3 _ q1 q2 q3;have hidx:qt b3.d = L.map Prod.fst:=by rw [q2,h153,jal,q2t hpcs]
  obtain ⟨k1,k2,k3⟩:=hi1 M L hg;have la:=congrArg List.length k2;have lb:=congrArg List.length hidx;rw [qbh,ja7] at la lb;intro _ _;refine ⟨⟨⟨k1,by omega,k3⟩,q1,by omega,q3⟩,?_⟩;intro z _ hz;refine ⟨by rw [hz,k2,hidx]; exact jcl rfl,fun _ z1 _ hst=>⟨⟨e41,i0,i1⟩,hbx,hi,hf,hOb,M,L,qeF hg ?_,hr0⟩⟩;have h:=qbI 144 20 hst (by simp);simpa using h
 ·intros; exact qFp _ (qkZ (fun n hn=>by repeat rw [Env.set_ne _ _ (by omega)]) hp0)
set_option maxHeartbeats 4000000 in
theorem qFv:∀ Z:Env,qaT.pre Z->q48.den gaC Z:=fun Z hp=>by
 have hp0:=hp;obtain ⟨hO,⟨hl,hb,hA⟩,⟨hGr,hGd⟩,hSr,hSd⟩:=hp;simp (config:={ maxSteps:=8000000 }) [q48,gaC,qaT,q3n,qvU,ql3,qiE,rgB,qgw,gaB,qf4,qdE,gOk,hGr,hGd,hSr,hSd];intro e41 i0 i1 e12 hbx hi hf hOb M L hg hr j0 j1 jl j2000 hcap;have ha:qc .add .i64 (Z 168).i 1 = (Z 168).i + 1:=add64 (by omega) (by omega);simp only [ha];refine ⟨by omega,fun hlt=>⟨j0,by omega,⟨⟨e41,i0,i1⟩,e12,⟨hbx,hi,hf,hOb,M,L,hg,hr⟩,by omega,by omega,?_,j2000⟩,by omega⟩,fun hge u _ hst=>⟨⟨e41,i0,i1⟩,e12,hbx,hi,hf,hOb,M,L,qeF hg ?_,hr⟩⟩
 ·rw [qaU]; exact jl
 ·have h:=qbI 145 20 hst (by simp)
  simpa using h
set_option maxHeartbeats 4000000 in
theorem qFt:∀ Z:Env,qaT.pre Z->q5f.den gaC Z:=fun Z hp=>by
 have hp0:=hp;obtain ⟨hO,⟨hl,hb,hA⟩,⟨hGr,hGd⟩,hSr,hSd⟩:=hp;simp (config:={ maxSteps:=8000000 }) [q5f,gaC,qaT,q4c,q3n,qvU,ql3,qiE,rgB,qgw,gaB,qf4,qdE,gOk,hGr,hGd,hSr,hSd];intro e41 i0 i1 e12 hbx hi hf hOb M L hg hr p0 p1 p2000 j0 j1 jl j60 hcap;have ha:qc .add .i64 (Z 121).i 1 = (Z 121).i + 1:=add64 (by omega) (by omega);simp only [ha];refine ⟨by omega,fun hlt=>⟨j0,by omega,⟨⟨e41,i0,i1⟩,e12,⟨hbx,hi,hf,hOb,M,L,hg,hr⟩,⟨p0,p1,p2000⟩,by omega,by omega,?_,j60⟩,by omega⟩,fun hge=>⟨fun u _ hst=>⟨⟨⟨e41,i0,i1⟩,e12,⟨hbx,hi,hf,hOb,M,L,qeF hg ?_,hr⟩,p0,p1,p2000⟩,?_⟩,?_⟩⟩
 ·rw [qaU]; exact jl
 ·have h:=qbI 98 20 hst (by simp)
  simpa using h
 ·intros; exact qFv _ (qkZ (fun n hn=>by repeat rw [Env.set_ne _ _ (by omega)]) hp0)
 ·intros; exact qFw _ (qkZ (fun n hn=>by repeat rw [Env.set_ne _ _ (by omega)]) hp0)
set_option maxHeartbeats 4000000 in
theorem qFn:∀ Z:Env,qaT.pre Z->q4W.den gaC Z:=fun Z hp=>by
 have hp0:=hp;obtain ⟨hO,⟨hl,hb,hA⟩,⟨hGr,hGd⟩,hSr,hSd⟩:=hp;simp (config:={ maxSteps:=8000000 }) [q4W,gaC,qaT,qw4,q4c,ql3,qiE,rgB,q35,qo3,qgd,qw5,qiv,qcI,qgw,gaB,qf4,ql6,qdE,qfO,gOk,hGr,hGd,hSr,hSd];intro i0 i1 hf hOb M L hg hr hlt;obtain ⟨b0,b1,b2,b3,hOo,⟨D,hD1,hD2⟩,b37,⟨B,hB1,hB2⟩,b39⟩:=hA (Z 41).i i0 hlt;refine ⟨i0,by omega,fun u _=>⟨D,.inr hD1,fun _ _ _ _ _ _ d60=>⟨B,.inr hB1,fun _ _ _ _ _ _ b2000=>⟨D,.inr hD1,fun _ _ _ _ _ _=>⟨B,.inr hB1,fun _ _ _ _ hvb hvl=>?_⟩⟩⟩⟩⟩;refine ⟨⟨by omega,by omega⟩,?_⟩;intro u1 _ u2 _ u3 _ u4 _ u5 _ u6 _ h5 h6;subst h5 h6;intro u7 _ u8 _ hc1 hc2 hc3;refine ⟨⟨⟨M,L,hg⟩,by rw [hOb]; exact hO,⟨b0,b1,b2,b3,hOo,rfl,by omega,hD2⟩,b37,⟨rfl,hc3,by omega,hB2⟩,by omega⟩,?_⟩;intro w1 _ w2 _ w3 _ w4 _ w5 _ w6 _ w7 _ w8 _ w9 _ hoff hc4;refine ⟨⟨⟨M,L,hr⟩,hO,⟨b0,b1,b2,b3⟩,hOo,⟨_,hD1,hD2,by omega⟩,b37,_,hB1,hB2,by omega⟩,?_⟩;intro v1 _ v2 _ v3 _ v4 _ v5 _ v6 _ v7 _ v8 _ v9 _ v10 _ v11 _ v12 _ hro v13 _ v14 _ hst;obtain ⟨o1,o2⟩:=hoff M L hg;obtain ⟨p1,p2⟩:=hro M L hr _ _ hD1 hB1;have he:w9.i = v1.i:=by rw [o1,p1,hOb]
 rw [<- he] at p2;have hle:=qbI 70 20 hst (by simp);simp at hle;clear hst hro hoff
 repeat' (first | with_reducible apply And.intro | with_reducible intro _)
 all_goals first
  | assumption
  | omega
  | rfl
  | exact ⟨_,_,qeF o2 hle,p2⟩
  | exact b39
  | exact Nat.one_pos
  | exact qFt _ (qkZ (fun n hn=>by repeat rw [Env.set_ne _ _ (by omega)]) hp0)
set_option maxHeartbeats 4000000 in
theorem q9b:qaT.ok Tryz.prog:=q9g (by simp [q7C,qpv,qyl,qCp,qxy,q6k,q9h,qme,qjG,qBR,qsW,qvQ,q8s,q9z,qAg,q6W,q6J]) fun Z hg hp=>by
 have hp0:=hp;obtain ⟨hO,⟨hl,hb,hA⟩,⟨hGr,hGd⟩,hSr,hSd⟩:=hp;simp (config:={ maxSteps:=8000000 }) [q0A,qaT,qw4,ql3,rgB,qfO,qc9,qg1,gaB,qdE,gOk,hGr,hGd,hSr,hSd];intro u _;refine ⟨by omega,fun h20=>?_⟩;intro u1 _ u2 _ hf0 u3 _ u4 _ u5 _ hst;refine ⟨⟨by omega,.inl hf0,none,[],⟨rfl,⟨rfl,fun j hj=>absurd hj (jea j),fun j hj=>absurd hj (jea j)⟩,fun x hx=>(by cases hx),by decide,.inl ⟨rfl,rfl,rfl,rfl,rfl⟩⟩,rfl,⟨rfl,fun j hj=>absurd hj (jea j),fun j hj=>absurd hj (jea j)⟩,fun x hx=>(by cases hx),by decide,by unfold qa8; omega,?_,[],.inl ⟨none,rfl,rfl⟩,by simp [qbJ],.inl ⟨rfl,rfl,by rw [qjH]; rfl⟩⟩,?_⟩
 ·rw [qjH]; exact fun x hx=>by rw [(jfp.1 hx).2]; omega
 ·intros; exact qFn _ (qkZ (fun n hn=>by repeat rw [Env.set_ne _ _ (by omega)]) hp0)
end Go.Proofs
