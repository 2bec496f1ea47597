/- Texts VD, VE, VF, VI, VJ. -/
import Derived.Test.YtlmkkphojjodhaaG6
import Derived.Test.YtlmkkphojjodhaaProg
import Derived.Test.YtlmkkphojjodhaaG1
import Derived.Test.YtlmkkphojjodhaaG5
set_option linter.unusedSimpArgs false
set_option linter.unusedVariables false
set_option maxRecDepth 100000
namespace Go.Proofs
open Go Go.Eng
@[simp] def qqi:Out:=.ret 0 (sg 13 [bg 15 31,bt 14 (.vslice 29 (tl 0) (.dlen (tv 28)) (tv 30) 1),bt 13 (.vslice 23 (tl 0) (.dlen (tv 22)) (tv 24) 2)])
def qwl:Out:=(fr 13 3 (tb (.viewL (tv 1) [CK.int .u64,CK.int .u8] [12] 16 (tn (tl 0) (tv 9) (ts (tv 9) (.dlen (tv 18)) (.br (.and (.cmp .eql (.icell (tv 18) (tv 9) 0) (tv 10)) (.cmp .eql (.icell (tv 18) (tv 9) 1) (tv 11)))
 (.pack [.cells 15 102 [(ti (tv 0)),(tv 1),(.vint .u64 (tv 2)),(.vint .u64 (tv 3)),(ti (tv 4)),(tv 5),(tv 6),(.vint .u64 (tv 7)),(.vbool (tv 8)),(.vbool (.bl false))],.cells 14 25 [(.vint .u64 (tv 10)),(tu (tv 11))],.cells 13 102 [(ti (tv 0)),(tv 1),(.vint .u64 (tv 2)),(.vint .u64 (tv 3)),(ti (tv 4)),(tv 5),(tv 6),(.vint .u64 (tv 7)),(.vbool (tv 8)),(.vbool (.bl false))],.abs 12 4] 19 (.ret 0 (sg 13 [bg 15 19,bv 14 5,bv 13 1])))
 (.fresh 19 (.viewL (tv 1) [CK.int .u64,CK.int .u8] [12] 20 (tn (.tims (tl 16) (.dlen (tv 22))) (tl 140737488355328) (fr 23 3 (.viewL (tv 5) [CK.int .u64] [12] 26 (tn (.tims (tl 8) (.dlen (tv 28))) (tl 140737488355328) (fr 29 2 (ts (tv 9) (.dlen (tv 22)) (.br (.cmp .eql (tv 11) (tl 2))
 (ts (tv 9) (.dlen (tv 28)) (.pack [.arr 29 22 [CK.int .u64] (.dput (tv 28) (tv 9) 0 (.rcons (.vint .u64 (tv 2)) .rnil)) (tv 30),.arr 23 25 [CK.int .u64,CK.int .u8] (.dput (tv 22) (tv 9) 0 (.rcons (.vint .u64 (tv 10)) (.rcons (tu (tv 11)) .rnil))) (tv 24),.cells 15 102 [(ti (tv 0)),(.vslice 23 (tl 0) (.dlen (tv 22)) (tv 24) 2),(.vint .u64 (tv 2)),(.vint .u64 (tv 3)),(ti (tv 4)),(.vslice 29 (tl 0) (.dlen (tv 28)) (tv 30) 1),(tv 6),(.vint .u64 (tv 7)),(.vbool (tv 8)),(.vbool (.bl false))],.cells 14 25 [(.vint .u64 (tv 10)),(tu (tv 11))],.cells 13 102 [(ti (tv 0)),(.vslice 23 (tl 0) (.dlen (tv 22)) (tv 24) 2),(.vint .u64 (tv 2)),(.vint .u64 (tv 3)),(ti (tv 4)),(.vslice 29 (tl 0) (.dlen (tv 28)) (tv 30) 1),(tv 6),(.vint .u64 (tv 7)),(.vbool (tv 8)),(.vbool (.bl false))],.abs 12 4] 31 qqi))
 (.pack [.arr 29 22 [CK.int .u64] (tv 28) (tv 30),.arr 23 25 [CK.int .u64,CK.int .u8] (.dput (tv 22) (tv 9) 0 (.rcons (.vint .u64 (tv 10)) (.rcons (tu (tv 11)) .rnil))) (tv 24),.cells 15 102 [(ti (tv 0)),(.vslice 23 (tl 0) (.dlen (tv 22)) (tv 24) 2),(.vint .u64 (tv 2)),(.vint .u64 (tv 3)),(ti (tv 4)),(.vslice 29 (tl 0) (.dlen (tv 28)) (tv 30) 1),(tv 6),(.vint .u64 (tv 7)),(.vbool (tv 8)),(.vbool (.bl false))],.cells 14 25 [(.vint .u64 (tv 10)),(tu (tv 11))],.cells 13 102 [(ti (tv 0)),(.vslice 23 (tl 0) (.dlen (tv 22)) (tv 24) 2),(.vint .u64 (tv 2)),(.vint .u64 (tv 3)),(ti (tv 4)),(.vslice 29 (tl 0) (.dlen (tv 28)) (tv 30) 1),(tv 6),(.vint .u64 (tv 7)),(.vbool (tv 8)),(.vbool (.bl false))],.abs 12 4] 31 qqi))))))))))))))))
theorem qzb:ql Try.prog qgS [] [] qwl:=qe Try.func75 Try.call75 (by kernel_rfl)
def qqz:Out:=(fr 15 2 (.inv 0 17 (sg 1000 [bg 1006 12,bt 1004 .dnil,bt 1005 (tl 0),bt 1003 (tl 0),bt 1002 (tl 0),bg 1001 16,bg 1000 15]) (fr 17 7 (.hyp 0 17 (tn (tl 0) (tv 10) (.br (.cmp .lss (tv 22) (tv 10))
 (tn (tl 0) (tv 22) (ts (tv 22) (.dlen (tv 13)) (fr 24 2 (.viewL (tv 1) [CK.int .u64,CK.int .u8] [23] 26 (tn (.tims (tl 16) (.dlen (tv 28))) (tl 140737488355328) (fr 29 3 (.need (.cmp .eql (tv 19) (.dlen (tv 21))) (tn (.tims (tl 352) (.plus (tv 19) (tl 1))) (tl 140737488355328) (fr 32 2 (.pack [.cells 31 43 ([(tu (.icell (tv 13) (tv 22) 0)),(ti (tv 0)),(ti (.icell (tv 13) (tv 22) 2)),(.vint .u64 (.icell (tv 13) (tv 22) 3)),(ti (.icell (tv 13) (tv 22) 4)),(ti (.icell (tv 13) (tv 22) 5)),(.vslice 29 (tl 0) (.dlen (tv 28)) (tv 30) 2)] ++ qa6 (tv 13) (tv 22) 7 116),.arr 29 25 [CK.int .u64,CK.int .u8] (tv 28) (tv 30),.cells 24 43 ([(tu (.icell (tv 13) (tv 22) 0)),(ti (tv 0)),(ti (.icell (tv 13) (tv 22) 2)),(.vint .u64 (.icell (tv 13) (tv 22) 3)),(ti (.icell (tv 13) (tv 22) 4)),(ti (.icell (tv 13) (tv 22) 5)),(.vslice 29 (tl 0) (.dlen (tv 28)) (tv 30) 2)] ++ qa6 (tv 13) (tv 22) 7 116),.abs 23 4] 34 (.back 0 17 (sg 1000 [bg 1006 34,bt 1004 (.dapp (tv 21) (.rcons (tu (.icell (tv 13) (tv 22) 0)) (.rcons (ti (tv 0)) (.rcons (ti (.icell (tv 13) (tv 22) 2)) (.rcons (.vint .u64 (.icell (tv 13) (tv 22) 3)) (.rcons (ti (.icell (tv 13) (tv 22) 4)) (.rcons (ti (.icell (tv 13) (tv 22) 5)) (.rcons (.vslice 29 (tl 0) (.dlen (tv 28)) (tv 30) 2) (rcs (qa6 (tv 13) (tv 22) 7 116) .rnil))))))))),bt 1005 (.arith .add .i64 (tv 22) (tl 1)),bv 1003 33,bt 1002 (.plus (tv 19) (tl 1)),bg 1001 32,bg 1000 17]))))))))))))
 (.pack [.cells 17 102 [(ti (tv 0)),(tv 1),(.vint .u64 (tv 2)),(.vint .u64 (tv 3)),(ti (tv 4)),(tv 5),(tv 6),(.vint .u64 (tv 7)),(.vbool (tv 8)),(.vbool (.bl false))],.abs 23 4] 24 (.ret 0 (sg 15 [bg 19 24,bv 18 21,bv 17 20,bv 16 19,bg 15 18])))))))))
theorem qvQ:ql Try.prog qdz [] [qst] qqz:=qe Try.func77 Try.call77 (by kernel_rfl)
@[simp] def qgZ:T:=.arith .rem .i64 (.arith .add .i64 (.conv .i64 (.arith .rem .u64 (tv 13) (.conv .u64 (tv 40)))) (tv 47)) (tv 40)
@[simp] def qoN:Out:=.back 0 25 (sg 1000 [bv 1009 34,bv 1005 30,bt 1010 (.arith .add .i64 (tv 35) (tl 1)),bv 1008 33,bv 1007 32,bg 1006 31,bv 1004 29,bv 1003 28,bg 1002 27,bg 1001 26,bg 1000 25])
def qtf:Out:=(fr 15 3 (.viewL (tv 1) [CK.int .u64,CK.int .u8] [14] 18 (.pre 0 (sg 0 [bv 4 19,bv 3 20,bv 2 19,bt 1 (.dlen (tv 20)),bg 0 18]) (tb (fr 21 4 (.post 0 0 (sg 0 [bv 4 19,bv 3 20,bv 2 19,bt 1 (.dlen (tv 20)),bg 0 18]) 21 (.inv 0 25 (sg 1000 [bv 1009 23,bt 1005 .dnil,bt 1010 (tl 0),bv 1008 22,bv 1007 24,bg 1006 21,bt 1004 (tl 0),bt 1003 (tl 0),bg 1002 17,bg 1001 16,bg 1000 15]) (fr 25 11 (.hyp 0 25 (tn (tl 0) (tv 32) (.br (.cmp .lss (tv 35) (tv 32))
 (tn (tl 0) (tv 35) (ts (tv 35) (.dlen (tv 34)) (.br (.cmp .neq (.icell (tv 34) (tv 35) 0) (tv 0))
 (.br (.cmp .neq (.icell (tv 34) (tv 35) 0) (tv 10))
 (.fresh 36 (.need (.cmp .eql (tv 28) (.dlen (tv 30))) (tn (.tims (tl 8) (.plus (tv 28) (tl 1))) (tl 140737488355328) (fr 37 2 (.back 0 25 (sg 1000 [bv 1009 34,bt 1005 (.dapp (tv 30) (.rcons (ti (.icell (tv 34) (tv 35) 0)) .rnil)),bt 1010 (.arith .add .i64 (tv 35) (tl 1)),bv 1008 33,bv 1007 32,bg 1006 31,bv 1004 38,bt 1003 (.plus (tv 28) (tl 1)),bg 1002 37,bg 1001 26,bg 1000 25]))))))
 qoN)
 qoN)))
 (.fresh 36 (.inv 1 37 (sg 1000 [bt 1009 .dnil,bv 1005 30,bt 1010 (tl 0),bt 1008 (tl 0),bt 1007 (tl 0),bg 1006 36,bv 1004 29,bv 1003 28,bg 1002 27,bg 1001 26,bg 1000 25]) (fr 37 11 (.hyp 1 37 (.br (.cmp .lss (tv 47) (tl 2))
 (tn (tl 0) (tv 40) (.br (.cmp .lss (tv 47) (tv 40))
 (.need (.cmp .neq (.conv .u64 (tv 40)) (tl 0)) (.need (.cmp .neq (tv 40) (tl 0)) (tn (tl 0) qgZ (ts qgZ (tv 40) (ts qgZ (.dlen (tv 42)) (.fresh 48 (.need (.cmp .eql (tv 44) (.dlen (tv 46))) (tn (.tims (tl 352) (.plus (tv 44) (tl 1))) (tl 140737488355328) (fr 49 2 (.back 1 37 (sg 1000 [bt 1009 (.dapp (tv 46) (.rcons (tu (tl 3)) (.rcons (ti (tl 0)) (.rcons (ti (.icell (tv 42) qgZ 0)) (.rcons (.vint .u64 (tv 9)) (.rcons (ti (tl 0)) (.rcons (ti (tv 10)) (.rcons .vnils (.rcons .vnils (.rcons .vnils (.rcons (ti (tl 0)) (rr 32 (tu (tl 0)) (.rcons .vnils (.rcons (.vbool (.bl false)) (rr 32 (tu (tl 0)) (rr 4 (ti (tl 0)) (rr 32 (tu (tl 0)) (.rcons .vnils (.rcons (ti (tl 0)) (.rcons .vnils (.rcons (ti (tl 0)) .rnil))))))))))))))))))))),bv 1005 42,bt 1010 (.arith .add .i64 (tv 47) (tl 1)),bv 1008 50,bt 1007 (.plus (tv 44) (tl 1)),bg 1006 49,bv 1004 41,bv 1003 40,bg 1002 39,bg 1001 38,bg 1000 37])))))))))))
 (.ret 0 (sg 15 [bv 18 46,bv 17 45,bv 16 44,bg 15 43]))))
 (.ret 0 (sg 15 [bv 18 46,bv 17 45,bv 16 44,bg 15 43]))))))))))))))))))
theorem qxV:ql Try.prog qjp [qbe] [qvF,qv0] qtf:=qe Try.func76 Try.call76 (by kernel_rfl)
@[simp] def qi4:T:=.arith .add .i64 (.arith .rem .i64 (.arith .add .i64 (tv 4) (tl 1)) (.dlen (tv 53))) (tl 1)
@[simp] def qm7:Sg:=sg 0 [bg 12 46,bt 11 (tl 3),bt 10 (.icell (tv 63) (tv 42) 0),bv 9 42,bv 8 8,bv 7 7,bv 6 6,bv 5 44,bv 4 4,bv 3 3,bv 2 45,bv 1 43,bv 0 0]
@[simp] def qfX:Sg:=sg 1000 [bg 1013 46,bv 1008 41,bv 1004 37,bv 1011 44,bv 1012 45,bv 1010 43,bt 1009 (.arith .add .i64 (tv 42) (tl 1)),bv 1007 40,bv 1006 39,bg 1005 38,bv 1003 36,bv 1002 35,bg 1001 34,bg 1000 33,bg 1014 47]
@[simp] def qif:Out:=.viewL (tv 43) [CK.int .u64,CK.int .u8] [46] 61 (ts (tv 42) (.dlen (tv 63)) (tb (.pre 0 qm7 (tb (fr 64 3 (.post 0 0 qm7 64 (tb (.back 1 33 (sg 1000 [bg 1013 66,bv 1008 41,bv 1004 37,bv 1011 65,bv 1012 45,bv 1010 64,bt 1009 (.arith .add .i64 (tv 42) (tl 1)),bv 1007 40,bv 1006 39,bg 1005 38,bv 1003 36,bv 1002 35,bg 1001 34,bg 1000 33,bg 1014 47])))))))))
@[simp] def qir:T:=.rcons (ti (tv 0)) (.rcons (ti (tl 0)) (.rcons .vnils (.rcons .vnils (.rcons .vnils (.rcons (ti (tl 0)) (rr 32 (tu (tl 0)) (.rcons .vnils (.rcons (.vbool (.bl false)) (rr 32 (tu (tl 0)) (rr 4 (ti (tl 0)) (rr 32 (tu (tl 0)) (.rcons .vnils (.rcons (ti (tl 0)) (.rcons .vnils (.rcons (ti (tl 0)) .rnil)))))))))))))))
@[simp] def qci:T:=.arith .rem .i64 (.arith .add .i64 (tv 4) (tl 1)) (.dlen (tv 53))
@[simp] def qcG:T:=.arith .rem .i64 qi4 (.dlen (tv 56))
@[simp] def qmZ:Sg:=sg 0 [bg 12 28,bt 11 (tl 2),bt 10 (.icell (tv 42) (.icell (tv 35) (tv 24) 1) 0),bt 9 (.icell (tv 35) (tv 24) 1),bv 8 8,bv 7 7,bv 6 6,bv 5 26,bv 4 4,bv 3 3,bv 2 27,bv 1 25,bv 0 0]
@[simp] def qmG:Sg:=sg 0 [bg 14 28,bv 13 9,bt 12 (.bl true),bt 11 (.icell (tv 35) (tv 24) 2),bt 10 (.icell (tv 35) (tv 24) 1),bt 9 (.icell (tv 35) (tv 24) 0),bv 8 8,bv 7 7,bv 6 6,bv 5 26,bv 4 4,bv 3 3,bv 2 27,bv 1 25,bv 0 0]
@[simp] def qnS:Out:=.back 1 33 qfX
@[simp] def qoE:Out:=.both (.back 1 33 qfX) .top
@[simp] def qoM:Out:=.both qif .top
@[simp] def qoa:Out:=.fresh 37 (.need (.cmp .eql (tv 21) (.dlen (tv 23))) (tn (.tims (tl 32) (.plus (tv 21) (tl 1))) (tl 140737488355328) (fr 38 2 (.pack [.cells 37 63 [(.vint .u64 (.icell (tv 35) (tv 24) 0)),(ti (.icell (tv 35) (tv 24) 1)),(.vint .u64 (.icell (tv 35) (tv 24) 2)),(.vbool (.bcell (tv 35) (tv 24) 3))],.cells 36 63 [(.vint .u64 (.icell (tv 35) (tv 24) 0)),(ti (.icell (tv 35) (tv 24) 1)),(.vint .u64 (.icell (tv 35) (tv 24) 2)),(.vbool (.bcell (tv 35) (tv 24) 3))],.abs 28 4] 40 (.back 0 15 (sg 1000 [bg 1013 40,bt 1008 (.dapp (tv 23) (.rcons (.vint .u64 (.icell (tv 35) (tv 24) 0)) (.rcons (ti (.icell (tv 35) (tv 24) 1)) (.rcons (.vint .u64 (.icell (tv 35) (tv 24) 2)) (.rcons (.vbool (.bcell (tv 35) (tv 24) 3)) .rnil))))),bv 1004 19,bv 1011 26,bv 1012 27,bv 1010 25,bt 1009 (.arith .add .i64 (tv 24) (tl 1)),bv 1007 39,bt 1006 (.plus (tv 21) (tl 1)),bg 1005 38,bv 1003 18,bv 1002 17,bg 1001 16,bg 1000 15,bg 1014 29]))))))
@[simp] def qoI:Out:=.br (.cmp .geq (.arith .sub .u64 (tv 45) (.icell (tv 59) (tv 42) 0)) (.conv .u64 (tv 60)))
 (tb qif)
 (.back 1 33 qfX)
@[simp] def qo8:Out:=.both (.pre 2 (sg 0 [bt 0 (.dlen (tv 59))]) (tb (.fresh 60 (.post 2 0 (sg 0 [bt 0 (.dlen (tv 59))]) 60 (.br (.cmp .geq (.arith .sub .u64 (tv 45) (.icell (tv 56) (tv 42) 0)) (.conv .u64 (tv 60)))
 (tb qif)
 (.back 1 33 qfX)))))) .top
@[simp] def qoC:T:=.rcons (.vint .u64 (.arith .add .u64 (tv 3) (tl 1))) qir
@[simp] def qo4:Sg:=sg 0 [bv 14 59,bt 13 (.dapp (tv 37) (.rcons (tu (tl 1)) (.rcons (ti (tl 0)) (.rcons (ti (.arith .rem .i64 (.arith .add .i64 (tv 4) (tl 1)) (.dlen (tv 53)))) (.rcons (.vint .u64 (.arith .add .u64 (tv 3) (tl 1))) qir))))),bg 12 46,bv 11 59,bt 10 (.plus (tv 35) (tl 1)),bg 9 58,bv 8 8,bv 7 7,bt 6 (.vslice 55 (tl 0) (.plus (tv 39) (tl 1)) (tv 56) 4),bv 5 44,bt 4 (.arith .rem .i64 (.arith .add .i64 (tv 4) (tl 1)) (.dlen (tv 53))),bt 3 (.arith .add .u64 (tv 3) (tl 1)),bv 2 45,bv 1 43,bv 0 0]
@[simp] def qoL:Sg:=sg 0 [bv 14 62,bt 13 (.dapp (tv 37) (.rcons (tu (tl 1)) (.rcons (ti (tl 0)) (.rcons (ti (.arith .rem .i64 qi4 (.dlen (tv 56)))) (.rcons (.vint .u64 (.arith .add .u64 (tv 3) (tl 1))) qir))))),bg 12 46,bv 11 62,bt 10 (.plus (tv 35) (tl 1)),bg 9 61,bv 8 8,bv 7 7,bt 6 (.vslice 58 (tl 0) (.plus (tv 39) (tl 1)) (tv 59) 4),bv 5 44,bt 4 (.arith .rem .i64 qi4 (.dlen (tv 56))),bt 3 (.arith .add .u64 (tv 3) (tl 1)),bv 2 45,bv 1 43,bv 0 0]
def qsW:Out:=(fr 11 2 (.br (tv 8)
 (.pack [.cells 12 102 [(ti (tv 0)),(tv 1),(.vint .u64 (tv 2)),(.vint .u64 (tv 3)),(ti (tv 4)),(tv 5),(tv 6),(.vint .u64 (tv 7)),(.vbool (tv 8)),(.vbool (.bl false))],.cells 11 102 [(ti (tv 0)),(tv 1),(.vint .u64 (tv 2)),(.vint .u64 (tv 3)),(ti (tv 4)),(tv 5),(tv 6),(.vint .u64 (tv 7)),(.vbool (tv 8)),(.vbool (.bl false))],.abs 10 4] 13 (.ret 0 (sg 11 [bg 21 13,bt 20 .dnil,bt 19 (tl 0),bt 18 (tl 0),(17,.nil),bv 16 6,bv 15 5,bv 14 4,bv 13 3,bv 12 2,bv 11 1])))
 (fr 13 2 (.inv 0 15 (sg 1000 [bg 1013 10,bt 1008 .dnil,bt 1004 .dnil,bv 1011 5,bt 1012 (.arith .add .u64 (tv 2) (tl 1)),bv 1010 1,bt 1009 (tl 0),bt 1007 (tl 0),bt 1006 (tl 0),bg 1005 14,bt 1003 (tl 0),bt 1002 (tl 0),bg 1001 13,bg 1000 11,bg 1014 12]) (fr 15 15 (.hyp 0 15 (.viewL (tv 6) [CK.int .u64,CK.int .i64,CK.int .u64,CK.bool] [28] 30 (.br (.cmp .lss (tv 24) (.dlen (tv 32)))
 (.viewL (tv 6) [CK.int .u64,CK.int .i64,CK.int .u64,CK.bool] [28] 33 (tn (tl 0) (tv 24) (ts (tv 24) (.dlen (tv 35)) (.fresh 36 (.br (.cmp .geq (.arith .sub .u64 (tv 27) (.icell (tv 35) (tv 24) 2)) (tl 10))
 (.viewL (tv 25) [CK.int .u64,CK.int .u8] [28] 37 (tn (tl 0) (.icell (tv 35) (tv 24) 1) (ts (.icell (tv 35) (tv 24) 1) (.dlen (tv 39)) (.br (.cmp .eql (.icell (tv 39) (.icell (tv 35) (tv 24) 1) 1) (tl 1))
 (tb (.viewL (tv 25) [CK.int .u64,CK.int .u8] [28] 40 (ts (.icell (tv 35) (tv 24) 1) (.dlen (tv 42)) (tb (.pre 0 qmZ (tb (fr 43 3 (.post 0 0 qmZ 43 (tb (.pack [.abs 45 4,.cells 36 63 [(.vint .u64 (.icell (tv 35) (tv 24) 0)),(ti (.icell (tv 35) (tv 24) 1)),(.vint .u64 (.icell (tv 35) (tv 24) 2)),(.vbool (.bcell (tv 35) (tv 24) 3))]] 46 (.back 0 15 (sg 1000 [bg 1013 46,bv 1008 23,bv 1004 19,bv 1011 44,bv 1012 27,bv 1010 43,bt 1009 (.arith .add .i64 (tv 24) (tl 1)),bv 1007 22,bv 1006 21,bg 1005 20,bv 1003 18,bv 1002 17,bg 1001 16,bg 1000 15,bg 1014 29]))))))))))))
 (.pack [.cells 36 63 [(.vint .u64 (.icell (tv 35) (tv 24) 0)),(ti (.icell (tv 35) (tv 24) 1)),(.vint .u64 (.icell (tv 35) (tv 24) 2)),(.vbool (.bcell (tv 35) (tv 24) 3))],.abs 28 4] 40 (.back 0 15 (sg 1000 [bg 1013 40,bv 1008 23,bv 1004 19,bv 1011 26,bv 1012 27,bv 1010 25,bt 1009 (.arith .add .i64 (tv 24) (tl 1)),bv 1007 22,bv 1006 21,bg 1005 20,bv 1003 18,bv 1002 17,bg 1001 16,bg 1000 15,bg 1014 29])))))))
 (.br (.cmp .geq (.arith .sub .u64 (tv 27) (.icell (tv 35) (tv 24) 2)) (tl 4))
 (.br (.not (.bcell (tv 35) (tv 24) 3))
 (.pre 1 qmG (tb (fr 37 4 (.post 1 0 qmG 37 (.need (.cmp .eql (tv 17) (.dlen (tv 19))) (tn (tl 0) (tv 38) (tn (tv 38) (.dlen (tv 40)) (tn (.tims (tl 352) (.plus (tv 17) (tv 38))) (tl 140737488355328) (fr 41 3 (.need (.cmp .eql (tv 21) (.dlen (tv 23))) (tn (.tims (tl 32) (.plus (tv 21) (tl 1))) (tl 140737488355328) (fr 44 2 (.pack [.cells 43 63 [(.vint .u64 (.icell (tv 35) (tv 24) 0)),(ti (.icell (tv 35) (tv 24) 1)),(.vint .u64 (.icell (tv 35) (tv 24) 2)),(.vbool (.bl true))],.arr 37 43 qb0 (tv 40) (tv 39),.cells 36 63 [(.vint .u64 (.icell (tv 35) (tv 24) 0)),(ti (.icell (tv 35) (tv 24) 1)),(.vint .u64 (.icell (tv 35) (tv 24) 2)),(.vbool (.bl true))],.abs 28 4] 46 (.back 0 15 (sg 1000 [bg 1013 46,bt 1008 (.dapp (tv 23) (.rcons (.vint .u64 (.icell (tv 35) (tv 24) 0)) (.rcons (ti (.icell (tv 35) (tv 24) 1)) (.rcons (.vint .u64 (.icell (tv 35) (tv 24) 2)) (.rcons (.vbool (.bl true)) .rnil))))),bt 1004 (.dapp (tv 19) (.dtake (tv 40) (tv 38))),bv 1011 26,bv 1012 27,bv 1010 25,bt 1009 (.arith .add .i64 (tv 24) (tl 1)),bv 1007 45,bt 1006 (.plus (tv 21) (tl 1)),bg 1005 44,bv 1003 42,bt 1002 (.plus (tv 17) (tv 38)),bg 1001 41,bg 1000 15,bg 1014 29])))))))))))))))
 qoa)
 qoa))))))
 (.inv 1 33 (sg 1000 [bg 1013 28,bv 1008 23,bv 1004 19,bv 1011 26,bv 1012 27,bv 1010 25,bt 1009 (tl 0),bv 1007 22,bv 1006 21,bg 1005 20,bv 1003 18,bv 1002 17,bg 1001 16,bg 1000 15,bg 1014 29]) (fr 33 15 (.hyp 1 33 (.viewL (tv 43) [CK.int .u64,CK.int .u8] [46] 48 (.br (.cmp .lss (tv 42) (.dlen (tv 50)))
 (.br (.cmp .neq (tv 42) (tv 0))
 (tb (.viewL (tv 43) [CK.int .u64,CK.int .u8] [46] 51 (tn (tl 0) (tv 42) (ts (tv 42) (.dlen (tv 53)) (ts (tl 0) (.dlen (tv 53)) (tb (.br (.cmp .eql (.icell (tv 53) (tv 42) 1) (tl 2))
 (.both (.viewL (tv 44) [CK.int .u64] [46] 54 (ts (tv 42) (.dlen (tv 56)) (.both (tb (.viewL (tv 43) [CK.int .u64,CK.int .u8] [46] 57 qo8)) (tb (.viewL (tv 43) [CK.int .u64,CK.int .u8] [46] 57 (.both qo8 (tb (.pre 2 (sg 0 [bt 0 (.dlen (tv 59))]) (tb (.fresh 60 (.post 2 0 (sg 0 [bt 0 (.dlen (tv 59))]) 60 (tb (.br (.cmp .geq (.arith .sub .u64 (tv 45) (.icell (tv 56) (tv 42) 0)) (.conv .u64 (tv 60)))
 qoM
 qnS))))))))))))) (tb (.viewL (tv 43) [CK.int .u64,CK.int .u8] [46] 54 (.both (.viewL (tv 44) [CK.int .u64] [46] 57 (ts (tv 42) (.dlen (tv 59)) (.both (tb (.pre 2 (sg 0 [bt 0 (.dlen (tv 56))]) (tb (.fresh 60 (.post 2 0 (sg 0 [bt 0 (.dlen (tv 56))]) 60 qoI))))) (tb (.pre 2 (sg 0 [bt 0 (.dlen (tv 56))]) (tb (.fresh 60 (.post 2 0 (sg 0 [bt 0 (.dlen (tv 56))]) 60 (tb qoI))))))))) (tb (.pre 2 (sg 0 [bt 0 (.dlen (tv 56))]) (tb (.fresh 57 (.post 2 0 (sg 0 [bt 0 (.dlen (tv 56))]) 57 (tb (.viewL (tv 44) [CK.int .u64] [46] 58 (ts (tv 42) (.dlen (tv 60)) (tb (.br (.cmp .geq (.arith .sub .u64 (tv 45) (.icell (tv 60) (tv 42) 0)) (.conv .u64 (tv 57)))
 qoM
 qnS))))))))))))))
 qoE)))))))
 qoE)
 (.viewL (tv 43) [CK.int .u64,CK.int .u8] [46] 51 (.need (.cmp .neq (.dlen (tv 53)) (tl 0)) (.br (.cmp .eql qci (tv 0))
 (.viewL (tv 43) [CK.int .u64,CK.int .u8] [46] 54 (.need (.cmp .neq (.dlen (tv 56)) (tl 0)) (.fresh 57 (.need (.cmp .eql (tv 39) (.dlen (tv 41))) (tn (.tims (tl 32) (.plus (tv 39) (tl 1))) (tl 140737488355328) (fr 58 3 (.need (.cmp .eql (tv 35) (.dlen (tv 37))) (tn (.tims (tl 352) (.plus (tv 35) (tl 1))) (tl 140737488355328) (fr 61 2 (tb (.pre 3 qoL (tb (fr 63 5 (.post 3 0 qoL 63 (tb (.pack [.abs 67 4,.arr 61 43 qb0 (.dapp (tv 37) (.rcons (tu (tl 1)) (.rcons (ti (tl 0)) (.rcons (ti qcG) qoC)))) (tv 62),.cells 60 43 [(tu (tl 1)),(ti (tl 0)),(ti qcG),(.vint .u64 (.arith .add .u64 (tv 3) (tl 1))),(ti (tv 0)),(ti (tl 0)),.vnils,.vnils,.vnils,(ti (tl 0)),(tu (tl 0)),(tu (tl 0)),(tu (tl 0)),(tu (tl 0)),(tu (tl 0)),(tu (tl 0)),(tu (tl 0)),(tu (tl 0)),(tu (tl 0)),(tu (tl 0)),(tu (tl 0)),(tu (tl 0)),(tu (tl 0)),(tu (tl 0)),(tu (tl 0)),(tu (tl 0)),(tu (tl 0)),(tu (tl 0)),(tu (tl 0)),(tu (tl 0)),(tu (tl 0)),(tu (tl 0)),(tu (tl 0)),(tu (tl 0)),(tu (tl 0)),(tu (tl 0)),(tu (tl 0)),(tu (tl 0)),(tu (tl 0)),(tu (tl 0)),(tu (tl 0)),(tu (tl 0)),.vnils,(.vbool (.bl false)),(tu (tl 0)),(tu (tl 0)),(tu (tl 0)),(tu (tl 0)),(tu (tl 0)),(tu (tl 0)),(tu (tl 0)),(tu (tl 0)),(tu (tl 0)),(tu (tl 0)),(tu (tl 0)),(tu (tl 0)),(tu (tl 0)),(tu (tl 0)),(tu (tl 0)),(tu (tl 0)),(tu (tl 0)),(tu (tl 0)),(tu (tl 0)),(tu (tl 0)),(tu (tl 0)),(tu (tl 0)),(tu (tl 0)),(tu (tl 0)),(tu (tl 0)),(tu (tl 0)),(tu (tl 0)),(tu (tl 0)),(tu (tl 0)),(tu (tl 0)),(tu (tl 0)),(tu (tl 0)),(ti (tl 0)),(ti (tl 0)),(ti (tl 0)),(ti (tl 0)),(tu (tl 0)),(tu (tl 0)),(tu (tl 0)),(tu (tl 0)),(tu (tl 0)),(tu (tl 0)),(tu (tl 0)),(tu (tl 0)),(tu (tl 0)),(tu (tl 0)),(tu (tl 0)),(tu (tl 0)),(tu (tl 0)),(tu (tl 0)),(tu (tl 0)),(tu (tl 0)),(tu (tl 0)),(tu (tl 0)),(tu (tl 0)),(tu (tl 0)),(tu (tl 0)),(tu (tl 0)),(tu (tl 0)),(tu (tl 0)),(tu (tl 0)),(tu (tl 0)),(tu (tl 0)),(tu (tl 0)),(tu (tl 0)),(tu (tl 0)),(tu (tl 0)),(tu (tl 0)),.vnils,(ti (tl 0)),.vnils,(ti (tl 0))],.arr 58 63 [CK.int .u64,CK.int .i64,CK.int .u64,CK.bool] (.dapp (tv 41) (.rcons (.vint .u64 (.arith .add .u64 (tv 3) (tl 1))) (.rcons (ti qcG) (.rcons (.vint .u64 (tv 45)) (.rcons (.vbool (.bl false)) .rnil))))) (tv 59),.cells 57 63 [(.vint .u64 (.arith .add .u64 (tv 3) (tl 1))),(ti qcG),(.vint .u64 (tv 45)),(.vbool (.bl false))],.cells 47 102 [(ti (tv 0)),(tv 43),(.vint .u64 (tv 45)),(.vint .u64 (.arith .add .u64 (tv 3) (tl 1))),(ti qcG),(tv 44),(.vslice 58 (tl 0) (.plus (tv 39) (tl 1)) (tv 59) 4),(.vint .u64 (tv 7)),(.vbool (tv 8)),(.vbool (.bl false))],.cells 33 102 [(ti (tv 0)),(tv 43),(.vint .u64 (tv 45)),(.vint .u64 (.arith .add .u64 (tv 3) (tl 1))),(ti qcG),(tv 44),(.vslice 58 (tl 0) (.plus (tv 39) (tl 1)) (tv 59) 4),(.vint .u64 (tv 7)),(.vbool (tv 8)),(.vbool (.bl false))]] 68 (.ret 0 (sg 11 [bg 21 68,bv 20 66,bv 19 65,bv 18 64,bg 17 63,bt 16 (.vslice 58 (tl 0) (.plus (tv 39) (tl 1)) (tv 59) 4),bv 15 44,bt 14 qcG,bt 13 (.arith .add .u64 (tv 3) (tl 1)),bv 12 45,bv 11 43]))))))))))))))))))
 (.fresh 54 (.need (.cmp .eql (tv 39) (.dlen (tv 41))) (tn (.tims (tl 32) (.plus (tv 39) (tl 1))) (tl 140737488355328) (fr 55 3 (.need (.cmp .eql (tv 35) (.dlen (tv 37))) (tn (.tims (tl 352) (.plus (tv 35) (tl 1))) (tl 140737488355328) (fr 58 2 (tb (.pre 3 qo4 (tb (fr 60 5 (.post 3 0 qo4 60 (tb (.pack [.abs 64 4,.arr 58 43 qb0 (.dapp (tv 37) (.rcons (tu (tl 1)) (.rcons (ti (tl 0)) (.rcons (ti qci) qoC)))) (tv 59),.cells 57 43 [(tu (tl 1)),(ti (tl 0)),(ti qci),(.vint .u64 (.arith .add .u64 (tv 3) (tl 1))),(ti (tv 0)),(ti (tl 0)),.vnils,.vnils,.vnils,(ti (tl 0)),(tu (tl 0)),(tu (tl 0)),(tu (tl 0)),(tu (tl 0)),(tu (tl 0)),(tu (tl 0)),(tu (tl 0)),(tu (tl 0)),(tu (tl 0)),(tu (tl 0)),(tu (tl 0)),(tu (tl 0)),(tu (tl 0)),(tu (tl 0)),(tu (tl 0)),(tu (tl 0)),(tu (tl 0)),(tu (tl 0)),(tu (tl 0)),(tu (tl 0)),(tu (tl 0)),(tu (tl 0)),(tu (tl 0)),(tu (tl 0)),(tu (tl 0)),(tu (tl 0)),(tu (tl 0)),(tu (tl 0)),(tu (tl 0)),(tu (tl 0)),(tu (tl 0)),(tu (tl 0)),.vnils,(.vbool (.bl false)),(tu (tl 0)),(tu (tl 0)),(tu (tl 0)),(tu (tl 0)),(tu (tl 0)),(tu (tl 0)),(tu (tl 0)),(tu (tl 0)),(tu (tl 0)),(tu (tl 0)),(tu (tl 0)),(tu (tl 0)),(tu (tl 0)),(tu (tl 0)),(tu (tl 0)),(tu (tl 0)),(tu (tl 0)),(tu (tl 0)),(tu (tl 0)),(tu (tl 0)),(tu (tl 0)),(tu (tl 0)),(tu (tl 0)),(tu (tl 0)),(tu (tl 0)),(tu (tl 0)),(tu (tl 0)),(tu (tl 0)),(tu (tl 0)),(tu (tl 0)),(tu (tl 0)),(tu (tl 0)),(ti (tl 0)),(ti (tl 0)),(ti (tl 0)),(ti (tl 0)),(tu (tl 0)),(tu (tl 0)),(tu (tl 0)),(tu (tl 0)),(tu (tl 0)),(tu (tl 0)),(tu (tl 0)),(tu (tl 0)),(tu (tl 0)),(tu (tl 0)),(tu (tl 0)),(tu (tl 0)),(tu (tl 0)),(tu (tl 0)),(tu (tl 0)),(tu (tl 0)),(tu (tl 0)),(tu (tl 0)),(tu (tl 0)),(tu (tl 0)),(tu (tl 0)),(tu (tl 0)),(tu (tl 0)),(tu (tl 0)),(tu (tl 0)),(tu (tl 0)),(tu (tl 0)),(tu (tl 0)),(tu (tl 0)),(tu (tl 0)),(tu (tl 0)),(tu (tl 0)),.vnils,(ti (tl 0)),.vnils,(ti (tl 0))],.arr 55 63 [CK.int .u64,CK.int .i64,CK.int .u64,CK.bool] (.dapp (tv 41) (.rcons (.vint .u64 (.arith .add .u64 (tv 3) (tl 1))) (.rcons (ti qci) (.rcons (.vint .u64 (tv 45)) (.rcons (.vbool (.bl false)) .rnil))))) (tv 56),.cells 54 63 [(.vint .u64 (.arith .add .u64 (tv 3) (tl 1))),(ti qci),(.vint .u64 (tv 45)),(.vbool (.bl false))],.cells 47 102 [(ti (tv 0)),(tv 43),(.vint .u64 (tv 45)),(.vint .u64 (.arith .add .u64 (tv 3) (tl 1))),(ti qci),(tv 44),(.vslice 55 (tl 0) (.plus (tv 39) (tl 1)) (tv 56) 4),(.vint .u64 (tv 7)),(.vbool (tv 8)),(.vbool (.bl false))],.cells 33 102 [(ti (tv 0)),(tv 43),(.vint .u64 (tv 45)),(.vint .u64 (.arith .add .u64 (tv 3) (tl 1))),(ti qci),(tv 44),(.vslice 55 (tl 0) (.plus (tv 39) (tl 1)) (tv 56) 4),(.vint .u64 (tv 7)),(.vbool (tv 8)),(.vbool (.bl false))]] 65 (.ret 0 (sg 11 [bg 21 65,bv 20 63,bv 19 62,bv 18 61,bg 17 60,bt 16 (.vslice 55 (tl 0) (.plus (tv 39) (tl 1)) (tv 56) 4),bv 15 44,bt 14 qci,bt 13 (.arith .add .u64 (tv 3) (tl 1)),bv 12 45,bv 11 43]))))))))))))))))))))))))))))))))
theorem qxu:ql Try.prog qhE [qgS,qjp,qF,qdz] [qwP,qvy] qsW:=qe Try.func52 Try.call52 (by kernel_rfl)
def qqN:Out:=(.fresh 11 (.br (.cmp .geq (tv 9) (tl 0))
 (.viewL (tv 1) [CK.int .u64,CK.int .u8] [10] 12 (.ret 0 (sg 11 [bt 11 (.cmp .lss (tv 9) (.dlen (tv 14)))])))
 (.ret 0 (sg 11 [bt 11 (.bl false)]))))
theorem qwf:ql Try.prog qhB [] [] qqN:=qe Try.func78 Try.call78 (by kernel_rfl)
@[simp] def qmL:Sg:=sg 0 [bv 14 155,bv 13 156,bg 12 161,bv 11 155,bv 10 154,bg 9 153,bv 8 8,bv 7 160,bv 6 159,bv 5 158,bv 4 4,bv 3 3,bv 2 2,bv 1 157,bv 0 0]
@[simp] def qmV:Sg:=sg 0 [bt 3 (.icell (tv 152) (tv 141) 1),bt 2 (.icell (tv 152) (tv 141) 0),bt 1 (.icell (tv 18) (tv 141) 1),bt 0 (.icell (tv 18) (tv 141) 0)]
@[simp] def qiA:Sg:=sg 0 [bt 3 (.icell (tv 18) (tv 141) 1),bt 2 (.icell (tv 18) (tv 141) 0),bt 1 (.icell (tv 152) (tv 141) 1),bt 0 (.icell (tv 152) (tv 141) 0)]
@[simp] def qlM:Out:=.back 0 139 (sg 1000 [bg 1006 145,bv 1005 144,bv 1004 143,bv 1003 142,bt 1002 (.arith .add .i64 (tv 141) (tl 1)),bg 1001 140,bg 1000 139,bg 1007 146])
@[simp] def qlp:Out:=.both (.back 0 139 (sg 1000 [bg 1006 155,bv 1005 144,bv 1004 154,bv 1003 153,bt 1002 (.arith .add .i64 (tv 141) (tl 1)),bg 1001 140,bg 1000 139,bg 1007 146])) .top
@[simp] def qme:Sg:=sg 0 [bg 12 145,bt 11 (.icell (tv 18) (tv 141) 1),bt 10 (.icell (tv 18) (tv 141) 0),bv 9 141,bv 8 8,bv 7 144,bv 6 6,bv 5 143,bv 4 4,bv 3 3,bv 2 2,bv 1 142,bv 0 0]
@[simp] def qmX:Sg:=sg 0 [bg 12 145,bt 11 (.icell (tv 152) (tv 141) 1),bt 10 (.icell (tv 152) (tv 141) 0),bv 9 141,bv 8 8,bv 7 144,bv 6 6,bv 5 143,bv 4 4,bv 3 3,bv 2 2,bv 1 142,bv 0 0]
@[simp] def qlH:T:=.rcons (ti (tl 0)) (.rcons .vnils (.rcons .vnils (.rcons .vnils (.rcons (ti (tl 0)) (rr 32 (tu (tl 0)) (.rcons .vnils (.rcons (.vbool (.bl false)) (rr 32 (tu (tl 0)) (rr 4 (ti (tl 0)) (rr 32 (tu (tl 0)) (.rcons .vnils (.rcons (ti (tl 0)) (.rcons .vnils (.rcons (ti (tl 0)) .rnil))))))))))))))
@[simp] def qmU:T:=.rcons (.vint .u64 (tv 12)) (.rcons (ti (tv 10)) qlH)
@[simp] def qmb:T:=.rcons (.vint .u64 (tv 12)) (.rcons (ti (tv 13)) qlH)
@[simp] def qlZ:T:=.rcons (ti (tl 0)) (.rcons (ti (tv 10)) qmb)
@[simp] def qga:Sg:=sg 0 [bg 10 129,bv 9 14,bv 8 8,bv 7 7,bv 6 6,bv 5 5,bv 4 4,bv 3 3,bv 2 2,bv 1 1,bv 0 0]
@[simp] def qfW:Sg:=sg 1000 [bg 1006 129,bv 1005 7,bv 1004 5,bv 1003 1,bt 1002 (tl 0),bg 1001 131,bg 1000 130,bg 1007 132]
@[simp] def qlQ:Sg:=sg 0 [bv 14 154,bv 13 155,bg 12 160,bv 11 154,bv 10 153,bg 9 152,bv 8 8,bv 7 159,bv 6 158,bv 5 157,bv 4 4,bv 3 3,bv 2 2,bv 1 156,bv 0 0]
@[simp] def qmR:Sg:=sg 0 [bv 14 156,bv 13 157,bg 12 162,bv 11 156,bv 10 155,bg 9 154,bv 8 8,bv 7 161,bv 6 160,bv 5 159,bv 4 4,bv 3 3,bv 2 2,bv 1 158,bv 0 0]
@[simp] def qlJ:Sg:=sg 0 [bt 3 (.icell (tv 151) (tv 140) 1),bt 2 (.icell (tv 151) (tv 140) 0),bt 1 (.icell (tv 18) (tv 140) 1),bt 0 (.icell (tv 18) (tv 140) 0)]
@[simp] def qis:Sg:=sg 0 [bt 3 (.icell (tv 18) (tv 140) 1),bt 2 (.icell (tv 18) (tv 140) 0),bt 1 (.icell (tv 151) (tv 140) 1),bt 0 (.icell (tv 151) (tv 140) 0)]
@[simp] def qln:Sg:=sg 0 [bt 3 (.icell (tv 153) (tv 142) 1),bt 2 (.icell (tv 153) (tv 142) 0),bt 1 (.icell (tv 18) (tv 142) 1),bt 0 (.icell (tv 18) (tv 142) 0)]
@[simp] def qij:Sg:=sg 0 [bt 3 (.icell (tv 18) (tv 142) 1),bt 2 (.icell (tv 18) (tv 142) 0),bt 1 (.icell (tv 153) (tv 142) 1),bt 0 (.icell (tv 153) (tv 142) 0)]
@[simp] def qlY:Out:=.back 0 138 (sg 1000 [bg 1006 144,bv 1005 143,bv 1004 142,bv 1003 141,bt 1002 (.arith .add .i64 (tv 140) (tl 1)),bg 1001 139,bg 1000 138,bg 1007 145])
@[simp] def ql8:Out:=.back 0 140 (sg 1000 [bg 1006 146,bv 1005 145,bv 1004 144,bv 1003 143,bt 1002 (.arith .add .i64 (tv 142) (tl 1)),bg 1001 141,bg 1000 140,bg 1007 147])
@[simp] def ql3:Out:=.both (.back 0 138 (sg 1000 [bg 1006 154,bv 1005 143,bv 1004 153,bv 1003 152,bt 1002 (.arith .add .i64 (tv 140) (tl 1)),bg 1001 139,bg 1000 138,bg 1007 145])) .top
@[simp] def qmz:Out:=.both (.back 0 140 (sg 1000 [bg 1006 156,bv 1005 145,bv 1004 155,bv 1003 154,bt 1002 (.arith .add .i64 (tv 142) (tl 1)),bg 1001 141,bg 1000 140,bg 1007 147])) .top
@[simp] def qmS:Sg:=sg 0 [bg 12 144,bt 11 (.icell (tv 18) (tv 140) 1),bt 10 (.icell (tv 18) (tv 140) 0),bv 9 140,bv 8 8,bv 7 143,bv 6 6,bv 5 142,bv 4 4,bv 3 3,bv 2 2,bv 1 141,bv 0 0]
@[simp] def qmy:Sg:=sg 0 [bg 12 146,bt 11 (.icell (tv 18) (tv 142) 1),bt 10 (.icell (tv 18) (tv 142) 0),bv 9 142,bv 8 8,bv 7 145,bv 6 6,bv 5 144,bv 4 4,bv 3 3,bv 2 2,bv 1 143,bv 0 0]
@[simp] def ql9:Sg:=sg 0 [bg 12 144,bt 11 (.icell (tv 151) (tv 140) 1),bt 10 (.icell (tv 151) (tv 140) 0),bv 9 140,bv 8 8,bv 7 143,bv 6 6,bv 5 142,bv 4 4,bv 3 3,bv 2 2,bv 1 141,bv 0 0]
@[simp] def qml:Sg:=sg 0 [bg 12 146,bt 11 (.icell (tv 153) (tv 142) 1),bt 10 (.icell (tv 153) (tv 142) 0),bv 9 142,bv 8 8,bv 7 145,bv 6 6,bv 5 144,bv 4 4,bv 3 3,bv 2 2,bv 1 143,bv 0 0]
@[simp] def qm1:Out:=.fresh 151 (fr 152 10 (.hyp 2 151 (tb (.pre 5 qmL (tb (fr 162 5 (.post 5 0 qmL 162 (tb (.pack [.abs 166 4,.cells 152 102 [(ti (tv 0)),(tv 157),(.vint .u64 (tv 2)),(.vint .u64 (tv 3)),(ti (tv 4)),(tv 158),(tv 159),(.vint .u64 (tv 160)),(.vbool (tv 8)),(.vbool (.bl false))],.cells 151 102 [(ti (tv 0)),(tv 157),(.vint .u64 (tv 2)),(.vint .u64 (tv 3)),(ti (tv 4)),(tv 158),(tv 159),(.vint .u64 (tv 160)),(.vbool (tv 8)),(.vbool (.bl false))],.arr 153 43 qb0 (tv 156) (tv 155)] 167 (.ret 0 (sg 130 [bg 139 167,bv 138 165,bt 137 (tl 0),bv 136 164,bv 135 163,bg 134 162,bv 133 160,bv 132 159,bv 131 158,bv 130 157])))))))))))
@[simp] def qoS:Out:=.pack [.cells 132 102 [(ti (tv 0)),(tv 1),(.vint .u64 (tv 2)),(.vint .u64 (tv 3)),(ti (tv 4)),(tv 5),(tv 6),(.vint .u64 (tv 7)),(.vbool (tv 8)),(.vbool (.bl false))],.cells 131 43 [(tu (tv 9)),(ti (tv 10)),(ti (tv 11)),(.vint .u64 (tv 12)),(ti (tv 13)),(ti (tv 14)),(.vslice 15 (tl 0) (tv 16) (tv 17) 2),(tv 20),(tv 21),(tv 22),(tv 23),(tv 24),(tv 25),(tv 26),(tv 27),(tv 28),(tv 29),(tv 30),(tv 31),(tv 32),(tv 33),(tv 34),(tv 35),(tv 36),(tv 37),(tv 38),(tv 39),(tv 40),(tv 41),(tv 42),(tv 43),(tv 44),(tv 45),(tv 46),(tv 47),(tv 48),(tv 49),(tv 50),(tv 51),(tv 52),(tv 53),(tv 54),(tv 55),(tv 56),(tv 57),(tv 58),(tv 59),(tv 60),(tv 61),(tv 62),(tv 63),(tv 64),(tv 65),(tv 66),(tv 67),(tv 68),(tv 69),(tv 70),(tv 71),(tv 72),(tv 73),(tv 74),(tv 75),(tv 76),(tv 77),(tv 78),(tv 79),(tv 80),(tv 81),(tv 82),(tv 83),(tv 84),(tv 85),(tv 86),(tv 87),(tv 88),(tv 89),(tv 90),(tv 91),(tv 92),(tv 93),(tv 94),(tv 95),(tv 96),(tv 97),(tv 98),(tv 99),(tv 100),(tv 101),(tv 102),(tv 103),(tv 104),(tv 105),(tv 106),(tv 107),(tv 108),(tv 109),(tv 110),(tv 111),(tv 112),(tv 113),(tv 114),(tv 115),(tv 116),(tv 117),(tv 118),(tv 119),(tv 120),(tv 121),(tv 122),(tv 123),(tv 124),(tv 125),(tv 126),(tv 127),(tv 128)],.cells 130 102 [(ti (tv 0)),(tv 1),(.vint .u64 (tv 2)),(.vint .u64 (tv 3)),(ti (tv 4)),(tv 5),(tv 6),(.vint .u64 (tv 7)),(.vbool (tv 8)),(.vbool (.bl false))],.abs 129 4] 139 (.ret 0 (sg 130 [bg 139 139,bt 138 .dnil,bt 137 (tl 2),bt 136 (tl 0),bt 135 (tl 0),(134,.nil),bv 133 7,bv 132 6,bv 131 5,bv 130 1]))
@[simp] def qjd:Out:=.pack [.cells 132 102 [(ti (tv 0)),(tv 1),(.vint .u64 (tv 2)),(.vint .u64 (tv 3)),(ti (tv 4)),(tv 5),(tv 6),(.vint .u64 (tv 7)),(.vbool (tv 8)),(.vbool (.bl false))],.cells 131 43 [(tu (tv 9)),(ti (tv 10)),(ti (tv 11)),(.vint .u64 (tv 12)),(ti (tv 13)),(ti (tv 14)),(.vslice 15 (tl 0) (tv 16) (tv 17) 2),(tv 20),(tv 21),(tv 22),(tv 23),(tv 24),(tv 25),(tv 26),(tv 27),(tv 28),(tv 29),(tv 30),(tv 31),(tv 32),(tv 33),(tv 34),(tv 35),(tv 36),(tv 37),(tv 38),(tv 39),(tv 40),(tv 41),(tv 42),(tv 43),(tv 44),(tv 45),(tv 46),(tv 47),(tv 48),(tv 49),(tv 50),(tv 51),(tv 52),(tv 53),(tv 54),(tv 55),(tv 56),(tv 57),(tv 58),(tv 59),(tv 60),(tv 61),(tv 62),(tv 63),(tv 64),(tv 65),(tv 66),(tv 67),(tv 68),(tv 69),(tv 70),(tv 71),(tv 72),(tv 73),(tv 74),(tv 75),(tv 76),(tv 77),(tv 78),(tv 79),(tv 80),(tv 81),(tv 82),(tv 83),(tv 84),(tv 85),(tv 86),(tv 87),(tv 88),(tv 89),(tv 90),(tv 91),(tv 92),(tv 93),(tv 94),(tv 95),(tv 96),(tv 97),(tv 98),(tv 99),(tv 100),(tv 101),(tv 102),(tv 103),(tv 104),(tv 105),(tv 106),(tv 107),(tv 108),(tv 109),(tv 110),(tv 111),(tv 112),(tv 113),(tv 114),(tv 115),(tv 116),(tv 117),(tv 118),(tv 119),(tv 120),(tv 121),(tv 122),(tv 123),(tv 124),(tv 125),(tv 126),(tv 127),(tv 128)],.cells 130 102 [(ti (tv 0)),(tv 1),(.vint .u64 (tv 2)),(.vint .u64 (tv 3)),(ti (tv 4)),(tv 5),(tv 6),(.vint .u64 (tv 7)),(.vbool (tv 8)),(.vbool (.bl false))],.abs 129 4] 134 (.ret 0 (sg 130 [bg 139 134,bt 138 .dnil,bt 137 (tl 2),bt 136 (tl 0),bt 135 (tl 0),(134,.nil),bv 133 7,bv 132 6,bv 131 5,bv 130 1]))
@[simp] def qoG:Out:=.pack [.cells 132 102 [(ti (tv 0)),(tv 1),(.vint .u64 (tv 2)),(.vint .u64 (tv 3)),(ti (tv 4)),(tv 5),(tv 6),(.vint .u64 (tv 7)),(.vbool (tv 8)),(.vbool (.bl false))],.cells 131 43 [(tu (tv 9)),(ti (tv 10)),(ti (tv 11)),(.vint .u64 (tv 12)),(ti (tv 13)),(ti (tv 14)),(.vslice 15 (tl 0) (tv 16) (tv 17) 2),(tv 20),(tv 21),(tv 22),(tv 23),(tv 24),(tv 25),(tv 26),(tv 27),(tv 28),(tv 29),(tv 30),(tv 31),(tv 32),(tv 33),(tv 34),(tv 35),(tv 36),(tv 37),(tv 38),(tv 39),(tv 40),(tv 41),(tv 42),(tv 43),(tv 44),(tv 45),(tv 46),(tv 47),(tv 48),(tv 49),(tv 50),(tv 51),(tv 52),(tv 53),(tv 54),(tv 55),(tv 56),(tv 57),(tv 58),(tv 59),(tv 60),(tv 61),(tv 62),(tv 63),(tv 64),(tv 65),(tv 66),(tv 67),(tv 68),(tv 69),(tv 70),(tv 71),(tv 72),(tv 73),(tv 74),(tv 75),(tv 76),(tv 77),(tv 78),(tv 79),(tv 80),(tv 81),(tv 82),(tv 83),(tv 84),(tv 85),(tv 86),(tv 87),(tv 88),(tv 89),(tv 90),(tv 91),(tv 92),(tv 93),(tv 94),(tv 95),(tv 96),(tv 97),(tv 98),(tv 99),(tv 100),(tv 101),(tv 102),(tv 103),(tv 104),(tv 105),(tv 106),(tv 107),(tv 108),(tv 109),(tv 110),(tv 111),(tv 112),(tv 113),(tv 114),(tv 115),(tv 116),(tv 117),(tv 118),(tv 119),(tv 120),(tv 121),(tv 122),(tv 123),(tv 124),(tv 125),(tv 126),(tv 127),(tv 128)],.cells 130 102 [(ti (tv 0)),(tv 1),(.vint .u64 (tv 2)),(.vint .u64 (tv 3)),(ti (tv 4)),(tv 5),(tv 6),(.vint .u64 (tv 7)),(.vbool (tv 8)),(.vbool (.bl false))],.abs 129 4] 133 (.ret 0 (sg 130 [bg 139 133,bt 138 .dnil,bt 137 (tl 2),bt 136 (tl 0),bt 135 (tl 0),(134,.nil),bv 133 7,bv 132 6,bv 131 5,bv 130 1]))
@[simp] def qoi:T:=.rcons (tu (tl 2)) (.rcons (ti (tl 0)) (.rcons (ti (tv 13)) qmb))
@[simp] def qoT:T:=.rcons (tu (tl 1)) (.rcons (ti (tl 0)) (.rcons (ti (tv 14)) qmU))
@[simp] def qon:T:=.rcons (tu (tl 2)) (.rcons (ti (tl 0)) (.rcons (ti (tv 10)) qmU))
@[simp] def qnR:T:=.rcons (tu (tl 2)) qlZ
@[simp] def qoK:Out:=.br (.cmp .neq (tv 141) (tv 0))
 (tn (tl 0) (tv 141) (ts (tv 141) (tv 16) (ts (tv 141) (.dlen (tv 18)) (tb (.viewL (tv 142) [CK.int .u64,CK.int .u8] [145] 150 (ts (tv 141) (.dlen (tv 152)) (tb (tb (.pre 2 qiA (.both (.post 2 0 qiA 153 (tb (.pre 4 qme (tb (fr 153 3 (.post 4 0 qme 153 qlp)))))) (tb (.post 2 1 qiA 153 (tb (.pre 4 qmX (tb (fr 153 3 (.post 4 0 qmX 153 qlp)))))))))))))))))
 (tn (tl 0) (tv 141) (ts (tv 141) (tv 16) (ts (tv 141) (.dlen (tv 18)) (tb (.viewL (tv 142) [CK.int .u64,CK.int .u8] [145] 150 (ts (tv 141) (.dlen (tv 152)) (tb (tb (.pre 3 qmV (tb (.post 3 0 qmV 153 (.br (.or (.cmp .gtr (.icell (tv 18) (tv 141) 0) (.icell (tv 152) (tv 141) 0)) (.and (.cmp .eql (.icell (tv 18) (tv 141) 0) (.icell (tv 152) (tv 141) 0)) (.cmp .gtr (.icell (tv 18) (tv 141) 1) (.icell (tv 152) (tv 141) 1))))
 (.br (.cmp .gtr (.icell (tv 18) (tv 141) 0) (tv 144))
 (.back 0 139 (sg 1000 [bg 1006 145,bt 1005 (.icell (tv 18) (tv 141) 0),bv 1004 143,bv 1003 142,bt 1002 (.arith .add .i64 (tv 141) (tl 1)),bg 1001 140,bg 1000 139,bg 1007 146]))
 qlM)
 qlM))))))))))))
@[simp] def qoc:Out:=.fresh 151 (tn (.tims (tl 352) (tl 1)) (tl 140737488355328) (fr 152 2 (.pack [.cells 151 43 [(tu (tl 2)),(ti (tl 0)),(ti (tv 10)),(.vint .u64 (tv 12)),(ti (tv 13)),(ti (tl 0)),.vnils,.vnils,.vnils,(ti (tl 0)),(tu (tl 0)),(tu (tl 0)),(tu (tl 0)),(tu (tl 0)),(tu (tl 0)),(tu (tl 0)),(tu (tl 0)),(tu (tl 0)),(tu (tl 0)),(tu (tl 0)),(tu (tl 0)),(tu (tl 0)),(tu (tl 0)),(tu (tl 0)),(tu (tl 0)),(tu (tl 0)),(tu (tl 0)),(tu (tl 0)),(tu (tl 0)),(tu (tl 0)),(tu (tl 0)),(tu (tl 0)),(tu (tl 0)),(tu (tl 0)),(tu (tl 0)),(tu (tl 0)),(tu (tl 0)),(tu (tl 0)),(tu (tl 0)),(tu (tl 0)),(tu (tl 0)),(tu (tl 0)),.vnils,(.vbool (.bl false)),(tu (tl 0)),(tu (tl 0)),(tu (tl 0)),(tu (tl 0)),(tu (tl 0)),(tu (tl 0)),(tu (tl 0)),(tu (tl 0)),(tu (tl 0)),(tu (tl 0)),(tu (tl 0)),(tu (tl 0)),(tu (tl 0)),(tu (tl 0)),(tu (tl 0)),(tu (tl 0)),(tu (tl 0)),(tu (tl 0)),(tu (tl 0)),(tu (tl 0)),(tu (tl 0)),(tu (tl 0)),(tu (tl 0)),(tu (tl 0)),(tu (tl 0)),(tu (tl 0)),(tu (tl 0)),(tu (tl 0)),(tu (tl 0)),(tu (tl 0)),(tu (tl 0)),(tu (tl 0)),(ti (tl 0)),(ti (tl 0)),(ti (tl 0)),(ti (tl 0)),(tu (tl 0)),(tu (tl 0)),(tu (tl 0)),(tu (tl 0)),(tu (tl 0)),(tu (tl 0)),(tu (tl 0)),(tu (tl 0)),(tu (tl 0)),(tu (tl 0)),(tu (tl 0)),(tu (tl 0)),(tu (tl 0)),(tu (tl 0)),(tu (tl 0)),(tu (tl 0)),(tu (tl 0)),(tu (tl 0)),(tu (tl 0)),(tu (tl 0)),(tu (tl 0)),(tu (tl 0)),(tu (tl 0)),(tu (tl 0)),(tu (tl 0)),(tu (tl 0)),(tu (tl 0)),(tu (tl 0)),(tu (tl 0)),(tu (tl 0)),(tu (tl 0)),(tu (tl 0)),.vnils,(ti (tl 0)),.vnils,(ti (tl 0))],.cells 140 43 [(tu (tv 9)),(ti (tv 10)),(ti (tv 11)),(.vint .u64 (tv 12)),(ti (tv 13)),(ti (tv 14)),(.vslice 15 (tl 0) (tv 16) (tv 17) 2),(tv 20),(tv 21),(tv 22),(tv 23),(tv 24),(tv 25),(tv 26),(tv 27),(tv 28),(tv 29),(tv 30),(tv 31),(tv 32),(tv 33),(tv 34),(tv 35),(tv 36),(tv 37),(tv 38),(tv 39),(tv 40),(tv 41),(tv 42),(tv 43),(tv 44),(tv 45),(tv 46),(tv 47),(tv 48),(tv 49),(tv 50),(tv 51),(tv 52),(tv 53),(tv 54),(tv 55),(tv 56),(tv 57),(tv 58),(tv 59),(tv 60),(tv 61),(tv 62),(tv 63),(tv 64),(tv 65),(tv 66),(tv 67),(tv 68),(tv 69),(tv 70),(tv 71),(tv 72),(tv 73),(tv 74),(tv 75),(tv 76),(tv 77),(tv 78),(tv 79),(tv 80),(tv 81),(tv 82),(tv 83),(tv 84),(tv 85),(tv 86),(tv 87),(tv 88),(tv 89),(tv 90),(tv 91),(tv 92),(tv 93),(tv 94),(tv 95),(tv 96),(tv 97),(tv 98),(tv 99),(tv 100),(tv 101),(tv 102),(tv 103),(tv 104),(tv 105),(tv 106),(tv 107),(tv 108),(tv 109),(tv 110),(tv 111),(tv 112),(tv 113),(tv 114),(tv 115),(tv 116),(tv 117),(tv 118),(tv 119),(tv 120),(tv 121),(tv 122),(tv 123),(tv 124),(tv 125),(tv 126),(tv 127),(tv 128)],.abs 145 4] 154 (.cut 2 151 (sg 1000 [bg 1010 154,bt 1005 (.rcons (tu (tl 2)) qlZ),bv 1009 144,bv 1008 6,bv 1007 143,bv 1006 142,bv 1004 153,bt 1003 (tl 1),bg 1002 152,bg 1001 146,bg 1000 139])))))
def qsX:Out:=(fr 130 3 (.br (tv 8)
 (.pack [.cells 132 102 [(ti (tv 0)),(tv 1),(.vint .u64 (tv 2)),(.vint .u64 (tv 3)),(ti (tv 4)),(tv 5),(tv 6),(.vint .u64 (tv 7)),(.vbool (tv 8)),(.vbool (.bl false))],.cells 131 43 [(tu (tv 9)),(ti (tv 10)),(ti (tv 11)),(.vint .u64 (tv 12)),(ti (tv 13)),(ti (tv 14)),(.vslice 15 (tl 0) (tv 16) (tv 17) 2),(tv 20),(tv 21),(tv 22),(tv 23),(tv 24),(tv 25),(tv 26),(tv 27),(tv 28),(tv 29),(tv 30),(tv 31),(tv 32),(tv 33),(tv 34),(tv 35),(tv 36),(tv 37),(tv 38),(tv 39),(tv 40),(tv 41),(tv 42),(tv 43),(tv 44),(tv 45),(tv 46),(tv 47),(tv 48),(tv 49),(tv 50),(tv 51),(tv 52),(tv 53),(tv 54),(tv 55),(tv 56),(tv 57),(tv 58),(tv 59),(tv 60),(tv 61),(tv 62),(tv 63),(tv 64),(tv 65),(tv 66),(tv 67),(tv 68),(tv 69),(tv 70),(tv 71),(tv 72),(tv 73),(tv 74),(tv 75),(tv 76),(tv 77),(tv 78),(tv 79),(tv 80),(tv 81),(tv 82),(tv 83),(tv 84),(tv 85),(tv 86),(tv 87),(tv 88),(tv 89),(tv 90),(tv 91),(tv 92),(tv 93),(tv 94),(tv 95),(tv 96),(tv 97),(tv 98),(tv 99),(tv 100),(tv 101),(tv 102),(tv 103),(tv 104),(tv 105),(tv 106),(tv 107),(tv 108),(tv 109),(tv 110),(tv 111),(tv 112),(tv 113),(tv 114),(tv 115),(tv 116),(tv 117),(tv 118),(tv 119),(tv 120),(tv 121),(tv 122),(tv 123),(tv 124),(tv 125),(tv 126),(tv 127),(tv 128)],.cells 130 102 [(ti (tv 0)),(tv 1),(.vint .u64 (tv 2)),(.vint .u64 (tv 3)),(ti (tv 4)),(tv 5),(tv 6),(.vint .u64 (tv 7)),(.vbool (tv 8)),(.vbool (.bl false))],.abs 129 4] 133 (.ret 0 (sg 130 [bg 139 133,bt 138 .dnil,bt 137 (tl 30),bt 136 (tl 0),bt 135 (tl 0),(134,.nil),bv 133 7,bv 132 6,bv 131 5,bv 130 1])))
 (.br (.cmp .lss (tv 9) (tl 1))
 qoG
 (.br (.cmp .gtr (tv 9) (tl 3))
 qoG
 (.pre 0 (sg 0 [bg 10 129,bv 9 10,bv 8 8,bv 7 7,bv 6 6,bv 5 5,bv 4 4,bv 3 3,bv 2 2,bv 1 1,bv 0 0]) (tb (.fresh 133 (.post 0 0 (sg 0 [bg 10 129,bv 9 10,bv 8 8,bv 7 7,bv 6 6,bv 5 5,bv 4 4,bv 3 3,bv 2 2,bv 1 1,bv 0 0]) 133 (.br (.not (tv 133))
 qjd
 (.br (.cmp .eql (tv 10) (tv 0))
 qjd
 (.br (.cmp .neq (tv 11) (tv 0))
 qjd
 (.pre 1 (sg 0 [bv 4 19,bv 3 18,bv 2 17,bv 1 16,bg 0 15]) (tb (.fresh 134 (.post 1 0 (sg 0 [bv 4 19,bv 3 18,bv 2 17,bv 1 16,bg 0 15]) 134 (.br (.not (tv 134))
 (.pack [.cells 132 102 [(ti (tv 0)),(tv 1),(.vint .u64 (tv 2)),(.vint .u64 (tv 3)),(ti (tv 4)),(tv 5),(tv 6),(.vint .u64 (tv 7)),(.vbool (tv 8)),(.vbool (.bl false))],.cells 131 43 [(tu (tv 9)),(ti (tv 10)),(ti (tv 11)),(.vint .u64 (tv 12)),(ti (tv 13)),(ti (tv 14)),(.vslice 15 (tl 0) (tv 16) (tv 17) 2),(tv 20),(tv 21),(tv 22),(tv 23),(tv 24),(tv 25),(tv 26),(tv 27),(tv 28),(tv 29),(tv 30),(tv 31),(tv 32),(tv 33),(tv 34),(tv 35),(tv 36),(tv 37),(tv 38),(tv 39),(tv 40),(tv 41),(tv 42),(tv 43),(tv 44),(tv 45),(tv 46),(tv 47),(tv 48),(tv 49),(tv 50),(tv 51),(tv 52),(tv 53),(tv 54),(tv 55),(tv 56),(tv 57),(tv 58),(tv 59),(tv 60),(tv 61),(tv 62),(tv 63),(tv 64),(tv 65),(tv 66),(tv 67),(tv 68),(tv 69),(tv 70),(tv 71),(tv 72),(tv 73),(tv 74),(tv 75),(tv 76),(tv 77),(tv 78),(tv 79),(tv 80),(tv 81),(tv 82),(tv 83),(tv 84),(tv 85),(tv 86),(tv 87),(tv 88),(tv 89),(tv 90),(tv 91),(tv 92),(tv 93),(tv 94),(tv 95),(tv 96),(tv 97),(tv 98),(tv 99),(tv 100),(tv 101),(tv 102),(tv 103),(tv 104),(tv 105),(tv 106),(tv 107),(tv 108),(tv 109),(tv 110),(tv 111),(tv 112),(tv 113),(tv 114),(tv 115),(tv 116),(tv 117),(tv 118),(tv 119),(tv 120),(tv 121),(tv 122),(tv 123),(tv 124),(tv 125),(tv 126),(tv 127),(tv 128)],.cells 130 102 [(ti (tv 0)),(tv 1),(.vint .u64 (tv 2)),(.vint .u64 (tv 3)),(ti (tv 4)),(tv 5),(tv 6),(.vint .u64 (tv 7)),(.vbool (tv 8)),(.vbool (.bl false))],.abs 129 4] 135 (.ret 0 (sg 130 [bg 139 135,bt 138 .dnil,bt 137 (tl 2),bt 136 (tl 0),bt 135 (tl 0),(134,.nil),bv 133 7,bv 132 6,bv 131 5,bv 130 1])))
 (tn (tl 0) (tv 16) (.viewL (tv 1) [CK.int .u64,CK.int .u8] [129] 135 (.br (.cmp .neq (tv 16) (.dlen (tv 137)))
 (.pack [.cells 132 102 [(ti (tv 0)),(tv 1),(.vint .u64 (tv 2)),(.vint .u64 (tv 3)),(ti (tv 4)),(tv 5),(tv 6),(.vint .u64 (tv 7)),(.vbool (tv 8)),(.vbool (.bl false))],.cells 131 43 [(tu (tv 9)),(ti (tv 10)),(ti (tv 11)),(.vint .u64 (tv 12)),(ti (tv 13)),(ti (tv 14)),(.vslice 15 (tl 0) (tv 16) (tv 17) 2),(tv 20),(tv 21),(tv 22),(tv 23),(tv 24),(tv 25),(tv 26),(tv 27),(tv 28),(tv 29),(tv 30),(tv 31),(tv 32),(tv 33),(tv 34),(tv 35),(tv 36),(tv 37),(tv 38),(tv 39),(tv 40),(tv 41),(tv 42),(tv 43),(tv 44),(tv 45),(tv 46),(tv 47),(tv 48),(tv 49),(tv 50),(tv 51),(tv 52),(tv 53),(tv 54),(tv 55),(tv 56),(tv 57),(tv 58),(tv 59),(tv 60),(tv 61),(tv 62),(tv 63),(tv 64),(tv 65),(tv 66),(tv 67),(tv 68),(tv 69),(tv 70),(tv 71),(tv 72),(tv 73),(tv 74),(tv 75),(tv 76),(tv 77),(tv 78),(tv 79),(tv 80),(tv 81),(tv 82),(tv 83),(tv 84),(tv 85),(tv 86),(tv 87),(tv 88),(tv 89),(tv 90),(tv 91),(tv 92),(tv 93),(tv 94),(tv 95),(tv 96),(tv 97),(tv 98),(tv 99),(tv 100),(tv 101),(tv 102),(tv 103),(tv 104),(tv 105),(tv 106),(tv 107),(tv 108),(tv 109),(tv 110),(tv 111),(tv 112),(tv 113),(tv 114),(tv 115),(tv 116),(tv 117),(tv 118),(tv 119),(tv 120),(tv 121),(tv 122),(tv 123),(tv 124),(tv 125),(tv 126),(tv 127),(tv 128)],.cells 130 102 [(ti (tv 0)),(tv 1),(.vint .u64 (tv 2)),(.vint .u64 (tv 3)),(ti (tv 4)),(tv 5),(tv 6),(.vint .u64 (tv 7)),(.vbool (tv 8)),(.vbool (.bl false))],.abs 129 4] 138 (.ret 0 (sg 130 [bg 139 138,bt 138 .dnil,bt 137 (tl 2),bt 136 (tl 0),bt 135 (tl 0),(134,.nil),bv 133 7,bv 132 6,bv 131 5,bv 130 1])))
 (.br (.cmp .leq (tv 9) (tl 2))
 (.pre 0 (sg 0 [bg 10 129,bv 9 13,bv 8 8,bv 7 7,bv 6 6,bv 5 5,bv 4 4,bv 3 3,bv 2 2,bv 1 1,bv 0 0]) (tb (.fresh 138 (.post 0 0 (sg 0 [bg 10 129,bv 9 13,bv 8 8,bv 7 7,bv 6 6,bv 5 5,bv 4 4,bv 3 3,bv 2 2,bv 1 1,bv 0 0]) 138 (.br (.not (tv 138))
 qoS
 (.br (.cmp .eql (tv 9) (tl 3))
 (.pre 0 qga (tb (.fresh 139 (.post 0 0 qga 139 (.br (.not (tv 139))
 (.pack [.cells 132 102 [(ti (tv 0)),(tv 1),(.vint .u64 (tv 2)),(.vint .u64 (tv 3)),(ti (tv 4)),(tv 5),(tv 6),(.vint .u64 (tv 7)),(.vbool (tv 8)),(.vbool (.bl false))],.cells 131 43 [(tu (tv 9)),(ti (tv 10)),(ti (tv 11)),(.vint .u64 (tv 12)),(ti (tv 13)),(ti (tv 14)),(.vslice 15 (tl 0) (tv 16) (tv 17) 2),(tv 20),(tv 21),(tv 22),(tv 23),(tv 24),(tv 25),(tv 26),(tv 27),(tv 28),(tv 29),(tv 30),(tv 31),(tv 32),(tv 33),(tv 34),(tv 35),(tv 36),(tv 37),(tv 38),(tv 39),(tv 40),(tv 41),(tv 42),(tv 43),(tv 44),(tv 45),(tv 46),(tv 47),(tv 48),(tv 49),(tv 50),(tv 51),(tv 52),(tv 53),(tv 54),(tv 55),(tv 56),(tv 57),(tv 58),(tv 59),(tv 60),(tv 61),(tv 62),(tv 63),(tv 64),(tv 65),(tv 66),(tv 67),(tv 68),(tv 69),(tv 70),(tv 71),(tv 72),(tv 73),(tv 74),(tv 75),(tv 76),(tv 77),(tv 78),(tv 79),(tv 80),(tv 81),(tv 82),(tv 83),(tv 84),(tv 85),(tv 86),(tv 87),(tv 88),(tv 89),(tv 90),(tv 91),(tv 92),(tv 93),(tv 94),(tv 95),(tv 96),(tv 97),(tv 98),(tv 99),(tv 100),(tv 101),(tv 102),(tv 103),(tv 104),(tv 105),(tv 106),(tv 107),(tv 108),(tv 109),(tv 110),(tv 111),(tv 112),(tv 113),(tv 114),(tv 115),(tv 116),(tv 117),(tv 118),(tv 119),(tv 120),(tv 121),(tv 122),(tv 123),(tv 124),(tv 125),(tv 126),(tv 127),(tv 128)],.cells 130 102 [(ti (tv 0)),(tv 1),(.vint .u64 (tv 2)),(.vint .u64 (tv 3)),(ti (tv 4)),(tv 5),(tv 6),(.vint .u64 (tv 7)),(.vbool (tv 8)),(.vbool (.bl false))],.abs 129 4] 140 (.ret 0 (sg 130 [bg 139 140,bt 138 .dnil,bt 137 (tl 2),bt 136 (tl 0),bt 135 (tl 0),(134,.nil),bv 133 7,bv 132 6,bv 131 5,bv 130 1])))
 (.inv 0 140 qfW (fr 140 8 (.hyp 0 140 (.viewL (tv 143) [CK.int .u64,CK.int .u8] [146] 148 (.br (.cmp .lss (tv 142) (.dlen (tv 150)))
 (.br (.cmp .neq (tv 142) (tv 0))
 (tn (tl 0) (tv 142) (ts (tv 142) (tv 16) (ts (tv 142) (.dlen (tv 18)) (tb (.viewL (tv 143) [CK.int .u64,CK.int .u8] [146] 151 (ts (tv 142) (.dlen (tv 153)) (tb (tb (.pre 2 qij (.both (.post 2 0 qij 154 (tb (.pre 4 qmy (tb (fr 154 3 (.post 4 0 qmy 154 qmz)))))) (tb (.post 2 1 qij 154 (tb (.pre 4 qml (tb (fr 154 3 (.post 4 0 qml 154 qmz)))))))))))))))))
 (tn (tl 0) (tv 142) (ts (tv 142) (tv 16) (ts (tv 142) (.dlen (tv 18)) (tb (.viewL (tv 143) [CK.int .u64,CK.int .u8] [146] 151 (ts (tv 142) (.dlen (tv 153)) (tb (tb (.pre 3 qln (tb (.post 3 0 qln 154 (.br (.or (.cmp .gtr (.icell (tv 18) (tv 142) 0) (.icell (tv 153) (tv 142) 0)) (.and (.cmp .eql (.icell (tv 18) (tv 142) 0) (.icell (tv 153) (tv 142) 0)) (.cmp .gtr (.icell (tv 18) (tv 142) 1) (.icell (tv 153) (tv 142) 1))))
 (.br (.cmp .gtr (.icell (tv 18) (tv 142) 0) (tv 145))
 (.back 0 140 (sg 1000 [bg 1006 146,bt 1005 (.icell (tv 18) (tv 142) 0),bv 1004 144,bv 1003 143,bt 1002 (.arith .add .i64 (tv 142) (tl 1)),bg 1001 141,bg 1000 140,bg 1007 147]))
 ql8)
 ql8)))))))))))))
 (.fresh 151 (.both (.br (.cmp .eql (tv 9) (tl 1))
 (.fresh 152 (tn (.tims (tl 352) (tl 1)) (tl 140737488355328) (fr 153 2 (.pack [.cells 152 43 [(tu (tl 2)),(ti (tl 0)),(ti (tv 10)),(.vint .u64 (tv 12)),(ti (tv 13)),(ti (tl 0)),.vnils,.vnils,.vnils,(ti (tl 0)),(tu (tl 0)),(tu (tl 0)),(tu (tl 0)),(tu (tl 0)),(tu (tl 0)),(tu (tl 0)),(tu (tl 0)),(tu (tl 0)),(tu (tl 0)),(tu (tl 0)),(tu (tl 0)),(tu (tl 0)),(tu (tl 0)),(tu (tl 0)),(tu (tl 0)),(tu (tl 0)),(tu (tl 0)),(tu (tl 0)),(tu (tl 0)),(tu (tl 0)),(tu (tl 0)),(tu (tl 0)),(tu (tl 0)),(tu (tl 0)),(tu (tl 0)),(tu (tl 0)),(tu (tl 0)),(tu (tl 0)),(tu (tl 0)),(tu (tl 0)),(tu (tl 0)),(tu (tl 0)),.vnils,(.vbool (.bl false)),(tu (tl 0)),(tu (tl 0)),(tu (tl 0)),(tu (tl 0)),(tu (tl 0)),(tu (tl 0)),(tu (tl 0)),(tu (tl 0)),(tu (tl 0)),(tu (tl 0)),(tu (tl 0)),(tu (tl 0)),(tu (tl 0)),(tu (tl 0)),(tu (tl 0)),(tu (tl 0)),(tu (tl 0)),(tu (tl 0)),(tu (tl 0)),(tu (tl 0)),(tu (tl 0)),(tu (tl 0)),(tu (tl 0)),(tu (tl 0)),(tu (tl 0)),(tu (tl 0)),(tu (tl 0)),(tu (tl 0)),(tu (tl 0)),(tu (tl 0)),(tu (tl 0)),(tu (tl 0)),(ti (tl 0)),(ti (tl 0)),(ti (tl 0)),(ti (tl 0)),(tu (tl 0)),(tu (tl 0)),(tu (tl 0)),(tu (tl 0)),(tu (tl 0)),(tu (tl 0)),(tu (tl 0)),(tu (tl 0)),(tu (tl 0)),(tu (tl 0)),(tu (tl 0)),(tu (tl 0)),(tu (tl 0)),(tu (tl 0)),(tu (tl 0)),(tu (tl 0)),(tu (tl 0)),(tu (tl 0)),(tu (tl 0)),(tu (tl 0)),(tu (tl 0)),(tu (tl 0)),(tu (tl 0)),(tu (tl 0)),(tu (tl 0)),(tu (tl 0)),(tu (tl 0)),(tu (tl 0)),(tu (tl 0)),(tu (tl 0)),(tu (tl 0)),(tu (tl 0)),.vnils,(ti (tl 0)),.vnils,(ti (tl 0))],.cells 141 43 [(tu (tv 9)),(ti (tv 10)),(ti (tv 11)),(.vint .u64 (tv 12)),(ti (tv 13)),(ti (tv 14)),(.vslice 15 (tl 0) (tv 16) (tv 17) 2),(tv 20),(tv 21),(tv 22),(tv 23),(tv 24),(tv 25),(tv 26),(tv 27),(tv 28),(tv 29),(tv 30),(tv 31),(tv 32),(tv 33),(tv 34),(tv 35),(tv 36),(tv 37),(tv 38),(tv 39),(tv 40),(tv 41),(tv 42),(tv 43),(tv 44),(tv 45),(tv 46),(tv 47),(tv 48),(tv 49),(tv 50),(tv 51),(tv 52),(tv 53),(tv 54),(tv 55),(tv 56),(tv 57),(tv 58),(tv 59),(tv 60),(tv 61),(tv 62),(tv 63),(tv 64),(tv 65),(tv 66),(tv 67),(tv 68),(tv 69),(tv 70),(tv 71),(tv 72),(tv 73),(tv 74),(tv 75),(tv 76),(tv 77),(tv 78),(tv 79),(tv 80),(tv 81),(tv 82),(tv 83),(tv 84),(tv 85),(tv 86),(tv 87),(tv 88),(tv 89),(tv 90),(tv 91),(tv 92),(tv 93),(tv 94),(tv 95),(tv 96),(tv 97),(tv 98),(tv 99),(tv 100),(tv 101),(tv 102),(tv 103),(tv 104),(tv 105),(tv 106),(tv 107),(tv 108),(tv 109),(tv 110),(tv 111),(tv 112),(tv 113),(tv 114),(tv 115),(tv 116),(tv 117),(tv 118),(tv 119),(tv 120),(tv 121),(tv 122),(tv 123),(tv 124),(tv 125),(tv 126),(tv 127),(tv 128)],.abs 146 4] 155 (.cut 2 152 (sg 1000 [bg 1010 155,bt 1005 qnR,bv 1009 145,bv 1008 6,bv 1007 144,bv 1006 143,bv 1004 154,bt 1003 (tl 1),bg 1002 153,bg 1001 147,bg 1000 140]))))))
 (.br (.cmp .eql (tv 14) (tv 0))
 (.fresh 152 (tn (.tims (tl 352) (tl 1)) (tl 140737488355328) (fr 153 2 (.pack [.cells 152 43 [(tu (tl 2)),(ti (tl 0)),(ti (tv 10)),(.vint .u64 (tv 12)),(ti (tv 10)),(ti (tl 0)),.vnils,.vnils,.vnils,(ti (tl 0)),(tu (tl 0)),(tu (tl 0)),(tu (tl 0)),(tu (tl 0)),(tu (tl 0)),(tu (tl 0)),(tu (tl 0)),(tu (tl 0)),(tu (tl 0)),(tu (tl 0)),(tu (tl 0)),(tu (tl 0)),(tu (tl 0)),(tu (tl 0)),(tu (tl 0)),(tu (tl 0)),(tu (tl 0)),(tu (tl 0)),(tu (tl 0)),(tu (tl 0)),(tu (tl 0)),(tu (tl 0)),(tu (tl 0)),(tu (tl 0)),(tu (tl 0)),(tu (tl 0)),(tu (tl 0)),(tu (tl 0)),(tu (tl 0)),(tu (tl 0)),(tu (tl 0)),(tu (tl 0)),.vnils,(.vbool (.bl false)),(tu (tl 0)),(tu (tl 0)),(tu (tl 0)),(tu (tl 0)),(tu (tl 0)),(tu (tl 0)),(tu (tl 0)),(tu (tl 0)),(tu (tl 0)),(tu (tl 0)),(tu (tl 0)),(tu (tl 0)),(tu (tl 0)),(tu (tl 0)),(tu (tl 0)),(tu (tl 0)),(tu (tl 0)),(tu (tl 0)),(tu (tl 0)),(tu (tl 0)),(tu (tl 0)),(tu (tl 0)),(tu (tl 0)),(tu (tl 0)),(tu (tl 0)),(tu (tl 0)),(tu (tl 0)),(tu (tl 0)),(tu (tl 0)),(tu (tl 0)),(tu (tl 0)),(tu (tl 0)),(ti (tl 0)),(ti (tl 0)),(ti (tl 0)),(ti (tl 0)),(tu (tl 0)),(tu (tl 0)),(tu (tl 0)),(tu (tl 0)),(tu (tl 0)),(tu (tl 0)),(tu (tl 0)),(tu (tl 0)),(tu (tl 0)),(tu (tl 0)),(tu (tl 0)),(tu (tl 0)),(tu (tl 0)),(tu (tl 0)),(tu (tl 0)),(tu (tl 0)),(tu (tl 0)),(tu (tl 0)),(tu (tl 0)),(tu (tl 0)),(tu (tl 0)),(tu (tl 0)),(tu (tl 0)),(tu (tl 0)),(tu (tl 0)),(tu (tl 0)),(tu (tl 0)),(tu (tl 0)),(tu (tl 0)),(tu (tl 0)),(tu (tl 0)),(tu (tl 0)),.vnils,(ti (tl 0)),.vnils,(ti (tl 0))],.cells 141 43 [(tu (tv 9)),(ti (tv 10)),(ti (tv 11)),(.vint .u64 (tv 12)),(ti (tv 13)),(ti (tv 14)),(.vslice 15 (tl 0) (tv 16) (tv 17) 2),(tv 20),(tv 21),(tv 22),(tv 23),(tv 24),(tv 25),(tv 26),(tv 27),(tv 28),(tv 29),(tv 30),(tv 31),(tv 32),(tv 33),(tv 34),(tv 35),(tv 36),(tv 37),(tv 38),(tv 39),(tv 40),(tv 41),(tv 42),(tv 43),(tv 44),(tv 45),(tv 46),(tv 47),(tv 48),(tv 49),(tv 50),(tv 51),(tv 52),(tv 53),(tv 54),(tv 55),(tv 56),(tv 57),(tv 58),(tv 59),(tv 60),(tv 61),(tv 62),(tv 63),(tv 64),(tv 65),(tv 66),(tv 67),(tv 68),(tv 69),(tv 70),(tv 71),(tv 72),(tv 73),(tv 74),(tv 75),(tv 76),(tv 77),(tv 78),(tv 79),(tv 80),(tv 81),(tv 82),(tv 83),(tv 84),(tv 85),(tv 86),(tv 87),(tv 88),(tv 89),(tv 90),(tv 91),(tv 92),(tv 93),(tv 94),(tv 95),(tv 96),(tv 97),(tv 98),(tv 99),(tv 100),(tv 101),(tv 102),(tv 103),(tv 104),(tv 105),(tv 106),(tv 107),(tv 108),(tv 109),(tv 110),(tv 111),(tv 112),(tv 113),(tv 114),(tv 115),(tv 116),(tv 117),(tv 118),(tv 119),(tv 120),(tv 121),(tv 122),(tv 123),(tv 124),(tv 125),(tv 126),(tv 127),(tv 128)],.abs 146 4] 155 (.cut 2 152 (sg 1000 [bg 1010 155,bt 1005 qon,bv 1009 145,bv 1008 6,bv 1007 144,bv 1006 143,bv 1004 154,bt 1003 (tl 1),bg 1002 153,bg 1001 147,bg 1000 140]))))))
 (.fresh 152 (tn (.tims (tl 352) (tl 1)) (tl 140737488355328) (fr 153 2 (.pack [.cells 152 43 [(tu (tl 1)),(ti (tl 0)),(ti (tv 14)),(.vint .u64 (tv 12)),(ti (tv 10)),(ti (tl 0)),.vnils,.vnils,.vnils,(ti (tl 0)),(tu (tl 0)),(tu (tl 0)),(tu (tl 0)),(tu (tl 0)),(tu (tl 0)),(tu (tl 0)),(tu (tl 0)),(tu (tl 0)),(tu (tl 0)),(tu (tl 0)),(tu (tl 0)),(tu (tl 0)),(tu (tl 0)),(tu (tl 0)),(tu (tl 0)),(tu (tl 0)),(tu (tl 0)),(tu (tl 0)),(tu (tl 0)),(tu (tl 0)),(tu (tl 0)),(tu (tl 0)),(tu (tl 0)),(tu (tl 0)),(tu (tl 0)),(tu (tl 0)),(tu (tl 0)),(tu (tl 0)),(tu (tl 0)),(tu (tl 0)),(tu (tl 0)),(tu (tl 0)),.vnils,(.vbool (.bl false)),(tu (tl 0)),(tu (tl 0)),(tu (tl 0)),(tu (tl 0)),(tu (tl 0)),(tu (tl 0)),(tu (tl 0)),(tu (tl 0)),(tu (tl 0)),(tu (tl 0)),(tu (tl 0)),(tu (tl 0)),(tu (tl 0)),(tu (tl 0)),(tu (tl 0)),(tu (tl 0)),(tu (tl 0)),(tu (tl 0)),(tu (tl 0)),(tu (tl 0)),(tu (tl 0)),(tu (tl 0)),(tu (tl 0)),(tu (tl 0)),(tu (tl 0)),(tu (tl 0)),(tu (tl 0)),(tu (tl 0)),(tu (tl 0)),(tu (tl 0)),(tu (tl 0)),(tu (tl 0)),(ti (tl 0)),(ti (tl 0)),(ti (tl 0)),(ti (tl 0)),(tu (tl 0)),(tu (tl 0)),(tu (tl 0)),(tu (tl 0)),(tu (tl 0)),(tu (tl 0)),(tu (tl 0)),(tu (tl 0)),(tu (tl 0)),(tu (tl 0)),(tu (tl 0)),(tu (tl 0)),(tu (tl 0)),(tu (tl 0)),(tu (tl 0)),(tu (tl 0)),(tu (tl 0)),(tu (tl 0)),(tu (tl 0)),(tu (tl 0)),(tu (tl 0)),(tu (tl 0)),(tu (tl 0)),(tu (tl 0)),(tu (tl 0)),(tu (tl 0)),(tu (tl 0)),(tu (tl 0)),(tu (tl 0)),(tu (tl 0)),(tu (tl 0)),(tu (tl 0)),.vnils,(ti (tl 0)),.vnils,(ti (tl 0))],.cells 141 43 [(tu (tv 9)),(ti (tv 10)),(ti (tv 11)),(.vint .u64 (tv 12)),(ti (tv 13)),(ti (tv 14)),(.vslice 15 (tl 0) (tv 16) (tv 17) 2),(tv 20),(tv 21),(tv 22),(tv 23),(tv 24),(tv 25),(tv 26),(tv 27),(tv 28),(tv 29),(tv 30),(tv 31),(tv 32),(tv 33),(tv 34),(tv 35),(tv 36),(tv 37),(tv 38),(tv 39),(tv 40),(tv 41),(tv 42),(tv 43),(tv 44),(tv 45),(tv 46),(tv 47),(tv 48),(tv 49),(tv 50),(tv 51),(tv 52),(tv 53),(tv 54),(tv 55),(tv 56),(tv 57),(tv 58),(tv 59),(tv 60),(tv 61),(tv 62),(tv 63),(tv 64),(tv 65),(tv 66),(tv 67),(tv 68),(tv 69),(tv 70),(tv 71),(tv 72),(tv 73),(tv 74),(tv 75),(tv 76),(tv 77),(tv 78),(tv 79),(tv 80),(tv 81),(tv 82),(tv 83),(tv 84),(tv 85),(tv 86),(tv 87),(tv 88),(tv 89),(tv 90),(tv 91),(tv 92),(tv 93),(tv 94),(tv 95),(tv 96),(tv 97),(tv 98),(tv 99),(tv 100),(tv 101),(tv 102),(tv 103),(tv 104),(tv 105),(tv 106),(tv 107),(tv 108),(tv 109),(tv 110),(tv 111),(tv 112),(tv 113),(tv 114),(tv 115),(tv 116),(tv 117),(tv 118),(tv 119),(tv 120),(tv 121),(tv 122),(tv 123),(tv 124),(tv 125),(tv 126),(tv 127),(tv 128)],.abs 146 4] 155 (.cut 2 152 (sg 1000 [bg 1010 155,bt 1005 qoT,bv 1009 145,bv 1008 6,bv 1007 144,bv 1006 143,bv 1004 154,bt 1003 (tl 1),bg 1002 153,bg 1001 147,bg 1000 140])))))))) (fr 152 11 (.hyp 2 152 (tb (.pre 5 qmR (tb (fr 163 5 (.post 5 0 qmR 163 (tb (.pack [.abs 167 4,.cells 153 102 [(ti (tv 0)),(tv 158),(.vint .u64 (tv 2)),(.vint .u64 (tv 3)),(ti (tv 4)),(tv 159),(tv 160),(.vint .u64 (tv 161)),(.vbool (tv 8)),(.vbool (.bl false))],.cells 152 102 [(ti (tv 0)),(tv 158),(.vint .u64 (tv 2)),(.vint .u64 (tv 3)),(ti (tv 4)),(tv 159),(tv 160),(.vint .u64 (tv 161)),(.vbool (tv 8)),(.vbool (.bl false))],.arr 154 43 qb0 (tv 157) (tv 156)] 168 (.ret 0 (sg 130 [bg 139 168,bv 138 166,bt 137 (tl 0),bv 136 165,bv 135 164,bg 134 163,bv 133 161,bv 132 160,bv 131 159,bv 130 158])))))))))))))))))))))))
 (.inv 0 139 qfW (fr 139 8 (.hyp 0 139 (.viewL (tv 142) [CK.int .u64,CK.int .u8] [145] 147 (.br (.cmp .lss (tv 141) (.dlen (tv 149)))
 qoK
 (.fresh 150 (.both (.br (.cmp .eql (tv 9) (tl 1))
 qoc
 (.br (.cmp .neq (tv 13) (tv 0))
 (.fresh 151 (tn (.tims (tl 352) (tl 1)) (tl 140737488355328) (fr 152 2 (.pack [.cells 151 43 [(tu (tl 2)),(ti (tl 0)),(ti (tv 13)),(.vint .u64 (tv 12)),(ti (tv 13)),(ti (tl 0)),.vnils,.vnils,.vnils,(ti (tl 0)),(tu (tl 0)),(tu (tl 0)),(tu (tl 0)),(tu (tl 0)),(tu (tl 0)),(tu (tl 0)),(tu (tl 0)),(tu (tl 0)),(tu (tl 0)),(tu (tl 0)),(tu (tl 0)),(tu (tl 0)),(tu (tl 0)),(tu (tl 0)),(tu (tl 0)),(tu (tl 0)),(tu (tl 0)),(tu (tl 0)),(tu (tl 0)),(tu (tl 0)),(tu (tl 0)),(tu (tl 0)),(tu (tl 0)),(tu (tl 0)),(tu (tl 0)),(tu (tl 0)),(tu (tl 0)),(tu (tl 0)),(tu (tl 0)),(tu (tl 0)),(tu (tl 0)),(tu (tl 0)),.vnils,(.vbool (.bl false)),(tu (tl 0)),(tu (tl 0)),(tu (tl 0)),(tu (tl 0)),(tu (tl 0)),(tu (tl 0)),(tu (tl 0)),(tu (tl 0)),(tu (tl 0)),(tu (tl 0)),(tu (tl 0)),(tu (tl 0)),(tu (tl 0)),(tu (tl 0)),(tu (tl 0)),(tu (tl 0)),(tu (tl 0)),(tu (tl 0)),(tu (tl 0)),(tu (tl 0)),(tu (tl 0)),(tu (tl 0)),(tu (tl 0)),(tu (tl 0)),(tu (tl 0)),(tu (tl 0)),(tu (tl 0)),(tu (tl 0)),(tu (tl 0)),(tu (tl 0)),(tu (tl 0)),(tu (tl 0)),(ti (tl 0)),(ti (tl 0)),(ti (tl 0)),(ti (tl 0)),(tu (tl 0)),(tu (tl 0)),(tu (tl 0)),(tu (tl 0)),(tu (tl 0)),(tu (tl 0)),(tu (tl 0)),(tu (tl 0)),(tu (tl 0)),(tu (tl 0)),(tu (tl 0)),(tu (tl 0)),(tu (tl 0)),(tu (tl 0)),(tu (tl 0)),(tu (tl 0)),(tu (tl 0)),(tu (tl 0)),(tu (tl 0)),(tu (tl 0)),(tu (tl 0)),(tu (tl 0)),(tu (tl 0)),(tu (tl 0)),(tu (tl 0)),(tu (tl 0)),(tu (tl 0)),(tu (tl 0)),(tu (tl 0)),(tu (tl 0)),(tu (tl 0)),(tu (tl 0)),.vnils,(ti (tl 0)),.vnils,(ti (tl 0))],.cells 140 43 [(tu (tv 9)),(ti (tv 10)),(ti (tv 11)),(.vint .u64 (tv 12)),(ti (tv 13)),(ti (tv 14)),(.vslice 15 (tl 0) (tv 16) (tv 17) 2),(tv 20),(tv 21),(tv 22),(tv 23),(tv 24),(tv 25),(tv 26),(tv 27),(tv 28),(tv 29),(tv 30),(tv 31),(tv 32),(tv 33),(tv 34),(tv 35),(tv 36),(tv 37),(tv 38),(tv 39),(tv 40),(tv 41),(tv 42),(tv 43),(tv 44),(tv 45),(tv 46),(tv 47),(tv 48),(tv 49),(tv 50),(tv 51),(tv 52),(tv 53),(tv 54),(tv 55),(tv 56),(tv 57),(tv 58),(tv 59),(tv 60),(tv 61),(tv 62),(tv 63),(tv 64),(tv 65),(tv 66),(tv 67),(tv 68),(tv 69),(tv 70),(tv 71),(tv 72),(tv 73),(tv 74),(tv 75),(tv 76),(tv 77),(tv 78),(tv 79),(tv 80),(tv 81),(tv 82),(tv 83),(tv 84),(tv 85),(tv 86),(tv 87),(tv 88),(tv 89),(tv 90),(tv 91),(tv 92),(tv 93),(tv 94),(tv 95),(tv 96),(tv 97),(tv 98),(tv 99),(tv 100),(tv 101),(tv 102),(tv 103),(tv 104),(tv 105),(tv 106),(tv 107),(tv 108),(tv 109),(tv 110),(tv 111),(tv 112),(tv 113),(tv 114),(tv 115),(tv 116),(tv 117),(tv 118),(tv 119),(tv 120),(tv 121),(tv 122),(tv 123),(tv 124),(tv 125),(tv 126),(tv 127),(tv 128)],.abs 145 4] 154 (.cut 2 151 (sg 1000 [bg 1010 154,bt 1005 qoi,bv 1009 144,bv 1008 6,bv 1007 143,bv 1006 142,bv 1004 153,bt 1003 (tl 1),bg 1002 152,bg 1001 146,bg 1000 139]))))))
 (.fresh 151 (.inv 1 152 (sg 1000 [bg 1006 145,bt 1015 .dnil,bt 1010 .dnil,bv 1005 144,bv 1004 143,bv 1003 142,bt 1011 (tl 0),bt 1009 (tl 0),bt 1008 (tl 0),bg 1007 151,bt 1014 (tl 0),bt 1013 (tl 0),bg 1012 150,bg 1001 140,bg 1000 139,bg 1016 146]) (fr 152 17 (.hyp 1 152 (.viewL (tv 6) [CK.int .u64,CK.int .i64,CK.int .u64,CK.bool] [158] 169 (.br (.cmp .lss (tv 163) (.dlen (tv 171)))
 (tb (.viewL (tv 6) [CK.int .u64,CK.int .i64,CK.int .u64,CK.bool] [158] 172 (tn (tl 0) (tv 163) (ts (tv 163) (.dlen (tv 174)) (.br (.cmp .neq (.icell (tv 174) (tv 163) 0) (tv 12))
 (.viewL (tv 6) [CK.int .u64,CK.int .i64,CK.int .u64,CK.bool] [158] 175 (ts (tv 163) (.dlen (tv 177)) (.fresh 178 (.need (.cmp .eql (tv 160) (.dlen (tv 162))) (tn (.tims (tl 32) (.plus (tv 160) (tl 1))) (tl 140737488355328) (fr 179 2 (.pack [.cells 178 63 [(.vint .u64 (.icell (tv 177) (tv 163) 0)),(ti (.icell (tv 177) (tv 163) 1)),(.vint .u64 (.icell (tv 177) (tv 163) 2)),(.vbool (.bcell (tv 177) (tv 163) 3))],.abs 158 4] 181 (.back 1 152 (sg 1000 [bg 1006 181,bv 1015 167,bt 1010 (.dapp (tv 162) (.rcons (.vint .u64 (.icell (tv 177) (tv 163) 0)) (.rcons (ti (.icell (tv 177) (tv 163) 1)) (.rcons (.vint .u64 (.icell (tv 177) (tv 163) 2)) (.rcons (.vbool (.bcell (tv 177) (tv 163) 3)) .rnil))))),bv 1005 157,bv 1004 156,bv 1003 155,bt 1011 (.arith .add .i64 (tv 163) (tl 1)),bv 1009 180,bt 1008 (.plus (tv 160) (tl 1)),bg 1007 179,bv 1014 166,bv 1013 165,bg 1012 164,bg 1001 153,bg 1000 152,bg 1016 168])))))))))
 (.back 1 152 (sg 1000 [bg 1006 158,bv 1015 167,bv 1010 162,bv 1005 157,bv 1004 156,bv 1003 155,bt 1011 (.arith .add .i64 (tv 163) (tl 1)),bv 1009 161,bv 1008 160,bg 1007 159,bv 1014 166,bv 1013 165,bg 1012 164,bg 1001 153,bg 1000 152,bg 1016 168])))))))
 (.pack [.cells 153 43 [(tu (tv 9)),(ti (tv 10)),(ti (tv 11)),(.vint .u64 (tv 12)),(ti (tv 13)),(ti (tv 14)),(.vslice 15 (tl 0) (tv 16) (tv 17) 2),(tv 20),(tv 21),(tv 22),(tv 23),(tv 24),(tv 25),(tv 26),(tv 27),(tv 28),(tv 29),(tv 30),(tv 31),(tv 32),(tv 33),(tv 34),(tv 35),(tv 36),(tv 37),(tv 38),(tv 39),(tv 40),(tv 41),(tv 42),(tv 43),(tv 44),(tv 45),(tv 46),(tv 47),(tv 48),(tv 49),(tv 50),(tv 51),(tv 52),(tv 53),(tv 54),(tv 55),(tv 56),(tv 57),(tv 58),(tv 59),(tv 60),(tv 61),(tv 62),(tv 63),(tv 64),(tv 65),(tv 66),(tv 67),(tv 68),(tv 69),(tv 70),(tv 71),(tv 72),(tv 73),(tv 74),(tv 75),(tv 76),(tv 77),(tv 78),(tv 79),(tv 80),(tv 81),(tv 82),(tv 83),(tv 84),(tv 85),(tv 86),(tv 87),(tv 88),(tv 89),(tv 90),(tv 91),(tv 92),(tv 93),(tv 94),(tv 95),(tv 96),(tv 97),(tv 98),(tv 99),(tv 100),(tv 101),(tv 102),(tv 103),(tv 104),(tv 105),(tv 106),(tv 107),(tv 108),(tv 109),(tv 110),(tv 111),(tv 112),(tv 113),(tv 114),(tv 115),(tv 116),(tv 117),(tv 118),(tv 119),(tv 120),(tv 121),(tv 122),(tv 123),(tv 124),(tv 125),(tv 126),(tv 127),(tv 128)],.arr 159 63 [CK.int .u64,CK.int .i64,CK.int .u64,CK.bool] (tv 162) (tv 161),.abs 158 4] 172 (.cut 2 151 (sg 1000 [bg 1010 172,bv 1005 167,bv 1009 157,bt 1008 (.vslice 159 (tl 0) (tv 160) (tv 161) 4),bv 1007 156,bv 1006 155,bv 1004 166,bv 1003 165,bg 1002 164,bg 1001 168,bg 1000 152]))))))))))) qm1)))))))))))))
 (.br (.cmp .eql (tv 9) (tl 3))
 (.pre 0 qga (tb (.fresh 138 (.post 0 0 qga 138 (.br (.not (tv 138))
 qoS
 (.inv 0 139 qfW (fr 139 8 (.hyp 0 139 (.viewL (tv 142) [CK.int .u64,CK.int .u8] [145] 147 (.br (.cmp .lss (tv 141) (.dlen (tv 149)))
 qoK
 (.fresh 150 (.both (.br (.cmp .eql (tv 9) (tl 1))
 qoc
 (.br (.cmp .eql (tv 14) (tv 0))
 (.fresh 151 (tn (.tims (tl 352) (tl 1)) (tl 140737488355328) (fr 152 2 (.pack [.cells 151 43 [(tu (tl 2)),(ti (tl 0)),(ti (tv 10)),(.vint .u64 (tv 12)),(ti (tv 10)),(ti (tl 0)),.vnils,.vnils,.vnils,(ti (tl 0)),(tu (tl 0)),(tu (tl 0)),(tu (tl 0)),(tu (tl 0)),(tu (tl 0)),(tu (tl 0)),(tu (tl 0)),(tu (tl 0)),(tu (tl 0)),(tu (tl 0)),(tu (tl 0)),(tu (tl 0)),(tu (tl 0)),(tu (tl 0)),(tu (tl 0)),(tu (tl 0)),(tu (tl 0)),(tu (tl 0)),(tu (tl 0)),(tu (tl 0)),(tu (tl 0)),(tu (tl 0)),(tu (tl 0)),(tu (tl 0)),(tu (tl 0)),(tu (tl 0)),(tu (tl 0)),(tu (tl 0)),(tu (tl 0)),(tu (tl 0)),(tu (tl 0)),(tu (tl 0)),.vnils,(.vbool (.bl false)),(tu (tl 0)),(tu (tl 0)),(tu (tl 0)),(tu (tl 0)),(tu (tl 0)),(tu (tl 0)),(tu (tl 0)),(tu (tl 0)),(tu (tl 0)),(tu (tl 0)),(tu (tl 0)),(tu (tl 0)),(tu (tl 0)),(tu (tl 0)),(tu (tl 0)),(tu (tl 0)),(tu (tl 0)),(tu (tl 0)),(tu (tl 0)),(tu (tl 0)),(tu (tl 0)),(tu (tl 0)),(tu (tl 0)),(tu (tl 0)),(tu (tl 0)),(tu (tl 0)),(tu (tl 0)),(tu (tl 0)),(tu (tl 0)),(tu (tl 0)),(tu (tl 0)),(tu (tl 0)),(ti (tl 0)),(ti (tl 0)),(ti (tl 0)),(ti (tl 0)),(tu (tl 0)),(tu (tl 0)),(tu (tl 0)),(tu (tl 0)),(tu (tl 0)),(tu (tl 0)),(tu (tl 0)),(tu (tl 0)),(tu (tl 0)),(tu (tl 0)),(tu (tl 0)),(tu (tl 0)),(tu (tl 0)),(tu (tl 0)),(tu (tl 0)),(tu (tl 0)),(tu (tl 0)),(tu (tl 0)),(tu (tl 0)),(tu (tl 0)),(tu (tl 0)),(tu (tl 0)),(tu (tl 0)),(tu (tl 0)),(tu (tl 0)),(tu (tl 0)),(tu (tl 0)),(tu (tl 0)),(tu (tl 0)),(tu (tl 0)),(tu (tl 0)),(tu (tl 0)),.vnils,(ti (tl 0)),.vnils,(ti (tl 0))],.cells 140 43 [(tu (tv 9)),(ti (tv 10)),(ti (tv 11)),(.vint .u64 (tv 12)),(ti (tv 13)),(ti (tv 14)),(.vslice 15 (tl 0) (tv 16) (tv 17) 2),(tv 20),(tv 21),(tv 22),(tv 23),(tv 24),(tv 25),(tv 26),(tv 27),(tv 28),(tv 29),(tv 30),(tv 31),(tv 32),(tv 33),(tv 34),(tv 35),(tv 36),(tv 37),(tv 38),(tv 39),(tv 40),(tv 41),(tv 42),(tv 43),(tv 44),(tv 45),(tv 46),(tv 47),(tv 48),(tv 49),(tv 50),(tv 51),(tv 52),(tv 53),(tv 54),(tv 55),(tv 56),(tv 57),(tv 58),(tv 59),(tv 60),(tv 61),(tv 62),(tv 63),(tv 64),(tv 65),(tv 66),(tv 67),(tv 68),(tv 69),(tv 70),(tv 71),(tv 72),(tv 73),(tv 74),(tv 75),(tv 76),(tv 77),(tv 78),(tv 79),(tv 80),(tv 81),(tv 82),(tv 83),(tv 84),(tv 85),(tv 86),(tv 87),(tv 88),(tv 89),(tv 90),(tv 91),(tv 92),(tv 93),(tv 94),(tv 95),(tv 96),(tv 97),(tv 98),(tv 99),(tv 100),(tv 101),(tv 102),(tv 103),(tv 104),(tv 105),(tv 106),(tv 107),(tv 108),(tv 109),(tv 110),(tv 111),(tv 112),(tv 113),(tv 114),(tv 115),(tv 116),(tv 117),(tv 118),(tv 119),(tv 120),(tv 121),(tv 122),(tv 123),(tv 124),(tv 125),(tv 126),(tv 127),(tv 128)],.abs 145 4] 154 (.cut 2 151 (sg 1000 [bg 1010 154,bt 1005 qon,bv 1009 144,bv 1008 6,bv 1007 143,bv 1006 142,bv 1004 153,bt 1003 (tl 1),bg 1002 152,bg 1001 146,bg 1000 139]))))))
 (.fresh 151 (tn (.tims (tl 352) (tl 1)) (tl 140737488355328) (fr 152 2 (.pack [.cells 151 43 [(tu (tl 1)),(ti (tl 0)),(ti (tv 14)),(.vint .u64 (tv 12)),(ti (tv 10)),(ti (tl 0)),.vnils,.vnils,.vnils,(ti (tl 0)),(tu (tl 0)),(tu (tl 0)),(tu (tl 0)),(tu (tl 0)),(tu (tl 0)),(tu (tl 0)),(tu (tl 0)),(tu (tl 0)),(tu (tl 0)),(tu (tl 0)),(tu (tl 0)),(tu (tl 0)),(tu (tl 0)),(tu (tl 0)),(tu (tl 0)),(tu (tl 0)),(tu (tl 0)),(tu (tl 0)),(tu (tl 0)),(tu (tl 0)),(tu (tl 0)),(tu (tl 0)),(tu (tl 0)),(tu (tl 0)),(tu (tl 0)),(tu (tl 0)),(tu (tl 0)),(tu (tl 0)),(tu (tl 0)),(tu (tl 0)),(tu (tl 0)),(tu (tl 0)),.vnils,(.vbool (.bl false)),(tu (tl 0)),(tu (tl 0)),(tu (tl 0)),(tu (tl 0)),(tu (tl 0)),(tu (tl 0)),(tu (tl 0)),(tu (tl 0)),(tu (tl 0)),(tu (tl 0)),(tu (tl 0)),(tu (tl 0)),(tu (tl 0)),(tu (tl 0)),(tu (tl 0)),(tu (tl 0)),(tu (tl 0)),(tu (tl 0)),(tu (tl 0)),(tu (tl 0)),(tu (tl 0)),(tu (tl 0)),(tu (tl 0)),(tu (tl 0)),(tu (tl 0)),(tu (tl 0)),(tu (tl 0)),(tu (tl 0)),(tu (tl 0)),(tu (tl 0)),(tu (tl 0)),(tu (tl 0)),(ti (tl 0)),(ti (tl 0)),(ti (tl 0)),(ti (tl 0)),(tu (tl 0)),(tu (tl 0)),(tu (tl 0)),(tu (tl 0)),(tu (tl 0)),(tu (tl 0)),(tu (tl 0)),(tu (tl 0)),(tu (tl 0)),(tu (tl 0)),(tu (tl 0)),(tu (tl 0)),(tu (tl 0)),(tu (tl 0)),(tu (tl 0)),(tu (tl 0)),(tu (tl 0)),(tu (tl 0)),(tu (tl 0)),(tu (tl 0)),(tu (tl 0)),(tu (tl 0)),(tu (tl 0)),(tu (tl 0)),(tu (tl 0)),(tu (tl 0)),(tu (tl 0)),(tu (tl 0)),(tu (tl 0)),(tu (tl 0)),(tu (tl 0)),(tu (tl 0)),.vnils,(ti (tl 0)),.vnils,(ti (tl 0))],.cells 140 43 [(tu (tv 9)),(ti (tv 10)),(ti (tv 11)),(.vint .u64 (tv 12)),(ti (tv 13)),(ti (tv 14)),(.vslice 15 (tl 0) (tv 16) (tv 17) 2),(tv 20),(tv 21),(tv 22),(tv 23),(tv 24),(tv 25),(tv 26),(tv 27),(tv 28),(tv 29),(tv 30),(tv 31),(tv 32),(tv 33),(tv 34),(tv 35),(tv 36),(tv 37),(tv 38),(tv 39),(tv 40),(tv 41),(tv 42),(tv 43),(tv 44),(tv 45),(tv 46),(tv 47),(tv 48),(tv 49),(tv 50),(tv 51),(tv 52),(tv 53),(tv 54),(tv 55),(tv 56),(tv 57),(tv 58),(tv 59),(tv 60),(tv 61),(tv 62),(tv 63),(tv 64),(tv 65),(tv 66),(tv 67),(tv 68),(tv 69),(tv 70),(tv 71),(tv 72),(tv 73),(tv 74),(tv 75),(tv 76),(tv 77),(tv 78),(tv 79),(tv 80),(tv 81),(tv 82),(tv 83),(tv 84),(tv 85),(tv 86),(tv 87),(tv 88),(tv 89),(tv 90),(tv 91),(tv 92),(tv 93),(tv 94),(tv 95),(tv 96),(tv 97),(tv 98),(tv 99),(tv 100),(tv 101),(tv 102),(tv 103),(tv 104),(tv 105),(tv 106),(tv 107),(tv 108),(tv 109),(tv 110),(tv 111),(tv 112),(tv 113),(tv 114),(tv 115),(tv 116),(tv 117),(tv 118),(tv 119),(tv 120),(tv 121),(tv 122),(tv 123),(tv 124),(tv 125),(tv 126),(tv 127),(tv 128)],.abs 145 4] 154 (.cut 2 151 (sg 1000 [bg 1010 154,bt 1005 qoT,bv 1009 144,bv 1008 6,bv 1007 143,bv 1006 142,bv 1004 153,bt 1003 (tl 1),bg 1002 152,bg 1001 146,bg 1000 139])))))))) qm1))))))))))))
 (.inv 0 138 qfW (fr 138 8 (.hyp 0 138 (.viewL (tv 141) [CK.int .u64,CK.int .u8] [144] 146 (.br (.cmp .lss (tv 140) (.dlen (tv 148)))
 (.br (.cmp .neq (tv 140) (tv 0))
 (tn (tl 0) (tv 140) (ts (tv 140) (tv 16) (ts (tv 140) (.dlen (tv 18)) (tb (.viewL (tv 141) [CK.int .u64,CK.int .u8] [144] 149 (ts (tv 140) (.dlen (tv 151)) (tb (tb (.pre 2 qis (.both (.post 2 0 qis 152 (tb (.pre 4 qmS (tb (fr 152 3 (.post 4 0 qmS 152 ql3)))))) (tb (.post 2 1 qis 152 (tb (.pre 4 ql9 (tb (fr 152 3 (.post 4 0 ql9 152 ql3)))))))))))))))))
 (tn (tl 0) (tv 140) (ts (tv 140) (tv 16) (ts (tv 140) (.dlen (tv 18)) (tb (.viewL (tv 141) [CK.int .u64,CK.int .u8] [144] 149 (ts (tv 140) (.dlen (tv 151)) (tb (tb (.pre 3 qlJ (tb (.post 3 0 qlJ 152 (.br (.or (.cmp .gtr (.icell (tv 18) (tv 140) 0) (.icell (tv 151) (tv 140) 0)) (.and (.cmp .eql (.icell (tv 18) (tv 140) 0) (.icell (tv 151) (tv 140) 0)) (.cmp .gtr (.icell (tv 18) (tv 140) 1) (.icell (tv 151) (tv 140) 1))))
 (.br (.cmp .gtr (.icell (tv 18) (tv 140) 0) (tv 143))
 (.back 0 138 (sg 1000 [bg 1006 144,bt 1005 (.icell (tv 18) (tv 140) 0),bv 1004 142,bv 1003 141,bt 1002 (.arith .add .i64 (tv 140) (tl 1)),bg 1001 139,bg 1000 138,bg 1007 145]))
 qlY)
 qlY)))))))))))))
 (.fresh 149 (.both (.br (.cmp .eql (tv 9) (tl 1))
 (.fresh 150 (tn (.tims (tl 352) (tl 1)) (tl 140737488355328) (fr 151 2 (.pack [.cells 150 43 [(tu (tl 2)),(ti (tl 0)),(ti (tv 10)),(.vint .u64 (tv 12)),(ti (tv 13)),(ti (tl 0)),.vnils,.vnils,.vnils,(ti (tl 0)),(tu (tl 0)),(tu (tl 0)),(tu (tl 0)),(tu (tl 0)),(tu (tl 0)),(tu (tl 0)),(tu (tl 0)),(tu (tl 0)),(tu (tl 0)),(tu (tl 0)),(tu (tl 0)),(tu (tl 0)),(tu (tl 0)),(tu (tl 0)),(tu (tl 0)),(tu (tl 0)),(tu (tl 0)),(tu (tl 0)),(tu (tl 0)),(tu (tl 0)),(tu (tl 0)),(tu (tl 0)),(tu (tl 0)),(tu (tl 0)),(tu (tl 0)),(tu (tl 0)),(tu (tl 0)),(tu (tl 0)),(tu (tl 0)),(tu (tl 0)),(tu (tl 0)),(tu (tl 0)),.vnils,(.vbool (.bl false)),(tu (tl 0)),(tu (tl 0)),(tu (tl 0)),(tu (tl 0)),(tu (tl 0)),(tu (tl 0)),(tu (tl 0)),(tu (tl 0)),(tu (tl 0)),(tu (tl 0)),(tu (tl 0)),(tu (tl 0)),(tu (tl 0)),(tu (tl 0)),(tu (tl 0)),(tu (tl 0)),(tu (tl 0)),(tu (tl 0)),(tu (tl 0)),(tu (tl 0)),(tu (tl 0)),(tu (tl 0)),(tu (tl 0)),(tu (tl 0)),(tu (tl 0)),(tu (tl 0)),(tu (tl 0)),(tu (tl 0)),(tu (tl 0)),(tu (tl 0)),(tu (tl 0)),(tu (tl 0)),(ti (tl 0)),(ti (tl 0)),(ti (tl 0)),(ti (tl 0)),(tu (tl 0)),(tu (tl 0)),(tu (tl 0)),(tu (tl 0)),(tu (tl 0)),(tu (tl 0)),(tu (tl 0)),(tu (tl 0)),(tu (tl 0)),(tu (tl 0)),(tu (tl 0)),(tu (tl 0)),(tu (tl 0)),(tu (tl 0)),(tu (tl 0)),(tu (tl 0)),(tu (tl 0)),(tu (tl 0)),(tu (tl 0)),(tu (tl 0)),(tu (tl 0)),(tu (tl 0)),(tu (tl 0)),(tu (tl 0)),(tu (tl 0)),(tu (tl 0)),(tu (tl 0)),(tu (tl 0)),(tu (tl 0)),(tu (tl 0)),(tu (tl 0)),(tu (tl 0)),.vnils,(ti (tl 0)),.vnils,(ti (tl 0))],.cells 139 43 [(tu (tv 9)),(ti (tv 10)),(ti (tv 11)),(.vint .u64 (tv 12)),(ti (tv 13)),(ti (tv 14)),(.vslice 15 (tl 0) (tv 16) (tv 17) 2),(tv 20),(tv 21),(tv 22),(tv 23),(tv 24),(tv 25),(tv 26),(tv 27),(tv 28),(tv 29),(tv 30),(tv 31),(tv 32),(tv 33),(tv 34),(tv 35),(tv 36),(tv 37),(tv 38),(tv 39),(tv 40),(tv 41),(tv 42),(tv 43),(tv 44),(tv 45),(tv 46),(tv 47),(tv 48),(tv 49),(tv 50),(tv 51),(tv 52),(tv 53),(tv 54),(tv 55),(tv 56),(tv 57),(tv 58),(tv 59),(tv 60),(tv 61),(tv 62),(tv 63),(tv 64),(tv 65),(tv 66),(tv 67),(tv 68),(tv 69),(tv 70),(tv 71),(tv 72),(tv 73),(tv 74),(tv 75),(tv 76),(tv 77),(tv 78),(tv 79),(tv 80),(tv 81),(tv 82),(tv 83),(tv 84),(tv 85),(tv 86),(tv 87),(tv 88),(tv 89),(tv 90),(tv 91),(tv 92),(tv 93),(tv 94),(tv 95),(tv 96),(tv 97),(tv 98),(tv 99),(tv 100),(tv 101),(tv 102),(tv 103),(tv 104),(tv 105),(tv 106),(tv 107),(tv 108),(tv 109),(tv 110),(tv 111),(tv 112),(tv 113),(tv 114),(tv 115),(tv 116),(tv 117),(tv 118),(tv 119),(tv 120),(tv 121),(tv 122),(tv 123),(tv 124),(tv 125),(tv 126),(tv 127),(tv 128)],.abs 144 4] 153 (.cut 2 150 (sg 1000 [bg 1010 153,bt 1005 qnR,bv 1009 143,bv 1008 6,bv 1007 142,bv 1006 141,bv 1004 152,bt 1003 (tl 1),bg 1002 151,bg 1001 145,bg 1000 138]))))))
 (.br (.cmp .neq (tv 13) (tv 0))
 (.fresh 150 (tn (.tims (tl 352) (tl 1)) (tl 140737488355328) (fr 151 2 (.pack [.cells 150 43 [(tu (tl 2)),(ti (tl 0)),(ti (tv 13)),(.vint .u64 (tv 12)),(ti (tv 13)),(ti (tl 0)),.vnils,.vnils,.vnils,(ti (tl 0)),(tu (tl 0)),(tu (tl 0)),(tu (tl 0)),(tu (tl 0)),(tu (tl 0)),(tu (tl 0)),(tu (tl 0)),(tu (tl 0)),(tu (tl 0)),(tu (tl 0)),(tu (tl 0)),(tu (tl 0)),(tu (tl 0)),(tu (tl 0)),(tu (tl 0)),(tu (tl 0)),(tu (tl 0)),(tu (tl 0)),(tu (tl 0)),(tu (tl 0)),(tu (tl 0)),(tu (tl 0)),(tu (tl 0)),(tu (tl 0)),(tu (tl 0)),(tu (tl 0)),(tu (tl 0)),(tu (tl 0)),(tu (tl 0)),(tu (tl 0)),(tu (tl 0)),(tu (tl 0)),.vnils,(.vbool (.bl false)),(tu (tl 0)),(tu (tl 0)),(tu (tl 0)),(tu (tl 0)),(tu (tl 0)),(tu (tl 0)),(tu (tl 0)),(tu (tl 0)),(tu (tl 0)),(tu (tl 0)),(tu (tl 0)),(tu (tl 0)),(tu (tl 0)),(tu (tl 0)),(tu (tl 0)),(tu (tl 0)),(tu (tl 0)),(tu (tl 0)),(tu (tl 0)),(tu (tl 0)),(tu (tl 0)),(tu (tl 0)),(tu (tl 0)),(tu (tl 0)),(tu (tl 0)),(tu (tl 0)),(tu (tl 0)),(tu (tl 0)),(tu (tl 0)),(tu (tl 0)),(tu (tl 0)),(tu (tl 0)),(ti (tl 0)),(ti (tl 0)),(ti (tl 0)),(ti (tl 0)),(tu (tl 0)),(tu (tl 0)),(tu (tl 0)),(tu (tl 0)),(tu (tl 0)),(tu (tl 0)),(tu (tl 0)),(tu (tl 0)),(tu (tl 0)),(tu (tl 0)),(tu (tl 0)),(tu (tl 0)),(tu (tl 0)),(tu (tl 0)),(tu (tl 0)),(tu (tl 0)),(tu (tl 0)),(tu (tl 0)),(tu (tl 0)),(tu (tl 0)),(tu (tl 0)),(tu (tl 0)),(tu (tl 0)),(tu (tl 0)),(tu (tl 0)),(tu (tl 0)),(tu (tl 0)),(tu (tl 0)),(tu (tl 0)),(tu (tl 0)),(tu (tl 0)),(tu (tl 0)),.vnils,(ti (tl 0)),.vnils,(ti (tl 0))],.cells 139 43 [(tu (tv 9)),(ti (tv 10)),(ti (tv 11)),(.vint .u64 (tv 12)),(ti (tv 13)),(ti (tv 14)),(.vslice 15 (tl 0) (tv 16) (tv 17) 2),(tv 20),(tv 21),(tv 22),(tv 23),(tv 24),(tv 25),(tv 26),(tv 27),(tv 28),(tv 29),(tv 30),(tv 31),(tv 32),(tv 33),(tv 34),(tv 35),(tv 36),(tv 37),(tv 38),(tv 39),(tv 40),(tv 41),(tv 42),(tv 43),(tv 44),(tv 45),(tv 46),(tv 47),(tv 48),(tv 49),(tv 50),(tv 51),(tv 52),(tv 53),(tv 54),(tv 55),(tv 56),(tv 57),(tv 58),(tv 59),(tv 60),(tv 61),(tv 62),(tv 63),(tv 64),(tv 65),(tv 66),(tv 67),(tv 68),(tv 69),(tv 70),(tv 71),(tv 72),(tv 73),(tv 74),(tv 75),(tv 76),(tv 77),(tv 78),(tv 79),(tv 80),(tv 81),(tv 82),(tv 83),(tv 84),(tv 85),(tv 86),(tv 87),(tv 88),(tv 89),(tv 90),(tv 91),(tv 92),(tv 93),(tv 94),(tv 95),(tv 96),(tv 97),(tv 98),(tv 99),(tv 100),(tv 101),(tv 102),(tv 103),(tv 104),(tv 105),(tv 106),(tv 107),(tv 108),(tv 109),(tv 110),(tv 111),(tv 112),(tv 113),(tv 114),(tv 115),(tv 116),(tv 117),(tv 118),(tv 119),(tv 120),(tv 121),(tv 122),(tv 123),(tv 124),(tv 125),(tv 126),(tv 127),(tv 128)],.abs 144 4] 153 (.cut 2 150 (sg 1000 [bg 1010 153,bt 1005 qoi,bv 1009 143,bv 1008 6,bv 1007 142,bv 1006 141,bv 1004 152,bt 1003 (tl 1),bg 1002 151,bg 1001 145,bg 1000 138]))))))
 (.fresh 150 (.inv 1 151 (sg 1000 [bg 1006 144,bt 1015 .dnil,bt 1010 .dnil,bv 1005 143,bv 1004 142,bv 1003 141,bt 1011 (tl 0),bt 1009 (tl 0),bt 1008 (tl 0),bg 1007 150,bt 1014 (tl 0),bt 1013 (tl 0),bg 1012 149,bg 1001 139,bg 1000 138,bg 1016 145]) (fr 151 17 (.hyp 1 151 (.viewL (tv 6) [CK.int .u64,CK.int .i64,CK.int .u64,CK.bool] [157] 168 (.br (.cmp .lss (tv 162) (.dlen (tv 170)))
 (tb (.viewL (tv 6) [CK.int .u64,CK.int .i64,CK.int .u64,CK.bool] [157] 171 (tn (tl 0) (tv 162) (ts (tv 162) (.dlen (tv 173)) (.br (.cmp .neq (.icell (tv 173) (tv 162) 0) (tv 12))
 (.viewL (tv 6) [CK.int .u64,CK.int .i64,CK.int .u64,CK.bool] [157] 174 (ts (tv 162) (.dlen (tv 176)) (.fresh 177 (.need (.cmp .eql (tv 159) (.dlen (tv 161))) (tn (.tims (tl 32) (.plus (tv 159) (tl 1))) (tl 140737488355328) (fr 178 2 (.pack [.cells 177 63 [(.vint .u64 (.icell (tv 176) (tv 162) 0)),(ti (.icell (tv 176) (tv 162) 1)),(.vint .u64 (.icell (tv 176) (tv 162) 2)),(.vbool (.bcell (tv 176) (tv 162) 3))],.abs 157 4] 180 (.back 1 151 (sg 1000 [bg 1006 180,bv 1015 166,bt 1010 (.dapp (tv 161) (.rcons (.vint .u64 (.icell (tv 176) (tv 162) 0)) (.rcons (ti (.icell (tv 176) (tv 162) 1)) (.rcons (.vint .u64 (.icell (tv 176) (tv 162) 2)) (.rcons (.vbool (.bcell (tv 176) (tv 162) 3)) .rnil))))),bv 1005 156,bv 1004 155,bv 1003 154,bt 1011 (.arith .add .i64 (tv 162) (tl 1)),bv 1009 179,bt 1008 (.plus (tv 159) (tl 1)),bg 1007 178,bv 1014 165,bv 1013 164,bg 1012 163,bg 1001 152,bg 1000 151,bg 1016 167])))))))))
 (.back 1 151 (sg 1000 [bg 1006 157,bv 1015 166,bv 1010 161,bv 1005 156,bv 1004 155,bv 1003 154,bt 1011 (.arith .add .i64 (tv 162) (tl 1)),bv 1009 160,bv 1008 159,bg 1007 158,bv 1014 165,bv 1013 164,bg 1012 163,bg 1001 152,bg 1000 151,bg 1016 167])))))))
 (.pack [.cells 152 43 [(tu (tv 9)),(ti (tv 10)),(ti (tv 11)),(.vint .u64 (tv 12)),(ti (tv 13)),(ti (tv 14)),(.vslice 15 (tl 0) (tv 16) (tv 17) 2),(tv 20),(tv 21),(tv 22),(tv 23),(tv 24),(tv 25),(tv 26),(tv 27),(tv 28),(tv 29),(tv 30),(tv 31),(tv 32),(tv 33),(tv 34),(tv 35),(tv 36),(tv 37),(tv 38),(tv 39),(tv 40),(tv 41),(tv 42),(tv 43),(tv 44),(tv 45),(tv 46),(tv 47),(tv 48),(tv 49),(tv 50),(tv 51),(tv 52),(tv 53),(tv 54),(tv 55),(tv 56),(tv 57),(tv 58),(tv 59),(tv 60),(tv 61),(tv 62),(tv 63),(tv 64),(tv 65),(tv 66),(tv 67),(tv 68),(tv 69),(tv 70),(tv 71),(tv 72),(tv 73),(tv 74),(tv 75),(tv 76),(tv 77),(tv 78),(tv 79),(tv 80),(tv 81),(tv 82),(tv 83),(tv 84),(tv 85),(tv 86),(tv 87),(tv 88),(tv 89),(tv 90),(tv 91),(tv 92),(tv 93),(tv 94),(tv 95),(tv 96),(tv 97),(tv 98),(tv 99),(tv 100),(tv 101),(tv 102),(tv 103),(tv 104),(tv 105),(tv 106),(tv 107),(tv 108),(tv 109),(tv 110),(tv 111),(tv 112),(tv 113),(tv 114),(tv 115),(tv 116),(tv 117),(tv 118),(tv 119),(tv 120),(tv 121),(tv 122),(tv 123),(tv 124),(tv 125),(tv 126),(tv 127),(tv 128)],.arr 158 63 [CK.int .u64,CK.int .i64,CK.int .u64,CK.bool] (tv 161) (tv 160),.abs 157 4] 171 (.cut 2 150 (sg 1000 [bg 1010 171,bv 1005 166,bv 1009 156,bt 1008 (.vslice 158 (tl 0) (tv 159) (tv 160) 4),bv 1007 155,bv 1006 154,bv 1004 165,bv 1003 164,bg 1002 163,bg 1001 167,bg 1000 151]))))))))))) (fr 150 11 (.hyp 2 150 (tb (.pre 5 qlQ (tb (fr 161 5 (.post 5 0 qlQ 161 (tb (.pack [.abs 165 4,.cells 151 102 [(ti (tv 0)),(tv 156),(.vint .u64 (tv 2)),(.vint .u64 (tv 3)),(ti (tv 4)),(tv 157),(tv 158),(.vint .u64 (tv 159)),(.vbool (tv 8)),(.vbool (.bl false))],.cells 150 102 [(ti (tv 0)),(tv 156),(.vint .u64 (tv 2)),(.vint .u64 (tv 3)),(ti (tv 4)),(tv 157),(tv 158),(.vint .u64 (tv 159)),(.vbool (tv 8)),(.vbool (.bl false))],.arr 152 43 qb0 (tv 155) (tv 154)] 166 (.ret 0 (sg 130 [bg 139 166,bv 138 164,bt 137 (tl 0),bv 136 163,bv 135 162,bg 134 161,bv 133 159,bv 132 158,bv 131 157,bv 130 156])))))))))))))))))))))))))))))))))))))))
theorem qwU:ql Try.prog qhL [qhB,qdM,qe3,qcr,qgS,qdz] [qwJ,qv2,qwd] qsX:=qe Try.func53 Try.call53 (by kernel_rfl)
@[simp] def qll:Out:=.pack [.cells 12 102 [(ti (tv 0)),(tv 1),(.vint .u64 (tv 2)),(.vint .u64 (tv 3)),(ti (tv 4)),(tv 5),(tv 6),(.vint .u64 (tv 7)),(.vbool (tv 8)),(.vbool (.bl false))],.cells 11 102 [(ti (tv 0)),(tv 1),(.vint .u64 (tv 2)),(.vint .u64 (tv 3)),(ti (tv 4)),(tv 5),(tv 6),(.vint .u64 (tv 7)),(.vbool (tv 8)),(.vbool (.bl false))],.abs 10 4] 16 (.ret 0 (sg 11 [bg 14 16,bt 13 (tl 2),bv 12 7,bv 11 1]))
def qq8:Out:=(fr 11 2 (.br (tv 8)
 (.pack [.cells 12 102 [(ti (tv 0)),(tv 1),(.vint .u64 (tv 2)),(.vint .u64 (tv 3)),(ti (tv 4)),(tv 5),(tv 6),(.vint .u64 (tv 7)),(.vbool (tv 8)),(.vbool (.bl false))],.cells 11 102 [(ti (tv 0)),(tv 1),(.vint .u64 (tv 2)),(.vint .u64 (tv 3)),(ti (tv 4)),(tv 5),(tv 6),(.vint .u64 (tv 7)),(.vbool (tv 8)),(.vbool (.bl false))],.abs 10 4] 13 (.ret 0 (sg 11 [bg 14 13,bt 13 (tl 30),bv 12 7,bv 11 1])))
 (.viewL (tv 1) [CK.int .u64,CK.int .u8] [10] 13 (tn (tl 0) (tv 0) (ts (tv 0) (.dlen (tv 15)) (.br (.cmp .leq (tv 9) (.icell (tv 15) (tv 0) 0))
 qll
 (.br (.cmp .leq (tv 9) (tv 7))
 qll
 (.fresh 16 (.viewL (tv 1) [CK.int .u64,CK.int .u8] [10] 17 (tn (.tims (tl 16) (.dlen (tv 19))) (tl 140737488355328) (fr 20 2 (ts (tv 0) (.dlen (tv 19)) (.pack [.arr 20 25 [CK.int .u64,CK.int .u8] (.dput (tv 19) (tv 0) 0 (.rcons (.vint .u64 (tv 9)) (.rcons (tu (tl 1)) .rnil))) (tv 21),.cells 12 102 [(ti (tv 0)),(.vslice 20 (tl 0) (.dlen (tv 19)) (tv 21) 2),(.vint .u64 (tv 2)),(.vint .u64 (tv 3)),(ti (tv 4)),(tv 5),(tv 6),(.vint .u64 (tl 0)),(.vbool (tv 8)),(.vbool (.bl false))],.cells 11 102 [(ti (tv 0)),(.vslice 20 (tl 0) (.dlen (tv 19)) (tv 21) 2),(.vint .u64 (tv 2)),(.vint .u64 (tv 3)),(ti (tv 4)),(tv 5),(tv 6),(.vint .u64 (tl 0)),(.vbool (tv 8)),(.vbool (.bl false))],.abs 10 4] 22 (.ret 0 (sg 11 [bg 14 22,bt 13 (tl 0),bt 12 (tl 0),bt 11 (.vslice 20 (tl 0) (.dlen (tv 19)) (tv 21) 2)])))))))))))))))
theorem qwA:ql Try.prog qge [] [] qq8:=qe Try.func54 Try.call54 (by kernel_rfl)
@[simp] def qeU:T:=.drep (tv 1) (.rcons (.vint .u64 (tl 0)) (.rcons (tu (tl 0)) .rnil))
@[simp] def qeJ:T:=.cmp .lss (tv 0) (.dlen (.drep (tv 1) (.rcons (.vint .u64 (tl 0)) (.rcons (tu (tl 0)) .rnil))))
def qwQ:Out:=(.fresh 3 (.br (.cmp .lss (tv 1) (tl 2))
 (.ret 0 (sg 3 []))
 (.br (.cmp .gtr (tv 1) (tl 16))
 (.ret 0 (sg 3 []))
 (.br (.cmp .lss (tv 0) (tl 0))
 (.ret 0 (sg 3 []))
 (.br (.cmp .geq (tv 0) (tv 1))
 (.ret 0 (sg 3 []))
 (.br (.cmp .lss (tv 2) (tl 1))
 (.ret 0 (sg 3 []))
 (.both (tn (tl 0) (tv 1) (tn (.tims (tl 16) (tv 1)) (tl 281474976710656) (.fresh 4 (.both (tn (.tims (tl 8) (tv 1)) (tl 281474976710656) (.fresh 5 (tb (.fresh 6 (tb (tn (tl 0) (tv 0) (ts (tv 0) (tv 1) (.need qeJ (.pack [.cells 6 102 [(ti (tv 0)),(.vslice 4 (tl 0) (tv 1) (tv 1) 2),(.vint .u64 (tl 0)),(.vint .u64 (tl 0)),(ti (tv 0)),(.vslice 5 (tl 0) (tv 1) (tv 1) 1),.vnils,(.vint .u64 (tl 0)),(.vbool (.bl false)),(.vbool (.bl false))],.arr 5 22 [CK.int .u64] (.drep (tv 1) (.rcons (.vint .u64 (tl 0)) .rnil)) (tv 1),.arr 4 25 [CK.int .u64,CK.int .u8] (.dput qeU (tv 0) 0 (.rcons (.vint .u64 (tv 2)) (.rcons (tu (tl 1)) .rnil))) (tv 1),.cells 3 102 [(ti (tv 0)),(.vslice 4 (tl 0) (tv 1) (tv 1) 2),(.vint .u64 (tl 0)),(.vint .u64 (tl 0)),(ti (tv 0)),(.vslice 5 (tl 0) (tv 1) (tv 1) 1),.vnils,(.vint .u64 (tl 0)),(.vbool (.bl false)),(.vbool (.bl false))]] 7 (.ret 1 (sg 3 [bg 5 7,bt 4 (.vslice 5 (tl 0) (tv 1) (tv 1) 1),bt 3 (.vslice 4 (tl 0) (tv 1) (tv 1) 2)]))))))))))) (tb (.fresh 5 (tb (tn (.tims (tl 8) (tv 1)) (tl 281474976710656) (.fresh 6 (tb (tn (tl 0) (tv 0) (ts (tv 0) (tv 1) (.need qeJ (.pack [.arr 6 22 [CK.int .u64] (.drep (tv 1) (.rcons (.vint .u64 (tl 0)) .rnil)) (tv 1),.cells 5 102 [(ti (tv 0)),(.vslice 4 (tl 0) (tv 1) (tv 1) 2),(.vint .u64 (tl 0)),(.vint .u64 (tl 0)),(ti (tv 0)),(.vslice 6 (tl 0) (tv 1) (tv 1) 1),.vnils,(.vint .u64 (tl 0)),(.vbool (.bl false)),(.vbool (.bl false))],.arr 4 25 [CK.int .u64,CK.int .u8] (.dput qeU (tv 0) 0 (.rcons (.vint .u64 (tv 2)) (.rcons (tu (tl 1)) .rnil))) (tv 1),.cells 3 102 [(ti (tv 0)),(.vslice 4 (tl 0) (tv 1) (tv 1) 2),(.vint .u64 (tl 0)),(.vint .u64 (tl 0)),(ti (tv 0)),(.vslice 6 (tl 0) (tv 1) (tv 1) 1),.vnils,(.vint .u64 (tl 0)),(.vbool (.bl false)),(.vbool (.bl false))]] 7 (.ret 1 (sg 3 [bg 5 7,bt 4 (.vslice 6 (tl 0) (tv 1) (tv 1) 1),bt 3 (.vslice 4 (tl 0) (tv 1) (tv 1) 2)])))))))))))))))) (.both (tn (tl 0) (tv 1) (tn (.tims (tl 8) (tv 1)) (tl 281474976710656) (.fresh 4 (.both (tn (.tims (tl 16) (tv 1)) (tl 281474976710656) (.fresh 5 (tb (.fresh 6 (tb (tn (tl 0) (tv 0) (ts (tv 0) (tv 1) (.need qeJ (.pack [.cells 6 102 [(ti (tv 0)),(.vslice 5 (tl 0) (tv 1) (tv 1) 2),(.vint .u64 (tl 0)),(.vint .u64 (tl 0)),(ti (tv 0)),(.vslice 4 (tl 0) (tv 1) (tv 1) 1),.vnils,(.vint .u64 (tl 0)),(.vbool (.bl false)),(.vbool (.bl false))],.arr 5 25 [CK.int .u64,CK.int .u8] (.dput qeU (tv 0) 0 (.rcons (.vint .u64 (tv 2)) (.rcons (tu (tl 1)) .rnil))) (tv 1),.arr 4 22 [CK.int .u64] (.drep (tv 1) (.rcons (.vint .u64 (tl 0)) .rnil)) (tv 1),.cells 3 102 [(ti (tv 0)),(.vslice 5 (tl 0) (tv 1) (tv 1) 2),(.vint .u64 (tl 0)),(.vint .u64 (tl 0)),(ti (tv 0)),(.vslice 4 (tl 0) (tv 1) (tv 1) 1),.vnils,(.vint .u64 (tl 0)),(.vbool (.bl false)),(.vbool (.bl false))]] 7 (.ret 1 (sg 3 [bg 5 7,bt 4 (.vslice 4 (tl 0) (tv 1) (tv 1) 1),bt 3 (.vslice 5 (tl 0) (tv 1) (tv 1) 2)]))))))))))) (tb (.fresh 5 (tb (tn (.tims (tl 16) (tv 1)) (tl 281474976710656) (.fresh 6 (tb (tn (tl 0) (tv 0) (ts (tv 0) (tv 1) (.need qeJ (.pack [.arr 6 25 [CK.int .u64,CK.int .u8] (.dput qeU (tv 0) 0 (.rcons (.vint .u64 (tv 2)) (.rcons (tu (tl 1)) .rnil))) (tv 1),.cells 5 102 [(ti (tv 0)),(.vslice 6 (tl 0) (tv 1) (tv 1) 2),(.vint .u64 (tl 0)),(.vint .u64 (tl 0)),(ti (tv 0)),(.vslice 4 (tl 0) (tv 1) (tv 1) 1),.vnils,(.vint .u64 (tl 0)),(.vbool (.bl false)),(.vbool (.bl false))],.arr 4 22 [CK.int .u64] (.drep (tv 1) (.rcons (.vint .u64 (tl 0)) .rnil)) (tv 1),.cells 3 102 [(ti (tv 0)),(.vslice 6 (tl 0) (tv 1) (tv 1) 2),(.vint .u64 (tl 0)),(.vint .u64 (tl 0)),(ti (tv 0)),(.vslice 4 (tl 0) (tv 1) (tv 1) 1),.vnils,(.vint .u64 (tl 0)),(.vbool (.bl false)),(.vbool (.bl false))]] 7 (.ret 1 (sg 3 [bg 5 7,bt 4 (.vslice 4 (tl 0) (tv 1) (tv 1) 1),bt 3 (.vslice 6 (tl 0) (tv 1) (tv 1) 2)])))))))))))))))) (tb (.fresh 4 (.both (tn (tl 0) (tv 1) (tn (.tims (tl 16) (tv 1)) (tl 281474976710656) (.fresh 5 (tb (tn (.tims (tl 8) (tv 1)) (tl 281474976710656) (.fresh 6 (tb (tn (tl 0) (tv 0) (ts (tv 0) (tv 1) (.need qeJ (.pack [.arr 6 22 [CK.int .u64] (.drep (tv 1) (.rcons (.vint .u64 (tl 0)) .rnil)) (tv 1),.arr 5 25 [CK.int .u64,CK.int .u8] (.dput qeU (tv 0) 0 (.rcons (.vint .u64 (tv 2)) (.rcons (tu (tl 1)) .rnil))) (tv 1),.cells 4 102 [(ti (tv 0)),(.vslice 5 (tl 0) (tv 1) (tv 1) 2),(.vint .u64 (tl 0)),(.vint .u64 (tl 0)),(ti (tv 0)),(.vslice 6 (tl 0) (tv 1) (tv 1) 1),.vnils,(.vint .u64 (tl 0)),(.vbool (.bl false)),(.vbool (.bl false))],.cells 3 102 [(ti (tv 0)),(.vslice 5 (tl 0) (tv 1) (tv 1) 2),(.vint .u64 (tl 0)),(.vint .u64 (tl 0)),(ti (tv 0)),(.vslice 6 (tl 0) (tv 1) (tv 1) 1),.vnils,(.vint .u64 (tl 0)),(.vbool (.bl false)),(.vbool (.bl false))]] 7 (.ret 1 (sg 3 [bg 5 7,bt 4 (.vslice 6 (tl 0) (tv 1) (tv 1) 1),bt 3 (.vslice 5 (tl 0) (tv 1) (tv 1) 2)]))))))))))))) (tb (tn (tl 0) (tv 1) (tn (.tims (tl 8) (tv 1)) (tl 281474976710656) (.fresh 5 (tb (tn (.tims (tl 16) (tv 1)) (tl 281474976710656) (.fresh 6 (tb (tn (tl 0) (tv 0) (ts (tv 0) (tv 1) (.need qeJ (.pack [.arr 6 25 [CK.int .u64,CK.int .u8] (.dput qeU (tv 0) 0 (.rcons (.vint .u64 (tv 2)) (.rcons (tu (tl 1)) .rnil))) (tv 1),.arr 5 22 [CK.int .u64] (.drep (tv 1) (.rcons (.vint .u64 (tl 0)) .rnil)) (tv 1),.cells 4 102 [(ti (tv 0)),(.vslice 6 (tl 0) (tv 1) (tv 1) 2),(.vint .u64 (tl 0)),(.vint .u64 (tl 0)),(ti (tv 0)),(.vslice 5 (tl 0) (tv 1) (tv 1) 1),.vnils,(.vint .u64 (tl 0)),(.vbool (.bl false)),(.vbool (.bl false))],.cells 3 102 [(ti (tv 0)),(.vslice 6 (tl 0) (tv 1) (tv 1) 2),(.vint .u64 (tl 0)),(.vint .u64 (tl 0)),(ti (tv 0)),(.vslice 5 (tl 0) (tv 1) (tv 1) 1),.vnils,(.vint .u64 (tl 0)),(.vbool (.bl false)),(.vbool (.bl false))]] 7 (.ret 1 (sg 3 [bg 5 7,bt 4 (.vslice 5 (tl 0) (tv 1) (tv 1) 1),bt 3 (.vslice 6 (tl 0) (tv 1) (tv 1) 2)])))))))))))))))))))))))))
theorem qyF:ql Try.prog qfO [] [] qwQ:=qe Try.func51 Try.call51 (by kernel_rfl)
def qmH:Out:=(.ret 0 (sg 0 []))
theorem qrB:ql Try.prog qbW [] [] qmH:=qe Try.func64 Try.call64 (by kernel_rfl)
def qot:Out:=(.pre 0 (sg 0 []) (tb (.post 0 0 (sg 0 []) 1 (.ret 0 (sg 1 [])))))
theorem qug:ql Try.prog qgl [qbW] [] qot:=qe Try.func29 Try.call29 (by kernel_rfl)
def qmk:Out:=(.pre 0 (sg 0 []) (tb (.post 0 0 (sg 0 []) 1 (.ret 0 (sg 1 [])))))
theorem qrH:ql Try.prog qeE [qbW] [] qmk:=qe Try.func43 Try.call43 (by kernel_rfl)
def qlm:Out:=(.pre 0 (sg 0 []) (tb (.post 0 0 (sg 0 []) 0 (.ret 0 (sg 0 [])))))
theorem qr3:ql Try.prog qeT [qbW] [] qlm:=qe Try.func44 Try.call44 (by kernel_rfl)
def qmI:Out:=(.ret 0 (sg 0 []))
theorem qrU:ql Try.prog qeD [] [] qmI:=qe Try.func28 Try.call28 (by kernel_rfl)
def qoW:Out:=(.ret 0 (sg 0 []))
theorem qu7:ql Try.prog qgr [] [] qoW:=qe Try.func30 Try.call30 (by kernel_rfl)
def qkw:Out:=(.ret 0 (sg 0 []))
theorem qqS:ql Try.prog qeo [] [] qkw:=qe Try.func31 Try.call31 (by kernel_rfl)
def qmB:Out:=(.ret 0 (sg 0 []))
theorem qr1:ql Try.prog qeG [] [] qmB:=qe Try.func45 Try.call45 (by kernel_rfl)
def qo5:Out:=(.ret 0 (sg 0 []))
theorem qtO:ql Try.prog qgo [] [] qo5:=qe Try.func50 Try.call50 (by kernel_rfl)
def qnX:Out:=(.fresh 116 (.pre 0 (sg 0 []) (tb (.post 0 0 (sg 0 []) 117 (.ret 0 (sg 116 []))))))
theorem quC:ql Try.prog qhy [qbW] [] qnX:=qe Try.func58 Try.call58 (by kernel_rfl)
def qqK:Out:=(fr 1 2 (.ret 0 (sg 1 [])))
theorem qvN:ql Try.prog qhH [] [] qqK:=qe Try.func52 Try.call52 (by kernel_rfl)
def qqM:Out:=(fr 116 3 (.ret 0 (sg 116 [])))
theorem qvC:ql Try.prog qhP [] [] qqM:=qe Try.func53 Try.call53 (by kernel_rfl)
def qnV:Out:=(fr 1 2 (.ret 0 (sg 1 [])))
theorem qt7:ql Try.prog qgg [] [] qnV:=qe Try.func54 Try.call54 (by kernel_rfl)
def qo9:Out:=(fr 0 2 (.ret 0 (sg 0 [])))
theorem qtP:ql Try.prog qgq [] [] qo9:=qe Try.func55 Try.call55 (by kernel_rfl)
def qog:Out:=(tn (tl 0) (tv 1) (tn (tl 0) (tv 6) (.br (.cmp .neq (tv 1) (tv 6))
 (.ret 0 (sg 10 [bt 10 (.bl false)]))
 (.inv 0 10 (sg 1000 [bt 1000 (tl 0)]) (.fresh 10 (.hyp 0 10 (.br (.cmp .lss (tv 10) (tv 1))
 (tn (tl 0) (tv 10) (ts (tv 10) (.dlen (tv 3)) (ts (tv 10) (tv 6) (ts (tv 10) (.dlen (tv 8)) (.br (.not (.and (.cmp .eql (.icell (tv 3) (tv 10) 0) (.icell (tv 8) (tv 10) 0)) (.and (.cmp .eql (.icell (tv 3) (tv 10) 1) (.icell (tv 8) (tv 10) 1)) (.and (.cmp .eql (.icell (tv 3) (tv 10) 2) (.icell (tv 8) (tv 10) 2)) (.beq (.bcell (tv 3) (tv 10) 3) (.bcell (tv 8) (tv 10) 3))))))
 (.ret 0 (sg 10 [bt 10 (.bl false)]))
 (.back 0 10 (sg 1000 [bt 1000 (.arith .add .i64 (tv 10) (tl 1))])))))))
 (.ret 0 (sg 10 [bt 10 (.bl true)])))))))))
theorem qvm:ql Try.prog qcK [] [qq0] qog:=qe Try.func57 Try.call57 (by kernel_rfl)
@[simp] def qkH:Sg:=sg 0 [bv 9 240,bv 8 241,bv 4 237,bv 3 238,bv 7 240,bt 6 (.dlen (tv 241)),bg 5 239,bv 2 237,bt 1 (.dlen (tv 238)),bg 0 236]
@[simp] def qkr:T:=.rcons (tu (tl 0)) (rr 31 (tu (tl 0)) .rnil)
def qo6:Out:=(fr 234 2 (.br (.cmp .neq (tv 0) (tv 116))
 (.ret 0 (sg 234 [bt 234 (.bl false)]))
 (.br (.cmp .neq (tv 1) (tv 117))
 (.ret 0 (sg 234 [bt 234 (.bl false)]))
 (.br (.cmp .neq (tv 2) (tv 118))
 (.ret 0 (sg 234 [bt 234 (.bl false)]))
 (.br (.cmp .neq (tv 3) (tv 119))
 (.ret 0 (sg 234 [bt 234 (.bl false)]))
 (.br (.cmp .neq (tv 4) (tv 120))
 (.ret 0 (sg 234 [bt 234 (.bl false)]))
 (.br (.cmp .neq (tv 5) (tv 121))
 (.ret 0 (sg 234 [bt 234 (.bl false)]))
 (.viewL (tv 6) [CK.int .u64,CK.int .u8] [232,233] 236 (.viewL (tv 122) [CK.int .u64,CK.int .u8] [232,233] 239 (.pre 0 qkH (tb (.fresh 242 (.post 0 0 qkH 242 (.br (.not (tv 242))
 (.ret 0 (sg 234 [bt 234 (.bl false)]))
 (.viewL (tv 7) [CK.int .u8] [232,233] 243 (.br (.cmp .eql (.dlen (tv 245)) (tl 0))
 (.viewL (tv 8) [CK.int .u8] [232,233] 246 (.br (.cmp .eql (.dlen (tv 248)) (tl 0))
 (.br (.cmp .eql (tv 9) (tl 0))
 (.br (.c2 .req (.rcons (tu (tv 10)) (.rcons (tu (tv 11)) (.rcons (tu (tv 12)) (.rcons (tu (tv 13)) (.rcons (tu (tv 14)) (.rcons (tu (tv 15)) (.rcons (tu (tv 16)) (.rcons (tu (tv 17)) (.rcons (tu (tv 18)) (.rcons (tu (tv 19)) (.rcons (tu (tv 20)) (.rcons (tu (tv 21)) (.rcons (tu (tv 22)) (.rcons (tu (tv 23)) (.rcons (tu (tv 24)) (.rcons (tu (tv 25)) (.rcons (tu (tv 26)) (.rcons (tu (tv 27)) (.rcons (tu (tv 28)) (.rcons (tu (tv 29)) (.rcons (tu (tv 30)) (.rcons (tu (tv 31)) (.rcons (tu (tv 32)) (.rcons (tu (tv 33)) (.rcons (tu (tv 34)) (.rcons (tu (tv 35)) (.rcons (tu (tv 36)) (.rcons (tu (tv 37)) (.rcons (tu (tv 38)) (.rcons (tu (tv 39)) (.rcons (tu (tv 40)) (.rcons (tu (tv 41)) .rnil)))))))))))))))))))))))))))))))) qkr)
 (.viewL (tv 42) [CK.int .u8,CK.int .u8,CK.int .u8,CK.int .u8,CK.int .u8,CK.int .u8,CK.int .u8,CK.int .u8,CK.int .u8,CK.int .u8,CK.int .u8,CK.int .u8,CK.int .u8,CK.int .u8,CK.int .u8,CK.int .u8,CK.int .u8,CK.int .u8,CK.int .u8,CK.int .u8,CK.int .u8,CK.int .u8,CK.int .u8,CK.int .u8,CK.int .u8,CK.int .u8,CK.int .u8,CK.int .u8,CK.int .u8,CK.int .u8,CK.int .u8,CK.int .u8,CK.int .u8,CK.int .i64,CK.int .u64,CK.int .u64,CK.bool,CK.int .i64,CK.int .i64] [232,233] 249 (.br (.cmp .eql (.dlen (tv 251)) (tl 0))
 (.br (.not (tv 43))
 (.br (.c2 .req (.rcons (tu (tv 44)) (.rcons (tu (tv 45)) (.rcons (tu (tv 46)) (.rcons (tu (tv 47)) (.rcons (tu (tv 48)) (.rcons (tu (tv 49)) (.rcons (tu (tv 50)) (.rcons (tu (tv 51)) (.rcons (tu (tv 52)) (.rcons (tu (tv 53)) (.rcons (tu (tv 54)) (.rcons (tu (tv 55)) (.rcons (tu (tv 56)) (.rcons (tu (tv 57)) (.rcons (tu (tv 58)) (.rcons (tu (tv 59)) (.rcons (tu (tv 60)) (.rcons (tu (tv 61)) (.rcons (tu (tv 62)) (.rcons (tu (tv 63)) (.rcons (tu (tv 64)) (.rcons (tu (tv 65)) (.rcons (tu (tv 66)) (.rcons (tu (tv 67)) (.rcons (tu (tv 68)) (.rcons (tu (tv 69)) (.rcons (tu (tv 70)) (.rcons (tu (tv 71)) (.rcons (tu (tv 72)) (.rcons (tu (tv 73)) (.rcons (tu (tv 74)) (.rcons (tu (tv 75)) .rnil)))))))))))))))))))))))))))))))) qkr)
 (.br (.cmp .eql (tv 78) (tl 0))
 (.viewL (tv 112) [CK.int .u8,CK.int .u8,CK.int .u8,CK.int .u8,CK.int .u8,CK.int .u8,CK.int .u8,CK.int .u8,CK.int .u8,CK.int .u8,CK.int .u8,CK.int .u8,CK.int .u8,CK.int .u8,CK.int .u8,CK.int .u8,CK.int .u8,CK.int .u8,CK.int .u8,CK.int .u8,CK.int .u8,CK.int .u8,CK.int .u8,CK.int .u8,CK.int .u8,CK.int .u8,CK.int .u8,CK.int .u8,CK.int .u8,CK.int .u8,CK.int .u8,CK.int .u8] [232,233] 252 (.br (.cmp .eql (.dlen (tv 254)) (tl 0))
 (.br (.cmp .eql (tv 113) (tl 0))
 (.viewL (tv 114) [CK.int .u8] [232,233] 255 (.br (.cmp .eql (.dlen (tv 257)) (tl 0))
 (.ret 0 (sg 234 [bt 234 (.cmp .eql (tv 115) (tl 0))]))
 (.ret 0 (sg 234 [bt 234 (.bl false)]))))
 (.ret 0 (sg 234 [bt 234 (.bl false)])))
 (.ret 0 (sg 234 [bt 234 (.bl false)]))))
 (.ret 0 (sg 234 [bt 234 (.bl false)])))
 (.ret 0 (sg 234 [bt 234 (.bl false)])))
 (.ret 0 (sg 234 [bt 234 (.bl false)])))
 (.ret 0 (sg 234 [bt 234 (.bl false)]))))
 (.ret 0 (sg 234 [bt 234 (.bl false)])))
 (.ret 0 (sg 234 [bt 234 (.bl false)])))
 (.ret 0 (sg 234 [bt 234 (.bl false)]))))
 (.ret 0 (sg 234 [bt 234 (.bl false)]))))))))))))))))))
theorem qtC:ql Try.prog qg1 [qc3] [] qo6:=qe Try.func80 Try.call80 (by kernel_rfl)
@[simp] def qji:Sg:=sg 0 [bg 233 11,bg 232 10,bt 231 (.icell (tv 8) (tv 12) 115),bt 230 (.vcell (tv 8) (tv 12) 114),bt 229 (.icell (tv 8) (tv 12) 113),bt 228 (.vcell (tv 8) (tv 12) 112),bt 227 (.icell (tv 8) (tv 12) 111),bt 226 (.icell (tv 8) (tv 12) 110),bt 225 (.icell (tv 8) (tv 12) 109),bt 224 (.icell (tv 8) (tv 12) 108),bt 223 (.icell (tv 8) (tv 12) 107),bt 222 (.icell (tv 8) (tv 12) 106),bt 221 (.icell (tv 8) (tv 12) 105),bt 220 (.icell (tv 8) (tv 12) 104),bt 219 (.icell (tv 8) (tv 12) 103),bt 218 (.icell (tv 8) (tv 12) 102),bt 217 (.icell (tv 8) (tv 12) 101),bt 216 (.icell (tv 8) (tv 12) 100),bt 215 (.icell (tv 8) (tv 12) 99),bt 214 (.icell (tv 8) (tv 12) 98),bt 213 (.icell (tv 8) (tv 12) 97),bt 212 (.icell (tv 8) (tv 12) 96),bt 211 (.icell (tv 8) (tv 12) 95),bt 210 (.icell (tv 8) (tv 12) 94),bt 209 (.icell (tv 8) (tv 12) 93),bt 208 (.icell (tv 8) (tv 12) 92),bt 207 (.icell (tv 8) (tv 12) 91),bt 206 (.icell (tv 8) (tv 12) 90),bt 205 (.icell (tv 8) (tv 12) 89),bt 204 (.icell (tv 8) (tv 12) 88),bt 203 (.icell (tv 8) (tv 12) 87),bt 202 (.icell (tv 8) (tv 12) 86),bt 201 (.icell (tv 8) (tv 12) 85),bt 200 (.icell (tv 8) (tv 12) 84),bt 199 (.icell (tv 8) (tv 12) 83),bt 198 (.icell (tv 8) (tv 12) 82),bt 197 (.icell (tv 8) (tv 12) 81),bt 196 (.icell (tv 8) (tv 12) 80),bt 195 (.icell (tv 8) (tv 12) 79),bt 194 (.icell (tv 8) (tv 12) 78),bt 193 (.icell (tv 8) (tv 12) 77),bt 192 (.icell (tv 8) (tv 12) 76),bt 191 (.icell (tv 8) (tv 12) 75),bt 190 (.icell (tv 8) (tv 12) 74),bt 189 (.icell (tv 8) (tv 12) 73),bt 188 (.icell (tv 8) (tv 12) 72),bt 187 (.icell (tv 8) (tv 12) 71),bt 186 (.icell (tv 8) (tv 12) 70),bt 185 (.icell (tv 8) (tv 12) 69),bt 184 (.icell (tv 8) (tv 12) 68),bt 183 (.icell (tv 8) (tv 12) 67),bt 182 (.icell (tv 8) (tv 12) 66),bt 181 (.icell (tv 8) (tv 12) 65),bt 180 (.icell (tv 8) (tv 12) 64),bt 179 (.icell (tv 8) (tv 12) 63),bt 178 (.icell (tv 8) (tv 12) 62),bt 177 (.icell (tv 8) (tv 12) 61),bt 176 (.icell (tv 8) (tv 12) 60),bt 175 (.icell (tv 8) (tv 12) 59),bt 174 (.icell (tv 8) (tv 12) 58),bt 173 (.icell (tv 8) (tv 12) 57),bt 172 (.icell (tv 8) (tv 12) 56),bt 171 (.icell (tv 8) (tv 12) 55),bt 170 (.icell (tv 8) (tv 12) 54),bt 169 (.icell (tv 8) (tv 12) 53),bt 168 (.icell (tv 8) (tv 12) 52),bt 167 (.icell (tv 8) (tv 12) 51),bt 166 (.icell (tv 8) (tv 12) 50),bt 165 (.icell (tv 8) (tv 12) 49),bt 164 (.icell (tv 8) (tv 12) 48),bt 163 (.icell (tv 8) (tv 12) 47),bt 162 (.icell (tv 8) (tv 12) 46),bt 161 (.icell (tv 8) (tv 12) 45),bt 160 (.icell (tv 8) (tv 12) 44),bt 159 (.bcell (tv 8) (tv 12) 43),bt 158 (.vcell (tv 8) (tv 12) 42),bt 157 (.icell (tv 8) (tv 12) 41),bt 156 (.icell (tv 8) (tv 12) 40),bt 155 (.icell (tv 8) (tv 12) 39),bt 154 (.icell (tv 8) (tv 12) 38),bt 153 (.icell (tv 8) (tv 12) 37),bt 152 (.icell (tv 8) (tv 12) 36),bt 151 (.icell (tv 8) (tv 12) 35),bt 150 (.icell (tv 8) (tv 12) 34),bt 149 (.icell (tv 8) (tv 12) 33),bt 148 (.icell (tv 8) (tv 12) 32),bt 147 (.icell (tv 8) (tv 12) 31),bt 146 (.icell (tv 8) (tv 12) 30),bt 145 (.icell (tv 8) (tv 12) 29),bt 144 (.icell (tv 8) (tv 12) 28),bt 143 (.icell (tv 8) (tv 12) 27),bt 142 (.icell (tv 8) (tv 12) 26),bt 141 (.icell (tv 8) (tv 12) 25),bt 140 (.icell (tv 8) (tv 12) 24),bt 139 (.icell (tv 8) (tv 12) 23),bt 138 (.icell (tv 8) (tv 12) 22),bt 137 (.icell (tv 8) (tv 12) 21),bt 136 (.icell (tv 8) (tv 12) 20),bt 135 (.icell (tv 8) (tv 12) 19),bt 134 (.icell (tv 8) (tv 12) 18),bt 133 (.icell (tv 8) (tv 12) 17),bt 132 (.icell (tv 8) (tv 12) 16),bt 131 (.icell (tv 8) (tv 12) 15),bt 130 (.icell (tv 8) (tv 12) 14),bt 129 (.icell (tv 8) (tv 12) 13),bt 128 (.icell (tv 8) (tv 12) 12),bt 127 (.icell (tv 8) (tv 12) 11),bt 126 (.icell (tv 8) (tv 12) 10),bt 125 (.icell (tv 8) (tv 12) 9),bt 124 (.vcell (tv 8) (tv 12) 8),bt 123 (.vcell (tv 8) (tv 12) 7),bt 122 (.vcell (tv 8) (tv 12) 6),bt 121 (.icell (tv 8) (tv 12) 5),bt 120 (.icell (tv 8) (tv 12) 4),bt 119 (.icell (tv 8) (tv 12) 3),bt 118 (.icell (tv 8) (tv 12) 2),bt 117 (.icell (tv 8) (tv 12) 1),bt 116 (.icell (tv 8) (tv 12) 0),bt 115 (.icell (tv 3) (tv 12) 115),bt 114 (.vcell (tv 3) (tv 12) 114),bt 113 (.icell (tv 3) (tv 12) 113),bt 112 (.vcell (tv 3) (tv 12) 112),bt 111 (.icell (tv 3) (tv 12) 111),bt 110 (.icell (tv 3) (tv 12) 110),bt 109 (.icell (tv 3) (tv 12) 109),bt 108 (.icell (tv 3) (tv 12) 108),bt 107 (.icell (tv 3) (tv 12) 107),bt 106 (.icell (tv 3) (tv 12) 106),bt 105 (.icell (tv 3) (tv 12) 105),bt 104 (.icell (tv 3) (tv 12) 104),bt 103 (.icell (tv 3) (tv 12) 103),bt 102 (.icell (tv 3) (tv 12) 102),bt 101 (.icell (tv 3) (tv 12) 101),bt 100 (.icell (tv 3) (tv 12) 100),bt 99 (.icell (tv 3) (tv 12) 99),bt 98 (.icell (tv 3) (tv 12) 98),bt 97 (.icell (tv 3) (tv 12) 97),bt 96 (.icell (tv 3) (tv 12) 96),bt 95 (.icell (tv 3) (tv 12) 95),bt 94 (.icell (tv 3) (tv 12) 94),bt 93 (.icell (tv 3) (tv 12) 93),bt 92 (.icell (tv 3) (tv 12) 92),bt 91 (.icell (tv 3) (tv 12) 91),bt 90 (.icell (tv 3) (tv 12) 90),bt 89 (.icell (tv 3) (tv 12) 89),bt 88 (.icell (tv 3) (tv 12) 88),bt 87 (.icell (tv 3) (tv 12) 87),bt 86 (.icell (tv 3) (tv 12) 86),bt 85 (.icell (tv 3) (tv 12) 85),bt 84 (.icell (tv 3) (tv 12) 84),bt 83 (.icell (tv 3) (tv 12) 83),bt 82 (.icell (tv 3) (tv 12) 82),bt 81 (.icell (tv 3) (tv 12) 81),bt 80 (.icell (tv 3) (tv 12) 80),bt 79 (.icell (tv 3) (tv 12) 79),bt 78 (.icell (tv 3) (tv 12) 78),bt 77 (.icell (tv 3) (tv 12) 77),bt 76 (.icell (tv 3) (tv 12) 76),bt 75 (.icell (tv 3) (tv 12) 75),bt 74 (.icell (tv 3) (tv 12) 74),bt 73 (.icell (tv 3) (tv 12) 73),bt 72 (.icell (tv 3) (tv 12) 72),bt 71 (.icell (tv 3) (tv 12) 71),bt 70 (.icell (tv 3) (tv 12) 70),bt 69 (.icell (tv 3) (tv 12) 69),bt 68 (.icell (tv 3) (tv 12) 68),bt 67 (.icell (tv 3) (tv 12) 67),bt 66 (.icell (tv 3) (tv 12) 66),bt 65 (.icell (tv 3) (tv 12) 65),bt 64 (.icell (tv 3) (tv 12) 64),bt 63 (.icell (tv 3) (tv 12) 63),bt 62 (.icell (tv 3) (tv 12) 62),bt 61 (.icell (tv 3) (tv 12) 61),bt 60 (.icell (tv 3) (tv 12) 60),bt 59 (.icell (tv 3) (tv 12) 59),bt 58 (.icell (tv 3) (tv 12) 58),bt 57 (.icell (tv 3) (tv 12) 57),bt 56 (.icell (tv 3) (tv 12) 56),bt 55 (.icell (tv 3) (tv 12) 55),bt 54 (.icell (tv 3) (tv 12) 54),bt 53 (.icell (tv 3) (tv 12) 53),bt 52 (.icell (tv 3) (tv 12) 52),bt 51 (.icell (tv 3) (tv 12) 51),bt 50 (.icell (tv 3) (tv 12) 50),bt 49 (.icell (tv 3) (tv 12) 49),bt 48 (.icell (tv 3) (tv 12) 48),bt 47 (.icell (tv 3) (tv 12) 47),bt 46 (.icell (tv 3) (tv 12) 46),bt 45 (.icell (tv 3) (tv 12) 45),bt 44 (.icell (tv 3) (tv 12) 44),bt 43 (.bcell (tv 3) (tv 12) 43),bt 42 (.vcell (tv 3) (tv 12) 42),bt 41 (.icell (tv 3) (tv 12) 41),bt 40 (.icell (tv 3) (tv 12) 40),bt 39 (.icell (tv 3) (tv 12) 39),bt 38 (.icell (tv 3) (tv 12) 38),bt 37 (.icell (tv 3) (tv 12) 37),bt 36 (.icell (tv 3) (tv 12) 36),bt 35 (.icell (tv 3) (tv 12) 35),bt 34 (.icell (tv 3) (tv 12) 34),bt 33 (.icell (tv 3) (tv 12) 33),bt 32 (.icell (tv 3) (tv 12) 32),bt 31 (.icell (tv 3) (tv 12) 31),bt 30 (.icell (tv 3) (tv 12) 30),bt 29 (.icell (tv 3) (tv 12) 29),bt 28 (.icell (tv 3) (tv 12) 28),bt 27 (.icell (tv 3) (tv 12) 27),bt 26 (.icell (tv 3) (tv 12) 26),bt 25 (.icell (tv 3) (tv 12) 25),bt 24 (.icell (tv 3) (tv 12) 24),bt 23 (.icell (tv 3) (tv 12) 23),bt 22 (.icell (tv 3) (tv 12) 22),bt 21 (.icell (tv 3) (tv 12) 21),bt 20 (.icell (tv 3) (tv 12) 20),bt 19 (.icell (tv 3) (tv 12) 19),bt 18 (.icell (tv 3) (tv 12) 18),bt 17 (.icell (tv 3) (tv 12) 17),bt 16 (.icell (tv 3) (tv 12) 16),bt 15 (.icell (tv 3) (tv 12) 15),bt 14 (.icell (tv 3) (tv 12) 14),bt 13 (.icell (tv 3) (tv 12) 13),bt 12 (.icell (tv 3) (tv 12) 12),bt 11 (.icell (tv 3) (tv 12) 11),bt 10 (.icell (tv 3) (tv 12) 10),bt 9 (.icell (tv 3) (tv 12) 9),bt 8 (.vcell (tv 3) (tv 12) 8),bt 7 (.vcell (tv 3) (tv 12) 7),bt 6 (.vcell (tv 3) (tv 12) 6),bt 5 (.icell (tv 3) (tv 12) 5),bt 4 (.icell (tv 3) (tv 12) 4),bt 3 (.icell (tv 3) (tv 12) 3),bt 2 (.icell (tv 3) (tv 12) 2),bt 1 (.icell (tv 3) (tv 12) 1),bt 0 (.icell (tv 3) (tv 12) 0)]
def qlr:Out:=(tn (tl 0) (tv 1) (tn (tl 0) (tv 6) (.br (.cmp .neq (tv 1) (tv 6))
 (.ret 0 (sg 12 [bt 12 (.bl false)]))
 (.inv 0 12 (sg 1000 [bt 1000 (tl 0)]) (.fresh 12 (.hyp 0 12 (.br (.cmp .lss (tv 12) (tv 1))
 (tn (tl 0) (tv 12) (ts (tv 12) (.dlen (tv 3)) (ts (tv 12) (tv 6) (ts (tv 12) (.dlen (tv 8)) (tb (.pre 0 qji (tb (.fresh 13 (.post 0 0 qji 13 (.br (.not (tv 13))
 (.ret 0 (sg 12 [bt 12 (.bl false)]))
 (.back 0 12 (sg 1000 [bt 1000 (.arith .add .i64 (tv 12) (tl 1))]))))))))))))
 (.ret 0 (sg 12 [bt 12 (.bl true)])))))))))
theorem qr4:ql Try.prog qcl [qg1] [qnW] qlr:=qe Try.func56 Try.call56 (by kernel_rfl)
@[simp] def qlK:Sg:=sg 0 [bv 4 17,bt 3 (.dput (tv 15) (tv 0) 1 (.rcons (tu (tl 4)) .rnil)),bv 2 17,bt 1 (.dlen (tv 15)),bg 0 16]
@[simp] def qlO:Sg:=sg 0 [bv 14 27,bv 13 28,bg 12 36,bv 11 27,bv 10 26,bg 9 25,bt 8 (.bl true),bv 7 7,bv 6 6,bv 5 5,bv 4 4,bv 3 3,bv 2 2,bv 1 35,bv 0 0]
def qqo:Out:=(fr 10 2 (.br (tv 8)
 (.pack [.cells 11 102 [(ti (tv 0)),(tv 1),(.vint .u64 (tv 2)),(.vint .u64 (tv 3)),(ti (tv 4)),(tv 5),(tv 6),(.vint .u64 (tv 7)),(.vbool (tv 8)),(.vbool (.bl false))],.cells 10 102 [(ti (tv 0)),(tv 1),(.vint .u64 (tv 2)),(.vint .u64 (tv 3)),(ti (tv 4)),(tv 5),(tv 6),(.vint .u64 (tv 7)),(.vbool (tv 8)),(.vbool (.bl false))],.abs 9 4] 12 (.ret 0 (sg 10 [bg 16 12,bt 15 .dnil,bt 14 (tl 0),bt 13 (tl 0),(12,.nil),bv 11 8,bv 10 1])))
 (.fresh 12 (.viewL (tv 1) [CK.int .u64,CK.int .u8] [9] 13 (tn (.tims (tl 16) (.dlen (tv 15))) (tl 140737488355328) (fr 16 2 (tn (tl 0) (tv 0) (ts (tv 0) (.dlen (tv 15)) (.fresh 18 (.pre 0 qlK (tb (fr 19 4 (.post 0 0 qlK 19 (.pack [.arr 16 25 [CK.int .u64,CK.int .u8] (.dput (tv 15) (tv 0) 1 (.rcons (tu (tl 4)) .rnil)) (tv 17),.abs 9 4] 23 (.inv 0 24 (sg 1000 [bg 1012 23,bv 1008 21,bt 1004 .dnil,bt 1011 (.vslice 16 (tl 0) (.dlen (tv 15)) (tv 17) 2),bt 1009 (tl 0),bv 1007 20,bv 1006 22,bg 1005 19,bt 1003 (tl 0),bt 1002 (tl 0),bg 1001 18,bg 1010 11,bg 1000 10]) (fr 24 13 (.hyp 0 24 (tn (tl 0) (tv 30) (.br (.cmp .lss (tv 33) (tv 30))
 (tn (tl 0) (tv 33) (ts (tv 33) (.dlen (tv 32)) (tb (.fresh 37 (tb (.need (.cmp .eql (tv 26) (.dlen (tv 28))) (tn (.tims (tl 352) (.plus (tv 26) (tl 1))) (tl 140737488355328) (fr 38 2 (.pack [.cells 37 43 [(tu (tl 2)),(ti (tl 0)),(ti (.icell (tv 32) (tv 33) 0)),(.vint .u64 (tl 0)),(ti (.icell (tv 32) (tv 33) 0)),(ti (tl 0)),.vnils,.vnils,.vnils,(ti (tl 0)),(tu (tl 0)),(tu (tl 0)),(tu (tl 0)),(tu (tl 0)),(tu (tl 0)),(tu (tl 0)),(tu (tl 0)),(tu (tl 0)),(tu (tl 0)),(tu (tl 0)),(tu (tl 0)),(tu (tl 0)),(tu (tl 0)),(tu (tl 0)),(tu (tl 0)),(tu (tl 0)),(tu (tl 0)),(tu (tl 0)),(tu (tl 0)),(tu (tl 0)),(tu (tl 0)),(tu (tl 0)),(tu (tl 0)),(tu (tl 0)),(tu (tl 0)),(tu (tl 0)),(tu (tl 0)),(tu (tl 0)),(tu (tl 0)),(tu (tl 0)),(tu (tl 0)),(tu (tl 0)),.vnils,(.vbool (.bl false)),(tu (tl 0)),(tu (tl 0)),(tu (tl 0)),(tu (tl 0)),(tu (tl 0)),(tu (tl 0)),(tu (tl 0)),(tu (tl 0)),(tu (tl 0)),(tu (tl 0)),(tu (tl 0)),(tu (tl 0)),(tu (tl 0)),(tu (tl 0)),(tu (tl 0)),(tu (tl 0)),(tu (tl 0)),(tu (tl 0)),(tu (tl 0)),(tu (tl 0)),(tu (tl 0)),(tu (tl 0)),(tu (tl 0)),(tu (tl 0)),(tu (tl 0)),(tu (tl 0)),(tu (tl 0)),(tu (tl 0)),(tu (tl 0)),(tu (tl 0)),(tu (tl 0)),(tu (tl 0)),(ti (tl 0)),(ti (tl 0)),(ti (tl 0)),(ti (tl 0)),(tu (tl 0)),(tu (tl 0)),(tu (tl 0)),(tu (tl 0)),(tu (tl 0)),(tu (tl 0)),(tu (tl 0)),(tu (tl 0)),(tu (tl 0)),(tu (tl 0)),(tu (tl 0)),(tu (tl 0)),(tu (tl 0)),(tu (tl 0)),(tu (tl 0)),(tu (tl 0)),(tu (tl 0)),(tu (tl 0)),(tu (tl 0)),(tu (tl 0)),(tu (tl 0)),(tu (tl 0)),(tu (tl 0)),(tu (tl 0)),(tu (tl 0)),(tu (tl 0)),(tu (tl 0)),(tu (tl 0)),(tu (tl 0)),(tu (tl 0)),(tu (tl 0)),(tu (tl 0)),.vnils,(ti (tl 0)),.vnils,(ti (tl 0))],.abs 36 4] 40 (.back 0 24 (sg 1000 [bg 1012 40,bv 1008 32,bt 1004 (.dapp (tv 28) (.rcons (tu (tl 2)) (.rcons (ti (tl 0)) (.rcons (ti (.icell (tv 32) (tv 33) 0)) (.rcons (.vint .u64 (tl 0)) (.rcons (ti (.icell (tv 32) (tv 33) 0)) (.rcons (ti (tl 0)) (.rcons .vnils (.rcons .vnils (.rcons .vnils (.rcons (ti (tl 0)) (rr 32 (tu (tl 0)) (.rcons .vnils (.rcons (.vbool (.bl false)) (rr 32 (tu (tl 0)) (rr 4 (ti (tl 0)) (rr 32 (tu (tl 0)) (.rcons .vnils (.rcons (ti (tl 0)) (.rcons .vnils (.rcons (ti (tl 0)) .rnil))))))))))))))))))))),bv 1011 35,bt 1009 (.arith .add .i64 (tv 33) (tl 1)),bv 1007 31,bv 1006 30,bg 1005 29,bv 1003 39,bt 1002 (.plus (tv 26) (tl 1)),bg 1001 38,bg 1010 34,bg 1000 24])))))))))))
 (tb (.pre 1 qlO (tb (fr 37 5 (.post 1 0 qlO 37 (tb (.pack [.abs 41 4,.cells 34 102 [(ti (tv 0)),(tv 35),(.vint .u64 (tv 2)),(.vint .u64 (tv 3)),(ti (tv 4)),(tv 5),(tv 6),(.vint .u64 (tv 7)),(.vbool (.bl true)),(.vbool (.bl false))],.cells 24 102 [(ti (tv 0)),(tv 35),(.vint .u64 (tv 2)),(.vint .u64 (tv 3)),(ti (tv 4)),(tv 5),(tv 6),(.vint .u64 (tv 7)),(.vbool (.bl true)),(.vbool (.bl false))],.arr 25 43 qb0 (tv 28) (tv 27),.arr 29 3 [CK.int .i64] (tv 32) (tv 31)] 42 (.ret 0 (sg 10 [bg 16 42,bv 15 40,bv 14 39,bv 13 38,bg 12 37,bt 11 (.bl true),bv 10 35]))))))))))))))))))))))))))))
theorem qvD:ql Try.prog qgh [qbe,qdz] [qsH] qqo:=qe Try.func55 Try.call55 (by kernel_rfl)
set_option pp.deepTerms true
set_option pp.maxSteps 1000000
set_option maxRecDepth 20000
theorem qh5 {h:Hp} {pat:List CK} {v:Value} {d d':List (List Value)} (h1:Rd h pat v d) (h2:Rd h pat v d'):d = d':=by
 rcases h1 with ⟨a,e1,rfl⟩ | ⟨b,o,cap,c,ty,fr,e1,l1,hb1,r1⟩ <;> rcases h2 with ⟨a',e2,rfl⟩ | ⟨b',o',cap',c',ty',fr',e2,l2,hb2,r2⟩
 ·rfl
 ·rw [e1] at e2
  simp only [Value.slice.injEq] at e2;exact (jcr.1 e2.2.1.symm).symm
 ·rw [e1] at e2
  simp only [Value.slice.injEq] at e2;exact jcr.1 e2.2.1
 ·rw [e1] at e2
  simp only [Value.slice.injEq,jaa,Addr.mk.injEq] at e2;obtain ⟨⟨rfl,rfl,_⟩,hl,rfl⟩:=e2;rw [hb1] at hb2;simp only [jaa,Obj.cells.injEq] at hb2;obtain ⟨rfl,rfl,rfl⟩:=hb2;apply List.ext_getElem hl;intro i i1 i2;obtain ⟨f1,g1⟩:=r1 i _ (jae i1);obtain ⟨f2,g2⟩:=r2 i _ (jae i2);apply List.ext_getElem (by rw [f1.1,f2.1]);intro k k1 k2;have a1:=g1 k _ (jae k1);have a2:=g2 k _ (jae k2);rw [a1] at a2;exact jax a2
section
variable {h h':Hp} {vT vS vP:Value} {t t':List Ent} {s s':List Int} {p p':List Prb}
theorem qaB (hr:rIs h vT vS vP t s p) (hl:Hp.le h h'):rIs h' vT vS vP t s p:=by
 obtain ⟨dT,dS,dP,r1,r2,r3,e1,e2,e3⟩:=hr;exact ⟨dT,dS,dP,qb5 r1 hl,qb5 r2 hl,qb5 r3 hl,e1,e2,e3⟩
theorem qpM (h1:rIs h vT vS vP t s p) (h2:rIs h vT vS vP t' s' p'):t' = t/\s' = s/\p' = p:=by
 obtain ⟨dT,dS,dP,r1,r2,r3,rfl,rfl,rfl⟩:=h1;obtain ⟨dT',dS',dP',r1',r2',r3',rfl,rfl,rfl⟩:=h2;rw [qh5 r1 r1',qh5 r2 r2',qh5 r3 r3'];exact ⟨rfl,rfl,rfl⟩
end
theorem qcW {Z:Env} {b hh:Nat} {m m':Mach} (h1:rB Z b hh m) (h2:rB Z b hh m'):m' = m:=by
 obtain ⟨a1,a2,a3,a4,a5,a6,a7⟩:=h1;obtain ⟨b1,b2,b3,b4,b5,b6,b7⟩:=h2;obtain ⟨c1,c2,c3⟩:=qpM a7 b7;obtain ⟨x1,x2,x3,x4,x5,x6,x7,x8,x9⟩:=m;obtain ⟨y1,y2,y3,y4,y5,y6,y7,y8,y9⟩:=m';simp only [Mach.mk.injEq];exact ⟨b1.symm.trans a1,c1,c2,b2.symm.trans a2,b3.symm.trans a3,b4.symm.trans a4,c3,b5.symm.trans a5,b6.symm.trans a6⟩
theorem qI {Z:Env} {l:List SH} {H:Hp} (n t:Nat) (hs:qav Z l H) (hm:SH.abs n t ∈ l):Hp.le (Z n).h H:=by
 obtain ⟨hb,lb,db⟩:=qjy hs hm;exact Hp.le_trans db lb
theorem qq3 {Z:Env} {l:List SH} {H:Hp} {r:Nat} {ty:TypeId} {pat:List CK} {d cap:T} {n k:Nat} (hs:qav Z l H) (hm:SH.arr r ty pat d cap ∈ l) (hn:n = (d.den Z).d.length) (hc:k = (cap.den Z).i.toNat):Rd H pat (.slice (qg (Z r).r 0) n k) (d.den Z).d:=by
 obtain ⟨hx,hl,hd⟩:=qaV hs hm;exact qcL hd hl hn hc
theorem set_same {t:List Ent} {i:Int} {x:Ent} (h:t[i.toNat]? = some x):qbx t i x = t:=by
 unfold qbx;apply jbo;intro j;rw [ja0];by_cases hj:i.toNat = j
 ·subst hj
  have:=(jaj.1 h).1;rw [jah rfl,jah this,h]
 ·rw [jaf hj]
theorem qrE {h h':Hp} {ms:List Msg} {self:Int} {t:List Ent} {i:Nat} {d:List (List Value)} {v:Value} {g:Msg} (hs:qX h (ms.take i) self t i d) (hg:ms[i]? = some g) (hl:Hp.le h h') (hv:RdT h' v t):qX h' (ms.take (i + 1)) self t (i + 1) (d ++ [qcj { g with src:=self } v]):=by
 obtain ⟨vs,h1,h2,h3⟩:=hs;have hi:=(jaj.1 hg).1;refine ⟨vs ++ [v],by simp [h1],?_,fun x hx=>?_⟩
 ·rw [jap (List.length_take_le _ _),jdo (List.length_take_le _ _)] at h2 ⊢
  rw [h2,qa2 hg];simp only [qfy,jcj,jbf,jbz];rw [List.zipWith_append (by simp [h1]; omega)];rfl
 ·rcases ja4.1 hx with hx | hx
  ·exact qlk (h3 x hx) hl
  ·simp only [jan] at hx; subst hx; exact hv
theorem qfe:qbW.ok Try.prog:=qrB (by simp) fun Z hg hp=>by simp [qmH,qbW,qbX]
theorem quN:qgl.ok Try.prog:=qug (by simp [qfe]) fun Z hg hp=>by simp [qot,qgl,qbW,qbX]
theorem qr7:qeE.ok Try.prog:=qrH (by simp [qfe]) fun Z hg hp=>by simp [qmk,qeE,qbW,qbX]
theorem qrQ:qeT.ok Try.prog:=qr3 (by simp [qfe]) fun Z hg hp=>by simp [qlm,qeT,qbW,qbX]
theorem qrx:qeD.ok Try.prog:=qrU (by simp) fun Z hg hp=>by simp [qmI,qeD,qbX]
theorem quF:qgr.ok Try.prog:=qu7 (by simp) fun Z hg hp=>by simp [qoW,qgr,qbX]
theorem qra:qeo.ok Try.prog:=qqS (by simp) fun Z hg hp=>by simp [qkw,qeo,qbX]
theorem qrI:qeG.ok Try.prog:=qr1 (by simp) fun Z hg hp=>by simp [qmB,qeG,qbX]
theorem qub:qgo.ok Try.prog:=qtO (by simp) fun Z hg hp=>by simp [qo5,qgo,qbX]
theorem qtE:qhy.ok Try.prog:=quC (by simp [qfe]) fun Z hg hp=>by simp [qnX,qhy,qbW,qbX]
theorem qwv:qhH.ok Try.prog:=qvN (by simp) fun Z hg hp=>by simp [qqK,qhH,qfL]
theorem qww:qhP.ok Try.prog:=qvC (by simp) fun Z hg hp=>by simp [qqM,qhP,qfL]
theorem quX:qgg.ok Try.prog:=qt7 (by simp) fun Z hg hp=>by simp [qnV,qgg,qfL]
theorem qt8:qgq.ok Try.prog:=qtP (by simp) fun Z hg hp=>by simp [qo9,qgq,qfL]
theorem qnG:qgS.ok Try.prog:=qzb (by simp) fun Z hg hp=>by
 obtain ⟨m,hB,hs,h16,i0,i1⟩:=hp;have hB0:=hB;obtain ⟨a0,a2,a3,a4,a7,a8,dT,dS,dP,rT,rS,rP,tT,tS,tP⟩:=hB;have hTl:dT.length = m.tab.length:=by rw [<- tT,qu]
 have hSl:dS.length = m.since.length:=by rw [<- tS,qH]
 simp (config:={ maxSteps:=4000000 }) [qwl,qgS,rB];have hTi:m.tab[(Z 9).i.toNat]? = some (qc dT (Z 9).i 0,qc dT (Z 9).i 1):=by rw [<- tT]; exact qaw i0 (by omega)
 intro u _ u1 _ u2 _;refine ⟨dT,rT,fun v0 _ v1 _ hv hvl=>⟨i0,by omega,fun c0 c1 u3 _ hst m' b0 b2 b3 b4 b7 b8 hI=>?_,fun hne u3 _=>⟨dT,rT,fun v2 _ v3 _ hv2 hvl2=>⟨by omega,fun u4 _ u5 _ u6 _=>⟨dS,rS,fun v4 _ v5 _ hv4 hvl4=>⟨by omega,fun u7 _ u8 _=>⟨by omega,fun h2=>⟨by omega,fun u9 _ hst m' b0 b2 b3 b4 b7 b8 hI=>?_⟩,fun h2 u9 _ hst m' b0 b2 b3 b4 b7 b8 hI=>?_⟩⟩⟩⟩⟩⟩⟩
 ·obtain rfl:=qcW hB0 ⟨b0,b2,b3,b4,b7,b8,hI⟩
  have hle:=qI 12 4 hst (by simp);simp at hle;rw [c0,c1] at hTi;rw [set_same hTi,qaE,jaf (fun h=>h.1 hTi)];exact qaB hI hle
 ·obtain rfl:=qcW hB0 ⟨b0,b2,b3,b4,b7,b8,hI⟩
  have hle:=qI 12 4 hst (by simp);simp at hle;obtain ⟨ha,la,da⟩:=qaV hst (jac ..);obtain ⟨hb,lb,db⟩:=qaV hst (jab _ (jac ..));have q1:=qcL (n:=dS.length) (k:=u8.i.toNat) da la (by simp [qaC]) (by simp);have q2:=qcL (n:=dT.length) (k:=u5.i.toNat) db lb (by simp [qaC]) (by simp);have q1:Rd u9.h [.int .u64] (.slice (qg u7.r 0) dS.length u8.i.toNat) (qL dS (Z 9).i 0 [.int .u64 (Z 2).i]):=by simpa using q1
  have q2:Rd u9.h qp (.slice (qg u4.r 0) dT.length u5.i.toNat) (qL dT (Z 9).i 0 [.int .u64 (Z 10).i,.int .u8 (Z 11).i]):=by simpa [qp] using q2
  have hnx:m'.tab[(Z 9).i.toNat]? ≠ some ((Z 10).i,(Z 11).i):=fun h=>by
   rw [hTi] at h;simp only [jaa,jak] at h;exact hne h.1 h.2
  refine ⟨_,_,dP,q2,q1,qb5 rP hle,?_,?_,tP⟩
  ·rw [qea i0 (by omega),tT]
  ·rw [qqH i0 (by omega),tS,qaE,jah ⟨hnx,h2⟩,b2]
 ·obtain rfl:=qcW hB0 ⟨b0,b2,b3,b4,b7,b8,hI⟩
  have hle:=qI 12 4 hst (by simp);simp at hle;obtain ⟨ha,la,da⟩:=qaV hst (jac ..);obtain ⟨hb,lb,db⟩:=qaV hst (jab _ (jac ..));have q1:=qcL (n:=dS.length) (k:=u8.i.toNat) da la (by simp [qaC]) (by simp);have q2:=qcL (n:=dT.length) (k:=u5.i.toNat) db lb (by simp [qaC]) (by simp);have q1:Rd u9.h [.int .u64] (.slice (qg u7.r 0) dS.length u8.i.toNat) dS:=by simpa using q1
  have q2:Rd u9.h qp (.slice (qg u4.r 0) dT.length u5.i.toNat) (qL dT (Z 9).i 0 [.int .u64 (Z 10).i,.int .u8 (Z 11).i]):=by simpa [qp] using q2
  refine ⟨_,_,dP,q2,q1,qb5 rP hle,?_,?_,tP⟩
  ·rw [qea i0 (by omega),tT]
  ·rw [qaE,jaf (fun h=>h2 h.2),tS]
theorem qjv:qdz.ok Try.prog:=qvQ (by simp) fun Z hg hp=>by
 obtain ⟨⟨t,hT,h16⟩,hl,hb,ms,hms⟩:=hp;obtain ⟨dT,rT,tT⟩:=hT;simp (config:={ maxSteps:=8000000 }) [qqz,qdz,qst,rcs,qa6,qvG,qb0,jdk,List.range_zero];have hTl:dT.length = t.length:=by rw [<- tT,qu]
 have htu:∀ t',qf5 (Z 12).h (Z 1).v t'->t' = t:=fun t' h=>by
  obtain ⟨d',r',e'⟩:=h;rw [<- e',qh5 r' rT,tT]
 intro u _ u1 _;refine ⟨⟨by omega,Hp.le_refl _,fun t' ms' hI hm'=>⟨[],rfl,rfl,by simp⟩⟩,?_⟩;intro u2 _ u3 _ u4 _ u5 _ u6 _ u7 _ u8 _ g0 g1 g2 g3 gL gS;have gS0:=fun ms'=>gS t ms' ⟨dT,rT,tT⟩
 have rT':=qb5 rT gL;refine ⟨by omega,fun hlt=>⟨g0,by omega,fun u9 _ u10 _=>⟨dT,rT',fun _ _ _ _ _ _=>⟨by omega,fun u11 _ u12 _ u13 _=>⟨g2,by omega,fun u14 _ u15 _ u16 _ hst=>?_⟩⟩⟩⟩,fun hge u9 _ hst=>?_⟩
 ·have ha:qk .add .i64 u7.i 1 = u7.i + 1:=qJ g0 hlt (by unfold big; omega)
  rw [ha];have hle:=qI 23 4 hst (by simp);simp at hle;refine ⟨⟨by omega,by omega,g2,by omega,Hp.le_trans gL hle,fun t' ms' hI hm'=>?_⟩,by omega⟩;obtain rfl:=htu _ hI;have q1:=gS0 ms' hm';have hml:ms'.length = (Z 13).d.length:=by rw [hm']; simp
  have hg:ms'[u7.i.toNat]? = some (ms'[u7.i.toNat]'(by omega)):=jae _;have hr:(Z 13).d[u7.i.toNat]? = some (qdZ (ms'[u7.i.toNat]'(by omega))):=by rw [hm',jaq,hg]; rfl
  obtain ⟨ha,la,da⟩:=qaV hst (jab _ (jac ..));have r2:=qcL (n:=dT.length) (k:=u12.i.toNat) da la (by simp) (by simp);have r2:Rd u16.h qp (.slice (qg u11.r 0) dT.length u12.i.toNat) dT:=by simpa [qp] using r2
  have z2:=qyv (n:=dT.length) (k:=u12.i.toNat) da;simp at z2;have key:=qrE q1 hg hle (v:=.slice (qg u11.r 0) dT.length u12.i.toNat) ⟨dT,r2,tT,z2⟩;have hall:∀ r,r = qcj { (ms'[u7.i.toNat]'(by omega)) with src:=(Z 0).i } (.slice (qg u11.r 0) dT.length u12.i.toNat)->qX u16.h (ms'.take (u7.i.toNat + 1)) (Z 0).i t' (u7.i.toNat + 1) (u6.d ++ [r]):=fun r hr=>by rw [hr]; exact key
  rw [qA g0];exact hall _ (by simp [qc,qba,qcw,hr,qdZ,qcj,qlT,qbk,qew])
 ·have hle:=qI 23 4 hst (by simp)
  simp at hle;refine ⟨Hp.le_trans gL hle,fun t' ms' hI hm'=>?_⟩;obtain rfl:=htu _ hI;have q1:=gS0 ms' hm';have hml:ms'.length = (Z 13).d.length:=by rw [hm']; simp
  rw [show u7.i.toNat = ms'.length by omega,jdt] at q1;exact ⟨g2,qaQ q1 hle⟩
theorem qw4:qhB.ok Try.prog:=qwf (by simp) fun Z hg hp=>by
 obtain ⟨m,hB⟩:=hp;have hB0:=hB;obtain ⟨a0,a2,a3,a4,a7,a8,dT,dS,dP,rT,rS,rP,tT,tS,tP⟩:=hB;simp (config:={ maxSteps:=4000000 }) [qqN,qhB,rB];refine ⟨fun h0=>⟨dT,rT,fun _ _ _ _ _ _ m' b0 b2 b3 b4 b7 b8 hI=>?_⟩,fun h m' b0 b2 b3 b4 b7 b8 hI=>?_⟩
 ·obtain rfl:=qcW hB0 ⟨b0,b2,b3,b4,b7,b8,hI⟩
  rw [qer,decide_eq_true h0,Bool.true_and,<- tT,qu]; rfl
 ·rw [qer,decide_eq_false (by omega),Bool.false_and]
theorem qwy:qge.ok Try.prog:=qwA (by simp) fun Z hg hp=>by
 obtain ⟨m,hB,hW⟩:=hp;have hB0:=hB;obtain ⟨a0,a2,a3,a4,a7,a8,dT,dS,dP,rT,rS,rP,tT,tS,tP⟩:=hB;simp (config:={ maxSteps:=4000000 }) [qq8,qge,rB];obtain ⟨w1,w2,w3,w4,w5,_⟩:=hW;have hTl:dT.length = m.tab.length:=by rw [<- tT,qu]
 have hst0:qc4 m.tab m.self = (qc dT (Z 0).i 0,qc dT (Z 0).i 1):=by rw [<- tT,<- a0]; exact qdB (by omega) (by omega)
 have eE:qbY m (Z 9).i = if m.left then 30 else if (Z 9).i <= qc dT (Z 0).i 0∨(Z 9).i <= m.chal then 2 else 0:=by rw [qbY,hst0]
 intro u _ u1 _;refine ⟨fun hl u2 _ hst m' b0 b2 b3 b4 b7 b8 hI=>?_,fun hl=>⟨dT,rT,fun _ _ _ _ _ hvl=>⟨by omega,by omega,fun h1 u2 _ hst m' b0 b2 b3 b4 b7 b8 hI=>?_,fun h1=>⟨fun h2 u2 _ hst m' b0 b2 b3 b4 b7 b8 hI=>?_,fun h2 u2 _=>⟨dT,rT,fun _ _ _ _ _ _=>⟨by omega,fun u3 _ u4 _=>⟨by omega,fun u5 _ hst m' b0 b2 b3 b4 b7 b8 hI=>?_⟩⟩⟩⟩⟩⟩⟩
 ·obtain rfl:=qcW hB0 ⟨b0,b2,b3,b4,b7,b8,hI⟩
  have hle:=qI 10 4 hst (by simp);simp at hle;have e:qbY m' (Z 9).i = 30:=by rw [eE,<- b8,hl,jah rfl]
  have eM:qaM m' (Z 9).i = m':=by rw [qaM,e,jaf (by decide)]
  rw [e,eM];exact ⟨rfl,b7,qaB hI hle⟩
 ·obtain rfl:=qcW hB0 ⟨b0,b2,b3,b4,b7,b8,hI⟩
  have hle:=qI 10 4 hst (by simp);simp at hle;have e:qbY m' (Z 9).i = 2:=by rw [eE,<- b8,hl,jaf (by decide),jah (.inl h1)]
  have eM:qaM m' (Z 9).i = m':=by rw [qaM,e,jaf (by decide)]
  rw [e,eM];exact ⟨rfl,b7,qaB hI hle⟩
 ·obtain rfl:=qcW hB0 ⟨b0,b2,b3,b4,b7,b8,hI⟩
  have hle:=qI 10 4 hst (by simp);simp at hle;have e:qbY m' (Z 9).i = 2:=by rw [eE,<- b8,hl,jaf (by decide),jah (.inr (by omega))]
  have eM:qaM m' (Z 9).i = m':=by rw [qaM,e,jaf (by decide)]
  rw [e,eM];exact ⟨rfl,b7,qaB hI hle⟩
 ·obtain rfl:=qcW hB0 ⟨b0,b2,b3,b4,b7,b8,hI⟩
  have hle:=qI 10 4 hst (by simp);simp at hle;have e:qbY m' (Z 9).i = 0:=by rw [eE,<- b8,hl,jaf (by decide),jaf (by omega)]
  have eM:qaM m' (Z 9).i = { m' with tab:=m'.tab.set m'.self.toNat ((Z 9).i,1),chal:=0 }:=by rw [qaM,e,jah rfl]
  obtain ⟨ha,la,da⟩:=qaV hst (jac ..);have q2:=qcL (n:=dT.length) (k:=u4.i.toNat) da la (by simp [qaC]) (by simp);have q2:Rd u5.h qp (.slice (qg u3.r 0) dT.length u4.i.toNat) (qL dT (Z 0).i 0 [.int .u64 (Z 9).i,.int .u8 1]):=by simpa [qp] using q2
  rw [e,eM];refine ⟨rfl,rfl,_,dS,dP,q2,qb5 rS hle,qb5 rP hle,?_,tS,tP⟩;rw [qea (by omega) (by omega),tT,b0]; rfl
theorem qyY {me n inc:Int} {H:Hp} {a b:Option Addr} (h0:0 <= me) (h1:me < n) (r1:Rd H qp (.slice (qg a 0) n.toNat n.toNat) (qL (List.replicate n.toNat [.int .u64 0,.int .u8 0]) me 0 [.int .u64 inc,.int .u8 1])) (r2:Rd H [.int .u64] (.slice (qg b 0) n.toNat n.toNat) (List.replicate n.toNat [.int .u64 0])) :
  rIs H (.slice (qg a 0) n.toNat n.toNat) (.slice (qg b 0) n.toNat n.toNat) (.slice none 0 0) (qc2 me n inc).tab (qc2 me n inc).since []:=by
 refine ⟨_,_,[],r1,r2,.inl ⟨none,rfl,rfl⟩,?_,?_,rfl⟩
 ·rw [qea h0 (by simp; omega),qbx]
  simp [qc2,qb,qb3,qbk]
 ·simp [qc2,qf,qb3,qbk]
theorem qsv:qfO.ok Try.prog:=qyF (by simp) fun Z hg hp=>by
 have hp:0 <= (Z 2).i:=hp;simp (config:={ maxSteps:=4000000 }) [qwQ,qfO];have core1:∀ {Y:Env} {l:List SH} {H:Hp} (r1 r2:Nat),qav Y l H->SH.arr r1 25 qp (.dput (.drep (.var 1) (.rcons (.vint .u64 (.lit 0)) (.rcons (.vint .u8 (.lit 0)) .rnil))) (.var 0) 0 (.rcons (.vint .u64 (.var 2)) (.rcons (.vint .u8 (.lit 1)) .rnil))) (.var 1) ∈ l->SH.arr r2 22 [.int .u64] (.drep (.var 1) (.rcons (.vint .u64 (.lit 0)) .rnil)) (.var 1) ∈ l->(Y 0).i = (Z 0).i->(Y 1).i = (Z 1).i->(Y 2).i = (Z 2).i->0 <= (Z 0).i->(Z 0).i < (Z 1).i->rIs H (.slice (qg (Y r1).r 0) (Z 1).i.toNat (Z 1).i.toNat) (.slice (qg (Y r2).r 0) (Z 1).i.toNat (Z 1).i.toNat) (.slice none 0 0) (qc2 (Z 0).i (Z 1).i (Z 2).i).tab (qc2 (Z 0).i (Z 1).i (Z 2).i).since []:=fun {Y l H} r1 r2 hst m1 m2 e0 e1 e2 h0 h1=>by
  have q1:=qq3 (n:=(Z 1).i.toNat) (k:=(Z 1).i.toNat) hst m1 (by simp [qaC,e1]) (by simp [e1]);have q2:=qq3 (n:=(Z 1).i.toNat) (k:=(Z 1).i.toNat) hst m2 (by simp [e1]) (by simp [e1]);simp [e0,e1,e2] at q1 q2;exact qyY h0 h1 q1 q2
 intro u _;have hb:qa3 (Z 0).i (Z 1).i (Z 2).i = (decide ((Z 1).i < 2) || decide ((Z 1).i > 16) || decide ((Z 0).i < 0) || decide ((Z 0).i ≥ (Z 1).i) || (Z 2).i == 0):=rfl;refine ⟨fun h=>by simp [qa3]; omega,fun h1=>⟨fun h=>by simp [qa3]; omega,fun h2=>⟨fun h=>by simp [qa3]; omega,fun h3=>⟨fun h=>by simp [qa3]; omega,fun h4=>⟨fun h=>by simp [qa3]; omega,fun h5=>?_⟩⟩⟩⟩⟩;have hB:qa3 (Z 0).i (Z 1).i (Z 2).i = false:=by simp [qa3]; omega
 rw [hB]
 repeat' (first | with_reducible apply And.intro | with_reducible intro _)
 all_goals first
  | omega
  | rfl
  | (rename_i hst; first
    | exact core1 3 4 hst (by simp [qp]) (by simp) rfl rfl rfl (by omega) (by omega)
    | exact core1 4 5 hst (by simp [qp]) (by simp) rfl rfl rfl (by omega) (by omega)
    | exact core1 4 6 hst (by simp [qp]) (by simp) rfl rfl rfl (by omega) (by omega)
    | exact core1 5 4 hst (by simp [qp]) (by simp) rfl rfl rfl (by omega) (by omega)
    | exact core1 6 4 hst (by simp [qp]) (by simp) rfl rfl rfl (by omega) (by omega)
    | exact core1 5 6 hst (by simp [qp]) (by simp) rfl rfl rfl (by omega) (by omega)
    | exact core1 6 5 hst (by simp [qp]) (by simp) rfl rfl rfl (by omega) (by omega))
theorem qyb:qjp.ok Try.prog:=qxV (by simp [qe4]) fun Z hg hp=>by
 obtain ⟨⟨m,hB,h16⟩,d0,d1⟩:=hp;have hB0:=hB;obtain ⟨a0,a2,a3,a4,a7,a8,dT,dS,dP,rT,rS,rP,tT,tS,tP⟩:=hB;have hTl:dT.length = m.tab.length:=by rw [<- tT,qu]
 have huni:∀ m',(Z 0).i = m'.self->(Z 2).i = m'.clock->(Z 3).i = m'.seq->(Z 4).i = m'.pinged->(Z 7).i = m'.chal->(Z 8).b = m'.left->rIs (Z 14).h (Z 1).v (Z 5).v (Z 6).v m'.tab m'.since m'.probes->m' = m:=fun m' b0 b2 b3 b4 b7 b8 hI=>qcW hB0 ⟨b0,b2,b3,b4,b7,b8,hI⟩
 simp (config:={ maxSteps:=4000000 }) [qtf,qjp,qvF,qv0,qbe,qbB,rB];refine ⟨dT,rT,fun _ _ _ _ _ _=>⟨by unfold big; omega,fun u _ u_1 _ k1 k2 k3=>⟨⟨by omega,k2,fun m' b0 b2 b3 b4 b7 b8 hI=>?_,by omega,rfl⟩,fun n _ u2 _ ul _ uL _ ui _ g0 g1 g2 g3 g4 g5 g6 g7=>?_⟩⟩⟩
 ·obtain rfl:=huni m' b0 b2 b3 b4 b7 b8 hI
  rw [k1,tT]
 have hA:ui.i < ul.i->qk .add .i64 ui.i 1 = ui.i + 1:=fun h=>qJ g0 h (by unfold big; omega)
 have hs:ui.i < ul.i->(qf uL.d).take (ui.i.toNat + 1) = (qf uL.d).take ui.i.toNat ++ [qc uL.d ui.i 0]:=fun h=>qa2 (qaW g0 (by omega))
 refine ⟨by omega,fun hlt=>⟨g0,by omega,fun hn=>⟨fun hn2=>⟨g3,by omega,?_,?_⟩,fun hn2=>⟨?_,?_⟩⟩,fun hn=>⟨?_,?_⟩⟩,fun hge=>⟨⟨by omega,g3,by omega,fun m' b0 b2 b3 b4 b7 b8 hI=>?_,by simp [qC,qi3]⟩,fun v _ vd _ vn _ vD _ vi _ q0 q1 q2 q3 q4 q5 q6 q7 q8=>?_⟩⟩
 ·rw [hA hlt]
  refine ⟨by omega,by omega,g2,g3,by omega,g5,g6,?_⟩;rw [qA g0,hs hlt,jbs,<- g7];simp [qf,qb3,qbk,hn,hn2]
 ·rw [hA hlt]; omega
 ·rw [hA hlt]
  refine ⟨by omega,by omega,g2,g3,by omega,g5,g6,?_⟩;rw [qA g0,hs hlt,jbs,<- g7];simp [hn2]
 ·rw [hA hlt]; omega
 ·rw [hA hlt]
  refine ⟨by omega,by omega,g2,g3,by omega,g5,g6,?_⟩;rw [qA g0,hs hlt,jbs,<- g7];simp [hn]
 ·rw [hA hlt]; omega
 ·have e:=g5 m' b0 b2 b3 b4 b7 b8 hI
  have hl:=congrArg List.length e;rw [qH] at hl;rw [g7,jap (by rw [qH]; omega),e,qcY]
  congr 1
  funext i
  simp [Bool.not_or]
 ·have q5':=q5 m a0 a2 a3 a4 a7 a8 ⟨dT,dS,dP,rT,rS,rP,tT,tS,tP⟩
  have hcl:=congrArg List.length q5';rw [qH] at hcl;refine ⟨fun hq=>⟨by omega,fun hq2=>?_,fun hq2 m' b0 b2 b3 b4 b7 b8 hI=>?_⟩,fun hq m' b0 b2 b3 b4 b7 b8 hI=>?_⟩
  ·have hw1:IntKind.u64.wrap v.i = v.i:=qcd (by omega) (by omega)
   have t1:Int.tmod (Z 13).i v.i < v.i:=jb2 _ (by omega);have t0:0 <= Int.tmod (Z 13).i v.i:=jcb _ d0;have hr:qk .rem .u64 (Z 13).i v.i = Int.tmod (Z 13).i v.i:=rfl;have hw2:IntKind.i64.wrap (Int.tmod (Z 13).i v.i) = Int.tmod (Z 13).i v.i:=qaU (by omega) (by omega);have hw3:qk .add .i64 (Int.tmod (Z 13).i v.i) vi.i = Int.tmod (Z 13).i v.i + vi.i:=qaU (by omega) (by omega);have hw4:qk .add .i64 vi.i 1 = vi.i + 1:=qaU (by omega) (by omega);have s1:Int.tmod (Int.tmod (Z 13).i v.i + vi.i) v.i < v.i:=jb2 _ (by omega);have s0:0 <= Int.tmod (Int.tmod (Z 13).i v.i + vi.i) v.i:=jcb _ (by omega);have hr2:qk .rem .i64 (Int.tmod (Z 13).i v.i + vi.i) v.i = Int.tmod (Int.tmod (Z 13).i v.i + vi.i) v.i:=rfl;rw [hw1,hr,hw2,hw3,hw4,hr2];have hcell:=qaW (d:=vd.d) s0 (by omega);have hm:qf3 (qf vd.d) (Z 9).i (Z 10).i (Z 13).i vi.i.toNat = ⟨3,0,qc vd.d (Int.tmod (Int.tmod (Z 13).i v.i + vi.i) v.i) 0,(Z 9).i,0,(Z 10).i⟩:=by
    unfold qf3;rw [qH,<- q3,jbl q0,ja2,hcell]; rfl
   have key:=qd1 (m:=qf3 (qf vd.d) (Z 9).i (Z 10).i (Z 13).i vi.i.toNat) q8;rw [<- qoD,hm,<- qA q0] at key;exact ⟨by omega,by omega,s0,s1,by omega,q6,by omega,⟨by omega,by omega,by omega,q3,q4,q5,q6,by omega,key⟩,by omega⟩
  ·obtain rfl:=huni m' b0 b2 b3 b4 b7 b8 hI
   refine ⟨q6,by omega,?_⟩;rw [qgx,<- b0,<- q5',show min 2 (qf vd.d).length = vi.i.toNat by rw [qH]; omega];exact q8
  ·obtain rfl:=huni m' b0 b2 b3 b4 b7 b8 hI
   refine ⟨q6,by omega,?_⟩;rw [qgx,<- b0,<- q5',show min 2 (qf vd.d).length = vi.i.toNat by rw [qH]; omega];exact q8
theorem qmY:qcK.ok Try.prog:=qvm (by simp) fun Z hg hp=>by
 obtain ⟨h1,h2,h3,h4⟩:=hp;simp (config:={ maxSteps:=4000000 }) [qog,qcK,qq0];refine ⟨by omega,by omega,fun hne he=>?_,fun heq=>⟨⟨by omega,heq⟩,fun u _ g0 g1 g2 g3=>⟨fun hlt=>⟨g0,by omega,by omega,by omega,fun hne he=>?_,fun e0 e1 e2 e3=>?_⟩,fun hge=>?_⟩⟩⟩
 ·have:=congrArg List.length he
  rw [qcs,qcs] at this;omega
 ·have k1:=qbQ (d:=(Z 3).d) g0 (by omega)
  have k2:=qbQ (d:=(Z 8).d) g0 (by omega);rw [he,k2] at k1;simp only [jaa,Prb.mk.injEq] at k1;obtain ⟨j0,j1,j2,j3⟩:=k1;rcases hne with h | h | h | h
  ·exact h j0.symm
  ·exact h j1.symm
  ·exact h j2.symm
  ·exact h j3.symm
 ·have k1:=qbQ (d:=(Z 3).d) g0 (by omega)
  have k2:=qbQ (d:=(Z 8).d) g0 (by omega);have hA:qk .add .i64 u.i 1 = u.i + 1:=qJ g0 hlt (by unfold big; omega);rw [hA];refine ⟨⟨by omega,by omega,g2,?_⟩,by omega⟩;rw [qA g0,qa2 k1,qa2 k2,g3,e0,e1,e2,e3]
 ·rw [jap (by rw [qcs]; omega),jap (by rw [qcs]; omega)] at g3
  exact g3
set_option maxHeartbeats 8000000
set_option pp.deepTerms true
set_option pp.maxSteps 1000000
theorem qpS {Z:Env} {h:Nat} {m:Mach} (hB:rB Z 0 h m) (Q:Mach->Prop):(∀ m',(Z 0).i = m'.self->(Z 2).i = m'.clock->(Z 3).i = m'.seq->(Z 4).i = m'.pinged->(Z 7).i = m'.chal->(Z 8).b = m'.left->rIs (Z h).h (Z 1).v (Z 5).v (Z 6).v m'.tab m'.since m'.probes->Q m') = Q m :=
 propext ⟨fun H=>by
  obtain ⟨b0,b2,b3,b4,b7,b8,hI⟩:=hB;exact H m b0 b2 b3 b4 b7 b8 hI,fun H m' b0 b2 b3 b4 b7 b8 hI=>by rw [qcW hB ⟨b0,b2,b3,b4,b7,b8,hI⟩]; exact H⟩
theorem qfN {h:Hp} {pat:List CK} {v:Value} {d0:List (List Value)} (hR:Rd h pat v d0) (P:List (List Value)->Prop):(∃ d,Rd h pat v d/\P d) = P d0 :=
 propext ⟨fun ⟨d,h1,h2⟩=>by rw [qh5 hR h1]; exact h2,fun h=>⟨d0,hR,h⟩⟩
section
variable {h:Hp} {vT vS vP:Value} {T:List Ent} {S:List Int} {P:List Prb} (hI:rIs h vT vS vP T S P) (s c q p g:Int) (l:Bool)
include hI
theorem qwI (m:Mach) (b0:s = m.self) (b2:c = m.clock) (b3:q = m.seq) (b4:p = m.pinged) (b7:g = m.chal) (b8:l = m.left) (b:rIs h vT vS vP m.tab m.since m.probes):m = ⟨s,T,S,c,q,p,P,g,l⟩:=by
 obtain ⟨c1,c2,c3⟩:=qpM hI b;obtain ⟨y1,y2,y3,y4,y5,y6,y7,y8,y9⟩:=m;simp only [Mach.mk.injEq];exact ⟨b0.symm,c1,c2,b2.symm,b3.symm,b4.symm,c3,b7.symm,b8.symm⟩
theorem qkm (Q:Mach->Prop):(∀ m:Mach,s = m.self->c = m.clock->q = m.seq->p = m.pinged->g = m.chal->l = m.left->rIs h vT vS vP m.tab m.since m.probes->Q m) = Q ⟨s,T,S,c,q,p,P,g,l⟩ :=
 propext ⟨fun H=>H ⟨s,T,S,c,q,p,P,g,l⟩ rfl rfl rfl rfl rfl rfl hI,fun H m b0 b2 b3 b4 b7 b8 b=>by rw [qwI hI s c q p g l m b0 b2 b3 b4 b7 b8 b]; exact H⟩
theorem qre (Q:Mach->Prop):(∃ m:Mach,(s = m.self/\c = m.clock/\q = m.seq/\p = m.pinged/\g = m.chal/\l = m.left/\rIs h vT vS vP m.tab m.since m.probes)/\Q m) = Q ⟨s,T,S,c,q,p,P,g,l⟩ :=
 propext ⟨fun ⟨m,⟨b0,b2,b3,b4,b7,b8,b⟩,H⟩=>by rw [qwI hI s c q p g l m b0 b2 b3 b4 b7 b8 b] at H; exact H,fun H=>⟨⟨s,T,S,c,q,p,P,g,l⟩,⟨rfl,rfl,rfl,rfl,rfl,rfl,hI⟩,H⟩⟩
end
theorem qzS {h:Hp} {pat:List CK} {v:Value} {d:List (List Value)} (hR:Rd h pat v d):∀ row ∈ d,row.length = pat.length:=by
 rcases hR with ⟨a,e1,rfl⟩ | ⟨b,o,cap,c,ty,fr,e1,l1,hb1,r1⟩
 ·simp
 ·intro row hr
  obtain ⟨i,hi,rfl⟩:=jc1 hr;exact (r1 i _ (jae hi)).1.1
theorem qwb {h:Hp} {v:Value} {d:List (List Value)} {i y:Int} (hR:Rd h qp v d) (h0:0 <= i) (h1:i < (d.length:Int)):qb (qL d i 1 [.int .u8 y]) = (qb d).set i.toNat (qc d i 0,y):=by
 apply jbo;intro j;have hl:i.toNat < d.length:=by omega
 simp only [qb,qL,jaq,ja0,ja3];by_cases hj:i.toNat = j
 ·subst hj
  have hz:=qzS hR _ (jeb hl);simp only [jah hl,ja9,ja5,jaa];simp only [qc,qba,jae hl,jbc];generalize d[i.toNat] = r at hz
  match r,hz with
  | [a,b],_=>simp [qb3,qbb,qbk]
 ·simp [hj]
theorem qwn:qgh.ok Try.prog:=qvD (by simp [qe4,qnG,qjv]) fun Z hg hp=>by
 obtain ⟨m,hB,hW⟩:=hp;have hall:=qpS hB;obtain ⟨a0,a2,a3,a4,a7,a8,dT,dS,dP,rT,rS,rP,tT,tS,tP⟩:=hB;obtain ⟨w1,w2,w3,w4,w5,_⟩:=hW;have hTl:dT.length = m.tab.length:=by rw [<- tT,qu]
 have e0:=qfN (pat:=[.int .u64,.int .u8]) rT;simp (config:={ maxSteps:=4000000 }) [qqo,qgh,qsH,qgS,qdz,qbe,qbB,rB,hall];have hput:=qwb (y:=4) rT (i:=(Z 0).i) (by omega) (by omega);have hLT:qU m.tab m.self = qb (qL dT (Z 0).i 1 [.int .u8 4]):=by
  rw [hput,qU,<- tT,<- a0,qdB (by omega) (by omega)]
 intro u _ u1 _;refine ⟨fun hl u2 _ hst=>⟨hl,?_⟩,fun hl u2 _=>?_⟩
 ·have hle:=qI 9 4 hst (by simp)
  simp at hle;exact .inl ⟨by rw [<- a8]; exact hl,qaB ⟨dT,dS,dP,rT,rS,rP,tT,tS,tP⟩ hle⟩
 ·have hml:m.left = false:=by rw [<- a8]; exact hl
  refine (e0 _).symm ▸ ?_;intro v0 _ v1 _ hv hvl;refine ⟨by omega,fun v2 _ v3 _=>⟨by omega,by omega,fun v4 _=>⟨⟨by simp [qaC],by unfold big; omega⟩,fun x1 _ x2 _ x3 _ x4 _ k1 k2 k3 x5 _ hst=>?_⟩⟩⟩;rw [<- hLT] at k1;refine ⟨⟨by omega,k2,by omega,hml,k1,rfl,?_⟩,?_⟩
  ·have hle:=qI 9 4 hst (by simp)
   simp at hle;obtain ⟨ha,la,da⟩:=qaV hst (jac ..);have q2:=qcL (n:=dT.length) (k:=v3.i.toNat) da la (by simp [qaC]) (by simp);have q2:Rd x5.h qp (.slice (qg v2.r 0) dT.length v3.i.toNat) (qL dT (Z 0).i 1 [.int .u8 4]):=by simpa [qp] using q2
   exact ⟨_,dS,dP,q2,qb5 rS hle,qb5 rP hle,hLT.symm,tS,tP⟩
  ·intro _ _ _ _ un _ uc _ uD _ _ _ ul _ _ _ uL _ ui _ _ _ uT _ uH _ g0 g1 g2 g3 g4 g5 g6 g7 g8 g9
   refine ⟨by omega,fun hi=>⟨g0,by omega,fun _ _=>⟨g4,by omega,fun _ _ _ _ z _ hst=>?_⟩⟩,fun hi=>?_⟩
   ·have hA:qk .add .i64 ui.i 1 = ui.i + 1:=qJ g0 hi (by unfold big; omega)
    rw [hA];have hc:=qaW (d:=uL.d) g0 (by omega);rw [g7] at hc;have hq:=qd1 (m:=qg9 (qc uL.d ui.i 0)) g8;rw [<- qa2 (by rw [jaq,hc]; rfl),<- qA g0] at hq;have hle:=qI 36 4 hst (by simp);simp at hle;exact ⟨⟨by omega,by omega,g2,g3,g4,by omega,g6,g7,hq,qaB g9 hle⟩,by omega⟩
   ·have hlen:=congrArg List.length g7
    rw [qH] at hlen;rw [jap (by rw [ja3]; omega)] at g8;have a0':(Z 0).i = m.self:=a0;have hTI:qf5 uH.h uT.v (qU m.tab m.self):=by
     obtain ⟨d1,d2,d3,r1,_,_,e1,_⟩:=g9;exact ⟨d1,r1,e1⟩
    refine ⟨⟨⟨_,hTI,by simp only [qU,jco]; exact w2⟩,g4,by omega,⟨_,g8⟩⟩,fun y1 _ y2 _ y3 _ y4 _ y5 _ hL hk y6 _ hst=>?_⟩;obtain ⟨j1,j2⟩:=hk _ _ hTI g8;have hle:=qI 41 4 hst (by simp);simp at hle;refine ⟨j1,.inr ⟨hml,?_,qaB g9 (Hp.le_trans hL hle)⟩⟩;have:=qaQ j2 hle;rw [a0'] at this;exact this
theorem qtB:qg1.ok Try.prog:=qtC (by simp [qjK]) fun Z hg hp=>by
 obtain ⟨hA,⟨z1,z2,z3⟩,t,hT1,hT2,ht⟩:=hp;obtain ⟨d1,r1,e1,y1⟩:=hT1;obtain ⟨d2,r2,e2,y2⟩:=hT2;have l1:=qu d1;have l2:=qu d2;rw [e1] at l1;rw [e2] at l2;simp at hA z1 z2 z3;simp (config:={ maxSteps:=4000000 }) [qo6,qg1,qc3,qdY,hA,z1,z2,z3];have hn:∀ h pat,Rd h pat (.slice none 0 0) []:=fun h pat=>.inl ⟨none,rfl,rfl⟩
 refine ⟨d1,.inl r1,fun _ _ _ _ _ _=>⟨d2,.inr r2,fun _ _ _ _ _ _=>⟨⟨by unfold big; omega,by unfold big; omega⟩,fun u _ hu=>⟨by rw [hu,e1,e2]; simp,fun _=>⟨[],.inl (hn ..),fun _ _ _ _ _ _ _ _=>⟨fun _=>⟨[],.inl (hn ..),fun _ _ _ _ _ _ _ _=>⟨fun _=>⟨[],.inl (hn ..),fun _ _ _ _ _ _ _ _=>⟨fun _=>⟨[],.inl (hn ..),fun _ _ _ _ _ _ _ _=>⟨fun _=>⟨[],.inl (hn ..),fun _ _ _ _ _ _ _ _=>rfl⟩,rfl⟩⟩,rfl⟩⟩,rfl⟩⟩,rfl⟩⟩⟩⟩⟩⟩
theorem qkK:qcl.ok Try.prog:=qr4 (by simp [qtB]) fun Z hg hp=>by
 obtain ⟨l1,l2,hb,ms,self,t,k1,k2,ht⟩:=hp;have q1:=qbG k1;have q2:=qbG k2;simp (config:={ maxSteps:=4000000 }) [qlr,qcl,qnW,qg1,qy9];refine ⟨by omega,by omega,by omega,fun _=>⟨⟨by omega,by omega⟩,fun u _ g0 g1 g2 hi=>⟨g0,by omega,by omega,by omega,?_,fun u1 _ hu=>⟨hu,fun _=>?_⟩⟩⟩⟩
 ·have hg:=jae (show u.i.toNat < ms.length by omega)
  obtain ⟨v1,r1,t1⟩:=qhw k1 hg;obtain ⟨v2,r2,t2⟩:=qhw k2 hg;refine ⟨by simp [qc,qba,r1,r2,qcj],⟨by simp [qc,qba,r1,qcj,qlT,qbk],by simp [qba,r1,qcj,qlT],by simp [qcw,qba,r1,qcj,qlT,qew]⟩,t,?_,?_,ht⟩
  ·rw [show qba (Z 3).d u.i 6 = v1 by simp [qba,r1,qcj]]; exact t1
  ·rw [show qba (Z 8).d u.i 6 = v2 by simp [qba,r2,qcj]]; exact t2
 ·have hA:qk .add .i64 u.i 1 = u.i + 1:=qJ g0 hi (by unfold big; omega)
  rw [hA];exact ⟨⟨by omega,by omega,g2⟩,by omega⟩
set_option maxHeartbeats 8000000
set_option pp.deepTerms true
set_option pp.maxSteps 1000000
theorem qxI:qhE.ok Try.prog:=qxu (by simp [qnG,qjv,qyb,qu2]) fun Z hg hp=>by
 obtain ⟨⟨m,hB,hW⟩,d0,d1⟩:=hp;have hall:=qpS hB;simp (config:={ maxSteps:=4000000 }) [qsW,qhE,qwP,qvy,qgS,qdz,qjp,qap,qF,rB,hall];obtain ⟨a0,a2,a3,a4,a7,a8,hI⟩:=hB;simp only [jbh] at a0 a2 a3 a4 a7 a8 hI;obtain ⟨⟨w1,w2,w3,w4,w5,w6,w7,w8⟩,w9⟩:=hW;intro u _ u1 _;refine ⟨fun hl u2 _ hst=>.inl ?_,fun hl u2 _ u3 _=>⟨⟨by rw [a2]; rfl,m.tab,m.since,[],by simp [qb7,qt],rfl,rfl,rfl,hI⟩,?_⟩⟩
 ·have hle:=qI 10 4 hst (by simp)
  simp at hle;exact ⟨by rw [<- a8]; exact hl,a2,a3,a4,qaB hI hle⟩
 have hml:m.left = false:=by rw [<- a8]; exact hl
 intro _ _ _ _ un _ _ _ uM _ _ _ uk _ _ _ uK _ ui _ uT _ uS _ uc _ uH _ _ _ g0 g1 g2 g3 g4 g5 g6 T S ms g7 g8 g9 g10 g11;have hI1:=g11;obtain ⟨dT,dS,dP,rT,rS,rP,tT,tS,tP⟩:=hI1;have lT:(dT.length:Int) = m.tab.length:=by rw [<- g9,<- tT,qu]
 have lS:(dS.length:Int) = m.since.length:=by rw [<- g10,<- tS,qH]
 have lP:(dP.length:Int) = m.probes.length:=by rw [<- tP,qcs]
 have eT:=qfN (pat:=[.int .u64,.int .u8]) rT;have eS:=qfN (pat:=[.int .u64]) rS;have eP:=qfN (pat:=[.int .u64,.int .i64,.int .u64,.bool]) rP;have fA:=qkm g11;have fE:=qre g11;simp only [eT,eS,eP,fA,fE];intro _ _ _ _ _ _;refine ⟨fun hi _ _ _ _ _ _=>⟨g0,by omega,fun _ _=>?_⟩,fun hi=>?_⟩
 ·have hget:m.probes[ui.i.toNat]? = some ⟨qc dP ui.i 0,qc dP ui.i 1,qc dP ui.i 2,qcw dP ui.i 3⟩:=by rw [<- tP]; exact qbQ g0 hi
  have htb:=w8 _ (jar hget);simp only at htb;have hst:=qdB (d:=dT) (i:=qc dP ui.i 1) htb.1 (by omega);rw [tT] at hst;have hA:qk .add .i64 ui.i 1 = ui.i + 1:=qJ g0 hi (by unfold big; omega);have hstep:∀ z,qa9 m.self (qj m) (Z 9).i ⟨T,S,qt uK.d,ms⟩ ⟨qc dP ui.i 0,qc dP ui.i 1,qc dP ui.i 2,qcw dP ui.i 3⟩ = z->qb7 m.self (qj m) (Z 9).i m.tab m.since (m.probes.take (ui.i + 1).toNat) = z:=fun z h=>by
   rw [qA g0,qhr hget,g7,h]
  have hage:qk .sub .u64 uc.i (qc dP ui.i 2) = qaJ (qj m) (qc dP ui.i 2):=by rw [g6]; rfl
  have hpr:∀ (e:Bool),qt (uK.d ++ [[.int .u64 (qc dP ui.i 0),.int .i64 (qc dP ui.i 1),.int .u64 (qc dP ui.i 2),.bool e]]) = qt uK.d ++ [⟨qc dP ui.i 0,qc dP ui.i 1,qc dP ui.i 2,e⟩]:=fun e=>by simp [qt,qkd,qb3,qnI,qbk,qew]
  rw [hA,hage];refine ⟨fun h10=>?_,fun h10=>⟨fun h4=>⟨fun hask=>⟨⟨by rw [g9]; exact w2,d0,d1⟩,?_⟩,fun hask=>?_⟩,fun h4=>?_⟩⟩
  ·intro _ _ _ _ _ _
   refine ⟨htb.1,by omega,fun hs1=>?_,fun hs1=>?_⟩
   ·intro _ _ _ _ _ _
    refine ⟨by omega,⟨by omega,by omega,htb.1,by omega⟩,fun v1 _ v2 _ v3 _ hk v4 _ hst'=>⟨⟨by omega,g1,by omega,g3,by omega,by omega,g6,qbx T (qc dP ui.i 1) (qc dT (qc dP ui.i 1) 0,2),qaE T S uc.i (qc dP ui.i 1) (qc dT (qc dP ui.i 1) 0,2),ms,hstep _ ?_,g8,?_,?_,?_⟩,by omega⟩⟩
    ·unfold qa9
     rw [jah h10,hst,jah hs1,g6]
    ·rw [qe2,g9]
    ·rw [qex,g10]
    ·have hle:=qI 45 4 hst' (by simp)
     simp at hle;exact qaB hk hle
   ·intro v4 _ hst'
    refine ⟨⟨by omega,g1,by omega,g3,by omega,by omega,g6,T,S,ms,hstep _ ?_,g8,g9,g10,?_⟩,by omega⟩
    ·unfold qa9
     rw [jah h10,hst,jaf hs1]
    ·have hle:=qI 28 4 hst' (by simp)
     simp at hle;exact qaB g11 hle
  ·intro v1 _ v2 _ v3 _ v4 _ hk
   obtain ⟨k1,k2,k3⟩:=hk;refine ⟨g1,by omega,by omega,by omega,fun _ _ _ _ _ _=>⟨g3,by omega,fun _ _ _ _ z _ hst'=>⟨⟨by omega,by omega,by omega,by omega,by omega,by omega,g6,T,S,ms ++ qgx T (Z 0).i (qc dP ui.i 0) (qc dP ui.i 1) (Z 9).i,hstep _ ?_,qoF g8 ?_,g9,g10,?_⟩,by omega⟩⟩⟩
   ·unfold qa9
    rw [jaf (jcx.2 h10),jah (And.intro h4 hask),hpr,a0]
   ·rw [jap (by omega)]
    exact k3
   ·have hle:=qI 28 4 hst' (by simp)
    simp at hle;exact qaB g11 hle
  ·intro _ _
   refine ⟨g3,by omega,fun _ _ _ _ z _ hst'=>⟨⟨by omega,g1,by omega,by omega,by omega,by omega,g6,T,S,ms,hstep _ ?_,g8,g9,g10,?_⟩,by omega⟩⟩
   ·unfold qa9
    rw [jaf (jcx.2 h10),jaf (fun h=>by have h:=h.2; simp only [hask] at h; cases h),hpr]
   ·have hle:=qI 28 4 hst' (by simp)
    simp at hle;exact qaB g11 hle
  ·intro _ _
   refine ⟨g3,by omega,fun _ _ _ _ z _ hst'=>⟨⟨by omega,g1,by omega,by omega,by omega,by omega,g6,T,S,ms,hstep _ ?_,g8,g9,g10,?_⟩,by omega⟩⟩
   ·unfold qa9
    rw [jaf (jcx.2 h10),jaf (fun h=>absurd h.1 (jcx.2 h4)),hpr]
   ·have hle:=qI 28 4 hst' (by simp)
    simp at hle;exact qaB g11 hle
 ·have hTS:qT m (Z 9).i = ⟨T,S,qt uK.d,ms⟩:=by
   rw [<- g7,jap (by omega)]; rfl
  rw [hTS];refine ⟨⟨g1,by omega,g3,by omega,g6,rfl,g8,T,qiz,g9,g11⟩,?_⟩
  dsimp only
  intro _ _ _ _ vn _ _ _ vM _ _ _ vk _ _ _ vK _ vi _ vT _ vS _ vc _ vH _ _ _ q0 q1 q2 q3 q4 q5 q6 q7 q8 T' q9 q10 q11;have hI2:=q11;obtain ⟨dT',dS',dP',rT',rS',rP',tT',tS',tP'⟩:=hI2;have lT':(dT'.length:Int) = m.tab.length:=by rw [<- q10,<- tT',qu]
  have lS':(dS'.length:Int) = m.since.length:=by rw [<- g10,<- tS',qH]
  have eT':=qfN (pat:=[.int .u64,.int .u8]) rT';have eS':=qfN (pat:=[.int .u64]) rS';have fA':=qkm q11;have fE':=qre q11;simp only [eT',eS',fA',fE'];intro _ _ _ _ _ _;have hdl:(qbZ m.self (qj m) (qaG m.tab.length) S T).length = m.tab.length:=by rw [qiu,g9]
  refine ⟨fun hlt=>?_,fun hge=>?_⟩
  ·have hA:qk .add .i64 vi.i 1 = vi.i + 1:=qJ q0 hlt (by unfold big; omega)
   have hct:T'[vi.i.toNat]? = some (qc dT' vi.i 0,qc dT' vi.i 1):=by rw [<- tT']; exact qaw q0 (by omega)
   have hx:=(qiP q9 q0).symm.trans hct;have hdg:=qi6 (self:=m.self) (clock:=qj m) (wait:=qaG m.tab.length) (since:=S) hx;have hsg:S.getD vi.i.toNat 0 = qc dS' vi.i 0:=by rw [<- tS',ja2,qaW q0 (by omega)]; rfl
   have hin:((vi.i.toNat:Nat):Int) = vi.i:=by omega
   have hage:qk .sub .u64 vc.i (qc dS' vi.i 0) = qaJ (qj m) (qc dS' vi.i 0):=by rw [q6]; rfl
   have hsS:qaE T' S vc.i vi.i (qc dT' vi.i 0,3) = S:=by rw [qaE,jaf (fun h=>by have:=h.2; simp at this)]
   have hw:∀ w:Int,w = 10 + 3 * min (dT'.length:Int) 16->IntKind.u64.wrap w = qaG m.tab.length:=fun w h=>by
    rw [qcd (by omega) (by omega),qaG]; omega
   have core1:∀ w:U,w.i = 10 + 3 * min (dT'.length:Int) 16->vi.i ≠ (Z 0).i->qc dT' vi.i 1 = 2->IntKind.u64.wrap w.i <= qaJ (qj m) (qc dS' vi.i 0)->qbr T (qbZ m.self (qj m) (qaG m.tab.length) S T) (qbx T' vi.i (qc dT' vi.i 0,3)) (vi.i + 1):=fun w h1 h2 h3 h4=>by
    rw [hw _ h1] at h4;refine qgM q9 q0 (by omega) ?_;rw [hdg,qdR,jah];rw [hin,hsg];exact ⟨by omega,h3,h4⟩
   have core2:∀ w:U,w.i = 10 + 3 * min (dT'.length:Int) 16->qaJ (qj m) (qc dS' vi.i 0) < IntKind.u64.wrap w.i->qbr T (qbZ m.self (qj m) (qaG m.tab.length) S T) T' (vi.i + 1):=fun w h1 h4=>by
    rw [hw _ h1] at h4;refine qce q9 q0 ?_;rw [hdg,hx,qdR,jaf];rw [hin,hsg]
    rintro ⟨_,_,h⟩; omega
   have core3:¬ qc dT' vi.i 1 = 2->qbr T (qbZ m.self (qj m) (qaG m.tab.length) S T) T' (vi.i + 1):=fun h4=>by
    refine qce q9 q0 ?_;rw [hdg,hx,qdR,jaf]
    rintro ⟨_,h,_⟩; exact h4 h
   have core4:vi.i = (Z 0).i->qbr T (qbZ m.self (qj m) (qaG m.tab.length) S T) T' (vi.i + 1):=fun h4=>by
    refine qce q9 q0 ?_;rw [hdg,hx,qdR,jaf]
    rintro ⟨h,_,_⟩; exact h (by omega)
   simp only [hA,hage,hsS]
   repeat' (first | with_reducible apply And.intro | with_reducible intro _)
   all_goals first
    | omega
    | assumption
    | exact ⟨_,core1 _ (by assumption) (by assumption) (by assumption) (by assumption),by rw [qe2]; exact q10,by assumption⟩
    | exact ⟨_,core2 _ (by assumption) (by assumption),q10,q11⟩
    | exact ⟨_,core3 (by assumption),q10,q11⟩
    | exact ⟨_,core4 (by assumption),q10,q11⟩
  ·have hdt:=qf6 q9 (by omega) (by omega)
   have hn:(dT'.length:Int) = (m.tab.length:Int):=lT';have h1:qk .add .i64 (Z 4).i 1 = m.pinged + 1:=by rw [a4]; exact qaU (by omega) (by omega)
   have t1:Int.tmod (m.pinged + 1) m.tab.length < m.tab.length:=jb2 _ (by omega);have t0:0 <= Int.tmod (m.pinged + 1) m.tab.length:=jcb _ (by omega);have h2:qk .rem .i64 (m.pinged + 1) (m.tab.length:Int) = Int.tmod (m.pinged + 1) m.tab.length:=rfl;have h3:qk .add .i64 (Int.tmod (m.pinged + 1) m.tab.length) 1 = Int.tmod (m.pinged + 1) m.tab.length + 1:=qaU (by omega) (by omega);have h4:qk .rem .i64 (Int.tmod (m.pinged + 1) m.tab.length + 1) (m.tab.length:Int) = Int.tmod (Int.tmod (m.pinged + 1) m.tab.length + 1) m.tab.length:=rfl;have hq:qk .add .u64 (Z 3).i 1 = IntKind.u64.wrap (m.seq + 1):=by rw [a3]; rfl
   have hne:dT' ≠ []:=fun h=>by rw [h] at lT'; simp at lT'; omega
   have hTI:qf5 vH.h vT.v T':=⟨dT',rT',tT'⟩;have hpl:∀ p,qC (vM.d ++ [qdZ ⟨1,0,p,IntKind.u64.wrap (m.seq + 1),(Z 0).i,0⟩]) (ms ++ [⟨1,0,p,IntKind.u64.wrap (m.seq + 1),(Z 0).i,0⟩]):=fun p=>qd1 q8
   have fin:∀ (P:Int) (a:Option Addr) (k:Nat) (H11 H12:Hp) (n8:Int) (D:List (List Value)),P = qbz m.tab.length m.self m.pinged->Hp.le vH.h H11->Hp.le H11 H12->(n8 = D.length/\qX H11 (ms ++ [⟨1,0,P,IntKind.u64.wrap (m.seq + 1),(Z 0).i,0⟩]) (Z 0).i T' (ms ++ [(⟨1,0,P,IntKind.u64.wrap (m.seq + 1),(Z 0).i,0⟩:Msg)]).length D)->Rd H12 qb1 (.slice (qg a 0) (vk.i + 1).toNat k) (vK.d ++ [[.int .u64 (IntKind.u64.wrap (m.seq + 1)),.int .i64 P,.int .u64 vc.i,.bool false]]) ->
     m.left = false/\n8 = D.length/\qX H12 (qaO m (Z 9).i) m.self (qat m (Z 9).i).tab (qaO m (Z 9).i).length D/\vc.i = (qat m (Z 9).i).clock/\IntKind.u64.wrap (m.seq + 1) = (qat m (Z 9).i).seq/\P = (qat m (Z 9).i).pinged/\rIs H12 vT.v vS.v (.slice (qg a 0) (vk.i + 1).toNat k) (qat m (Z 9).i).tab (qat m (Z 9).i).since (qat m (Z 9).i).probes:=fun P a k H11 H12 n8 D hP hl1 hl2 hs hr=>by
    have hTM:qat m (Z 9).i = ⟨m.self,T',S,qj m,IntKind.u64.wrap (m.seq + 1),P,qt vK.d ++ [⟨IntKind.u64.wrap (m.seq + 1),P,qj m,false⟩],m.chal,m.left⟩:=by
     unfold qat;simp only [hTS,<- hdt,<- hP,q7]
    have hTMs:qaO m (Z 9).i = ms ++ [⟨1,0,P,IntKind.u64.wrap (m.seq + 1),m.self,0⟩]:=by
     unfold qaO;simp only [hTS,<- hP]
    rw [hTM,hTMs];rw [a0] at hs;exact ⟨hml,hs.1,qaQ hs.2 hl2,q6,rfl,rfl,dT',dS',_,qb5 rT' (Hp.le_trans hl1 hl2),qb5 rS' (Hp.le_trans hl1 hl2),hr,tT',tS',by simp [qt,qkd,qb3,qnI,qbk,qew,q6]⟩
   simp only [hn,h1,h2,h3,h4,hq];intro _ _ _ _ _ _;refine ⟨hne,fun hself=>?_,fun hself=>?_⟩
   ·intro _ _ _ _ _ _
    refine ⟨hne,fun _ _=>⟨q3,by omega,fun x2 _ x3 _ x4 _=>⟨q1,by omega,fun x5 _ x6 _=>⟨⟨⟨T',hTI,by omega⟩,q1,by omega,_,hpl _⟩,fun x7 _ x8 _ x9 _ x10 _ x11 _ hL hk x12 _ hst=>.inr ?_⟩⟩⟩⟩;have hle:=qI 67 4 hst (by simp);simp at hle;obtain ⟨ha,la,da⟩:=qaV hst (jab _ (jab _ (jab _ (jac ..))));have q:=qcL (n:=(vk.i + 1).toNat) (k:=x3.i.toNat) da la (by simp; omega) (by simp);refine fin _ _ _ _ _ _ _ ?_ hL hle (hk _ _ hTI (hpl _)) ?_
    ·rw [qbz,jah (by omega)]
    ·simpa [qb1,hn,h1,h2,h3,h4,hq] using q
   ·refine fun _ _=>⟨q3,by omega,fun x2 _ x3 _ x4 _=>⟨q1,by omega,fun x5 _ x6 _=>⟨⟨⟨T',hTI,by omega⟩,q1,by omega,_,hpl _⟩,fun x7 _ x8 _ x9 _ x10 _ x11 _ hL hk x12 _ hst=>.inr ?_⟩⟩⟩
    have hle:=qI 64 4 hst (by simp);simp at hle;obtain ⟨ha,la,da⟩:=qaV hst (jab _ (jab _ (jab _ (jac ..))));have q:=qcL (n:=(vk.i + 1).toNat) (k:=x3.i.toNat) da la (by simp; omega) (by simp);refine fin _ _ _ _ _ _ _ ?_ hL hle (hk _ _ hTI (hpl _)) ?_
    ·rw [qbz,jaf (by omega)]
    ·simpa [qb1,hn,h1,h2,h3,h4,hq] using q
set_option maxHeartbeats 8000000
set_option pp.deepTerms true
set_option pp.maxSteps 1000000
theorem qx5:qhL.ok Try.prog:=qwU (by simp [qw4,qnG,qjv,qpj,qq1,qiC]) fun Z hg hp=>by
 obtain ⟨⟨m,hB,hW⟩,d0,d1⟩:=hp;have hall:=qpS hB;have hB':=hB;obtain ⟨a0,a2,a3,a4,a7,a8,hI⟩:=hB';simp only [jbh] at a0 a2 a3 a4 a7 a8 hI;obtain ⟨dT,dS,dP,rT,rS,rP,tT,tS,tP⟩:=id hI;have eT:=qfN (pat:=[.int .u64,.int .u8]) rT;have hex:(∃ m':Mach,(Z 0).i = m'.self/\(Z 2).i = m'.clock/\(Z 3).i = m'.seq/\(Z 4).i = m'.pinged/\(Z 7).i = m'.chal/\(Z 8).b = m'.left/\rIs (Z 129).h (Z 1).v (Z 5).v (Z 6).v m'.tab m'.since m'.probes) = True:=eq_true ⟨m,a0,a2,a3,a4,a7,a8,hI⟩;obtain ⟨G,hG⟩:∃ G:Msg,(⟨(Z 9).i,(Z 10).i,(Z 11).i,(Z 12).i,(Z 13).i,(Z 14).i⟩:Msg) = G:=⟨_,rfl⟩;obtain ⟨t,ht⟩:∃ t:List Ent,qb (Z 18).d = t:=⟨_,rfl⟩;simp (config:={ maxSteps:=4000000 }) [qsX,qhL,qwJ,qv2,qwd,qgS,qdz,qhB,qdM,qdo,qbN,qe3,qgV,qa0,qcr,qdk,qV,rB,hall,qaP,hG,ht,hex,eT];obtain ⟨⟨w1,w2,w3,w4,w5,w6,w7,w8⟩,w9⟩:=hW;have lT:(dT.length:Int) = m.tab.length:=by rw [<- tT,qu]
 have hl:t.length = (Z 18).d.length:=by rw [<- ht,qu]
 have hAcc:(qec m.self m.tab.length G t = true) = (qer m.tab.length (Z 10).i = true/\¬ (Z 10).i = (Z 0).i/\(Z 11).i = (Z 0).i/\qdm t = true/\((Z 18).d.length:Int) = dT.length/\(if (Z 9).i = 1∨(Z 9).i = 2 then qer m.tab.length (Z 13).i = true else if (Z 9).i = 3 then qer m.tab.length (Z 14).i = true else False)):=by
  rw [<- hG];unfold qec;simp only [jad,jas,jc7,jav,beq_eq_false_iff_ne,ne_eq,a0,hl,lT];simp only [and_assoc]
  congr 1; congr 1; congr 1; congr 1; congr 1
  split
  ·rfl
  ·split
   ·rfl
   ·simp
 have err:∀ (e:Int) (H:Hp),e ≠ 0->qbE m G t = e->Hp.le (Z 129).h H->e = qbE m G t/\qX H (qaY m G t) m.self (qab m G t).tab (qaY m G t).length []/\(Z 7).i = (qab m G t).chal/\rIs H (Z 1).v (Z 5).v (Z 6).v (qab m G t).tab (qab m G t).since (qab m G t).probes:=fun e H h0 hE hle=>by
  have e1:qaY m G t = []:=by rw [qaY,hE,jaf (fun h=>h0 h.1)]
  have e2:qab m G t = m:=by rw [qab,hE,jaf h0]
  rw [e1,e2];exact ⟨hE.symm,⟨[],rfl,rfl,by simp⟩,a7,qaB hI hle⟩
 intro u _ u1 _ u2 _;refine ⟨fun hL u3 _ hst=>?_,fun hL=>?_⟩
 ·have hle:=qI 129 4 hst (by simp)
  simp at hle;exact err 30 _ (by decide) (by rw [qbE,<- a8,jah hL]) hle
 have hml:m.left = false:=by rw [<- a8]; exact hL
 have err2:∀ (H:Hp),Hp.le (Z 129).h H->¬ (qec m.self m.tab.length G t = true)->2 = qbE m G t/\qX H (qaY m G t) m.self (qab m G t).tab (qaY m G t).length []/\(Z 7).i = (qab m G t).chal/\rIs H (Z 1).v (Z 5).v (Z 6).v (qab m G t).tab (qab m G t).since (qab m G t).probes:=fun H hle ha=>err 2 H (by decide) (by rw [qbE,hml,jaf (by decide),jaf ha]) hle
 rw [hAcc] at err2;have c1:∀ hk:(Z 9).i <= 2,1 <= (Z 9).i->(Z 9).i = 1∨(Z 9).i = 2:=fun _ _=>by omega
 refine ⟨fun h1 u3 _ hst=>?_,fun h1=>⟨fun h3 u3 _ hst=>?_,fun h3 v3 _ p3=>⟨fun b3 u3 _ hst=>?_,fun b3=>⟨fun b4 u3 _ hst=>?_,fun b4=>⟨fun b5 u3 _ hst=>?_,fun b5=>⟨⟨d0,d1⟩,fun v4 _ p4=>⟨fun b6 u3 _ hst=>?_,fun b6=>⟨by omega,fun _ _ _ _ _ _=>⟨fun b7 u3 _ hst=>?_,fun b7=>⟨fun h2 v5 _ p5=>⟨fun b8 u3 _ hst=>?_,fun b8=>⟨fun hk=>absurd hk (by omega),fun hk=>?_⟩⟩,fun h2=>⟨fun hk v5 _ p5=>⟨fun b8 u3 _ hst=>?_,fun b8=>?_⟩,fun hk=>absurd h3 (by omega)⟩⟩⟩⟩⟩⟩⟩⟩⟩⟩⟩
 any_goals
  have hle:=qI 129 4 hst (by simp);simp at hle;refine err2 _ hle ?_
  rintro ⟨e1,e2,e3,e4,e5,e6⟩
 ·rw [jaf (by omega),jaf (by omega)] at e6; exact e6
 ·rw [jaf (by omega),jaf (by omega)] at e6; exact e6
 ·rw [<- p3,b3] at e1; cases e1
 ·exact e2 b4
 ·exact b5 e3
 ·rw [<- p4,b6] at e4; cases e4
 ·omega
 ·rw [jah (c1 h2 h1),<- p5,b8] at e6; cases e6
 rotate_left
 ·rw [jaf (by omega),jah hk,<- p5,b8] at e6; cases e6
 rotate_right
 all_goals
  have hE:qbE m G t = 0:=by
   rw [qbE,hml,jaf (by decide),jah];rw [hAcc];refine ⟨by rw [<- p3]; exact b3,b4,b5,by rw [<- p4]; exact b6,by omega,?_⟩
   first
    | (rw [jah (c1 h2 h1),<- p5]; exact b8)
    | (rw [jaf (by omega),jah hk,<- p5]; exact b8)
  have hSM:qab m G t = qbl m G t:=by rw [qab,jah hE]
  have hAn:qaY m G t = if qaL m.self G = false then [qbh m.self G] else []:=by rw [qaY,hE]; simp
  refine ⟨⟨⟨m.tab,qiz,m.since,qiz,rfl,rfl,hI⟩,by rw [jaf (by omega)]; exact a7⟩,?_⟩;intro _ _ _ _ ui _ uT _ uS _ uc _ uH _ _ _ g0 g1 T m4 S m5 g2 g3 g4 g5;have hI1:=g4;obtain ⟨dT',dS',dP',rT',rS',rP',tT',tS',tP'⟩:=hI1;have lT':(dT'.length:Int) = m.tab.length:=by rw [<- g2,<- tT',qu]
  have lS':(dS'.length:Int) = m.since.length:=by rw [<- g3,<- tS',qH]
  have eT':=qfN (pat:=[.int .u64,.int .u8]) rT';have fA:=qkm g4;have fE:=qre g4;simp only [eT',fA,fE];intro _ _ _ _ _ _;refine ⟨fun hi=>?_,fun hge=>?_⟩
  ·have hA:qk .add .i64 ui.i 1 = ui.i + 1:=qJ g0 hi (by unfold big; omega)
   have hx:T[ui.i.toNat]? = some (qc dT' ui.i 0,qc dT' ui.i 1):=by rw [<- tT']; exact qaw g0 (by omega)
   have hx':=(qiP m4 g0).symm.trans hx;have hy:t[ui.i.toNat]? = some (qc (Z 18).d ui.i 0,qc (Z 18).d ui.i 1):=by rw [<- ht]; exact qaw g0 (by omega)
   have hrt:=qk6 (self:=m.self) hx' hy;rw [jbl g0] at hrt;have hchal:¬ ui.i = (Z 0).i->uc.i = if m.self < ui.i + 1 then qb8 m.self m.tab t m.chal else m.chal:=fun hne=>by
    rw [g5];by_cases hc:m.self < ui.i
    ·rw [jah hc,jah (by omega)]
    ·rw [jaf hc,jaf (by omega)]
   have step:∀ z:Ent,¬ ui.i = (Z 0).i->qcg (qc dT' ui.i 0,qc dT' ui.i 1) (qc (Z 18).d ui.i 0,qc (Z 18).d ui.i 1) = z->qbr m.tab (qbM m.self m.tab t) (qbx T ui.i z) (ui.i + 1)/\qbr m.since (qbc m.self m.clock m.tab m.since t) (qaE T S (Z 2).i ui.i z) (ui.i + 1):=fun z hne hz=>by
    rw [jaf (by omega),hz] at hrt;rw [qbx,<- hz,a2];rw [<- hz] at hrt;exact ⟨qgM m4 g0 (by omega) hrt,qhN m5 hx hx' hy g0 (by omega) (by omega) (by omega)⟩
   have s1:ui.i = (Z 0).i->qbr m.tab (qbM m.self m.tab t) T (ui.i + 1):=fun heq=>qce m4 g0 (by rw [hrt,jah (by omega),hx'])
   have s2:ui.i = (Z 0).i->qbr m.since (qbc m.self m.clock m.tab m.since t) S (ui.i + 1):=fun heq=>qce m5 g0 (by
    have hsg:m.since[ui.i.toNat]? = some _:=jae (by omega);rw [qfE hx' hy hsg,jaf (fun h=>h.1 (by omega)),hsg])
   rw [hA];refine ⟨fun hne=>⟨g0,by omega,by omega,fun _ _ _ _ _ _=>⟨by omega,fun hnw=>⟨⟨by omega,by omega,g0,by omega⟩,fun v1 _ v2 _ v3 _ hk=>?_⟩,fun hnw=>⟨⟨by omega,by omega,g0,by omega⟩,fun v1 _ v2 _ v3 _ hk=>?_⟩⟩⟩,fun heq=>⟨g0,by omega,by omega,fun _ _ _ _ _ _=>⟨by omega,fun hnw=>⟨fun hgt=>?_,fun hgt=>?_⟩,fun hnw1 hnw2=>?_⟩⟩⟩
   ·obtain ⟨q1,q2⟩:=step (qc (Z 18).d ui.i 0,qc (Z 18).d ui.i 1) hne (by simp only [qcg,qby,hnw,ja9])
    exact ⟨⟨by omega,by omega,⟨_,q1,_,q2,by rw [qe2,g2],by rw [qex,g3],hk⟩,hchal hne⟩,by omega⟩
   ·obtain ⟨q1,q2⟩:=step (qc dT' ui.i 0,qc dT' ui.i 1) hne (by simp only [qcg,qby,hnw]; simp)
    exact ⟨⟨by omega,by omega,⟨_,q1,_,q2,by rw [qe2,g2],by rw [qex,g3],hk⟩,hchal hne⟩,by omega⟩
   all_goals
    have e1:=qhf hx';have e2:=qhf hy;rw [show ui.i.toNat = m.self.toNat by omega] at e1 e2;rw [jaf (show ¬ m.self < ui.i by omega)] at g5
   ·have hnw':qby (qc (Z 18).d ui.i 0,qc (Z 18).d ui.i 1) (qc dT' ui.i 0,qc dT' ui.i 1) = true:=by
     simp only [qby,qcy,jbu,jav,jad,jc7]; omega
    refine ⟨⟨by omega,by omega,⟨T,s1 heq,S,s2 heq,g2,g3,g4⟩,?_⟩,by omega⟩;rw [jah (show m.self < ui.i + 1 by omega)];simp only [qb8,e1,e2,hnw',ja9];omega
   ·have hnw':qby (qc (Z 18).d ui.i 0,qc (Z 18).d ui.i 1) (qc dT' ui.i 0,qc dT' ui.i 1) = true:=by
     simp only [qby,qcy,jbu,jav,jad,jc7]; omega
    refine ⟨⟨by omega,by omega,⟨T,s1 heq,S,s2 heq,g2,g3,g4⟩,?_⟩,by omega⟩;rw [jah (show m.self < ui.i + 1 by omega)];simp only [qb8,e1,e2,hnw',ja9];omega
   ·have hnw':qby (qc (Z 18).d ui.i 0,qc (Z 18).d ui.i 1) (qc dT' ui.i 0,qc dT' ui.i 1) = false:=by
     rw [Bool.eq_false_iff];simp only [qby,qcy,ne_eq,jbu,jav,jad,jc7]; omega
    refine ⟨⟨by omega,by omega,⟨T,s1 heq,S,s2 heq,g2,g3,g4⟩,?_⟩,by omega⟩;rw [jah (show m.self < ui.i + 1 by omega),g5];simp [qb8,e1,e2,hnw']
  have hT:=qf6 m4 (by omega) (by rw [qeZ]; omega);have hS:=qf6 m5 (by omega) (by rw [qfB]; omega);have hC:uc.i = qb8 m.self m.tab t m.chal:=by rw [g5,jah (by omega)]
  have hRt:(qbl m G t).tab = T:=hT.symm;have hRs:(qbl m G t).since = S:=hS.symm;have hRc:(qbl m G t).chal = uc.i:=hC.symm;have ans:∀ g:Msg,qaL m.self G = false->qbh m.self G = g->qC [qdZ g] (qaY m G t):=fun g h1 h2=>by
   rw [hAn,jah h1,h2]; rfl
  have prb:qaL m.self G = false->(qbl m G t).probes = m.probes:=fun h=>by simp only [qbl,h]; simp
  have hTl:∀ H v,rIs H v uS.v (Z 6).v T S m.probes->T.length <= 16:=fun _ _ _=>by omega
  intro x1 _
 ·refine ⟨⟨fun k1 x2 _ x3 _ x4 _ x5 _ hst=>?_,fun k1=>⟨fun ko x2 _ x3 _ x4 _ x5 _ hst=>?_,fun ko x2 _=>⟨⟨rfl,by rw [<- hT,<- hS]; exact g4,hC⟩,?_⟩⟩⟩,?_⟩
  ·have hle:=qI 145 4 hst (by simp)
   simp at hle;have hf:qaL m.self G = false:=by rw [<- hG]; simp [qaL,k1]
   refine ⟨hE,ans ⟨2,0,(Z 10).i,(Z 12).i,(Z 13).i,0⟩ hf (by rw [<- hG]; simp [qbh,k1]),hRc.symm,?_⟩;rw [hRt,hRs,prb hf];exact qaB g4 hle
  ·have hle:=qI 145 4 hst (by simp)
   simp at hle;have k2:(Z 9).i = 2:=by omega
   have hf:qaL m.self G = false:=by rw [<- hG]; simp [qaL]; omega
   refine ⟨hE,ans ⟨2,0,(Z 13).i,(Z 12).i,(Z 13).i,0⟩ hf (by rw [<- hG]; simp [qbh,k2]),hRc.symm,?_⟩;rw [hRt,hRs,prb hf];exact qaB g4 hle
  ·intro _ _ _ _ _ _ yT _ yS _ yc _ yH _ _ _ yn _ yk _ yK _ yi _ _ _ yz _ _ _ yD _ _ _ r0 r1 r2 r3 r4 r5 r6 r7 r8
   obtain ⟨dA,dB,dP',rA,rB,rP',eA,eB,eP⟩:=id r7;have eP':=qfN (pat:=[.int .u64,.int .i64,.int .u64,.bool]) rP';have lP':(dP'.length:Int) = m.probes.length:=by rw [<- eP,qcs]
   have hf:qaL m.self G = true:=by rw [<- hG]; simp [qaL]; omega
   have hGs:G.seq = (Z 12).i:=by rw [<- hG]
   simp only [eP'];intro _ _ _ _ _ _;refine ⟨fun hi _ _ _ _ _ _=>⟨r0,hi,fun hne _ _ _ _ _ _=>⟨hi,fun _ _=>⟨r1,by omega,fun _ _ _ _ z _ hst=>?_⟩⟩,fun heq=>?_⟩,fun hge z _ hst=>?_⟩
   ·have hA:qk .add .i64 yi.i 1 = yi.i + 1:=qJ r0 hi (by unfold big; omega)
    have hget:m.probes[yi.i.toNat]? = some ⟨qc dP' yi.i 0,qc dP' yi.i 1,qc dP' yi.i 2,qcw dP' yi.i 3⟩:=by rw [<- eP]; exact qbQ r0 hi
    have hle:=qI 158 4 hst (by simp);simp at hle;rw [hA];refine ⟨⟨by omega,r1,by omega,r3,r4,by omega,?_,qaB r7 hle,r8⟩,by omega⟩;rw [qA r0,qa2 hget,jbs,<- r6];simp [qt,qkd,qb3,qnI,qbk,qew,hne]
   ·have hA:qk .add .i64 yi.i 1 = yi.i + 1:=qJ r0 hi (by unfold big; omega)
    have hget:m.probes[yi.i.toNat]? = some ⟨qc dP' yi.i 0,qc dP' yi.i 1,qc dP' yi.i 2,qcw dP' yi.i 3⟩:=by rw [<- eP]; exact qbQ r0 hi
    rw [hA];refine ⟨⟨by omega,r1,by omega,r3,r4,by omega,?_,r7,r8⟩,by omega⟩;rw [qA r0,qa2 hget,jbs,<- r6];simp [heq]
   ·have hle:=qI 158 4 hst (by simp)
    simp at hle;obtain ⟨ha,la,da⟩:=qaV hst (jab _ (jac ..));have q:=qcL (n:=yn.i.toNat) (k:=yk.i.toNat) da la (by simp; omega) (by simp);refine ⟨by rw [r4,r3]; rfl,by omega,hE,?_,by rw [hRc,r8,hC],?_⟩
    ·rw [r4,hAn,hf]; rfl
    ·rw [hRt,hRs,hT,hS]
     refine ⟨dA,dB,yK.d,qb5 rA hle,qb5 rB hle,?_,eA,eB,?_⟩
     ·simpa [qb1] using q
     ·rw [r6,jap (by omega)]
      simp only [qbl,hf,hGs];rfl
  ·intro _ _ _ _ _ _ yn _ _ _ yM _ yT _ yS _ yP _ yc _ yH _ r0 r1 r2 r3 r4 r5
   have hTI:qf5 yH.h yT.v (qbl m G t).tab:=by
    obtain ⟨q1,q2,q3,q4,_,_,q5,_⟩:=r5;exact ⟨q1,q4,q5⟩
   refine ⟨⟨⟨_,hTI,by rw [hRt]; omega⟩,r0,by omega,_,r3⟩,fun z1 _ z2 _ z3 _ z4 _ z5 _ hL hk z6 _ hst=>?_⟩;obtain ⟨j1,j2⟩:=hk _ _ hTI r3;have hle:=qI 166 4 hst (by simp);simp at hle;have j2:=qaQ j2 hle;rw [a0] at j2;rw [hSM];exact ⟨hE.symm,j1,j2,r4,qaB r5 (Hp.le_trans hL hle)⟩
 ·refine ⟨⟨fun k1=>absurd k1 (by omega),fun k1=>⟨fun ko x2 _ x3 _ x4 _ x5 _ hst=>?_,fun ko x2 _ x3 _ x4 _ x5 _ hst=>?_⟩⟩,?_⟩
  ·have hle:=qI 145 4 hst (by simp)
   simp at hle;have hf:qaL m.self G = false:=by rw [<- hG]; simp [qaL,hk]
   refine ⟨hE,ans ⟨2,0,(Z 10).i,(Z 12).i,(Z 10).i,0⟩ hf (by rw [<- hG]; simp [qbh,hk]; omega),hRc.symm,?_⟩;rw [hRt,hRs,prb hf];exact qaB g4 hle
  ·have hle:=qI 145 4 hst (by simp)
   simp at hle;have hf:qaL m.self G = false:=by rw [<- hG]; simp [qaL,hk]
   refine ⟨hE,ans ⟨1,0,(Z 14).i,(Z 12).i,(Z 10).i,0⟩ hf (by rw [<- hG]; simp [qbh,hk]; omega),hRc.symm,?_⟩;rw [hRt,hRs,prb hf];exact qaB g4 hle
  ·intro _ _ _ _ _ _ yn _ _ _ yM _ yT _ yS _ yP _ yc _ yH _ r0 r1 r2 r3 r4 r5
   have hTI:qf5 yH.h yT.v (qbl m G t).tab:=by
    obtain ⟨q1,q2,q3,q4,_,_,q5,_⟩:=r5;exact ⟨q1,q4,q5⟩
   refine ⟨⟨⟨_,hTI,by rw [hRt]; omega⟩,r0,by omega,_,r3⟩,fun z1 _ z2 _ z3 _ z4 _ z5 _ hL hk z6 _ hst=>?_⟩;obtain ⟨j1,j2⟩:=hk _ _ hTI r3;have hle:=qI 166 4 hst (by simp);simp at hle;have j2:=qaQ j2 hle;rw [a0] at j2;rw [hSM];exact ⟨hE.symm,j1,j2,r4,qaB r5 (Hp.le_trans hL hle)⟩
end Go.Proofs
