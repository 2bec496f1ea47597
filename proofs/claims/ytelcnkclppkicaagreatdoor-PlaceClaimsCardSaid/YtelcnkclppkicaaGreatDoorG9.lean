/- Texts QG, QH, QJ, QK, QL, RG, RM, RL, RN, RO, TB, TC, TD, TF, TG. -/
import Derived.Test.YtelcnkclppkicaaGreatDoorG8
import Derived.Test.YtelcnkclppkicaaGreatDoorProg
import Derived.Test.YtelcnkclppkicaaGreatDoorG1
import Derived.Test.YtelcnkclppkicaaGreatDoorG7
import Derived.Test.YtelcnkclppkicaaGreatDoorG5
import Derived.Shelf.Sort.Plain
import Derived.Shelf.Slices.In.SortNone
import Derived.Ground.Names2Prog
set_option linter.unusedSimpArgs false
set_option linter.unusedVariables false
set_option maxRecDepth 100000
namespace Go.Proofs
open Go Go.Eng
def qx0:Out:=(fr 1 2 (.ret 0 (sg 1 [bg 1 2])))
theorem q3V:qn Tryz.prog qjs [] [] qx0:=qh Tryz.func45 Tryz.call45 (by kernel_rfl)
def qxB:Out:=(.br (.not (.and (.cmp .eql (.dlen (tv 3)) (tl 0)) (.isnil 2)))
 (.need (.cmp .leq (tl 0) (tv 6)) (.need (.cmp .lss (tl 0) (.dlen (tv 3))) (.ret 0 (sg 10 [bt 10 (.cmp .geq (tv 6) (.icell (tv 3) (tl 0) 0))]))))
 (.ret 0 (sg 10 [bt 10 (.bl false)])))
theorem q5f:qn Tryz.prog qg9 [] [] qxB:=qh Tryz.func47 Tryz.call47 (by kernel_rfl)
def q1h:Out:=(.fresh 10 (.need (.cmp .leq (tl 0) (tv 6)) (.inv 0 11 (sg 1000 [bt 1003 .dnil,bt 1004 (tl 0),bt 1002 (tl 0),bt 1001 (tl 0),bg 1000 10]) (fr 11 5 (.hyp 0 11 (.br (.cmp .lss (tv 15) (tv 6))
 (.need (.cmp .leq (tl 0) (tv 15)) (.need (.cmp .lss (tv 15) (.dlen (tv 8))) (fr 16 2 (.need (.cmp .eql (tv 12) (.dlen (tv 14))) (.need (.cmp .leq (.tims (tl 8) (.plus (tv 12) (tl 1))) (tl 140737488355328)) (fr 18 2 (.back 0 11 (sg 1000 [bt 1003 (.dapp (tv 14) (.rcons (.vint .i64 (.icell (tv 8) (tv 15) 0)) .rnil)),bt 1004 (.arith .add .i64 (tv 15) (tl 1)),bv 1002 19,bt 1001 (.plus (tv 12) (tl 1)),bg 1000 18]))))))))
 (.ret 0 (sg 10 [bv 13 14,bv 12 13,bv 11 12,bg 10 11]))))))))
theorem q6V:qn Tryz.prog qit [] [q6r] q1h:=qh Tryz.func55 Tryz.call55 (by kernel_rfl)
def qtO:Out:=(.br (.and (.cmp .eql (.dlen (tv 3)) (tl 0)) (.isnil 0))
 (.need (.cmp .eql (tv 1) (tl 0)) (.ret 0 (sg 5 [bt 7 .dnil,bt 6 (tl 0),(5,.nil)])))
 (.fresh 5 (.need (.cmp .leq (tl 0) (tv 1)) (.need (.cmp .leq (tv 1) (.dlen (tv 3))) (.need (.cmp .leq (.tims (tl 32) (tv 1)) (tl 140737488355328)) (fr 6 2 (.ret 0 (sg 5 [bt 7 (.dtake (tv 3) (tv 1)),bv 6 7,bg 5 6]))))))))
theorem q0N:qn Tryz.prog qjj [] [] qtO:=qh Tryz.func90 Tryz.call90 (by kernel_rfl)
@[simp] def qiz:Sg:=sg 0 [bg 9 9,bv 8 8,bv 4 4,bv 3 3,bv 7 7,bv 6 6,bg 5 5,bg 2 2,bt 1 (r8 1),bg 0 0]
@[simp] def qsz:Sg:=sg 0 [bv 11 27,bv 9 19,bv 8 18,bv 7 17,bv 6 16,bg 5 15,bv 3 13,bv 2 12,bv 1 11,bv 0 10,bt 4 (r8 14),bg 10 26]
@[simp] def qr7:Sg:=sg 0 [bv 17 27,bv 15 25,bv 14 24,bv 9 19,bv 8 18,bv 13 23,bv 12 22,bg 11 21,bv 10 20,bv 7 17,bv 6 16,bg 5 15,bv 3 13,bv 2 12,bv 1 11,bv 0 10,bt 4 (r8 14),bg 16 26]
def qxx:Out:=(fr 28 2 (.pre 0 qsz (.both (fr 30 2 (.post 0 0 qsz 30 (.fresh 32 (.br (.cmp .neq (tv 31) (tl 0))
 (.pack [.cells 32 24 [(x8 0 30),(x8 1 30),(x8 2 30),(x8 3 30),(x8 4 30),(x8 5 30),(x8 6 30),(x8 7 30),(x8 8 30),(x8 9 30),(x8 10 30),(x8 11 30),(x8 12 30),(x8 13 30),(x8 14 30),(x8 15 30),(x8 16 30),(x8 17 30),(x8 18 30),(x8 19 30),(x8 20 30),(x8 21 30),(x8 22 30),(x8 23 30),(x8 24 30),(x8 25 30),(x8 26 30),(x8 27 30),(x8 28 30),(x8 29 30),(x8 30 30),(x8 31 30)],.cells 29 86 [(.vint .i64 (tv 20)),(.vslice 21 (tl 0) (tv 22) (tv 23) 1)],.cells 28 27 [(.vint .i64 (tv 10)),(.vint .i64 (tv 11)),(.vint .i64 (tv 12)),(.vint .i64 (tv 13)),(x8 0 14),(x8 1 14),(x8 2 14),(x8 3 14),(x8 4 14),(x8 5 14),(x8 6 14),(x8 7 14),(x8 8 14),(x8 9 14),(x8 10 14),(x8 11 14),(x8 12 14),(x8 13 14),(x8 14 14),(x8 15 14),(x8 16 14),(x8 17 14),(x8 18 14),(x8 19 14),(x8 20 14),(x8 21 14),(x8 22 14),(x8 23 14),(x8 24 14),(x8 25 14),(x8 26 14),(x8 27 14),(x8 28 14),(x8 29 14),(x8 30 14),(x8 31 14),(.vslice 15 (tl 0) (tv 16) (tv 17) 32)],.abs 9 20] 33 (.ret 0 (sg 28 [bg 35 33,bv 34 8,bv 30 4,bv 29 3,bv 33 7,bv 32 6,bg 31 5,bg 28 2,bv 36 31])))
 (.br (.not (.c2 .req (r8 30) (r8 1)))
 (.pack [.cells 32 24 [(x8 0 30),(x8 1 30),(x8 2 30),(x8 3 30),(x8 4 30),(x8 5 30),(x8 6 30),(x8 7 30),(x8 8 30),(x8 9 30),(x8 10 30),(x8 11 30),(x8 12 30),(x8 13 30),(x8 14 30),(x8 15 30),(x8 16 30),(x8 17 30),(x8 18 30),(x8 19 30),(x8 20 30),(x8 21 30),(x8 22 30),(x8 23 30),(x8 24 30),(x8 25 30),(x8 26 30),(x8 27 30),(x8 28 30),(x8 29 30),(x8 30 30),(x8 31 30)],.cells 29 86 [(.vint .i64 (tv 20)),(.vslice 21 (tl 0) (tv 22) (tv 23) 1)],.cells 28 27 [(.vint .i64 (tv 10)),(.vint .i64 (tv 11)),(.vint .i64 (tv 12)),(.vint .i64 (tv 13)),(x8 0 14),(x8 1 14),(x8 2 14),(x8 3 14),(x8 4 14),(x8 5 14),(x8 6 14),(x8 7 14),(x8 8 14),(x8 9 14),(x8 10 14),(x8 11 14),(x8 12 14),(x8 13 14),(x8 14 14),(x8 15 14),(x8 16 14),(x8 17 14),(x8 18 14),(x8 19 14),(x8 20 14),(x8 21 14),(x8 22 14),(x8 23 14),(x8 24 14),(x8 25 14),(x8 26 14),(x8 27 14),(x8 28 14),(x8 29 14),(x8 30 14),(x8 31 14),(.vslice 15 (tl 0) (tv 16) (tv 17) 32)],.abs 9 20] 33 (.ret 0 (sg 28 [bg 35 33,bv 34 8,bv 30 4,bv 29 3,bv 33 7,bv 32 6,bg 31 5,bg 28 2,bt 36 (tl 20)])))
 (.pre 1 qr7 (.both (.fresh 33 (.post 1 0 qr7 33 (.br (.cmp .neq (tv 33) (tl 0))
 (.pack [.cells 32 24 [(x8 0 30),(x8 1 30),(x8 2 30),(x8 3 30),(x8 4 30),(x8 5 30),(x8 6 30),(x8 7 30),(x8 8 30),(x8 9 30),(x8 10 30),(x8 11 30),(x8 12 30),(x8 13 30),(x8 14 30),(x8 15 30),(x8 16 30),(x8 17 30),(x8 18 30),(x8 19 30),(x8 20 30),(x8 21 30),(x8 22 30),(x8 23 30),(x8 24 30),(x8 25 30),(x8 26 30),(x8 27 30),(x8 28 30),(x8 29 30),(x8 30 30),(x8 31 30)],.cells 29 86 [(.vint .i64 (tv 20)),(.vslice 21 (tl 0) (tv 22) (tv 23) 1)],.cells 28 27 [(.vint .i64 (tv 10)),(.vint .i64 (tv 11)),(.vint .i64 (tv 12)),(.vint .i64 (tv 13)),(x8 0 14),(x8 1 14),(x8 2 14),(x8 3 14),(x8 4 14),(x8 5 14),(x8 6 14),(x8 7 14),(x8 8 14),(x8 9 14),(x8 10 14),(x8 11 14),(x8 12 14),(x8 13 14),(x8 14 14),(x8 15 14),(x8 16 14),(x8 17 14),(x8 18 14),(x8 19 14),(x8 20 14),(x8 21 14),(x8 22 14),(x8 23 14),(x8 24 14),(x8 25 14),(x8 26 14),(x8 27 14),(x8 28 14),(x8 29 14),(x8 30 14),(x8 31 14),(.vslice 15 (tl 0) (tv 16) (tv 17) 32)],.abs 9 20] 34 (.ret 0 (sg 28 [bg 35 34,bv 34 8,bv 30 4,bv 29 3,bv 33 7,bv 32 6,bg 31 5,bg 28 2,bv 36 33])))
 (.both (.pre 2 qiz (.both (fr 34 4 (.post 2 0 qiz 34 (.both (.pre 3 (sg 0 [bv 4 36,bv 3 37,bv 5 20,bv 2 36,bv 1 35,bg 0 34]) (.both (.fresh 38 (.post 3 0 (sg 0 [bv 4 36,bv 3 37,bv 5 20,bv 2 36,bv 1 35,bg 0 34]) 38 (.br (tv 38)
 (.pack [.arr 34 3 [CK.int .i64] (tv 37) (tv 36),.cells 32 24 [(x8 0 30),(x8 1 30),(x8 2 30),(x8 3 30),(x8 4 30),(x8 5 30),(x8 6 30),(x8 7 30),(x8 8 30),(x8 9 30),(x8 10 30),(x8 11 30),(x8 12 30),(x8 13 30),(x8 14 30),(x8 15 30),(x8 16 30),(x8 17 30),(x8 18 30),(x8 19 30),(x8 20 30),(x8 21 30),(x8 22 30),(x8 23 30),(x8 24 30),(x8 25 30),(x8 26 30),(x8 27 30),(x8 28 30),(x8 29 30),(x8 30 30),(x8 31 30)],.cells 29 86 [(.vint .i64 (tv 20)),(.vslice 21 (tl 0) (tv 22) (tv 23) 1)],.cells 28 27 [(.vint .i64 (tv 10)),(.vint .i64 (tv 11)),(.vint .i64 (tv 12)),(.vint .i64 (tv 13)),(x8 0 14),(x8 1 14),(x8 2 14),(x8 3 14),(x8 4 14),(x8 5 14),(x8 6 14),(x8 7 14),(x8 8 14),(x8 9 14),(x8 10 14),(x8 11 14),(x8 12 14),(x8 13 14),(x8 14 14),(x8 15 14),(x8 16 14),(x8 17 14),(x8 18 14),(x8 19 14),(x8 20 14),(x8 21 14),(x8 22 14),(x8 23 14),(x8 24 14),(x8 25 14),(x8 26 14),(x8 27 14),(x8 28 14),(x8 29 14),(x8 30 14),(x8 31 14),(.vslice 15 (tl 0) (tv 16) (tv 17) 32)],.abs 9 20] 39 (.ret 0 (sg 28 [bg 35 39,bv 34 8,bv 30 4,bv 29 3,bv 33 7,bv 32 6,bg 31 5,bg 28 2,bt 36 (tl 7)])))
 (.pre 4 qiz (.both (.fresh 39 (.post 4 0 qiz 39 (.br (tv 39)
 (.pack [.arr 34 3 [CK.int .i64] (tv 37) (tv 36),.cells 32 24 [(x8 0 30),(x8 1 30),(x8 2 30),(x8 3 30),(x8 4 30),(x8 5 30),(x8 6 30),(x8 7 30),(x8 8 30),(x8 9 30),(x8 10 30),(x8 11 30),(x8 12 30),(x8 13 30),(x8 14 30),(x8 15 30),(x8 16 30),(x8 17 30),(x8 18 30),(x8 19 30),(x8 20 30),(x8 21 30),(x8 22 30),(x8 23 30),(x8 24 30),(x8 25 30),(x8 26 30),(x8 27 30),(x8 28 30),(x8 29 30),(x8 30 30),(x8 31 30)],.cells 29 86 [(.vint .i64 (tv 20)),(.vslice 21 (tl 0) (tv 22) (tv 23) 1)],.cells 28 27 [(.vint .i64 (tv 10)),(.vint .i64 (tv 11)),(.vint .i64 (tv 12)),(.vint .i64 (tv 13)),(x8 0 14),(x8 1 14),(x8 2 14),(x8 3 14),(x8 4 14),(x8 5 14),(x8 6 14),(x8 7 14),(x8 8 14),(x8 9 14),(x8 10 14),(x8 11 14),(x8 12 14),(x8 13 14),(x8 14 14),(x8 15 14),(x8 16 14),(x8 17 14),(x8 18 14),(x8 19 14),(x8 20 14),(x8 21 14),(x8 22 14),(x8 23 14),(x8 24 14),(x8 25 14),(x8 26 14),(x8 27 14),(x8 28 14),(x8 29 14),(x8 30 14),(x8 31 14),(.vslice 15 (tl 0) (tv 16) (tv 17) 32)],.abs 9 20] 40 (.ret 0 (sg 28 [bg 35 40,bv 34 8,bv 30 4,bv 29 3,bv 33 7,bv 32 6,bg 31 5,bg 28 2,bt 36 (tl 8)])))
 (.pre 5 (sg 0 [bv 4 19,bv 3 18,bv 2 17,bv 1 16,bg 0 15]) (.both (fr 40 3 (.post 5 0 (sg 0 [bv 4 19,bv 3 18,bv 2 17,bv 1 16,bg 0 15]) 40 (.both (.pre 6 (sg 0 [bv 4 25,bv 3 24,bv 2 23,bv 1 22,bg 0 21]) (.both (fr 43 3 (.post 6 0 (sg 0 [bv 4 25,bv 3 24,bv 2 23,bv 1 22,bg 0 21]) 43 (.both (.both (.fresh 46 (.both (.need (.cmp .eql (tv 6) (.dlen (tv 8))) (.need (.cmp .leq (.tims (tl 32) (.plus (tv 6) (tl 1))) (tl 140737488355328)) (fr 47 2 (.both (.both (.both (.pack [.cells 46 86 [(.vint .i64 (tv 20)),(.vslice 43 (tl 0) (tv 22) (tv 44) 1)],.arr 43 5 [CK.int .u8] (tv 45) (tv 44),.arr 40 24 [CK.int .u8,CK.int .u8,CK.int .u8,CK.int .u8,CK.int .u8,CK.int .u8,CK.int .u8,CK.int .u8,CK.int .u8,CK.int .u8,CK.int .u8,CK.int .u8,CK.int .u8,CK.int .u8,CK.int .u8,CK.int .u8,CK.int .u8,CK.int .u8,CK.int .u8,CK.int .u8,CK.int .u8,CK.int .u8,CK.int .u8,CK.int .u8,CK.int .u8,CK.int .u8,CK.int .u8,CK.int .u8,CK.int .u8,CK.int .u8,CK.int .u8,CK.int .u8] (tv 42) (tv 41),.arr 34 3 [CK.int .i64] (tv 37) (tv 36),.cells 32 24 [(x8 0 30),(x8 1 30),(x8 2 30),(x8 3 30),(x8 4 30),(x8 5 30),(x8 6 30),(x8 7 30),(x8 8 30),(x8 9 30),(x8 10 30),(x8 11 30),(x8 12 30),(x8 13 30),(x8 14 30),(x8 15 30),(x8 16 30),(x8 17 30),(x8 18 30),(x8 19 30),(x8 20 30),(x8 21 30),(x8 22 30),(x8 23 30),(x8 24 30),(x8 25 30),(x8 26 30),(x8 27 30),(x8 28 30),(x8 29 30),(x8 30 30),(x8 31 30)],.cells 29 86 [(.vint .i64 (tv 20)),(.vslice 21 (tl 0) (tv 22) (tv 23) 1)],.arr 2 27 [CK.int .i64,CK.int .i64,CK.int .i64,CK.int .i64,CK.int .u8,CK.int .u8,CK.int .u8,CK.int .u8,CK.int .u8,CK.int .u8,CK.int .u8,CK.int .u8,CK.int .u8,CK.int .u8,CK.int .u8,CK.int .u8,CK.int .u8,CK.int .u8,CK.int .u8,CK.int .u8,CK.int .u8,CK.int .u8,CK.int .u8,CK.int .u8,CK.int .u8,CK.int .u8,CK.int .u8,CK.int .u8,CK.int .u8,CK.int .u8,CK.int .u8,CK.int .u8,CK.int .u8,CK.int .u8,CK.int .u8,CK.int .u8,CK.any] (tv 3) (tv 4),.abs 9 20] 49 (.ret 0 (sg 28 [bg 35 49,bt 34 (.dapp (tv 8) (.rcons (.vint .i64 (tv 20)) (.rcons (.vslice 43 (tl 0) (tv 22) (tv 44) 1) .rnil))),bt 30 (tl 1),bt 29 (.rcons (.vint .i64 (tv 10)) (.rcons (.vint .i64 (tv 11)) (.rcons (.vint .i64 (tv 12)) (.rcons (.vint .i64 (tv 13)) (.rcons (x8 0 14) (.rcons (x8 1 14) (.rcons (x8 2 14) (.rcons (x8 3 14) (.rcons (x8 4 14) (.rcons (x8 5 14) (.rcons (x8 6 14) (.rcons (x8 7 14) (.rcons (x8 8 14) (.rcons (x8 9 14) (.rcons (x8 10 14) (.rcons (x8 11 14) (.rcons (x8 12 14) (.rcons (x8 13 14) (.rcons (x8 14 14) (.rcons (x8 15 14) (.rcons (x8 16 14) (.rcons (x8 17 14) (.rcons (x8 18 14) (.rcons (x8 19 14) (.rcons (x8 20 14) (.rcons (x8 21 14) (.rcons (x8 22 14) (.rcons (x8 23 14) (.rcons (x8 24 14) (.rcons (x8 25 14) (.rcons (x8 26 14) (.rcons (x8 27 14) (.rcons (x8 28 14) (.rcons (x8 29 14) (.rcons (x8 30 14) (.rcons (x8 31 14) (.rcons (.vslice 40 (tl 0) (tv 16) (tv 41) 32) .rnil))))))))))))))))))))))))))))))))))))),bv 33 48,bt 32 (.plus (tv 6) (tl 1)),bg 31 47,bg 28 28,bt 36 (tl 0)]))) .top) .top) .top)))) .top)) .top) .top))) .top)) .top))) .top))))) .top))))) .top)) .top))) .top)) .top)))) .top))))))) .top)))
theorem q5T:qn Tryz.prog qjy [idC,qjf,qit,qd0,qg9,qjj,qfP] [] qxx:=qh Tryz.func48 Tryz.call48 (by kernel_rfl)
set_option maxRecDepth 20000
theorem q42:qjs.ok Tryz.prog:=q3V (by simp) fun Z hg hp=>by
 simp (config:={ maxSteps:=4000000 }) [qx0,qjs]
theorem q2Q:qjj.ok Tryz.prog:=q0N (by simp) fun Z hg hp=>by
 obtain ⟨h0,hl,h1⟩:=hp
 simp (config:={ maxSteps:=4000000 }) [qtO,qjj,hl]
 exact ⟨fun h _=>h,fun _=>by omega⟩
section
variable {h:Hp} {r:Option Addr} {d P:qf} {c n:Int} {M M':Option ManV} {L L':PcL}
theorem q3S (h1:qo3 h P L) (h2:qo3 h P L'):L = L':=by
 refine jbv fun j=>?_
 by_cases hj:j < P.length
 ·have e:=(h1.2.2 j hj).symm.trans (h2.2.2 j hj)
  rw [jad,jad,jac (by have:=h1.1; omega),jac (by have:=h2.1; omega)] at e
  rw [jac (by have:=h1.1; omega),jac (by have:=h2.1; omega)]
  exact congrArg some e
 ·rw [jaw (by have:=h1.1; omega),jaw (by have:=h2.1; omega)]
theorem q3H {m m':ManV} (h1:qh4 h d m) (h2:qh4 h d m'):m = m':=by
 obtain ⟨row,D,e,hf,hr,hD,a1,a2,a3,a4,a5,a6,_,_⟩:=h1
 obtain ⟨row',D',e',hf',hr',hD',b1,b2,b3,b4,b5,b6,_,_⟩:=h2
 rw [e] at e'
 simp only [jb2,and_true] at e'
 subst e'
 obtain rfl:=qsn hr hr'
 obtain ⟨k,n,t,s,o,D1⟩:=m
 obtain ⟨k',n',t',s',o',D1'⟩:=m'
 simp only at a1 a2 a3 a4 a5 a6 b1 b2 b3 b4 b5 b6
 simp only [ManV.mk.injEq]
 exact ⟨by rw [<- a2,<- b2],by rw [<- a3,<- b3],by rw [<- a4,<- b4],by rw [<- a5,<- b5],by rw [<- a6,<- b6],by rw [<- a1,<- b1]⟩
theorem qqI (h1:qbM h r d c n P M L) (h2:qbM h r d c n P M' L'):M' = M/\L' = L:=by
 obtain ⟨_,p1,_,_,q1⟩:=h1
 obtain ⟨_,p2,_,_,q2⟩:=h2
 refine ⟨?_,(q3S p1 p2).symm⟩
 rcases q1 with ⟨rfl,_,c0,_⟩ | ⟨m,rfl,c1,hm,_⟩ <;> rcases q2 with ⟨rfl,_,c0',_⟩ | ⟨m',rfl,c1',hm',_⟩
 ·rfl
 ·omega
 ·omega
 ·rw [q3H hm hm']
theorem q83 (h1:qbM h r d c n P M L):qgQ P P.length = L.map Prod.fst:=by
 obtain ⟨_,p1,_⟩:=h1
 refine jbv fun j=>?_
 by_cases hj:j < P.length
 ·have e:=congrArg Prod.fst (p1.2.2 j hj)
  rw [jad,jac (by have:=p1.1; omega)] at e
  rw [qgQ,jan,jbx hj,jan,jac (by have:=p1.1; omega)]
  exact congrArg some e
 ·rw [jaw (by simp [qgQ]; omega),jaw (by rw [ja0]; have:=p1.1; omega)]
theorem q5y {i:Nat}:qgQ P (i + 1) = qgQ P i ++ [pcI P i]:=by
 unfold qgQ
 rw [jel,jci]; rfl
end
theorem qv6:qg9.ok Tryz.prog:=q5f (by simp) fun Z hg hp=>by
 obtain ⟨M,L,h⟩:=hp
 simp (config:={ maxSteps:=4000000 }) [qxB,qg9,gaB]
 have h0:qbM (Z 9).h (Z 2).r (Z 3).d (Z 4).i (Z 6).i (Z 8).d M L:=h
 obtain ⟨hn,hp,_,_,hc⟩:=h
 rcases hc with ⟨rfl,hr,c0,hd,hL⟩ | ⟨m,rfl,c1,hm,hL⟩
 ·refine ⟨fun hcon=>?_,fun _ _ M' L' h'=>?_⟩
  ·rw [hd,hr] at hcon; simp at hcon
  ·obtain ⟨rfl,rfl⟩:=qqI h0 h'; rfl
 ·obtain ⟨row,D,e,hf,hrd,hD,a1,a2,_⟩:=hm
  have e:(Z 3).d = [row]:=e
  refine ⟨fun _=>⟨by have hn':(Z 6).i = ((Z 8).d.length:Int):=hn; omega,by rw [e]; exact Nat.one_pos,fun M' L' h'=>?_⟩,fun hd _=>by rw [e] at hd; cases hd⟩
  obtain ⟨rfl,rfl⟩:=qqI h0 h'
  have hk:qb (Z 3).d 0 0 = m.k:=by rw [<- a2,e]; rfl
  have hn':(Z 6).i = ((Z 8).d.length:Int):=hn
  have hp1:(Z 8).d.length = L'.length:=hp.1
  rw [hk,hn',hp1]; rfl
theorem qxC:qit.ok Tryz.prog:=q6V (by simp) fun Z hg hp=>by
 obtain ⟨M,L,h⟩:=hp
 have h0:qbM (Z 9).h (Z 2).r (Z 3).d (Z 4).i (Z 6).i (Z 8).d M L:=h
 obtain ⟨hn,hp,_,h255,hc⟩:=h
 have hpl:=hp.1
 simp (config:={ maxSteps:=4000000 }) [q1h,qit,q6r,qaw,gaB]
 have hn:(Z 6).i = ((Z 8).d.length:Int):=hn
 have hpl:(Z 8).d.length = L.length:=hpl
 refine ⟨by omega,⟨by omega,rfl⟩,fun a _ D _ i _ i0 i1 ha hD hr=>⟨fun hi=>?_,fun hi M' L' h'=>?_⟩⟩
 ·have hDl:D.d.length = i.i.toNat:=by
   have:=congrArg List.length hD
   rw [qb2] at this
   simpa [qgQ] using this
  have hnx:(qe .add .i64 i.i 1).toNat = i.i.toNat + 1:=by rw [qcI i0 (by omega)]; omega
  refine ⟨i0,by omega,ha,by omega,⟨by rw [qcI i0 (by omega)]; omega,by rw [qcI i0 (by omega)]; omega,ha,?_,fun row h=>qqB h hr⟩,by rw [qcI i0 (by omega)]; omega⟩
  rw [hnx,q5y,qi3,hD]
  unfold pcI
  rw [ja6 i0]
 ·obtain ⟨rfl,rfl⟩:=qqI h0 h'
  refine ⟨ha,?_,hr⟩
  rw [hD,<- q83 h0,show i.i.toNat = (Z 8).d.length by omega]
section
variable {h h':Hp} {r:Option Addr} {d P:qf} {c n e i:Int} {M:Option ManV} {L:PcL} {o b:List Int} {m:ManV}
theorem q4X (h1:qo3 h P L) (hl:Hp.le h h'):qo3 h' P L:=by
 refine ⟨h1.1,fun j hj=>?_,fun j hj=>?_⟩
 ·obtain ⟨i,v,d,e1,e2,e3⟩:=h1.2.1 j hj
  exact ⟨i,v,d,e1,qiY e2 hl,e3⟩
 ·rw [<- h1.2.2 j hj]
  obtain ⟨i,v,d,e1,e2,e3⟩:=h1.2.1 j hj
  have hv:qG P j 1 = v:=by simp only [qG,jar,e1,ja2]; rfl
  unfold pcD
  rw [hv,qjp e2,qjp (qiY e2 hl)]
theorem q5z (h1:qh4 h d m) (hl:Hp.le h h'):qh4 h' d m:=by
 obtain ⟨row,D,e,hf,hr,hx⟩:=h1
 exact ⟨row,D,e,hf,qiY hr hl,hx⟩
theorem qqF (h1:qbM h r d c n P M L) (hl:Hp.le h h'):qbM h' r d c n P M L:=by
 obtain ⟨a1,a2,a3,a4,a5⟩:=h1
 refine ⟨a1,q4X a2 hl,a3,a4,?_⟩
 rcases a5 with a5 | ⟨m,b1,b3,b4,b5⟩
 ·exact .inl a5
 ·exact .inr ⟨m,b1,b3,q5z b4 hl,b5⟩
theorem q8t (h1:qbM h r d c n P M L) (hl:Hp.le h h') (hne:¬ e = 0):qbM h' r d c n P (if e = 0 then some m else M) (if e = 0 then L ++ [(i,b)] else L):=by
 rw [jaf hne,jaf hne]; exact qqF h1 hl
section
variable {k n' t s l u:Int} {O R S z:List Int} {D J:qf} {x y:Bool}
theorem qj7 (hl:l = (D.length:Int)):ManV.ok ⟨k,n',t,s,O,dgs D⟩ = qJ k n' t s l:=by
 unfold ManV.ok
 rw [hl]; simp [dgs]
theorem q9L (hl:l = (D.length:Int)) (hid:(qJ k n' t s l = false/\e = 2/\R = z)∨(qJ k n' t s l = true/\e = 0/\R = S)) (hne:¬ e = 0):e = qfN o M L ⟨k,n',t,s,O,dgs D⟩ i b:=by
 rcases hid with ⟨h1,h2,_⟩ | ⟨_,h2,_⟩
 ·unfold qfN; rw [qj7 hl,jah h1,h2]
 ·exact absurd h2 hne
theorem qoR (hid:(qJ k n' t s l = false/\e = 2/\R = z)∨(qJ k n' t s l = true/\e = 0/\R = S)) (he:e = 0):qJ k n' t s l = true/\R = S:=by
 rcases hid with ⟨_,h2,_⟩ | ⟨h1,_,h3⟩
 ·omega
 ·exact ⟨h1,h3⟩
theorem q85 (hl:l = (D.length:Int)) (hid:(qJ k n' t s l = false/\e = 2/\R = z)∨(qJ k n' t s l = true/\e = 0/\R = sha (qaM k n' t s O ++ (dgs D).flatten))) (he:e = 0) (hR:¬ R = o):20 = qfN o M L ⟨k,n',t,s,O,dgs D⟩ i b:=by
 obtain ⟨h1,h2⟩:=qoR hid he
 unfold qfN
 rw [qj7 hl,jaf (by rw [h1]; simp),jah (by show sha (qaM k n' t s O ++ (dgs D).flatten) ≠ o; rw [<- h2]; exact hR)]
theorem q9A (hl:l = (D.length:Int)) (hid:(qJ k n' t s l = false/\e = 2/\R = z)∨(qJ k n' t s l = true/\e = 0/\R = sha (qaM k n' t s O ++ (dgs D).flatten))) (he:e = 0) (hR:R = o) (hc:u = qce k n' t s l (dgs D) i b) (hne:¬ u = 0):u = qfN o M L ⟨k,n',t,s,O,dgs D⟩ i b:=by
 obtain ⟨h1,h2⟩:=qoR hid he
 have hl':(((dgs D).length:Nat):Int) = l:=by rw [hl]; simp [dgs]
 unfold qfN
 simp only [hl']
 rw [qj7 hl,jaf (by rw [h1]; simp),jaf (fun h=>h (by rw [<- hR,h2]; rfl)),jah (by rw [<- hc]; exact hne),hc]
theorem qt8 (hl:l = (D.length:Int)) (hid:(qJ k n' t s l = false/\e = 2/\R = z)∨(qJ k n' t s l = true/\e = 0/\R = sha (qaM k n' t s O ++ (dgs D).flatten))) (he:e = 0) (hR:R = o) (hc:u = qce k n' t s l (dgs D) i b) (hu:u = 0):qfN o M L ⟨k,n',t,s,O,dgs D⟩ i b = if i ∈ L.map Prod.fst then 7 else if qgF M L then 8 else 0:=by
 obtain ⟨h1,h2⟩:=qoR hid he
 have hl':(((dgs D).length:Nat):Int) = l:=by rw [hl]; simp [dgs]
 unfold qfN
 simp only [hl']
 rw [qj7 hl,jaf (by rw [h1]; simp),jaf (fun h=>h (by rw [<- hR,h2]; rfl)),jaf (by rw [<- hc,hu]; simp)]
theorem qot (hq:∀ (M:Option ManV) (L:PcL),qbM h r d c n P M L->u = (J.length:Int)/\qk J = L.map Prod.fst/\∀ row,row ∈ J->row.length = 1) (h1:qbM h r d c n P M L):u = (J.length:Int)/\u <= 1000/\qk J = L.map Prod.fst/\∀ row,row ∈ J->row.length = 1:=by
 obtain ⟨a,b,e⟩:=hq M L h1
 refine ⟨a,?_,b,e⟩
 have h2:=congrArg List.length b
 rw [qb2,ja0] at h2
 have:=h1.2.2.2.1
 omega
theorem q9P (hl:l = (D.length:Int)) (hid:(qJ k n' t s l = false/\e = 2/\R = z)∨(qJ k n' t s l = true/\e = 0/\R = sha (qaM k n' t s O ++ (dgs D).flatten))) (he:e = 0) (hR:R = o) (hc:u = qce k n' t s l (dgs D) i b) (hu:u = 0) {u':Int}
  (hq:∀ (M:Option ManV) (L:PcL),qbM h r d c n P M L->u' = (J.length:Int)/\qk J = L.map Prod.fst/\∀ row,row ∈ J->row.length = 1) (h1:qbM h r d c n P M L) (hx:x = decide (i ∈ qk J)) (ht:x = true):7 = qfN o M L ⟨k,n',t,s,O,dgs D⟩ i b:=by
 rw [qt8 hl hid he hR hc hu,jah]
 rw [<- (hq M L h1).2.1]; exact q93 hx ht
theorem q9C (hl:l = (D.length:Int)) (hid:(qJ k n' t s l = false/\e = 2/\R = z)∨(qJ k n' t s l = true/\e = 0/\R = sha (qaM k n' t s O ++ (dgs D).flatten))) (he:e = 0) (hR:R = o) (hc:u = qce k n' t s l (dgs D) i b) (hu:u = 0) {u':Int}
  (hq:∀ (M:Option ManV) (L:PcL),qbM h r d c n P M L->u' = (J.length:Int)/\qk J = L.map Prod.fst/\∀ row,row ∈ J->row.length = 1) (h1:qbM h r d c n P M L) (hx:x = decide (i ∈ qk J)) (ht:x = false) (hr:∀ (M:Option ManV) (L:PcL),qbM h r d c n P M L->y = qgF M L):qfN o M L ⟨k,n',t,s,O,dgs D⟩ i b = if y then 8 else 0:=by
 rw [qt8 hl hid he hR hc hu,jaf,<- hr M L h1]
 rw [<- (hq M L h1).2.1]; exact q0F hx ht
theorem q63 {v:Value} (hv:v.oneCell' = true) (hRd:Rd h k32 v D) (hD:qft D) (hO:qH (qd J 32)) (hok:qJ k n' t s l = true) (hl:l = (D.length:Int)) :
  qh4 h [[Value.int .i64 k,Value.int .i64 n',Value.int .i64 t,Value.int .i64 s] ++ ((qd J 32).map (Value.int .u8) ++ [v])] ⟨k,n',t,s,qd J 32,dgs D⟩:=by
 refine ⟨_,D,rfl,⟨by simp [qvL,qd],fun c kk w hk hw=>?_⟩,hRd,hD,rfl,rfl,rfl,rfl,rfl,rfl,hO,by rw [qj7 hl]; exact hok⟩
 unfold qvL at hk
 rcases jbs c 4 with h4 | h4
 ·rw [jau (by simpa using h4),jbj,jah h4] at hk
  rw [jau (by simpa using h4)] at hw
  obtain rfl:=(jaz hk).symm
  match c,h4 with
  | 0,_=>obtain rfl:=(jaz hw).symm; rfl
  | 1,_=>obtain rfl:=(jaz hw).symm; rfl
  | 2,_=>obtain rfl:=(jaz hw).symm; rfl
  | 3,_=>obtain rfl:=(jaz hw).symm; rfl
 ·rw [jap (by simpa using h4)] at hk
  rw [jap (by simpa using h4)] at hw
  simp only [ja4,jba,jcq] at hk hw
  rcases jbs (c - 4) 32 with h5 | h5
  ·rw [jau (by simpa using h5),jbj,jah h5] at hk
   rw [jau (by simp [qd]; omega),jan] at hw
   obtain rfl:=(jaz hk).symm
   obtain ⟨q,_,rfl⟩:=jai.1 hw
   rfl
  ·rw [jap (by simpa using h5)] at hk
   rw [jap (by simp [qd]; omega)] at hw
   simp only [ja4,ja0] at hk hw
   rw [show (qd J 32).length = 32 by simp [qd]] at hw
   match hc:c - 4 - 32,hk with
   | 0,hk =>
    rw [hc] at hw
    obtain rfl:=(jaz hk).symm
    obtain rfl:=(jaz hw).symm
    unfold CK.fits; exact hv
   | q + 1,hk=>simp at hk
theorem q9e {v:Value} {B d':qf} {r':Option Addr} {m:ManV} (h1:qbM h r d c n P M L) (hl:Hp.le h h') (hRd:Rd h' kB v B) (hB:q6 B) (hb9:(B.length:Int) <= 9000) (hm:qh4 h' d' m) (hy:qgF M L = false):qbM h' r' d' 1 (n + 1) (P ++ [[.int .i64 i,v]]) (some m) (L ++ [(i,bI B)]):=by
 have h2:=qqF h1 hl
 obtain ⟨a1,a2,a3,a4,a5⟩:=h2
 have hlen:L.length < 255:=by
  rcases a5 with ⟨_,_,_,_,rfl⟩ | ⟨m0,rfl,_,hm0,_⟩
  ·decide
  ·obtain ⟨_,_,_,_,_,_,_,_,_,_,_,_,_,hok⟩:=hm0
   unfold qgF at hy
   have hk:=jds hy
   have hk2:m0.k <= 255:=by
    unfold ManV.ok qJ qbm at hok
    simp at hok
    omega
   omega
 have hPl:=a2.1
 refine ⟨by rw [jal,jc7]; omega,⟨by rw [jal,jal,hPl]; rfl,fun j hj=>?_,fun j hj=>?_⟩,fun x hx=>?_,by rw [jal,jc7]; omega,.inr ⟨m,rfl,rfl,hm,by simp⟩⟩
 ·rw [jal,jc7] at hj
  rcases jbs j P.length with hjP | hjP
  ·obtain ⟨i0,v0,d0,e1,e2⟩:=a2.2.1 j hjP
   exact ⟨i0,v0,d0,by rw [jau hjP]; exact e1,e2⟩
  ·have:j = P.length:=by omega
   subst this
   exact ⟨i,v,B,by rw [jap (ja1 _),jfd]; rfl,hRd,hB⟩
 ·rw [jal,jc7] at hj
  rcases jbs j P.length with hjP | hjP
  ·have h3:=a2.2.2 j hjP
   have e1:pcI (P ++ [[.int .i64 i,v]]) j = pcI P j:=by unfold pcI qb qG; rw [jar,jau hjP]
   have e2:pcD h' (P ++ [[.int .i64 i,v]]) j = pcD h' P j:=by unfold pcD qG; rw [jar,jau hjP]
   rw [e1,e2,h3,jad,jad,jau (by omega)]
  ·have:j = P.length:=by omega
   subst this
   have e1:pcI (P ++ [[.int .i64 i,v]]) P.length = i:=by unfold pcI qb qG; rw [jar,jap (ja1 _),jfd]; rfl
   have e2:pcD h' (P ++ [[.int .i64 i,v]]) P.length = bI B:=by
    unfold pcD qG
    rw [jar,jap (ja1 _),jfd]
    exact qjp hRd
   rw [e1,e2,hPl,jad,jap (ja1 _),jfd]; rfl
 ·rcases jas.1 hx with hx | hx
  ·exact a3 x hx
  ·rw [jaj.1 hx,bI_len]; exact hb9
end
end
theorem q7v {h h':Hp} {r r':Option Addr} {d P:qf} {c n e i:Int} {M:Option ManV} {L:PcL} {k n' t s l:Int} {R S z:List Int} {D D' B B' J:qf} {y:Bool} {a a':Option Addr} {x x' q q':Nat} (h1:qbM h r d c n P M L) (hl:Hp.le h h')
  (hid:(qJ k n' t s l = false/\e = 2/\R = z)∨(qJ k n' t s l = true/\e = 0/\R = S)) (he:e = 0) (hy:∀ (M:Option ManV) (L:PcL),qbM h r d c n P M L->y = qgF M L) (hyf:y = false) (hRb:Rd h' kB (.slice a B'.length q) B') (eB:B' = B) (hRd:Rd h' k32 (.slice a' D'.length q') D') (eD:D' = D)
  (hx:x = B.length) (hx':x' = D.length) (hB:q6 B) (hb9:(B.length:Int) <= 9000) (hD:qft D) (hO:qH (qd J 32)) (hml:l = (D.length:Int)) :
  qbM h' r' [[Value.int .i64 k,Value.int .i64 n',Value.int .i64 t,Value.int .i64 s] ++ ((qd J 32).map (Value.int .u8) ++ [.slice a' x' q'])] 1 (n + 1) (P ++ [[.int .i64 i,.slice a x q]]) (some ⟨k,n',t,s,qd J 32,dgs D⟩) (L ++ [(i,bI B)]):=by
 subst eB eD hx hx'
 exact q9e h1 hl hRb hB hb9 (q63 rfl hRd hD hO (qoR hid he).1 hml) (by rw [<- hy M L h1]; exact hyf)
theorem qys {Z:Env} {l:List SH} {H:Hp} (r ty d c:Nat) (pat:List CK) (hs:qac Z l H) (hm:SH.arr r ty pat (.var d) (.var c) ∈ l):Rd H pat (.slice (qm (Z r).r 0) (Z d).d.length (Z c).i.toNat) (Z d).d:=by
 obtain ⟨hx,hl,hd⟩:=qkt hs hm
 exact q1U hd hl rfl rfl
set_option maxHeartbeats 4000000 in
theorem q4Q:qjy.ok Tryz.prog:=q5T (by simp [q6a,q19,qxC,qnE,qv6,q2Q,qrZ]) fun Z hg hp=>by
 obtain ⟨⟨⟨M,L,h⟩,hO,hMan,hi64,hpa,h9⟩,hGr,hGd⟩:=hp
 have h0:qbM (Z 9).h (Z 2).r (Z 3).d (Z 4).i (Z 6).i (Z 8).d M L:=h
 obtain ⟨q0,q1,q2,q3,hOm,hml,hml2,hD⟩:=hMan
 obtain ⟨p0,p1,p2,p3⟩:=hpa
 simp only [Nat.reduceAdd] at q0 q1 q2 q3 hOm hml hml2 hD p0 p1 p2 p3
 obtain ⟨hn0,hp0,_,h255,_⟩:=id h0
 have hpl0:=hp0.1
 simp (config:={ maxSteps:=4000000 }) [qxx,qjy,idC,qqg,qzb,qjf,qqV,q2w,qit,qd0,qg9,qjj,qfP,gaB,qbL,qay,qaw,qki,qha,q06,qvq,qzF,qiH,qaF,gOk,hGr,hGd]
 repeat' (first | with_reducible apply And.intro | with_reducible intro _)
 all_goals first
  | assumption
  | omega
  | exact ⟨M,L,h0⟩
  | exact q9L (by assumption) (by assumption) (by assumption)
  | exact q85 (by assumption) (by assumption) (by assumption) (by assumption)
  | exact q9P (by assumption) (by assumption) (by assumption) (by assumption) (by assumption) (by assumption) (by assumption) (by assumption) (by assumption) (by assumption)
  | (rw [q9C (by assumption) (by assumption) (by assumption) (by assumption) (by assumption) (by assumption) (by assumption) (by assumption) (by assumption) (by assumption) (by assumption)]; simp [*]; done)
  | exact (qot (by assumption) h0).1
  | exact Int.le_trans (qot (by assumption) h0).2.1 (by decide)
  | exact (qot (by assumption) h0).2.2.2 _ (by assumption)
  | exact q9A (by assumption) (by assumption) (by assumption) (by assumption) (by assumption) (by assumption)
  | exact q8t (by assumption) (by have h:=qbv 9 20 (by assumption) (by simp); simpa using h) (by assumption)
  | exact qqF (by assumption) (by have h:=qbv 9 20 (by assumption) (by simp); simpa using h)
  | skip
 rename_i hst M1 L1 h1
 have hle:=qbv 9 20 hst (by simp)
 have hRb:=qys 43 5 45 44 kB hst (by simp [kB])
 have hRd:=qys 40 24 42 41 k32 hst (by simp [k32])
 simp at hRb hRd hle
 exact q7v (J:=(Z 14).d) h1 hle (by assumption) (by assumption) (by assumption) (by assumption) hRb (by assumption) hRd (by assumption) (by omega) (by omega) p3 (by omega) hD hOm hml
set_option maxRecDepth 100000
@[simp] def qb7:T:=.rcons (.vint .u8 (tl 1)) (.rcons o8 (.rcons o8 (.rcons o8 (.rcons o8 (.rcons o8 (.rcons o8 (.rcons o8 (.rcons o8 (.rcons o8 (.rcons o8 (.rcons o8 (.rcons o8 (.rcons o8 (.rcons o8 (.rcons o8 (.rcons o8 (.rcons o8 (.rcons o8 (.rcons o8 (.rcons o8 (.rcons o8 (.rcons o8 (.rcons o8 (.rcons o8 (.rcons o8 (.rcons o8 (.rcons o8 (.rcons o8 (.rcons o8 (.rcons o8 (.rcons o8 .rnil)))))))))))))))))))))))))))))))
@[simp] def qgx:Sg:=sg 0 [bg 9 68,bv 8 67,bv 4 63,bv 3 62,bv 7 66,bv 6 65,bg 5 64,bg 2 61,bt 1 (s8 40),bg 0 39]
@[simp] def qnk:Sg:=sg 0 [bv 11 1,bv 9 28,bv 8 32,bv 7 28,bt 6 (tl 1),bg 5 27,bt 3 (tl 1),bt 2 (tl 1),bt 1 (tl 1),bt 0 (tl 1),bt 4 (r8 26),bg 10 0]
@[simp] def qnF:Sg:=sg 0 [bv 11 1,bt 9 (tl 1),bt 8 (.rcons (.vint .u8 (tl 120)) .rnil),bv 1 23,bt 7 (tl 1),bt 6 (tl 1),bg 5 24,bt 4 (tl 1),bt 3 (tl 1),bt 2 (tl 1),bg 0 22,bg 10 0]
@[simp] def qmS:Sg:=sg 0 [bv 27 1,bv 25 59,bv 24 60,bv 19 52,bv 18 53,bg 9 48,bv 8 47,bv 4 43,bv 3 42,bv 7 46,bv 6 45,bg 5 44,bg 2 41,bt 1 (r8 40),bv 23 59,bt 22 (.dlen (tv 60)),bg 21 58,bt 20 (.icell (tv 56) (tl 0) 0),bv 17 52,bt 16 (tl 1),bg 15 51,bt 13 (tl 1),bt 12 (tl 1),bt 11 (tl 1),bt 10 (tl 1),bt 14 (r8 50),bg 0 39,bg 26 0]
@[simp] def qp1:Sg:=sg 0 [bv 3 1,bt 1 (tl 1),bt 0 qb7,bg 2 0]
@[simp] def qpm:Sg:=sg 0 [bv 3 1,bt 1 (tl 0),bt 0 qb7,bg 2 0]
@[simp] def qpj:Sg:=sg 0 [bv 3 1,bt 1 (tl 3),bt 0 qb7,bg 2 0]
@[simp] def qpq:Sg:=sg 0 [bg 5 13,bv 4 12,bt 3 (tl 5),bt 2 (.icell (tv 6) (tl 0) 0),bt 1 qb7,bg 0 11]
@[simp] def qpZ:Sg:=sg 0 [bv 9 1,bv 7 5,bv 6 6,bv 5 5,bt 4 (tl 2),bg 3 3,bt 2 (tl 2),bt 1 (.icell (tv 6) (tl 2) 0),bt 0 qb7,bg 8 0]
@[simp] def qo2:Sg:=sg 0 [bv 17 1,bt 15 (tl 0),bt 14 .dnil,bv 10 5,bv 9 6,bg 5 16,bv 4 12,bt 13 (tl 0),bt 12 (tl 0),(11,.nil),bv 8 5,bv 7 4,bg 6 3,bt 3 (tl 17),bt 2 (.icell (tv 6) (tl 1) 0),bt 1 qb7,bg 0 11,bg 16 0]
@[simp] def qqo:Sg:=sg 0 [bv 17 1,bt 15 (tl 0),bt 14 .dnil,bv 10 5,bv 9 6,bg 5 14,bv 4 12,bt 13 (tl 0),bt 12 (tl 0),(11,.nil),bv 8 5,bv 7 4,bg 6 3,bt 3 (tl 16),bt 2 (.icell (tv 6) (tl 1) 0),bt 1 qb7,bg 0 11,bg 16 0]
@[simp] def qo6:Sg:=sg 0 [bv 11 1,bt 6 (tl 3),bt 5 (.dapp (.rcons (.vint .i64 (tl 0)) .rnil) (.dapp (.rcons (.vint .i64 (tl 1)) .rnil) (.rcons (.vint .i64 (tl 2)) .rnil))),bt 9 (.bl false),bt 8 (.bl true),bt 7 (tl 3),bt 4 (tl 3),bt 3 (tl 3),bg 2 9,bt 1 (tl 3),bt 0 qb7,bg 10 0]
@[simp] def qpF:Sg:=sg 0 [bv 11 1,bt 6 (tl 3),bt 5 (.dapp (.rcons (.vint .i64 (tl 0)) .rnil) (.dapp (.rcons (.vint .i64 (tl 1)) .rnil) (.rcons (.vint .i64 (tl 2)) .rnil))),bt 9 (.bl false),bt 8 (.bl false),bt 7 (tl 3),bt 4 (tl 3),bt 3 (tl 3),bg 2 7,bt 1 (tl 1),bt 0 qb7,bg 10 0]
def qu1:Out:=(.fresh 2 (.pre 0 qpj (.both (fr 3 4 (.post 0 0 qpj 3 (.need (.cmp .leq (tl 0) (tv 4)) (.br (.cmp .neq (tv 4) (tl 3))
 (.stuck 7 0 0)
 (.fresh 7 (.pre 1 qpF (.both (.fresh 8 (.post 1 0 qpF 8 (.br (.cmp .neq (tv 8) (tl 1))
 (.stuck 7 0 0)
 (.fresh 9 (.pre 1 qo6 (.both (.fresh 10 (.post 1 0 qo6 10 (.br (.cmp .neq (tv 10) (tl 2))
 (.stuck 7 0 0)
 (.pre 2 (sg 0 []) (.both (fr 11 3 (.post 2 0 (sg 0 []) 11 (.need (.cmp .lss (tl 0) (tv 4)) (.need (.cmp .lss (tl 0) (.dlen (tv 6))) (.both (.pre 3 qpq (.both (.fresh 14 (.post 3 0 qpq 14 (.need (.cmp .lss (tl 1) (tv 4)) (.need (.cmp .lss (tl 1) (.dlen (tv 6))) (.both (.pre 4 qqo (.both (fr 15 2 (.post 4 0 qqo 15 (.br (.not (tv 15))
 (.both (.both (.both (.both (.stuck 7 0 0) .top) .top) .top) .top)
 (.both (.pre 4 qo2 (.both (fr 17 2 (.post 4 0 qo2 17 (.br (tv 17)
 (.both (.both (.both (.stuck 7 0 0) .top) .top) .top)
 (.need (.cmp .lss (tl 2) (tv 4)) (.need (.cmp .lss (tl 2) (.dlen (tv 6))) (.know (.cmp .leq (.dlen (tv 6)) (tv 5)) (.need (.cmp .leq (tl 0) (tv 5)) (.need (.cmp .leq (tl 2) (tv 5)) (.both (.pre 5 qpZ (.both (.fresh 19 (.post 5 0 qpZ 19 (.br (.not (tv 19))
 (.both (.both (.stuck 7 0 0) .top) .top)
 (.both (.pre 6 qpm (.both (.fresh 20 (.post 6 0 qpm 20 (.both (.pre 6 qp1 (.both (.fresh 21 (.post 6 0 qp1 21 (.br (.c2 .req (r8 20) (r8 21))
 (.stuck 7 0 0)
 (.pre 7 (sg 0 []) (.both (fr 22 2 (.post 7 0 (sg 0 []) 22 (fr 24 2 (.pre 8 qnF (.both (fr 26 9 (.post 8 0 qnF 26 (.fresh 35 (.pre 9 qnk (.both (fr 36 2 (.post 9 0 qnk 36 (.fresh 38 (.both (.pre 10 (sg 0 [bt 0 (r8 36)]) (.both (.fresh 39 (.post 10 0 (sg 0 [bt 0 (r8 36)]) 39 (.pack [.cells 38 24 [(x8 0 36),(x8 1 36),(x8 2 36),(x8 3 36),(x8 4 36),(x8 5 36),(x8 6 36),(x8 7 36),(x8 8 36),(x8 9 36),(x8 10 36),(x8 11 36),(x8 12 36),(x8 13 36),(x8 14 36),(x8 15 36),(x8 16 36),(x8 17 36),(x8 18 36),(x8 19 36),(x8 20 36),(x8 21 36),(x8 22 36),(x8 23 36),(x8 24 36),(x8 25 36),(x8 26 36),(x8 27 36),(x8 28 36),(x8 29 36),(x8 30 36),(x8 31 36)],.arr 22 151 [CK.int .u32,CK.int .i32,CK.int .u32,CK.int .u8,CK.int .u8,CK.int .u8,CK.int .u8,CK.int .u8,CK.int .u8,CK.int .u8,CK.int .u8,CK.int .u8,CK.int .u8,CK.int .u8,CK.int .u8,CK.int .u8,CK.int .u8,CK.int .u8,CK.int .u8,CK.int .u8,CK.int .u8,CK.int .u8,CK.int .u8,CK.int .u8,CK.int .u8,CK.int .u8,CK.int .u8,CK.int .u8,CK.int .u8,CK.int .u8,CK.int .u8,CK.int .u8,CK.int .u8,CK.int .u8,CK.int .u8,CK.int .u8,CK.int .u8,CK.int .u8,CK.int .u8,CK.int .u8,CK.int .u8,CK.int .u8,CK.int .u8,CK.int .u8,CK.int .u8,CK.int .u8,CK.int .u8,CK.int .u8,CK.int .u8,CK.int .u8,CK.int .u8,CK.int .u8,CK.int .u8,CK.int .u8,CK.int .u8,CK.int .u8,CK.int .u8,CK.int .u8,CK.int .u8,CK.int .u8,CK.int .u8,CK.int .u8,CK.int .u8,CK.int .u8,CK.int .u8,CK.int .u8,CK.int .u8,CK.int .u8,CK.int .u8,CK.int .u8,CK.int .u8,CK.int .u8,CK.int .u8,CK.int .u8,CK.int .u8,CK.int .u8,CK.int .u8,CK.int .u8,CK.int .u8,CK.int .u8,CK.int .u8,CK.int .u8,CK.int .u8,CK.int .u8,CK.int .u8,CK.int .u8,CK.int .u8,CK.int .u8,CK.int .u8,CK.int .u8,CK.int .u8,CK.int .u8,CK.int .u8,CK.int .u8,CK.int .u8,CK.int .u8,CK.int .u8,CK.int .u8,CK.int .u8,CK.int .u8,CK.int .u8,CK.int .u8,CK.int .u8,CK.int .u8,CK.int .u8,CK.int .u8,CK.int .u8,CK.int .u8,CK.int .u8,CK.int .u8,CK.int .u8,CK.int .u8,CK.int .u8,CK.int .u8,CK.int .u8,CK.int .u8,CK.int .u8,CK.int .u8,CK.int .u8,CK.int .u8,CK.int .u8,CK.int .u8,CK.int .u8,CK.int .u8,CK.int .u8,CK.int .u8,CK.int .u8,CK.int .u8,CK.int .u8,CK.int .u8,CK.int .u8,CK.int .u8,CK.int .u8,CK.int .u8,CK.int .u8,CK.int .u8,CK.int .u8,CK.int .u8,CK.int .u8,CK.int .u8,CK.int .u8,CK.int .u8,CK.int .u8,CK.int .u8,CK.int .u8,CK.int .u8,CK.int .u8,CK.int .u8,CK.int .u8,CK.int .u8,CK.int .u8,CK.int .u8,CK.int .u8,CK.int .u8,CK.int .u8,CK.int .u8,CK.int .u8,CK.int .u8,CK.int .u8,CK.int .u8,CK.int .u8,CK.int .u8,CK.int .u8,CK.int .u8,CK.int .u8,CK.int .u8,CK.int .u8,CK.int .u8,CK.int .u8,CK.int .u8,CK.int .u8,CK.int .u8,CK.int .u8,CK.int .u8,CK.int .u8,CK.int .u8,CK.int .u8,CK.int .u8,CK.int .u8,CK.int .u8,CK.int .u8,CK.int .u8,CK.int .u8,CK.int .u8,CK.int .u8,CK.int .u8,CK.int .u8,CK.int .u8,CK.int .u8,CK.int .u8,CK.int .u8,CK.int .u8,CK.int .u8,CK.int .u8,CK.int .u8,CK.int .u8,CK.int .u8,CK.int .u8,CK.int .u8,CK.int .u8,CK.int .u8,CK.int .u8,CK.int .u8,CK.int .u8,CK.int .u8,CK.int .u8,CK.int .u8,CK.int .u8,CK.int .u8,CK.int .u8,CK.int .u8,CK.int .u8,CK.int .u8,CK.int .u8,CK.int .u8,CK.int .u8,CK.int .u8,CK.int .u8,CK.int .u8,CK.int .u8,CK.int .u8,CK.int .u8,CK.int .u8,CK.int .u8,CK.int .u8,CK.int .u8,CK.int .u8,CK.int .u8,CK.int .u8,CK.int .u8,CK.int .u8,CK.int .u8,CK.int .u8,CK.int .u8,CK.int .u8,CK.int .u8,CK.int .u8,CK.int .u8,CK.int .u8,CK.int .u8,CK.int .u8,CK.int .u8,CK.int .u8,CK.int .u8,CK.int .u8,CK.int .u8,CK.int .u8,CK.int .u8,CK.int .u8,CK.int .u8,CK.int .u8,CK.int .u8,CK.int .u8,CK.int .u8,CK.int .u8,CK.int .u8,CK.int .u8,CK.int .u8,CK.int .u8,CK.int .u8,CK.int .u8,CK.int .u8,CK.int .u8,CK.int .u8,CK.int .u8,CK.int .u8,CK.int .u8,CK.int .u8,CK.int .u8,CK.int .u8,CK.int .u8,CK.int .u8,CK.int .u8,CK.int .u8,CK.int .u8,CK.int .u8,CK.int .u8,CK.int .u8,CK.int .u8,CK.int .u8,CK.int .u8,CK.int .u8,CK.int .u8,CK.int .u8,CK.int .u8,CK.int .u8,CK.int .u8,CK.int .u8,CK.int .u8,CK.int .u8,CK.int .u8,CK.int .u8,CK.int .u8,CK.int .u8,CK.int .u8,CK.int .u8,CK.int .u8,CK.int .u8,CK.int .u8,CK.int .u8,CK.int .u8,CK.int .u8,CK.int .u8,CK.int .u8,CK.int .u8,CK.int .u8,CK.int .u8,CK.int .u8,CK.int .u8,CK.int .u8,CK.int .u8,CK.int .u8,CK.int .u8,CK.int .u8,CK.int .u8,CK.int .u8,CK.int .u8,CK.int .u8,CK.int .u8,CK.int .u8,CK.int .u8,CK.int .u8,CK.int .u8,CK.int .u8,CK.int .u8,CK.int .u8,CK.int .u8,CK.int .u8,CK.int .u8,CK.int .u8,CK.int .u8,CK.int .u8,CK.int .u8,CK.int .u8,CK.int .u8,CK.int .u8,CK.int .u8,CK.int .u8,CK.int .u8,CK.int .u8,CK.int .u8,CK.int .u8,CK.int .u8,CK.int .u8,CK.int .u8,CK.int .u8,CK.int .u8,CK.int .u8,CK.int .u8,CK.int .u8,CK.int .u8,CK.int .u8,CK.int .u8,CK.int .u8,CK.int .u8,CK.int .u8,CK.int .u8,CK.int .u8,CK.int .u8,CK.int .u8,CK.int .u8,CK.int .u8,CK.int .u8,CK.int .u8,CK.int .u8,CK.int .u8,CK.int .u8,CK.int .u8,CK.int .u8,CK.int .u8,CK.int .u8,CK.int .u8,CK.int .u8,CK.int .u8,CK.int .u8,CK.int .u8,CK.int .u8,CK.int .u8,CK.int .u8,CK.int .u8,CK.int .u8,CK.int .u8,CK.int .u8,CK.int .u8,CK.int .u8,CK.int .u8,CK.int .u8,CK.int .u8,CK.int .u8,CK.int .u8,CK.int .u8,CK.int .u8,CK.int .u8,CK.int .u8,CK.int .u8,CK.int .u8,CK.int .u8,CK.int .u8,CK.int .u8,CK.int .u8,CK.int .u8,CK.int .u8,CK.int .u8,CK.int .u8,CK.int .u8,CK.int .u8,CK.int .u8,CK.int .u8,CK.int .u8,CK.int .u8,CK.int .u8,CK.int .u8,CK.int .u8,CK.int .u8,CK.int .u8,CK.int .u8,CK.int .u8,CK.int .u8,CK.int .u8,CK.int .u8,CK.int .u8,CK.int .u8,CK.int .u8,CK.int .u8,CK.int .u8,CK.int .u8,CK.int .u8,CK.int .u8,CK.int .u8,CK.int .u8,CK.int .u8,CK.int .u8,CK.int .u8,CK.int .u8,CK.int .u8,CK.int .u8,CK.int .u8,CK.int .u8,CK.int .u8,CK.int .u8,CK.int .u8,CK.int .u8,CK.int .u8,CK.int .u8,CK.int .u8,CK.int .u8,CK.int .u8,CK.int .u8,CK.int .u8,CK.int .u8,CK.int .u8,CK.int .u8,CK.int .u8,CK.int .u8,CK.int .u8,CK.int .u8,CK.int .u8,CK.int .u8,CK.int .u8,CK.int .u8,CK.int .u8,CK.int .u8,CK.int .u8,CK.int .u8,CK.int .u8,CK.int .u8,CK.int .u8,CK.int .u8,CK.int .u8,CK.int .u8,CK.int .u8,CK.int .u8,CK.int .u8,CK.int .u8,CK.int .u8,CK.int .u8,CK.int .u8,CK.int .u8,CK.int .u8,CK.int .u8,CK.int .u8,CK.int .u8,CK.int .u8,CK.int .u8,CK.int .u8,CK.int .u8,CK.int .u8,CK.int .u8,CK.int .u8,CK.int .u8,CK.int .u8,CK.int .u8,CK.int .u8,CK.int .u8,CK.int .u8,CK.int .u8,CK.int .u8,CK.int .u8,CK.int .u8,CK.int .u8,CK.int .u8,CK.int .u8,CK.int .u8,CK.int .u8,CK.int .u8,CK.int .u8,CK.int .u8,CK.int .u8,CK.int .u8,CK.int .u8,CK.int .u8,CK.int .u8,CK.int .u8,CK.int .i64,CK.int .i64,CK.int .i64,CK.int .i64,CK.int .i64,CK.int .i64,CK.int .i64,CK.int .i64,CK.int .i64,CK.int .i64,CK.int .i64,CK.int .i64,CK.int .i64,CK.int .i64,CK.int .i64,CK.int .i64,CK.int .i64,CK.int .i64,CK.int .i64,CK.int .i64,CK.int .i64,CK.int .i64,CK.int .i64,CK.int .i64,CK.int .i64,CK.int .i64,CK.int .i64,CK.int .i64,CK.int .i64,CK.int .i64,CK.int .i64,CK.int .i64,CK.int .i64,CK.int .i64,CK.int .i64,CK.int .i64,CK.int .i64,CK.int .i64,CK.int .i64,CK.int .i64,CK.int .i64,CK.int .i64,CK.int .i64,CK.int .i64,CK.int .i64,CK.int .i64,CK.int .i64,CK.int .i64,CK.int .i64,CK.int .i64,CK.int .i64,CK.int .i64,CK.int .i64,CK.int .i64,CK.int .i64,CK.int .i64,CK.int .i64,CK.int .i64,CK.int .i64,CK.int .i64,CK.int .i64,CK.int .i64,CK.int .i64,CK.int .i64,CK.int .i64,CK.int .i64,CK.int .i64,CK.int .i64,CK.int .i64,CK.int .i64,CK.int .i64,CK.int .i64,CK.int .i64,CK.int .i64,CK.int .i64,CK.int .i64,CK.int .i64,CK.int .i64,CK.int .i64,CK.int .i64,CK.int .i64,CK.int .i64,CK.int .i64,CK.int .i64,CK.int .i64,CK.int .i64,CK.int .i64,CK.int .i64,CK.int .i64,CK.int .i64,CK.int .i64,CK.int .i64,CK.int .i64,CK.int .i64,CK.int .i64,CK.int .i64,CK.int .i64,CK.int .i64,CK.int .i64,CK.int .i64,CK.int .i64,CK.int .i64,CK.int .i64,CK.int .i64,CK.int .i64,CK.int .i64,CK.int .i64,CK.int .i64,CK.int .i64,CK.int .i64,CK.int .i64,CK.int .i64,CK.int .i64,CK.int .i64,CK.int .i64,CK.int .i64,CK.int .i64,CK.int .i64,CK.int .i64,CK.int .i64,CK.int .i64,CK.int .i64,CK.int .i64,CK.int .i64,CK.int .i64,CK.int .i64,CK.int .i64,CK.int .i64,CK.int .i64,CK.int .i64,CK.int .i64,CK.int .i64,CK.int .i64,CK.int .i64,CK.int .i64,CK.int .i64,CK.int .i64,CK.int .i64,CK.int .i64,CK.int .i64,CK.int .i64,CK.int .i64,CK.int .i64,CK.int .i64,CK.int .i64,CK.int .i64,CK.int .i64,CK.int .i64,CK.int .i64,CK.int .i64,CK.int .i64,CK.int .i64,CK.int .i64,CK.int .i64,CK.int .i64,CK.int .i64,CK.int .i64,CK.int .i64,CK.int .i64,CK.int .i64,CK.int .i64,CK.int .i64,CK.int .i64,CK.int .i64,CK.int .i64,CK.int .i64,CK.int .i64,CK.int .i64,CK.int .i64,CK.int .i64,CK.int .i64,CK.int .i64,CK.int .i64,CK.int .i64,CK.int .i64,CK.int .i64,CK.int .i64,CK.int .i64,CK.int .i64,CK.int .i64,CK.int .i64,CK.int .i64,CK.int .i64,CK.int .i64,CK.int .i64,CK.int .i64,CK.int .i64,CK.int .i64,CK.int .i64,CK.int .i64,CK.int .i64,CK.int .i64,CK.int .i64,CK.int .i64,CK.int .i64,CK.int .i64,CK.int .i64,CK.int .i64,CK.int .i64,CK.int .i64,CK.int .i64,CK.int .i64,CK.int .i64,CK.int .i64,CK.int .i64,CK.int .i64,CK.int .i64,CK.int .i64,CK.int .i64,CK.int .i64,CK.int .i64,CK.int .i64,CK.int .i64,CK.int .i64,CK.int .i64,CK.int .i64,CK.int .i64,CK.int .i64,CK.int .i64,CK.int .i64,CK.int .i64,CK.int .i64,CK.int .i64,CK.int .i64,CK.int .i64,CK.int .i64,CK.int .i64,CK.int .i64,CK.int .i64,CK.int .i64,CK.int .i64,CK.int .i64,CK.int .i64,CK.int .i64,CK.int .i64,CK.int .i64,CK.int .i64,CK.int .i64,CK.int .i64,CK.int .i64,CK.int .i64,CK.int .i64,CK.int .i64,CK.int .i64,CK.int .i64,CK.int .i64,CK.int .i64,CK.int .i64,CK.int .i64,CK.int .i64,CK.int .i64,CK.int .i64,CK.int .i64,CK.int .i64,CK.int .i64,CK.int .i64] (tv 31) (tl 1),.cells 11 179 [(tv 12)],.cells 9 3 [(.vint .i64 (tl 0)),(.vint .i64 (tl 1)),(.vint .i64 (tl 2))],.cells 7 3 [(.vint .i64 (tl 0)),(.vint .i64 (tl 1)),(.vint .i64 (tl 2))],.arr 3 3 [CK.int .i64] (tv 6) (tv 5),.cells 2 24 [(.vint .u8 (tl 1)),o8,o8,o8,o8,o8,o8,o8,o8,o8,o8,o8,o8,o8,o8,o8,o8,o8,o8,o8,o8,o8,o8,o8,o8,o8,o8,o8,o8,o8,o8,o8]] 40 (.cut 0 39 (sg 1000 [bg 1018 34,bv 1017 33,bv 1014 32,bv 1013 28,bg 1012 27,bt 1011 (r8 26),bg 1009 40,bt 1008 .dnil,bt 1004 (tl 0),bt 1003 .dnil,bt 1007 (tl 0),bt 1006 (tl 0),(1005,.nil),(1002,.nil),bt 1001 (s8 36),bg 1000 39,bv 1016 30,bg 1015 29,bg 1010 35]))))) .top)) (fr 39 19 (.hyp 0 39 (.need (.cmp .lss (tl 0) (.dlen (tv 56))) (.both (.viewL (.vcell (tv 56) (tl 0) 1) [CK.int .u8] [57] 58 (.pre 11 qmS (.both (fr 61 9 (.post 11 0 qmS 61 (.both (.both (.both (.br (.cmp .eql (tv 69) (tl 0))
 (.both (.both (.pre 12 qgx (.both (.fresh 70 (.post 12 0 qgx 70 (.both (.both (.br (tv 70)
 (.both (.both (.pre 13 qgx (.both (fr 71 4 (.post 13 0 qgx 71 (.both (.need (.cmp .leq (tl 0) (tv 72)) (.both (.both (.both (.need (.beq (.bl true) (.cmp .eql (tv 72) (tl 1))) (.ret 0 (sg 2 []))) .top) .top) .top)) .top))) .top)) .top) .top)
 (.both (.both (.both (.both (.both (.both (.stuck 7 0 0) .top) .top) .top) .top) .top) .top)) .top) .top))) .top)) .top) .top)
 (.both (.both (.both (.both (.both (.both (.both (.both (.both (.both (.stuck 7 0 0) .top) .top) .top) .top) .top) .top) .top) .top) .top) .top)) .top) .top) .top))) .top))) .top)))))))) .top))))) .top))))) .top))))) .top)) .top))) .top)) .top)))) .top)) .top))))))))) .top)) .top)))) .top)) .top))))) .top)) .top))))) .top))))) .top)))))) .top))))))) .top)))
theorem q26:qn Tryz.prog qhu [qfU,qmJ,qgG,qik,qdF,qhh,qg7,qeJ,qp7,idC,qjs,qjy,qg9,qit] [qx5] qu1:=qh Tryz.func31 Tryz.call31 (by kernel_rfl)
def d1:List Int:=1 :: List.replicate 31 0
theorem quv:qO d1 0 1 = true:=by decide +kernel
theorem qux:qO d1 0 2 = true:=by decide +kernel
theorem qu7:qO d1 1 2 = true:=by decide +kernel
theorem q5C:¬ qP d1 0 = qP d1 1:=by decide +kernel
theorem qyb:qat d1 [0,1,2] = [0,1,2]:=by
 symm
 refine qyV ⟨jfj _,?_⟩ (by decide)
 simp [quv,qux,qu7]
theorem qtw:qbb [0,1,2] = [0,1,2]:=by decide
theorem q7c:qk8 d1 3 = [0,1,2]:=by
 have h:qfG 3 = [0,1,2]:=by decide
 rw [qk8,h,qbi,qtw,qyb]; rfl
theorem qs0:qbi d1 [0,1,2] 3 = [0,1,2]:=by
 rw [qbi,qtw,qyb]; rfl
theorem q3P:qgs d1 1 [0,1,2] 3 false false = 1:=by simp [qgs,qs0]
theorem q5c:qgs d1 3 [0,1,2] 3 true false = 2:=by simp [qgs,qs0]
theorem q9k:qlO d1 2 2 [0,1] = true:=by
 have h:qbb [0,1] = [0,1]:=by decide
 rw [qlO,h]; simp [qux,qu7]
def cl1:Cl:=qcS (fun _ _=>none) d1 0 5
theorem q0g:qcd cl1 d1 1 16 [0,1,2] [] = true:=by
 rw [qcd,jc0]
 refine ⟨0,by simp,?_⟩
 have h:cl1 d1 ((0:Nat):Int) = some 5:=by simp [cl1,qcS]
 rw [h]
 simp [quv,qcl]
theorem q0b:qcd cl1 d1 1 17 [0,1,2] [] = false:=by
 rw [qcd,jey]
 intro i _
 by_cases hi:i = 0
 ·subst hi
  have h:cl1 d1 ((0:Nat):Int) = some 5:=by simp [cl1,qcS]
  rw [h]; simp [qcl]
 ·have h:cl1 d1 ((i:Nat):Int) = none:=by simp [cl1,qcS,hi]
  rw [h]; simp
theorem q7V:qd [[Value.int .u8 1,.int .u8 0,.int .u8 0,.int .u8 0,.int .u8 0,.int .u8 0,.int .u8 0,.int .u8 0,.int .u8 0,.int .u8 0,.int .u8 0,.int .u8 0,.int .u8 0,.int .u8 0,.int .u8 0,.int .u8 0,.int .u8 0,.int .u8 0,.int .u8 0,.int .u8 0,.int .u8 0,.int .u8 0,.int .u8 0,.int .u8 0,.int .u8 0,.int .u8 0,.int .u8 0,.int .u8 0,.int .u8 0,.int .u8 0,.int .u8 0,.int .u8 0]] 32 = d1:=by rfl
theorem q6J:qH d1:=by intro x hx; simp [d1] at hx; rcases hx with rfl | rfl <;> decide
theorem q5A {h:Hp}:qbM h none [] 0 0 [] none []:=by
 refine ⟨rfl,⟨rfl,?_,?_⟩,?_,by decide,.inl ⟨rfl,rfl,rfl,rfl,rfl⟩⟩
 ·intro j hj; exact absurd hj (Nat.not_lt_zero j)
 ·intro j hj; exact absurd hj (Nat.not_lt_zero j)
 ·intro x hx; cases hx
theorem q91:(qbX 1 1).2.2 = 1:=by kernel_rfl
theorem q47:q6 [[Value.int .u8 120]]:=by intro row hr; simp at hr; subst hr; decide
set_option pp.funBinderTypes false
set_option format.width 2000
set_option format.indent 1
set_option maxRecDepth 20000 in
set_option maxHeartbeats 4000000 in
theorem qtI (hd:∀ c ∈ ([qfU,qmJ,qgG,qik,qdF,qhh,qg7,qeJ,qp7,idC,qjs,qjy,qg9,qit]:List Ctr),c.ok Tryz.prog):qhu.ok Tryz.prog:=q26 hd fun Z hg hp=>by
 obtain ⟨hGr,hGd⟩:=hp
 simp (config:={ maxSteps:=4000000 }) [qu1,qhu,qx5,qfU,qmJ,q62,qgG,qik,qdF,qzK,qhh,q5u,qmI,qg7,qeJ,qp7,qjS,idC,qqg,qzb,qjs,qjy,q0Z,qg9,qit,qvq,qzF,qiH,qaF,q61,q6t,qki,qha,qq7,q06,qmo,qay,qbL,gaB,gOk,hGr,hGd,q7V,q6J]
 have e012:qk [[Value.int IntKind.i64 0],[Value.int IntKind.i64 1],[Value.int IntKind.i64 2]] = [0,1,2]:=rfl
 intro _ _ l0 _ n _ c _ D _ hl
 obtain ⟨hn,hD,hrow⟩:=hl
 rw [q7c] at hD
 have hDl:D.d.length = 3:=by have:=congrArg List.length hD; simpa [qk] using this
 refine ⟨by omega,by omega,fun _ _ _ x5 _ h5=>?_⟩
 rw [e012,q3P] at h5
 refine ⟨h5,fun _ _ _ x6 _ h6=>?_⟩
 rw [e012,q5c] at h6
 refine ⟨h6,fun _ _ _ v _ H0 _ hc0=>⟨by omega,by omega,⟨_,hc0⟩,fun H1 _ hc1=>?_⟩⟩
 have g0:qb D.d 0 0 = 0:=by rw [qby (d:=D.d) (by omega) (by omega),hD]; rfl
 have g1:qb D.d 1 0 = 1:=by rw [qby (d:=D.d) (by omega) (by omega),hD]; rfl
 have g2:qb D.d 2 0 = 2:=by rw [qby (d:=D.d) (by omega) (by omega),hD]; rfl
 have hcl:=hc1 _ hc0
 rw [g0] at hcl
 refine ⟨by omega,by omega,⟨⟨_,hcl⟩,by omega,by omega,hrow⟩,fun b1 _ H2 _ hb1=>?_⟩
 obtain ⟨hcl2,hb1⟩:=hb1 _ hcl
 rw [g1,hD] at hb1
 have hb1':b1.b = true:=hb1.trans q0g
 refine ⟨hb1',fun _=>⟨⟨⟨_,hcl2⟩,by omega,by omega,hrow⟩,fun b2 _ H3 _ hb2=>?_⟩⟩
 obtain ⟨hcl3,hb2⟩:=hb2 _ hcl2
 rw [g1,hD] at hb2
 have hb2':b2.b = false:=hb2.trans q0b
 refine ⟨hb2',fun _=>⟨by omega,by omega,fun hcap=>⟨by omega,by omega,⟨by omega,hrow⟩,fun b3 _ hb3=>?_⟩⟩⟩
 rw [g2,hD] at hb3
 have hb3':b3.b = true:=hb3.trans q9k
 refine ⟨hb3',fun _ s0 _ hs0 s1 _ hs1=>?_⟩
 rw [hs0,hs1]
 refine ⟨q5C,fun _ _ _ fl _ hfl _ _ _ _=>⟨⟨⟨.inl hfl,q47,fun _=>q91⟩,by decide⟩,?_⟩⟩
 intro o _ _ _ f _ _ _ _ _ _ _ Ds _ P _ Hp _ _ _ hPl hE ho hDs hdg _ _
 have hDl1:Ds.d.length = 1:=by
  have:=congrArg List.length hdg
  rw [qzZ] at this; simpa [dgs] using this
 have hoM:qH (qd o.d 32):=by rw [ho]; exact qd7 _
 have hm1:qJ 1 1 1 1 1 = true:=by decide
 refine ⟨⟨by omega,hoM,hDs⟩,fun ID _ e _ hid gn _=>⟨fun _ _ _ _ _=>?_,?_⟩⟩
 ·obtain ⟨q1,q2⟩:=q8o hE
  refine ⟨q5A,hoM,hDs,hDl1,hPl,q1,(q2 0 (by decide)).1,?_,?_⟩
  ·exact q3E (data:=[120]) hm1 (by intro x hx; simp at hx; subst hx; exact ⟨by decide,by decide⟩) rfl hdg (by decide) (by decide) (q2 0 (by decide)).2
  ·rcases hid with ⟨h,_⟩ | ⟨_,_,h⟩
   ·exact absurd h (by decide)
   ·exact h
 intro ar _ id _ mr _ mp _ mc _ pr _ pl _ pq _ pd _ gh _ bm _ om _ dr _ dq _ dd _ br _ bq _ bp _ bh _ hga hom hdd hdl hbl hpk hpi hck hid2
 obtain ⟨v0,B0,eP,hv,hRd,hB,hpd⟩:=q90 hpk (j:=0) (by decide)
 obtain ⟨_,_,_,hlen,hsum⟩:=q2u hck
 have hB1:B0.length = 1:=by rw [hpd,bI_len] at hlen; rw [show qea 1 1 = 1 from rfl] at hlen; omega
 have hci:qb bp.d 0 0 = 0:=hpi
 have hidM:qH (qd id.d 32):=by rw [hid2]; exact qd7 _
 have hck':qce 1 1 1 1 1 (dgs dd.d) 0 (bI B0) = 0:=by rw [<- hpd]; exact hck
 have hddl:(dgs dd.d).length = 1:=by simpa [dgs] using hdl
 have hoff:qfN (qd id.d 32) none [] { k:=1,n:=1,t:=1,s:=1,o:=qd om.d 32,D:=dgs dd.d } 0 (bI B0) = 0:=by
  have hok:ManV.ok { k:=1,n:=1,t:=1,s:=1,o:=qd om.d 32,D:=dgs dd.d } = true:=by simp only [ManV.ok,hddl]; decide
  have hbt:sha (ManV.bytes { k:=1,n:=1,t:=1,s:=1,o:=qd om.d 32,D:=dgs dd.d }) = qd id.d 32:=hid2.symm
  rw [qfN,jaf (by rw [hok]; decide),jaf (fun h=>h hbt)]
  simp [hddl,hck',qgF]
 refine ⟨by omega,B0,by rw [show (0:Int) = ((0:Nat):Int) from rfl,hv]; exact hRd,?_⟩
 rw [hci]
 intro vr _ vc _ _ hcap
 refine ⟨⟨⟨_,_,hga⟩,hidM,⟨hom,by omega,hdd⟩,by decide,⟨by omega,by omega,hB⟩,by omega⟩,?_⟩
 intro _ _ _ _ _ _ _ _ _ _ _ _ _ _ _ _ oe _ hofr
 obtain ⟨he0,hga2⟩:=hofr _ _ hga
 rw [hoff] at he0
 rw [jah he0,jah he0] at hga2
 refine ⟨fun _=>⟨⟨_,_,hga2⟩,fun rb _ hrb=>?_⟩,he0⟩
 have hr1:=hrb _ _ hga2
 have hr2:rb.b = true:=by rw [hr1]; rfl
 refine ⟨fun _=>⟨⟨_,_,hga2⟩,fun _ _ il _ _ _ di _ hi=>?_⟩,hr2⟩
 obtain ⟨hi1,hi2,_⟩:=hi _ _ hga2
 have hdi:di.d.length = 1:=by
  have:=congrArg List.length hi2
  rw [qb2] at this; simpa using this
 exact ⟨by omega,by omega,trivial⟩
theorem qpg:qdo.ok Tryz.prog:=q2f q7q
theorem q3r:qhu.ok Tryz.prog:=qtI (by simp [qyW qpg,q79 qpg,qu0,qyv,qp2,q68,qvX,qw5,q57,q6a,q42,q4Q,qv6,qxC])
theorem qaH {h:Hp} {it:Value} {b c c':Nat} {mt:MT} {seen:List Nat} {m:List ME} (hi:qlF h it b c seen) (hM:qZ h b mt m c'):qbo h it = (m.filter fun y=>!(seen.contains y.born)).length:=by
 obtain ⟨bi,hit,hb⟩:=hi
 subst hit
 unfold qbo
 simp only [hb,hM.1,MT.obj,jcc,List.contains_toArray]
 rw [List.filter_map,ja0]
 rfl
theorem q4N {m:List ME} {i i':Int}:qbk (qcm m [i]) i' = if i' = i then none else qbk m i':=by
 unfold qbk qcm
 rw [List.find?_filter]
 by_cases hi:i' = i
 ·subst hi
  rw [jah rfl]
  have:m.find? (fun a=>decide (decide (a.k ≠ [i']) = true/\(a.k == [i']) = true)) = none:=by
   rw [jdr]; intro x _ h; simp at h
  rw [this]; rfl
 ·rw [jaf hi]
  have:(fun a:ME=>decide (decide (a.k ≠ [i]) = true/\(a.k == [i']) = true)) = fun a=>a.k == [i']:=by
   funext a
   by_cases h:a.k = [i']
   ·simp [h,hi]
   ·simp [h]
  rw [this]
theorem qeH {l:List ME} {k:List Int} {x:ME}:x ∈ qcm l k↔x ∈ l/\x.k ≠ k:=by
 unfold qcm; rw [jb4]; simp
theorem quy {mt:MT} {l:List ME} {c:Nat} (h:MWf mt l c) {x y:ME} (hx:x ∈ l) (hy:y ∈ l) (hk:x.k = y.k):x = y:=by
 obtain ⟨i,hi⟩:=ja8 hx
 obtain ⟨j,hj⟩:=ja8 hy
 rw [qfY h hi hj hk,hj] at hi
 exact (jaz hi).symm
theorem qqG {mt:MT} {l:List ME} {c:Nat} (h:MWf mt l c) {x y:ME} (hx:x ∈ l) (hy:y ∈ l) (hb:x.born = y.born):x = y:=by
 have hp:=jdy.1 h.2
 obtain ⟨i,hi,e1⟩:=jdl hx
 obtain ⟨j,hj,e2⟩:=jdl hy
 rcases jea i j with hlt | heq | hlt
 ·have:=(hp i j hi hj hlt).1; rw [e1,e2] at this; omega
 ·subst heq; rw [<- e1,<- e2]
 ·have:=(hp j i hj hi hlt).1; rw [e1,e2] at this; omega
theorem q3g {h:Hp} {b b' c c':Nat} {l m:List ME} {e:ME} {cl:Cl} {i:Int} (hc:qj h (.map (some b)) cl) (hm:qZ h b mtO l c) (he:e ∈ l) (hv:e.v = [.map (some b')]) (hI:qZ h b' mtI m c') :
  qj (Hp.upd h b' (mtI.obj (qcm m [i],c'))) (.map (some b)) (fun o' i'=>if o' = e.k/\i' = i then none else cl o' i'):=by
 obtain ⟨b0,l0,c0,e0,hm0,hi,hd,hn,hr⟩:=hc
 simp only [Value.map.injEq,jaa] at e0
 subst e0
 obtain ⟨rfl,rfl⟩:=qks hm hm0
 obtain ⟨b2,m2,c2,e1,e2,e3,e4⟩:=hi e he
 rw [hv] at e1
 simp only [jb2,Value.map.injEq,jaa,and_true] at e1
 subst e1
 obtain ⟨rfl,rfl⟩:=qtv hI e3
 refine ⟨b,l,c,rfl,qY (Ne.symm e2) hm,fun y hy=>?_,hd,fun o' i' ho=>?_,fun o' i' t' ht=>?_⟩
 ·by_cases hk:y.k = e.k
  ·obtain rfl:=quy hm.2 hy he hk
   refine ⟨b',qcm m [i],c',hv,e2,⟨qbh,qmA hI.2⟩,fun i'=>?_⟩
   show (if y.k = y.k/\i' = i then none else cl y.k i') = _
   rw [q4N,e4]
   by_cases hii:i' = i <;> simp [hii]
  ·obtain ⟨b3,m3,c3,f1,f2,f3,f4⟩:=hi y hy
   have hne:b3 ≠ b':=fun h3=>hd y hy e he hk (by rw [f1,hv,h3])
   exact ⟨b3,m3,c3,f1,f2,qY hne f3,fun i'=>by simp only [hk,false_and,ja7,f4]⟩
 ·by_cases hk:o' = e.k/\i' = i
  ·simp only [jah hk]
  ·simp only [jaf hk,hn o' i' ho]
 ·by_cases hk:o' = e.k/\i' = i
  ·simp only [jah hk] at ht; cases ht
  ·simp only [jaf hk] at ht; exact hr _ _ _ ht
theorem q33 {h:Hp} {b c:Nat} {l:List ME} {kd:List Int} {cl:Cl} (hc:qj h (.map (some b)) cl) (hm:qZ h b mtO l c) (hno:∀ i,cl kd i = none):qj (Hp.upd h b (mtO.obj (qcm l kd,c))) (.map (some b)) cl:=by
 obtain ⟨b0,l0,c0,e0,hm0,hi,hd,hn,hr⟩:=hc
 simp only [Value.map.injEq,jaa] at e0
 subst e0
 obtain ⟨rfl,rfl⟩:=qks hm hm0
 refine ⟨b,qcm l kd,c,rfl,⟨qbh,qmA hm.2⟩,fun y hy=>?_,fun x hx y hy=>hd x (qeH.1 hx).1 y (qeH.1 hy).1,fun o i ho=>?_,hr⟩
 ·obtain ⟨b3,m3,c3,f1,f2,f3,f4⟩:=hi y (qeH.1 hy).1
  exact ⟨b3,m3,c3,f1,f2,qY f2 f3,f4⟩
 ·by_cases hk:o = kd
  ·rw [hk]; exact hno i
  ·exact hn o i fun x hx hxo=>ho x (qeH.2 ⟨hx,fun h=>hk (hxo.symm.trans h)⟩) hxo
theorem qoj {h:Hp} {it:Value} {b c x c':Nat} {seen:List Nat} {mt:MT} {m:List ME} {X:Obj} (hi:qlF h it b c seen) (hm:qZ h x mt m c'):qlF (Hp.upd h x X) it b c seen:=by
 obtain ⟨bi,e,hb⟩:=hi
 have hne:bi ≠ x:=fun he=>by
  rw [he] at hb
  have:=hm.1.symm.trans hb
  simp [MT.obj] at this
 exact ⟨bi,e,by rw [qjm hne]; exact hb⟩
theorem qf8 {h:Hp} {b bi c:Nat} {mo:Option Nat} {since st:Nat} {seen:Array Nat} {mt:MT} {m:List ME} (hb:h bi = some (.mapIter mo since seen st)) (hm:qZ h b mt m c):b ≠ bi:=fun he=>by
 rw [he] at hm
 have:=hm.1.symm.trans hb
 simp [MT.obj] at this
theorem qnv {cl:Cl} {clock:Int} {o:List Int} {i:Int} (h:cl o i = none):qdf cl clock o i = none:=by unfold qdf; rw [h]
theorem q6T {h:Hp} {b c:Nat} {l:List ME} {cl:Cl} (hc:qj h (.map (some b)) cl) (hm:qZ h b mtO l c) {o:List Int} (ho:∀ x ∈ l,x.k ≠ o) (i:Int):cl o i = none:=by
 obtain ⟨b0,l0,c0,e0,hm0,hi,hd,hn,hr⟩:=hc
 simp only [Value.map.injEq,jaa] at e0
 subst e0
 obtain ⟨rfl,rfl⟩:=qks hm hm0
 exact hn o i ho
theorem qj8 {h:Hp} {b b' c c':Nat} {l m:List ME} {e:ME} {cl:Cl} (hc:qj h (.map (some b)) cl) (hm:qZ h b mtO l c) (he:e ∈ l) (hv:e.v = [.map (some b')]) (hI:qZ h b' mtI m c') (i:Int):cl e.k i = qbk m i:=by
 obtain ⟨b0,l0,c0,e0,hm0,hi,hd,hn,hr⟩:=hc
 simp only [Value.map.injEq,jaa] at e0
 subst e0
 obtain ⟨rfl,rfl⟩:=qks hm hm0
 obtain ⟨b2,m2,c2,e1,e2,e3,e4⟩:=hi e he
 rw [hv] at e1
 simp only [jb2,Value.map.injEq,jaa,and_true] at e1
 subst e1
 obtain ⟨rfl,rfl⟩:=qtv hI e3
 exact e4 i
theorem q4m {h:Hp} {b c:Nat} {l:List ME} {e:ME} {cl:Cl} (hc:qj h (.map (some b)) cl) (hm:qZ h b mtO l c) (he:e ∈ l):∃ b' m c',e.v = [.map (some b')]/\qZ h b' mtI m c':=by
 obtain ⟨b0,l0,c0,e0,hm0,hi,hd,hn,hr⟩:=hc
 simp only [Value.map.injEq,jaa] at e0
 subst e0
 obtain ⟨rfl,rfl⟩:=qks hm hm0
 obtain ⟨b2,m2,c2,e1,e2,e3,e4⟩:=hi e he
 exact ⟨b2,m2,c2,e1,e3⟩
section
variable {h0 H:Hp} {v it mv it2:Value} {kd:List Int} {clock:Int} {cl cl1:Cl} {b c b' c':Nat} {l m:List ME} {seen seen2:List Nat} {e:ME}
theorem q4Z {bi:Nat} (hv:v = .map (some b)) (hm:qZ h0 b mtO l c) (hle:Hp.le h0 H) (hit:it = .pointer (some ⟨bi,0,none⟩)) (hb:H bi = some (.mapIter (some b) c #[] c)):swO h0 H v it clock:=fun cl hc=>by
 subst hv
 refine ⟨b,l,c,[],cl,rfl,⟨bi,hit,hb⟩,qct hm hle,qht hc hle,fun o ho i=>?_,fun _ _ _ _=>rfl⟩
 have hn:=q6T hc hm (o:=o) (fun x hx hk=>by cases ho x hx hk) i
 rw [qnv hn,hn]
theorem q8g (h:SwO cl H v it clock b l c seen cl1) (hall:∀ e ∈ l,e.born < c->e.born ∈ seen):qj H v (qdf cl clock):=by
 have:cl1 = qdf cl clock:=by
  funext o i
  exact h.h1 o (fun x hx _=>hall x hx (h.hm.2.1 x hx).2.2) i
 rw [<- this]; exact h.hc
theorem q40 {bj:Nat} {H2:Hp} (h:SwO cl H v it clock b l c seen cl1) (he:e ∈ l) (hn:e.born ∉ seen) (hev:e.v = [.map (some b')]) (hmv:mv = .map (some b')) (hm2:qZ H b' mtI m c') {bi:Nat} (hit:it = .pointer (some ⟨bi,0,none⟩))
  (hle:Hp.le (Hp.upd H bi (.mapIter (some b) c (seen ++ [e.born]).toArray c)) H2) (hit2:it2 = .pointer (some ⟨bj,0,none⟩)) (hbj:H2 bj = some (.mapIter (some b') c' #[] c')) (hbb:bi ≠ bj):SwI cl H2 v it mv it2 e.k clock b l c (seen ++ [e.born]) cl1 e b' m c' []:=by
 obtain ⟨hv,⟨bi',hi,hb⟩,hm,hc,h1,h2⟩:=h
 rw [hit] at hi
 simp only [Value.pointer.injEq,jaa,Addr.mk.injEq,and_true] at hi
 subst hi
 subst hv
 have hmu:=qct (qY (X:=.mapIter (some b) c (seen ++ [e.born]).toArray c) (qf8 hb hm) hm) hle
 have hmu2:=qct (qY (X:=.mapIter (some b) c (seen ++ [e.born]).toArray c) (qf8 hb hm2) hm2) hle
 refine ⟨rfl,⟨bi,hit,hle _ _ qbh⟩,hmu,qht (qeu hc hb) hle,he,rfl,by simp,hev,hmv,⟨bj,hit2,hbj⟩,hmu2,fun hh=>?_,fun o ho hx i=>h1 o (fun x hxl hxo=>?_) i,fun x hx hnx i=>h2 x hx (fun hs=>hnx (jbn _ hs)) i,fun i hy=>?_,fun y hy _ i _=>h2 e he hn i⟩
 ·rw [hit,hit2] at hh
  simp only [Value.pointer.injEq,jaa,Addr.mk.injEq,and_true] at hh
  exact hbb hh
 ·rcases jas.1 (hx x hxl hxo) with hs | hs
  ·exact hs
  ·rw [jaj] at hs
   rw [qqG hm.2 hxl he hs] at hxo
   exact absurd hxo.symm ho
 ·have hg:=qj8 hc hm he hev hm2 i
  have hgn:qbk m i = none:=by
   cases hq:qbk m i with
   | none=>rfl
   | some t =>
    obtain ⟨y,hym,hyk,_⟩:=ql6 hq
    cases hy y hym hyk
  rw [hgn] at hg
  rw [hg,qnv]
  rw [<- h2 e he hn i]; exact hg
theorem q67 {y:ME} {z:Int} {bj:Nat} (h:SwI cl H v it mv it2 kd clock b l c seen cl1 e b' m c' seen2) (hy:y ∈ m) (hn:y.born ∉ seen2) (hz:y.k = [z]) (hcur:qcl (qS (y.v.headD .nilFunc)) clock = true) (hit2:it2 = .pointer (some ⟨bj,0,none⟩)) :
  SwI cl (Hp.upd H bj (.mapIter (some b') c' (seen2 ++ [y.born]).toArray c')) v it mv it2 kd clock b l c seen cl1 e b' m c' (seen2 ++ [y.born]):=by
 obtain ⟨hv,⟨bi,hi,hb⟩,hm,hc,he,hk,hs,hev,hmv,⟨bj',hi2,hb2⟩,hm2,hne,h1,h2,h3,h4⟩:=h
 rw [hit2] at hi2
 simp only [Value.pointer.injEq,jaa,Addr.mk.injEq,and_true] at hi2
 subst hi2
 subst hv
 have hbb:bi ≠ bj:=fun hh=>hne (by rw [hi,hit2,hh])
 refine ⟨rfl,⟨bi,hi,by rw [qjm hbb]; exact hb⟩,qY (qf8 hb2 hm) hm,qeu hc hb2,he,hk,hs,hev,hmv,⟨bj,hit2,qbh⟩,qY (qf8 hb2 hm2) hm2,hne,h1,h2,fun i hi'=>?_,fun y' hy' hn' i hk'=>h4 y' hy' (fun hs'=>hn' (jbn _ hs')) i hk'⟩
 by_cases hiz:i = z
 ·subst hiz
  have e4:=h4 y hy hn i hz
  have hg:=qj8 hc hm he hev hm2 i
  rw [hk,qe6 hm2.2 hy hz] at hg
  rw [hg] at e4
  unfold qdf
  rw [<- e4,hg]
  simp only [hcur,jbw]
 ·refine h3 i fun y' hy' hk'=>?_
  rcases jas.1 (hi' y' hy' hk') with hs' | hs'
  ·exact hs'
  ·rw [jaj] at hs'
   rw [qqG hm2.2 hy' hy hs',hz] at hk'
   exact absurd (show z = i by simpa using hk').symm hiz
theorem q7o {y:ME} {z:Int} {bj:Nat} (h:SwI cl H v it mv it2 kd clock b l c seen cl1 e b' m c' seen2) (hy:y ∈ m) (hn:y.born ∉ seen2) (hz:y.k = [z]) (hcur:qcl (qS (y.v.headD .nilFunc)) clock = false) (hit2:it2 = .pointer (some ⟨bj,0,none⟩)) :
  SwI cl (Hp.upd (Hp.upd H bj (.mapIter (some b') c' (seen2 ++ [y.born]).toArray c')) b' (mtI.obj (qcm m [z],c'))) v it mv it2 kd clock b l c seen (fun o' i'=>if o' = kd/\i' = z then none else cl1 o' i') e b' (qcm m [z]) c' (seen2 ++ [y.born]):=by
 obtain ⟨hv,⟨bi,hi,hb⟩,hm,hc,he,hk,hs,hev,hmv,⟨bj',hi2,hb2⟩,hm2,hne,h1,h2,h3,h4⟩:=h
 rw [hit2] at hi2
 simp only [Value.pointer.injEq,jaa,Addr.mk.injEq,and_true] at hi2
 subst hi2
 subst hv
 have hbb:bi ≠ bj:=fun hh=>hne (by rw [hi,hit2,hh])
 have hmu:=qY (X:=.mapIter (some b') c' (seen2 ++ [y.born]).toArray c') (qf8 hb2 hm) hm
 have hmu2:=qY (X:=.mapIter (some b') c' (seen2 ++ [y.born]).toArray c') (qf8 hb2 hm2) hm2
 have hcu:=qeu (X:=.mapIter (some b') c' (seen2 ++ [y.born]).toArray c') hc hb2
 have hiu:qlF (Hp.upd H bj (.mapIter (some b') c' (seen2 ++ [y.born]).toArray c')) it b c seen:=⟨bi,hi,by rw [qjm hbb]; exact hb⟩
 have hiu2:qlF (Hp.upd H bj (.mapIter (some b') c' (seen2 ++ [y.born]).toArray c')) it2 b' c' (seen2 ++ [y.born]):=⟨bj,hit2,qbh⟩
 have hd:=q3g (i:=z) hcu hmu he hev hmu2
 rw [hk] at hd
 have hbne:b ≠ b':=fun hh=>by
  obtain ⟨b0,l0,c0,e0,hm0,hi0,_⟩:=hc
  simp only [Value.map.injEq,jaa] at e0
  subst e0
  obtain ⟨rfl,rfl⟩:=qks hm hm0
  obtain ⟨b3,m3,c3,f1,f2,_⟩:=hi0 e he
  rw [hev] at f1
  simp only [jb2,Value.map.injEq,jaa,and_true] at f1
  exact f2 (by rw [<- f1,hh])
 refine ⟨rfl,qoj hiu hmu2,qY hbne hmu,hd,he,hk,hs,hev,hmv,qoj hiu2 hmu2,⟨qbh,qmA hm2.2⟩,hne,fun o ho hx i=>?_,fun x hx hnx i=>?_,fun i hi'=>?_,fun y' hy' hn' i hk'=>?_⟩
 ·simp only [ho,false_and,ja7]; exact h1 o ho hx i
 ·have hxk:x.k ≠ kd:=fun hh=>hnx (by rw [quy hm.2 hx he (hh.trans hk.symm)]; exact hs)
  simp only [hxk,false_and,ja7]; exact h2 x hx hnx i
 ·by_cases hiz:i = z
  ·subst hiz
   have e4:=h4 y hy hn i hz
   have hg:=qj8 hc hm he hev hm2 i
   rw [hk,qe6 hm2.2 hy hz] at hg
   rw [hg] at e4
   unfold qdf
   rw [<- e4]
   simp only [and_self,jbw,hcur,jaq,ja7]
  ·simp only [hiz,and_false,ja7]
   refine h3 i fun y' hy' hk'=>?_
   have hym:y' ∈ qcm m [z]:=qeH.2 ⟨hy',fun hh=>hiz (by rw [hk'] at hh; simpa using hh)⟩
   rcases jas.1 (hi' y' hym hk') with hs' | hs'
   ·exact hs'
   ·rw [jaj] at hs'
    rw [qqG hm2.2 hy' hy hs',hz] at hk'
    exact absurd (show z = i by simpa using hk').symm hiz
 ·have hym:=qeH.1 hy'
  have hiz:i ≠ z:=fun hh=>hym.2 (by rw [hk',hh])
  simp only [hiz,and_false,ja7]
  exact h4 y' hym.1 (fun hs'=>hn' (jbn _ hs')) i hk'
theorem qyf (h:SwI cl H v it mv it2 kd clock b l c seen cl1 e b' m c' seen2) (hall:∀ y ∈ m,y.born < c'->y.born ∈ seen2):SwO cl H v it clock b l c seen cl1 :=
 ⟨h.hv,h.hi,h.hm,h.hc,fun o ho i=>by
  by_cases hk:o = kd
  ·rw [hk]; exact h.h3 i fun y hy _=>hall y hy (h.hm2.2.1 y hy).2.2
  ·exact h.h1 o hk ho i,h.h2⟩
theorem q9j (h:SwI cl H v it mv it2 kd clock b l c seen cl1 e b' m c' seen2) (hall:∀ y ∈ m,y.born < c'->y.born ∈ seen2) (h0:m = []):SwO cl (Hp.upd H b (mtO.obj (qcm l kd,c))) v it clock b (qcm l kd) c seen cl1:=by
 have hD:=qyf h hall
 have hv:=h.hv
 subst hv
 have hno:∀ i,cl1 kd i = none:=fun i=>by
  have:=qj8 h.hc h.hm h.he h.hev h.hm2 i
  rw [h.hk,h0] at this
  exact this
 refine ⟨rfl,qoj h.hi h.hm,⟨qbh,qmA h.hm.2⟩,q33 h.hc h.hm hno,fun o ho i=>hD.h1 o (fun x hx hxo=>?_) i,fun x hx hnx i=>h.h2 x (qeH.1 hx).1 hnx i⟩
 by_cases hk:x.k = kd
 ·rw [quy h.hm.2 hx h.he (hk.trans h.hk.symm)]; exact h.hs
 ·exact ho x (qeH.2 ⟨hx,hk⟩) hxo
theorem qxO (hc:qj h0 v cl) (h:SwO cl H v it clock b l c seen cl1):swO h0 H v it clock:=fun cl' h'=>by
 rw [qbU hc h']; exact ⟨b,l,c,seen,cl1,h⟩
theorem qnH (hc:qj h0 v cl) (h:SwI cl H v it mv it2 kd clock b l c seen cl1 e b' m c' seen2):swI h0 H v it mv it2 kd clock:=fun cl' h'=>by
 rw [qbU hc h']; exact ⟨b,l,c,seen,cl1,e,b',m,c',seen2,h⟩
end
theorem qwC {mt:MT} {m:List ME} {c:Nat} (hM:MWf mt m c) {e:ME} (he:e ∈ m) {seen:List Nat} (hn:e.born ∉ seen):(m.filter fun x=>(seen ++ [e.born]).contains x.born).Perm ((m.filter fun x=>seen.contains x.born) ++ [e]):=by
 obtain ⟨s,t,rfl⟩:=List.append_of_mem he
 have hs:∀ x ∈ s ++ t,x.born ≠ e.born:=fun x hx hb=>by
  have hp:=hM.2
  rw [List.pairwise_append] at hp
  obtain ⟨_,p2,p3⟩:=hp
  rcases jas.1 hx with h | h
  ·have:=(p3 x h e (jae ..)).1; omega
  ·have:=((jfn.1 p2).1 x h).1; omega
 have hf:∀ q:List ME,(∀ x ∈ q,x.born ≠ e.born)->(q.filter fun x=>(seen ++ [e.born]).contains x.born) = q.filter fun x=>seen.contains x.born:=fun q hq=>jfs fun x hx=>by
  have:=hq x hx
  by_cases h:x.born ∈ seen <;> simp [h,this]
 rw [jcz,jcz,List.filter_cons_of_pos (by simp),List.filter_cons_of_neg (by simpa using hn),hf s fun x hx=>hs x (jbn _ hx),hf t fun x hx=>hs x (jck _ hx),jbu]
 exact List.Perm.append_left _ (List.perm_append_singleton e _).symm
theorem qwn {l l':List Int} (hp:l.Perm l') (h1:l.Pairwise (· <= ·)) (h2:l'.Pairwise (· <= ·)):l = l':=hp.eq_of_pairwise (fun a b _ _ hab hba=>Int.le_antisymm hab hba) h1 h2
theorem qfr {l:List Int}:(qcx l).Perm l:=List.mergeSort_perm l _
theorem q5R {l:List Int}:(qcx l).Pairwise (· <= ·):=by
 have:=List.pairwise_mergeSort (le:=fun x y:Int=>decide (x <= y)) (fun a b c h1 h2=>by simp only [jbc] at *; omega) (fun a b=>by simp only [jcw,jbc]; omega) l
 exact this.imp fun h=>by simpa using h
theorem q4C:((List.range 16).map Int.ofNat).Pairwise (· <= ·):=by decide
theorem q4E:((List.range 16).map Int.ofNat).Nodup:=by decide
theorem qhF {cl:Cl} {o:List Int} {m:List ME} {c:Nat} {L:List Int} (hM:MWf mtI m c) (he:∀ i,cl o i = qbk m i) (hr:∀ o i t,cl o i = some t->0 <= i/\i < 16/\0 <= t/\t < 18446744073709551616) (hL:L.Perm (m.map fun e=>e.k.headD 0)):qcx L = qcX cl o:=by
 refine qwn (qfr.trans (hL.trans ?_)) q5R (q4C.filter _)
 refine (List.perm_ext_iff_of_nodup ?_ (q4E.filter _)).2 fun z=>?_
 ·have hp:=hM.2
  refine jfr.2 (List.Pairwise.imp_of_mem (fun {a b} ha hb hab hh=>hab.2 ?_) hp)
  obtain ⟨x,hx⟩:=qeY hM ha
  obtain ⟨y,hy⟩:=qeY hM hb
  rw [hx,hy] at hh ⊢
  simpa using hh
 ·rw [jbb,jb4]
  constructor
  ·rintro ⟨e,hem,rfl⟩
   obtain ⟨z,hz⟩:=qeY hM hem
   have hg:=(he z).trans (qe6 hM hem hz)
   obtain ⟨z0,z1,_⟩:=hr _ _ _ hg
   rw [hz]
   refine ⟨jbb.2 ⟨z.toNat,jb5.2 (by omega),?_⟩,?_⟩
   ·show ((z.toNat:Nat):Int) = z
    omega
   ·show (cl o z).isSome = true
    rw [hg]; rfl
  ·rintro ⟨_,hs⟩
   obtain ⟨t,ht⟩:=jet.1 hs
   obtain ⟨e,hem,hk,_⟩:=ql6 ((he z).symm.trans ht)
   exact ⟨e,hem,by rw [hk]; rfl⟩
section
variable {h0 H:Hp} {v it:Value} {o L:List Int} {cl:Cl}
theorem qtf {bi:Nat} (hc:qj h0 v cl) (hno:∀ i,cl o i = none) (hle:Hp.le h0 H) (hit:it = .pointer (some ⟨bi,0,none⟩)) (hb:H bi = some (.mapIter none 0 #[] 0)):ctI h0 H v it o []:=fun cl' h'=>by
 rw [qbU hc h']
 exact ⟨qht hc hle,[],[],⟨bi,none,0,0,hit,hb,.inl ⟨rfl,rfl⟩⟩,fun i=>by rw [hno]; rfl,fun _=>rfl,jfj _⟩
theorem qsO {bi b c:Nat} {m:List ME} (hc:qj h0 v cl) (hm:qZ h0 b mtI m c) (he:∀ i,cl o i = qbk m i) (hle:Hp.le h0 H) (hit:it = .pointer (some ⟨bi,0,none⟩)) (hb:H bi = some (.mapIter (some b) c #[] c)):ctI h0 H v it o []:=fun cl' h'=>by
 rw [qbU hc h']
 have hmH:=qct hm hle
 refine ⟨qht hc hle,m,[],⟨bi,some b,c,c,hit,hb,.inr ⟨b,c,rfl,(qf8 hb hmH).symm,hmH,ja1 _,.inl rfl,fun n hn=>by cases hn⟩⟩,he,fun _=>rfl,?_⟩
 have:(m.filter fun e=>([]:List Nat).contains e.born) = []:=by simp
 rw [this]; exact jfj _
theorem q74 {bi b since st c:Nat} {m:List ME} {seen:List Nat} {e:ME} {L':List Int} (hc:qj h0 v cl) (hcH:qj H v cl) (hit:it = .pointer (some ⟨bi,0,none⟩)) (hb:H bi = some (.mapIter (some b) since seen.toArray st)) (hm:qZ H b mtI m c) (hcs:c <= since) (hseen:∀ n ∈ seen,∃ e ∈ m,e.born = n)
  (he:∀ i,cl o i = qbk m i) (hem:e ∈ m) (hn:e.born ∉ seen) (hx:L.Perm ((m.filter fun e=>seen.contains e.born).map fun e=>e.k.headD 0)) (hy:L' = L ++ [e.k.headD 0]):ctI h0 (Hp.upd H bi (.mapIter (some b) since (seen ++ [e.born]).toArray c)) v it o L':=fun cl' h'=>by
 rw [qbU hc h']
 have hne:=(qf8 hb hm).symm
 refine ⟨qeu hcH hb,m,seen ++ [e.born],⟨bi,some b,since,c,hit,qbh,.inr ⟨b,c,rfl,hne,qY (Ne.symm hne) hm,hcs,.inr (.inr ⟨e,hem,(hm.2.1 e hem).2.2⟩),fun n hn=>?_⟩⟩,he,fun h=>(by rw [h] at hem; cases hem),?_⟩
 ·rcases jas.1 hn with h | h
  ·exact hseen n h
  ·rw [jaj] at h; exact ⟨e,hem,h.symm⟩
 ·rw [hy]
  refine (List.Perm.append_right _ hx).trans ?_
  have:=((qwC hm.2 hem hn).map fun e=>e.k.headD 0).symm
  rwa [jci] at this
end
end Go.Proofs
namespace Go.Proofs
open Go.Shelf
def qt7:Go.Shelf.Ren:=⟨fun | 189=>103 | 125=>120 | 257=>130 | 128=>148 | 129=>149 | 294=>155 | 295=>156 | 296=>157 | 297=>158 | 298=>159 | 299=>160 | 216=>161 | 300=>162 | 301=>163 | 328=>180 | 329=>173 | 330=>174 | 331=>181 | 332=>182 | 215=>183 | 343=>189 | n=>n,fun | 28=>29 | 3=>3 | 46=>187 | 0=>0 | 51=>131 | 53=>113 | 4=>4 | 183=>234 | 182=>233 | 131=>238 | 5=>5 | 9=>9 | 218=>258 | 222=>262 | 228=>271 | 229=>272 | n=>n,fun | n=>n⟩
theorem qvg:Lays.n189 Tryz.prog qt7:={
 mixed:=by kernel_rfl
 f125:=Tryz.func120.trans (congrArg some (by kernel_rfl))
 f128:=Tryz.func148.trans (congrArg some (by kernel_rfl))
 f129:=Tryz.func149.trans (congrArg some (by kernel_rfl))
 f189:=Tryz.func103.trans (congrArg some (by kernel_rfl))
 f215:=Tryz.func183.trans (congrArg some (by kernel_rfl))
 f216:=Tryz.func161.trans (congrArg some (by kernel_rfl))
 f257:=Tryz.func130.trans (congrArg some (by kernel_rfl))
 f294:=Tryz.func155.trans (congrArg some (by kernel_rfl))
 f295:=Tryz.func156.trans (congrArg some (by kernel_rfl))
 f296:=Tryz.func157.trans (congrArg some (by kernel_rfl))
 f297:=Tryz.func158.trans (congrArg some (by kernel_rfl))
 f298:=Tryz.func159.trans (congrArg some (by kernel_rfl))
 f299:=Tryz.func160.trans (congrArg some (by kernel_rfl))
 f300:=Tryz.func162.trans (congrArg some (by kernel_rfl))
 f301:=Tryz.func163.trans (congrArg some (by kernel_rfl))
 f328:=Tryz.func180.trans (congrArg some (by kernel_rfl))
 f329:=Tryz.func173.trans (congrArg some (by kernel_rfl))
 f330:=Tryz.func174.trans (congrArg some (by kernel_rfl))
 f331:=Tryz.func181.trans (congrArg some (by kernel_rfl))
 f332:=Tryz.func182.trans (congrArg some (by kernel_rfl))
 f343:=Tryz.func189.trans (congrArg some (by kernel_rfl))
 t0:=Tryz.underlying0
 a0:=Tryz.isAgg0
 z0:=Tryz.sizeOf0
 v0:=Tryz.zeroValue0
 t3:=Tryz.underlying3
 a3:=Tryz.isAgg3
 z3:=Tryz.sizeOf3
 v3:=Tryz.zeroValue3
 t4:=Tryz.underlying4
 a4:=Tryz.isAgg4
 z4:=Tryz.sizeOf4
 v4:=Tryz.zeroValue4
 t5:=Tryz.underlying5
 a5:=Tryz.isAgg5
 z5:=Tryz.sizeOf5
 v5:=Tryz.zeroValue5
 t9:=Tryz.underlying9
 a9:=Tryz.isAgg9
 z9:=Tryz.sizeOf9
 v9:=Tryz.zeroValue9
 t28:=Tryz.underlying29
 a28:=Tryz.isAgg29
 z28:=Tryz.sizeOf29
 v28:=Tryz.zeroValue29
 t46:=Tryz.underlying187
 a46:=Tryz.isAgg187
 z46:=Tryz.sizeOf187
 v46:=Tryz.zeroValue187
 t51:=Tryz.underlying131
 a51:=Tryz.isAgg131
 z51:=Tryz.sizeOf131
 v51:=Tryz.zeroValue131
 t53:=Tryz.underlying113
 a53:=Tryz.isAgg113
 z53:=Tryz.sizeOf113
 v53:=Tryz.zeroValue113
 t131:=Tryz.underlying238
 a131:=Tryz.isAgg238
 z131:=Tryz.sizeOf238
 v131:=Tryz.zeroValue238
 t182:=Tryz.underlying233
 a182:=Tryz.isAgg233
 z182:=Tryz.sizeOf233
 v182:=Tryz.zeroValue233
 t183:=Tryz.underlying234
 a183:=Tryz.isAgg234
 z183:=Tryz.sizeOf234
 v183:=Tryz.zeroValue234
 t218:=Tryz.underlying258
 a218:=Tryz.isAgg258
 z218:=Tryz.sizeOf258
 v218:=Tryz.zeroValue258
 t222:=Tryz.underlying262
 a222:=Tryz.isAgg262
 z222:=Tryz.sizeOf262
 v222:=Tryz.zeroValue262
 t228:=Tryz.underlying271
 a228:=Tryz.isAgg271
 z228:=Tryz.sizeOf271
 v228:=Tryz.zeroValue271
 t229:=Tryz.underlying272
 a229:=Tryz.isAgg272
 z229:=Tryz.sizeOf272
 v229:=Tryz.zeroValue272 }
end Go.Proofs
namespace Go.Proofs
open Go Go.Eng Go.Shelf Go.RowKit Go.Lib Go.Sort
theorem qwQ (b cap:Nat) (zs:List Int) (w:World) (hH:Holds (Value.int .i64) w b 0 zs.toArray) (hb:b < w.heap.size) (hsz:zs.length < 4611686018427387904) :
  Calls Tryz.prog 103 #[.slice (some ⟨b,0,none⟩) zs.length cap] w fun e w'=>e = .returned (.tuple #[])/\∃ n os,w' = grow (putRow (Value.int .i64) (Go.Sort.ahead w n) b 0 (zs.mergeSort fun x y=>decide (x <= y)).toArray) os:=Any.slices_Sort_int qvg b 0 cap zs w hH hb hsz
theorem qtF (p:Option Addr) (cap:Nat) (w:World):Calls Tryz.prog 103 #[.slice p 0 cap] w fun e w'=>e = .returned (.tuple #[])/\w' = w:=Any.slices_Sort_int_none qvg p cap w
theorem q0n {zs:List Int} {w:World} {b:Nat} {c:Array Value} {ty:TypeId} (hb:w.heap[b]? = some (.cells c ty (0,0))) (hr:qT c 0 kI (zs.map qdC)):Holds (Value.int .i64) w b 0 zs.toArray:=by
 intro j hj
 have hj:j < zs.length:=by simpa using hj
 have hrow:(zs.map qdC)[j]? = some (qdC zs[j]):=by rw [jan,jac hj]; rfl
 have hv:=(hr _ _ hrow).2 0 (.int .i64 zs[j]) rfl
 have hlen:kI.length = 1:=rfl
 rw [hlen,show 0 + j * 1 + 0 = j by omega] at hv
 refine ⟨?_,by simp [World.frozen?,hb]⟩
 show w.cell? ⟨b,0 + j,none⟩ = some (.int .i64 (zs.toArray[j]!))
 simp only [World.cell?,hb,jbp]
 rw [hv,jes zs.toArray j (by simpa using hj)]; rfl
theorem q4L {zs:List Int} {c:Array Value} (hc:zs.length <= c.size):qT (putCells (Value.int .i64) 0 zs.toArray c) 0 kI (zs.map qdC):=by
 intro i row hi
 rw [jan] at hi
 obtain ⟨x,hx,rfl⟩:=jai.1 hi
 obtain ⟨hl,hx⟩:=jam.1 hx
 refine ⟨⟨rfl,fun c k v hk hv=>?_⟩,fun k v hv=>?_⟩
 ·cases c with
  | zero=>simp only [kI,qdC,jat,jaa] at hk hv; subst hk hv; rfl
  | succ c=>simp [kI] at hk
 ·cases k with
  | succ k=>simp [qdC] at hv
  | zero =>
   simp only [qdC,jat,jaa] at hv
   subst hv
   have hlen:kI.length = 1:=rfl
   rw [hlen,show 0 + i * 1 + 0 = i by omega]
   unfold putCells
   rw [Array.getElem?_mapIdx,jch (by omega),jav,jah ⟨by omega,by simpa using hl⟩,jd1,jes zs.toArray i (by simpa using hl)]
   simp [hx]
theorem q8H {k:IntKind} {v:Value} (h:CK.fits (.int k) v = true):∃ z,v = .int k z:=by
 cases v <;> simp [CK.fits] at h
 subst h; exact ⟨_,rfl⟩
theorem qs3:∀ {d:qf},(∀ row ∈ d,qt kI row)->d = (qk d).map qdC
 | [],_=>rfl
 | row :: d,h=>by
  have hf:=h row (jae ..)
  match row,hf with
  | [v],hf =>
   obtain ⟨z,rfl⟩:=q8H (hf.2 0 (.int .i64) v rfl rfl)
   rw [show qk ([.int .i64 z] :: d) = z :: qk d from rfl,jay,<- qs3 fun r hr=>h r (jab _ hr)]; rfl
  | [],hf=>exact absurd hf.1 (by simp [kI])
  | _ :: _ :: _,hf=>exact absurd hf.1 (by simp [kI])
theorem q11 {l:List Int}:qk (l.map qdC) = l:=by
 unfold qk
 rw [jdq]
 conv=>rhs; rw [<- jd8 l]
 exact jbt fun x _=>rfl
theorem q5K:qel.ok Tryz.prog:=by
 refine ⟨fun args w=>Tryz.call103 args w,fun Z w hF hO hg hd hw hs hro hp=>?_⟩
 obtain ⟨hb1,L,⟨hl,hLd,hrw⟩,hL16⟩:=hp
 obtain ⟨h1,h2,hdis,hu,harr,_⟩:=hs
 have hlenD:(Z 3).d.length = L.length:=by rw [<- hLd]; simp [qk]
 have hlen:(Z 1).i = L.length:=by rw [hl,hlenD]
 have key:∀ (w':World) (hO':Hp),Hp.disj hF.h hO'->SH.den (Z.set 4 { d:=(qcx L).map qdC }) (iHp 0 4 2) hO'->(Hp.union hF.h hO').sub w'->hF.wi w' ->
   ∃ (ai:Nat) (al:Alt) (Z':Env),qel.alts[ai]? = some al/\Z'.good/\(∀ n,n < qel.nv->Z' n = Z n)/\(Ending.returned (.tuple #[]):Ending) = .returned (al.ret.den Z')/\al.post (Z'.upto (qel.nv + al.k))/\qs Z' hF al.heap w':=by
  intro w' hO' a1 a2 a3 a4
  have hgood:({ d:=(qcx L).map qdC }:U).good:=⟨rfl,fun row hr v hv=>by
   obtain ⟨x,_,rfl⟩:=jbb.1 hr
   rw [jaj.1 hv]; rfl⟩
  refine ⟨0,_,Z.set 4 { d:=(qcx L).map qdC },rfl,fun n=>?_,fun n hn=>Env.set_ne _ _ (by have:n < 4:=hn; omega),rfl,?_,hO',a1,⟨hO',Hp.emp,fun _=>.inr rfl,?_,a2,trivial⟩,a3,a4⟩
  ·by_cases hn:n = 4
   ·subst hn; rw [Env.set_same]; exact hgood
   ·rw [Env.set_ne _ _ hn]; exact hg n
  ·intro L' hD'
   obtain ⟨q1,q2,q3⟩:=hD'
   have q2:qk (Z 3).d = L':=q2
   obtain rfl:L = L':=hLd.symm.trans q2
   show qaw ((qcx L).map qdC) (Z 1).i (qcx L)
   refine ⟨?_,q11,fun row hr=>?_⟩
   ·rw [hlen,ja0,qfr.length_eq]
   ·obtain ⟨x,_,rfl⟩:=jbb.1 hr; rfl
  ·funext b
   simp only [Hp.union,Hp.emp]
   cases hO' b <;> rfl
 rcases harr with ⟨hr,hd0,hc0⟩ | ⟨b,c,hr,hb,hcs,hcap,hrows⟩
 ·have hL0:L = []:=by
   have e:(Z 3).d = []:=hd0
   rw [e] at hLd
   exact hLd.symm
  subst hL0
  have hargs:(List.map (SV.den Z) qel.args).toArray = #[.slice none 0 (Z 2).i.toNat]:=by
   have hr':(Z 0).r = none:=hr
   simp [qel,isS,SV.den,qc,T.den,O0.den,O3.den,hr',hlen,qm]
  rw [hargs]
  refine (qtF none _ w).mono fun e w' h=>?_
  obtain ⟨rfl,rfl⟩:=h
  refine key _ hO hd (.inl ⟨?_,?_,?_⟩) hw.1 hw.2
  ·rw [Env.set_ne _ _ (by decide)]; exact hr
  ·show ((Z.set 4 _) 4).d = []
   rw [Env.set_same]; simp [qcx]
  ·show ((Z.set 4 _) 2).i = 0
   rw [Env.set_ne _ _ (by decide)]; exact hc0
 ·have hbO:hO b = some (.cells c 3 (0,0)):=by rw [hu]; simp [Hp.union,hb]
  have hbw:w.heap[b]? = some (.cells c 3 (0,0)):=hw.1 _ _ (by
   unfold Hp.union
   rcases hd b with h | h
   ·rw [h]; exact hbO
   ·rw [hbO] at h; cases h)
  have hblt:b < w.heap.size:=(jb7.1 hbw).1
  have hdL:(Z 3).d = L.map qdC:=by
   rw [<- hLd]
   exact qs3 fun row hr'=>by
    obtain ⟨j,hj⟩:=ja8 hr'
    exact (hrows j row hj).1
  have hrows':qT c 0 kI (L.map qdC):=by
   have h:=hrows
   rw [show (T.den Z (.var 3)).d = (Z 3).d from rfl,hdL] at h
   exact h
  have hcs':c.size = (Z 2).i.toNat * 1:=hcs
  have hcap':((Z 3).d.length:Int) <= (Z 2).i:=hcap
  rw [hlenD] at hcap'
  have hH:=q0n hbw hrows'
  have hargs:(List.map (SV.den Z) qel.args).toArray = #[.slice (some ⟨b,0,none⟩) L.length (Z 2).i.toNat]:=by
   have hr':(Z 0).r = some ⟨b,0,none⟩:=hr
   simp [qel,isS,SV.den,qc,T.den,O0.den,O3.den,hr',hlen,qm]
  rw [hargs]
  refine (qwQ b _ L w hH hblt (by omega)).mono fun e w' h=>?_
  obtain ⟨rfl,n,os,rfl⟩:=h
  have hsl:(qcx L).length <= c.size:=by
   rw [hcs',qfr.length_eq]; omega
  refine key _ (Hp.upd hO b (.cells (putCells (Value.int .i64) 0 (qcx L).toArray c) 3 (0,0))) (fun x=>?_) (.inr ⟨b,putCells (Value.int .i64) 0 (qcx L).toArray c,?_,?_,?_,?_,?_⟩) (fun x X hX=>?_) ?_
  ·by_cases hx:x = b
   ·subst hx
    rcases hd x with h | h
    ·exact .inl h
    ·rw [hbO] at h; cases h
   ·unfold Hp.upd; rw [jaf hx]; exact hd x
  ·rw [Env.set_ne _ _ (by decide)]; exact hr
  ·unfold Hp.upd; rw [jah rfl]
  ·show (putCells (Value.int .i64) 0 _ c).size = ((Z.set 4 _) 2).i.toNat * 1
   rw [Env.set_ne _ _ (by decide),<- hcs']
   simp [putCells]
  ·show ((((Z.set 4 { d:=(qcx L).map qdC }) 4).d.length:Nat):Int) <= ((Z.set 4 _) 2).i
   rw [Env.set_same,Env.set_ne _ _ (by decide),ja0,qfr.length_eq]; exact hcap'
  ·show qT _ 0 kI ((Z.set 4 { d:=(qcx L).map qdC }) 4).d
   rw [Env.set_same]
   exact q4L hsl
  ·have hlt:=hblt
   by_cases hx:x = b
   ·subst hx
    have hFn:hF.h x = none:=by
     rcases hd x with h | h
     ·exact h
     ·rw [hbO] at h; cases h
    simp only [Hp.union,hFn,Hp.upd,jbw,jby,jaa] at hX
    rw [<- hX]
    unfold grow putRow mapBlock
    have e:(Go.Sort.ahead w n).heap = w.heap:=rfl
    simp only [e]
    rw [jcd (by simpa using hlt),jb0,jah rfl,hbw]; rfl
   ·have hX':Hp.union hF.h hO x = some X:=by
     simpa [Hp.union,Hp.upd,hx] using hX
    have hxw:=hw.1 _ _ hX'
    have hlt:x < w.heap.size:=(jb7.1 hxw).1
    unfold grow putRow mapBlock
    have e:(Go.Sort.ahead w n).heap = w.heap:=rfl
    simp only [e]
    rw [jcd (by simpa using hlt),jb0,jaf (Ne.symm hx),hxw]
  ·exact hw.2
end Go.Proofs
namespace Go.Proofs
open Go Go.Eng
def qna:Out:=(fr 4 2 (.both (.mop (.get (tv 2) [(.c2 (.xint 0) (tv 1) (tl 0)),(.c2 (.xint 1) (tv 1) (tl 0)),(.c2 (.xint 2) (tv 1) (tl 0)),(.c2 (.xint 3) (tv 1) (tl 0)),(.c2 (.xint 4) (tv 1) (tl 0)),(.c2 (.xint 5) (tv 1) (tl 0)),(.c2 (.xint 6) (tv 1) (tl 0)),(.c2 (.xint 7) (tv 1) (tl 0)),(.c2 (.xint 8) (tv 1) (tl 0)),(.c2 (.xint 9) (tv 1) (tl 0)),(.c2 (.xint 10) (tv 1) (tl 0)),(.c2 (.xint 11) (tv 1) (tl 0)),(.c2 (.xint 12) (tv 1) (tl 0)),(.c2 (.xint 13) (tv 1) (tl 0)),(.c2 (.xint 14) (tv 1) (tl 0)),(.c2 (.xint 15) (tv 1) (tl 0)),(.c2 (.xint 16) (tv 1) (tl 0)),(.c2 (.xint 17) (tv 1) (tl 0)),(.c2 (.xint 18) (tv 1) (tl 0)),(.c2 (.xint 19) (tv 1) (tl 0)),(.c2 (.xint 20) (tv 1) (tl 0)),(.c2 (.xint 21) (tv 1) (tl 0)),(.c2 (.xint 22) (tv 1) (tl 0)),(.c2 (.xint 23) (tv 1) (tl 0)),(.c2 (.xint 24) (tv 1) (tl 0)),(.c2 (.xint 25) (tv 1) (tl 0)),(.c2 (.xint 26) (tv 1) (tl 0)),(.c2 (.xint 27) (tv 1) (tl 0)),(.c2 (.xint 28) (tv 1) (tl 0)),(.c2 (.xint 29) (tv 1) (tl 0)),(.c2 (.xint 30) (tv 1) (tl 0)),(.c2 (.xint 31) (tv 1) (tl 0))] ⟨true,[.u8,.u8,.u8,.u8,.u8,.u8,.u8,.u8,.u8,.u8,.u8,.u8,.u8,.u8,.u8,.u8,.u8,.u8,.u8,.u8,.u8,.u8,.u8,.u8,.u8,.u8,.u8,.u8,.u8,.u8,.u8,.u8],false,[CK.any],[.vnilm]⟩ [3]) 6 (.both (.mop (.range (.vcell (tv 6) (tl 0) 0) ⟨false,[.i64],false,[CK.int .u64],[(.vint .u64 (tl 0))]⟩ [3]) 7 (.pack [.abs 7 1003,.abs 3 1003] 9 (.inv 0 10 (sg 1000 [bg 1005 9,bt 1003 .dnil,bv 1004 8,bt 1002 (tl 0),bt 1001 (tl 0),bg 1000 5]) (fr 10 6 (.hyp 0 10 (.mop (.next 15 (tv 14) ⟨false,[.i64],false,[CK.int .u64],[(.vint .u64 (tl 0))]⟩ [15]) 16 (.mop (.entry 16 (tv 14) ⟨false,[.i64],false,[CK.int .u64],[(.vint .u64 (tl 0))]⟩ [16]) 19 (.fresh 21 (.need (.cmp .eql (tv 11) (.dlen (tv 13))) (.need (.cmp .leq (.tims (tl 8) (.plus (tv 11) (tl 1))) (tl 140737488355328)) (fr 22 2 (.back 0 10 (sg 1000 [bg 1005 16,bt 1003 (.dapp (tv 13) (.rcons (.vint .i64 (.c2 (.xint 0) (tv 19) (tl 0))) .rnil)),bv 1004 14,bv 1002 23,bt 1001 (.plus (tv 11) (tl 1)),bg 1000 22])))))) .top) (.pre 0 (sg 0 [bv 3 13,bv 2 12,bv 1 11,bg 0 10]) (.both (.fresh 16 (.post 0 0 (sg 0 [bv 3 13,bv 2 12,bv 1 11,bg 0 10]) 16 (.ret 0 (sg 4 [bg 8 15,bv 7 16,bv 6 12,bv 5 11,bg 4 10])))) .top))))))) .top) .top) .top) .top))
theorem qvU:qn Tryz.prog qfx [qel] [qpK] qna:=qh Tryz.func66 Tryz.call66 (by kernel_rfl)
def qxw:Out:=(.mop (.range (tv 2) ⟨true,[.u8,.u8,.u8,.u8,.u8,.u8,.u8,.u8,.u8,.u8,.u8,.u8,.u8,.u8,.u8,.u8,.u8,.u8,.u8,.u8,.u8,.u8,.u8,.u8,.u8,.u8,.u8,.u8,.u8,.u8,.u8,.u8],false,[CK.any],[.vnilm]⟩ [3]) 4 (.pack [.abs 4 1003,.abs 3 1003] 6 (.inv 0 7 (sg 1000 [bg 1001 6,bv 1000 5]) (fr 7 2 (.hyp 0 7 (.mop (.next 8 (tv 7) ⟨true,[.u8,.u8,.u8,.u8,.u8,.u8,.u8,.u8,.u8,.u8,.u8,.u8,.u8,.u8,.u8,.u8,.u8,.u8,.u8,.u8,.u8,.u8,.u8,.u8,.u8,.u8,.u8,.u8,.u8,.u8,.u8,.u8],false,[CK.any],[.vnilm]⟩ [8]) 9 (.mop (.entry 9 (tv 7) ⟨true,[.u8,.u8,.u8,.u8,.u8,.u8,.u8,.u8,.u8,.u8,.u8,.u8,.u8,.u8,.u8,.u8,.u8,.u8,.u8,.u8,.u8,.u8,.u8,.u8,.u8,.u8,.u8,.u8,.u8,.u8,.u8,.u8],false,[CK.any],[.vnilm]⟩ [9]) 12 (.fresh 14 (.mop (.range (.vcell (tv 13) (tl 0) 0) ⟨false,[.i64],false,[CK.int .u64],[(.vint .u64 (tl 0))]⟩ [9]) 15 (.pack [.abs 15 1003,.abs 9 1003] 17 (.inv 1 18 (sg 1000 [bg 1005 17,bt 1001 (r8 12),bv 1004 16,bt 1003 (.vcell (tv 13) (tl 0) 0),bg 1000 14,bv 1002 7]) (fr 18 6 (.hyp 1 18 (.mop (.next 23 (tv 22) ⟨false,[.i64],false,[CK.int .u64],[(.vint .u64 (tl 0))]⟩ [23]) 24 (.mop (.entry 24 (tv 22) ⟨false,[.i64],false,[CK.int .u64],[(.vint .u64 (tl 0))]⟩ [24]) 27 (.pre 0 (sg 0 [bv 1 1,bt 0 (.c2 (.xint 0) (tv 28) (tl 0))]) (.both (.fresh 29 (.post 0 0 (sg 0 [bv 1 1,bt 0 (.c2 (.xint 0) (tv 28) (tl 0))]) 29 (.br (.not (tv 29))
 (.mop (.del 24 (tv 21) [(.c2 (.xint 0) (tv 27) (tl 0))] ⟨false,[.i64],false,[CK.int .u64],[(.vint .u64 (tl 0))]⟩) 30 (.back 1 18 (sg 1000 [bg 1005 30,bt 1001 (r8 19),bv 1004 22,bv 1003 21,bg 1000 18,bv 1002 20])) .top)
 (.back 1 18 (sg 1000 [bg 1005 24,bt 1001 (r8 19),bv 1004 22,bv 1003 21,bg 1000 18,bv 1002 20]))))) .top)) .top) (.mop (.len (tv 21) ⟨false,[.i64],false,[CK.int .u64],[(.vint .u64 (tl 0))]⟩ [23]) 24 (.br (.cmp .eql (tv 24) (tl 0))
 (.both (.mop (.del 23 (tv 2) [(.c2 (.xint 0) (tv 19) (tl 0)),(.c2 (.xint 1) (tv 19) (tl 0)),(.c2 (.xint 2) (tv 19) (tl 0)),(.c2 (.xint 3) (tv 19) (tl 0)),(.c2 (.xint 4) (tv 19) (tl 0)),(.c2 (.xint 5) (tv 19) (tl 0)),(.c2 (.xint 6) (tv 19) (tl 0)),(.c2 (.xint 7) (tv 19) (tl 0)),(.c2 (.xint 8) (tv 19) (tl 0)),(.c2 (.xint 9) (tv 19) (tl 0)),(.c2 (.xint 10) (tv 19) (tl 0)),(.c2 (.xint 11) (tv 19) (tl 0)),(.c2 (.xint 12) (tv 19) (tl 0)),(.c2 (.xint 13) (tv 19) (tl 0)),(.c2 (.xint 14) (tv 19) (tl 0)),(.c2 (.xint 15) (tv 19) (tl 0)),(.c2 (.xint 16) (tv 19) (tl 0)),(.c2 (.xint 17) (tv 19) (tl 0)),(.c2 (.xint 18) (tv 19) (tl 0)),(.c2 (.xint 19) (tv 19) (tl 0)),(.c2 (.xint 20) (tv 19) (tl 0)),(.c2 (.xint 21) (tv 19) (tl 0)),(.c2 (.xint 22) (tv 19) (tl 0)),(.c2 (.xint 23) (tv 19) (tl 0)),(.c2 (.xint 24) (tv 19) (tl 0)),(.c2 (.xint 25) (tv 19) (tl 0)),(.c2 (.xint 26) (tv 19) (tl 0)),(.c2 (.xint 27) (tv 19) (tl 0)),(.c2 (.xint 28) (tv 19) (tl 0)),(.c2 (.xint 29) (tv 19) (tl 0)),(.c2 (.xint 30) (tv 19) (tl 0)),(.c2 (.xint 31) (tv 19) (tl 0))] ⟨true,[.u8,.u8,.u8,.u8,.u8,.u8,.u8,.u8,.u8,.u8,.u8,.u8,.u8,.u8,.u8,.u8,.u8,.u8,.u8,.u8,.u8,.u8,.u8,.u8,.u8,.u8,.u8,.u8,.u8,.u8,.u8,.u8],false,[CK.any],[.vnilm]⟩) 25 (.back 0 7 (sg 1000 [bg 1001 25,bv 1000 20])) .top) .top)
 (.back 0 7 (sg 1000 [bg 1001 23,bv 1000 20]))) .top)))))) .top)) .top) (.ret 0 (sg 4 [bg 4 8]))))))) .top)
theorem q59:qn Tryz.prog qm1 [qow] [q27,q0P] qxw:=qh Tryz.func64 Tryz.call64 (by kernel_rfl)
set_option maxRecDepth 20000
theorem q2h {cl:Cl} {o:List Int} {m:List ME} {c:Nat} (hM:MWf mtI m c) (he:∀ i,cl o i = qbk m i) (hr:∀ o i t,cl o i = some t->0 <= i/\i < 16/\0 <= t/\t < 18446744073709551616):m.length <= 16:=by
 have h:=qhF (L:=m.map fun e=>e.k.headD 0) hM he hr (jfj _)
 have h1:(qcx (m.map fun e=>e.k.headD 0)).length = m.length:=by rw [qfr.length_eq,ja0]
 rw [<- h1,h]
 refine jde (jcb _ _) ?_
 simp
theorem q1J {h0 H:Hp} {v:Value} {o:List Int} {cl:Cl} {m:List ME} {c:Nat} {D:qf} {n:Int} (hM:MWf mtI m c) (hc:qj h0 v cl) (hcH:qj H v cl) (he:∀ i,cl o i = qbk m i) (hP:(qk D).Perm (m.map fun e=>e.k.headD 0)) (hn:n = D.length) (hr:∀ row ∈ D,row.length = 1) :
  (n <= 1000000/\∃ L,qaw D n L/\∀ x ∈ L,0 <= x/\x < 16)/\∀ u7:U,u7.good->(∀ L,qaw D n L->qaw u7.d n (qcx L))->∀ cl',qj h0 v cl'->qj H v cl'/\qaw u7.d n (qcX cl' o):=by
 have hrr:∀ o i t,cl o i = some t->0 <= i/\i < 16/\0 <= t/\t < 18446744073709551616:=by
  obtain ⟨b,l,c0,rfl,_,_,_,_,hr⟩:=hc; exact hr
 have hlen:D.length <= 16:=by
  have h1:=hP.length_eq
  have h2:=q2h hM he hrr
  rw [ja0] at h1
  have h3:(qk D).length = D.length:=by simp [qk]
  omega
 refine ⟨⟨by omega,qk D,⟨hn,rfl,hr⟩,fun x hx=>?_⟩,fun u7 _ hp cl' h'=>?_⟩
 ·obtain ⟨e,hem,rfl⟩:=jbb.1 (hP.mem_iff.1 hx)
  obtain ⟨z,hz⟩:=qeY hM hem
  have hg:=(he z).trans (qe6 hM hem hz)
  obtain ⟨z0,z1,_⟩:=hrr _ _ _ hg
  rw [hz]; exact ⟨z0,z1⟩
 ·rw [qbU hc h']
  refine ⟨hcH,?_⟩
  rw [<- qhF hM he hrr hP]
  exact hp _ ⟨hn,rfl,hr⟩
theorem qua:qfx.ok Tryz.prog:=qvU (by simp [q5K]) fun Z hg hp=>by
 obtain ⟨cl,hcl⟩:=hp
 have hcl0:=hcl
 simp (config:={ maxSteps:=4000000 }) [qna,qfx,qpK,qel,qk5,qkD,qjD,qie,qc,qtt,qtl]
 obtain ⟨b,l,c,hv,hm,hi,hd,hn,hrr⟩:=hcl
 intro _ _ _ _
 refine ⟨l,.inr ⟨b,hv,c,hm⟩,?_⟩
 have hstart:∃ (mo:Option Nat) (clock:Nat),((qck l (qd (Z 1).d 32) [Value.map none]).head?.getD .nilFunc = .map none/\mo = none/\clock = 0∨∃ b:Nat,(qck l (qd (Z 1).d 32) [Value.map none]).head?.getD .nilFunc = .map (some b)/\mo = some b/\∃ l,qZ (Z 3).h b mtI l clock)/\∀ (H:Hp) (bi:Nat) (it:Value),Hp.le (Z 3).h H->it = .pointer (some ⟨bi,0,none⟩)->H bi = some (.mapIter mo clock #[] clock)->ctI (Z 3).h H (Z 2).v it (qd (Z 1).d 32) []:=by
  cases hh:qbt l (qd (Z 1).d 32) with
  | false =>
   have hg0:=qiq (z:=[.map none]) hh
   exact ⟨none,0,.inl ⟨by rw [hg0]; rfl,rfl,rfl⟩,fun H bi it hle hit hb=>qtf hcl0 (fun i=>hn _ _ (qhV hh)) hle hit hb⟩
  | true =>
   obtain ⟨x,hx,hk,hgx⟩:=qos (z:=[.map none]) hh
   obtain ⟨b',m,c',e1,e2,e3,e4⟩:=hi x hx
   exact ⟨some b',c',.inr ⟨b',by rw [hgx,e1]; rfl,rfl,m,e3⟩,fun H bi it hle hit hb=>qsO hcl0 e3 (fun i=>by rw [<- hk]; exact e4 i) hle hit hb⟩
 obtain ⟨mo,clock,hmo,hst0⟩:=hstart
 refine ⟨mo,clock,hmo,?_⟩
 intro I1 _ I2 _ bi hit hI1 H _ hst
 have hle:Hp.le I1.h H.h/\Hp.le (Z 3).h H.h:=by
  have h1:=qbv 7 1003 hst (by simp)
  have h2:=qbv 3 1003 hst (by simp)
  exact ⟨by simpa using h1,by simpa using h2⟩
 have hbi:H.h bi = some (.mapIter mo clock #[] clock):=hle.1 _ _ (by rw [hI1]; simp [Hp.one])
 refine ⟨hst0 H.h bi I2.v hle.2 hit hbi,?_⟩
 intro A _ D _ it _ H2 _ hAl hrow hB
 obtain ⟨hcH,m,seen,⟨bi2,mo2,since,stp,hit2,hbi2,hmo2⟩,hco,hx0,hx⟩:=hB cl hcl0
 refine ⟨bi2,hit2,since,seen,stp,mo2,hbi2,?_⟩
 rcases hmo2 with ⟨rfl,rfl⟩ | ⟨b2,c2,rfl,hne,hM,hcs,hstt,hseen⟩
 ·exact q1J (m:=[]) (c:=0) ⟨fun x hx=>(by cases hx),List.Pairwise.nil⟩ hcl0 hcH hco hx hAl hrow
 ·refine ⟨m,c2,hM,hstt,fun hall=>q1J hM.2 hcl0 hcH hco ?_ hAl hrow,fun e he hns u2 _ hu2=>⟨bi2,hit2,since,seen,c2,b2,m,e,by rw [hu2]; exact qbh,by rw [hu2]; exact qY (Ne.symm hne) hM,he,?_⟩⟩
  ·have hf:(m.filter fun e=>seen.contains e.born) = m:=jd3.2 fun e hem=>by
    have:=hall e hem (by have:=(hM.2.1 e hem).2.2; omega)
    simpa using this
   rwa [hf] at hx
  ·obtain ⟨z,hz⟩:=qeY hM.2 he
   have hkx:qa [qN mtI.kks e.k] 0 = z:=by rw [hz]; rfl
   have hlen:D.d.length <= 16:=by
    have h1:=hx.length_eq
    have h2:=q2h hM.2 hco hrr
    have h3:=jcb (fun e:ME=>seen.contains e.born) m
    rw [ja0] at h1
    have h4:(qk D.d).length = D.d.length:=by simp [qk]
    omega
   rw [hkx]
   refine ⟨hAl,by omega,⟨hAl,fun row hr'=>?_,?_⟩,?_⟩
   ·rcases hr' with hr' | hr'
    ·exact hrow row hr'
    ·rw [hr']; rfl
   ·rw [hu2]
    exact q74 hcl0 hcH hit2 hbi2 hM hcs hseen hco he hns hx (by rw [hz]; simp [qk,qaJ,qS])
   ·rw [qgm (h:=H2.h) hit2 hbi2 hM,qgm (h:=u2.h) (seen:=seen ++ [e.born]) hit2 (by rw [hu2]; exact qbh) (by rw [hu2]; exact qY (Ne.symm hne) hM)]
    exact qg3 he hns
theorem qyd {mt:MT} {l:List ME} {c:Nat} (h:MWf mt l c) {seen:List Nat}:seen = []∨l = []∨∃ e,e ∈ l/\e.born < c:=by
 right
 cases l with
 | nil=>exact .inl rfl
 | cons x l=>exact .inr ⟨x,jae ..,(h.1 x (jae ..)).2.2⟩
theorem q4y {k:List Int} (h:k.length = 32):qd [qN mtO.kks k] 32 = k:=by
 obtain ⟨a0,a1,a2,a3,a4,a5,a6,a7,a8,a9,a10,a11,a12,a13,a14,a15,a16,a17,a18,a19,a20,a21,a22,a23,a24,a25,a26,a27,a28,a29,a30,a31,rfl⟩:=q2G h
 rfl
theorem q5Q:qm1.ok Tryz.prog:=q59 (by simp [q1B]) fun Z hg hp=>by
 obtain ⟨⟨cl,hcl⟩,t0,t1⟩:=hp
 have hcl0:=hcl
 simp (config:={ maxSteps:=4000000 }) [qxw,qm1,q27,q0P,qow,qk5,qkD,qjD,qie,qc,qtt,qtl]
 obtain ⟨b,l,c,hv,hm,hi,hd,hn,hrr⟩:=hcl
 refine ⟨some b,c,.inr ⟨b,hv,rfl,l,hm⟩,?_⟩
 intro I1 _ I2 _ bi hit hI1 H _ hst
 have hle:Hp.le I1.h H.h/\Hp.le (Z 3).h H.h:=by
  have h1:=qbv 4 1003 hst (by simp)
  have h2:=qbv 3 1003 hst (by simp)
  exact ⟨by simpa using h1,by simpa using h2⟩
 refine ⟨q4Z hv hm hle.2 hit (hle.1 _ _ (by rw [hI1]; simp [Hp.one])),?_⟩
 intro it _ HO _ hO
 obtain ⟨b1,l1,c1,seen,cl1,hS⟩:=hO cl hcl0
 obtain ⟨bo,hito,hbo⟩:=hS.hi
 refine ⟨bo,hito,c1,seen,c1,some b1,hbo,l1,c1,hS.hm,qyd hS.hm.2,fun hall cl' h'=>by rw [qbU hcl0 h']; exact q8g hS hall,fun e he hns u2 _ hu2=>?_⟩
 refine ⟨bo,hito,c1,seen,c1,b1,l1,e,by rw [hu2]; exact qbh,by rw [hu2]; exact qY (qf8 hbo hS.hm) hS.hm,he,fun u5 _=>?_⟩
 have hcS:=hS.hc
 rw [hS.hv] at hcS
 obtain ⟨b',m,c',hev,hm2⟩:=q4m hcS hS.hm he
 have hv0:e.v.head?.getD .nilFunc = .map (some b'):=by rw [hev]; rfl
 refine ⟨some b',c',.inr ⟨b',hv0,rfl,m,by rw [hu2]; exact qY (qf8 hbo hm2) hm2⟩,?_⟩
 intro J1 _ J2 _ bj hitj hJ1 HI _ hst2
 have hle2:Hp.le J1.h HI.h/\Hp.le u2.h HI.h:=by
  have h1:=qbv 15 1003 hst2 (by simp)
  have h2:=qbv 9 1003 hst2 (by simp)
  exact ⟨by simpa using h1,by simpa using h2⟩
 have hapart:bo ≠ bj:=fun he'=>by
  have h:=qql hst2
  have h:Hp.disj J1.h u2.h:=by simpa using h
  rcases h bo with h | h
  ·rw [hJ1,he'] at h; simp [Hp.one] at h
  ·rw [hu2,qbh] at h; cases h
 have hI0:=q40 hS he hns hev hv0 hm2 hito (hu2 ▸ hle2.2) hitj (hle2.1 _ _ (by rw [hJ1]; simp [Hp.one])) hapart
 have hlt:qbo HI.h it.v < qbo HO.h it.v:=by
  rw [qaH hI0.hi hI0.hm,qaH hS.hi hS.hm]; exact qg3 he hns
 have hkd:qd [qN mtO.kks e.k] 32 = e.k:=q4y (hS.hm.2.1 e he).1
 refine ⟨⟨by rw [hkd]; exact qnH hcl0 hI0,hlt⟩,?_⟩
 intro kdr _ it1 _ mv _ it2 _ H3 _ hI hlt3
 obtain ⟨b2,l2,c2,seen2,cl2,e2,b3,m3,c3,seen3,hS2⟩:=hI cl hcl0
 obtain ⟨bq,hitq,hbq⟩:=hS2.hi2
 refine ⟨bq,hitq,c3,seen3,c3,some b3,hbq,m3,c3,hS2.hm2,qyd hS2.hm2.2,fun hall=>?_,fun y hy hyn u12 _ hu12=>?_⟩
 ·refine ⟨m3,.inr ⟨b3,hS2.hmv,c3,hS2.hm2⟩,fun h0=>⟨b2,hS2.hv,l2,c2,hS2.hm,fun u12 _ hu12=>?_⟩,fun _=>⟨qxO hcl0 (qyf hS2 hall),hlt3⟩⟩
  have hO2:=q9j hS2 hall h0
  rw [hu12]
  refine ⟨qxO hcl0 hO2,Nat.lt_of_le_of_lt ?_ hlt3⟩
  rw [qaH hO2.hi hO2.hm,qaH hS2.hi hS2.hm]
  exact (List.Sublist.filter _ List.filter_sublist).length_le
 ·obtain ⟨z,hz⟩:=qeY hS2.hm2.2 hy
  have hmu:=qY (X:=.mapIter (some b3) c3 (seen3 ++ [y.born]).toArray c3) (qf8 hbq hS2.hm2) hS2.hm2
  refine ⟨bq,hitq,c3,seen3,c3,b3,m3,y,by rw [hu12]; exact qbh,by rw [hu12]; exact hmu,hy,?_⟩
  have hcv:qa [y.v] 0 = qS (y.v.headD .nilFunc):=by unfold qa; cases y.v <;> rfl
  have hkx:qa [qN mtI.kks y.k] 0 = z:=by rw [hz]; rfl
  have hval:cl (qd kdr.d 32) z = some (qS (y.v.headD .nilFunc)):=by
   have hc2:=hS2.hc
   rw [hS2.hv] at hc2
   have hg:=qj8 hc2 hS2.hm hS2.he hS2.hev hS2.hm2 z
   rw [hS2.hk,qe6 hS2.hm2.2 hy hz] at hg
   rw [<- hS2.h4 y hy hyn z hz,hg]
  obtain ⟨_,_,v0,v1⟩:=hrr _ _ _ hval
  rw [hcv,hkx]
  refine ⟨⟨v0,v1,t0,t1⟩,fun w _ hw=>⟨fun hf=>⟨b3,hS2.hmv,m3,c3,by rw [hu12]; exact hmu,fun u14 _ hu14=>?_⟩,fun ht=>?_⟩⟩
  ·have hD:=q7o hS2 hy hyn hz (by rw [<- hw]; exact hf) hitq
   rw [hu14,hu12]
   refine ⟨⟨qnH hcl0 hD,?_⟩,?_⟩
   ·rw [qaH hD.hi hD.hm]; rw [qaH hS2.hi hS2.hm] at hlt3; exact hlt3
   ·rw [qaH hD.hi2 hD.hm2,qaH hS2.hi2 hS2.hm2]
    exact Nat.lt_of_le_of_lt (List.Sublist.filter _ List.filter_sublist).length_le (qg3 hy hyn)
  ·have hD:=q67 hS2 hy hyn hz (by rw [<- hw]; exact ht) hitq
   rw [hu12]
   refine ⟨⟨qnH hcl0 hD,?_⟩,?_⟩
   ·rw [qaH hD.hi hD.hm]; rw [qaH hS2.hi hS2.hm] at hlt3; exact hlt3
   ·rw [qaH hD.hi2 hD.hm2,qaH hS2.hi2 hS2.hm2]; exact qg3 hy hyn
set_option maxRecDepth 100000
def q14:Out:=(.fresh 4 (.br (.cmp .geq (tv 3) (tv 2))
 (.ret 0 (sg 4 [bt 4 (.cmp .lss (.arith .sub .u64 (tv 3) (tv 2)) (tl 12))]))
 (.ret 0 (sg 4 [bt 4 (.bl false)]))))
theorem q7l:qn Tryz.prog qjG [] [] q14:=qh Tryz.func102 Tryz.call102 (by kernel_rfl)
@[simp] def qs8:Out:=.fresh 15 (.need (.cmp .eql (tv 11) (.dlen (tv 13))) (.need (.cmp .leq (.tims (tl 48) (.plus (tv 11) (tl 1))) (tl 140737488355328)) (fr 16 2 (.back 0 9 (sg 1000 [bt 1004 (.dapp (tv 13) (.rcons (i8 3 14 0) (.rcons (i8 3 14 1) (.rcons (i8 3 14 2) (.rcons (i8 3 14 3) (.rcons (i8 3 14 4) (.rcons (i8 3 14 5) (.rcons (i8 3 14 6) (.rcons (i8 3 14 7) (.rcons (i8 3 14 8) (.rcons (i8 3 14 9) (.rcons (i8 3 14 10) (.rcons (i8 3 14 11) (.rcons (i8 3 14 12) (.rcons (i8 3 14 13) (.rcons (i8 3 14 14) (.rcons (i8 3 14 15) (.rcons (i8 3 14 16) (.rcons (i8 3 14 17) (.rcons (i8 3 14 18) (.rcons (i8 3 14 19) (.rcons (i8 3 14 20) (.rcons (i8 3 14 21) (.rcons (i8 3 14 22) (.rcons (i8 3 14 23) (.rcons (i8 3 14 24) (.rcons (i8 3 14 25) (.rcons (i8 3 14 26) (.rcons (i8 3 14 27) (.rcons (i8 3 14 28) (.rcons (i8 3 14 29) (.rcons (i8 3 14 30) (.rcons (i8 3 14 31) (.rcons (.vint .i64 (.icell (tv 3) (tv 14) 32)) (.rcons (.vint .u64 (.icell (tv 3) (tv 14) 33)) .rnil))))))))))))))))))))))))))))))))))),bt 1005 (.arith .add .i64 (tv 14) (tl 1)),bv 1003 17,bt 1002 (.plus (tv 11) (tl 1)),bg 1001 16,bg 1000 9])))))
def qye:Out:=(.fresh 7 (.br (.cmp .lss (tv 5) (tl 0))
 (.ret 0 (sg 7 [bv 10 3,bv 9 2,bv 8 1,bg 7 0]))
 (.br (.cmp .gtr (tv 5) (tl 15))
 (.ret 0 (sg 7 [bv 10 3,bv 9 2,bv 8 1,bg 7 0]))
 (.fresh 8 (.inv 0 9 (sg 1000 [bt 1004 .dnil,bt 1005 (tl 0),bt 1003 (tl 0),bt 1002 (tl 0),bg 1001 8,bg 1000 7]) (fr 9 6 (.hyp 0 9 (.need (.cmp .leq (tl 0) (tv 1)) (.br (.cmp .lss (tv 14) (tv 1))
 (.need (.cmp .leq (tl 0) (tv 14)) (.need (.cmp .lss (tv 14) (.dlen (tv 3))) (.br (.not (.c2 .req (.rcons (i8 3 14 0) (.rcons (i8 3 14 1) (.rcons (i8 3 14 2) (.rcons (i8 3 14 3) (.rcons (i8 3 14 4) (.rcons (i8 3 14 5) (.rcons (i8 3 14 6) (.rcons (i8 3 14 7) (.rcons (i8 3 14 8) (.rcons (i8 3 14 9) (.rcons (i8 3 14 10) (.rcons (i8 3 14 11) (.rcons (i8 3 14 12) (.rcons (i8 3 14 13) (.rcons (i8 3 14 14) (.rcons (i8 3 14 15) (.rcons (i8 3 14 16) (.rcons (i8 3 14 17) (.rcons (i8 3 14 18) (.rcons (i8 3 14 19) (.rcons (i8 3 14 20) (.rcons (i8 3 14 21) (.rcons (i8 3 14 22) (.rcons (i8 3 14 23) (.rcons (i8 3 14 24) (.rcons (i8 3 14 25) (.rcons (i8 3 14 26) (.rcons (i8 3 14 27) (.rcons (i8 3 14 28) (.rcons (i8 3 14 29) (.rcons (i8 3 14 30) (.rcons (i8 3 14 31) .rnil)))))))))))))))))))))))))))))))) (r8 4)))
 qs8
 (.br (.cmp .neq (.icell (tv 3) (tv 14) 32) (tv 5))
 qs8
 (.back 0 9 (sg 1000 [bv 1004 13,bt 1005 (.arith .add .i64 (tv 14) (tl 1)),bv 1003 12,bv 1002 11,bg 1001 10,bg 1000 9]))))))
 (.fresh 15 (.need (.cmp .eql (tv 11) (.dlen (tv 13))) (.need (.cmp .leq (.tims (tl 48) (.plus (tv 11) (tl 1))) (tl 140737488355328)) (fr 16 2 (.ret 0 (sg 7 [bt 10 (.dapp (tv 13) (.rcons (x8 0 4) (.rcons (x8 1 4) (.rcons (x8 2 4) (.rcons (x8 3 4) (.rcons (x8 4 4) (.rcons (x8 5 4) (.rcons (x8 6 4) (.rcons (x8 7 4) (.rcons (x8 8 4) (.rcons (x8 9 4) (.rcons (x8 10 4) (.rcons (x8 11 4) (.rcons (x8 12 4) (.rcons (x8 13 4) (.rcons (x8 14 4) (.rcons (x8 15 4) (.rcons (x8 16 4) (.rcons (x8 17 4) (.rcons (x8 18 4) (.rcons (x8 19 4) (.rcons (x8 20 4) (.rcons (x8 21 4) (.rcons (x8 22 4) (.rcons (x8 23 4) (.rcons (x8 24 4) (.rcons (x8 25 4) (.rcons (x8 26 4) (.rcons (x8 27 4) (.rcons (x8 28 4) (.rcons (x8 29 4) (.rcons (x8 30 4) (.rcons (x8 31 4) (.rcons (.vint .i64 (tv 5)) (.rcons (.vint .u64 (tv 6)) .rnil))))))))))))))))))))))))))))))))))),bv 9 17,bt 8 (.plus (tv 11) (tl 1)),bg 7 16])))))))))))))))
theorem q3N:qn Tryz.prog qlz [] [q2a] qye:=qh Tryz.func63 Tryz.call63 (by kernel_rfl)
@[simp] def qp0:Sg:=sg 0 [bv 3 4,bt 2 (.icell (tv 3) (tv 10) 33),bt 1 (.icell (tv 3) (tv 10) 32),bt 0 (.rcons (i8 3 10 0) (.rcons (i8 3 10 1) (.rcons (i8 3 10 2) (.rcons (i8 3 10 3) (.rcons (i8 3 10 4) (.rcons (i8 3 10 5) (.rcons (i8 3 10 6) (.rcons (i8 3 10 7) (.rcons (i8 3 10 8) (.rcons (i8 3 10 9) (.rcons (i8 3 10 10) (.rcons (i8 3 10 11) (.rcons (i8 3 10 12) (.rcons (i8 3 10 13) (.rcons (i8 3 10 14) (.rcons (i8 3 10 15) (.rcons (i8 3 10 16) (.rcons (i8 3 10 17) (.rcons (i8 3 10 18) (.rcons (i8 3 10 19) (.rcons (i8 3 10 20) (.rcons (i8 3 10 21) (.rcons (i8 3 10 22) (.rcons (i8 3 10 23) (.rcons (i8 3 10 24) (.rcons (i8 3 10 25) (.rcons (i8 3 10 26) (.rcons (i8 3 10 27) (.rcons (i8 3 10 28) (.rcons (i8 3 10 29) (.rcons (i8 3 10 30) (.rcons (i8 3 10 31) .rnil))))))))))))))))))))))))))))))))]
def qvb:Out:=(.fresh 5 (.inv 0 6 (sg 1000 [bt 1003 .dnil,bt 1004 (tl 0),bt 1002 (tl 0),bt 1001 (tl 0),bg 1000 5]) (fr 6 5 (.hyp 0 6 (.need (.cmp .leq (tl 0) (tv 1)) (.br (.cmp .lss (tv 10) (tv 1))
 (.need (.cmp .leq (tl 0) (tv 10)) (.need (.cmp .lss (tv 10) (.dlen (tv 3))) (.pre 0 qp0 (.both (.fresh 11 (.post 0 0 qp0 11 (.br (tv 11)
 (.fresh 12 (.need (.cmp .eql (tv 7) (.dlen (tv 9))) (.need (.cmp .leq (.tims (tl 48) (.plus (tv 7) (tl 1))) (tl 140737488355328)) (fr 13 2 (.back 0 6 (sg 1000 [bt 1003 (.dapp (tv 9) (.rcons (i8 3 10 0) (.rcons (i8 3 10 1) (.rcons (i8 3 10 2) (.rcons (i8 3 10 3) (.rcons (i8 3 10 4) (.rcons (i8 3 10 5) (.rcons (i8 3 10 6) (.rcons (i8 3 10 7) (.rcons (i8 3 10 8) (.rcons (i8 3 10 9) (.rcons (i8 3 10 10) (.rcons (i8 3 10 11) (.rcons (i8 3 10 12) (.rcons (i8 3 10 13) (.rcons (i8 3 10 14) (.rcons (i8 3 10 15) (.rcons (i8 3 10 16) (.rcons (i8 3 10 17) (.rcons (i8 3 10 18) (.rcons (i8 3 10 19) (.rcons (i8 3 10 20) (.rcons (i8 3 10 21) (.rcons (i8 3 10 22) (.rcons (i8 3 10 23) (.rcons (i8 3 10 24) (.rcons (i8 3 10 25) (.rcons (i8 3 10 26) (.rcons (i8 3 10 27) (.rcons (i8 3 10 28) (.rcons (i8 3 10 29) (.rcons (i8 3 10 30) (.rcons (i8 3 10 31) (.rcons (.vint .i64 (.icell (tv 3) (tv 10) 32)) (.rcons (.vint .u64 (.icell (tv 3) (tv 10) 33)) .rnil))))))))))))))))))))))))))))))))))),bt 1004 (.arith .add .i64 (tv 10) (tl 1)),bv 1002 14,bt 1001 (.plus (tv 7) (tl 1)),bg 1000 13]))))))
 (.back 0 6 (sg 1000 [bv 1003 9,bt 1004 (.arith .add .i64 (tv 10) (tl 1)),bv 1002 8,bv 1001 7,bg 1000 6]))))) .top))))
 (.ret 0 (sg 5 [bv 8 9,bv 7 8,bv 6 7,bg 5 6]))))))))
theorem q28:qn Tryz.prog qjz [qjG] [qyw] qvb:=qh Tryz.func65 Tryz.call65 (by kernel_rfl)
def qld:Out:=(fr 5 2 (.inv 0 7 (sg 1000 [bt 1004 .dnil,bt 1005 (tl 0),bt 1003 (tl 0),bt 1002 (tl 0),bg 1001 6,bg 1000 5]) (fr 7 6 (.hyp 0 7 (.need (.cmp .leq (tl 0) (tv 1)) (.br (.cmp .lss (tv 12) (tv 1))
 (.need (.cmp .leq (tl 0) (tv 12)) (.need (.cmp .lss (tv 12) (.dlen (tv 3))) (.br (.c2 .req (.rcons (i8 3 12 0) (.rcons (i8 3 12 1) (.rcons (i8 3 12 2) (.rcons (i8 3 12 3) (.rcons (i8 3 12 4) (.rcons (i8 3 12 5) (.rcons (i8 3 12 6) (.rcons (i8 3 12 7) (.rcons (i8 3 12 8) (.rcons (i8 3 12 9) (.rcons (i8 3 12 10) (.rcons (i8 3 12 11) (.rcons (i8 3 12 12) (.rcons (i8 3 12 13) (.rcons (i8 3 12 14) (.rcons (i8 3 12 15) (.rcons (i8 3 12 16) (.rcons (i8 3 12 17) (.rcons (i8 3 12 18) (.rcons (i8 3 12 19) (.rcons (i8 3 12 20) (.rcons (i8 3 12 21) (.rcons (i8 3 12 22) (.rcons (i8 3 12 23) (.rcons (i8 3 12 24) (.rcons (i8 3 12 25) (.rcons (i8 3 12 26) (.rcons (i8 3 12 27) (.rcons (i8 3 12 28) (.rcons (i8 3 12 29) (.rcons (i8 3 12 30) (.rcons (i8 3 12 31) .rnil)))))))))))))))))))))))))))))))) (r8 4))
 (.fresh 13 (.need (.cmp .eql (tv 9) (.dlen (tv 11))) (.need (.cmp .leq (.tims (tl 8) (.plus (tv 9) (tl 1))) (tl 140737488355328)) (fr 14 2 (.back 0 7 (sg 1000 [bt 1004 (.dapp (tv 11) (.rcons (.vint .i64 (.icell (tv 3) (tv 12) 32)) .rnil)),bt 1005 (.arith .add .i64 (tv 12) (tl 1)),bv 1003 15,bt 1002 (.plus (tv 9) (tl 1)),bg 1001 14,bg 1000 7]))))))
 (.back 0 7 (sg 1000 [bv 1004 11,bt 1005 (.arith .add .i64 (tv 12) (tl 1)),bv 1003 10,bv 1002 9,bg 1001 8,bg 1000 7])))))
 (.pre 0 (sg 0 [bv 4 10,bv 3 11,bv 2 10,bv 1 9,bg 0 8]) (.both (fr 13 4 (.post 0 0 (sg 0 [bv 4 10,bv 3 11,bv 2 10,bv 1 9,bg 0 8]) 13 (.ret 0 (sg 5 [bv 8 16,bv 7 15,bv 6 14,bg 5 13])))) .top))))))))
theorem qsT:qn Tryz.prog qej [qlP] [qn7] qld:=qh Tryz.func67 Tryz.call67 (by kernel_rfl)
@[simp] def qmy:T:=.rcons (i8 3 21 0) (.rcons (i8 3 21 1) (.rcons (i8 3 21 2) (.rcons (i8 3 21 3) (.rcons (i8 3 21 4) (.rcons (i8 3 21 5) (.rcons (i8 3 21 6) (.rcons (i8 3 21 7) (.rcons (i8 3 21 8) (.rcons (i8 3 21 9) (.rcons (i8 3 21 10) (.rcons (i8 3 21 11) (.rcons (i8 3 21 12) (.rcons (i8 3 21 13) (.rcons (i8 3 21 14) (.rcons (i8 3 21 15) (.rcons (i8 3 21 16) (.rcons (i8 3 21 17) (.rcons (i8 3 21 18) (.rcons (i8 3 21 19) (.rcons (i8 3 21 20) (.rcons (i8 3 21 21) (.rcons (i8 3 21 22) (.rcons (i8 3 21 23) (.rcons (i8 3 21 24) (.rcons (i8 3 21 25) (.rcons (i8 3 21 26) (.rcons (i8 3 21 27) (.rcons (i8 3 21 28) (.rcons (i8 3 21 29) (.rcons (i8 3 21 30) (.rcons (i8 3 21 31) .rnil)))))))))))))))))))))))))))))))
@[simp] def qd5:Out:=.back 0 20 (sg 1000 [bt 1001 (.arith .add .i64 (tv 21) (tl 1)),bg 1000 20])
@[simp] def qlV:Sg:=sg 0 [bv 3 6,bt 2 (.icell (tv 3) (tv 21) 33),bt 1 (.icell (tv 3) (tv 21) 32),bt 0 qmy]
def qoZ:Out:=(.fresh 19 (.inv 0 20 (sg 1000 [bt 1001 (tl 0),bg 1000 19]) (fr 20 2 (.hyp 0 20 (.need (.cmp .leq (tl 0) (tv 1)) (.br (.cmp .lss (tv 21) (tv 1))
 (.need (.cmp .leq (tl 0) (tv 21)) (.need (.cmp .lss (tv 21) (.dlen (tv 3))) (.fresh 22 (.br (.c2 .req qmy (r8 4))
 (.pre 0 qlV (.both (.fresh 23 (.post 0 0 qlV 23 (.br (tv 23)
 (.pre 1 (sg 0 [bv 4 18,bv 2 5,bt 1 (.icell (tv 3) (tv 21) 32),bt 0 (r8 4),bg 3 17]) (.both (.fresh 24 (.post 1 0 (sg 0 [bv 4 18,bv 2 5,bt 1 (.icell (tv 3) (tv 21) 32),bt 0 (r8 4),bg 3 17]) 24 (.br (tv 24)
 (.pre 2 (sg 0 [bv 4 11,bv 3 10,bt 5 (.icell (tv 3) (tv 21) 32),bv 2 9,bv 1 8,bg 0 7]) (.both (.fresh 25 (.post 2 0 (sg 0 [bv 4 11,bv 3 10,bt 5 (.icell (tv 3) (tv 21) 32),bv 2 9,bv 1 8,bg 0 7]) 25 (.br (tv 25)
 (.pre 2 (sg 0 [bv 4 16,bv 3 15,bt 5 (.icell (tv 3) (tv 21) 32),bv 2 14,bv 1 13,bg 0 12]) (.both (.fresh 26 (.post 2 0 (sg 0 [bv 4 16,bv 3 15,bt 5 (.icell (tv 3) (tv 21) 32),bv 2 14,bv 1 13,bg 0 12]) 26 (.br (.not (tv 26))
 (.ret 0 (sg 19 [bt 19 (.bl true)]))
 qd5))) .top))
 qd5))) .top))
 qd5))) .top))
 qd5))) .top))
 qd5))))
 (.ret 0 (sg 19 [bt 19 (.bl false)]))))))))
theorem qw1:qn Tryz.prog qgC [qjG,qhL,qor] [qsA] qoZ:=qh Tryz.func69 Tryz.call69 (by kernel_rfl)
def qmK (d:qf) (i:Int):List Value:=(qb8 d i).map (Value.int .u8) ++ [.int .i64 (qb d i 32),.int .u64 (qb d i 33)]
def qjM (d:qf) (a b:Int):List Value:=(qd d 32).map (Value.int .u8) ++ [.int .i64 a,.int .u64 b]
@[simp high] theorem q92 (d:qf) (i:Int):([.int .u8 (qb d i 0),.int .u8 (qb d i 1),.int .u8 (qb d i 2),.int .u8 (qb d i 3),.int .u8 (qb d i 4),.int .u8 (qb d i 5),.int .u8 (qb d i 6),.int .u8 (qb d i 7),.int .u8 (qb d i 8),.int .u8 (qb d i 9),.int .u8 (qb d i 10),.int .u8 (qb d i 11),.int .u8 (qb d i 12),.int .u8 (qb d i 13),.int .u8 (qb d i 14),.int .u8 (qb d i 15),.int .u8 (qb d i 16),.int .u8 (qb d i 17),.int .u8 (qb d i 18),.int .u8 (qb d i 19),.int .u8 (qb d i 20),.int .u8 (qb d i 21),.int .u8 (qb d i 22),.int .u8 (qb d i 23),.int .u8 (qb d i 24),.int .u8 (qb d i 25),.int .u8 (qb d i 26),.int .u8 (qb d i 27),.int .u8 (qb d i 28),.int .u8 (qb d i 29),.int .u8 (qb d i 30),.int .u8 (qb d i 31),.int .i64 (qb d i 32),.int .u64 (qb d i 33)]:List Value) = qmK d i:=rfl
@[simp high] theorem q9x (d:qf) (a b:Int):([.int .u8 (qa d 0),.int .u8 (qa d 1),.int .u8 (qa d 2),.int .u8 (qa d 3),.int .u8 (qa d 4),.int .u8 (qa d 5),.int .u8 (qa d 6),.int .u8 (qa d 7),.int .u8 (qa d 8),.int .u8 (qa d 9),.int .u8 (qa d 10),.int .u8 (qa d 11),.int .u8 (qa d 12),.int .u8 (qa d 13),.int .u8 (qa d 14),.int .u8 (qa d 15),.int .u8 (qa d 16),.int .u8 (qa d 17),.int .u8 (qa d 18),.int .u8 (qa d 19),.int .u8 (qa d 20),.int .u8 (qa d 21),.int .u8 (qa d 22),.int .u8 (qa d 23),.int .u8 (qa d 24),.int .u8 (qa d 25),.int .u8 (qa d 26),.int .u8 (qa d 27),.int .u8 (qa d 28),.int .u8 (qa d 29),.int .u8 (qa d 30),.int .u8 (qa d 31),.int .i64 a,.int .u64 b]:List Value) = qjM d a b:=rfl
theorem qu9 (l:List Int) (a b:Int) (hl:l.length = 32):qqC (l.map (Value.int .u8) ++ [.int .i64 a,.int .u64 b]) = (l,a,b):=by
 obtain ⟨a0,a1,a2,a3,a4,a5,a6,a7,a8,a9,a10,a11,a12,a13,a14,a15,a16,a17,a18,a19,a20,a21,a22,a23,a24,a25,a26,a27,a28,a29,a30,a31,rfl⟩:=q2G hl
 rfl
theorem q2t {d:qf} {i:Int}:(qb8 d i).length = 32:=by simp [qb8]
theorem q2Y {d:qf}:(qd d 32).length = 32:=by simp [qd]
theorem qr8 {d:qf} {i:Int}:qqC (qmK d i) = (qb8 d i,qb d i 32,qb d i 33):=qu9 _ _ _ q2t
theorem q4H {d:qf} {a b:Int}:qqC (qjM d a b) = (qd d 32,a,b):=qu9 _ _ _ q2Y
theorem qvt {d:qf} {i:Int}:(qmK d i).length = 34:=by simp [qmK,qb8]
theorem q75 {d:qf} {a b:Int}:(qjM d a b).length = 34:=by simp [qjM,qd]
theorem quC {d:qf} {i:Int} (i0:0 <= i) (i1:i < d.length):(rcL d)[i.toNat]? = some (qb8 d i,qb d i 32,qb d i 33):=by
 have hl:i.toNat < d.length:=by omega
 unfold rcL
 rw [jan,jac hl,jav]
 congr 1
 unfold qqC
 refine Prod.ext ?_ (Prod.ext ?_ ?_)
 ·exact jbt fun k hk=>by simp [qb,qG,qaJ,hl]
 ·simp [qb,qG,qaJ,hl]
 ·simp [qb,qG,qaJ,hl]
theorem qyk {d:qf}:(rcL d).length = d.length:=by simp [rcL]
theorem qkb {d:qf} {i:Int} (i0:0 <= i) (i1:i < d.length):(rcL d).take (i + 1).toNat = (rcL d).take i.toNat ++ [(qb8 d i,qb d i 32,qb d i 33)]:=by
 rw [show (i + 1).toNat = i.toNat + 1 by omega,jd9,quC i0 i1]; rfl
theorem qk1 {d:qf} {i:Int} (h:(d.length:Int) <= i):(rcL d).take i.toNat = rcL d:=ja3 (by rw [qyk]; omega)
theorem qtN:qbE [] 0 []:=by
 unfold qbE
 simp [rcL]
theorem qtW {d:qf} {n:Int} {l:List RC} {row:List Value} {x:RC} (h:qbE d n l) (hn:n <= 999) (hx:qqC row = x) (hl:row.length = 34) (h0:0 <= x.2.2/\x.2.2 < 18446744073709551616):qbE (d ++ [row]) (n + 1) (l ++ [x]):=by
 obtain ⟨h1,h2,h3,h4,h5⟩:=h
 refine ⟨by rw [jal]; simp; omega,by unfold rcL at h2 ⊢; rw [jci,h2,<- hx]; rfl,by omega,fun r hr=>?_,fun y hy=>?_⟩
 ·rcases jas.1 hr with hr | hr
  ·exact h4 r hr
  ·rw [jaj.1 hr]; exact hl
 ·rcases jas.1 hy with hy | hy
  ·exact h5 y hy
  ·rw [jaj.1 hy]; exact h0
theorem qnZ {d:qf} {n i:Int} {l:List RC} (h:qbE d n l) (i0:0 <= i) (i1:i < d.length):0 <= qb d i 33/\qb d i 33 < 18446744073709551616:=by
 obtain ⟨_,h2,_,_,h5⟩:=h
 have:=jbg (quC i0 i1)
 rw [h2] at this
 exact h5 _ this
theorem qkm {l:List RC} {p:RC->Bool} {k:Nat}:((l.take k).filter p).length <= k:=jde (jcb _ _) (by rw [jbm]; omega)
theorem qly {d:qf} {n:Int} {l:List RC} (h:qbE d n l):n = (l.length:Int):=by rw [h.1,<- h.2.1,qyk]
theorem q1o {d:qf} {i j:Int} {o:List Int} (i0:0 <= i) (i1:i < d.length):qhf ((rcL d).take (i + 1).toNat) o j = qhf ((rcL d).take i.toNat) o j ++ if qb8 d i = o/\qb d i 32 = j then [] else [(qb8 d i,qb d i 32,qb d i 33)]:=by
 rw [qkb i0 i1]
 unfold qhf
 rw [jcz]
 by_cases h:qb8 d i = o/\qb d i 32 = j
 ·simp [h]
 ·have hd:decide (qb8 d i = o/\qb d i 32 = j) = false:=jdw h
  simp only [jc5,hd,jfi,jbw,List.filter_nil,jaf h]
theorem qyD {d:qf} {i c:Int} (i0:0 <= i) (i1:i < d.length):qep ((rcL d).take (i + 1).toNat) c = qep ((rcL d).take i.toNat) c ++ if qcl (qb d i 33) c = true then [(qb8 d i,qb d i 32,qb d i 33)] else []:=by
 rw [qkb i0 i1]
 unfold qep
 rw [jcz]
 by_cases h:qcl (qb d i 33) c = true <;> simp [h]
theorem q6W {d:qf} {i:Int} {o:List Int} (i0:0 <= i) (i1:i < d.length):ofL ((rcL d).take (i + 1).toNat) o = ofL ((rcL d).take i.toNat) o ++ if qb8 d i = o then [qb d i 32] else []:=by
 rw [qkb i0 i1]
 unfold ofL
 rw [jcz,jci]
 by_cases h:qb8 d i = o <;> simp [h]
theorem q2X {d:qf} {i s c:Int} {o L H:List Int} (i0:0 <= i) (i1:i < d.length):qhz o s c L H ((rcL d).take (i + 1).toNat) = (qhz o s c L H ((rcL d).take i.toNat) || blE o s c L H (qb8 d i,qb d i 32,qb d i 33)):=by
 rw [qkb i0 i1]
 unfold qhz
 rw [List.any_append]; simp
theorem q69 {d:qf} {i s c:Int} {o L H:List Int} (i0:0 <= i) (i1:i < d.length) (h:blE o s c L H (qb8 d i,qb d i 32,qb d i 33) = true):qhz o s c L H (rcL d) = true:=by
 unfold qhz
 exact jc0.2 ⟨_,jbg (quC i0 i1),h⟩
theorem q3Y {d:qf} {i j:Int} {o:List Int} (i0:0 <= i):((qhf ((rcL d).take i.toNat) o j).length:Int) <= i:=by
 have:=qkm (l:=rcL d) (p:=fun x=>!decide (x.1 = o/\x.2.1 = j)) (k:=i.toNat)
 have e:qhf ((rcL d).take i.toNat) o j = ((rcL d).take i.toNat).filter fun x=>!decide (x.1 = o/\x.2.1 = j):=rfl
 rw [e]; omega
theorem q0W {d:qf} {i c:Int} (i0:0 <= i):((qep ((rcL d).take i.toNat) c).length:Int) <= i:=by
 have:=qkm (l:=rcL d) (p:=fun x=>qcl x.2.2 c) (k:=i.toNat)
 have e:qep ((rcL d).take i.toNat) c = ((rcL d).take i.toNat).filter fun x=>qcl x.2.2 c:=rfl
 rw [e]; omega
theorem q8v {d:qf} {i:Int} {o:List Int} (i0:0 <= i):((ofL ((rcL d).take i.toNat) o).length:Int) <= i:=by
 have:=qkm (l:=rcL d) (p:=fun x=>decide (x.1 = o)) (k:=i.toNat)
 unfold ofL
 rw [ja0]; omega
theorem q7m {d:qf} {n z:Int} {l:List Int} (h:qaw d n l):qaw (d ++ [[.int .i64 z]]) (n + 1) (l ++ [z]):=by
 obtain ⟨h1,h2,h3⟩:=h
 refine ⟨by rw [jal]; simp; omega,by unfold qk at h2 ⊢; rw [jci,h2]; rfl,fun r hr=>?_⟩
 rcases jas.1 hr with hr | hr
 ·exact h3 r hr
 ·rw [jaj.1 hr]; rfl
theorem qrt {d:qf} {n:Int} {l:List Int} (h:qaw d n l):n = (l.length:Int):=by rw [h.1,<- h.2.1]; simp [qk]
theorem q7S:qjU (fun _ _=>none) []:=fun o i t=>by simp
theorem q5w {cl:Cl} {l:List RC} {o:List Int} {i t:Int} (h:qjU cl l):qjU (qcS cl o i t) (qix l o i t):=fun o' i' t'=>by
 unfold qcS qix qhf
 by_cases hi:0 <= i/\i < 16
 ·rw [jah hi,jah hi,jas,jb4,jaj]
  by_cases hk:o' = o/\i' = i
  ·obtain ⟨rfl,rfl⟩:=hk
   simp [eq_comm]
  ·have:¬ (o' = o/\i' = i):=hk
   simp only [this,ja7,decide_false,jfi,and_true,jao]
   rw [h o' i' t']
   exact ⟨.inl,fun hh=>hh.resolve_right fun ⟨e1,e2,_⟩=>hk ⟨e1,e2⟩⟩
 ·rw [jaf hi,jaf hi]; exact h o' i' t'
theorem q3i {cl:Cl} {l:List RC} {c:Int} (h:qjU cl l):qjU (qdf cl c) (qep l c):=fun o i t=>by
 unfold qdf qep
 rw [jb4,<- h o i t]
 cases hc:cl o i with
 | none=>simp
 | some t' =>
  simp only
  by_cases hq:qcl t' c = true
  ·rw [jah hq]
   constructor
   ·intro e
    obtain rfl:=jaz e
    exact ⟨rfl,hq⟩
   ·exact fun e=>e.1
  ·rw [jaf hq]
   constructor
   ·intro e; cases e
   ·rintro ⟨e,e2⟩
    obtain rfl:=jaz e
    exact absurd e2 hq
theorem qtd {cl:Cl} {l:List RC} {o:List Int} (h:qjU cl l):qcX cl o = qbb (ofL l o):=by
 unfold qcX qbb
 refine jfs fun i _=>?_
 apply jfc.2
 rw [jbc]
 unfold ofL
 rw [jbb,jet]
 constructor
 ·rintro ⟨t,ht⟩
  exact ⟨(o,i,t),jb4.2 ⟨(h o i t).1 ht,by simp⟩,rfl⟩
 ·rintro ⟨⟨o',i',t⟩,hx,rfl⟩
  obtain ⟨hx,he⟩:=jb4.1 hx
  have he:o' = o:=jbf he
  exact ⟨t,(h o i' t).2 (he ▸ hx)⟩
theorem qw3 {cl:Cl} {l:List RC} {o:List Int} {s c:Int} {L H:List Int} (h:qjU cl l) (hr:∀ o i t,cl o i = some t->0 <= i/\i < 16/\0 <= t/\t < 18446744073709551616):qcd cl o s c L H = qhz o s c L H l:=by
 apply jfc.2
 unfold qcd qhz
 rw [jc0,jc0]
 constructor
 ·rintro ⟨i,_,hb⟩
  cases hc:cl o (i:Int) with
  | none=>rw [hc] at hb; cases hb
  | some t =>
   rw [hc] at hb
   simp only [jag] at hb
   refine ⟨(o,(i:Int),t),(h _ _ _).1 hc,?_⟩
   unfold blE
   simp only [jag]
   exact ⟨⟨⟨⟨by simp,hb.1.1.1⟩,hb.2⟩,hb.1.1.2⟩,hb.1.2⟩
 ·rintro ⟨⟨o',i,t⟩,hx,hb⟩
  unfold blE at hb
  simp only [jag] at hb
  have he:o' = o:=jbf hb.1.1.1.1
  have hc:=(h o i t).2 (he ▸ hx)
  obtain ⟨i0,i1,_⟩:=hr _ _ _ hc
  refine ⟨i.toNat,jb5.2 (by omega),?_⟩
  rw [show ((i.toNat:Nat):Int) = i by omega,hc]
  simp only [jag]
  exact ⟨⟨⟨hb.1.1.1.2,hb.1.2⟩,hb.2⟩,hb.1.1.2⟩
set_option maxRecDepth 20000
theorem qxF:qjG.ok Tryz.prog:=q7l (by simp) fun Z hg hp=>by
 obtain ⟨h0,h1,h2,h3⟩:=hp
 simp (config:={ maxSteps:=4000000 }) [q14,qjG]
 have hu:(Z 2).i <= (Z 3).i->qe .sub .u64 (Z 3).i (Z 2).i = (Z 3).i - (Z 2).i:=fun h=>by
  show IntKind.wrap .u64 _ = _
  rw [qj4]; omega
 refine ⟨fun h=>?_,fun h=>?_⟩
 ·rw [hu h]; unfold qcl; rw [jda h,jef]; rfl
 ·unfold qcl; rw [jdw (by omega),jfz]
theorem q3R:qlz.ok Tryz.prog:=q3N (by simp) fun Z hg hp=>by
 obtain ⟨⟨l,hL⟩,hn,h0,h1⟩:=hp
 simp (config:={ maxSteps:=4000000 }) [qye,qlz,q2a]
 have hlen:(Z 1).i = (Z 3).d.length:=hL.1
 have hno:¬ (0 <= (Z 5).i/\(Z 5).i < 16)->∀ l',qbE (Z 3).d (Z 1).i l'->qbE (Z 3).d (Z 1).i (qix l' (qd (Z 4).d 32) (Z 5).i (Z 6).i):=fun h l' hl'=>by unfold qix; rw [jaf h]; exact hl'
 refine ⟨fun h=>hno (by omega),fun h5=>⟨fun h=>hno (by omega),fun h15=>⟨⟨by omega,qtN⟩,?_⟩⟩⟩
 intro A _ D _ I _ i0 i1 hA
 have hAl:=qly hA
 have hk:=q3Y (d:=(Z 3).d) (j:=(Z 5).i) (o:=qd (Z 4).d 32) i0
 refine ⟨by omega,fun hi=>?_,fun hi=>?_⟩
 ·have hb:I.i < (Z 3).d.length:=by omega
  have happ:=qtW hA (by omega) qr8 qvt (qnZ hL i0 hb)
  rw [qcI i0 (by omega),q1o i0 hb]
  refine ⟨i0,hb,fun hne=>⟨hA.1,by omega,⟨by omega,by omega,?_⟩,by omega⟩,fun he=>⟨fun hne=>⟨hA.1,by omega,⟨by omega,by omega,?_⟩,by omega⟩,fun he2=>⟨⟨by omega,by omega,?_⟩,by omega⟩⟩⟩
  ·rw [jaf (fun h=>hne h.1)]; exact happ
  ·rw [jaf (fun h=>hne h.2)]; exact happ
  ·rw [jah ⟨he,he2⟩,jcl]; exact hA
 ·refine ⟨hA.1,by omega,fun l' hl'=>?_⟩
  rw [qk1 (by omega),hl'.2.1] at hA
  unfold qix
  rw [jah ⟨h5,by omega⟩]
  exact qtW hA (by omega) q4H q75 ⟨h0,h1⟩
theorem q1Z:qjz.ok Tryz.prog:=q28 (by simp [qxF]) fun Z hg hp=>by
 obtain ⟨⟨l,hL⟩,h0,h1⟩:=hp
 simp (config:={ maxSteps:=4000000 }) [qvb,qjz,qyw,qjG]
 have hlen:(Z 1).i = (Z 3).d.length:=hL.1
 have hlm:=hL.2.2.1
 refine ⟨⟨by omega,qtN⟩,?_⟩
 intro A _ D _ I _ i0 i1 hA
 have hAl:=qly hA
 have hk:=q0W (d:=(Z 3).d) (c:=(Z 4).i) i0
 refine ⟨by omega,fun hi=>?_,fun hi l' hl'=>?_⟩
 ·have hb:I.i < (Z 3).d.length:=by omega
  have hck:=qnZ hL i0 hb
  have happ:=qtW hA (by omega) qr8 qvt hck
  rw [qcI i0 (by omega),qyD i0 hb]
  refine ⟨i0,hb,⟨hck.1,hck.2,h0,h1⟩,fun w _ hw=>⟨fun ht=>⟨hA.1,by omega,⟨by omega,by omega,?_⟩,by omega⟩,fun hf=>⟨⟨by omega,by omega,?_⟩,by omega⟩⟩⟩
  ·rw [jah (by rw [<- hw]; exact ht)]; exact happ
  ·rw [jaf (by rw [<- hw,hf]; simp),jcl]; exact hA
 ·rw [qk1 (by omega),hl'.2.1] at hA; exact hA
theorem qti:qej.ok Tryz.prog:=qsT (by simp [q3C]) fun Z hg hp=>by
 obtain ⟨l,hL⟩:=hp
 simp (config:={ maxSteps:=4000000 }) [qld,qej,qn7,qlP,qay]
 have hlen:(Z 1).i = (Z 3).d.length:=hL.1
 have hlm:=hL.2.2.1
 refine ⟨⟨by omega,rfl,rfl,fun _ h=>by cases h⟩,?_⟩
 intro A _ D _ I _ i0 i1 hA
 have hAl:=qrt hA
 have hk:=q8v (d:=(Z 3).d) (o:=qd (Z 4).d 32) i0
 refine ⟨by omega,fun hi=>?_,fun hi=>?_⟩
 ·have hb:I.i < (Z 3).d.length:=by omega
  rw [qcI i0 (by omega),q6W i0 hb]
  refine ⟨i0,hb,fun he=>⟨hA.1,by omega,⟨by omega,by omega,?_⟩,by omega⟩,fun hne=>⟨⟨by omega,by omega,?_⟩,by omega⟩⟩
  ·rw [jah he]; exact q7m hA
  ·rw [jaf hne,jcl]; exact hA
 ·refine ⟨⟨hA.1,by omega,hA.2.2⟩,fun B _ E _ hB hE hr l' hl'=>⟨hB,?_,hr⟩⟩
  rw [qk1 (by omega),hl'.2.1] at hA
  rw [hE,hA.2.1]
theorem qxg:qgC.ok Tryz.prog:=qw1 (by simp [qxF,qyN,q2n]) fun Z hg hp=>by
 obtain ⟨⟨l,hL⟩,hO,h0,h1,⟨hi1,hi2,hi3⟩,⟨hj1,hj2,hj3⟩,hGr,hGd⟩:=hp
 simp only [Nat.reduceAdd] at hi1 hi2 hi3 hj1 hj2 hj3
 simp (config:={ maxSteps:=4000000 }) [qoZ,qgC,qsA,qjG,qhL,qor,qay,qbL,gOk,hO,hGr,hGd]
 have hlen:(Z 1).i = (Z 3).d.length:=hL.1
 have hlm:=hL.2.2.1
 refine ⟨⟨by omega,rfl⟩,?_⟩
 intro I _ i0 i1 hA
 refine ⟨by omega,fun hi=>?_,fun hi l' hl'=>?_⟩
 ·have hb:I.i < (Z 3).d.length:=by omega
  have hck:=qnZ hL i0 hb
  have hf:blE (qd (Z 4).d 32) (Z 5).i (Z 6).i (qk (Z 10).d) (qk (Z 15).d) (qb8 (Z 3).d I.i,qb (Z 3).d I.i 32,qb (Z 3).d I.i 33) = false->0 <= I.i + 1/\I.i + 1 <= (Z 1).i/\qhz (qd (Z 4).d 32) (Z 5).i (Z 6).i (qk (Z 10).d) (qk (Z 15).d) ((rcL (Z 3).d).take (I.i + 1).toNat) = false:=fun h=>⟨by omega,by omega,by rw [q2X i0 hb,hA,h]; rfl⟩
  rw [qcI i0 (by omega)]
  refine ⟨i0,hb,⟨fun he=>⟨⟨hck.1,hck.2,h0,h1⟩,fun w _ hw=>⟨fun ht=>fun w2 _ hw2=>⟨fun ht2=>⟨⟨hi1,hi2,hi3⟩,fun w3 _ hw3=>⟨fun ht3=>⟨⟨hj1,hj2,hj3⟩,fun w4 _ hw4=>⟨fun hf4 l' hl'=>?_,fun ht4=>⟨hf ?_,by omega⟩⟩⟩,fun hf3=>⟨hf ?_,by omega⟩⟩⟩,fun hf2=>⟨hf ?_,by omega⟩⟩,fun hf1=>⟨hf ?_,by omega⟩⟩⟩,fun hne=>⟨hf ?_,by omega⟩⟩⟩
  ·rw [<- hl'.2.1]
   refine q69 i0 hb ?_
   unfold blE
   simp only [he,<- hw,<- hw2,<- hw3,<- hw4,ht,ht2,ht3,hf4]; simp
  ·unfold blE; simp only [<- hw4,ht4]; simp
  ·unfold blE; simp only [<- hw3,hf3]; simp
  ·unfold blE; simp only [<- hw2,hf2]; simp
  ·unfold blE; simp only [<- hw,hf1]; simp
  ·unfold blE; simp [hne]
 ·rw [qk1 (by omega),hl'.2.1] at hA; exact hA
set_option maxRecDepth 100000
@[simp] def qa5:T:=.rcons (i8 3 21 1) (.rcons (i8 3 21 2) (.rcons (i8 3 21 3) (.rcons (i8 3 21 4) (.rcons (i8 3 21 5) (.rcons (i8 3 21 6) (.rcons (i8 3 21 7) (.rcons (i8 3 21 8) (.rcons (i8 3 21 9) (.rcons (i8 3 21 10) (.rcons (i8 3 21 11) (.rcons (i8 3 21 12) (.rcons (i8 3 21 13) (.rcons (i8 3 21 14) (.rcons (i8 3 21 15) (.rcons (i8 3 21 16) (.rcons (i8 3 21 17) (.rcons (i8 3 21 18) (.rcons (i8 3 21 19) (.rcons (i8 3 21 20) (.rcons (i8 3 21 21) (.rcons (i8 3 21 22) (.rcons (i8 3 21 23) (.rcons (i8 3 21 24) (.rcons (i8 3 21 25) (.rcons (i8 3 21 26) (.rcons (i8 3 21 27) (.rcons (i8 3 21 28) (.rcons (i8 3 21 29) (.rcons (i8 3 21 30) (.rcons (i8 3 21 31) (.rcons (i8 3 21 32) .rnil)))))))))))))))))))))))))))))))
@[simp] def qjh:Sg:=sg 0 [bg 3 29,bv 2 15,bt 1 qa5,bg 0 14]
@[simp] def qiX:Sg:=sg 0 [bv 3 33,bt 4 qa5,bv 2 32,bv 1 31,bg 0 30]
@[simp] def qkW:Sg:=sg 0 [bv 17 9,bv 15 54,bv 14 55,bv 10 48,bv 9 49,bg 5 38,bv 4 15,bv 13 54,bt 12 (.dlen (tv 52)),bg 11 53,bv 8 48,bt 7 (.dlen (tv 46)),bg 6 47,bt 3 (.icell (tv 3) (tv 21) 36),bt 2 (.icell (tv 3) (tv 21) 34),bt 1 qa5,bg 0 14,bg 16 8]
@[simp] def qkO:Sg:=sg 0 [bv 18 7,bv 16 62,bv 15 63,bv 11 59,bv 10 60,bv 3 33,bv 14 62,bt 13 (.dlen (tv 63)),bg 12 61,bv 9 59,bt 8 (.dlen (tv 60)),bg 7 58,bt 6 (.icell (tv 3) (tv 21) 36),bt 5 (.icell (tv 3) (tv 21) 34),bt 4 qa5,bv 2 32,bv 1 31,bg 0 30,bg 17 6]
@[simp] def qkP:Sg:=sg 0 [bg 3 20,bv 2 15,bt 1 qa5,bg 0 14]
@[simp] def qkU:Sg:=sg 0 [bv 3 19,bt 4 qa5,bv 2 18,bv 1 17,bg 0 16]
@[simp] def qkR:Sg:=sg 0 [bg 5 20,bv 4 15,bt 3 (.icell (tv 3) (tv 21) 35),bt 2 (.icell (tv 3) (tv 21) 33),bt 1 qa5,bg 0 14]
@[simp] def qkT:Sg:=sg 0 [bv 3 19,bt 6 (.icell (tv 3) (tv 21) 35),bt 5 (.icell (tv 3) (tv 21) 33),bt 4 qa5,bv 2 18,bv 1 17,bg 0 16]
@[simp] def qkS:Sg:=sg 0 [bv 17 9,bv 15 49,bv 14 50,bv 10 43,bv 9 44,bg 5 33,bv 4 15,bv 13 49,bt 12 (.dlen (tv 47)),bg 11 48,bv 8 43,bt 7 (.dlen (tv 41)),bg 6 42,bt 3 (.icell (tv 3) (tv 21) 36),bt 2 (.icell (tv 3) (tv 21) 34),bt 1 qa5,bg 0 14,bg 16 8]
@[simp] def qkL:Sg:=sg 0 [bv 18 7,bv 16 57,bv 15 58,bv 11 54,bv 10 55,bv 3 19,bv 14 57,bt 13 (.dlen (tv 58)),bg 12 56,bv 9 54,bt 8 (.dlen (tv 55)),bg 7 53,bt 6 (.icell (tv 3) (tv 21) 36),bt 5 (.icell (tv 3) (tv 21) 34),bt 4 qa5,bv 2 18,bv 1 17,bg 0 16,bg 17 6]
@[simp] def qkK:Out:=.both (.pre 6 qjh (.both (fr 34 5 (.post 6 0 qjh 34 (.both (.pre 10 qiX (.both (fr 39 4 (.post 10 0 qiX 39 (.both (.pre 1 (sg 0 [bv 9 41,bv 8 42,bv 4 36,bv 3 37,bv 7 41,bv 6 40,bg 5 39,bv 2 36,bv 1 35,bg 0 34]) (.both (.fresh 43 (.post 1 0 (sg 0 [bv 9 41,bv 8 42,bv 4 36,bv 3 37,bv 7 41,bv 6 40,bg 5 39,bv 2 36,bv 1 35,bg 0 34]) 43 (.br (.not (tv 43))
 (.both (.both (.both (.both (.stuck 7 0 0) .top) .top) .top) .top)
 (.both (.view (.vcell (tv 3) (tv 21) 37) [CK.int .i64] [5] 44 (.pre 0 (sg 0 [bv 4 45,bv 3 46,bv 2 45,bt 1 (.dlen (tv 46)),bg 0 44]) (.both (fr 47 3 (.post 0 0 (sg 0 [bv 4 45,bv 3 46,bv 2 45,bt 1 (.dlen (tv 46)),bg 0 44]) 47 (.both (.view (.vcell (tv 3) (tv 21) 38) [CK.int .i64] [5] 50 (.pre 0 (sg 0 [bv 4 51,bv 3 52,bv 2 51,bt 1 (.dlen (tv 52)),bg 0 50]) (.both (fr 53 3 (.post 0 0 (sg 0 [bv 4 51,bv 3 52,bv 2 51,bt 1 (.dlen (tv 52)),bg 0 50]) 53 (.both (.pre 4 qkW (.both (fr 56 2 (.post 4 0 qkW 56 (.both (.view (.vcell (tv 3) (tv 21) 37) [CK.int .i64] [5] 58 (.view (.vcell (tv 3) (tv 21) 38) [CK.int .i64] [5] 61 (.pre 11 qkO (.both (.fresh 64 (.post 11 0 qkO 64 (.br (.not (.beq (tv 56) (tv 64)))
 (.stuck 7 0 0)
 (.back 0 14 (sg 1000 [bg 1006 57,bv 1005 33,bv 1001 15,bt 1007 (.arith .add .i64 (tv 21) (tl 1)),bv 1004 32,bv 1003 31,bg 1002 30,bg 1000 14]))))) .top)))) .top))) .top)) .top))) .top))) .top))) .top))) .top)))) .top)) .top))) .top)) .top))) .top)) .top
def qne:Out:=(.need (.cmp .leq (tl 0) (tv 1)) (.br (.cmp .gtr (tv 1) (tl 100))
 (.pre 7 (sg 0 [bv 1 9,bg 0 8]) (.both (.post 7 0 (sg 0 [bv 1 9,bg 0 8]) 10 (.ret 0 (sg 10 []))) .top))
 (.pre 2 (sg 0 []) (.both (fr 10 3 (.post 2 0 (sg 0 []) 10 (.fresh 13 (.inv 0 14 (sg 1000 [bg 1006 12,bt 1005 .dnil,bv 1001 11,bt 1007 (tl 0),bt 1004 (tl 0),bt 1003 (tl 0),bg 1002 13,bg 1000 10]) (fr 14 8 (.hyp 0 14 (.br (.cmp .lss (tv 21) (tv 1))
 (.need (.cmp .leq (tl 0) (tv 21)) (.need (.cmp .lss (tv 21) (.dlen (tv 3))) (.fresh 22 (.view (.vcell (tv 3) (tv 21) 37) [CK.int .i64] [5] 23 (.br (.cmp .gtr (.dlen (tv 25)) (tl 40))
 (.pre 7 (sg 0 [bv 1 9,bg 0 8]) (.both (.post 7 0 (sg 0 [bv 1 9,bg 0 8]) 26 (.ret 0 (sg 10 []))) .top))
 (.view (.vcell (tv 3) (tv 21) 38) [CK.int .i64] [5] 26 (.br (.cmp .gtr (.dlen (tv 28)) (tl 40))
 (.pre 7 (sg 0 [bv 1 9,bg 0 8]) (.both (.post 7 0 (sg 0 [bv 1 9,bg 0 8]) 29 (.ret 0 (sg 10 []))) .top))
 (.br (.cmp .eql (.icell (tv 3) (tv 21) 0) (tl 1))
 (.pre 3 qkR (.both (.fresh 29 (.post 3 0 qkR 29 (.pre 8 qkT (.both (fr 30 4 (.post 8 0 qkT 30 qkK)) .top)))) .top))
 (.br (.cmp .eql (.icell (tv 3) (tv 21) 0) (tl 2))
 (.pre 5 (sg 0 [bg 3 20,bv 2 15,bt 1 (.icell (tv 3) (tv 21) 35),bg 0 14]) (.both (.fresh 29 (.post 5 0 (sg 0 [bg 3 20,bv 2 15,bt 1 (.icell (tv 3) (tv 21) 35),bg 0 14]) 29 (.pre 9 (sg 0 [bv 3 19,bt 4 (.icell (tv 3) (tv 21) 35),bv 2 18,bv 1 17,bg 0 16]) (.both (fr 30 4 (.post 9 0 (sg 0 [bv 3 19,bt 4 (.icell (tv 3) (tv 21) 35),bv 2 18,bv 1 17,bg 0 16]) 30 qkK)) .top)))) .top))
 (.both (.pre 6 qkP (.both (fr 29 5 (.post 6 0 qkP 29 (.both (.pre 10 qkU (.both (fr 34 4 (.post 10 0 qkU 34 (.both (.pre 1 (sg 0 [bv 9 36,bv 8 37,bv 4 31,bv 3 32,bv 7 36,bv 6 35,bg 5 34,bv 2 31,bv 1 30,bg 0 29]) (.both (.fresh 38 (.post 1 0 (sg 0 [bv 9 36,bv 8 37,bv 4 31,bv 3 32,bv 7 36,bv 6 35,bg 5 34,bv 2 31,bv 1 30,bg 0 29]) 38 (.br (.not (tv 38))
 (.both (.both (.both (.both (.stuck 7 0 0) .top) .top) .top) .top)
 (.both (.view (.vcell (tv 3) (tv 21) 37) [CK.int .i64] [5] 39 (.pre 0 (sg 0 [bv 4 40,bv 3 41,bv 2 40,bt 1 (.dlen (tv 41)),bg 0 39]) (.both (fr 42 3 (.post 0 0 (sg 0 [bv 4 40,bv 3 41,bv 2 40,bt 1 (.dlen (tv 41)),bg 0 39]) 42 (.both (.view (.vcell (tv 3) (tv 21) 38) [CK.int .i64] [5] 45 (.pre 0 (sg 0 [bv 4 46,bv 3 47,bv 2 46,bt 1 (.dlen (tv 47)),bg 0 45]) (.both (fr 48 3 (.post 0 0 (sg 0 [bv 4 46,bv 3 47,bv 2 46,bt 1 (.dlen (tv 47)),bg 0 45]) 48 (.both (.pre 4 qkS (.both (fr 51 2 (.post 4 0 qkS 51 (.both (.view (.vcell (tv 3) (tv 21) 37) [CK.int .i64] [5] 53 (.view (.vcell (tv 3) (tv 21) 38) [CK.int .i64] [5] 56 (.pre 11 qkL (.both (.fresh 59 (.post 11 0 qkL 59 (.br (.not (.beq (tv 51) (tv 59)))
 (.stuck 7 0 0)
 (.back 0 14 (sg 1000 [bg 1006 52,bv 1005 19,bv 1001 15,bt 1007 (.arith .add .i64 (tv 21) (tl 1)),bv 1004 18,bv 1003 17,bg 1002 16,bg 1000 14]))))) .top)))) .top))) .top)) .top))) .top))) .top))) .top))) .top)))) .top)) .top))) .top)) .top))) .top)) .top))))))))))
 (.pre 7 (sg 0 [bv 1 9,bg 0 8]) (.both (.post 7 0 (sg 0 [bv 1 9,bg 0 8]) 22 (.ret 0 (sg 10 []))) .top))))))))) .top))))
theorem qt3:qn Tryz.prog qda [qph,qm5,qgG,qik,qdF,qm1,qfx,qhu,qlz,qjz,qej,qgC] [qxv] qne:=qh Tryz.func13 Tryz.call13 (by kernel_rfl)
set_option maxRecDepth 20000
def qf2 (d:qf) (i:Int):List Int:=(List.range 32).map fun k=>qb d i (k + 1)
@[simp high] theorem q9T (d:qf) (i:Int):qd [[.int .u8 (qb d i 1),.int .u8 (qb d i 2),.int .u8 (qb d i 3),.int .u8 (qb d i 4),.int .u8 (qb d i 5),.int .u8 (qb d i 6),.int .u8 (qb d i 7),.int .u8 (qb d i 8),.int .u8 (qb d i 9),.int .u8 (qb d i 10),.int .u8 (qb d i 11),.int .u8 (qb d i 12),.int .u8 (qb d i 13),.int .u8 (qb d i 14),.int .u8 (qb d i 15),.int .u8 (qb d i 16),.int .u8 (qb d i 17),.int .u8 (qb d i 18),.int .u8 (qb d i 19),.int .u8 (qb d i 20),.int .u8 (qb d i 21),.int .u8 (qb d i 22),.int .u8 (qb d i 23),.int .u8 (qb d i 24),.int .u8 (qb d i 25),.int .u8 (qb d i 26),.int .u8 (qb d i 27),.int .u8 (qb d i 28),.int .u8 (qb d i 29),.int .u8 (qb d i 30),.int .u8 (qb d i 31),.int .u8 (qb d i 32)]] 32 = qf2 d i:=rfl
def q8Y (hr:Hp) (D:qf) (i N:Int) (h:Hp) (v:Value) (d0:qf) (n:Int):Prop:=(∃ cl,qj h v cl)/\∀ (u_6:U),u_6.good->∀ (u_7:U),u_7.good->∀ (u_8:U),u_8.good->(∀ (cl:Cl),qj h v cl->qj u_8.h v cl/\qaw u_7.d u_6.i (qcX cl (qf2 D i)))->(∃ l,qbE d0 n l)/\∀ (u_9:U),u_9.good->∀ (u_10:U),u_10.good->(∀ (l:List RC),qbE d0 n l->qaw u_10.d u_9.i (qbb (ofL l (qf2 D i))))->((u_6.i = (u_7.d.length:Int)/\u_6.i <= 1000000000000/\∀ (row:List Value),row ∈ u_7.d->row.length = 1)/\u_9.i = (u_10.d.length:Int)/\u_9.i <= 1000000000000/\∀ (row:List Value),row ∈ u_10.d->row.length = 1)/\∀ (u_11:U),u_11.good->u_11.b = decide (qk u_7.d = qk u_10.d)->u_11.b = true/\(u_11.b = true->∃ d,Rd hr kI (qG D i 37) d/\((d.length:Int) <= 1000000000000/\∀ (row:List Value),row ∈ d->row.length = 1)/\∀ (u_12:U),u_12.good->u_12.d = d->∃ d_1,Rd hr kI (qG D i 38) d_1/\((d_1.length:Int) <= 1000000000000/\∀ (row:List Value),row ∈ d_1->row.length = 1)/\∀ (u_13:U),u_13.good->u_13.d = d_1->((∃ cl,qj u_8.h v cl)/\qH (qf2 D i)/\((d.length:Int) = (u_12.d.length:Int)/\(d.length:Int) <= 1000000000000/\∀ (row:List Value),row ∈ u_12.d->row.length = 1)/\((d_1.length:Int) = (u_13.d.length:Int)/\(d_1.length:Int) <= 1000000000000/\∀ (row:List Value),row ∈ u_13.d->row.length = 1)/\0 <= qb D i 36/\qb D i 36 < 18446744073709551616)/\∀ (u_14:U),u_14.good->∀ (u_15:U),u_15.good->(∀ (cl:Cl),qj u_8.h v cl->qj u_15.h v cl/\u_14.b = qcd cl (qf2 D i) (qb D i 34) (qb D i 36) (qk u_12.d) (qk u_13.d))->∃ d,Rd hr kI (qG D i 37) d/\∃ d_2,Rd hr kI (qG D i 38) d_2/\((∃ l,qbE d0 n l)/\qH (qf2 D i)/\0 <= qb D i 36/\qb D i 36 < 18446744073709551616/\((d.length:Int) <= 1000000000000/\∀ (row:List Value),row ∈ d->row.length = 1)/\(d_2.length:Int) <= 1000000000000/\∀ (row:List Value),row ∈ d_2->row.length = 1)/\∀ (u_16:U),u_16.good->(∀ (l:List RC),qbE d0 n l->u_16.b = qhz (qf2 D i) (qb D i 34) (qb D i 36) (qk d) (qk d_2) l)->u_14.b = u_16.b/\(u_14.b = u_16.b->(0 <= qe BinOp.add IntKind.i64 i 1/\qe BinOp.add IntKind.i64 i 1 <= N/\qxI u_15.h v d0 n (qe BinOp.add IntKind.i64 i 1))/\max (N - qe BinOp.add IntKind.i64 i 1) 0 < N - i))
theorem q0Y {l:List RC} {o:List Int} {i t:Int}:(qix l o i t).length <= l.length + 1:=by
 unfold qix
 split
 ·rw [jal]
  have:(qhf l o i).length <= l.length:=jcb _ _
  simp only [jc7]; omega
 ·omega
theorem qrh {hr:Hp} {D:qf} {i N:Int} {h:Hp} {v:Value} {d0 A B:qf} {n:Int} {cl:Cl} {l:List RC} (i0:0 <= i) (iN:i < N) (hN:N <= 100) (hO:qH (qf2 D i)) (hnw:0 <= qb D i 36/\qb D i 36 < 18446744073709551616)
  (hA1:Rd hr kI (qG D i 37) A) (hA2:∀ row ∈ A,row.length = 1) (hB1:Rd hr kI (qG D i 38) B) (hB2:∀ row ∈ B,row.length = 1) (a40:(A.length:Int) <= 40) (b40:(B.length:Int) <= 40) (hn:n <= i + 1) (hc:qj h v cl) (hl:qbE d0 n l) (hrel:qjU cl l):q8Y hr D i N h v d0 n:=by
 have hrr:∀ o i t,cl o i = some t->0 <= i/\i < 16/\0 <= t/\t < 18446744073709551616:=by
  obtain ⟨b,l,c0,rfl,_,_,_,_,hr⟩:=hc; exact hr
 refine ⟨⟨cl,hc⟩,fun u6 _ u7 _ u8 _ h8=>?_⟩
 obtain ⟨g1,g2⟩:=h8 cl hc
 refine ⟨⟨l,hl⟩,fun u9 _ u10 _ h10=>?_⟩
 have g3:=h10 l hl
 have l2:=qrt g2
 have l3:=qrt g3
 have b2:(qcX cl (qf2 D i)).length <= 16:=jde (jcb _ _) (by simp)
 have b3:(qbb (ofL l (qf2 D i))).length <= 16:=jde (jcb _ _) (by simp)
 refine ⟨⟨⟨g2.1,by omega,g2.2.2⟩,g3.1,by omega,g3.2.2⟩,fun u11 _ h11=>⟨by rw [h11,g2.2.1,g3.2.1,qtd hrel]; simp,fun _=>⟨A,hA1,⟨by omega,hA2⟩,fun u12 _ e12=>⟨B,hB1,⟨by omega,hB2⟩,fun u13 _ e13=>⟨⟨⟨cl,g1⟩,hO,⟨by rw [e12],by omega,by rw [e12]; exact hA2⟩,⟨by rw [e13],by omega,by rw [e13]; exact hB2⟩,hnw.1,hnw.2⟩,fun u14 _ u15 _ h15=>⟨A,hA1,B,hB1,⟨⟨l,hl⟩,hO,hnw.1,hnw.2,⟨by omega,hA2⟩,by omega,hB2⟩,fun u16 _ h16=>?_⟩⟩⟩⟩⟩⟩
 obtain ⟨g4,g5⟩:=h15 cl g1
 have g6:=h16 l hl
 rw [qcI i0 (by omega)]
 refine ⟨by rw [g5,g6,e12,e13]; exact qw3 hrel hrr,fun _=>⟨⟨by omega,by omega,hn,cl,l,g4,hl,hrel⟩,by omega⟩⟩
set_option maxHeartbeats 2000000 in
theorem qwi:qda.ok Tryz.prog:=qt3 (by simp [q6P,q5U,qu0,qyv,qp2,q5Q,qua,q3r,q3R,q1Z,qti,qxg]) fun Z hg hp=>by
 obtain ⟨⟨hl,hb,hA⟩,⟨hSr,hSd⟩,hGr,hGd⟩:=hp
 simp (config:={ maxSteps:=4000000 }) [qne,qda,qxv,qph,qm5,qgG,qik,qdF,qm1,qfx,qhu,qlz,qjz,qej,qgC,qzK,qay,qm7,gOk,hGr,hGd,hSr,hSd]
 refine ⟨by omega,fun h100 v1 _ h1 _ hN=>⟨⟨by omega,Int.le_refl _,_,_,hN,qtN,q7S⟩,?_⟩⟩
 intro v2 _ n2 _ d3 _ h4 _ i5 _ i0 i1 hS hlt
 obtain ⟨hO,hck,hnw,⟨A,hA1,hA2⟩,⟨B,hB1,hB2⟩⟩:=hA i5.i i0 hlt
 obtain ⟨hni,cl,l,hc,hl',hrel⟩:=hS
 have hll:=qly hl'
 refine ⟨i0,by omega,A,hA1,fun a40=>⟨B,hB1,fun b40=>⟨fun _=>?_,fun _=>⟨fun _=>?_,fun _=>?_⟩⟩⟩⟩
 ·refine ⟨⟨⟨cl,hc⟩,hck.1,hck.2⟩,fun u6 _ h6=>⟨⟨⟨l,hl'⟩,by omega,hck.1,hck.2⟩,fun u7 _ u8 _ h8=>?_⟩⟩
  have hx:=h8 l hl'
  have hxl:=qly hx
  have hxn:=q0Y (l:=l) (o:=qf2 (Z 3).d i5.i) (i:=qb (Z 3).d i5.i 33) (t:=qb (Z 3).d i5.i 35)
  exact qrh i0 hlt h100 hO hnw hA1 hA2 hB1 hB2 a40 b40 (by omega) (h6 cl hc) hx (q5w hrel)
 ·refine ⟨⟨⟨cl,hc⟩,hck.1,hck.2⟩,fun u6 _ h6=>⟨⟨⟨l,hl'⟩,hck.1,hck.2⟩,fun u7 _ u8 _ h8=>?_⟩⟩
  have hx:=h8 l hl'
  have hxl:=qly hx
  have hxn:(qep l (qb (Z 3).d i5.i 35)).length <= l.length:=jcb _ _
  exact qrh i0 hlt h100 hO hnw hA1 hA2 hB1 hB2 a40 b40 (by omega) (h6 cl hc) hx (q3i hrel)
 ·exact qrh i0 hlt h100 hO hnw hA1 hA2 hB1 hB2 a40 b40 (by omega) hc hl' hrel
end Go.Proofs
