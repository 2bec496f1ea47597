/- Texts CM, ZLq, YF, W1, W2, W3, WD, CN, CO, YB, ZSq, YC, CP, W4, WC, YD, YE, YG, YK, W5, W6, YM, YR, CQ, CR, YS, W7, YU, YV, YW, CS, W9, V3, VT, VZ, VW, CT. -/
import Derived.Test.YtelcnkclppkicaaGreatDoorG6
import Derived.Test.YtelcnkclppkicaaGreatDoorProg
import Derived.Test.YtelcnkclppkicaaGreatDoorG1
import Derived.Test.YtelcnkclppkicaaGreatDoorG4
import Derived.Test.YtelcnkclppkicaaGreatDoorG5
set_option linter.unusedSimpArgs false
set_option linter.unusedVariables false
set_option maxRecDepth 100000
namespace Go.Proofs
open Go Go.Eng
def qrA:Out:=(.fresh 10 (.pre 0 (sg 0 [bv 9 9,bv 8 8,bv 7 7,bv 6 6,bg 5 5,bv 3 3,bv 2 2,bv 1 1,bv 0 0,bt 4 (r8 4)]) (tb (.fresh 11 (.post 0 0 (sg 0 [bv 9 9,bv 8 8,bv 7 7,bv 6 6,bg 5 5,bv 3 3,bv 2 2,bv 1 1,bv 0 0,bt 4 (r8 4)]) 11 (.br (.not (tv 11))
 (.ret 0 (sg 10 []))
 (.fresh 12 (tn (.tims (tl 1) (tl 39)) (tl 140737488355328) (fr 13 2 (.inv 0 15 (sg 1000 [bt 1004 (.dapp (.dapp (.rcons (tu (tl 77)) .rnil) (.dapp (.rcons (tu (tl 1)) .rnil) (.dapp (.rcons (tu (.conv .u8 (tv 0))) .rnil) (.dapp (.rcons (tu (.conv .u8 (tv 1))) .rnil) (.dapp (.rcons (tu (.conv .u8 (tv 2))) .rnil) (.dapp (.rcons (tu (.conv .u8 (.arith .shr .i64 (tv 3) (tl 8)))) .rnil) (.rcons (tu (.conv .u8 (tv 3))) .rnil))))))) (.c3 .xrows (.rcons (ti (tv 0)) (.rcons (ti (tv 1)) (.rcons (ti (tv 2)) (.rcons (ti (tv 3)) (.rcons (x8 0 4) (.rcons (x8 1 4) (.rcons (x8 2 4) (.rcons (x8 3 4) (.rcons (x8 4 4) (.rcons (x8 5 4) (.rcons (x8 6 4) (.rcons (x8 7 4) (.rcons (x8 8 4) (.rcons (x8 9 4) (.rcons (x8 10 4) (.rcons (x8 11 4) (.rcons (x8 12 4) (.rcons (x8 13 4) (.rcons (x8 14 4) (.rcons (x8 15 4) (.rcons (x8 16 4) (.rcons (x8 17 4) (.rcons (x8 18 4) (.rcons (x8 19 4) (.rcons (x8 20 4) (.rcons (x8 21 4) (.rcons (x8 22 4) (.rcons (x8 23 4) (.rcons (x8 24 4) (.rcons (x8 25 4) (.rcons (x8 26 4) (.rcons (x8 27 4) (.rcons (x8 28 4) (.rcons (x8 29 4) (.rcons (x8 30 4) (.rcons (x8 31 4) (.rcons (.vslice 5 (tl 0) (tv 6) (tv 7) 32) .rnil))))))))))))))))))))))))))))))))))))) (tl 4) (tl 32))),bt 1005 (tl 0),bv 1003 14,bt 1002 (tl 39),bg 1001 13,bg 1000 10]) (fr 15 6 (.hyp 0 15 (.br (.cmp .lss (tv 20) (tv 2))
 (tn (tl 0) (tv 20) (ts (tv 20) (tv 6) (ts (tv 20) (.dlen (tv 8)) (.fresh 21 (.need (.cmp .eql (tv 17) (.dlen (tv 19))) (tn (.tims (tl 1) (.plus (tv 17) (tl 32))) (tl 140737488355328) (fr 22 2 (.back 0 15 (sg 1000 [bt 1004 (.dapp (tv 19) (.dapp (.rcons (i8 8 20 0) .rnil) (.dapp (.rcons (i8 8 20 1) .rnil) (.dapp (.rcons (i8 8 20 2) .rnil) (.dapp (.rcons (i8 8 20 3) .rnil) (.dapp (.rcons (i8 8 20 4) .rnil) (.dapp (.rcons (i8 8 20 5) .rnil) (.dapp (.rcons (i8 8 20 6) .rnil) (.dapp (.rcons (i8 8 20 7) .rnil) (.dapp (.rcons (i8 8 20 8) .rnil) (.dapp (.rcons (i8 8 20 9) .rnil) (.dapp (.rcons (i8 8 20 10) .rnil) (.dapp (.rcons (i8 8 20 11) .rnil) (.dapp (.rcons (i8 8 20 12) .rnil) (.dapp (.rcons (i8 8 20 13) .rnil) (.dapp (.rcons (i8 8 20 14) .rnil) (.dapp (.rcons (i8 8 20 15) .rnil) (.dapp (.rcons (i8 8 20 16) .rnil) (.dapp (.rcons (i8 8 20 17) .rnil) (.dapp (.rcons (i8 8 20 18) .rnil) (.dapp (.rcons (i8 8 20 19) .rnil) (.dapp (.rcons (i8 8 20 20) .rnil) (.dapp (.rcons (i8 8 20 21) .rnil) (.dapp (.rcons (i8 8 20 22) .rnil) (.dapp (.rcons (i8 8 20 23) .rnil) (.dapp (.rcons (i8 8 20 24) .rnil) (.dapp (.rcons (i8 8 20 25) .rnil) (.dapp (.rcons (i8 8 20 26) .rnil) (.dapp (.rcons (i8 8 20 27) .rnil) (.dapp (.rcons (i8 8 20 28) .rnil) (.dapp (.rcons (i8 8 20 29) .rnil) (.dapp (.rcons (i8 8 20 30) .rnil) (.rcons (i8 8 20 31) .rnil))))))))))))))))))))))))))))))))),bt 1005 (.arith .add .i64 (tv 20) (tl 1)),bv 1003 23,bt 1002 (.plus (tv 17) (tl 32)),bg 1001 22,bg 1000 15])))))))))
 (.ret 1 (sg 10 [bv 13 19,bv 12 18,bv 11 17,bg 10 16])))))))))))))))
theorem q0r:qj Tryz.prog qhH [qe3] [quw] qrA:=qg Tryz.func126 Tryz.call126 (by kernel_rfl)
@[simp] def qw7:Sg:=sg 0 [bv 9 9,bv 8 8,bv 7 7,bv 6 6,bg 5 5,bv 3 3,bv 2 2,bv 1 1,bv 0 0,bt 4 (r8 4)]
def qEq:Out:=(fr 12 2 (.pre 0 qw7 (.both (.post 0 0 qw7 14 (.ret 0 (sg 12 [bt 13 (tl 2),bt 12 z8]))) (tb (fr 14 4 (.post 0 1 qw7 14 (.know (.cmp .leq (.dlen (tv 17)) (tv 16)) (.pre 1 (sg 0 [bv 7 11,bv 5 16,bv 4 17,bv 3 16,bv 2 15,bt 1 (tl 0),bg 0 14,bg 6 10]) (tb (.fresh 18 (.post 1 0 (sg 0 [bv 7 11,bv 5 16,bv 4 17,bv 3 16,bv 2 15,bt 1 (tl 0),bg 0 14,bg 6 10]) 18 (.ret 0 (sg 12 [bt 13 (tl 0),bt 12 (r8 18)])))))))))))))
theorem qEP:qj Tryz.prog idC [qfI,qdb] [] qEq:=qg Tryz.func44 Tryz.call44 (by kernel_rfl)
@[simp] def qoa:Sg:=sg 0 [bv 9 9,bv 8 8,bv 7 7,bv 6 6,bg 5 5,bv 3 3,bv 2 2,bv 1 1,bv 0 0,bt 4 (r8 4)]
def q2e:Out:=(fr 12 2 (.pre 0 qoa (.both (.post 0 0 qoa 14 (.ret 0 (sg 12 [bt 13 (tl 2),bt 12 z8]))) (tb (fr 14 4 (.post 0 1 qoa 14 (.pre 1 (sg 0 [bv 6 11,bv 4 16,bv 3 17,bv 2 16,bv 1 15,bg 0 14,bg 5 10]) (tb (.fresh 18 (.post 1 0 (sg 0 [bv 6 11,bv 4 16,bv 3 17,bv 2 16,bv 1 15,bg 0 14,bg 5 10]) 18 (.ret 0 (sg 12 [bt 13 (tl 0),bt 12 (r8 18)]))))))))))))
theorem qAw:qj Tryz.prog qmY [qhH,qdX] [] q2e:=qg Tryz.func93 Tryz.call93 (by kernel_rfl)
theorem qCI:∀ i:Fin 255,qm7.getD (qiG.getD i.val 0).toNat 0 = i.val:=by decide +kernel
theorem qBE:∀ a:Fin 256,a.val ≠ 0->qiG.getD (qm7.getD a.val 0).toNat 0 = a.val:=by decide +kernel
theorem qBN:∀ i:Fin 255,qiG.getD (i.val + 255) 0 = qiG.getD i.val 0:=by decide +kernel
abbrev F:=BitVec 8
def toF (x:Int):F:=BitVec.ofInt 8 x
def ofF (x:F):Int:=(x.toNat:Nat)
def isB (x:Int):Prop:=0 <= x/\x < 256
theorem qg3 {x:F}:isB (ofF x):=⟨Int.natCast_nonneg _,by have:=x.isLt; unfold ofF; omega⟩
theorem qeG {x:F}:toF (ofF x) = x:=by
 unfold toF ofF;apply jdu;rw [jdp];have:=x.isLt;omega
theorem qtK {x:Int} (h:isB x):(toF x).toNat = x.toNat:=by
 obtain ⟨h0,h1⟩:=h;unfold toF;rw [jdp];omega
theorem qsO {x:Int} (h:isB x):ofF (toF x) = x:=by
 unfold ofF;rw [qtK h];obtain ⟨h0,h1⟩:=h;omega
theorem qgZ {x y:Int} (hx:isB x) (hy:isB y) (h:toF x = toF y):x = y:=by rw [<- qsO hx,<- qsO hy,h]
theorem qyK:toF 0 = 0:=rfl
theorem qdI {x:Int} (h:isB x):toF x = 0↔x = 0:=⟨fun e=>qgZ h ⟨by omega,by omega⟩ e,fun e=>by rw [e]; rfl⟩
theorem qy6 {x y:Int}:qek x y = ofF (toF x ^^^ toF y):=by
 have h:(BitVec.ofInt 8 x ^^^ BitVec.ofInt 8 y).toNat < 256:=(BitVec.ofInt 8 x ^^^ BitVec.ofInt 8 y).isLt;unfold qek qc ofF toF
 show IntKind.u8.wrap _ = _
 have hb:IntKind.u8.bits = 8:=rfl;rw [hb];generalize (BitVec.ofInt 8 x ^^^ BitVec.ofInt 8 y).toNat = z at h ⊢;simp only [IntKind.wrap,IntKind.bits,IntKind.signed];simp;omega
theorem qfv {x y:Int}:toF (qek x y) = toF x ^^^ toF y:=by rw [qy6,qeG]
def qbf (n:Nat):F:=BitVec.ofNat 8 (qiG.getD (n % 255) 0).toNat
def qeT (x:F):Nat:=(qm7.getD x.toNat 0).toNat
def qh (x y:F):F:=if x = 0∨y = 0 then 0 else qbf (qeT x + qeT y)
def qcd (x:F):F:=if x = 0 then 0 else qbf (255 - qeT x)
theorem qxE {n:Nat}:qbf (n % 255) = qbf n:=by unfold qbf; rw [Nat.mod_mod]
theorem ql4 {n m:Nat} (h:n % 255 = m % 255):qbf n = qbf m:=by rw [<- qxE,h,qxE]
theorem qhW {n:Nat}:(qbf n).toNat = (qiG.getD (n % 255) 0).toNat:=by
 have h:=qgy ⟨n % 255,by omega⟩;simp only at h;unfold qbf;rw [BitVec.toNat_ofNat];omega
theorem qol {n:Nat}:qbf n ≠ 0:=fun h=>by
 have h1:=congrArg BitVec.toNat h;rw [qhW] at h1;have h2:=qgy ⟨n % 255,by omega⟩;simp only at h2;rw [show (0:F).toNat = 0 by rfl] at h1;omega
theorem qgW {x:F}:qeT x < 255:=by
 have:=qlX ⟨x.toNat,x.isLt⟩;simp only at this;unfold qeT;omega
theorem qji {x:F} (h:x ≠ 0):qbf (qeT x) = x:=by
 apply jdu;have h0:x.toNat ≠ 0:=fun e=>h (jdu (by rw [e]; rfl))
 have h1:=qBE ⟨x.toNat,x.isLt⟩ h0;simp only at h1;rw [qhW,jdm qgW,qeT,h1];omega
theorem qyu {n:Nat}:qeT (qbf n) = n % 255:=by
 have h:=qCI ⟨n % 255,by omega⟩;simp only at h;unfold qeT;rw [qhW,h];omega
theorem qhC:qbf 0 = 1:=by decide
theorem qP {x y:F}:qh x y = qh y x:=by
 unfold qh;by_cases hx:x = 0
 ·simp [hx]
 ·by_cases hy:y = 0
  ·simp [hy]
  ·rw [jaf (not_or.2 ⟨hx,hy⟩),jaf (not_or.2 ⟨hy,hx⟩),jdq]
theorem q9 {x:F}:qh x 0 = 0:=by simp [qh]
theorem qD {x:F}:qh 0 x = 0:=by simp [qh]
theorem q19 {x y:F} (hx:x ≠ 0) (hy:y ≠ 0):qh x y = qbf (qeT x + qeT y):=by rw [qh,jaf (not_or.2 ⟨hx,hy⟩)]
theorem qn5 {x y:F} (hx:x ≠ 0) (hy:y ≠ 0):qh x y ≠ 0:=by rw [q19 hx hy]; exact qol
theorem qvL {x y:F}:qh x y = 0↔x = 0∨y = 0:=⟨fun h=>by
 by_cases hx:x = 0
 ·exact .inl hx
 ·by_cases hy:y = 0
  ·exact .inr hy
  ·exact (qn5 hx hy h).elim,fun h=>by rcases h with rfl | rfl; exact qD; exact q9⟩
theorem qdw {n m:Nat}:qh (qbf n) (qbf m) = qbf (n + m):=by
 rw [q19 qol qol,qyu,qyu];exact ql4 (by omega)
theorem qaw {x:F}:qh x 1 = x:=by
 by_cases h:x = 0
 ·rw [h,qD]
 ·rw [<- qhC]; conv=>lhs; arg 1; rw [<- qji h]
  rw [qdw,jci,qji h]
theorem qfu {x:F}:qh 1 x = x:=by rw [qP,qaw]
theorem qio {x:F} (h:x ≠ 0):∃ n,n < 255/\x = qbf n:=⟨qeT x,qgW,(qji h).symm⟩
theorem q7 {x y z:F}:qh (qh x y) z = qh x (qh y z):=by
 by_cases hx:x = 0
 ·rw [hx,qD,qD,qD]
 by_cases hy:y = 0
 ·rw [hy,q9,qD,q9]
 by_cases hz:z = 0
 ·rw [hz,q9,q9,q9]
 obtain ⟨a,_,rfl⟩:=qio hx;obtain ⟨b,_,rfl⟩:=qio hy;obtain ⟨c,_,rfl⟩:=qio hz;rw [qdw,qdw,qdw,qdw,jcq]
theorem q2x {x:F} (h:x ≠ 0):qcd x ≠ 0:=by rw [qcd,jaf h]; exact qol
theorem qcE {x:F} (h:x ≠ 0):qh x (qcd x) = 1:=by
 rw [qcd,jaf h]
 conv=>lhs; arg 1; rw [<- qji h]
 have:=qgW (x:=x);rw [qdw,<- qhC];exact ql4 (by omega)
def xt (x:F):F:=x <<< 1 ^^^ (if x.msb then 29#8 else 0#8)
theorem q8p:∀ i:Fin 256,qh (BitVec.ofFin i) 2 = xt (BitVec.ofFin i):=by decide +kernel
theorem qlI {x:F}:qh x 2 = xt x:=q8p x.toFin
theorem qDU {x y:F}:xt (x ^^^ y) = xt x ^^^ xt y:=by
 unfold xt;rw [BitVec.shiftLeft_xor_distrib,BitVec.msb_xor];have h1:∀ a b c:F,a ^^^ b ^^^ c = a ^^^ c ^^^ b:=fun a b c=>by rw [jbo,jc1 b c,<- jbo]
 cases x.msb <;> cases y.msb
 ·simp
 ·simp [jbo]
 ·simp [h1 (x <<< 1) (29#8) (y <<< 1)]
 ·simp only [bne_self_eq_false,jas,jbz,jbd,jew]
  rw [h1 (x <<< 1) (29#8),jbo (x <<< 1),jbo (y <<< 1),jev,jew]
theorem qmD {x y:F}:∀ n:Nat,qh (x ^^^ y) (qbf n) = qh x (qbf n) ^^^ qh y (qbf n)
 | 0=>by rw [qhC,qaw,qaw,qaw]
 | n + 1=>by
  have he:qbf (n + 1) = qh (qbf n) 2:=by
   have:(2:F) = qbf 1:=by decide
   rw [this,qdw]
  rw [he,<- q7,<- q7,<- q7,qmD n,qlI,qlI,qlI,qDU]
theorem qct {x y z:F}:qh (x ^^^ y) z = qh x z ^^^ qh y z:=by
 by_cases hz:z = 0
 ·rw [hz,q9,q9,q9]; rfl
 ·obtain ⟨n,_,rfl⟩:=qio hz
  exact qmD n
theorem qgL {x y z:F}:qh z (x ^^^ y) = qh z x ^^^ qh z y:=by rw [qP,qct,qP,qP (x:=y)]
theorem qvH {i:Nat} (h:i < 510):qni i = ofF (qbf i):=by
 rw [q1Q h,ofF,qhW];by_cases hi:i < 255
 ·rw [jdm hi]
  have:=qgy ⟨i,h⟩;simp only at this;omega
 ·have h1:=qBN ⟨i - 255,by omega⟩
  have h2:=qgy ⟨i,h⟩;simp only at h1 h2;rw [show i - 255 + 255 = i by omega] at h1;rw [show i % 255 = i - 255 by omega,<- h1];omega
theorem qqN {a:Int} (h:isB a):qb3 a.toNat = (qeT (toF a):Nat):=by
 obtain ⟨h0,h1⟩:=h;rw [q1C (by omega),qeT,qtK ⟨h0,h1⟩];have:=qlX ⟨a.toNat,by omega⟩;simp only at this;omega
theorem qqV {a b:Int} (ha:isB a) (hb:isB b):qbC a b = ofF (qh (toF a) (toF b)):=by
 unfold qbC qh;simp only [qdI ha,qdI hb];split
 ·rfl
 ·have h1:=qgW (x:=toF a)
  have h2:=qgW (x:=toF b);rw [qqN ha,qqN hb,qvH (by omega)]
  congr 2
theorem q6X {a:Int} (ha:isB a):qdU a = ofF (qcd (toF a)):=by
 unfold qdU qcd;simp only [qdI ha];split
 ·rfl
 ·have h1:=qgW (x:=toF a)
  rw [qqN ha,qvH (by omega)]
  congr 2
  omega
theorem qmg {a b:Int} (ha:isB a) (hb:isB b):isB (qbC a b):=by rw [qqV ha hb]; exact qg3
theorem qdl {a b:Int} (ha:isB a) (hb:isB b):toF (qbC a b) = qh (toF a) (toF b):=by rw [qqV ha hb,qeG]
theorem qeu {a:Int} (ha:isB a):isB (qdU a):=by rw [q6X ha]; exact qg3
theorem qiY {a:Int} (ha:isB a):toF (qdU a) = qcd (toF a):=by rw [q6X ha,qeG]
theorem qe1 {a b:Int}:isB (qek a b):=by rw [qy6]; exact qg3
def qaY (x:F):Nat->F
 | 0=>1
 | n + 1=>qh (qaY x n) x
theorem qyg {n:Nat}:∀ m,qaY (qbf n) m = qbf (n * m)
 | 0=>by rw [Nat.mul_zero]; exact qhC.symm
 | m + 1=>by rw [qaY,qyg m,qdw,Nat.mul_succ]
theorem q2A {m:Nat} (h:0 < m):qaY 0 m = 0:=by
 cases m with
 | zero=>omega
 | succ m=>rw [qaY,q9]
theorem q5k {a e:Int} (ha:isB a) (he:e < 9223372036854775808):qhR a e = ofF (qaY (toF a) e.toNat):=by
 unfold qhR;by_cases h0:e <= 0
 ·rw [jah h0,show e.toNat = 0 by omega]; rfl
 rw [jaf h0];by_cases h1:a = 0
 ·rw [jah h1,h1,qyK,q2A (by omega)]; rfl
 rw [jaf h1];have hx:toF a ≠ 0:=fun h=>h1 ((qdI ha).1 h)
 have hl:=qgW (x:=toF a);rw [qqN ha];have e1:e.tmod 255 = ((e.toNat % 255:Nat):Int):=by
  rw [jdx (by omega)]; omega
 rw [e1,<- jdt,jdx (by omega),qvH (by omega)]
 congr 1
 conv=>rhs; rw [<- qji hx,qyg]
 refine ql4 ?_;have:((qeT (toF a) * (e.toNat % 255):Nat):Int) % 255 = ((qeT (toF a) * (e.toNat % 255) % 255:Nat):Int):=by omega
 rw [this,jal,Nat.mod_mod,Nat.mul_mod,Nat.mod_mod,<- Nat.mul_mod]
theorem q94 {a e:Int} (ha:isB a) (he:e < 9223372036854775808):isB (qhR a e):=by rw [q5k ha he]; exact qg3
theorem qvq (a b c:F):a ^^^ (b ^^^ c) = b ^^^ (a ^^^ c):=by rw [<- jbo,jc1 a b,jbo]
theorem qpQ (a b c d:F):(a ^^^ b) ^^^ (c ^^^ d) = (a ^^^ c) ^^^ (b ^^^ d):=by rw [jbo,jbo,qvq b c d]
theorem qcP {a b:F}:a ^^^ b = 0↔a = b:=⟨fun h=>by
 have:a ^^^ b ^^^ b = b:=by rw [h]; simp
 rwa [jbo,jev,jew] at this,fun h=>by rw [h]; exact jev⟩
theorem qaj {a:F}:a ^^^ 0 = a:=jew
theorem qa1 {a:F}:0 ^^^ a = a:=BitVec.zero_xor
theorem qaJ {a:F}:a ^^^ a = 0:=jev
theorem qps {a b:F}:a ^^^ b ^^^ b = a:=by rw [jbo,jev,jew]
def q6 (f:Nat->F):Nat->F
 | 0=>0
 | n + 1=>q6 f n ^^^ f n
theorem qm {f g:Nat->F} {n:Nat} (h:∀ i,i < n->f i = g i):q6 f n = q6 g n:=by
 induction n with
 | zero=>rfl
 | succ n ih=>rw [q6,q6,ih fun i hi=>h i (by omega),h n (by omega)]
theorem qcC {f:Nat->F} {n:Nat} (h:∀ i,i < n->f i = 0):q6 f n = 0:=by
 induction n with
 | zero=>rfl
 | succ n ih=>rw [q6,ih fun i hi=>h i (by omega),h n (by omega),qaj]
theorem qgP {f g:Nat->F} {n:Nat}:q6 (fun i=>f i ^^^ g i) n = q6 f n ^^^ q6 g n:=by
 induction n with
 | zero=>exact qaj.symm
 | succ n ih=>rw [q6,q6,q6,ih,qpQ]
theorem qd1 {f:Nat->F} {c:F} {n:Nat}:q6 (fun i=>qh c (f i)) n = qh c (q6 f n):=by
 induction n with
 | zero=>exact q9.symm
 | succ n ih=>rw [q6,q6,ih,qgL]
theorem qex {f:Nat->F} {c:F} {n:Nat}:q6 (fun i=>qh (f i) c) n = qh (q6 f n) c:=by
 rw [qP,<- qd1];exact qm fun i _=>qP
theorem qiW {f:Nat->F} {n k:Nat} (hk:k < n) (h:∀ i,i < n->i ≠ k->f i = 0):q6 f n = f k:=by
 induction n with
 | zero=>omega
 | succ n ih =>
  rw [q6];by_cases hkn:k = n
  ·rw [qcC fun i hi=>h i (by omega) (by omega),hkn,qa1]
  ·rw [ih (by omega) fun i hi=>h i (by omega),h n (by omega) (by omega),qaj]
theorem qf8 {f:Nat->Nat->F} {n m:Nat}:q6 (fun i=>q6 (fun j=>f i j) m) n = q6 (fun j=>q6 (fun i=>f i j) n) m:=by
 induction n with
 | zero=>exact (qcC fun _ _=>rfl).symm
 | succ n ih =>
  rw [q6,ih,<- qgP];rfl
def del (i j:Nat):F:=if i = j then 1 else 0
theorem qpC {f:Nat->F} {n k:Nat} (hk:k < n):q6 (fun i=>qh (del i k) (f i)) n = f k:=by
 rw [qiW hk fun i hi hik=>by rw [del,jaf hik,qD],del,jah rfl,qfu]
theorem qhB {f:Nat->F} {n k:Nat} (hk:k < n):q6 (fun i=>qh (f i) (del i k)) n = f k:=by
 rw [qiW hk fun i hi hik=>by rw [del,jaf hik,q9],del,jah rfl,qaw]
abbrev Mat:=Nat->Nat->F
def spans (r w:Nat) (T:Mat) (v:Nat->F):Prop:=∃ x:Nat->F,∀ j,j < w->v j = q6 (fun i=>qh (x i) (T i j)) r
theorem qby {r w:Nat} {T:Mat} {i:Nat} (hi:i < r):spans r w T (T i):=⟨fun a=>del a i,fun j _=>(qpC (f:=fun a=>T a j) hi).symm⟩
theorem qco {r w:Nat} {T:Mat} {v v':Nat->F} (h:spans r w T v) (he:∀ j,j < w->v' j = v j):spans r w T v':=by
 obtain ⟨x,hx⟩:=h;exact ⟨x,fun j hj=>by rw [he j hj,hx j hj]⟩
theorem quh {r w:Nat} {T:Mat} {v v':Nat->F} (h:spans r w T v) (h':spans r w T v'):spans r w T (fun j=>v j ^^^ v' j):=by
 obtain ⟨x,hx⟩:=h;obtain ⟨y,hy⟩:=h';refine ⟨fun i=>x i ^^^ y i,fun j hj=>?_⟩
 show v j ^^^ v' j = _
 rw [hx j hj,hy j hj,<- qgP];exact qm fun i _=>qct.symm
theorem qjP {r w:Nat} {T:Mat} {v:Nat->F} {c:F} (h:spans r w T v):spans r w T (fun j=>qh c (v j)):=by
 obtain ⟨x,hx⟩:=h;refine ⟨fun i=>qh c (x i),fun j hj=>?_⟩
 show qh c (v j) = _
 rw [hx j hj,<- qd1];exact qm fun i _=>q7.symm
theorem qhl {r w:Nat} {T T':Mat} {v:Nat->F} (h:spans r w T' v) (hr:∀ i,i < r->spans r w T (T' i)):spans r w T v:=by
 obtain ⟨x,hx⟩:=h
 let y:Nat->Nat->F:=fun i=>if h:i < r then (hr i h).choose else fun _=>0
 have hy:∀ i,i < r->∀ j,j < w->T' i j = q6 (fun a=>qh (y i a) (T a j)) r:=fun i hi j hj=>by
  simp only [y,dif_pos hi];exact (hr i hi).choose_spec j hj
 refine ⟨fun a=>q6 (fun i=>qh (x i) (y i a)) r,fun j hj=>?_⟩;rw [hx j hj,qm fun i hi=>by rw [hy i hi j hj,<- qd1],qf8];refine qm fun a _=>?_
 rw [<- qex];exact qm fun i _=>q7.symm
structure Same (r w:Nat) (T T':Mat):Prop where
 to:∀ i,i < r->spans r w T (T' i)
 back:∀ i,i < r->spans r w T' (T i)
theorem Same.refl {r w:Nat} {T:Mat}:Same r w T T:=⟨fun i hi=>qby hi,fun i hi=>qby hi⟩
theorem Same.trans {r w:Nat} {T T' T'':Mat} (h:Same r w T T') (h':Same r w T' T''):Same r w T T'' :=
 ⟨fun i hi=>qhl (h'.to i hi) h.to,fun i hi=>qhl (h.back i hi) h'.back⟩
theorem Same.symm {r w:Nat} {T T':Mat} (h:Same r w T T'):Same r w T' T:=⟨h.back,h.to⟩
theorem Same.spans {r w:Nat} {T T':Mat} (h:Same r w T T') {v:Nat->F}:spans r w T v↔Go.Proofs.spans r w T' v:=⟨fun hv=>qhl hv h.back,fun hv=>qhl hv h.to⟩
theorem qxG {r w:Nat} {T T':Mat} {i p:Nat} {g:F} (hi:i < r) (hp:p < r) (hip:i ≠ p) (h1:∀ j,j < w->T' i j = T i j ^^^ qh g (T p j)) (h2:∀ a,a < r->a ≠ i->∀ j,j < w->T' a j = T a j):Same r w T T':=by
 refine ⟨fun a ha=>?_,fun a ha=>?_⟩
 ·by_cases hai:a = i
  ·subst hai
   exact qco (quh (qby ha) (qjP (c:=g) (qby hp))) h1
  ·exact qco (qby ha) (h2 a ha hai)
 ·by_cases hai:a = i
  ·subst hai
   refine qco (quh (qby ha) (qjP (c:=g) (qby hp))) fun j hj=>?_
   rw [h1 j hj,h2 p hp (Ne.symm hip) j hj,qps]
  ·exact qco (qby ha) fun j hj=>(h2 a ha hai j hj).symm
theorem qAL {r w:Nat} {T T':Mat} {i:Nat} {g:F} (hi:i < r) (hg:g ≠ 0) (h1:∀ j,j < w->T' i j = qh (T i j) g) (h2:∀ a,a < r->a ≠ i->∀ j,j < w->T' a j = T a j):Same r w T T':=by
 refine ⟨fun a ha=>?_,fun a ha=>?_⟩
 ·by_cases hai:a = i
  ·subst hai
   exact qco (qjP (c:=g) (qby ha)) fun j hj=>by rw [h1 j hj,qP]
  ·exact qco (qby ha) (h2 a ha hai)
 ·by_cases hai:a = i
  ·subst hai
   refine qco (qjP (c:=qcd g) (qby ha)) fun j hj=>?_
   rw [h1 j hj,qP,q7,qcE hg,qaw]
  ·exact qco (qby ha) fun j hj=>(h2 a ha hai j hj).symm
def lead (r w:Nat) (T:Mat) (c:Nat):Prop:=∃ v,spans r w T v/\(∀ j,j < c->v j = 0)/\v c ≠ 0
open Classical in
noncomputable def cnt (r w:Nat) (T:Mat):Nat->Nat
 | 0=>0
 | c + 1=>cnt r w T c + if lead r w T c then 1 else 0
theorem Same.lead {r w:Nat} {T T':Mat} (h:Same r w T T') {c:Nat}:lead r w T c↔Go.Proofs.lead r w T' c:=by
 unfold Go.Proofs.lead;simp only [h.spans]
theorem q66 {r w:Nat} {T:Mat}:∀ c,cnt r w T c <= c
 | 0=>ja4 _
 | c + 1=>by
  have:=q66 (r:=r) (w:=w) (T:=T) c;unfold cnt; split <;> omega
theorem qx7 {r w:Nat} {T:Mat} {c:Nat}:∀ d,cnt r w T c <= cnt r w T (c + d)
 | 0=>ja4 _
 | d + 1=>by
  have:=qx7 (r:=r) (w:=w) (T:=T) (c:=c) d;rw [<- jcq]
  conv=>rhs; unfold cnt
  omega
theorem qjh {r w:Nat} {T:Mat} {c:Nat} (h:lead r w T c):cnt r w T (c + 1) = cnt r w T c + 1:=by rw [cnt,jah h]
theorem qtk {r w:Nat} {T:Mat} {c:Nat} (h:¬ lead r w T c):cnt r w T (c + 1) = cnt r w T c:=by rw [cnt,jaf h]; rfl
theorem qyI {r w:Nat} {T:Mat} {c c':Nat} (h:lead r w T c) (hlt:c < c'):cnt r w T c < cnt r w T c':=by
 have:=qx7 (r:=r) (w:=w) (T:=T) (c:=c + 1) (c' - (c + 1));rw [show c + 1 + (c' - (c + 1)) = c' by omega,qjh h] at this;omega
theorem qCm {r w:Nat} {T:Mat} {c c':Nat} (h:lead r w T c) (h':lead r w T c') (he:cnt r w T c = cnt r w T c'):c = c':=by
 rcases jdz c c' with h1 | h1 | h1
 ·have:=qyI h h1; omega
 ·exact h1
 ·have:=qyI h' h1; omega
theorem qll {r w:Nat} {T:Mat}:∀ {c i:Nat},i < cnt r w T c->∃ c',c' < c/\lead r w T c'/\cnt r w T c' = i
 | 0,i,h=>by simp [cnt] at h
 | c + 1,i,h=>by
  by_cases hl:lead r w T c
  ·rw [qjh hl] at h
   by_cases hi:i = cnt r w T c
   ·exact ⟨c,by omega,hl,hi.symm⟩
   ·obtain ⟨c',h1,h2,h3⟩:=qll (r:=r) (w:=w) (T:=T) (c:=c) (i:=i) (by omega)
    exact ⟨c',by omega,h2,h3⟩
  ·rw [qtk hl] at h
   obtain ⟨c',h1,h2,h3⟩:=qll (c:=c) h;exact ⟨c',by omega,h2,h3⟩
structure Ech (r w:Nat) (T0 T:Mat) (c rank:Nat):Prop where
 same:Same r w T0 T
 num:rank = cnt r w T0 c
 le:rank <= r
 col:∀ c',c' < c->lead r w T0 c'->∀ i,i < r->T i c' = del i (cnt r w T0 c')
 low:∀ i,rank <= i->i < r->∀ c',c' < c->T i c' = 0
theorem q6e {r w:Nat} {T:Mat}:Ech r w T T 0 0:=⟨Same.refl,rfl,Nat.zero_le _,fun c' h=>by omega,fun i _ _ c' h=>by omega⟩
theorem qDa {r w:Nat} {T0 T:Mat} {c rank:Nat} (h:Ech r w T0 T c rank) (hc:c <= w) {v:Nat->F} (hv:spans r w T0 v) (h0:∀ j,j < c->v j = 0) :
  ∃ x:Nat->F,(∀ i,i < rank->x i = 0)/\∀ j,j < w->v j = q6 (fun i=>qh (x i) (T i j)) r:=by
 obtain ⟨x,hx⟩:=h.same.spans.1 hv;refine ⟨x,fun i hi=>?_,hx⟩;rw [h.num] at hi;obtain ⟨c',h1,h2,h3⟩:=qll hi;have hle:=h.le;have h4:=hx c' (by omega);rw [h0 c' h1,qm fun a ha=>by rw [h.col c' h1 h2 a ha,h3]] at h4;rw [qhB (f:=x) (by have:=h.num; omega)] at h4;exact h4.symm
theorem qx1 {r w:Nat} {T0 T:Mat} {c rank:Nat} (h:Ech r w T0 T c rank) (hc:c < w) (hz:∀ i,rank <= i->i < r->T i c = 0):Ech r w T0 T (c + 1) rank:=by
 have hn:¬ lead r w T0 c:=fun ⟨v,h1,h2,h3⟩=>by
  obtain ⟨x,hx,he⟩:=qDa h (by omega) h1 h2;apply h3;rw [he c hc];refine qcC fun i hi=>?_
  by_cases hir:i < rank
  ·rw [hx i hir,qD]
  ·rw [hz i (by omega) hi,q9]
 refine ⟨h.same,by rw [qtk hn]; exact h.num,h.le,fun c' hc' hl i hi=>?_,fun i h1 h2 c' hc'=>?_⟩
 ·by_cases he:c' = c
  ·rw [he] at hl; exact (hn hl).elim
  ·exact h.col c' (by omega) hl i hi
 ·by_cases he:c' = c
  ·rw [he]; exact hz i h1 h2
  ·exact h.low i h1 h2 c' (by omega)
theorem qAr {r w:Nat} {T0 T T':Mat} {c rank:Nat} (h:Ech r w T0 T c rank) (hc:c < w) (hr:rank < r) (hs:Same r w T T') (hcol:∀ i,i < r->T' i c = del i rank)
  (hold:∀ c',c' < c->∀ i,i < r->T' i c' = T i c'):Ech r w T0 T' (c + 1) (rank + 1):=by
 have hl:lead r w T0 c:=by
  refine ⟨T' rank,(h.same.trans hs).spans.2 (qby hr),fun j hj=>?_,?_⟩
  ·rw [hold j hj rank hr]; exact h.low rank (ja4 _) hr j hj
  ·rw [hcol rank hr,del,jah rfl]; decide
 refine ⟨h.same.trans hs,by rw [qjh hl,<- h.num],hr,fun c' hc' hl' i hi=>?_,fun i h1 h2 c' hc'=>?_⟩
 ·by_cases he:c' = c
  ·rw [he,hcol i hi,h.num]
  ·rw [hold c' (by omega) i hi]; exact h.col c' (by omega) hl' i hi
 ·by_cases he:c' = c
  ·rw [he,hcol i h2,del,jaf (by omega)]
  ·rw [hold c' (by omega) i h2]; exact h.low i (by omega) h2 c' (by omega)
theorem qyO {r w:Nat} {T:Mat}:∀ {n:Nat},cnt r w T n = n->∀ c,c < n->lead r w T c/\cnt r w T c = c
 | 0,_,c,h=>by omega
 | n + 1,he,c,h=>by
  by_cases hl:lead r w T n
  ·rw [qjh hl] at he
   by_cases hc:c = n
   ·exact ⟨by rw [hc]; exact hl,by rw [hc]; omega⟩
   ·exact qyO (n:=n) (by omega) c (by omega)
  ·rw [qtk hl] at he
   have:=q66 (r:=r) (w:=w) (T:=T) n;omega
theorem qyL {r w:Nat} {T0 T:Mat} {n:Nat} (h:Ech r w T0 T n n):∀ i,i < r->∀ c,c < n->T i c = del i c:=fun i hi c hc=>by
 obtain ⟨h1,h2⟩:=qyO h.num.symm c hc;rw [h.col c hc h1 i hi,h2]
theorem q9u {r w:Nat} {T0 T:Mat} {n rank:Nat} (h:Ech r w T0 T n rank) (hn:n <= w) (hlt:rank < n):∃ y:Nat->F,(∃ c,c < n/\y c ≠ 0)/\∀ i,i < r->q6 (fun j=>qh (T0 i j) (y j)) n = 0:=by
 have hex:∃ c,c < n/\¬ lead r w T0 c:=by
  refine Classical.byContradiction fun hno=>?_
  have hall:∀ c,c < n->lead r w T0 c:=fun c hc=>Classical.byContradiction fun hl=>hno ⟨c,hc,hl⟩
  have:∀ c,c <= n->cnt r w T0 c = c:=fun c=>by
   induction c with
   | zero=>intro _; rfl
   | succ c ih=>intro hc; rw [qjh (hall c (by omega)),ih (by omega)]
  have:=this n (ja4 _);have:=h.num;omega
 obtain ⟨c,hc,hnl⟩:=hex
 let y:Nat->F:=fun j=>open Classical in if j = c then 1 else if lead r w T0 j then T (cnt r w T0 j) c else 0
 have hyc:y c = 1:=by simp [y]
 have hT:∀ i,i < r->q6 (fun j=>qh (T i j) (y j)) n = 0:=fun i hi=>by
  have hsplit:q6 (fun j=>qh (T i j) (y j)) n = q6 (fun j=>qh (if j = c then T i c else 0) 1) n ^^^ q6 (fun j=>open Classical in if j ≠ c/\lead r w T0 j then qh (del i (cnt r w T0 j)) (T (cnt r w T0 j) c) else 0) n:=by
   rw [<- qgP];refine qm fun j hj=>?_
   by_cases hjc:j = c
   ·subst hjc
    simp only [hyc,qaw,jbz,ne_eq,not_true,false_and,jbd,qaj]
   ·simp only [jaf hjc,qD,qa1]
    by_cases hl:lead r w T0 j
    ·rw [jah ⟨hjc,hl⟩,h.col j hj hl i hi]; simp only [y,jaf hjc,jah hl]
    ·rw [jaf fun hh=>hl hh.2]; simp only [y,jaf hjc,jaf hl,q9]
  rw [hsplit,qiW hc fun j _ hj=>by rw [jaf hj,qD],jah rfl,qaw];by_cases hir:i < rank
  ·rw [h.num] at hir
   obtain ⟨c',h1,h2,h3⟩:=qll hir;have hcc:c' ≠ c:=fun e=>hnl (e ▸ h2)
   rw [qiW (k:=c') h1 fun j hj hjc=>?_,jah ⟨hcc,h2⟩,h3,del,jah rfl,qfu,qaJ];split
   ·rename_i hh
    rw [del,jaf,qD];intro e;exact hjc (qCm hh.2 h2 (by rw [h3,e]))
   ·rfl
  ·rw [h.low i (by omega) hi c hc,qa1]
   refine qcC fun j hj=>?_
   split
   ·rename_i hh
    rw [del,jaf,qD];have:=qyI hh.2 hj;have:=h.num;omega
   ·rfl
 refine ⟨y,⟨c,hc,by rw [hyc]; decide⟩,fun i hi=>?_⟩;obtain ⟨x,hx⟩:=h.same.back i hi;rw [qm fun j hj=>by rw [hx j (by omega),<- qex],qf8];refine qcC fun a ha=>?_
 rw [qm (g:=fun j=>qh (x a) (qh (T a j) (y j))) fun j _=>q7,qd1,hT a ha,q9]
def qa9 (x:F):List F->F
 | []=>0
 | c :: l=>qh (qa9 x l) x ^^^ c
theorem qg6 {x:F}:qa9 x [] = 0:=rfl
theorem qiO {x c:F}:qa9 x [c] = c:=by rw [qa9,qg6,qD,qa1]
def qkl (r:F):List F->List F
 | []=>[]
 | [_]=>[]
 | _ :: c' :: l=>qa9 r (c' :: l) :: qkl r (c' :: l)
theorem qy2 {r:F}:∀ {l:List F},(qkl r l).length = l.length - 1
 | []=>rfl
 | [_]=>rfl
 | _ :: c' :: l=>by simp only [qkl,jba,qy2 (l:=c' :: l)]; omega
theorem qy4 {x r:F}:∀ {l:List F},qa9 x l ^^^ qa9 r l = qh (x ^^^ r) (qa9 x (qkl r l))
 | []=>by rw [qkl,qg6,qg6,qaJ,q9]
 | [c]=>by rw [qkl,qiO,qiO,qg6,qaJ,q9]
 | c :: c' :: l=>by
  have ih:=qy4 (x:=x) (r:=r) (l:=c' :: l);rw [qkl,show qa9 x (c :: c' :: l) = qh (qa9 x (c' :: l)) x ^^^ c from rfl,show qa9 r (c :: c' :: l) = qh (qa9 r (c' :: l)) r ^^^ c from rfl]
  conv=>rhs; rw [qa9]
  have h1:∀ a b d:F,a ^^^ b = qh (x ^^^ r) d->qh a x ^^^ c ^^^ (qh b r ^^^ c) = qh (x ^^^ r) (qh d x ^^^ b):=fun a b d h=>by
   rw [qpQ,qaJ,qaj,qgL (z:=x ^^^ r),<- q7,<- h,qct,qP (x:=x ^^^ r),qgL,<- jbo,qps]
  exact h1 _ _ _ ih
theorem qyj {r:F}:∀ {l:List F} {c:F},(∀ y ∈ qkl r (c :: l),y = 0)->∀ y ∈ l,y = 0
 | [],_,_=>by simp
 | c' :: l,c,h=>by
  simp only [qkl,ja9,forall_eq_or_imp] at h;have ht:=qyj (l:=l) (c:=c') h.2;have hh:qa9 r l = 0:=by
   clear h
   induction l with
   | nil=>rfl
   | cons a l ih=>rw [qa9,ih fun y hy=>ht y (jad _ hy),qD,ht a (jae ..),qaj]
  have h1:=h.1;rw [qa9,hh,qD,qa1] at h1;intro y hy;rcases ja9.1 hy with rfl | hy
  ·exact h1
  ·exact ht y hy
theorem quU {x:F}:∀ {l:List F},(∀ y ∈ l,y = 0)->qa9 x l = 0
 | [],_=>rfl
 | a :: l,h=>by rw [qa9,quU fun y hy=>h y (jad _ hy),qD,h a (jae ..),qaj]
def distinct (n:Nat) (xs:Nat->F):Prop:=∀ i j,i < n->j < n->xs i = xs j->i = j
theorem qqu {xs:Nat->F}:∀ {n:Nat} {l:List F},l.length <= n->distinct n xs->(∀ i,i < n->qa9 (xs i) l = 0)->∀ y ∈ l,y = 0
 | 0,l,hl,_,_=>by
  have:l = []:=jdi (by omega);rw [this]; simp
 | n + 1,[],_,_,_=>by simp
 | n + 1,c :: t,hl,hd,hr=>by
  simp only [jba] at hl;have hq:=qqu (n:=n) (l:=qkl (xs n) (c :: t)) (by rw [qy2,jba]; omega) (fun i j hi hj=>hd i j (by omega) (by omega)) fun i hi=>by
   have h:=qy4 (x:=xs i) (r:=xs n) (l:=c :: t);rw [hr i (by omega),hr n (by omega),qaJ] at h;rcases qvL.1 h.symm with h1 | h1
   ·have:=hd i n (by omega) (by omega) (qcP.1 h1); omega
   ·exact h1
  have ht:=qyj hq;have h1:=hr n (by omega);rw [qa9,quU ht,qD,qa1] at h1;intro y hy;rcases ja9.1 hy with rfl | hy
  ·exact h1
  ·exact ht y hy
def qB (n:Nat) (y:Nat->F) (x:F):F:=q6 (fun j=>qh (y j) (qaY x j)) n
theorem qtT {x c:F}:∀ {l:List F},qa9 x (l ++ [c]) = qa9 x l ^^^ qh c (qaY x l.length)
 | []=>by rw [jdd,qiO,qg6,qa1,jct,qaY,qaw]
 | a :: l=>by
  rw [jd1,qa9,qtT (l:=l),qa9,qct,jba,qaY,jbo,jbo,q7,jc1 a]
theorem qnT {y:Nat->F} {x:F}:∀ n,qa9 x ((List.range n).map y) = qB n y x
 | 0=>rfl
 | n + 1=>by
  rw [jd5,jcn,ja5,jb5,qtT,qnT n];simp [qB,q6]
theorem qlQ {n:Nat} {y:Nat->F} {xs:Nat->F} (hd:distinct n xs) (h:∀ i,i < n->qB n y (xs i) = 0):∀ j,j < n->y j = 0:=fun j hj=>by
 have:=qqu (l:=(List.range n).map y) (by simp) hd (fun i hi=>by rw [qnT]; exact h i hi) (y j);exact this (jbk.2 ⟨j,jb1.2 hj,rfl⟩)
theorem q8i {x:F} {l:List F} {n:Nat} (hl:l.length <= n):qa9 x l = qB n (fun j=>l.getD j 0) x:=by
 have h1:∀ m,qB (l.length + m) (fun j=>l.getD j 0) x = qB l.length (fun j=>l.getD j 0) x:=fun m=>by
  induction m with
  | zero=>rfl
  | succ m ih =>
   rw [<- jcq,qB,q6];rw [show q6 (fun j=>qh (l.getD j 0) (qaY x j)) (l.length + m) = qB (l.length + m) (fun j=>l.getD j 0) x from rfl,ih];rw [show l.getD (l.length + m) 0 = 0 by rw [jab,jat (by omega)]; rfl,qD,qaj]
 rw [show n = l.length + (n - l.length) by omega,h1,<- qnT]
 congr 1
 apply jbs;intro j;by_cases hj:j < l.length
 ·simp [jbp hj,jab,jac hj]
 ·simp [hj]
def qat (f:Nat->F):Nat->F
 | 0=>1
 | n + 1=>qh (qat f n) (f n)
theorem qzY {f g:Nat->F} {n:Nat} (h:∀ i,i < n->f i = g i):qat f n = qat g n:=by
 induction n with
 | zero=>rfl
 | succ n ih=>rw [qat,qat,ih fun i hi=>h i (by omega),h n (by omega)]
theorem qwH {f:Nat->F} {n:Nat} (h:∀ i,i < n->f i ≠ 0):qat f n ≠ 0:=by
 induction n with
 | zero=>exact (by decide:(1:F) ≠ 0)
 | succ n ih=>exact qn5 (ih fun i hi=>h i (by omega)) (h n (by omega))
theorem qrp {f:Nat->F} {n k:Nat} (hk:k < n) (h:f k = 0):qat f n = 0:=by
 induction n with
 | zero=>omega
 | succ n ih =>
  rw [qat];by_cases hkn:k = n
  ·rw [<- hkn,h,q9]
  ·rw [ih (by omega),qD]
theorem q5n {f:Nat->F} {n k:Nat} (hk:k < n):qat f n = qh (f k) (qat (fun m=>if m = k then 1 else f m) n):=by
 induction n with
 | zero=>omega
 | succ n ih =>
  rw [qat,qat];by_cases hkn:k = n
  ·subst hkn
   rw [jah rfl,qaw,qP,qzY (g:=fun m=>if m = k then 1 else f m) fun i hi=>by rw [jaf (by omega)]]
  ·rw [ih (by omega),jaf (by omega),q7]
def qpI (r:F):F->List F->List F
 | p,[]=>[p]
 | p,c :: l=>(p ^^^ qh r c) :: qpI r c l
theorem qyJ {r:F}:∀ {p:F} {l:List F},(qpI r p l).length = l.length + 1
 | _,[]=>rfl
 | _,c :: l=>by simp [qpI,qyJ]
theorem qu4 {r x:F}:∀ {p:F} {l:List F},qa9 x (qpI r p l) = p ^^^ qh (x ^^^ r) (qa9 x l)
 | p,[]=>by rw [qpI,qiO,qg6,q9,qaj]
 | p,c :: l=>by
  rw [qpI,qa9,qu4,qa9,qct,qgL,jc1 _ (p ^^^ qh r c),jbo,qct (x:=x) (y:=r) (z:=c),<- q7]
  congr 1
  rw [qP (x:=c) (y:=x),<- jbo,jc1 (qh r c),jc1]
theorem qtB (xs:Nat->F) (i:Nat):∀ n,∃ l:List F,l.length = (if i < n then n else n + 1)/\∀ x,qa9 x l = qat (fun m=>if m = i then 1 else x ^^^ xs m) n
 | 0=>⟨[1],by simp,fun x=>by rw [qiO,qat]⟩
 | n + 1=>by
  obtain ⟨l,h1,h2⟩:=qtB xs i n;by_cases hn:n = i
  ·subst hn
   refine ⟨l,by rw [h1]; simp,fun x=>by rw [h2,qat,jah rfl,qaw]⟩
  ·refine ⟨qpI (xs n) 0 l,?_,fun x=>?_⟩
   ·rw [qyJ,h1]; split <;> split <;> omega
   ·rw [qu4,h2,qat,jaf hn,qa1,qP]
def qdO (n:Nat) (xs:Nat->F) (x:F) (i:Nat):F:=qh (qat (fun m=>if m = i then 1 else x ^^^ xs m) n) (qcd (qat (fun m=>if m = i then 1 else xs i ^^^ xs m) n))
theorem q1p {n:Nat} {xs:Nat->F} (hd:distinct n xs) {i k:Nat} (hi:i < n) (hk:k < n):qdO n xs (xs k) i = del i k:=by
 unfold qdO del;by_cases hik:i = k
 ·subst hik
  rw [jah rfl,qcE];refine qwH fun m hm=>?_
  split
  ·decide
  ·rename_i hmi
   exact fun h=>hmi (hd i m hi hm (qcP.1 h)).symm
 ·rw [jaf hik,qrp (k:=k) hk (by rw [jaf (Ne.symm hik)]; exact qaJ),qD]
theorem qmk {n:Nat} {xs:Nat->F} (hd:distinct n xs) {y:Nat->F} {x:F}:qB n y x = q6 (fun i=>qh (qdO n xs x i) (qB n y (xs i))) n:=by
 have hex:∀ i,∃ l:Nat->F,i < n->∀ x,qB n l x = qdO n xs x i:=fun i=>by
  obtain ⟨l,h1,h2⟩:=qtB xs i n;refine ⟨fun j=>qh (l.getD j 0) (qcd (qat (fun m=>if m = i then 1 else xs i ^^^ xs m) n)),fun hi x=>?_⟩;rw [qdO,<- h2 x,q8i (n:=n) (by rw [h1,jah hi]; exact ja4 _),qB,qB,<- qex];refine qm fun j _=>?_
  rw [q7,qP (x:=qcd _),<- q7]
 let lc:Nat->Nat->F:=fun i=>(hex i).choose
 have hlc:∀ i,i < n->∀ x,qB n (lc i) x = qdO n xs x i:=fun i hi=>(hex i).choose_spec hi
 let S:Nat->F:=fun j=>y j ^^^ q6 (fun i=>qh (qB n y (xs i)) (lc i j)) n
 have hS:∀ x,qB n S x = qB n y x ^^^ q6 (fun i=>qh (qdO n xs x i) (qB n y (xs i))) n:=fun x=>by
  have h1:qB n S x = qB n y x ^^^ q6 (fun j=>q6 (fun i=>qh (qB n y (xs i)) (qh (lc i j) (qaY x j))) n) n:=by
   simp only [qB];rw [<- qgP];refine qm fun j _=>?_
   simp only [S];rw [qct]
   congr 1
   rw [<- qex];exact qm fun i _=>q7
  rw [h1,qf8]
  congr 1
  refine qm fun i hi=>?_
  rw [qd1,<- hlc i hi x,qP];rfl
 have h0:=qlQ (y:=S) hd fun k hk=>by
  rw [hS,qm fun i hi=>by rw [q1p hd hi hk],qpC (f:=fun i=>qB n y (xs i)) hk,qaJ]
 have:=hS x;rw [show qB n S x = 0 from qcC fun j hj=>by rw [h0 j hj,qD]] at this;exact qcP.1 this.symm
theorem qqw {n:Nat} {xs:Nat->F} (hd:distinct n xs) {y:Nat->F} (h:∀ i,i < n->q6 (fun j=>qh (qaY (xs i) j) (y j)) n = 0):∀ j,j < n->y j = 0 :=
 qlQ hd fun i hi=>by
  rw [qB,<- h i hi];exact qm fun j _=>qP
def qz (l:List Int):Prop:=∀ x ∈ l,isB x
theorem qbd {l:List Int} (h:qz l) (i:Nat):isB (l.getD i 0):=by
 rw [jab];by_cases hi:i < l.length
 ·rw [jac hi]; exact h _ (jbv hi)
 ·rw [jat (by omega)]; exact ⟨by simp,by simp⟩
def qA (ca:Nat) (l:List Int):Mat:=fun i j=>toF (l.getD (i * ca + j) 0)
def qah (ca cb:Nat) (a b:List Int):Mat:=fun i j=>if j < ca then qA ca a i j else qA cb b i (j - ca)
theorem qxD {i i' ca j:Nat} (hj:j < ca):(i * ca <= i' * ca + j/\i' * ca + j < i * ca + ca)↔i' = i:=by
 constructor
 ·intro ⟨h1,h2⟩
  rcases jdz i' i with h | h | h
  ·have:=jbq ca (show i' + 1 <= i by omega)
   rw [jbt,jd0] at this; omega
  ·exact h
  ·have:=jbq ca (show i + 1 <= i' by omega)
   rw [jbt,jd0] at this; omega
 ·rintro rfl; omega
theorem qf9 {i r ca j:Nat} (hi:i < r) (hj:j < ca):i * ca + j < r * ca:=by
 have:=jbq ca (show i + 1 <= r by omega);rw [jbt,jd0] at this; omega
theorem qr0 {i r ca:Nat} (hi:i < r):i * ca + ca <= r * ca:=by
 have:=jbq ca (show i + 1 <= r by omega)
 rwa [jbt,jd0] at this
theorem qe2 {l s:List Int} {off:Nat} {c:Int} (h:qz l):qz (qE l off s c):=fun x hx=>by
 obtain ⟨i,hi⟩:=jbi hx;rw [qbN] at hi;obtain ⟨y,hy,rfl⟩:=jai.1 hi;split
 ·exact qe1
 ·exact h y (jbl hy)
theorem qmP {l:List Int} {off n:Nat} {c:Int} (h:qz l) (hc:isB c):qz (qbw l off n c):=fun x hx=>by
 obtain ⟨i,hi⟩:=jbi hx;rw [qeE] at hi;obtain ⟨y,hy,rfl⟩:=jai.1 hi;have:=h y (jbl hy);split
 ·exact qmg this hc
 ·exact this
theorem qzq {ca r i p:Nat} {a:List Int} {g:Int} (ha:a.length = r * ca) (hb:qz a) (hg:isB g) (hi:i < r) (hp:p < r) {i' j:Nat} (hi':i' < r) (hj:j < ca) :
  qA ca (qE a (i * ca) (seg a (p * ca) ca) g) i' j = if i' = i then qA ca a i j ^^^ qh (toF g) (qA ca a p j) else qA ca a i' j:=by
 have hlt:=qf9 hi' hj;have hsl:(seg a (p * ca) ca).length = ca:=qdF (by rw [ha]; exact qr0 hp);unfold qA;rw [jab,qbN,jac (by omega),ja0,ja2,hsl];by_cases he:i' = i
 ·subst he
  rw [jah ⟨by omega,by omega⟩,jah rfl,show i' * ca + j - i' * ca = j by omega];have hs:(seg a (p * ca) ca).getD j 0 = a.getD (p * ca + j) 0:=by
   rw [jab,qf5,jah hj,jab]
  rw [hs,qfv,qdl hg (qbd hb _),jab (l:=a) (i:=i' * ca + j),jac (by omega),ja2]
 ·rw [jaf (fun h=>he ((qxD hj).1 h)),jaf he,jab,jac (by omega),ja2]
theorem qrq {ca r i:Nat} {a:List Int} {g:Int} (ha:a.length = r * ca) (hb:qz a) (hg:isB g) (hi:i < r) {i' j:Nat} (hi':i' < r) (hj:j < ca) :
  qA ca (qbw a (i * ca) ca g) i' j = if i' = i then qh (qA ca a i j) (toF g) else qA ca a i' j:=by
 have hlt:=qf9 hi' hj;unfold qA;rw [jab,qeE,jac (by omega),ja0,ja2];by_cases he:i' = i
 ·subst he
  rw [jah ⟨by omega,by omega⟩,jah rfl,jab,jac (by omega),ja2,qdl (hb _ (jbv _)) hg]
 ·rw [jaf (fun h=>he ((qxD hj).1 h)),jaf he,jab,jac (by omega),ja2]
structure Two (r ca cb:Nat) (a b:List Int):Prop where
 la:a.length = r * ca
 lb:b.length = r * cb
 ba:qz a
 bb:qz b
variable {r ca cb:Nat} {a b:List Int}
theorem Two.add (h:Two r ca cb a b) {i p:Nat} {g:Int}:Two r ca cb (qE a (i * ca) (seg a (p * ca) ca) g) (qE b (i * cb) (seg b (p * cb) cb) g) :=
 ⟨by rw [qbK,h.la],by rw [qbK,h.lb],qe2 h.ba,qe2 h.bb⟩
theorem Two.scale (h:Two r ca cb a b) {i:Nat} {g:Int} (hg:isB g):Two r ca cb (qbw a (i * ca) ca g) (qbw b (i * cb) cb g) :=
 ⟨by rw [qlv,h.la],by rw [qlv,h.lb],qmP h.ba hg,qmP h.bb hg⟩
theorem q20 (h:Two r ca cb a b) {i p:Nat} {g:Int} (hg:isB g) (hi:i < r) (hp:p < r) {i' j:Nat} (hi':i' < r) (hj:j < ca + cb) :
  qah ca cb (qE a (i * ca) (seg a (p * ca) ca) g) (qE b (i * cb) (seg b (p * cb) cb) g) i' j = if i' = i then qah ca cb a b i j ^^^ qh (toF g) (qah ca cb a b p j) else qah ca cb a b i' j:=by
 unfold qah;by_cases hjc:j < ca
 ·simp only [jah hjc]; exact qzq h.la h.ba hg hi hp hi' hjc
 ·simp only [jaf hjc]; exact qzq h.lb h.bb hg hi hp hi' (by omega)
theorem q8k (h:Two r ca cb a b) {i:Nat} {g:Int} (hg:isB g) (hi:i < r) {i' j:Nat} (hi':i' < r) (hj:j < ca + cb) :
  qah ca cb (qbw a (i * ca) ca g) (qbw b (i * cb) cb g) i' j = if i' = i then qh (qah ca cb a b i j) (toF g) else qah ca cb a b i' j:=by
 unfold qah;by_cases hjc:j < ca
 ·simp only [jah hjc]; exact qrq h.la h.ba hg hi hi' hjc
 ·simp only [jaf hjc]; exact qrq h.lb h.bb hg hi hi' (by omega)
theorem qec {c i:Nat} (hc:c < ca):qah ca cb a b i c = toF (a.getD (i * ca + c) 0):=by rw [qah,jah hc,qA]
theorem qva (a:List Int) (ca c:Nat):∀ n p,p <= qde a ca c p n/\qde a ca c p n <= p + n/\(qde a ca c p n < p + n->a.getD (qde a ca c p n * ca + c) 0 ≠ 0)/\∀ i,p <= i->i < qde a ca c p n->a.getD (i * ca + c) 0 = 0
 | 0,p=>by simp only [qde]; exact ⟨ja4 _,ja4 _,fun h=>by omega,fun i h1 h2=>by omega⟩
 | n + 1,p=>by
  obtain ⟨h1,h2,h3,h4⟩:=qva a ca c n (p + 1);simp only [qde];split
  ·rename_i hz
   refine ⟨by omega,by omega,fun h=>h3 (by omega),fun i hi1 hi2=>?_⟩;by_cases hip:i = p
   ·rw [hip]; exact hz
   ·exact h4 i (by omega) hi2
  ·rename_i hz
   exact ⟨ja4 _,by omega,fun _=>hz,fun i h1 h2=>by omega⟩
theorem Two.rows (h:Two r ca cb a b) {rank c:Nat}:∀ i,Two r ca cb (qaL ca cb rank c a b i).1 (qaL ca cb rank c a b i).2
 | 0=>h
 | i + 1=>by
  have ih:=Two.rows h (rank:=rank) (c:=c) i;simp only [qaL];split
  ·exact ih
  ·exact ih.add
theorem qxQ (h:Two r ca cb a b) {rank c:Nat} (hr:rank < r) (hc:c < ca):∀ i,i <= r ->
  (∀ i' j,i' < r->j < ca + cb->qah ca cb (qaL ca cb rank c a b i).1 (qaL ca cb rank c a b i).2 i' j = if i' < i/\i' ≠ rank then qah ca cb a b i' j ^^^ qh (qah ca cb a b i' c) (qah ca cb a b rank j) else qah ca cb a b i' j) /\
  Same r (ca + cb) (qah ca cb a b) (qah ca cb (qaL ca cb rank c a b i).1 (qaL ca cb rank c a b i).2)
 | 0,_=>⟨fun i' j _ _=>by rw [jaf (by omega)]; rfl,Same.refl⟩
 | i + 1,hi=>by
  obtain ⟨ih,ihs⟩:=qxQ h hr hc i (by omega);have hT:=h.rows (rank:=rank) (c:=c) i;simp only [qaL];by_cases hir:i = rank
  ·rw [jah hir]
   refine ⟨fun i' j hi' hj=>?_,ihs⟩;rw [ih i' j hi' hj];by_cases h1:i' < i/\i' ≠ rank
   ·rw [jah h1,jah ⟨by omega,h1.2⟩]
   ·rw [jaf h1,jaf (by omega)]
  ·rw [jaf hir]
   simp only;have hg:=qbd hT.ba (i * ca + c);have hgv:toF ((qaL ca cb rank c a b i).1.getD (i * ca + c) 0) = qah ca cb a b i c:=by
    rw [<- qec (cb:=cb) (b:=(qaL ca cb rank c a b i).2) hc,ih i c (by omega) (by omega),jaf (by omega)]
   have hstep:=fun i' j (hi':i' < r) (hj:j < ca + cb)=>q20 hT (g:=(qaL ca cb rank c a b i).1.getD (i * ca + c) 0) hg (show i < r by omega) hr hi' hj
   refine ⟨fun i' j hi' hj=>?_,ihs.trans (qxG (i:=i) (p:=rank) (g:=toF ((qaL ca cb rank c a b i).1.getD (i * ca + c) 0)) (by omega) hr hir (fun j hj=>by rw [hstep i j (by omega) hj,jah rfl]) fun a' ha' hne j hj=>by rw [hstep a' j ha' hj,jaf hne])⟩;rw [hstep i' j hi' hj];by_cases he:i' = i
   ·subst he
    rw [jah rfl,hgv,ih i' j hi' hj,jaf (by omega),ih rank j hr hj,jaf (by omega),jah ⟨by omega,hir⟩]
   ·rw [jaf he,ih i' j hi' hj]
    by_cases h1:i' < i/\i' ≠ rank
    ·rw [jah h1,jah ⟨by omega,h1.2⟩]
    ·rw [jaf h1,jaf (by omega)]
theorem q5K {T0:Mat} {c rank:Nat} (h2:Two r ca cb a b) (h:Ech r (ca + cb) T0 (qah ca cb a b) c rank) (hc:c < ca) :
  Two r ca cb (qcV r ca cb c (a,b,rank)).1 (qcV r ca cb c (a,b,rank)).2.1/\Ech r (ca + cb) T0 (qah ca cb (qcV r ca cb c (a,b,rank)).1 (qcV r ca cb c (a,b,rank)).2.1) (c + 1) (qcV r ca cb c (a,b,rank)).2.2:=by
 unfold qcV;simp only;by_cases hr:r <= rank
 ·rw [jah hr]
  exact ⟨h2,qx1 h (by omega) fun i (h1:rank <= i) h3=>by omega⟩
 rw [jaf hr];obtain ⟨p1,p2,p3,p4⟩:=qva a ca c (r - rank) rank;by_cases hp:qde a ca c rank (r - rank) = r
 ·rw [jah hp]
  refine ⟨h2,qx1 h (by omega) fun i (h1:rank <= i) h3=>?_⟩;rw [qec hc,p4 i h1 (by omega)]; rfl
 rw [jaf hp];simp only;generalize hpv:qde a ca c rank (r - rank) = p at p1 p2 p3 p4 hp;have hpr:p < r:=by omega
 have hnz:=p3 (by omega);have hmid:qg5 r ca cb c (a,b,rank) = qhF ca cb rank c (qbM ca cb rank p a b).1 (qbM ca cb rank p a b).2:=by
  unfold qg5; simp only [hpv]
 -- the pivot's row is added
 have h1:Two r ca cb (qbM ca cb rank p a b).1 (qbM ca cb rank p a b).2/\Same r (ca + cb) (qah ca cb a b) (qah ca cb (qbM ca cb rank p a b).1 (qbM ca cb rank p a b).2) /\
   qah ca cb (qbM ca cb rank p a b).1 (qbM ca cb rank p a b).2 rank c ≠ 0/\(∀ i j,i < r->j < ca + cb->i ≠ rank->qah ca cb (qbM ca cb rank p a b).1 (qbM ca cb rank p a b).2 i j = qah ca cb a b i j) /\
   ∀ c',c' < c->qah ca cb (qbM ca cb rank p a b).1 (qbM ca cb rank p a b).2 rank c' = 0:=by
  have hpc:qah ca cb a b p c ≠ 0:=by
   rw [qec hc];intro h0;exact hnz ((qdI (qbd h2.ba _)).1 h0)
  unfold qbM;by_cases hpe:p = rank
  ·rw [jah hpe]
   exact ⟨h2,Same.refl,by rw [<- hpe]; exact hpc,fun _ _ _ _ _=>rfl,fun c' hc'=>h.low rank (ja4 _) (by omega) c' hc'⟩
  ·rw [jaf hpe]
   have hst:=fun i' j (hi':i' < r) (hj:j < ca + cb)=>q20 h2 (g:=1) ⟨by omega,by omega⟩ (show rank < r by omega) hpr hi' hj
   have h1:toF 1 = 1:=rfl;refine ⟨h2.add,qxG (i:=rank) (p:=p) (g:=toF 1) (by omega) hpr (Ne.symm hpe) (fun j hj=>by simp only; rw [hst rank j (by omega) hj,jah rfl]) (fun a' ha' hne j hj=>by simp only; rw [hst a' j ha' hj,jaf hne]),?_,fun i j hi hj hne=>by simp only; rw [hst i j hi hj,jaf hne],fun c' hc'=>?_⟩
   ·simp only
    rw [hst rank c (by omega) (by omega),jah rfl,h1,qfu];rw [qec hc (i:=rank),p4 rank (ja4 _) (by omega),qyK,qa1];exact hpc
   ·simp only
    rw [hst rank c' (by omega) (by omega),jah rfl,h1,qfu,h.low rank (ja4 _) (by omega) c' hc',h.low p (by omega) hpr c' hc',qaj]
 rw [hmid];generalize qbM ca cb rank p a b = s1 at h1;obtain ⟨t1,same1,nz1,oth1,low1⟩:=h1
 -- it is scaled
 have hgB:=qeu (qbd t1.ba (rank * ca + c));have hgv:toF (qdU (s1.1.getD (rank * ca + c) 0)) = qcd (qah ca cb s1.1 s1.2 rank c):=by rw [qiY (qbd t1.ba _),qec hc]
 have t2:Two r ca cb (qhF ca cb rank c s1.1 s1.2).1 (qhF ca cb rank c s1.1 s1.2).2:=t1.scale hgB;have hsc:∀ i j,i < r->j < ca + cb->qah ca cb (qhF ca cb rank c s1.1 s1.2).1 (qhF ca cb rank c s1.1 s1.2).2 i j = if i = rank then qh (qah ca cb s1.1 s1.2 rank j) (qcd (qah ca cb s1.1 s1.2 rank c)) else qah ca cb s1.1 s1.2 i j:=fun i j hi hj=>by
  rw [<- hgv];exact q8k t1 hgB (by omega) hi hj
 generalize qhF ca cb rank c s1.1 s1.2 = s2 at t2 hsc;have same2:Same r (ca + cb) (qah ca cb s1.1 s1.2) (qah ca cb s2.1 s2.2):=qAL (i:=rank) (g:=qcd (qah ca cb s1.1 s1.2 rank c)) (by omega) (q2x nz1) (fun j hj=>by rw [hsc rank j (by omega) hj,jah rfl]) fun a' ha' hne j hj=>by rw [hsc a' j ha' hj,jaf hne]
 have one2:qah ca cb s2.1 s2.2 rank c = 1:=by rw [hsc rank c (by omega) (by omega),jah rfl,qcE nz1]
 have low2:∀ c',c' < c->qah ca cb s2.1 s2.2 rank c' = 0:=fun c' hc'=>by rw [hsc rank c' (by omega) (by omega),jah rfl,low1 c' hc',qD]
 have oth2:∀ i j,i < r->j < ca + cb->i ≠ rank->qah ca cb s2.1 s2.2 i j = qah ca cb a b i j:=fun i j hi hj hne=>by rw [hsc i j hi hj,jaf hne,oth1 i j hi hj hne]
 -- the others are cleared
 obtain ⟨r3,same3⟩:=qxQ t2 (rank:=rank) (c:=c) (by omega) hc r (ja4 _);refine ⟨t2.rows r,qAr h (by omega) (by omega) ((same1.trans same2).trans same3) (fun i hi=>?_) fun c' hc' i hi=>?_⟩
 ·rw [r3 i c hi (by omega),one2,qaw]
  by_cases hir:i = rank
  ·rw [jaf (by omega),hir,one2,del,jah rfl]
  ·rw [jah ⟨hi,hir⟩,qaJ,del,jaf hir]
 ·rw [r3 i c' hi (by omega),low2 c' hc',q9,qaj]
  by_cases hir:i = rank
  ·rw [jaf (by omega),hir,low2 c' hc',h.low rank (ja4 _) (by omega) c' hc']
  ·rw [jah ⟨hi,hir⟩,oth2 i c' hi (by omega) hir]
theorem qxM (h:Two r ca cb a b):∀ c,c <= ca->Two r ca cb (qcj r ca cb a b c).1 (qcj r ca cb a b c).2.1/\Ech r (ca + cb) (qah ca cb a b) (qah ca cb (qcj r ca cb a b c).1 (qcj r ca cb a b c).2.1) c (qcj r ca cb a b c).2.2
 | 0,_=>⟨h,q6e⟩
 | c + 1,hc=>by
  obtain ⟨h1,h2⟩:=qxM h c (by omega);rw [qcj];exact q5K h1 h2 (by omega)
end Go.Proofs
namespace Go.Proofs
open Go Go.Eng
theorem qle {d:qe} (h:qz (bI d)):qk d:=fun row hr=>h (qbp row 0) (jbk.2 ⟨row,hr,rfl⟩)
theorem qiq {d:qe}:bytesOf d = (bI d).map fun x=>UInt8.ofNat x.toNat:=by
 simp only [bytesOf,bI,jdr];exact jbw fun r hr=>rfl
set_option maxRecDepth 20000
theorem qkx {k n t s:Int} {o:List Int} (h:o.length = 32):(qan k n t s o).length = 39:=by simp [qan,qax,h]
theorem q41 {k n t s l:Int} {o:List Int} (h:qy k n t s l = true) (ho:qH o):qH (qan k n t s o):=by
 simp [qy,qam] at h;rw [q18 (by omega) (by omega) (by omega) (by omega)];intro x hx;simp only [ja9] at hx;rcases hx with rfl | rfl | rfl | rfl | rfl | rfl | rfl | hx
 ·omega
 ·omega
 ·omega
 ·omega
 ·omega
 ·omega
 ·omega
 ·exact ho x hx
theorem qBi:idC.ok Tryz.prog:=qEP (by simp [q65,qj8]) fun Z hg hp=>by
 obtain ⟨⟨hl,hO,hD⟩,hGr,hGd⟩:=hp;simp (config:={ maxSteps:=2000000 }) [qEq,idC,qjg,qfI,qdb,qbS,qbe,qN,gOk,qgc,qsR,qkB];refine ⟨⟨by omega,hl,hO,hD⟩,fun l _ c _ d _ hok hl2 hB hd=>?_⟩;have hd:bI d.d = qan (Z 0).i (Z 1).i (Z 2).i (Z 3).i (qf (Z 4).d 32) ++ (dgs (Z 8).d).flatten:=hd;have hb:=hok;simp [qy,qam] at hb;have hlen:=congrArg List.length hd;rw [jaj,qcf qwN,qfC,bI_len,qkx qcq] at hlen;refine fun hc=>⟨⟨⟨by omega,by omega,by omega,by omega,hB⟩,hGr,hGd⟩,fun x _ hx=>⟨hok,?_⟩⟩
 have hx:qf x.d 32 = sha (qan (Z 0).i (Z 1).i (Z 2).i (Z 3).i (qf (Z 4).d 32) ++ (dgs (Z 8).d).flatten):=by
  rw [hx,qaB,hd.symm];simp only [jdk,jdl];rw [jap (by rw [bI_len]; omega)]
 exact hx
theorem qz6:qhH.ok Tryz.prog:=q0r (by simp [qmq]) fun Z hg hp=>by
 obtain ⟨l0,hl,ho,hd⟩:=hp;simp (config:={ maxSteps:=2000000 }) [qrA,qhH,quw,qfI,qe3,qbS,qbe,qN,qgc];refine ⟨l0,fun v _ hv=>⟨fun hf=>by rw [<- hv]; exact hf,fun ht=>?_⟩⟩;have hok:qy (Z 0).i (Z 1).i (Z 2).i (Z 3).i (Z 6).i = true:=by rw [<- hv]; exact ht
 have hb:=hok;simp [qy,qam] at hb;obtain ⟨⟨b1,b2,b3,b4⟩,b5,b6,b7⟩:=hb;have hB:77 :: 1 :: IntKind.u8.wrap (Z 0).i :: IntKind.u8.wrap (Z 1).i :: IntKind.u8.wrap (Z 2).i :: IntKind.u8.wrap (qc .shr .i64 (Z 3).i 8) :: IntKind.u8.wrap (Z 3).i :: qf (Z 4).d 32 = qan (Z 0).i (Z 1).i (Z 2).i (Z 3).i (qf (Z 4).d 32):=by
  rw [q18 (by omega) (by omega) (by omega) (by omega),q9t,qc6,qc6,qc6,qc6,qc6,jdw _ (by decide),jcd (a:=(Z 0).i) (by omega) (by omega),jcd (a:=(Z 1).i) (by omega) (by omega),jcd (a:=(Z 2).i) (by omega) (by omega),jcd (a:=(Z 3).i / 256) (by omega) (by omega)]
 refine ⟨⟨hok,l0,rfl,qle ?_,hB⟩,fun l _ d _ t _ _ t0 t1 hl2 hB2 hd2=>⟨fun hlt=>?_,fun hge=>?_⟩⟩
 ·have h:=q41 hok ho
  rw [<- hB] at h;exact h
 ·obtain ⟨T,hT⟩:∃ T:Nat,t.i = T:=⟨t.i.toNat,by omega⟩
  have m1:qc .add .i64 t.i 1 = ((T + 1:Nat):Int):=by rw [add64 (by omega) (by omega)]; omega
  have hTl:T < (Z 8).d.length:=by omega
  have hrow:=qoo hTl;have hlen:=congrArg List.length hd2;rw [jaj,bI_len,qkx qcq,qcf (fun x hx=>qwN x (je7 _ _ hx)),jbe,qfC] at hlen;have hx:∀ q,q = t.i->bI [[.int .u8 (qb (Z 8).d q 0)],[.int .u8 (qb (Z 8).d q 1)],[.int .u8 (qb (Z 8).d q 2)],[.int .u8 (qb (Z 8).d q 3)],[.int .u8 (qb (Z 8).d q 4)],[.int .u8 (qb (Z 8).d q 5)],[.int .u8 (qb (Z 8).d q 6)],[.int .u8 (qb (Z 8).d q 7)],[.int .u8 (qb (Z 8).d q 8)],[.int .u8 (qb (Z 8).d q 9)],[.int .u8 (qb (Z 8).d q 10)],[.int .u8 (qb (Z 8).d q 11)],[.int .u8 (qb (Z 8).d q 12)],[.int .u8 (qb (Z 8).d q 13)],[.int .u8 (qb (Z 8).d q 14)],[.int .u8 (qb (Z 8).d q 15)],[.int .u8 (qb (Z 8).d q 16)],[.int .u8 (qb (Z 8).d q 17)],[.int .u8 (qb (Z 8).d q 18)],[.int .u8 (qb (Z 8).d q 19)],[.int .u8 (qb (Z 8).d q 20)],[.int .u8 (qb (Z 8).d q 21)],[.int .u8 (qb (Z 8).d q 22)],[.int .u8 (qb (Z 8).d q 23)],[.int .u8 (qb (Z 8).d q 24)],[.int .u8 (qb (Z 8).d q 25)],[.int .u8 (qb (Z 8).d q 26)],[.int .u8 (qb (Z 8).d q 27)],[.int .u8 (qb (Z 8).d q 28)],[.int .u8 (qb (Z 8).d q 29)],[.int .u8 (qb (Z 8).d q 30)],[.int .u8 (qb (Z 8).d q 31)]] = qeV (Z 8).d[T]:=fun q hq=>by
   subst hq; rw [hT,<- hrow]; rfl
  have hnew:=congrArg (bI d.d ++ ·) (hx t.i rfl);rw [<- qgf] at hnew;refine ⟨t0,by omega,by omega,hl2,by omega,⟨hok,by rw [m1]; omega,by rw [m1]; omega,hl2,qle ?_,?_⟩,by rw [m1]; omega⟩
  ·intro x hx
   have hx:x ∈ bI d.d ++ qeV (Z 8).d[T]:=by rw [<- hnew]; exact hx
   rcases jaw.1 hx with hx | hx
   ·exact allB_list hB2 x hx
   ·exact (hd _ (jbv hTl)).2 x hx
  ·refine hnew.trans ?_
   rw [hd2,m1,hT];simp only [jal];rw [qpx hTl,jbr]
 ·rw [jap (by rw [qfC]; omega)] at hd2
  exact ⟨hok,hl2,hB2,hd2⟩
theorem qAk:qmY.ok Tryz.prog:=qAw (by simp [qz6,qok]) fun Z hg hp=>by
 obtain ⟨⟨hl,hO,hD⟩,hGr,hGd⟩:=hp;simp (config:={ maxSteps:=2000000 }) [q2e,qmY,qjg,qhH,qfI,qdX,qbS,qbe,qN,gOk,qgc,qsR];refine ⟨⟨by omega,hl,hO,hD⟩,fun l _ d _ hok hl2 hB hd=>?_⟩;have hd:bI d.d = qan (Z 0).i (Z 1).i (Z 2).i (Z 3).i (qf (Z 4).d 32) ++ (dgs (Z 8).d).flatten:=hd;have hb:=hok;simp [qy,qam] at hb;have hlen:=congrArg List.length hd;rw [jaj,qcf qwN,qfC,bI_len,qkx qcq] at hlen;refine ⟨⟨hl2,by omega,hB,hGr,hGd⟩,fun x _ hx=>⟨hok,?_⟩⟩;have hx:qf x.d 32 = sha (qan (Z 0).i (Z 1).i (Z 2).i (Z 3).i (qf (Z 4).d 32) ++ (dgs (Z 8).d).flatten):=by rw [hx,hd]
 exact hx
set_option maxRecDepth 100000
@[simp] def qoP:Sg:=sg 0 [bv 6 7,bv 4 11,bt 3 (.dapp (.dapp (.rcons (tu (.conv .u8 (.arith .shr .i64 (tv 0) (tl 8)))) .rnil) (.rcons (tu (.conv .u8 (tv 0))) .rnil)) (.dtake (tv 4) (tv 2))),bv 2 11,bt 1 (.plus (tl 2) (tv 2)),bg 0 10,bg 5 6]
def quJ:Out:=(fr 8 2 (tn (tl 0) (tv 2) (tn (tv 2) (.dlen (tv 4)) (tn (.tims (tl 1) (.plus (tl 2) (tv 2))) (tl 140737488355328) (fr 10 2 (.pre 0 qoP (tb (.fresh 12 (.post 0 0 qoP 12 (.ret 0 (sg 8 [bt 8 (r8 12)])))))))))))
theorem q3q:qj Tryz.prog qft [qdX] [] quJ:=qg Tryz.func127 Tryz.call127 (by kernel_rfl)
def qyh:Out:=(fr 18 2 (.pre 0 (sg 0 [bv 9 9,bv 8 8,bv 7 7,bv 6 6,bg 5 5,bv 3 3,bv 2 2,bv 1 1,bv 0 0,bt 4 (r8 4)]) (tb (.fresh 20 (.post 0 0 (sg 0 [bv 9 9,bv 8 8,bv 7 7,bv 6 6,bg 5 5,bv 3 3,bv 2 2,bv 1 1,bv 0 0,bt 4 (r8 4)]) 20 (.br (.cmp .neq (tv 20) (tl 0))
 (.ret 0 (sg 18 [bv 18 20]))
 (.br (.cmp .lss (tv 10) (tl 0))
 (.ret 0 (sg 18 [bt 18 (tl 2)]))
 (.br (.cmp .geq (tv 10) (tv 2))
 (.ret 0 (sg 18 [bt 18 (tl 2)]))
 (.pre 1 (sg 0 [bv 1 3,bv 0 0]) (tb (fr 21 2 (.post 1 0 (sg 0 [bv 1 3,bv 0 0]) 21 (tn (tl 0) (tv 12) (.br (.cmp .neq (tv 12) (tv 21))
 (.ret 0 (sg 18 [bt 18 (tl 10)]))
 (tn (tl 0) (tv 10) (ts (tv 10) (tv 6) (ts (tv 10) (.dlen (tv 8)) (tb (.pre 2 (sg 0 [bv 8 17,bv 6 15,bv 5 14,bv 4 13,bv 3 12,bt 2 (tl 0),bg 1 11,bv 0 10,bg 7 16]) (tb (.fresh 23 (.post 2 0 (sg 0 [bv 8 17,bv 6 15,bv 5 14,bv 4 13,bv 3 12,bt 2 (tl 0),bg 1 11,bv 0 10,bg 7 16]) 23 (.br (.not (.c2 .req (r8 23) (.rcons (i8 8 10 0) (.rcons (i8 8 10 1) (.rcons (i8 8 10 2) (.rcons (i8 8 10 3) (.rcons (i8 8 10 4) (.rcons (i8 8 10 5) (.rcons (i8 8 10 6) (.rcons (i8 8 10 7) (.rcons (i8 8 10 8) (.rcons (i8 8 10 9) (.rcons (i8 8 10 10) (.rcons (i8 8 10 11) (.rcons (i8 8 10 12) (.rcons (i8 8 10 13) (.rcons (i8 8 10 14) (.rcons (i8 8 10 15) (.rcons (i8 8 10 16) (.rcons (i8 8 10 17) (.rcons (i8 8 10 18) (.rcons (i8 8 10 19) (.rcons (i8 8 10 20) (.rcons (i8 8 10 21) (.rcons (i8 8 10 22) (.rcons (i8 8 10 23) (.rcons (i8 8 10 24) (.rcons (i8 8 10 25) (.rcons (i8 8 10 26) (.rcons (i8 8 10 27) (.rcons (i8 8 10 28) (.rcons (i8 8 10 29) (.rcons (i8 8 10 30) (.rcons (i8 8 10 31) .rnil))))))))))))))))))))))))))))))))))
 (.ret 0 (sg 18 [bt 18 (tl 20)]))
 (.ret 0 (sg 18 [bt 18 (tl 0)])))))))))))))))))))))))))
theorem q7i:qj Tryz.prog qhc [qdd,qbH,qd8] [] qyh:=qg Tryz.func60 Tryz.call60 (by kernel_rfl)
def qxn:Out:=(fr 18 2 (.pre 0 (sg 0 [bv 9 9,bv 8 8,bv 7 7,bv 6 6,bg 5 5,bv 3 3,bv 2 2,bv 1 1,bv 0 0,bt 4 (r8 4)]) (tb (.fresh 20 (.post 0 0 (sg 0 [bv 9 9,bv 8 8,bv 7 7,bv 6 6,bg 5 5,bv 3 3,bv 2 2,bv 1 1,bv 0 0,bt 4 (r8 4)]) 20 (.br (.not (tv 20))
 (.ret 0 (sg 18 [bt 18 (tl 2)]))
 (.br (.cmp .lss (tv 10) (tl 0))
 (.ret 0 (sg 18 [bt 18 (tl 2)]))
 (.br (.cmp .geq (tv 10) (tv 2))
 (.ret 0 (sg 18 [bt 18 (tl 2)]))
 (.pre 1 (sg 0 [bv 1 3,bv 0 0]) (tb (fr 21 2 (.post 1 0 (sg 0 [bv 1 3,bv 0 0]) 21 (tn (tl 0) (tv 12) (.br (.cmp .neq (tv 12) (tv 21))
 (.ret 0 (sg 18 [bt 18 (tl 10)]))
 (tn (tl 0) (tv 10) (ts (tv 10) (tv 6) (ts (tv 10) (.dlen (tv 8)) (tb (.pre 2 (sg 0 [bv 7 17,bv 5 15,bv 4 14,bv 3 13,bv 2 12,bg 1 11,bv 0 10,bg 6 16]) (tb (.fresh 23 (.post 2 0 (sg 0 [bv 7 17,bv 5 15,bv 4 14,bv 3 13,bv 2 12,bg 1 11,bv 0 10,bg 6 16]) 23 (.br (.not (.c2 .req (r8 23) (.rcons (i8 8 10 0) (.rcons (i8 8 10 1) (.rcons (i8 8 10 2) (.rcons (i8 8 10 3) (.rcons (i8 8 10 4) (.rcons (i8 8 10 5) (.rcons (i8 8 10 6) (.rcons (i8 8 10 7) (.rcons (i8 8 10 8) (.rcons (i8 8 10 9) (.rcons (i8 8 10 10) (.rcons (i8 8 10 11) (.rcons (i8 8 10 12) (.rcons (i8 8 10 13) (.rcons (i8 8 10 14) (.rcons (i8 8 10 15) (.rcons (i8 8 10 16) (.rcons (i8 8 10 17) (.rcons (i8 8 10 18) (.rcons (i8 8 10 19) (.rcons (i8 8 10 20) (.rcons (i8 8 10 21) (.rcons (i8 8 10 22) (.rcons (i8 8 10 23) (.rcons (i8 8 10 24) (.rcons (i8 8 10 25) (.rcons (i8 8 10 26) (.rcons (i8 8 10 27) (.rcons (i8 8 10 28) (.rcons (i8 8 10 29) (.rcons (i8 8 10 30) (.rcons (i8 8 10 31) .rnil))))))))))))))))))))))))))))))))))
 (.ret 0 (sg 18 [bt 18 (tl 20)]))
 (.ret 0 (sg 18 [bt 18 (tl 0)])))))))))))))))))))))))))
theorem q7o:qj Tryz.prog qgC [qe3,qiQ,qft] [] qxn:=qg Tryz.func94 Tryz.call94 (by kernel_rfl)
def q1E:Out:=(.br (.cmp .lss (tv 0) (tl 1))
 (.ret 0 (sg 2 [bt 3 (tl 2),bt 2 (tl 0)]))
 (.br (.cmp .gtr (tv 0) (tl 255))
 (.ret 0 (sg 2 [bt 3 (tl 2),bt 2 (tl 0)]))
 (.br (.cmp .lss (tv 1) (tl 0))
 (.ret 0 (sg 2 [bt 3 (tl 2),bt 2 (tl 0)]))
 (.br (.cmp .gtr (tv 1) (tl 8192))
 (.ret 0 (sg 2 [bt 3 (tl 2),bt 2 (tl 0)]))
 (.inv 0 2 (sg 1000 [bt 1000 (tl 0)]) (.fresh 2 (.hyp 0 2 (.br (.cmp .lss (.arith .mul .i64 (tv 0) (tv 2)) (tv 1))
 (.back 0 2 (sg 1000 [bt 1000 (.arith .add .i64 (tv 2) (tl 1))]))
 (.ret 0 (sg 2 [bt 3 (tl 0),bv 2 2]))))))))))
theorem q8I:qj Tryz.prog qiQ [] [q7A] q1E:=qg Tryz.func114 Tryz.call114 (by kernel_rfl)
def qu6:Out:=(.inv 0 2 (sg 1000 [bt 1002 (tl 0),bt 1001 (tl 0),bv 1000 0]) (fr 2 3 (.hyp 0 2 (.br (.cmp .lss (tv 4) (tl 8))
 (.need (.cmp .geq (.conv .u64 (tv 4)) (tl 0)) (.br (.cmp .neq (.arith .and .u8 (tv 1) (.arith .shl .u8 (tl 1) (.conv .u64 (tv 4)))) (tl 0))
 (.br (.cmp .neq (.arith .and .u8 (tv 2) (tl 128)) (tl 0))
 (.back 0 2 (sg 1000 [bt 1002 (.arith .add .i64 (tv 4) (tl 1)),bt 1001 (.arith .xor .u8 (tv 3) (tv 2)),bt 1000 (.arith .xor .u8 (.arith .shl .u8 (tv 2) (tl 1)) (tl 29))]))
 (.back 0 2 (sg 1000 [bt 1002 (.arith .add .i64 (tv 4) (tl 1)),bt 1001 (.arith .xor .u8 (tv 3) (tv 2)),bt 1000 (.arith .shl .u8 (tv 2) (tl 1))])))
 (.br (.cmp .neq (.arith .and .u8 (tv 2) (tl 128)) (tl 0))
 (.back 0 2 (sg 1000 [bt 1002 (.arith .add .i64 (tv 4) (tl 1)),bv 1001 3,bt 1000 (.arith .xor .u8 (.arith .shl .u8 (tv 2) (tl 1)) (tl 29))]))
 (.back 0 2 (sg 1000 [bt 1002 (.arith .add .i64 (tv 4) (tl 1)),bv 1001 3,bt 1000 (.arith .shl .u8 (tv 2) (tl 1))])))))
 (.ret 0 (sg 2 [bv 2 3]))))))
theorem q4T:qj Tryz.prog qd2 [] [qzt] qu6:=qg Tryz.func169 Tryz.call169 (by kernel_rfl)
def qwu:Out:=(.inv 0 1 (sg 1000 [bt 1000 (tl 1)]) (.fresh 1 (.hyp 0 1 (.br (.cmp .lss (tv 1) (tl 256))
 (.pre 0 (sg 0 [bt 1 (.conv .u8 (tv 1)),bv 0 0]) (tb (.fresh 2 (.post 0 0 (sg 0 [bt 1 (.conv .u8 (tv 1)),bv 0 0]) 2 (.br (.cmp .eql (tv 2) (tl 1))
 (.ret 0 (sg 1 [bt 1 (.conv .u8 (tv 1))]))
 (.back 0 1 (sg 1000 [bt 1000 (.arith .add .i64 (tv 1) (tl 1))])))))))
 (.ret 0 (sg 1 [bt 1 (tl 0)]))))))
theorem q6r:qj Tryz.prog qkJ [qd2] [q1H] qwu:=qg Tryz.func170 Tryz.call170 (by kernel_rfl)
theorem qzX {f:Nat->Int} {n:Nat}:qb5 f n n = (List.range n).map f:=by
 unfold qb5;refine jbw fun i hi=>?_
 rw [jah (jb1.1 hi)]
theorem qCt {k n c:Int} (hk:1 <= k) (h0:0 <= c) (h1:n <= k * c) (h2:c = 0∨k * (c - 1) < n) (hn:0 <= n):c = (n + k - 1).tdiv k:=by
 rw [jdy (by omega)]
 symm
 rw [Int.ediv_eq_iff_of_pos (by omega)];rw [Int.mul_sub,Int.mul_one] at h2;rw [jef] at h1;rcases h2 with rfl | h2
 ·omega
 ·rw [jef] at h2; omega
theorem qyc:qiQ.ok Tryz.prog:=q8I (by simp) fun Z hg hp=>by
 simp [q1E,qiQ,q7A,qbH];have hpb:qcr (Z 0).i (Z 1).i↔(Z 0).i < 1∨255 < (Z 0).i∨(Z 1).i < 0∨8192 < (Z 1).i:=Iff.rfl;refine ⟨fun h=>hpb.2 (by omega),fun h1=>⟨fun h=>hpb.2 (by omega),fun h2=>⟨fun h=>hpb.2 (by omega),fun h3=>⟨fun h=>hpb.2 (by omega),fun h4=>⟨⟨?_,h3⟩,fun u _ hnb u0 u1 u2=>⟨fun h=>?_,fun h=>⟨fun hb=>(hnb hb).elim,fun _=>?_⟩⟩⟩⟩⟩⟩⟩
 ·rw [hpb]; omega
 ·have hb:=qL (x:=(Z 0).i) (y:=u.i) (by omega) h2 u0 (show u.i <= 8192 by omega)
  rw [qbY (by omega) (by omega)] at h;have hlt:u.i < (Z 1).i:=by
   have:=ja1 h1 u0;omega
  rw [add64 (by omega) (by omega)];refine ⟨⟨hnb,by omega,by omega,.inr ?_⟩,by omega⟩;rw [show u.i + 1 - 1 = u.i by omega]; exact h
 ·have hb:=qL (x:=(Z 0).i) (y:=u.i) (by omega) h2 u0 (show u.i <= 8192 by omega)
  rw [qbY (by omega) (by omega)] at h;exact qCt h1 u0 h u2 h3
theorem q8n:∀ i:Fin 256,(if qc .and .u8 (i.val:Int) 128 = 0 then qc .shl .u8 (i.val:Int) 1 else qc .xor .u8 (qc .shl .u8 (i.val:Int) 1) 29) = ofF (xt (toF (i.val:Int))):=by decide +kernel
theorem qCv:∀ b:Fin 256,∀ i:Fin 8,toF ((b.val % 2 ^ (i.val + 1):Nat):Int) = if qc .and .u8 (b.val:Int) (qc .shl .u8 1 (i.val:Int)) = 0 then toF ((b.val % 2 ^ i.val:Nat):Int) else toF ((b.val % 2 ^ i.val:Nat):Int) ^^^ qbf i.val:=by decide +kernel
theorem q9a {x:Int} (h:isB x):(if qc .and .u8 x 128 = 0 then qc .shl .u8 x 1 else qc .xor .u8 (qc .shl .u8 x 1) 29) = ofF (xt (toF x)):=by
 have:=q8n ⟨x.toNat,by have:=h.2; have:=h.1; omega⟩;simp only [jay h.1] at this;exact this
theorem q5O {n:Nat}:qbf (n + 1) = qh (qbf n) 2:=by
 have:(2:F) = qbf 1:=by decide
 rw [this,qdw]
theorem quC {a b:Int} (ha:isB a) (hb:isB b):∀ i:Nat,i <= 8->qje a b i = (ofF (qh (toF a) (qbf i)),ofF (qh (toF a) (toF ((b.toNat % 2 ^ i:Nat):Int))))
 | 0,_=>by
  rw [qje,qhC,qaw,qsO ha,Nat.pow_zero,Nat.mod_one];rw [show toF ((0:Nat):Int) = 0 by rfl,q9]; rfl
 | i + 1,hi=>by
  rw [qje,quC ha hb i (by omega),qnd];simp only;rw [q9a qg3,qeG,<- qlI,q7,<- q5O];have h:=qCv ⟨b.toNat,by have:=hb.2; have:=hb.1; omega⟩ ⟨i,by omega⟩;simp only [jay hb.1] at h;rw [h];split
  ·rfl
  ·rw [qgL]
   congr 1
   have:=qy6 (x:=ofF (qh (toF a) (toF ((b.toNat % 2 ^ i:Nat):Int)))) (y:=ofF (qh (toF a) (qbf i)));rw [qeG,qeG] at this;exact this
theorem qzQ {a b:Int} (ha:isB a) (hb:isB b):(qje a b 8).2 = qbC a b:=by
 rw [quC ha hb 8 (ja4 _),qqV ha hb];simp only
 congr 2
 obtain ⟨h0,h1⟩:=hb
 congr 1
 omega
theorem qlH:qd2.ok Tryz.prog:=q4T (by simp) fun Z hg hp=>by
 obtain ⟨ha,hb⟩:=hp;simp [qu6,qd2,qzt];refine ⟨rfl,fun x _ y _ i _ i0 i1 he=>⟨fun hi=>?_,fun hi=>?_⟩⟩
 ·have hw:IntKind.u64.wrap i.i = i.i:=by simp [IntKind.wrap,IntKind.bits,IntKind.signed]; omega
  rw [hw,add64 (by omega) (by omega),show (i.i + 1).toNat = i.i.toNat + 1 by omega,qje,<- he,qnd];simp only [jay i0];refine ⟨i0,fun h1=>⟨fun h2=>⟨⟨by omega,by omega,?_⟩,by omega⟩,fun h2=>⟨⟨by omega,by omega,?_⟩,by omega⟩⟩,fun h1=>⟨fun h2=>⟨⟨by omega,by omega,?_⟩,by omega⟩,fun h2=>⟨⟨by omega,by omega,?_⟩,by omega⟩⟩⟩ <;> simp [h1,h2]
 ·rw [<- qzQ ha hb,show (8:Nat) = i.i.toNat by omega,<- he]
theorem qoW {x y:F} (h:qh x y = 1):y = qcd x:=by
 by_cases hx:x = 0
 ·rw [hx,qD] at h; exact absurd h (by decide)
 ·have h1:qh (qcd x) (qh x y) = qcd x:=by rw [h,qaw]
  rw [<- q7,qP (x:=qcd x),qcE hx,qfu] at h1;exact h1
theorem q56:qkJ.ok Tryz.prog:=q6r (by simp [qlH]) fun Z hg hp=>by
 have ha:isB (Z 0).i:=hp;simp [qwu,qkJ,q1H,qd2];have hw:∀ x:Int,0 <= x->x < 256->IntKind.u8.wrap x = x:=fun x h0 h1=>by simp [IntKind.wrap,IntKind.bits,IntKind.signed]; omega
 refine ⟨fun j h0 h1=>by omega,fun i _ i0 i1 hn=>⟨fun hi=>?_,fun hi=>?_⟩⟩
 ·rw [hw _ (by omega) hi,add64 (by omega) (by omega)]
  have hb:isB i.i:=⟨by omega,hi⟩;refine ⟨⟨ha,hb⟩,fun m _ hm=>⟨fun h1=>?_,fun h1=>⟨⟨by omega,by omega,fun j j0 j1=>?_⟩,by omega⟩⟩⟩
  ·refine qgZ hb (qeu ha) ?_
   rw [qiY ha];refine qoW ?_;rw [<- qdl ha hb,<- hm,h1]; rfl
  ·by_cases hj:j = i.i
   ·rw [hj,<- hm]; exact h1
   ·exact hn j j0 (by omega)
 ·by_cases h0:(Z 0).i = 0
  ·rw [h0]; rfl
  ·have hx:toF (Z 0).i ≠ 0:=fun h=>h0 ((qdI ha).1 h)
   have hi1:1 <= qdU (Z 0).i:=by
    have hz:=qeu ha;have:qdU (Z 0).i ≠ 0:=fun h=>q2x hx (by rw [<- qiY ha,h]; rfl)
    have:=hz.1;omega
   refine (hn (qdU (Z 0).i) hi1 (by have:=(qeu ha).2; omega) ?_).elim;rw [qqV ha (qeu ha),qiY ha,qcE hx]; rfl
set_option maxRecDepth 20000
theorem qwS {k n t s l i:Int} {D:List (List Int)} {m:List Int} (h:qy k n t s l = false):2 = qci k n t s l D i m:=by rw [qci,jah h]
theorem qlt {k n t s l i:Int} {D:List (List Int)} {m:List Int} (h:qy k n t s l = true) (hi:i < 0∨t <= i):2 = qci k n t s l D i m:=by rw [qci,jaf (by rw [h]; decide),jah hi]
theorem qyz {k n t s l i:Int} {D:List (List Int)} {m:List Int} (h:qy k n t s l = true) (h0:0 <= i) (h1:i < t) (hl:(m.length:Int) ≠ qcD k s):10 = qci k n t s l D i m:=by rw [qci,jaf (by rw [h]; decide),jaf (by omega),jah hl]
theorem qwx {k n t s l i:Int} {D:List (List Int)} {m:List Int} (h:qy k n t s l = true) (h0:0 <= i) (h1:i < t) (hl:(m.length:Int) = qcD k s) (hs:sha (qbb i ++ m) ≠ D.getD i.toNat []):20 = qci k n t s l D i m:=by rw [qci,jaf (by rw [h]; decide),jaf (by omega),jaf (fun h=>h hl),jah hs]
theorem q1P {k n t s l i:Int} {D:List (List Int)} {m:List Int} (h:qy k n t s l = true) (h0:0 <= i) (h1:i < t) (hl:(m.length:Int) = qcD k s) (hs:sha (qbb i ++ m) = D.getD i.toNat []):0 = qci k n t s l D i m:=by rw [qci,jaf (by rw [h]; decide),jaf (by omega),jaf (fun h=>h hl),jaf (fun h=>h hs)]
theorem qqx {k n t s l:Int} (h:qy k n t s l = true):¬ qcr k s:=by
 simp [qy,qam] at h;unfold qcr; omega
theorem qrz:qft.ok Tryz.prog:=q3q (by simp [qok]) fun Z hg hp=>by
 obtain ⟨hl,hl1,hB,hSr,hSd⟩:=hp;simp (config:={ maxSteps:=4000000,contextual:=true }) [quJ,qft,qdX,gOk,hSr,hSd,hB,hl];have hx:bI ([Value.int .u8 (IntKind.u8.wrap (qc .shr .i64 (Z 0).i 8))] :: [Value.int .u8 (IntKind.u8.wrap (Z 0).i)] :: (Z 4).d) = qbb (Z 0).i ++ bI (Z 4).d:=by
  rw [q9t,qc6,qc6]; rfl
 refine ⟨by omega,⟨by omega,by omega,qle ?_⟩,fun u _ hu=>by rw [hx]⟩;rw [hx];intro x hx;rcases jaw.1 hx with hx | hx
 ·simp [qbb] at hx
  rcases hx with rfl | rfl <;> exact ⟨jf0 _ (by decide),Int.emod_lt_of_pos _ (by decide)⟩
 ·exact allB_list hB x hx
set_option maxHeartbeats 1000000 in
theorem qu9:qhc.ok Tryz.prog:=q7i (by simp [qj6,ql8,qmv]) fun Z hg hp=>by
 obtain ⟨⟨i0,i3,hl,hD,hpl,hpc,hp1,hB⟩,hGr,hGd⟩:=hp;simp only [Nat.reduceAdd] at hpl hpc hp1 hB;simp (config:={ maxSteps:=4000000,contextual:=true }) [qyh,qhc,qfE,qdd,qbH,qd8,qbS,qbe,qN,gOk,hGr,hGd,hB,hD,hl,hpl];refine fun u _ hu=>⟨qwS,fun hok=>⟨fun h0=>qlt hok (.inl h0),fun h0=>⟨fun ht=>qlt hok (.inr ht),fun ht l _ e _ _ hgood=>?_⟩⟩⟩
 have hlen:=(hgood (qqx hok)).1;have hml:(bI (Z 14).d).length = (Z 14).d.length:=bI_len;have htl:(Z 2).i = (Z 8).d.length:=by simp [qy] at hok; omega
 have hrow:qj0 (Z 8).d (Z 10).i = (dgs (Z 8).d).getD (Z 10).i.toNat []:=qjV h0 (by omega);refine ⟨fun hne=>qyz hok h0 ht (by rw [hml,qcD,<- hlen]; exact hne),fun heq=>⟨by omega,⟨by omega,by omega,by omega⟩,fun x _ hx=>?_⟩⟩;rw [qjr heq.symm,hrow];exact ⟨fun hn=>qwx hok h0 ht (by rw [hml,qcD,<- hlen]; exact heq) hn,fun he=>q1P hok h0 ht (by rw [hml,qcD,<- hlen]; exact heq) he⟩
set_option maxHeartbeats 1000000 in
theorem qu7:qgC.ok Tryz.prog:=q7o (by simp [qmq,qyc,qrz]) fun Z hg hp=>by
 obtain ⟨⟨i0,i3,hl,hD,hpl,hpc,hp1,hB⟩,hGr,hGd⟩:=hp;simp only [Nat.reduceAdd] at hpl hpc hp1 hB;simp (config:={ maxSteps:=4000000,contextual:=true }) [qxn,qgC,qfE,qe3,qiQ,qbH,qft,qbS,qbe,qN,qgc,gOk,hGr,hGd,hB,hD,hl,hpl];refine fun u _ hu=>⟨qwS,fun hok=>⟨fun h0=>qlt hok (.inl h0),fun h0=>⟨fun ht=>qlt hok (.inr ht),fun ht l _ e _ _ hgood=>?_⟩⟩⟩
 have hlen:=(hgood (qqx hok)).1;have hml:(bI (Z 14).d).length = (Z 14).d.length:=bI_len;have htl:(Z 2).i = (Z 8).d.length:=by simp [qy] at hok; omega
 have hrow:qj0 (Z 8).d (Z 10).i = (dgs (Z 8).d).getD (Z 10).i.toNat []:=qjV h0 (by omega);refine ⟨fun hne=>qyz hok h0 ht (by rw [hml,qcD,<- hlen]; exact hne),fun heq=>⟨by omega,by omega,fun x _ hx=>?_⟩⟩;rw [hrow];exact ⟨fun hn=>qwx hok h0 ht (by rw [hml,qcD,<- hlen]; exact heq) hn,fun he=>q1P hok h0 ht (by rw [hml,qcD,<- hlen]; exact heq) he⟩
set_option maxRecDepth 100000
theorem qxm {k n:Nat} (hk:0 < k):n <= k * qF k n:=by
 unfold qF;have h1:=jdf (n + k - 1) k;have h2:=jd8 (n + k - 1) hk;omega
theorem q7M {n:Nat}:(qaG n n).length = n * n:=by simp [qaG]
theorem q7s {n i:Nat} (hi:i < n * n):(qaG n n).getD i 0 = if i / n = i % n then 1 else 0:=by
 have hn:0 < n:=by
  cases n with
  | zero=>simp at hi
  | succ n=>omega
 rw [jab,qaG,jaq,jbp hi];simp only [ja0,ja2];have:i / n < n:=jej hi;by_cases h:i / n = i % n
 ·rw [jah ⟨h,this⟩,jah h]
 ·rw [jaf (fun hh=>h hh.1),jaf h]
theorem qkm {i n j:Nat} (hj:j < n):(i * n + j) / n = i/\(i * n + j) % n = j:=by
 have hn:0 < n:=by omega
 constructor
 ·rw [jce,jfg hn,jfb hj,jci]
 ·rw [jce,jfh,jdm hj]
theorem qzV {n:Nat}:qz (qaG n n):=fun x hx=>by
 simp only [qaG,jbk] at hx;obtain ⟨i,_,rfl⟩:=hx;split <;> exact ⟨by omega,by omega⟩
theorem qun {n i j:Nat} (hi:i < n) (hj:j < n):qA n (qaG n n) i j = del i j:=by
 obtain ⟨h1,h2⟩:=qkm (i:=i) hj;rw [qA,q7s (qf9 hi hj),h1,h2,del];split <;> rfl
theorem q4X {r c:Nat}:(qb9 r c).length = r * c:=by simp [qb9,qb5]
theorem q4P {r c i j:Nat} (hi:i < r) (hj:j < c):(qb9 r c).getD (i * c + j) 0 = qhR (i:Int) (j:Int):=by
 obtain ⟨h1,h2⟩:=qkm (i:=i) hj;have hlt:=qf9 hi hj;rw [jab,qb9,qb5,jaq,jbp hlt];simp only [ja0,ja2];rw [jah hlt,qo6,h1,h2]
def xsF (m:Nat):F:=toF (m:Int)
theorem qrE {r c i j:Nat} (hr:r <= 256) (hi:i < r) (hj:j < c) (hc:c < 9223372036854775808):qA c (qb9 r c) i j = qaY (xsF i) j:=by
 rw [qA,q4P hi hj,q5k ⟨by omega,by omega⟩ (by omega),qeG,jal]; rfl
theorem qnV {r c:Nat} (hr:r <= 256) (hc:c < 9223372036854775808):qz (qb9 r c):=fun x hx=>by
 simp only [qb9,qb5,jbk,jb1] at hx;obtain ⟨i,hi,rfl⟩:=hx;rw [jah hi];have hc0:0 < c:=by
  cases c with
  | zero=>simp at hi
  | succ c=>omega
 have h1:i / c < r:=jej (by rwa [jce] at hi);have h2:=jd8 i hc0;have h3:((i / c:Nat):Int) < 256:=by omega
 exact q94 ⟨Int.natCast_nonneg _,h3⟩ (by omega)
theorem qff {n:Nat} (hn:n <= 256):distinct n xsF:=fun i j hi hj h=>by
 have:=qgZ (x:=(i:Int)) (y:=(j:Int)) ⟨by omega,by omega⟩ ⟨by omega,by omega⟩ h;omega
theorem q3D {l:List Int} {n:Nat} (h:qz l):qz (l.take n):=fun x hx=>h x (jbx hx)
theorem qAA {l:List Int} {n c i j:Nat} (hi:i < n) (hj:j < c):qA c (l.take (n * c)) i j = qA c l i j:=by
 have hlt:=qf9 hi hj;rw [qA,qA,jab,jab,jbb,jah hlt]
theorem qj7 {ca cb:Nat} {a b:List Int} {i j:Nat}:qah ca cb a b i (ca + j) = qA cb b i j:=by
 rw [qah,jaf (by omega),show ca + j - ca = j by omega]
theorem qs1 {n:Nat} {a A B:List Int} (h:Ech n (n + n) (qah n n a (qaG n n)) (qah n n A B) n n) :
  (∀ i j,i < n->j < n->q6 (fun l=>qh (qA n B i l) (qA n a l j)) n = del i j)/\∀ i j,i < n->j < n->q6 (fun l=>qh (qA n a i l) (qA n B l j)) n = del i j:=by
 refine ⟨fun i j hi hj=>?_,fun i j hi hj=>?_⟩
 ·obtain ⟨x,hx⟩:=h.same.to i hi
  have hxB:∀ l,l < n->x l = qA n B i l:=fun l hl=>by
   have h1:=hx (n + l) (by omega);rw [qj7,qm fun m hm=>by rw [qj7,qun hm hl],qhB (f:=x) hl] at h1;exact h1.symm
  have h2:=hx j (by omega);rw [qyL h i hi j hj,qm fun m hm=>by rw [hxB m hm,qec hj]] at h2;exact h2.symm
 ·obtain ⟨x,hx⟩:=h.same.back i hi
  have hxa:∀ l,l < n->x l = qA n a i l:=fun l hl=>by
   have h1:=hx l (by omega);rw [qec hl,qm fun m hm=>by rw [qyL h m hm l hl],qhB (f:=x) hl] at h1;exact h1.symm
  have h2:=hx (n + j) (by omega);rw [qj7,qun hi hj,qm fun m hm=>by rw [hxa m hm,qj7]] at h2;exact h2.symm
theorem q7Z {n:Nat} {m:List Int} (hl:m.length = n * n) (hb:qz m):Two n n n m (qaG n n):=⟨hl,q7M,hb,qzV⟩
theorem qov {n:Nat} {m:List Int} (hl:m.length = n * n) (hb:qz m):Two n n n (qez m n).1 (qez m n).2.1/\Ech n (n + n) (qah n n m (qaG n n)) (qah n n (qez m n).1 (qez m n).2.1) n (qez m n).2.2 :=
 qxM (q7Z hl hb) n (ja4 _)
theorem qyk {n:Nat} {m:List Int} (hl:m.length = n * n) (hb:qz m) (h:∀ y:Nat->F,(∀ i,i < n->q6 (fun j=>qh (qA n m i j) (y j)) n = 0)->∀ j,j < n->y j = 0):(qez m n).2.2 = n:=by
 obtain ⟨_,he⟩:=qov hl hb;refine Classical.byContradiction fun hne=>?_
 have hlt:(qez m n).2.2 < n:=by have:=he.le; omega
 obtain ⟨y,⟨c,hc,hyc⟩,hy⟩:=q9u he (by omega) hlt;exact hyc (h y (fun i hi=>by rw [<- hy i hi]; exact qm fun j hj=>by rw [qec hj]; rfl) c hc)
theorem q0R {k total:Nat} (h:k <= total):((qb9 total k).take (k * k)).length = k * k:=by
 rw [jbe,q4X];exact jb8 (jbq k h)
theorem q1I {k total i j:Nat} (hk:k <= total) (ht:total <= 255) (hi:i < k) (hj:j < k):qA k ((qb9 total k).take (k * k)) i j = qaY (xsF i) j:=by
 rw [qAA hi hj,qrE (by omega) (by omega) hj (by omega)]
theorem qux {k total:Nat} (hk:k <= total) (ht:total <= 255):qz ((qb9 total k).take (k * k)):=q3D (qnV (by omega) (by omega))
theorem qy3 {k total:Nat} (hk:k <= total) (ht:total <= 255):(qck k total).2.2 = k :=
 qyk (q0R hk) (qux hk ht) fun y hy=>qqw (qff (by omega)) fun i hi=>by
  rw [<- hy i hi];exact qm fun j hj=>by rw [q1I hk ht hi hj]
theorem q0M {k total:Nat} (hk:k <= total) (ht:total <= 255):Two k k k (qck k total).1 (qck k total).2.1/\Ech k (k + k) (qah k k ((qb9 total k).take (k * k)) (qaG k k)) (qah k k (qck k total).1 (qck k total).2.1) k k:=by
 have h:=qov (q0R hk) (qux hk ht);have hr:=qy3 hk ht;unfold qck at hr ⊢;rw [hr] at h;exact h
theorem qoM {a b:List Int} {ra ca cb:Nat} (hb:b.length = ca * cb) (ha:qz a) (hbb:qz b) (hca:0 < ca):∀ t,t <= ra * ca->(qcz a b ra ca cb t).length = ra * cb/\qz (qcz a b ra ca cb t) /\
  ∀ i j,i < ra->j < cb->qA cb (qcz a b ra ca cb t) i j = q6 (fun l=>if i * ca + l < t then qh (qA ca a i l) (qA cb b l j) else 0) ca
 | 0,_=>⟨by simp [qcz],fun x hx=>by rw [qcz] at hx; rw [jc3 hx]; exact ⟨by omega,by omega⟩,fun i j hi hj=>by
   rw [qcC fun l _=>jaf (by omega),qA,qcz,jab,jbf,jah (qf9 hi hj)]; rfl⟩
 | t + 1,ht=>by
  obtain ⟨h1,h2,h3⟩:=qoM (ra:=ra) hb ha hbb hca t (by omega);have hti:t / ca < ra:=jej (by rw [jce]; omega);have htl:=jd8 t hca;have htd:=jdf t ca;rw [qcz];refine ⟨by rw [qbK,h1],qe2 h2,fun i j hi hj=>?_⟩;have hlt:=qf9 hi hj;have hsl:(seg b (t % ca * cb) cb).length = cb:=qdF (by rw [hb]; exact qr0 htl);have hL:qA cb (qE (qcz a b ra ca cb t) (t / ca * cb) (seg b (t % ca * cb) cb) (a.getD t 0)) i j = if i = t / ca then qA cb (qcz a b ra ca cb t) i j ^^^ qh (toF (a.getD t 0)) (qA cb b (t % ca) j) else qA cb (qcz a b ra ca cb t) i j:=by
   unfold qA;rw [jab,qbN,jac (by omega),ja0,ja2,hsl];by_cases he:i = t / ca
   ·subst he
    rw [jah ⟨by omega,by omega⟩,jah rfl,show t / ca * cb + j - t / ca * cb = j by omega];have hs:(seg b (t % ca * cb) cb).getD j 0 = b.getD (t % ca * cb + j) 0:=by
     rw [jab,qf5,jah hj,jab]
    rw [hs,qfv,qdl (qbd ha _) (qbd hbb _),jab (l:=qcz a b ra ca cb t),jac (by omega),ja2]
   ·rw [jaf (fun h=>he ((qxD hj).1 h)),jaf he,jab,jac (by omega),ja2]
  rw [hL,h3 i j hi hj];by_cases he:i = t / ca
  ·have hit:i * ca + t % ca = t:=by rw [he,jce]; exact htd
   rw [jah he];have hat:toF (a.getD t 0) = qA ca a i (t % ca):=by rw [qA,hit]
   have h4:qh (toF (a.getD t 0)) (qA cb b (t % ca) j) = q6 (fun l=>if l = t % ca then qh (qA ca a i l) (qA cb b l j) else 0) ca:=by
    rw [qiW htl fun l _ hl=>jaf hl,jah rfl,hat]
   rw [h4,<- qgP];refine qm fun l hl=>?_
   by_cases hlt:l = t % ca
   ·subst hlt; rw [jaf (by omega),jah rfl,jah (by omega),qa1]
   ·rw [jaf hlt,qaj]
    by_cases h5:i * ca + l < t
    ·rw [jah h5,jah (by omega)]
    ·rw [jaf h5,jaf (by omega)]
  ·rw [jaf he]
   refine qm fun l hl=>?_
   have hne:i * ca + l ≠ t:=fun h=>he (by rw [<- h]; exact (qkm hl).1.symm)
   by_cases h5:i * ca + l < t
   ·rw [jah h5,jah (by omega)]
   ·rw [jaf h5,jaf (by omega)]
theorem q3y {a b:List Int} {ra ca cb:Nat} (hb:b.length = ca * cb) (ha:qz a) (hbb:qz b) (hca:0 < ca):(qof a b ra ca cb).length = ra * cb/\qz (qof a b ra ca cb) /\
  ∀ i j,i < ra->j < cb->qA cb (qof a b ra ca cb) i j = q6 (fun l=>qh (qA ca a i l) (qA cb b l j)) ca:=by
 obtain ⟨h1,h2,h3⟩:=qoM (ra:=ra) hb ha hbb hca (ra * ca) (ja4 _);refine ⟨h1,h2,fun i j hi hj=>?_⟩;rw [qof,h3 i j hi hj];exact qm fun l hl=>jah (qf9 hi hl)
theorem qfB {k total:Nat} (h1:1 <= k) (hk:k <= total) (ht:total <= 255):(qc1 k total).length = total * k/\qz (qc1 k total) /\
  (∀ i j,i < total->j < k->qA k (qc1 k total) i j = q6 (fun l=>qh (qaY (xsF i) l) (qA k (qck k total).2.1 l j)) k) /\
  ∀ i j,i < total->j < k->qA k (qc1 k total) i j = qdO k xsF (xsF i) j:=by
 obtain ⟨t2,he⟩:=q0M hk ht;obtain ⟨p1,p2,p3⟩:=q3y (ra:=total) t2.lb (qnV (r:=total) (c:=k) (by omega) (by omega)) t2.bb (by omega);have hg:∀ i j,i < total->j < k->qA k (qc1 k total) i j = q6 (fun l=>qh (qaY (xsF i) l) (qA k (qck k total).2.1 l j)) k:=fun i j hi hj=>by
  rw [qc1,p3 i j hi hj];exact qm fun l hl=>by rw [qrE (by omega) hi hl (by omega)]
 refine ⟨p1,p2,hg,fun i j hi hj=>?_⟩;obtain ⟨_,m2⟩:=qs1 he;have hp:∀ x,qB k (fun l=>qA k (qck k total).2.1 l j) x = q6 (fun l=>qh (qaY x l) (qA k (qck k total).2.1 l j)) k:=fun x=>qm fun l _=>qP
 rw [hg i j hi hj,<- hp,qmk (qff (n:=k) (by omega))];rw [qm (g:=fun m=>qh (qdO k xsF (xsF i) m) (del m j)) fun m hm=>?_,qhB hj];rw [hp,<- m2 m j hm hj]
 congr 1
 exact qm fun l hl=>by rw [q1I hk ht hm hl]
theorem qnp {g full:List Int} {k l i:Nat} (hg:qz g) (hf:qz full) (hl:full.length = k * l):∀ j,j <= k->(qcu g full k l i j).length = l/\qz (qcu g full k l i j) /\
  ∀ c,c < l->toF ((qcu g full k l i j).getD c 0) = q6 (fun m=>qh (qA k g i m) (toF (full.getD (m * l + c) 0))) j
 | 0,_=>⟨by simp [qcu],fun x hx=>by rw [qcu] at hx; rw [jc3 hx]; exact ⟨by omega,by omega⟩,fun c hc=>by
   rw [qcu,jab,jbf,jah hc]; rfl⟩
 | j + 1,hj=>by
  obtain ⟨h1,h2,h3⟩:=qnp hg hf hl (i:=i) j (by omega);have hsl:(seg full (j * l) l).length = l:=qdF (by rw [hl]; exact qr0 (by omega));rw [qcu];refine ⟨by rw [qbK,h1],qe2 h2,fun c hc=>?_⟩;rw [jab,qbN,jac (by omega),ja0,ja2,hsl,jah ⟨by omega,by omega⟩,jei];have hs:(seg full (j * l) l).getD c 0 = full.getD (j * l + c) 0:=by
   rw [jab,qf5,jah hc,jab]
  rw [hs,qfv,qdl (qbd hg _) (qbd hf _),q6,<- h3 c hc,jab (l:=qcu g full k l i j),jac (by omega),ja2];rfl
theorem q3c {data:List Int} {n:Nat} (hb:qz data) (hn:data.length <= n):(qjM data n).length = n/\qz (qjM data n):=by
 refine ⟨by simp [qjM]; omega,fun x hx=>?_⟩;rcases jaw.1 hx with hx | hx
 ·exact hb x hx
 ·rw [jc3 hx]; exact ⟨by omega,by omega⟩
theorem qAM {data:List Int} {n i:Nat}:(qjM data n).getD i 0 = data.getD i 0:=by
 rw [jab,jab,qjM];by_cases h:i < data.length
 ·rw [jar h]
 ·rw [jao (by omega),jat (l:=data) (by omega),jbf]
  split <;> rfl
theorem q6p {k total:Nat} {data:List Int} (h1:1 <= k) (hk:k <= total) (ht:total <= 255) (hb:qz data) (i:Nat):(qdR k total data i).length = qF k data.length/\qz (qdR k total data i) /\
  ∀ c,c < qF k data.length->toF ((qdR k total data i).getD c 0) = q6 (fun m=>qh (qA k (qc1 k total) i m) (toF (data.getD (m * qF k data.length + c) 0))) k:=by
 obtain ⟨g1,g2,_,_⟩:=qfB h1 hk ht;obtain ⟨f1,f2⟩:=q3c hb (n:=k * qF k data.length) (qxm (by omega));obtain ⟨p1,p2,p3⟩:=qnp (i:=i) g2 f2 f1 k (ja4 _);refine ⟨p1,p2,fun c hc=>?_⟩;rw [qdR,p3 c hc];exact qm fun m _=>by rw [qAM]
end Go.Proofs
namespace Go.Proofs
open Go Go.Eng
theorem qm4 {a b:List Int} (hl:a.length = b.length) (h:∀ i,i < a.length->a.getD i 0 = b.getD i 0):a = b:=by
 apply jdj hl;intro i h1 h2;have:=h i h1
 rwa [jab,jac h1,jab,jac h2] at this
theorem qsE {Z Z':Env} {nv m:Nat} (hag:∀ n,n < nv->Z' n = Z n) (h:nv <= m):∀ n,n < nv->(Z'.upto m) n = Z n:=fun n hn=>by
 rw [Env.upto,jah (by omega)];exact hag n hn
end Go.Proofs
namespace Go.Eng
open Go Go.Proofs
def qEO:SV:=qqa 0 1 2 3 4
def iI (d:qe):List Int:=d.map fun r=>qbp r 0
def qdh (m:List Int) (cols:Nat) (rs:List Int):List Int:=rs.flatMap fun r=>seg m (r.toNat * cols) cols
def qnl (r c l:Int) (n rows:Int) (rs:List Int):Prop:=¬ qaN r c l∨n = 0∨255 < n∨∃ x ∈ rs,x < 0∨rows <= x
def qjb:Ctr:={ fn := 133,nv:=12,args:=[qEO,.one (.vslice 7 (.lit 0) (.var 8) (.var 9) 1)],heap:=[],ro:=[bHp 2 5 6,iHp 7 10 11],pre:=fun Z=>0 <= (Z 3).i/\(Z 3).i <= (Z 4).i/\(Z 3).i <= (Z 5).d.length/\qk (Z 5).d/\0 <= (Z 8).i/\(Z 8).i = (Z 10).d.length,alts:=[
 { k:=0,ret:=.tup [qpX,qa7 (.lit 2)],heap:=[],post:=fun Z=>qnl (Z 0).i (Z 1).i (Z 3).i (Z 8).i (Z 0).i (iI (Z 10).d) },
 { k:=4,ret:=.tup [qpP (.var 8) (.var 1) 12 13 14,qa7 (.lit 0)],heap:=[bHp 12 15 14],post:=fun Z=>¬ qnl (Z 0).i (Z 1).i (Z 3).i (Z 8).i (Z 0).i (iI (Z 10).d)/\qdY (Z 8).i (Z 1).i (Z 13).i (Z 14).i (Z 15).d/\(Z 13).i = (Z 15).d.length/\bI (Z 15).d = qdh (bI (Z 5).d) (Z 1).i.toNat (iI (Z 10).d) }] }
def qvz (r c l n:Int):Prop:=qaN r c l/\1 <= n/\n <= 255
def q7k:Inv:={ key:=4,nv:=3,env:=[(1,.one (.vslice 7 (.lit 0) (.var 8) (.var 9) 1)),(2,.one (.vptr 1001 (.lit 0) 3 0)),(4,.one (.vptr 1002 (.lit 0) 3 0)),(25,.one (.vslice 7 (.lit 0) (.var 8) (.var 9) 1)),(26,iv .i64 (.var 8)),(27,iv .i64 (.var 1000))],heap:=[q3o 1002,qiV 1001 0 1 2 3 4],inv:=(fun Z=>qvz (Z 0).i (Z 1).i (Z 3).i (Z 8).i/\0 <= (Z 1000).i/\(Z 1000).i <= (Z 8).i/\∀ x ∈ (iI (Z 10).d).take (Z 1000).i.toNat,0 <= x/\x < (Z 0).i),mu:=(fun Z=>((Z 8).i - (Z 1000).i).toNat) }
def q6t:Inv:={ key:=11,nv:=8,env:=[(2,.one (.vptr 1001 (.lit 0) 3 0)),(4,.one (.vptr 1002 (.lit 0) 3 0)),(8,.one (.vptr 1007 (.lit 0) 3 0)),(46,.one (.vslice 7 (.lit 0) (.var 8) (.var 9) 1)),(47,iv .i64 (.var 8)),(48,iv .i64 (.var 1000))],heap:=[q3o 1002,qiV 1001 0 1 2 3 4,qiV 1007 8 1 1003 1004 1005,bHp 1003 1006 1005],inv:=(fun Z=>qvz (Z 0).i (Z 1).i (Z 3).i (Z 8).i/\0 <= (Z 1000).i/\(Z 1000).i <= (Z 8).i/\(∀ x ∈ iI (Z 10).d,0 <= x/\x < (Z 0).i)/\qdY (Z 8).i (Z 1).i (Z 1004).i (Z 1005).i (Z 1006).d/\(Z 1004).i = (Z 1006).d.length/\(bI (Z 1006).d).take ((Z 1000).i * (Z 1).i).toNat = qdh (bI (Z 5).d) (Z 1).i.toNat ((iI (Z 10).d).take (Z 1000).i.toNat)),mu:=(fun Z=>((Z 8).i - (Z 1000).i).toNat) }
def qds (xs:List Int) (x:Int):List Int:=(List.range xs.length).map fun i=>ofF (qdO xs.length (fun m=>toF (xs.getD m 0)) (toF x) i)
def qj9 (xs:List Int):Prop:=Go.Proofs.distinct xs.length fun m=>toF (xs.getD m 0)
def qn2:Ctr:={ fn := 137,nv:=6,args:=[.one (.vslice 0 (.lit 0) (.var 1) (.var 2) 1),iv .u8 (.var 5)],heap:=[],ro:=[bHp 0 3 4],pre:=fun Z=>0 <= (Z 1).i/\(Z 1).i <= 256/\(Z 1).i = (Z 3).d.length/\qk (Z 3).d/\qhf (Z 5).i/\qj9 (bI (Z 3).d),alts:=[{ k:=3,ret:=.one (.vslice 6 (.lit 0) (.var 1) (.var 7) 1),heap:=[bHp 6 8 7],post:=fun Z=>(Z 1).i <= (Z 7).i/\bI (Z 8).d = qds (bI (Z 3).d) (Z 5).i }] }
def qqM:List (Nat × SV):=[(0,.one (.vslice 0 (.lit 0) (.var 1) (.var 2) 1)),(1,iv .u8 (.var 5)),(5,.one (.vslice 1000 (.lit 0) (.var 1) (.var 1001) 1))]
def qcS (d:qe) (m:Nat):F:=toF ((bI d).getD m 0)
def q5B:Inv:={ key:=3,nv:=4,env:=qqM ++ [(6,iv .i64 (.var 1003))],heap:=[bHp 1000 1002 1001],inv:=(fun Z=>(Z 1).i <= (Z 1001).i/\(Z 1002).d = List.replicate (Z 1).i.toNat [.int .u8 0]/\0 <= (Z 1003).i/\(Z 1003).i <= (Z 1).i/\∀ m:Nat,(m:Int) < (Z 1003).i->toF (Z 5).i ≠ qcS (Z 3).d m),mu:=(fun Z=>((Z 1).i - (Z 1003).i).toNat) }
def q4K (n:Int) (x:Int) (d:qe):Prop:=∀ m:Nat,(m:Int) < n->toF x ≠ qcS d m
def q8a:Inv:={ key:=10,nv:=5,env:=qqM ++ [(7,iv .u8 (.var 1003)),(8,iv .i64 (.var 1004))],heap:=[bHp 1000 1002 1001],inv:=(fun Z=>(Z 1).i <= (Z 1001).i/\(Z 1002).d = List.replicate (Z 1).i.toNat [.int .u8 0]/\q4K (Z 1).i (Z 5).i (Z 3).d/\0 <= (Z 1004).i/\(Z 1004).i <= (Z 1).i/\qhf (Z 1003).i/\toF (Z 1003).i = qat (fun m=>toF (Z 5).i ^^^ qcS (Z 3).d m) (Z 1004).i.toNat),mu:=(fun Z=>((Z 1).i - (Z 1004).i).toNat) }
def qDJ (n x abv i:Int) (dw d:qe):Prop:=q4K n x d/\qhf abv/\toF abv = qat (fun m=>toF x ^^^ qcS d m) n.toNat/\dw.length = n.toNat/\0 <= i/\i <= n/\bI dw = qb5 (fun j=>ofF (qdO n.toNat (qcS d) (toF x) j)) n.toNat i.toNat
def q7Y:Inv:={ key:=14,nv:=5,env:=qqM ++ [(7,iv .u8 (.var 1003)),(9,iv .i64 (.var 1004))],heap:=[bHp 1000 1002 1001],inv:=(fun Z=>(Z 1).i <= (Z 1001).i/\qDJ (Z 1).i (Z 5).i (Z 1003).i (Z 1004).i (Z 1002).d (Z 3).d),mu:=(fun Z=>((Z 1).i - (Z 1004).i).toNat) }
def q6C:Inv:={ key:=18,nv:=7,env:=qqM ++ [(7,iv .u8 (.var 1003)),(9,iv .i64 (.var 1004)),(10,iv .u8 (.var 1005)),(11,iv .i64 (.var 1006))],heap:=[bHp 1000 1002 1001],inv:=(fun Z=>(Z 1).i <= (Z 1001).i/\qDJ (Z 1).i (Z 5).i (Z 1003).i (Z 1004).i (Z 1002).d (Z 3).d/\(Z 1004).i < (Z 1).i/\(Z 1004).i = (Z 20).i/\0 <= (Z 1006).i/\(Z 1006).i <= (Z 1).i/\qhf (Z 1005).i/\toF (Z 1005).i = qh (toF (Z 5).i ^^^ qcS (Z 3).d (Z 1004).i.toNat) (qat (fun m=>if m = (Z 1004).i.toNat then 1 else qcS (Z 3).d (Z 1004).i.toNat ^^^ qcS (Z 3).d m) (Z 1006).i.toNat)),mu:=(fun Z=>((Z 1).i - (Z 1006).i).toNat) }
def qfs:Ctr:={ qbv with fn := 113 }
end Go.Eng
namespace Go.Proofs
open Go Go.Eng
def q1d:Out:=(fr 12 2 (.pre 0 (sg 0 [bv 6 6,bv 5 5,bv 4 4,bv 3 3,bg 2 2,bv 1 1,bv 0 0]) (tb (.fresh 14 (.post 0 0 (sg 0 [bv 6 6,bv 5 5,bv 4 4,bv 3 3,bg 2 2,bv 1 1,bv 0 0]) 14 (.br (.not (tv 14))
 (.ret 0 (sg 12 []))
 (tn (tl 0) (tv 8) (.br (.cmp .eql (tv 8) (tl 0))
 (.ret 0 (sg 12 []))
 (.br (.cmp .gtr (tv 8) (tl 255))
 (.ret 0 (sg 12 []))
 (.inv 0 15 (sg 1000 [bt 1000 (tl 0),bg 1002 13,bg 1001 12]) (fr 15 3 (.hyp 0 15 (.br (.cmp .lss (tv 15) (tv 8))
 (tn (tl 0) (tv 15) (ts (tv 15) (.dlen (tv 10)) (.br (.cmp .lss (.icell (tv 10) (tv 15) 0) (tl 0))
 (.ret 0 (sg 12 []))
 (.br (.cmp .geq (.icell (tv 10) (tv 15) 0) (tv 0))
 (.ret 0 (sg 12 []))
 (.back 0 15 (sg 1000 [bt 1000 (.arith .add .i64 (tv 15) (tl 1)),bg 1002 17,bg 1001 16]))))))
 (.pre 1 (sg 0 [bv 1 1,bv 0 8]) (tb (fr 18 4 (.post 1 0 (sg 0 [bv 1 1,bv 0 8]) 18 (.fresh 22 (.inv 1 23 (sg 1000 [bv 1006 21,bv 1005 20,bv 1004 19,bg 1003 18,bt 1000 (tl 0),bg 1007 22,bg 1002 17,bg 1001 16]) (fr 23 8 (.hyp 1 23 (.br (.cmp .lss (tv 23) (tv 8))
 (tn (tl 0) (tv 23) (ts (tv 23) (.dlen (tv 10)) (tb (.pre 2 (sg 0 [bv 6 28,bv 5 29,bv 7 23,bv 4 28,bv 3 27,bg 2 26,bv 1 1,bv 0 8]) (tb (fr 31 3 (.post 2 0 (sg 0 [bv 6 28,bv 5 29,bv 7 23,bv 4 28,bv 3 27,bg 2 26,bv 1 1,bv 0 8]) 31 (tb (.pre 2 (sg 0 [bv 6 6,bv 5 5,bt 7 (.icell (tv 10) (tv 23) 0),bv 4 4,bv 3 3,bg 2 2,bv 1 1,bv 0 0]) (tb (fr 34 3 (.post 2 0 (sg 0 [bv 6 6,bv 5 5,bt 7 (.icell (tv 10) (tv 23) 0),bv 4 4,bv 3 3,bg 2 2,bv 1 1,bv 0 0]) 34 (tb (tn (tl 0) (tv 31) (tn (tl 0) (tv 32) (tn (.plus (tv 31) (tv 32)) (.dlen (tv 29)) (tn (tl 0) (tv 34) (tn (tl 0) (tv 35) (tn (.plus (tv 34) (tv 35)) (.dlen (tv 5)) (.fresh 37 (.back 1 23 (sg 1000 [bt 1006 (.c3 .dsplice (tv 29) (tv 31) (.dtake (.dtake (.ddrop (tv 5) (tv 34)) (tv 35)) (.imin (tv 32) (tv 35)))),bv 1005 28,bv 1004 27,bg 1003 26,bt 1000 (.arith .add .i64 (tv 23) (tl 1)),bg 1007 30,bg 1002 25,bg 1001 24]))))))))))))))))))))))
 (.ret 1 (sg 12 [bv 15 29,bv 14 28,bv 13 27,bg 12 26]))))))))))))))))))))))))
theorem q8P:qj Tryz.prog qjb [qdx,qdc,qcs] [q7k,q6t] q1d:=qg Tryz.func133 Tryz.call133 (by kernel_rfl)
def q04:Out:=(tn (tl 0) (tv 1) (tn (.tims (tl 1) (tv 1)) (tl 281474976710656) (.fresh 6 (.inv 0 7 (sg 1000 [bt 1002 (.drep (tv 1) (.rcons (tu (tl 0)) .rnil)),bt 1003 (tl 0),bv 1001 1,bg 1000 6]) (fr 7 4 (.hyp 0 7 (.br (.cmp .lss (tv 10) (tv 1))
 (tn (tl 0) (tv 10) (ts (tv 10) (.dlen (tv 3)) (.br (.cmp .eql (.icell (tv 3) (tv 10) 0) (tv 5))
 (ts (tv 10) (.dlen (tv 9)) (.ret 0 (sg 6 [bt 8 (.dput (tv 9) (tv 10) 0 (.rcons (tu (tl 1)) .rnil)),bv 7 8,bg 6 7])))
 (.back 0 7 (sg 1000 [bv 1002 9,bt 1003 (.arith .add .i64 (tv 10) (tl 1)),bv 1001 8,bg 1000 7])))))
 (.inv 1 11 (sg 1000 [bv 1002 9,bt 1004 (tl 0),bt 1003 (tl 1),bv 1001 8,bg 1000 7]) (fr 11 5 (.hyp 1 11 (.br (.cmp .lss (tv 15) (tv 1))
 (tn (tl 0) (tv 15) (ts (tv 15) (.dlen (tv 3)) (.pre 0 (sg 0 [bt 1 (.arith .xor .u8 (tv 5) (.icell (tv 3) (tv 15) 0)),bv 0 14]) (tb (.fresh 16 (.post 0 0 (sg 0 [bt 1 (.arith .xor .u8 (tv 5) (.icell (tv 3) (tv 15) 0)),bv 0 14]) 16 (.back 1 11 (sg 1000 [bv 1002 13,bt 1004 (.arith .add .i64 (tv 15) (tl 1)),bv 1003 16,bv 1001 12,bg 1000 11]))))))))
 (.inv 2 16 (sg 1000 [bv 1002 13,bt 1004 (tl 0),bv 1003 14,bv 1001 12,bg 1000 11]) (fr 16 5 (.hyp 2 16 (.br (.cmp .lss (tv 20) (tv 1))
 (tn (tl 0) (tv 20) (ts (tv 20) (.dlen (tv 3)) (.inv 3 21 (sg 1000 [bv 1002 18,bt 1006 (tl 0),bt 1005 (.arith .xor .u8 (tv 5) (.icell (tv 3) (tv 20) 0)),bv 1004 20,bv 1003 19,bv 1001 17,bg 1000 16]) (fr 21 7 (.hyp 3 21 (.br (.cmp .lss (tv 27) (tv 1))
 (.br (.cmp .neq (tv 27) (tv 25))
 (tn (tl 0) (tv 25) (ts (tv 25) (tv 1) (ts (tv 25) (.dlen (tv 3)) (tn (tl 0) (tv 27) (ts (tv 27) (.dlen (tv 3)) (tb (.pre 0 (sg 0 [bt 1 (.arith .xor .u8 (.icell (tv 3) (tv 25) 0) (.icell (tv 3) (tv 27) 0)),bv 0 26]) (tb (.fresh 28 (.post 0 0 (sg 0 [bt 1 (.arith .xor .u8 (.icell (tv 3) (tv 25) 0) (.icell (tv 3) (tv 27) 0)),bv 0 26]) 28 (.back 3 21 (sg 1000 [bv 1002 23,bt 1006 (.arith .add .i64 (tv 27) (tl 1)),bv 1005 28,bv 1004 25,bv 1003 24,bv 1001 22,bg 1000 21]))))))))))))
 (.back 3 21 (sg 1000 [bv 1002 23,bt 1006 (.arith .add .i64 (tv 27) (tl 1)),bv 1005 26,bv 1004 25,bv 1003 24,bv 1001 22,bg 1000 21])))
 (.pre 1 (sg 0 [bv 0 26]) (tb (.fresh 28 (.post 1 0 (sg 0 [bv 0 26]) 28 (.pre 0 (sg 0 [bv 1 28,bv 0 24]) (tb (.fresh 29 (.post 0 0 (sg 0 [bv 1 28,bv 0 24]) 29 (tn (tl 0) (tv 25) (ts (tv 25) (tv 1) (ts (tv 25) (.dlen (tv 23)) (.back 2 16 (sg 1000 [bt 1002 (.dput (tv 23) (tv 25) 0 (.rcons (tu (tv 29)) .rnil)),bt 1004 (.arith .add .i64 (tv 25) (tl 1)),bv 1003 24,bv 1001 22,bg 1000 21])))))))))))))))))))
 (.ret 0 (sg 6 [bv 8 18,bv 7 17,bg 6 16])))))))))))))))))
theorem qA1:qj Tryz.prog qn2 [qd2,qkJ] [q5B,q8a,q7Y,q6C] q04:=qg Tryz.func137 Tryz.call137 (by kernel_rfl)
def qtS:Out:=(.br (.cmp .leq (tl 1) (tv 0))
 (.br (.cmp .leq (tv 0) (tv 1))
 (.ret 0 (sg 2 [bt 2 (.cmp .leq (tv 1) (tl 255))]))
 (.ret 0 (sg 2 [bt 2 (.bl false)])))
 (.ret 0 (sg 2 [bt 2 (.bl false)])))
theorem q3T:qj Tryz.prog qfs [] [] qtS:=qg Tryz.func113 Tryz.call113 (by kernel_rfl)
theorem qqR {l:List Int} {n:Nat} (h:n < l.length):l.take (n + 1) = l.take n ++ [l.getD n 0]:=by
 rw [jee,jab,jac h]; rfl
theorem qrg:qfs.ok Tryz.prog:=q3T (by simp) fun Z hg hp=>by
 simp [qtS,qfs,qbv];refine ⟨fun h1=>⟨fun h2=>?_,fun h2=>?_⟩,fun h1=>?_⟩
 ·simp [qM,h1,h2,qJ]
 ·simp [qM]; omega
 ·simp [qM]; omega
theorem qw8 {d:qe}:(iI d).length = d.length:=by simp [iI]
theorem qk3 {d:qe} {i:Int} (h0:0 <= i) (h1:i < d.length):(iI d).getD i.toNat 0 = qb d i 0:=by
 have hl:i.toNat < d.length:=by omega
 simp [iI,qb,qC,qbp,jab,jac hl]
theorem q6A {m:List Int} {c:Nat} {rs:List Int} {n:Nat} (h:n < rs.length):qdh m c (rs.take (n + 1)) = qdh m c (rs.take n) ++ seg m ((rs.getD n 0).toNat * c) c:=by
 rw [qqR h,qdh,List.flatMap_append]; simp [qdh]
theorem qwI {m:List Int} {c r:Nat} (hm:r * c <= m.length):∀ {rs:List Int},(∀ x ∈ rs,0 <= x/\x < (r:Int))->(qdh m c rs).length = rs.length * c
 | [],_=>by simp [qdh]
 | x :: rs,h=>by
  have ih:=qwI hm (rs:=rs) fun y hy=>h y (jad _ hy)
  have hx:=h x (jae ..);have:=qr0 (ca:=c) (show x.toNat < r by omega);rw [qdh,List.flatMap_cons,jaj,qdF (by omega),show (rs.flatMap fun r=>seg m (r.toNat * c) c) = qdh m c rs from rfl,ih,jba,jbt]; omega
theorem qrs {r c l n rows:Int} {rs:List Int} (h:qvz r c l n) (hr:∀ x ∈ rs,0 <= x/\x < rows):¬ qnl r c l n rows rs:=by
 obtain ⟨h1,h2,h3⟩:=h;intro hb;rcases hb with hb | hb | hb | ⟨x,hx,hb⟩
 ·exact hb h1
 ·omega
 ·omega
 ·have:=hr x hx; omega
theorem qvv {l:List Int} {n:Nat} {P:Int->Prop} (hn:n < l.length) (h:∀ x ∈ l.take n,P x) (hx:P (l.getD n 0)):∀ x ∈ l.take (n + 1),P x:=fun x hm=>by
 rw [qqR hn] at hm;rcases jaw.1 hm with hm | hm
 ·exact h x hm
 ·rw [jak] at hm; rw [hm]; exact hx
theorem qiC {l:List Int} {n:Nat} (h:n < l.length):l.getD n 0 ∈ l:=by
 rw [jab,jac h]; exact jbv h
theorem q0a {d x:qe} {k:Nat} (h:k + x.length <= d.length):(bI (qaZ d k x)).take (k + x.length) = (bI d).take k ++ bI x:=by
 rw [qaZ,bI,jcn,jcn,jbr,<- jbr,List.take_append_of_le_length (by simp; omega),jap (by simp; omega)];simp [bI,jc4]
theorem qxY {d x:qe} {k:Nat} (hd:qk d) (hx:qk x):qk (qaZ d k x):=fun r hr=>by
 unfold qaZ at hr;rcases jaw.1 hr with hr | hr
 ·rcases jaw.1 hr with hr | hr
  ·exact hd r (jbx hr)
  ·exact hx r hr
 ·exact hd r (jb7 hr)
theorem qCZ {d:qe} {n:Nat}:bI (d.drop n) = (bI d).drop n:=by simp [bI,jd3]
theorem qAz:qjb.ok Tryz.prog:=q8P (by simp [qmp,qjX,qgK]) fun Z hg hp=>by
 obtain ⟨a0,a1,a2,a3,n0,n1⟩:0 <= (Z 3).i/\(Z 3).i <= (Z 4).i/\(Z 3).i <= (Z 5).d.length/\qk (Z 5).d/\0 <= (Z 8).i/\(Z 8).i = (Z 10).d.length:=hp;simp (config:={ maxSteps:=4000000 }) [q1d,qjb,q7k,q6t,qdx,qdc,qcs];refine ⟨a0,fun v _ hv=>⟨fun hb=>.inl fun h=>?_,fun hb=>⟨n0,fun h=>.inr (.inl h),fun hn=>⟨fun h=>.inr (.inr (.inl h)),fun hn2=>?_⟩⟩⟩⟩
 ·have:=hv.2 h; rw [hb] at this; cases this
 have vA:qaN (Z 0).i (Z 1).i (Z 3).i:=hv.1 hb;have hok:qvz (Z 0).i (Z 1).i (Z 3).i (Z 8).i:=⟨vA,by omega,hn2⟩;have vA':=vA;obtain ⟨r1,r2,c1,c2,hl⟩:=vA';have hil:(iI (Z 10).d).length = (Z 8).i.toNat:=by rw [qw8]; omega
 refine ⟨⟨hok,n0⟩,fun i _ _ i0 i1 hin=>⟨fun hi=>⟨i0,by omega,fun h=>?_,fun h0=>⟨fun h=>?_,fun h1=>?_⟩⟩,fun hi=>?_⟩⟩
 ·refine .inr (.inr (.inr ⟨qb (Z 10).d i.i 0,?_,.inl h⟩))
  rw [<- qk3 i0 (by omega)]; exact qiC (by omega)
 ·refine .inr (.inr (.inr ⟨qb (Z 10).d i.i 0,?_,.inr h⟩))
  rw [<- qk3 i0 (by omega)]; exact qiC (by omega)
 ·rw [add64 (by omega) (by omega)]
  refine ⟨⟨hok,by omega,by omega,?_⟩,by omega⟩;rw [show (i.i + 1).toNat = i.i.toNat + 1 by omega];exact qvv (by omega) hin (by rw [qk3 i0 (by omega)]; exact ⟨h0,h1⟩)
 have hall:∀ x ∈ iI (Z 10).d,0 <= x/\x < (Z 0).i:=by
  rw [jap (by omega)] at hin; exact hin
 have hbb:=qL (x:=(Z 8).i) (y:=(Z 1).i) n0 hn2 (by omega) c2;refine ⟨⟨n0,hn2,by omega,c2⟩,fun l _ cp _ d _ hl1 hc1 hd=>⟨⟨hok,n0,hall,?_,by rw [hd,jaz]; omega,rfl⟩,fun j _ l2 _ cp2 _ d2 _ _ j0 j1 _ hM hL hS=>⟨fun hj=>?_,fun hj=>?_⟩⟩⟩
 ·exact ⟨n0,hn2,by omega,c2,hl1,by omega,by rw [hd,jaz]; omega,by rw [hd]; exact qcN⟩
 ·have hx:=hall _ (qiC (l:=iI (Z 10).d) (n:=j.i.toNat) (by omega))
  rw [qk3 j0 (by omega)] at hx;have hM':=hM;obtain ⟨m1,m2,m3,m4,m5,m6,m7,m8⟩:=hM';refine ⟨j0,by omega,⟨j0,hj,hM⟩,fun o _ n _ k _ ho hn' hk=>⟨⟨hx.1,hx.2,by omega,r2,by omega,c2,hl,a1,a2,a3⟩,fun o' _ n' _ k' _ ho' hn'' hk'=>?_⟩⟩;have hbj:=qL (x:=j.i) (y:=(Z 1).i) j0 (show j.i <= 255 by omega) (by omega) c2;have hbx:=qL (x:=qb (Z 10).d j.i 0) (y:=(Z 1).i) hx.1 (show _ <= 255 by omega) (by omega) c2;have hle1:j.i * (Z 1).i + (Z 1).i <= (Z 8).i * (Z 1).i:=by
   have:=ja1 (show j.i + 1 <= (Z 8).i by omega) (show 0 <= (Z 1).i by omega);rw [jcb,jcc] at this; omega
  have hle2:qb (Z 10).d j.i 0 * (Z 1).i + (Z 1).i <= (Z 0).i * (Z 1).i:=by
   have:=ja1 (show qb (Z 10).d j.i 0 + 1 <= (Z 0).i by omega) (show 0 <= (Z 1).i by omega);rw [jcb,jcc] at this; omega
  rw [jaf (by omega),add64 (by omega) (by omega)];have hseg:((((Z 5).d.drop o'.i.toNat).take n'.i.toNat).take n.i.toNat) = ((Z 5).d.drop o'.i.toNat).take (Z 1).i.toNat:=by rw [jeg,hn',hn'',Nat.min_self]
  rw [hseg];have hsl:(((Z 5).d.drop o'.i.toNat).take (Z 1).i.toNat).length = (Z 1).i.toNat:=by rw [jbe,jc2]; omega
  refine ⟨by omega,by omega,by omega,by omega,by omega,by omega,⟨hok,by omega,by omega,hall,?_,?_,?_⟩,by omega⟩
  ·exact ⟨m1,m2,m3,m4,m5,m6,by rw [qhg (by rw [hsl]; omega)]; exact m7,qxY m8 fun r hr=>a3 r (jb7 (jbx hr))⟩
  ·rw [qhg (by rw [hsl]; omega)]; exact hL
  ·have hk1:((j.i + 1) * (Z 1).i).toNat = o.i.toNat + (((Z 5).d.drop o'.i.toNat).take (Z 1).i.toNat).length:=by rw [hsl,jcb,jcc]; omega
   rw [hk1,q0a (by rw [hsl]; omega),ho,hS,show (j.i + 1).toNat = j.i.toNat + 1 by omega,q6A (by omega),qk3 j0 (by omega),qgQ,qCZ,ho',seg]
   congr 3
   rw [jb0 hx.1 (by omega)]
 ·have:j.i = (Z 8).i:=by omega
  have hl8:=hM.2.2.2.2.1;rw [this,jap (by rw [bI_len]; omega),jap (by omega)] at hS;exact ⟨qrs hok hall,hM,hL,hS⟩
theorem qf7 {d:qe} {i:Int} (h0:0 <= i) (h1:i < d.length):toF (qb d i 0) = qcS d i.toNat:=by
 rw [qcS,jab,qcw h0 h1]; rfl
theorem q6E {f:Nat->Int} {n:Nat}:qb5 f n n = (List.range n).map f:=qzX
theorem q7U {a b:F} (ha:a ≠ 0) (hb:b ≠ 0):qcd (qh a b) = qh (qcd a) (qcd b):=by
 symm
 refine qoW ?_;rw [q7,<- q7 (x:=b),qP (x:=b),q7 (x:=qcd a),qcE hb,qaw,qcE ha]
theorem q3N {n:Nat} {xs:Nat->F} {x:F} {i:Nat} (hd:distinct n xs) (hi:i < n) (hx:∀ m,m < n->x ≠ xs m) :
  qh (qat (fun m=>x ^^^ xs m) n) (qcd (qh (x ^^^ xs i) (qat (fun m=>if m = i then 1 else xs i ^^^ xs m) n))) = qdO n xs x i:=by
 have h1:x ^^^ xs i ≠ 0:=fun h=>hx i hi (qcP.1 h)
 have h2:qat (fun m=>if m = i then 1 else xs i ^^^ xs m) n ≠ 0:=qwH fun m hm=>by
  split
  ·decide
  ·rename_i hmi
   exact fun h=>hmi (hd i m hi hm (qcP.1 h)).symm
 rw [q7U h1 h2,q5n hi,qdO,qP (x:=x ^^^ xs i),q7,<- q7 (x:=x ^^^ xs i),qcE h1,qfu]
theorem qCz {d:qe} {x:Int} {i:Nat} (hd:qj9 (bI d)) (hi:i < d.length) (hx:toF x = qcS d i):qds (bI d) x = (List.replicate d.length 0).set i 1:=by
 apply jbs;intro j;rw [qds,bI_len,jaq,jby];by_cases hj:j < d.length
 ·rw [jbp hj,ja0,hx]
  have hdd:distinct d.length (qcS d):=by
   have:=hd;unfold qj9 at this;rw [bI_len] at this;exact this
  have hl:qdO d.length (fun m=>toF ((bI d).getD m 0)) (qcS d i) j = del j i:=q1p hdd hj hi;rw [hl,del];by_cases hij:i = j
  ·subst hij; rw [jah rfl,jah rfl,jah (by simpa using hj)]; rfl
  ·rw [jaf (Ne.symm hij),jaf hij,jbf,jah hj]; rfl
 ·rw [jat (by simp; omega),jch,jaf (by omega),jat (by simp; omega)]
theorem qA0:qn2.ok Tryz.prog:=qA1 (by simp [qlH,q56]) fun Z hg hp=>by
 obtain ⟨l0,l1,l2,hB,hx,hd⟩:=hp;have hdd:distinct (Z 1).i.toNat (qcS (Z 3).d):=by
  have:=hd;unfold qj9 at this;rw [bI_len,show (Z 3).d.length = (Z 1).i.toNat by omega] at this;exact this
 have hw1:∀ i:Int,0 <= i->i < (Z 1).i->isB (qb (Z 3).d i 0):=fun i h0 h1=>qbs hB h0 (by omega)
 simp (config:={ maxSteps:=4000000 }) [q04,qn2,q5B,q8a,q7Y,q6C,qd2,qkJ];refine ⟨l0,by omega,⟨l0,fun m h=>by omega⟩,fun cp _ w _ i _ hcp hw i0 i1 hni=>⟨fun hi=>⟨i0,by omega,fun he=>?_,fun hne=>?_⟩,fun hi=>?_⟩⟩
 ·rw [hw]
  refine ⟨by rw [jaz]; omega,hcp,?_⟩;rw [qfX,qeY,qCz hd (i:=i.i.toNat) (by omega) (by rw [<- he]; exact qf7 i0 (by omega)),show (Z 1).i.toNat = (Z 3).d.length by omega]
 ·rw [add64 (by omega) (by omega)]
  refine ⟨⟨hcp,hw,by omega,by omega,fun m hm=>?_⟩,by omega⟩;by_cases hmi:(m:Int) = i.i
  ·intro h
   have hc:=qf7 (d:=(Z 3).d) i0 (by omega);rw [<- hmi,jal,hmi] at hc;exact hne (qgZ (hw1 _ i0 hi) hx (hc.trans h.symm))
  ·exact hni m (by omega)
 have hnot:q4K (Z 1).i (Z 5).i (Z 3).d:=fun m hm=>hni m (by omega)
 have hneq:∀ m,m < (Z 1).i.toNat->toF (Z 5).i ≠ qcS (Z 3).d m:=fun m hm=>hnot m (by omega)
 refine ⟨⟨hcp,hw,hnot,l0,⟨by omega,by omega⟩,rfl⟩,fun cp2 _ w2 _ p _ j _ hcp2 hw2 _ j0 j1 hpB hp=>⟨fun hj=>?_,fun hj=>?_⟩⟩
 ·rw [add64 (by omega) (by omega)]
  refine ⟨j0,by omega,⟨hpB,qe1⟩,fun q _ hq=>⟨⟨hcp2,hw2,hnot,by omega,by omega,by rw [hq]; exact qmg hpB qe1,?_⟩,by omega⟩⟩;have hxx:toF (qek (Z 5).i (qb (Z 3).d j.i 0)) = toF (Z 5).i ^^^ qcS (Z 3).d j.i.toNat:=by rw [qfv,qf7 j0 (by omega)]
  have hm:toF (qbC p.i (qek (Z 5).i (qb (Z 3).d j.i 0))) = qh (toF p.i) (toF (Z 5).i ^^^ qcS (Z 3).d j.i.toNat):=by rw [qdl hpB qe1,hxx]
  rw [hq,show (j.i + 1).toNat = j.i.toNat + 1 by omega,qat,<- hp];exact hm
 have hpn:toF p.i = qat (fun m=>toF (Z 5).i ^^^ qcS (Z 3).d m) (Z 1).i.toNat:=by rw [hp]; congr 1; omega
 refine ⟨⟨hcp2,hnot,hpB,hpn,by rw [hw2,jaz],Int.le_refl _,l0,by rw [hw2,qeY]; exact qpm.symm⟩,fun cp3 _ w3 _ p3 _ i3 _ hcp3 hP=>⟨fun hi3=>?_,fun hi3=>?_⟩⟩
 ·have hP':=hP
  obtain ⟨_,hpB3,hp3,hwl,i30,i31,hf⟩:=hP';have hst:toF (qek (Z 5).i (qb (Z 3).d i3.i 0)) = toF (Z 5).i ^^^ qcS (Z 3).d i3.i.toNat:=by rw [qfv,qf7 i30 (by omega)]
  refine ⟨i30,by omega,⟨hcp3,hP,hi3,l0,qe1,?_⟩,fun cp4 _ w4 _ p4 _ i4 _ q4 _ j4 _ hcp4 hP4 hi4 hii j40 j41 hqB hq4=>⟨fun hj4=>⟨fun hne=>?_,fun he=>?_⟩,fun hj4=>?_⟩⟩
  ·show toF (qek _ _) = _
   rw [hst,qat]; exact qaw.symm
  ·obtain ⟨_,hpB4,hp4,hwl4,i40,i41,hf4⟩:=hP4
   rw [add64 (by omega) (by omega)];refine ⟨i40,hi4,by omega,j40,by omega,⟨hqB,qe1⟩,fun z _ hz=>⟨⟨hcp4,⟨hnot,hpB4,hp4,hwl4,i40,i41,hf4⟩,hi4,hii,by omega,by omega,by rw [hz]; exact qmg hqB qe1,?_⟩,by omega⟩⟩;have hm:toF (qbC q4.i (qek (qb (Z 3).d i4.i 0) (qb (Z 3).d j4.i 0))) = qh (toF q4.i) (qcS (Z 3).d i4.i.toNat ^^^ qcS (Z 3).d j4.i.toNat):=by rw [qdl hqB qe1,qfv,qf7 i40 (by omega),qf7 j40 (by omega)]
   rw [hz,show (j4.i + 1).toNat = j4.i.toNat + 1 by omega,qat,jaf (by omega),<- q7,<- hq4];exact hm
  ·rw [add64 (by omega) (by omega)]
   refine ⟨⟨hcp4,hP4,hi4,hii,by omega,by omega,hqB,?_⟩,by omega⟩;rw [hq4,show (j4.i + 1).toNat = j4.i.toNat + 1 by omega,qat,jah (by omega),show (1#8:F) = 1 from rfl,qaw]
  ·obtain ⟨_,hpB4,hp4,hwl4,i40,i41,hf4⟩:=hP4
   rw [add64 (by omega) (by omega)];refine ⟨hqB,fun iv _ hiv=>⟨⟨hpB4,by rw [hiv]; exact qeu hqB⟩,fun z _ hz=>⟨i40,hi4,by omega,⟨hcp4,hnot,hpB4,hp4,by rw [qaU]; exact hwl4,by omega,by omega,?_⟩,by omega⟩⟩⟩;rw [qfX,hf4,show (i4.i + 1).toNat = i4.i.toNat + 1 by omega,qoF (by omega)]
   congr 1
   refine qgZ ?_ qg3 ?_
   ·rw [hz]; exact qmg hpB4 (by rw [hiv]; exact qeu hqB)
   ·rw [hz,hiv,qdl hpB4 (qeu hqB),qiY hqB,hp4,hq4,qeG,show j4.i.toNat = (Z 1).i.toNat by omega]
    exact q3N hdd (by omega) hneq
 ·obtain ⟨_,hpB3,hp3,hwl,i30,i31,hf⟩:=hP
  refine ⟨hcp3,?_⟩;rw [hf,show i3.i.toNat = (Z 1).i.toNat by omega,q6E,qds,bI_len,show (Z 3).d.length = (Z 1).i.toNat by omega];rfl
theorem qA6 {xs:List Int} {x:Int}:(qds xs x).length = xs.length:=by simp [qds]
end Go.Proofs
namespace Go.Eng
open Go Go.Proofs
def qce (k total:Nat) (rs:List Int):Prop:=rs.length = k/\rs.Nodup/\∀ x ∈ rs,0 <= x/\x < (total:Int)
end Go.Eng
namespace Go.Proofs
open Go Go.Eng
theorem qwT {i j:Nat}:del i j = del j i:=by
 unfold del;by_cases hij:i = j
 ·rw [jah hij,jah hij.symm]
 ·rw [jaf hij,jaf (Ne.symm hij)]
theorem qs5 {m:List Int} {k R:Nat} (hm:m.length = R * k):∀ {rs:List Int},(∀ x ∈ rs,0 <= x/\x < (R:Int))->∀ {i j:Nat},i < rs.length->j < k->(qdh m k rs).getD (i * k + j) 0 = m.getD ((rs.getD i 0).toNat * k + j) 0
 | [],_,i,j,hi,_=>by simp at hi
 | x :: rs,h,i,j,hi,hj=>by
  have hx:=h x (jae ..);have hxk:x.toNat * k + k <= R * k:=by
   have h1:x.toNat + 1 <= R:=by omega
   have:=jbq k h1;rw [jbt] at this; omega
  have hsl:(seg m (x.toNat * k) k).length = k:=by rw [seg,jbe,jc2]; omega
  rw [qdh,List.flatMap_cons];cases i with
  | zero =>
   rw [jff,jbj,jab,jar (by rw [hsl]; exact hj),seg,jbb,jah hj,jbc,<- jab];rfl
  | succ i =>
   have ih:=qs5 hm (rs:=rs) (fun y hy=>h y (jad _ hy)) (i:=i) (j:=j) (by simpa using hi) hj;rw [jab,jao (by rw [hsl,jbt]; omega),hsl,show (i + 1) * k + j - k = i * k + j by rw [jbt]; omega,<- jab];exact ih
theorem qnQ {m:List Int} {k:Nat} {rs:List Int} (h:qz m):qz (qdh m k rs):=fun x hx=>by
 rw [qdh,List.mem_flatMap] at hx;obtain ⟨r,_,hx⟩:=hx;exact h x (jb7 (jbx hx))
theorem qjB {k total:Nat} {rs:List Int} (h:qce k total rs) (ht:total <= 255):distinct k fun i=>xsF (rs.getD i 0).toNat:=by
 obtain ⟨h1,h2,h3⟩:=h;intro i j hi hj he;have gi:rs.getD i 0 = rs[i]'(by omega):=by rw [jab,jac (by omega)]; rfl
 have gj:rs.getD j 0 = rs[j]'(by omega):=by rw [jab,jac (by omega)]; rfl
 have mi:=h3 _ (jbv (l:=rs) (n:=i) (by omega));have mj:=h3 _ (jbv (l:=rs) (n:=j) (by omega));simp only [gi,gj] at he;have:=qff (n:=256) (ja4 _) _ _ (by omega) (by omega) he;exact (List.getElem_inj (h₀:=by omega) (h₁:=by omega) h2).1 (by omega)
theorem qpT {m:List Int} {k total:Nat} {rs:List Int} (h:qce k total rs) (hm:m.length = total * k):(qdh m k rs).length = k * k:=by
 rw [qwI (r:=total) (by omega) h.2.2,h.1]
theorem qBH {k total:Nat} {rs:List Int} (h:qce k total rs) (h1:1 <= k) (hk:k <= total) (ht:total <= 255) {y:Nat->F}
  (hy:∀ i,i < k->q6 (fun j=>qh (qA k (qc1 k total) (rs.getD i 0).toNat j) (y j)) k = 0):∀ j,j < k->y j = 0:=by
 obtain ⟨g1,g2,g3,_⟩:=qfB h1 hk ht;obtain ⟨t2,he⟩:=q0M hk ht;obtain ⟨_,m2⟩:=qs1 he;have hz:∀ l,l < k->q6 (fun j=>qh (qA k (qck k total).2.1 l j) (y j)) k = 0:=qqw (qjB h ht) fun i hi=>by
  rw [<- hy i hi];have hx:=h.2.2 (rs.getD i 0) (by rw [jab,jac (by rw [h.1]; exact hi)]; exact jbv _);have e2:q6 (fun j=>qh (qA k (qc1 k total) (rs.getD i 0).toNat j) (y j)) k = q6 (fun j=>q6 (fun l=>qh (qh (qaY (xsF (rs.getD i 0).toNat) l) (qA k (qck k total).2.1 l j)) (y j)) k) k:=qm fun j hj=>by rw [g3 _ j (by omega) hj,qex]
  rw [e2,qf8];refine qm fun l hl=>?_
  rw [<- qd1];exact qm fun j hj=>by rw [q7]
 intro j hj;have e1:y j = q6 (fun i=>qh (y i) (del i j)) k:=(qhB (f:=y) hj).symm;rw [e1,qm (g:=fun i=>q6 (fun l=>qh (qA k ((qb9 total k).take (k * k)) j l) (qh (qA k (qck k total).2.1 l i) (y i))) k) fun i hi=>?_,qf8]
 ·refine qcC fun l hl=>?_
  rw [qd1,hz l hl,q9]
 ·have:=m2 j i hj hi
  rw [show del i j = del j i from qwT,<- this,qP,<- qex];exact qm fun l hl=>by rw [q7]
theorem qw3 {k total:Nat} {rs:List Int} (h:qce k total rs) (h1:1 <= k) (hk:k <= total) (ht:total <= 255):(qez (qdh (qc1 k total) k rs) k).2.2 = k:=by
 obtain ⟨g1,g2,_,_⟩:=qfB h1 hk ht;refine qyk (qpT h g1) (qnQ g2) fun y hy=>qBH h h1 hk ht fun i hi=>?_
 rw [<- hy i hi];refine qm fun j hj=>?_
 rw [qA,qA,qs5 g1 h.2.2 (by rw [h.1]; exact hi) hj]
end Go.Proofs
namespace Go.Proofs
open Go Go.Eng
theorem qDW {h:Hp} {D:qe} {n:Nat} {f:Nat->List Int} (he:qgi h D n f):qgE h D n/\∀ j,j < n->pcI D j = j/\pcD h D j = f j:=by
 refine ⟨fun j hj=>?_,fun j hj=>?_⟩
 ·obtain ⟨v,d,e,hr,_,hb⟩:=he j hj
  exact ⟨_,v,d,e,hr,hb⟩
 ·obtain ⟨v,d,e,hr,hf,hb⟩:=he j hj
  refine ⟨by simp [pcI,qb,qC,e,qX],?_⟩;rw [pcD,show qC D (j:Int) 1 = v by simp [qC,e],qeZ hr,hf]
end Go.Proofs
namespace Go.Eng
open Go Go.Proofs
def q3f:Ctr:={ qgs with pre:=fun Z=>ql (Z 1).d/\qM (Z 2).i (Z 3).i = true,alts:=qgs.alts.drop 1 }
def q4A:Ctr:={ qjb with pre:=fun Z=>qjb.pre Z/\¬ qnl (Z 0).i (Z 1).i (Z 3).i (Z 8).i (Z 0).i (iI (Z 10).d),alts:=qjb.alts.drop 1 }
def q3g:Ctr:={ qbQ with pre:=fun Z=>qbQ.pre Z/\qaN (Z 2).i (Z 3).i (Z 5).i/\(Z 2).i = (Z 3).i/\(qez ((bI (Z 7).d).take (Z 5).i.toNat) (Z 2).i.toNat).2.2 = (Z 2).i.toNat,alts:=qbQ.alts.drop 1 }
def qvD (n:Nat):List Int:=(List.range n).map fun (m:Nat)=>(m:Int)
def qar (f:Nat->List Int) (w:List Int) (l:Nat):Nat->List Int
 | 0=>List.replicate l 0
 | j + 1=>qE (qar f w l j) 0 (seg (f j) 0 l) (w.getD j 0)
def wS:SV:=.one (.vslice 5 (.lit 0) (.var 6) (.var 7) 1)
def qoq (t:Nat):Ctr:={ fn := 136,nv:=12,args:=[pcS 0 1 2,wS,iv .i64 (.var 10)],heap:=[],ro:=[qc0 0 3 4,bHp 5 8 9,.abs 11 t],pre:=fun Z=>0 <= (Z 1).i/\(Z 1).i <= 255/\0 <= (Z 10).i/\(Z 10).i <= 9000/\(Z 6).i = (Z 1).i/\(Z 6).i <= (Z 8).d.length/\qk (Z 8).d/\qgE (Z 11).h (Z 3).d (Z 1).i.toNat/\∀ j,j < (Z 1).i.toNat->(Z 10).i <= (pcD (Z 11).h (Z 3).d j).length,alts:=[
 { k:=3,ret:=.one (.vslice 12 (.lit 0) (.var 10) (.var 13) 1),heap:=[bHp 12 14 13],post:=fun Z=>(Z 14).d.length = (Z 10).i.toNat/\qk (Z 14).d/\bI (Z 14).d = qar (pcD (Z 11).h (Z 3).d) (bI (Z 8).d) (Z 10).i.toNat (Z 1).i.toNat }] }
def qwt:Ctr:=qoq 2
def qxq:Ctr:=qoq 6
def qwX:List (Nat × SV):=[(0,pcS 0 1 2),(1,wS),(2,iv .i64 (.var 10)),(7,.one (.vslice 1000 (.lit 0) (.var 10) (.var 1001) 1)),(8,iv .i64 (.var 1003))]
def q5T:Inv:={ key:=3,nv:=4,env:=qwX,heap:=[bHp 1000 1002 1001],inv:=(fun Z=>0 <= (Z 1003).i/\(Z 1003).i <= (Z 1).i/\(Z 1002).d.length = (Z 10).i.toNat/\qk (Z 1002).d/\bI (Z 1002).d = qar (pcD (Z 11).h (Z 3).d) (bI (Z 8).d) (Z 10).i.toNat (Z 1003).i.toNat),mu:=(fun Z=>((Z 1).i - (Z 1003).i).toNat) }
def q6j:Inv:={ key:=7,nv:=5,env:=qwX ++ [(9,iv .i64 (.var 1004))],heap:=[bHp 1000 1002 1001],inv:=(fun Z=>0 <= (Z 1003).i/\(Z 1003).i < (Z 1).i/\(Z 1003).i = (Z 16).i/\(Z 1002).d.length = (Z 10).i.toNat/\qk (Z 1002).d/\0 <= (Z 1004).i/\(Z 1004).i <= (Z 10).i/\bI (Z 1002).d = qE (qar (pcD (Z 11).h (Z 3).d) (bI (Z 8).d) (Z 10).i.toNat (Z 1003).i.toNat) 0 (seg (pcD (Z 11).h (Z 3).d (Z 1003).i.toNat) 0 (Z 1004).i.toNat) ((bI (Z 8).d).getD (Z 1003).i.toNat 0)),mu:=(fun Z=>((Z 10).i - (Z 1004).i).toNat) }
end Go.Eng
namespace Go.Proofs
open Go Go.Eng
theorem qnh {h:Hp} {D:qe} {n:Int} {j:Int} (hp:qgE h D n.toNat) (h0:0 <= j) (h1:j < n):j < (D.length:Int)/\qb D j 0 = pcI D j.toNat/\∃ d,Rd h kB (qC D j 1) d/\qk d/\pcD h D j.toNat = bI d:=by
 obtain ⟨v,d,e,hv,hr,hb,hd⟩:=qv3 hp (j:=j.toNat) (by omega);rw [jay h0] at hv;have hl:=(jan.1 e).1;exact ⟨by omega,by rw [pcI,jay h0],d,by rw [hv]; exact hr,hb,hd⟩
theorem qlk {f:Nat->List Int} {w:List Int} {l:Nat}:∀ j,(qar f w l j).length = l
 | 0=>by simp [qar]
 | j + 1=>by rw [qar,qbK,qlk j]
@[simp] def qjS:Sg:=sg 0 [bt 1 (.icell (tv 24) (tv 21) 0),bt 0 (.icell (tv 8) (tv 20) 0)]
@[simp] def qul:Out:=.both (.back 1 17 (sg 1000 [bt 1002 (.dput (tv 19) (tv 21) 0 (.rcons (tu (.arith .xor .u8 (.icell (tv 19) (tv 21) 0) (tv 25))) .rnil)),bt 1004 (.arith .add .i64 (tv 21) (tl 1)),bv 1003 20,bv 1001 18,bg 1000 17])) .top
@[simp] def qtP:Out:=.both (.pre 0 qjS (tb (.fresh 25 (.post 0 0 qjS 25 qul)))) .top
def q2k:Out:=(tn (tl 0) (tv 10) (tn (.tims (tl 1) (tv 10)) (tl 281474976710656) (.fresh 12 (.inv 0 13 (sg 1000 [bt 1002 (.drep (tv 10) (.rcons (tu (tl 0)) .rnil)),bt 1003 (tl 0),bv 1001 10,bg 1000 12]) (fr 13 4 (.hyp 0 13 (tn (tl 0) (tv 1) (.br (.cmp .lss (tv 16) (tv 1))
 (tn (tl 0) (tv 6) (.br (.cmp .lss (tv 16) (tv 6))
 (tn (tl 0) (tv 16) (ts (tv 16) (.dlen (tv 8)) (.br (.cmp .eql (.icell (tv 8) (tv 16) 0) (tl 0))
 (.back 0 13 (sg 1000 [bv 1002 15,bt 1003 (.arith .add .i64 (tv 16) (tl 1)),bv 1001 14,bg 1000 13]))
 (.inv 1 17 (sg 1000 [bv 1002 15,bt 1004 (tl 0),bv 1003 16,bv 1001 14,bg 1000 13]) (fr 17 5 (.hyp 1 17 (.br (.cmp .lss (tv 21) (tv 10))
 (tn (tl 0) (tv 21) (ts (tl 0) (.dlen (tv 19)) (tn (tl 0) (tv 20) (ts (tv 20) (tv 6) (ts (tv 20) (.dlen (tv 8)) (ts (tv 20) (tv 1) (ts (tv 20) (.dlen (tv 3)) (.both (ts (tv 21) (.dlen (tv 19)) (tb (.view (.vcell (tv 3) (tv 20) 1) [CK.int .u8] [11] 22 (ts (tv 21) (.dlen (tv 24)) qtP)))) (tb (.view (.vcell (tv 3) (tv 20) 1) [CK.int .u8] [11] 22 (ts (tv 21) (.dlen (tv 24)) (.both (ts (tv 21) (.dlen (tv 19)) qtP) (tb (.pre 0 qjS (tb (.fresh 25 (.post 0 0 qjS 25 (tb (ts (tv 21) (.dlen (tv 19)) qul)))))))))))))))))))
 (.back 0 13 (sg 1000 [bv 1002 19,bt 1003 (.arith .add .i64 (tv 20) (tl 1)),bv 1001 18,bg 1000 17])))))))))
 (.ret 0 (sg 12 [bv 14 15,bv 13 14,bg 12 13]))))
 (.ret 0 (sg 12 [bv 14 15,bv 13 14,bg 12 13]))))))))))
theorem q8R:qj Tryz.prog qwt [qd2] [q5T,q6j] q2k:=qg Tryz.func136 Tryz.call136 (by kernel_rfl)
theorem q01 {n:Nat}:(qvD n).Nodup:=jfv.2 (List.nodup_range.imp fun h e=>h (by omega))
theorem q7v {n:Nat} {x:Int} (h:x ∈ qvD n):0 <= x/\x < n:=by
 obtain ⟨m,hm,rfl⟩:=jbk.1 h;have:=jb1.1 hm;omega
theorem qi9 {o l:List Int} {n k:Nat} (h:(o ++ l).Perm (qvD n)) (hk:o.length = k):o.length = k/\o.Nodup/\∀ x ∈ o,0 <= x/\x < (n:Int) :=
 ⟨hk,(List.nodup_append.1 (h.nodup_iff.2 q01)).1,fun x hx=>q7v (h.mem_iff.1 (jb3 _ hx))⟩
theorem qBK:q3f.ok Tryz.prog:=Ctr.ok_less qwr rfl rfl rfl rfl rfl (fun _ h=>h.1) fun Z Z' ai al hp hag hal hpost=>by
 match ai,hal with
 | 0,hal =>
  exfalso;obtain rfl:=jax hal;obtain ⟨_,h2⟩:_/\(qM ((Z'.upto 5) 2).i ((Z'.upto 5) 3).i = true->(qck ((Z'.upto 5) 2).i.toNat ((Z'.upto 5) 3).i.toNat).2.2 < ((Z'.upto 5) 2).i.toNat):=hpost;have e:=qsE (m:=5) (nv:=4) hag (by omega);rw [e 2 (by omega),e 3 (by omega)] at h2;obtain ⟨k1,k2,k3⟩:=qbn.1 hp.2;have:=h2 hp.2;rw [qy3 (by omega) (by omega)] at this;omega
 | 1,hal=>exact ⟨0,hal⟩
 | n + 2,hal=>cases hal
theorem qBJ:q4A.ok Tryz.prog:=Ctr.ok_less qAz rfl rfl rfl rfl rfl (fun _ h=>h.1) fun Z Z' ai al hp hag hal hpost=>by
 match ai,hal with
 | 0,hal =>
  exfalso;obtain rfl:=jax hal;have h2:qnl ((Z'.upto 12) 0).i ((Z'.upto 12) 1).i ((Z'.upto 12) 3).i ((Z'.upto 12) 8).i ((Z'.upto 12) 0).i (iI ((Z'.upto 12) 10).d):=hpost;have e:=qsE (m:=12) (nv:=12) hag (by omega);rw [e 0 (by omega),e 1 (by omega),e 3 (by omega),e 8 (by omega),e 10 (by omega)] at h2;exact hp.2 h2
 | 1,hal=>exact ⟨0,hal⟩
 | n + 2,hal=>cases hal
theorem qBL:q3g.ok Tryz.prog:=Ctr.ok_less qmA rfl rfl rfl rfl rfl (fun _ h=>h.1) fun Z Z' ai al hp hag hal hpost=>by
 match ai,hal with
 | 0,hal =>
  exfalso;obtain rfl:=jax hal;have e:=qsE (m:=11) (nv:=9) hag (by omega);obtain ⟨_,h2⟩:=hpost;simp only [show (9 + 2:Nat) = 11 from rfl,show qbQ.nv = 9 from rfl] at h2;rw [e 2 (by omega),e 3 (by omega),e 5 (by omega),e 7 (by omega)] at h2;obtain ⟨_,p1,p2,p3⟩:=hp;rcases h2 with ⟨h,_⟩ | ⟨_,h,_⟩ | ⟨_,_,h,_⟩
  ·exact h p1
  ·exact h p2
  ·rw [p3] at h; omega
 | 1,hal=>exact ⟨0,hal⟩
 | n + 2,hal=>cases hal
theorem qvF:qwt.ok Tryz.prog:=q8R (by simp [qlH]) fun Z hg hp=>by
 obtain ⟨n0,n9,l0,l1,hw,hwl,hwb,hpc,hlen⟩:=hp;simp (config:={ maxSteps:=4000000 }) [q2k,qwt,qoq,q5T,q6j,qd2];refine ⟨l0,by omega,⟨n0,qcN,by rw [qeY]; rfl⟩,fun u _ i _ i0 i1 hul hub hue=>⟨n0,fun hi=>⟨by omega,fun hi6=>⟨i0,by omega,fun hz=>?_,fun hnz=>?_⟩,fun h=>by omega⟩,fun hi=>?_⟩⟩
 ·have hwi:=qcw (d:=(Z 8).d) (i:=i.i) i0 (by omega)
  rw [add64 (by omega) (by omega)];refine ⟨⟨by omega,by omega,hul,hub,?_⟩,by omega⟩;have hml:∀ x ∈ qar (pcD (Z 11).h (Z 3).d) (bI (Z 8).d) (Z 10).i.toNat i.i.toNat,0 <= x/\x < 256:=by rw [<- hue]; exact allB_list hub
  rw [show (i.i + 1).toNat = i.i.toNat + 1 by omega,qar,jab,hwi,ja2,hz,qh0 hml,hue]
 ·refine ⟨⟨i0,hi,hul,hub,l0,by rw [show seg (pcD (Z 11).h (Z 3).d i.i.toNat) 0 0 = [] by simp [seg],qih]; exact hue⟩,fun o _ j _ c _ j0 j1 hji hol hob c0 c1 hoe=>⟨fun hc=>?_,fun hc=>?_⟩⟩
  ·obtain ⟨p1,_,d,hr,hb,hd⟩:=qnh hpc j0 j1
   have hdl:=hlen j.i.toNat (by omega);rw [hd,bI_len] at hdl;have hwi:=qcw (d:=(Z 8).d) (i:=j.i) j0 (by omega);have hwB:=qbs hwb (i:=j.i) j0 (by omega);have hdB:=qbs hb (i:=c.i) c0 (by omega);have hz:=qcw (d:=o.d) (i:=c.i) c0 (by omega);rw [hoe,qgp (by right; rw [hd,qdF (by rw [bI_len]; omega)]; omega)] at hz;have hy:=qcw (d:=d) (i:=c.i) c0 (by omega);rw [add64 (by omega) (by omega)];have hput:∀ m:U,m.i = qbC (qb (Z 8).d j.i 0) (qb d c.i 0)->bI (qaQ o.d c.i 0 [.int .u8 (qc .xor .u8 (qb o.d c.i 0) m.i)]) = qE (qar (pcD (Z 11).h (Z 3).d) (bI (Z 8).d) (Z 10).i.toNat j.i.toNat) 0 (seg (pcD (Z 11).h (Z 3).d j.i.toNat) 0 (c.i + 1).toNat) ((bI (Z 8).d)[j.i.toNat]?.getD 0):=fun m hm=>by
    have hst:=qhs (l:=qar (pcD (Z 11).h (Z 3).d) (bI (Z 8).d) (Z 10).i.toNat j.i.toNat) (s:=bI d) (off:=0) (o:=0) (i:=c.i.toNat) (c:=qb (Z 8).d j.i 0) (by rw [jbj]; exact hz) (by rw [jbj]; exact hy);rw [qfX,hoe,hm,show (c.i + 1).toNat = c.i.toNat + 1 by omega,hd,hwi,ja2,hst,jbj];rfl
   exact ⟨c0,by omega,j0,by omega,by omega,j1,p1,⟨by omega,d,hr,by omega,⟨hwB,hdB⟩,fun m _ hm=>⟨⟨j0,j1,hji,by rw [qaU,hol],qew hob qb6.1 qb6.2,by omega,by omega,hput m hm⟩,by omega⟩⟩,
    ⟨d,hr,by omega,⟨by omega,⟨hwB,hdB⟩,fun m _ hm=>⟨⟨j0,j1,hji,by rw [qaU,hol],qew hob qb6.1 qb6.2,by omega,by omega,hput m hm⟩,by omega⟩⟩,⟨hwB,hdB⟩,fun m _ hm=>⟨by omega,⟨j0,j1,hji,by rw [qaU,hol],qew hob qb6.1 qb6.2,by omega,by omega,hput m hm⟩,by omega⟩⟩⟩
  ·have hcl:c.i = (Z 10).i:=by omega
   rw [add64 (by omega) (by omega)];refine ⟨⟨by omega,by omega,hol,hob,?_⟩,by omega⟩;rw [hoe,hcl,show (j.i + 1).toNat = j.i.toNat + 1 by omega,qar,jab]
 ·have:i.i = (Z 1).i:=by omega
  rw [this] at hue;exact ⟨hul,hub,hue⟩
end Go.Proofs
namespace Go.Eng
open Go Go.Proofs
def blk:Value->Option Nat
 | .slice (some a) _ _=>some a.block
 | _=>none
def qdQ (h:Hp) (vs:Nat->Value) (n:Nat) (M:Nat->List Int):Prop :=
 (∀ j,j < n->∃ d,Rd h kB (vs j) d/\bI d = M j/\qk d)/\∀ i j,i < n->j < n->i ≠ j->M i ≠ []->M j ≠ []->blk (vs i) ≠ blk (vs j)
end Go.Eng
namespace Go.Proofs
open Go Go.Eng
theorem qrm {d:qe}:bI d = []↔d = []:=by
 constructor
 ·intro h
  have:=congrArg List.length h;rw [bI_len] at this;exact jcu.1 (by simpa using this)
 ·rintro rfl; rfl
theorem qss {h:Hp} {pat:List CK} {v:Value} {d:qe} (hr:Rd h pat v d) (hd:d ≠ []):∃ b o cap c ty fr,v = .slice (some ⟨b,o,none⟩) d.length cap/\d.length <= cap/\blk v = some b/\h b = some (.cells c ty fr)/\qT c o pat d:=by
 rcases hr with ⟨a,_,h0⟩ | ⟨b,o,cap,c,ty,fr,h1,h2,h3,h4⟩
 ·exact (hd h0).elim
 ·exact ⟨b,o,cap,c,ty,fr,h1,h2,by rw [h1]; rfl,h3,h4⟩
theorem qqd {h:Hp} {vs:Nat->Value} {n j:Nat} {M:Nat->List Int} (ht:qdQ h vs n M) (hj:j < n):∃ d,Rd h kB (vs j) d/\bI d = M j/\qk d:=ht.1 j hj
theorem q9B {h h':Hp} {vs:Nat->Value} {n:Nat} {M:Nat->List Int} (ht:qdQ h vs n M) (hl:Hp.le h h'):qdQ h' vs n M :=
 ⟨fun j hj=>by obtain ⟨d,h1,h2⟩:=ht.1 j hj; exact ⟨d,qf6 h1 hl,h2⟩,ht.2⟩
theorem qjD {h:Hp} {vs vs':Nat->Value} {n:Nat} {M M':Nat->List Int} (ht:qdQ h vs n M) (hv:∀ j,j < n->vs' j = vs j) (hM:∀ j,j < n->M' j = M j):qdQ h vs' n M' :=
 ⟨fun j hj=>by rw [hv j hj,hM j hj]; exact ht.1 j hj,fun i j hi hj hne h1 h2=>by rw [hv i hi,hv j hj]; rw [hM i hi] at h1; rw [hM j hj] at h2; exact ht.2 i j hi hj hne h1 h2⟩
theorem qCl {h hx H:Hp} {vs vs':Nat->Value} {n:Nat} {M M':Nat->List Int} {v:Value} {d:qe} (ht:qdQ h vs n M) (hl:Hp.le h H) (hr:Rd hx kB v d) (hlx:Hp.le hx H) (hdis:Hp.disj hx h) (hB:qk d)
  (hv:∀ j,j < n->vs' j = vs j) (hvn:vs' n = v) (hM:∀ j,j < n->M' j = M j) (hMn:M' n = bI d):qdQ H vs' (n + 1) M':=by
 have key:∀ j,j < n->M j ≠ []->d ≠ []->blk (vs j) ≠ blk v:=fun j hj hne hd he=>by
  obtain ⟨dj,h1,h2,_⟩:=ht.1 j hj;obtain ⟨b,_,_,c,ty,fr,_,_,e1,hb,_⟩:=qss h1 (fun h0=>hne (by rw [<- h2,h0]; rfl));obtain ⟨b',_,_,c',ty',fr',_,_,e2,hb',_⟩:=qss hr hd;rw [e1,e2,jaa] at he;subst he;rcases hdis b with h0 | h0
  ·rw [hb'] at h0; cases h0
  ·rw [hb] at h0; cases h0
 refine ⟨fun j hj=>?_,fun i j hi hj hne h1 h2=>?_⟩
 ·by_cases hjn:j = n
  ·subst hjn
   exact ⟨d,by rw [hvn]; exact qf6 hr hlx,hMn.symm,hB⟩
  ·obtain ⟨dj,e1,e2,e3⟩:=ht.1 j (by omega)
   exact ⟨dj,by rw [hv j (by omega)]; exact qf6 e1 hl,by rw [hM j (by omega)]; exact e2,e3⟩
 ·by_cases hin:i = n
  ·subst hin
   rw [hvn,hv j (by omega)];rw [hM j (by omega)] at h2;rw [hMn] at h1;exact fun he=>key j (by omega) h2 (fun h0=>h1 (qrm.2 h0)) he.symm
  ·by_cases hjn:j = n
   ·subst hjn
    rw [hvn,hv i (by omega)];rw [hM i (by omega)] at h1;rw [hMn] at h2;exact key i (by omega) h1 fun h0=>h2 (qrm.2 h0)
   ·rw [hv i (by omega),hv j (by omega)]
    rw [hM i (by omega)] at h1; rw [hM j (by omega)] at h2;exact ht.2 i j (by omega) (by omega) hne h1 h2
theorem q2Z {c0 c1:Array Value} {o k:Nat} {d:qe} {x:Int} (hd:qT c0 o kB d) (hw:qir c0 c1 (o + k) [.int .u8 x]) (hk:k < d.length):qT c1 o kB (qaQ d k 0 [.int .u8 x]):=by
 obtain ⟨_,hw⟩:=hw;intro i row hi;unfold qaQ at hi;rw [jby] at hi;split at hi
 ·rename_i hik
  split at hi
  ·simp only [jaa] at hi
   subst hi;obtain ⟨⟨hl,hf⟩,hc⟩:=hd _ _ (jac (l:=d) (i:=((k:Int).toNat)) (by simpa using hk));have hrow:qas ((d[(k:Int).toNat]?).getD []) 0 [.int .u8 x] = [.int .u8 x]:=by
    rw [jac (by simpa using hk),ja2];unfold qas;rw [jf4,jdd,jec (by rw [hl]; simp [kB]),jc6]
   rw [hrow];refine ⟨⟨rfl,fun c kk v hkk hv=>?_⟩,fun c v hv=>?_⟩
   ·cases c with
    | zero =>
     simp only [kB,jav,jaa] at hkk hv;subst hkk hv; rfl
    | succ c=>simp [kB] at hkk
   ·cases c with
    | zero =>
     simp only [jav,jaa] at hv;subst hv;rw [hw,jah (by simp [kB] at hik ⊢; omega)];have:o + i * kB.length + 0 - (o + k) = 0:=by simp [kB] at hik ⊢; omega
     rw [this]; rfl
    | succ c=>simp at hv
  ·cases hi
 ·rename_i hik
  obtain ⟨hf,hc⟩:=hd i row hi;refine ⟨hf,fun c v hv=>?_⟩;have hcl:c < 1:=by
   have:=(jan.1 hv).1;rw [hf.1] at this;simpa [kB] using this
  rw [hw,jaf (by simp [kB] at hik ⊢; omega)];exact hc c v hv
theorem qDf {h h':Hp} {vs:Nat->Value} {n i:Nat} {M:Nat->List Int} {r:Option Addr} {d:qe} {k:Nat} {x:Int} {cap:Nat} (ht:qdQ h vs n M) (hi:i < n) (hP:Put h h' r kB d k [.int .u8 x]) (hv:vs i = .slice (qn r 0) d.length cap)
  (hr:Rd h kB (vs i) d) (hk:k < d.length) (hx:0 <= x/\x < 256):qdQ h' vs n (fun j=>if j = i then (M i).set k x else M j):=by
 obtain ⟨b,o,c0,c1,ty,rfl,hb,hrows,hw,rfl⟩:=hP;rw [qkn] at hv;have hdn:d ≠ []:=fun h0=>by rw [h0] at hk; cases hk
 obtain ⟨di,r1,m1,b1⟩:=ht.1 i hi;obtain rfl:=qaR r1 hr;have hcap:di.length <= cap:=by
  obtain ⟨_,_,cap',_,_,_,e1,e2,_⟩:=qss hr hdn;rw [hv] at e1;simp only [Value.slice.injEq] at e1;omega
 have hbi:blk (vs i) = some b:=by rw [hv]; rfl
 have hMi:M i ≠ []:=fun h0=>hdn (qrm.1 (by rw [m1,h0]))
 have hlen:∀ j,((if j = i then (M i).set k x else M j) = [])↔M j = []:=fun j=>by
  by_cases hj:j = i
  ·subst hj
   rw [jah rfl];constructor
   ·intro h0
    have:=congrArg List.length h0;rw [jdv] at this;exact jcu.1 (by simpa using this)
   ·intro h0; rw [h0]; rfl
  ·rw [jaf hj]
 refine ⟨fun j hj=>?_,fun i' j hi' hj hne h1 h2=>ht.2 i' j hi' hj hne (fun h0=>h1 ((hlen i').2 h0)) (fun h0=>h2 ((hlen j).2 h0))⟩;by_cases hji:j = i
 ·subst hji
  refine ⟨qaQ di k 0 [.int .u8 x],.inr ⟨b,o,cap,c1,ty,(0,0),by rw [hv,qaU],by rw [qaU]; exact hcap,by simp [Hp.upd],q2Z hrows hw hk⟩,?_,qew b1 hx.1 hx.2⟩;simp only [jbz];rw [qfX,m1]; rfl
 ·simp only [jaf hji]
  obtain ⟨dj,r2,m2,b2⟩:=ht.1 j hj;refine ⟨dj,?_,m2,b2⟩;by_cases hdj:dj = []
  ·subst hdj
   rcases r2 with h0 | ⟨b',o',cap',c',ty',fr',e1,e2,e3,e4⟩
   ·exact .inl h0
   ·by_cases hbb:b' = b
    ·exact .inr ⟨b',o',cap',c1,ty,(0,0),e1,e2,by simp [Hp.upd,hbb],fun q row hq=>by simp at hq⟩
    ·exact .inr ⟨b',o',cap',c',ty',fr',e1,e2,by simp only [Hp.upd,jaf hbb]; exact e3,e4⟩
  ·obtain ⟨b',o',cap',c',ty',fr',e1,e2,e3,e4,e5⟩:=qss r2 hdj
   have hbb:b' ≠ b:=fun h0=>by
    refine ht.2 j i hj hi hji (fun h0=>hdj (qrm.1 (by rw [m2,h0]))) hMi ?_;rw [e3,hbi,h0]
   exact .inr ⟨b',o',cap',c',ty',fr',e1,e2,by simp only [Hp.upd,jaf hbb]; exact e4,e5⟩
theorem qzm {Z:Env} {x y:SH}:∀ {l1 l2:List SH} {H:Hp},qac Z (l1 ++ x :: l2) H->y ∈ l2->∃ hx hy,Hp.disj hx hy/\Hp.le hx H/\Hp.le hy H/\x.den Z hx/\y.den Z hy
 | [],l2,H,⟨h1,h2,hd,hu,hx,hs⟩,hy=>by
  subst hu;obtain ⟨g,g1,g2⟩:=qja hs hy;refine ⟨h1,g,fun b=>?_,Hp.le_left _ _,Hp.le_trans g1 (Hp.le_right hd),hx,g2⟩;rcases hd b with h0 | h0
  ·exact .inl h0
  ·right
   cases hg:g b with
   | none=>rfl
   | some v=>rw [g1 _ _ hg] at h0; cases h0
 | z :: l1,l2,H,⟨h1,h2,hd,hu,hz,hs⟩,hy=>by
  subst hu;obtain ⟨hx,hy',e1,e2,e3,e4⟩:=qzm (l1:=l1) hs hy;exact ⟨hx,hy',e1,Hp.le_trans e2 (Hp.le_right hd),Hp.le_trans e3 (Hp.le_right hd),e4⟩
theorem qBW {h h1 h2:Hp} (hd:Hp.disj h h1) (hl:Hp.le h2 h1):Hp.disj h h2:=fun b=>by
 rcases hd b with h0 | h0
 ·exact .inl h0
 ·right
  cases hg:h2 b with
  | none=>rfl
  | some v=>rw [hl _ _ hg] at h0; cases h0
end Go.Proofs
namespace Go.Eng
open Go Go.Proofs
def tvs (D:qe):Nat->Value:=fun j=>qC D j 0
def qcy (len:Int) (L:Nat->Nat):Int:=if len < 0 then (L 0:Int) else len
def qhT (total len:Int) (I:Nat->Int) (L:Nat->Nat) (i:Nat):Prop:=∀ j,j < i->(0 <= I j/\I j < total)/\(∀ j',j' < j->I j' ≠ I j)/\(len < 0->L j <= 8192)/\(L j:Int) = qcy len L
def qou (total len:Int) (I:Nat->Int) (L:Nat->Nat) (i:Nat) (e:Int):Prop :=
 (¬ (0 <= I i/\I i < total)/\e = 2)∨((0 <= I i/\I i < total)/\(∃ j,j < i/\I j = I i)/\e = 7) ∨
 ((0 <= I i/\I i < total)/\(∀ j,j < i->I j ≠ I i)/\(len < 0/\8192 < L i)/\e = 3)∨((0 <= I i/\I i < total)/\(∀ j,j < i->I j ≠ I i)/\¬ (len < 0/\8192 < L i)/\(L i:Int) ≠ qcy len L/\e = 10)
def qkv (k total len:Int) (n:Nat) (I:Nat->Int) (L:Nat->Nat) (e:Int):Prop :=
 (∃ i,i < n/\qhT total len I L i/\qou total len I L i e)∨(qhT total len I L n/\(((n:Int) < k/\e = 12)∨(k <= (n:Int)/\e = 0)))
noncomputable def pcN (h:Hp) (D:qe) (j:Nat):Nat:=(pcD h D j).length
def qjO (fn t:Nat):Ctr:={ fn:=fn,nv:=9,args:=[iv .i64 (.var 0),iv .i64 (.var 1),iv .i64 (.var 2),pcS 3 4 5],heap:=[],ro:=[qc0 3 6 7,.abs 8 t],pre:=fun Z=>(Z 1).i <= 255/\0 <= (Z 4).i/\(Z 4).i <= 17592186043904/\qgE (Z 8).h (Z 6).d (Z 4).i.toNat,alts:=[{ k:=1,ret:=iv .i64 (.var 9),heap:=[],post:=fun Z=>qkv (Z 0).i (Z 1).i (Z 2).i (Z 4).i.toNat (pcI (Z 6).d) (pcN (Z 8).h (Z 6).d) (Z 9).i }] }
def qfz:Ctr:={ qjO 110 4 with ip:=[(1000,9),(1001,9)] }
def qfr:Ctr:={ qjO 115 6 with ip:=[(1000,9),(1001,9)] }
def q92:List CK:=List.replicate 255 .bool
def qrF (s:qe) (I:Nat->Int) (i:Nat):Prop:=(∃ row,s = [row]/\row.length = 255)/\∀ x:Int,0 <= x->x < 255->(qay s x.toNat = true↔∃ j,j < i/\I j = x)
def qyd:List (Nat × SV):=[(0,iv .i64 (.var 0)),(1,iv .i64 (.var 1)),(2,iv .i64 (.var 2)),(3,pcS 3 4 5)]
def okR (Z:Env) (i:Nat):Prop:=qhT (Z 1).i (Z 2).i (pcI (Z 6).d) (pcN (Z 8).h (Z 6).d) i
def qyq:Inv:={ key:=3,nv:=3,env:=qyd ++ [(9,.one (.vptr 1001 (.lit 0) 255 0)),(13,pcS 3 4 5),(14,iv .i64 (.var 4)),(15,iv .i64 (.var 1000))],heap:=[.arr 1001 225 q92 (.var 1002) (.lit 1)],inv:=(fun Z=>0 <= (Z 1000).i/\(Z 1000).i <= (Z 4).i/\okR Z (Z 1000).i.toNat/\qrF (Z 1002).d (pcI (Z 6).d) (Z 1000).i.toNat),mu:=(fun Z=>((Z 4).i - (Z 1000).i).toNat) }
def qyZ:Inv:={ key:=2,nv:=1,env:=qyd ++ [(9,iv .i64 (.var 1000))],heap:=[],inv:=(fun Z=>0 <= (Z 1000).i/\(Z 1000).i <= (Z 4).i/\okR Z (Z 1000).i.toNat),mu:=(fun Z=>((Z 4).i - (Z 1000).i).toNat) }
def qyv (w:Nat):Inv:={ key:=8,nv:=5,env:=qyd ++ [(9,iv .i64 (.var 1000)),(10,.one (.vptr 1001 (.lit 0) 2 0)),(11,iv .i64 (.var 1004))],heap:=[.cells 1001 86 [.vint .i64 (.var 1002),.var 1003]],inv:=(fun Z=>0 <= (Z 1000).i/\(Z 1000).i < (Z 4).i/\(Z 1000).i = (Z w).i/\okR Z (Z 1000).i.toNat/\(0 <= (Z 1002).i/\(Z 1002).i < (Z 1).i)/\(Z 1002).i = qb (Z 6).d (Z 1000).i 0/\(Z 1003).v = qC (Z 6).d (Z 1000).i 1/\0 <= (Z 1004).i/\(Z 1004).i <= (Z 1000).i/\∀ j,j < (Z 1004).i.toNat->pcI (Z 6).d j ≠ (Z 1002).i),mu:=(fun Z=>((Z 1000).i - (Z 1004).i).toNat) }
def rdB (h:Hp) (v:Value):Prop:=∃ d,Rd h kB v d/\qk d
def q3Z (r l c:Nat):SV:=.one (.vslice r (.lit 0) (.var l) (.var c) 1)
def ql9 (h h':Hp) (v:Value) (g:List Int->List Int):Prop:=∀ (vs:Nat->Value) (n:Nat) (M:Nat->List Int) (i:Nat),qdQ h vs n M->i < n->vs i = v->qdQ h' vs n fun j=>if j = i then g (M i) else M j
def q7m (h:Hp) (v:Value) (l:Nat):Prop:=∃ (vs:Nat->Value) (n:Nat) (M:Nat->List Int) (i:Nat),qdQ h vs n M/\i < n/\vs i = v/\l <= (M i).length
def qnZ:Ctr:={ fn := 124,nv:=7,ow:=[1003,3012,19],args:=[qaK,.one (.var 2),.one (.var 3),iv .u8 (.var 4)],heap:=[fHp 1,.abs 5 2],ro:=[.abs 6 4],pre:=fun Z=>ql (Z 1).d/\rdB (Z 6).h (Z 3).v/\(rdL (Z 6).h (Z 3).v).length <= 10000/\q7m (Z 5).h (Z 2).v (rdL (Z 6).h (Z 3).v).length/\qhf (Z 4).i,alts:=[
 { k:=2,ret:=.tup [],heap:=[fHp 7,.abs 8 2],post:=fun Z=>ql (Z 7).d/\ql9 (Z 5).h (Z 8).h (Z 2).v fun l=>qE l 0 (rdL (Z 6).h (Z 3).v) (Z 4).i }] }
def q1W:Inv:={ key:=2,nv:=5,env:=[(0,qaK),(1,.one (.var 2)),(3,iv .u8 (.var 4)),(12,.one (.var 1004)),(13,iv .i64 (.var 1002)),(14,iv .i64 (.var 1000))],heap:=[fHp 1001,.abs 1003 2],inv:=(fun Z=>ql (Z 1001).d/\0 <= (Z 1000).i/\(Z 1000).i <= (Z 1002).i/\(Z 1002).i = ((rdL (Z 6).h (Z 3).v).length:Int)/\(Z 1004).v = (Z 3).v/\ql9 (Z 5).h (Z 1003).h (Z 2).v fun l=>qE l 0 (seg (rdL (Z 6).h (Z 3).v) 0 (Z 1000).i.toNat) (Z 4).i),mu:=(fun Z=>((Z 1002).i - (Z 1000).i).toNat) }
noncomputable def qav (D:qe) (k:Nat):List Int:=(List.range k).map (pcI D)
def qf3:Ctr:={ fn := 116,nv:=8,ip:=[(1000,9),(1001,9)],args:=[iv .i64 (.var 0),pcS 1 2 3,iv .u8 (.var 6)],heap:=[],ro:=[qc0 1 4 5,.abs 7 6],pre:=fun Z=>1 <= (Z 0).i/\(Z 0).i <= 255/\(Z 0).i <= (Z 2).i/\(Z 2).i <= (Z 3).i/\(Z 2).i <= 17592186043904/\qgE (Z 7).h (Z 4).d (Z 0).i.toNat/\(∀ j,j < (Z 0).i.toNat->0 <= pcI (Z 4).d j/\pcI (Z 4).d j < 256)/\(qav (Z 4).d (Z 0).i.toNat).Nodup/\pcN (Z 7).h (Z 4).d 0 <= 9000/\(∀ j,j < (Z 0).i.toNat->pcN (Z 7).h (Z 4).d j = pcN (Z 7).h (Z 4).d 0)/\qhf (Z 6).i,alts:=[
 { k:=4,ret:=.one (.vslice 8 (.lit 0) (.var 9) (.var 10) 1),heap:=[bHp 8 11 10],post:=fun Z=>(Z 9).i = (Z 11).d.length/\(Z 11).d.length = pcN (Z 7).h (Z 4).d 0/\qk (Z 11).d/\bI (Z 11).d = qar (pcD (Z 7).h (Z 4).d) (qds (qav (Z 4).d (Z 0).i.toNat) (Z 6).i) (pcN (Z 7).h (Z 4).d 0) (Z 0).i.toNat }] }
def qvS:Inv:={ key:=3,nv:=5,env:=[(0,iv .i64 (.var 0)),(1,pcS 1 2 3),(2,iv .u8 (.var 6)),(7,q3Z 1000 1001 1002),(8,iv .i64 (.var 1004))],heap:=[bHp 1000 1003 1002],inv:=(fun Z=>0 <= (Z 1004).i/\(Z 1004).i <= (Z 0).i/\(Z 1001).i = (Z 1003).d.length/\qk (Z 1003).d/\bI (Z 1003).d = qav (Z 4).d (Z 1004).i.toNat),mu:=(fun Z=>((Z 0).i - (Z 1004).i).toNat) }
noncomputable def qaE (h:Hp) (D:qe):Nat->List Int:=fun j=>rdL h (tvs D j)
def qgv:Ctr:={ fn := 153,nv:=14,args:=[qaK,.one (.vslice 2 (.lit 0) (.var 3) (.var 4) 1),bSl 7 8 9 10],heap:=[fHp 1],ro:=[.arr 2 22 [.any] (.var 5) (.var 6),bHp 7 11 12,.abs 13 2],pre:=fun Z=>ql (Z 1).d/\1 <= (Z 3).i/\(Z 3).i <= 255/\(Z 3).i <= (Z 5).d.length/\(∀ row ∈ (Z 5).d,row.length = 1)/\(Z 9).i = (Z 3).i/\0 <= (Z 8).i/\(Z 8).i + (Z 9).i <= (Z 11).d.length/\qk (Z 11).d/\(∀ j,j < (Z 3).i.toNat->rdB (Z 13).h (tvs (Z 5).d j)/\(qaE (Z 13).h (Z 5).d j).length = (qaE (Z 13).h (Z 5).d 0).length)/\(qaE (Z 13).h (Z 5).d 0).length <= 9000,alts:=[
 { k:=5,ret:=.one (.vslice 14 (.lit 0) (.var 15) (.var 16) 1),heap:=[fHp 17,bHp 14 18 16],post:=fun Z=>ql (Z 17).d/\(Z 15).i = (Z 18).d.length/\(Z 18).d.length = (qaE (Z 13).h (Z 5).d 0).length/\qk (Z 18).d/\bI (Z 18).d = qar (qaE (Z 13).h (Z 5).d) (seg (bI (Z 11).d) (Z 8).i.toNat (Z 3).i.toNat) (qaE (Z 13).h (Z 5).d 0).length (Z 3).i.toNat }] }
def qqf:Inv:={ key:=3,nv:=6,env:=[(0,qaK),(1,.one (.vslice 2 (.lit 0) (.var 3) (.var 4) 1)),(7,q3Z 1000 1001 1002),(15,bSl 7 8 9 10),(16,iv .i64 (.var 9)),(17,iv .i64 (.var 1004))],heap:=[fHp 1005,bHp 1000 1003 1002],inv:=(fun Z=>ql (Z 1005).d/\0 <= (Z 1004).i/\(Z 1004).i <= (Z 9).i/\(Z 1001).i = (Z 1003).d.length/\(Z 1003).d.length = (qaE (Z 13).h (Z 5).d 0).length/\qk (Z 1003).d/\bI (Z 1003).d = qar (qaE (Z 13).h (Z 5).d) (seg (bI (Z 11).d) (Z 8).i.toNat (Z 3).i.toNat) (qaE (Z 13).h (Z 5).d 0).length (Z 1004).i.toNat),mu:=(fun Z=>((Z 9).i - (Z 1004).i).toNat) }
noncomputable def qfj (h:Hp) (D:qe) (k:Nat) (x:Int):List Int:=qar (pcD h D) (qds (qav D k) x) (pcN h D 0) k
def qkd (total k:Nat) (rs:List Int):List Int:=(qez (qdh (qc1 k total) k rs) k).2.1
noncomputable def qm8 (h:Hp) (D:qe) (total k:Nat) (i:Nat):List Int:=qar (pcD h D) (seg (qkd total k (qav D k)) (i * k) k) (pcN h D 0) k
def q7z (h:Hp) (D:qe) (k total n:Int):Prop:=qM k total = true/\k <= n/\n <= 17592186043904/\qgE h D n.toNat/\qce k.toNat total.toNat (qav D k.toNat)/\pcN h D 0 <= 8192/\∀ j,j < k.toNat->pcN h D j = pcN h D 0
def qsV (Z:Env) (l c d:Nat):Prop:=qS (Z 3).i (Z 2).i (Z l).i (Z c).i (Z d).d/\bI (Z d).d = qc1 (Z 2).i.toNat (Z 3).i.toNat
def qf1:Ctr:={ fn := 111,nv:=10,ip:=[(1000,9),(1001,9)],args:=[qaK,iv .i64 (.var 2),iv .i64 (.var 3),pcS 4 5 6],heap:=[fHp 1],ro:=[qc0 4 7 8,.abs 9 4],pre:=fun Z=>ql (Z 1).d/\q7z (Z 9).h (Z 7).d (Z 2).i (Z 3).i (Z 5).i,alts:=[
 { k:=8,ret:=.tup [(false,[.vslice 10 (.lit 0) (.var 2) (.var 2) 1]),qpP (.var 3) (.var 2) 11 12 13],heap:=[fHp 14,.arr 10 22 [.any] (.var 15) (.var 2),.abs 16 2,bHp 11 17 13],post:=fun Z=>ql (Z 14).d/\(Z 15).d.length = (Z 2).i.toNat/\(∀ row ∈ (Z 15).d,row.length = 1)/\qdQ (Z 16).h (tvs (Z 15).d) (Z 2).i.toNat (qm8 (Z 9).h (Z 7).d (Z 3).i.toNat (Z 2).i.toNat)/\qsV Z 12 13 17 }] }
def q6y:List (Nat × SV):=[(0,qaK),(1,iv .i64 (.var 2)),(3,pcS 4 5 6),(9,.one (.vptr 1010 (.lit 0) 3 0)),(10,.one (.vptr 1004 (.lit 0) 3 0))]
def qAP:List SH:=[fHp 1003,q3o 1010,qiV 1004 3 2 1005 1006 1007,bHp 1005 1008 1007]
def qvZ:Inv:={ key:=4,nv:=11,env:=q6y ++ [(12,.one (.vslice 1000 (.lit 0) (.var 2) (.var 2) 1)),(31,.one (.vslice 1000 (.lit 0) (.var 2) (.var 2) 1)),(32,iv .i64 (.var 2)),(33,iv .i64 (.var 1002))],heap:=qAP ++ [iHp 1000 1001 2],inv:=(fun Z=>ql (Z 1003).d/\qsV Z 1006 1007 1008/\0 <= (Z 1002).i/\(Z 1002).i <= (Z 2).i/\(Z 1001).d.length = (Z 2).i.toNat/\∀ j:Int,0 <= j->j < (Z 1002).i->qb (Z 1001).d j 0 = qb (Z 7).d j 0),mu:=(fun Z=>((Z 2).i - (Z 1002).i).toNat) }
def q2f:List (Nat × SV):=q6y ++ [(16,.one (.vptr 1011 (.lit 0) 3 0)),(18,.one (.vslice 1016 (.lit 0) (.var 2) (.var 2) 1)),(59,.one (.vslice 1016 (.lit 0) (.var 2) (.var 2) 1)),(60,iv .i64 (.var 2)),(61,iv .i64 (.var 1002))]
def q5z:List SH:=qAP ++ [qiV 1011 2 2 1012 1013 1014,bHp 1012 1015 1014,.arr 1016 22 [.any] (.var 1017) (.var 2),.abs 1018 2]
noncomputable def qAC (Z:Env):Nat->List Int:=qm8 (Z 9).h (Z 7).d (Z 3).i.toNat (Z 2).i.toNat
def q9L (Z:Env):Prop:=ql (Z 1003).d/\qsV Z 1006 1007 1008/\qS (Z 2).i (Z 2).i (Z 1013).i (Z 1014).i (Z 1015).d/\bI (Z 1015).d = qkd (Z 3).i.toNat (Z 2).i.toNat (qav (Z 7).d (Z 2).i.toNat)/\(Z 1017).d.length = (Z 2).i.toNat/\(∀ row ∈ (Z 1017).d,row.length = 1)/\0 <= (Z 1002).i/\(Z 1002).i <= (Z 2).i
def qxC:Inv:={ key:=12,nv:=19,env:=q2f,heap:=q5z,inv:=(fun Z=>q9L Z/\qdQ (Z 1018).h (tvs (Z 1017).d) (Z 1002).i.toNat (qAC Z)),mu:=(fun Z=>((Z 2).i - (Z 1002).i).toNat) }
def qwh (w:Nat):Inv:={ key:=16,nv:=23,env:=q2f ++ [(19,iv .i64 (.var 1002)),(75,bSl 1012 1020 1021 1022),(76,iv .i64 (.var 1021)),(77,iv .i64 (.var 1019))],heap:=q5z,inv:=(fun Z=>q9L Z/\(Z 1002).i < (Z 2).i/\(Z 1002).i = (Z w).i/\(Z 1020).i = (Z 1002).i * (Z 2).i/\(Z 1021).i = (Z 2).i/\0 <= (Z 1019).i/\(Z 1019).i <= (Z 2).i /\
 qdQ (Z 1018).h (tvs (Z 1017).d) ((Z 1002).i.toNat + 1) (fun r=>if r = (Z 1002).i.toNat then qar (pcD (Z 9).h (Z 7).d) (seg (qkd (Z 3).i.toNat (Z 2).i.toNat (qav (Z 7).d (Z 2).i.toNat)) ((Z 1002).i.toNat * (Z 2).i.toNat) (Z 2).i.toNat) (pcN (Z 9).h (Z 7).d 0) (Z 1019).i.toNat else qAC Z r)),mu:=(fun Z=>((Z 2).i - (Z 1019).i).toNat) }
noncomputable def qvR (h:Hp) (D:qe) (k total len:Int) (n:Int) (e:Int):Prop:=qkv k total len n.toNat (pcI D) (pcN h D) e
def qAe (h:Hp) (D:qe) (k total n index e:Int):Prop:=((qM k total = false∨index < 0∨total <= index)/\e = 2)∨(qM k total = true/\0 <= index/\index < total/\qvR h D k total (-1) n e/\e ≠ 0)
def q32 (h:Hp) (D:qe) (k total n index:Int):Prop:=qM k total = true/\0 <= index/\index < total/\qvR h D k total (-1) n 0
def qdV (h:Hp) (D:qe) (n:Int):Prop:=0 <= n/\n <= 17592186043904/\qgE h D n.toNat
def q1B:Bool × List T:=(true,[.vint .i64 (.lit 0),.vnils])
def qfR:Ctr:={ fn := 125,nv:=11,ip:=[(1000,9),(1001,9)],args:=[qaK,iv .i64 (.var 2),iv .i64 (.var 3),pcS 4 5 6,iv .i64 (.var 7)],heap:=[fHp 1],ro:=[qc0 4 8 9,.abs 10 4],pre:=fun Z=>ql (Z 1).d/\qdV (Z 10).h (Z 8).d (Z 5).i,alts:=[
 { k:=2,ret:=.tup [q1B,qa7 (.var 11)],heap:=[fHp 12],post:=fun Z=>ql (Z 12).d/\qAe (Z 10).h (Z 8).d (Z 2).i (Z 3).i (Z 5).i (Z 7).i (Z 11).i },
 { k:=5,ret:=.tup [(true,[.vint .i64 (.var 7),.vslice 11 (.lit 0) (.var 12) (.var 13) 1]),qa7 (.lit 0)],heap:=[fHp 14,bHp 11 15 13],post:=fun Z=>ql (Z 14).d/\q32 (Z 10).h (Z 8).d (Z 2).i (Z 3).i (Z 5).i (Z 7).i/\(Z 12).i = (Z 15).d.length/\(Z 15).d.length = pcN (Z 10).h (Z 8).d 0/\qk (Z 15).d/\bI (Z 15).d = qfj (Z 10).h (Z 8).d (Z 2).i.toNat (Z 7).i }] }
def qjk:Ctr:={ fn := 128,nv:=9,ip:=[(1000,9),(1001,9)],args:=[iv .i64 (.var 0),iv .i64 (.var 1),pcS 2 3 4,iv .i64 (.var 5)],heap:=[],ro:=[qc0 2 6 7,.abs 8 6],pre:=fun Z=>qdV (Z 8).h (Z 6).d (Z 3).i/\(Z 3).i <= (Z 4).i,alts:=[
 { k:=1,ret:=.tup [q1B,qa7 (.var 9)],heap:=[],post:=fun Z=>qAe (Z 8).h (Z 6).d (Z 0).i (Z 1).i (Z 3).i (Z 5).i (Z 9).i },
 { k:=4,ret:=.tup [(true,[.vint .i64 (.var 5),.vslice 9 (.lit 0) (.var 10) (.var 11) 1]),qa7 (.lit 0)],heap:=[bHp 9 12 11],post:=fun Z=>q32 (Z 8).h (Z 6).d (Z 0).i (Z 1).i (Z 3).i (Z 5).i/\(Z 10).i = (Z 12).d.length/\(Z 12).d.length = pcN (Z 8).h (Z 6).d 0/\qk (Z 12).d/\bI (Z 12).d = qfj (Z 8).h (Z 6).d (Z 0).i.toNat (Z 5).i }] }
def qld:Ctr:={ fn := 135,nv:=1,args:=[.one .vnils,iv .i64 (.var 0)],heap:=[],ro:=[],pre:=fun Z=>0 <= (Z 0).i/\(Z 0).i <= 10000000,alts:=[{ k:=3,ret:=.one (.vslice 1 (.lit 0) (.lit 0) (.var 3) 1),heap:=[bHp 1 2 3],post:=fun Z=>qk (Z 2).d }] }
def qcv (f:Nat->List Int):Nat->List Int
 | 0=>[]
 | k + 1=>qcv f k ++ f k
def qhG:Ctr:={ fn := 112,nv:=6,ip:=[(33,1)],args:=[.one (.vslice 0 (.lit 0) (.var 1) (.var 2) 1)],heap:=[],ro:=[.arr 0 22 [.any] (.var 3) (.var 4),.abs 5 2],pre:=fun Z=>0 <= (Z 1).i/\(Z 1).i <= 255/\(Z 1).i <= (Z 3).d.length/\(∀ row ∈ (Z 3).d,row.length = 1)/\∀ j,j < (Z 1).i.toNat->rdB (Z 5).h (tvs (Z 3).d j)/\(qaE (Z 5).h (Z 3).d j).length <= 9000,alts:=[
 { k:=4,ret:=.one (.vslice 6 (.lit 0) (.var 7) (.var 8) 1),heap:=[bHp 6 9 8],post:=fun Z=>(Z 7).i = ((qcv (qaE (Z 5).h (Z 3).d) (Z 1).i.toNat).length:Int)/\(Z 7).i <= (Z 9).d.length/\qk ((Z 9).d.take (Z 7).i.toNat)/\bI ((Z 9).d.take (Z 7).i.toNat) = qcv (qaE (Z 5).h (Z 3).d) (Z 1).i.toNat/\qk (Z 9).d }] }
def qtC:Inv:={ key:=3,nv:=2,env:=[(0,.one (.vslice 0 (.lit 0) (.var 1) (.var 2) 1)),(3,iv .i64 (.var 1001)),(9,.one (.vslice 0 (.lit 0) (.var 1) (.var 2) 1)),(10,iv .i64 (.var 1)),(11,iv .i64 (.var 1000))],heap:=[],inv:=(fun Z=>0 <= (Z 1000).i/\(Z 1000).i <= (Z 1).i/\(Z 1001).i = ((qcv (qaE (Z 5).h (Z 3).d) (Z 1000).i.toNat).length:Int)),mu:=(fun Z=>((Z 1).i - (Z 1000).i).toNat) }
def qtQ:Inv:={ key:=11,nv:=5,env:=[(6,q3Z 1000 1001 1002),(25,.one (.vslice 0 (.lit 0) (.var 1) (.var 2) 1)),(26,iv .i64 (.var 1)),(27,iv .i64 (.var 1004))],heap:=[bHp 1000 1003 1002],inv:=(fun Z=>0 <= (Z 1004).i/\(Z 1004).i <= (Z 1).i/\(Z 1001).i = ((qcv (qaE (Z 5).h (Z 3).d) (Z 1004).i.toNat).length:Int)/\(Z 1001).i <= (Z 1003).d.length/\qk ((Z 1003).d.take (Z 1001).i.toNat)/\bI ((Z 1003).d.take (Z 1001).i.toNat) = qcv (qaE (Z 5).h (Z 3).d) (Z 1004).i.toNat/\qk (Z 1003).d),mu:=(fun Z=>((Z 1).i - (Z 1004).i).toNat) }
noncomputable def plI (k size:Int):Int:=(qF k.toNat size.toNat:Int)
def q3b (h:Hp) (D:qe) (k total size n e:Int):Prop:=((qM k total = false∨size < 0∨8192 < size)/\e = 2)∨(qM k total = true/\0 <= size/\size <= 8192/\qvR h D k total (plI k size) n e/\e ≠ 0)
def qlw (h:Hp) (D:qe) (k total size n:Int):Prop:=qM k total = true/\0 <= size/\size <= 8192/\qvR h D k total (plI k size) n 0
noncomputable def qob (h:Hp) (D:qe) (k:Nat):List Int:=qcv (fun i=>qfj h D k (i:Int)) k
def qh8:Ctr:={ fn := 76,nv:=11,ip:=[(1000,9),(1001,9)],args:=[qaK,iv .i64 (.var 2),iv .i64 (.var 3),iv .i64 (.var 4),pcS 5 6 7],heap:=[fHp 1],ro:=[qc0 5 8 9,.abs 10 4],pre:=fun Z=>ql (Z 1).d/\qdV (Z 10).h (Z 8).d (Z 6).i,alts:=[
 { k:=2,ret:=.tup [(false,[.vnils]),qa7 (.var 11)],heap:=[fHp 12],post:=fun Z=>ql (Z 12).d/\q3b (Z 10).h (Z 8).d (Z 2).i (Z 3).i (Z 4).i (Z 6).i (Z 11).i },
 { k:=4,ret:=.tup [(false,[.vslice 11 (.lit 0) (.var 4) (.var 4) 1]),qa7 (.lit 0)],heap:=[fHp 12,bHp 11 13 14],post:=fun Z=>ql (Z 12).d/\qlw (Z 10).h (Z 8).d (Z 2).i (Z 3).i (Z 4).i (Z 6).i/\(Z 4).i <= (Z 13).d.length/\qk ((Z 13).d.take (Z 4).i.toNat)/\bI ((Z 13).d.take (Z 4).i.toNat) = (qob (Z 10).h (Z 8).d (Z 2).i.toNat).take (Z 4).i.toNat/\qk (Z 13).d }] }
def qkH:Ctr:={ fn := 78,nv:=9,ip:=[(1000,9),(1001,9)],args:=[iv .i64 (.var 0),iv .i64 (.var 1),iv .i64 (.var 2),pcS 3 4 5],heap:=[],ro:=[qc0 3 6 7,.abs 8 6],pre:=fun Z=>qdV (Z 8).h (Z 6).d (Z 4).i/\(Z 4).i <= (Z 5).i,alts:=[
 { k:=1,ret:=.tup [(false,[.vnils]),qa7 (.var 9)],heap:=[],post:=fun Z=>q3b (Z 8).h (Z 6).d (Z 0).i (Z 1).i (Z 2).i (Z 4).i (Z 9).i },
 { k:=3,ret:=.tup [(false,[.vslice 9 (.lit 0) (.var 2) (.var 10) 1]),qa7 (.lit 0)],heap:=[bHp 9 11 10],post:=fun Z=>qlw (Z 8).h (Z 6).d (Z 0).i (Z 1).i (Z 2).i (Z 4).i/\(Z 2).i <= (Z 11).d.length/\qk ((Z 11).d.take (Z 2).i.toNat)/\bI ((Z 11).d.take (Z 2).i.toNat) = (qob (Z 8).h (Z 6).d (Z 0).i.toNat).take (Z 2).i.toNat/\qk (Z 11).d }] }
def q1f:Inv:={ key:=9,nv:=5,env:=[(0,iv .i64 (.var 0)),(2,iv .i64 (.var 2)),(3,pcS 3 4 5),(13,q3Z 1000 1001 1002),(14,iv .i64 (.var 1004))],heap:=[bHp 1000 1003 1002],inv:=(fun Z=>qlw (Z 8).h (Z 6).d (Z 0).i (Z 1).i (Z 2).i (Z 4).i/\0 <= (Z 1004).i/\(Z 1004).i <= (Z 0).i/\(Z 1001).i = (Z 1003).d.length/\qk (Z 1003).d/\bI (Z 1003).d = qcv (fun i=>qfj (Z 8).h (Z 6).d (Z 0).i.toNat (i:Int)) (Z 1004).i.toNat),mu:=(fun Z=>((Z 0).i - (Z 1004).i).toNat) }
def qdv (f I:Nat->Int) (n:Nat) (k e:Int):Prop :=
 (∃ i,i < n/\(∀ j,j < i->f j = 0/\∀ l,l < j->I l ≠ I j)/\((f i ≠ 0/\e = f i)∨(f i = 0/\(∃ l,l < i/\I l = I i)/\e = 7))) ∨
 ((∀ j,j < n->f j = 0/\∀ l,l < j->I l ≠ I j)/\(((n:Int) < k/\e = 12)∨(k <= n/\e = 0)))
noncomputable def qlN (k n t s l:Int) (D:List (List Int)) (h:Hp) (P:qe) (j:Nat):Int:=qci k n t s l D (pcI P j) (pcD h P j)
def qo5 (r:Nat):SV:=.agg (qbe r (r + 1) (r + 2) (r + 3) (r + 4) (r + 5) (r + 6) (r + 7))
def qgB (Z:Env) (r:Nat):Prop:=qa8 (Z r).i/\qa8 (Z (r + 1)).i/\qa8 (Z (r + 2)).i/\qa8 (Z (r + 3)).i/\(Z (r + 6)).i = (Z (r + 8)).d.length/\qbJ (Z (r + 8)).d
def psP (n:Int) (P:qe) (h:Hp):Prop:=qdV h P n/\n = P.length/\∀ j,j < P.length->(pcD h P j).length <= 9000
noncomputable def mF (Z:Env) (r p h:Nat):Nat->Int:=qlN (Z r).i (Z (r + 1)).i (Z (r + 2)).i (Z (r + 3)).i (Z (r + 6)).i (dgs (Z (r + 8)).d) (Z h).h (Z p).d
def qi1 (Z:Env):Prop:=qgB Z 0/\psP (Z 11).i (Z 13).d (Z 15).h
def qep:List Alt:=[{ k:=1,ret:=iv .i64 (.var 18),heap:=[],post:=fun Z=>qdv (mF Z 0 13 15) (pcI (Z 13).d) (Z 13).d.length (Z 0).i (Z 18).i }]
def qmc:Ctr:={ fn := 75,nv:=18,ip:=[gIp 16],ow:=[1003],args:=[qbS,pcS 10 11 12],heap:=[],ro:=[qaC 5 8 9,qc0 10 13 14,.abs 15 4,gHp 16 17],pre:=fun Z=>qi1 Z/\gOk Z 16 17 gR,alts:=qep }
def qkQ:MT:=⟨false,[.i64],false,[.bool],[.vbool (.bl false)]⟩
def qw1 (h:Hp) (v:Value) (I:Nat->Int) (i:Nat):Prop:=∃ b l c,v = .map (some b)/\qaX h b qkQ l c/\(∀ x ∈ l,x.v = [.bool true])/\∀ z:Int,qaM l [z] = true↔∃ j,j < i/\I j = z
def qBj:Inv:={ key:=3,nv:=4,env:=[(1,pcS 10 11 12),(2,.one (.vptr 1002 (.lit 0) 37 0)),(5,.one (.var 1001)),(10,pcS 10 11 12),(11,iv .i64 (.var 11)),(12,iv .i64 (.var 1003))],heap:=[.cells 1002 27 (qbe 0 1 2 3 4 5 6 7),.abs 1000 1003],inv:=(fun Z=>0 <= (Z 1003).i/\(Z 1003).i <= (Z 11).i/\(∀ j,j < (Z 1003).i.toNat->mF Z 0 13 15 j = 0/\∀ l,l < j->pcI (Z 13).d l ≠ pcI (Z 13).d j)/\qw1 (Z 1000).h (Z 1001).v (pcI (Z 13).d) (Z 1003).i.toNat),mu:=(fun Z=>((Z 11).i - (Z 1003).i).toNat) }
def qiH:Ctr:={ fn := 77,nv:=18,ip:=[gIs 16,(1001,9),(1002,9)],ow:=[1003],args:=[qbS,pcS 10 11 12],heap:=[],ro:=[qaC 5 8 9,qc0 10 13 14,.abs 15 6,gHp 16 17],pre:=fun Z=>qi1 Z/\gOk Z 16 17 gS,alts:=qep }
def q8j:Inv:={ key:=2,nv:=2,env:=[(1,pcS 10 11 12),(2,.one (.vptr 1000 (.lit 0) 37 0)),(5,iv .i64 (.var 1001))],heap:=[.cells 1000 27 (qbe 0 1 2 3 4 5 6 7)],inv:=(fun Z=>0 <= (Z 1001).i/\(Z 1001).i <= (Z 11).i/\(∀ j,j < (Z 1001).i.toNat->mF Z 0 13 15 j = 0/\∀ l,l < j->pcI (Z 13).d l ≠ pcI (Z 13).d j)),mu:=(fun Z=>((Z 11).i - (Z 1001).i).toNat) }
def q8l:Inv:={ key:=8,nv:=2,env:=[(1,pcS 10 11 12),(2,.one (.vptr 1000 (.lit 0) 37 0)),(5,iv .i64 (.var 20)),(7,iv .i64 (.var 1001))],heap:=[.cells 1000 27 (qbe 0 1 2 3 4 5 6 7)],inv:=(fun Z=>0 <= (Z 1001).i/\(Z 1001).i <= (Z 20).i/\∀ l,l < (Z 1001).i.toNat->pcI (Z 13).d l ≠ pcI (Z 13).d (Z 20).i.toNat),mu:=(fun Z=>((Z 20).i - (Z 1001).i).toNat) }
def qjs (ok:Bool) (C:Int->Prop) (D O:List Int) (e:Int):Prop:=(ok = false/\e = 2)∨(ok = true/\C e/\e ≠ 0)∨(ok = true/\C 0/\((sha D ≠ O/\e = 20)∨(sha D = O/\e = 0)))
def mOk (Z:Env) (r:Nat):Bool:=qy (Z r).i (Z (r + 1)).i (Z (r + 2)).i (Z (r + 3)).i (Z (r + 6)).i
def qhN (Z:Env) (r p h:Nat):Int->Prop:=qdv (mF Z r p h) (pcI (Z p).d) (Z p).d.length (Z r).i
noncomputable def qti (Z:Env) (r p h:Nat):List Int:=(qob (Z h).h (Z p).d (Z r).i.toNat).take (Z (r + 3)).i.toNat
noncomputable def qsw (Z:Env) (r p h x:Nat):List Int:=qfj (Z h).h (Z p).d (Z r).i.toNat (Z x).i
def qkb (ok:Bool) (C:Int->Prop) (x t e y n:Int) (D O:List Int) (R:qe):Prop:=qjs (ok && decide (0 <= x/\x < t)) C (qbb x ++ D) O e/\((e ≠ 0/\y = 0/\n = 0/\R = [])∨(e = 0/\y = x/\n = R.length/\qk R/\bI R = D))
def qyY (ok:Bool) (C:Int->Prop) (sz e n:Int) (D O:List Int) (R:qe):Prop:=qjs ok C D O e/\((e ≠ 0/\n = 0/\R = [])∨(e = 0/\n = sz/\0 <= n/\n <= R.length/\qk R/\bI (R.take n.toNat) = D))
def qsU:Ctr:={ fn := 19,nv:=20,ip:=[gIp 18,(1005,9)],args:=[qaK,qo5 2,pcS 12 13 14],heap:=[fHp 1],ro:=[qaC 7 10 11,qc0 12 15 16,.abs 17 4,gHp 18 19],pre:=fun Z=>ql (Z 1).d/\qgB Z 2/\qH (qf (Z 6).d 32)/\psP (Z 13).i (Z 15).d (Z 17).h/\gOk Z 18 19 gR,alts:=[
 { k:=7,ret:=.tup [(false,[.vslice 20 (.lit 0) (.var 21) (.var 26) 1]),qa7 (.var 24)],heap:=[fHp 25,bHp 20 23 22],post:=fun Z=>ql (Z 25).d/\qyY (mOk Z 2) (qhN Z 2 15 17) (Z 5).i (Z 24).i (Z 21).i (qti Z 2 15 17) (qf (Z 6).d 32) (Z 23).d/\(Z 21).i <= (Z 26).i }] }
def qtj:Ctr:={ fn := 92,nv:=21,ip:=[gIp 18,(1005,9)],args:=[qaK,qo5 2,pcS 12 13 14,iv .i64 (.var 20)],heap:=[fHp 1],ro:=[qaC 7 10 11,qc0 12 15 16,.abs 17 4,gHp 18 19],pre:=fun Z=>ql (Z 1).d/\qgB Z 2/\psP (Z 13).i (Z 15).d (Z 17).h/\gOk Z 18 19 gR/\qa8 (Z 20).i,alts:=[
 { k:=7,ret:=.tup [(true,[.vint .i64 (.var 21),.vslice 22 (.lit 0) (.var 23) (.var 24) 1]),qa7 (.var 26)],heap:=[fHp 27,bHp 22 25 24],post:=fun Z=>ql (Z 27).d/\qkb (mOk Z 2) (qhN Z 2 15 17) (Z 20).i (Z 4).i (Z 26).i (Z 21).i (Z 23).i (qsw Z 2 15 17 20) ((dgs (Z 10).d).getD (Z 20).i.toNat []) (Z 25).d }] }
def qo2:Ctr:={ fn := 95,nv:=19,ip:=[gIs 16],args:=[qbS,pcS 10 11 12,iv .i64 (.var 18)],heap:=[],ro:=[qaC 5 8 9,qc0 10 13 14,.abs 15 6,gHp 16 17],pre:=fun Z=>qgB Z 0/\psP (Z 11).i (Z 13).d (Z 15).h/\(Z 11).i <= (Z 12).i/\gOk Z 16 17 gS/\qa8 (Z 18).i,alts:=[
 { k:=6,ret:=.tup [(true,[.vint .i64 (.var 19),.vslice 20 (.lit 0) (.var 21) (.var 22) 1]),qa7 (.var 24)],heap:=[bHp 20 23 22],post:=fun Z=>qkb (mOk Z 0) (qhN Z 0 13 15) (Z 18).i (Z 2).i (Z 24).i (Z 19).i (Z 21).i (qsw Z 0 13 15 18) ((dgs (Z 8).d).getD (Z 18).i.toNat []) (Z 23).d }] }
end Go.Eng
