/- Points and the polynomials through them: contracts. -/
import Derived.Test.YtkiheclcmgbmnaaWB
set_option linter.unusedSimpArgs false
set_option linter.unusedVariables false
namespace Go.Eng
open Go Go.Proofs
def kP : List CK := [.int .u8, .int .u8]
def pHp (r d c : Nat) : SH := .arr r 75 kP (.var d) (.var c)
def ptX (d : Rows') (i : Nat) : F := toF (cellI d i 0)
def ptY (d : Rows') (i : Nat) : F := toF (cellI d i 1)
def allP (d : Rows') : Prop := ∀ i : Int, 0 ≤ i → i < d.length → byteP (cellI d i 0) ∧ byteP (cellI d i 1)
/-- n values at the points. -/
def thruP (d : Rows') (l : List Int) : Prop := l.length = d.length ∧ ∀ i, i < d.length → pval d.length (polF l) (ptX d i) = ptY d i
def badP (d : Rows') (e : Int) : Prop := ((d.length = 0 ∨ 256 < d.length) ∧ e = 2) ∨ (0 < d.length ∧ d.length ≤ 256 ∧ ¬ Go.Proofs.distinct d.length (ptX d) ∧ e = 7)
def goodP (d : Rows') : Prop := 0 < d.length ∧ d.length ≤ 256 ∧ Go.Proofs.distinct d.length (ptX d)
/-! ### The code's -/
def pSl (r l c : Nat) : SV := .one (.vslice r (.lit 0) (.var l) (.var c) 1)
def qSl (r l c : Nat) : SV := .one (.vslice r (.lit 0) (.var l) (.var c) 2)
def kSeen : List CK := List.replicate 256 .bool
def seenOk (d s : Rows') (i : Nat) : Prop := Go.Proofs.distinct i (ptX d) ∧ (∃ row, s = [row] ∧ row.length = 256) ∧ ∀ x : Int, byteP x → (cellXB s x.toNat = true ↔ ∃ j, j < i ∧ cellI d (j : Int) 0 = x)
def interp65C : Ctr := { fn := 65, nv := 7, ip := [(1000, 9), (1001, 9)], args := [fArg, qSl 2 3 4], heap := [fHp 1], ro := [pHp 2 5 6], pre := fun ρ => fieldD (ρ 1).d ∧ (ρ 3).i = (ρ 5).d.length ∧ allP (ρ 5).d ∧ (ρ 3).i ≤ big, alts := [
  { k := 2, ret := .tup [(false, [.vnils]), eRet (.var 7)], heap := [fHp 8], post := fun ρ => fieldD (ρ 8).d ∧ badP (ρ 5).d (ρ 7).i },
  { k := 3, ret := .tup [(false, [.vslice 7 (.lit 0) (.var 3) (.var 3) 1]), eRet (.lit 0)], heap := [fHp 8, bHp 7 9 3], post := fun ρ => fieldD (ρ 8).d ∧ goodP (ρ 5).d ∧ allB (ρ 9).d ∧ thruP (ρ 5).d (bI (ρ 9).d) }] }
/-- 1000 the round, 1001 the seen ones' region, 1002 its row, 1003 the field. -/
def interp65A : Inv := { key := 8, nv := 4, env := [(0, fArg), (1, qSl 2 3 4), (6, iv .i64 (.var 3)), (7, .one (.vptr 1001 (.lit 0) 256 0)), (28, qSl 2 3 4), (29, iv .i64 (.var 3)), (30, iv .i64 (.var 1000))], heap := [fHp 1003, .arr 1001 110 kSeen (.var 1002) (.lit 1)], inv := (fun ρ => fieldD (ρ 1003).d ∧ 0 ≤ (ρ 1000).i ∧ (ρ 1000).i ≤ (ρ 3).i ∧ 1 ≤ (ρ 3).i ∧ (ρ 3).i ≤ 256 ∧ seenOk (ρ 5).d (ρ 1002).d (ρ 1000).i.toNat), mu := (fun ρ => ((ρ 3).i - (ρ 1000).i).toNat) }
def ipn (ρ : Env) : Prop := 1 ≤ (ρ 3).i ∧ (ρ 3).i ≤ 256 ∧ Go.Proofs.distinct (ρ 5).d.length (ptX (ρ 5).d)
/-- 1000 the differences' region, 1001 they, 1002 the round, 1003 the field. -/
def interp65B : Inv := { key := 16, nv := 4, env := [(0, fArg), (1, qSl 2 3 4), (6, iv .i64 (.var 3)), (10, pSl 1000 3 3), (44, qSl 2 3 4), (45, iv .i64 (.var 3)), (46, iv .i64 (.var 1002))], heap := [fHp 1003, bHp 1000 1001 3], inv := (fun ρ => fieldD (ρ 1003).d ∧ ipn ρ ∧ 0 ≤ (ρ 1002).i ∧ (ρ 1002).i ≤ (ρ 3).i ∧ (ρ 3).i = (ρ 1001).d.length ∧ allB (ρ 1001).d ∧ ∀ j : Int, 0 ≤ j → j < (ρ 1002).i → cellI (ρ 1001).d j 0 = cellI (ρ 5).d j 1), mu := (fun ρ => ((ρ 3).i - (ρ 1002).i).toNat) }
/-- The differences after some rounds. -/
def ddAt (d : Rows') (t i : Nat) : F := ddF (ptX d) (ptY d) (i - min i t) (min i t)
def interp65C2 : Inv := { key := 21, nv := 4, env := [(0, fArg), (1, qSl 2 3 4), (6, iv .i64 (.var 3)), (10, pSl 1000 3 3), (13, iv .i64 (.var 1002))], heap := [fHp 1003, bHp 1000 1001 3], inv := (fun ρ => fieldD (ρ 1003).d ∧ ipn ρ ∧ 1 ≤ (ρ 1002).i ∧ (ρ 1002).i ≤ (ρ 3).i ∧ (ρ 3).i = (ρ 1001).d.length ∧ allB (ρ 1001).d ∧ ∀ i, i < (ρ 5).d.length → polF (bI (ρ 1001).d) i = ddAt (ρ 5).d ((ρ 1002).i.toNat - 1) i), mu := (fun ρ => ((ρ 3).i - (ρ 1002).i).toNat) }
/-- 1002 the round, 1004 the place. -/
def interp65D (w : Nat) : Inv := { key := 24, nv := 5, env := [(0, fArg), (1, qSl 2 3 4), (6, iv .i64 (.var 3)), (10, pSl 1000 3 3), (13, iv .i64 (.var 1002)), (14, iv .i64 (.var 1004))], heap := [fHp 1003, bHp 1000 1001 3], inv := (fun ρ => fieldD (ρ 1003).d ∧ ipn ρ ∧ 1 ≤ (ρ 1002).i ∧ (ρ 1002).i < (ρ 3).i ∧ (ρ 1002).i = (ρ w).i ∧ (ρ 1002).i - 1 ≤ (ρ 1004).i ∧ (ρ 1004).i < (ρ 3).i ∧ (ρ 3).i = (ρ 1001).d.length ∧ allB (ρ 1001).d ∧ ∀ i, i < (ρ 5).d.length → polF (bI (ρ 1001).d) i = ddAt (ρ 5).d (if i ≤ (ρ 1004).i.toNat then (ρ 1002).i.toNat - 1 else (ρ 1002).i.toNat) i), mu := (fun ρ => ((ρ 1004).i + 1).toNat) }
/-- The coefficients after k steps of Horner's way. -/
def hornP (d : Rows') (k : Nat) (l : List Int) : Prop := l.length = d.length ∧ bytesL l ∧ (∀ x, pval d.length (polF l) x = hornN (ptX d) (ddF (ptX d) (ptY d) 0) x d.length k) ∧ ∀ j, k ≤ j → polF l j = 0
/-- 1000, 1001 the differences, 1002, 1004 the coefficients, 1003 the field, 1005 the point. -/
def ipDs (ρ : Env) : Prop := ipn ρ ∧ (ρ 3).i = (ρ 1001).d.length ∧ allB (ρ 1001).d ∧ ∀ i, i < (ρ 5).d.length → polF (bI (ρ 1001).d) i = ddF (ptX (ρ 5).d) (ptY (ρ 5).d) 0 i
def interp65E : Inv := { key := 29, nv := 6, env := [(0, fArg), (1, qSl 2 3 4), (6, iv .i64 (.var 3)), (10, pSl 1000 3 3), (15, pSl 1002 3 3), (16, iv .i64 (.var 1005))], heap := [fHp 1003, bHp 1000 1001 3, bHp 1002 1004 3], inv := (fun ρ => fieldD (ρ 1003).d ∧ ipDs ρ ∧ -1 ≤ (ρ 1005).i ∧ (ρ 1005).i < (ρ 3).i ∧ (ρ 3).i = (ρ 1004).d.length ∧ allB (ρ 1004).d ∧ hornP (ρ 5).d ((ρ 3).i - 1 - (ρ 1005).i).toNat (bI (ρ 1004).d)), mu := (fun ρ => ((ρ 1005).i + 1).toNat) }
/-- A polynomial times (x - r), down to the coefficient c. -/
def byDown (r : Int) (l : List Int) (c : Nat) : List Int := l.mapIdx fun i x => if c < i then xorB (l.getD (i - 1) 0) (mulF x r) else x
/-- 1006 the coefficient. -/
def interp65F (w : Nat) : Inv := { key := 32, nv := 7, env := [(0, fArg), (1, qSl 2 3 4), (6, iv .i64 (.var 3)), (10, pSl 1000 3 3), (15, pSl 1002 3 3), (16, iv .i64 (.var 1005)), (17, iv .i64 (.var 1006))], heap := [fHp 1003, bHp 1000 1001 3, bHp 1002 1004 3], inv := (fun ρ => fieldD (ρ 1003).d ∧ ipDs ρ ∧ 0 ≤ (ρ 1005).i ∧ (ρ 1005).i < (ρ 3).i ∧ (ρ 1005).i = (ρ w).i ∧ 0 ≤ (ρ 1006).i ∧ (ρ 1006).i < (ρ 3).i ∧ (ρ 3).i = (ρ 1004).d.length ∧ allB (ρ 1004).d ∧ ∃ l, hornP (ρ 5).d ((ρ 3).i - 1 - (ρ 1005).i).toNat l ∧ bI (ρ 1004).d = byDown (cellI (ρ 5).d (ρ 1005).i 0) l (ρ 1006).i.toNat), mu := (fun ρ => (ρ 1006).i.toNat) }
/-! ### The document's -/
def by86C : Ctr := { fn := 86, nv := 6, args := [pSl 0 1 2, iv .u8 (.var 5)], heap := [], ro := [bHp 0 3 4], pre := fun ρ => (ρ 1).i = (ρ 3).d.length ∧ (ρ 1).i ≤ 256 ∧ allB (ρ 3).d ∧ byteP (ρ 5).i, alts := [
  { k := 3, ret := .one (.vslice 6 (.lit 0) (.var 7) (.var 7) 1), heap := [bHp 6 8 7], post := fun ρ => (ρ 7).i = (ρ 1).i + 1 ∧ (ρ 7).i = (ρ 8).d.length ∧ allB (ρ 8).d ∧ ∀ l, polF (bI (ρ 8).d) l = byF (toF (ρ 5).i) (polF (bI (ρ 3).d)) l }] }
/-- 1000, 1002 the product, 1001 its length, 1003 the round. -/
def by86I : Inv := { key := 3, nv := 4, env := [(0, pSl 0 1 2), (1, iv .u8 (.var 5)), (5, pSl 1000 1001 1001), (6, iv .i64 (.var 1003))], heap := [bHp 1000 1002 1001], inv := (fun ρ => (ρ 1001).i = (ρ 1).i + 1 ∧ (ρ 1001).i = (ρ 1002).d.length ∧ allB (ρ 1002).d ∧ 0 ≤ (ρ 1003).i ∧ (ρ 1003).i ≤ (ρ 1).i ∧ ∀ l, polF (bI (ρ 1002).d) l = if l < (ρ 1003).i.toNat then byF (toF (ρ 5).i) (polF (bI (ρ 3).d)) l else if l = (ρ 1003).i.toNat ∧ 0 < l then polF (bI (ρ 3).d) (l - 1) else 0), mu := (fun ρ => ((ρ 1).i - (ρ 1003).i).toNat) }
def without87C : Ctr := { fn := 87, nv := 6, args := [pSl 0 1 2, iv .u8 (.var 5)], heap := [], ro := [bHp 0 3 4], pre := fun ρ => 1 ≤ (ρ 1).i ∧ (ρ 1).i = (ρ 3).d.length ∧ (ρ 1).i ≤ 257 ∧ allB (ρ 3).d ∧ byteP (ρ 5).i, alts := [
  { k := 3, ret := .one (.vslice 6 (.lit 0) (.var 7) (.var 7) 1), heap := [bHp 6 8 7], post := fun ρ => (ρ 7).i = (ρ 1).i - 1 ∧ (ρ 7).i = (ρ 8).d.length ∧ allB (ρ 8).d ∧ ∀ l, 1 ≤ l → l < (ρ 1).i.toNat → polF (bI (ρ 8).d) (l - 1) = polF (bI (ρ 3).d) l ^^^ fmul (toF (ρ 5).i) (polF (bI (ρ 8).d) l) }] }
/-- 1000, 1002 the quotient, 1001 its length, 1003 what is carried, 1004 the round. -/
def without87I : Inv := { key := 4, nv := 5, env := [(0, pSl 0 1 2), (1, iv .u8 (.var 5)), (5, pSl 1000 1001 1001), (6, iv .u8 (.var 1003)), (7, iv .i64 (.var 1004))], heap := [bHp 1000 1002 1001], inv := (fun ρ => (ρ 1001).i = (ρ 1).i - 1 ∧ (ρ 1001).i = (ρ 1002).d.length ∧ allB (ρ 1002).d ∧ 0 ≤ (ρ 1004).i ∧ (ρ 1004).i < (ρ 1).i ∧ byteP (ρ 1003).i ∧ toF (ρ 1003).i = polF (bI (ρ 1002).d) (ρ 1004).i.toNat ∧ ∀ l, (ρ 1004).i.toNat < l → l < (ρ 1).i.toNat → polF (bI (ρ 1002).d) (l - 1) = polF (bI (ρ 3).d) l ^^^ fmul (toF (ρ 5).i) (polF (bI (ρ 1002).d) l)), mu := (fun ρ => (ρ 1004).i.toNat) }
def through66C : Ctr := { fn := 66, nv := 5, args := [qSl 0 1 2], heap := [], ro := [pHp 0 3 4], pre := fun ρ => (ρ 1).i = (ρ 3).d.length ∧ allP (ρ 3).d ∧ (ρ 1).i ≤ big, alts := [
  { k := 1, ret := .tup [(false, [.vnils]), eRet (.var 5)], heap := [], post := fun ρ => badP (ρ 3).d (ρ 5).i },
  { k := 2, ret := .tup [(false, [.vslice 5 (.lit 0) (.var 1) (.var 1) 1]), eRet (.lit 0)], heap := [bHp 5 6 1], post := fun ρ => goodP (ρ 3).d ∧ allB (ρ 6).d ∧ thruP (ρ 3).d (bI (ρ 6).d) }] }
def thr (ρ : Env) : Prop := 1 ≤ (ρ 1).i ∧ (ρ 1).i ≤ 256
def through66A : Inv := { key := 5, nv := 1, env := [(0, qSl 0 1 2), (4, iv .i64 (.var 1)), (5, iv .i64 (.var 1000))], heap := [], inv := (fun ρ => thr ρ ∧ 0 ≤ (ρ 1000).i ∧ (ρ 1000).i ≤ (ρ 1).i ∧ Go.Proofs.distinct (ρ 1000).i.toNat (ptX (ρ 3).d)), mu := (fun ρ => ((ρ 1).i - (ρ 1000).i).toNat) }
def through66B (w : Nat) : Inv := { key := 8, nv := 2, env := [(0, qSl 0 1 2), (4, iv .i64 (.var 1)), (5, iv .i64 (.var 1000)), (6, iv .i64 (.var 1001))], heap := [], inv := (fun ρ => thr ρ ∧ 0 ≤ (ρ 1000).i ∧ (ρ 1000).i < (ρ 1).i ∧ (ρ 1000).i = (ρ w).i ∧ Go.Proofs.distinct (ρ 1000).i.toNat (ptX (ρ 3).d) ∧ 0 ≤ (ρ 1001).i ∧ (ρ 1001).i ≤ (ρ 1000).i ∧ ∀ j : Int, 0 ≤ j → j < (ρ 1001).i → cellI (ρ 3).d (ρ 1000).i 0 ≠ cellI (ρ 3).d j 0), mu := (fun ρ => ((ρ 1000).i - (ρ 1001).i).toNat) }
def thrD (ρ : Env) : Prop := thr ρ ∧ Go.Proofs.distinct (ρ 3).d.length (ptX (ρ 3).d)
/-- 1000 .. 1003 the product of all, 1004 the round. -/
def through66C2 : Inv := { key := 14, nv := 4, env := [(0, qSl 0 1 2), (4, iv .i64 (.var 1)), (7, pSl 1000 1001 1001), (8, iv .i64 (.var 1003))], heap := [bHp 1000 1002 1001], inv := (fun ρ => thrD ρ ∧ 0 ≤ (ρ 1003).i ∧ (ρ 1003).i ≤ (ρ 1).i ∧ (ρ 1001).i = (ρ 1003).i + 1 ∧ (ρ 1001).i = (ρ 1002).d.length ∧ allB (ρ 1002).d ∧ ∀ l, polF (bI (ρ 1002).d) l = monF (ptX (ρ 3).d) (ρ 1003).i.toNat l), mu := (fun ρ => ((ρ 1).i - (ρ 1003).i).toNat) }
def thrAll (ρ : Env) : Prop := thrD ρ ∧ (ρ 1001).i = (ρ 1).i + 1 ∧ (ρ 1001).i = (ρ 1002).d.length ∧ allB (ρ 1002).d ∧ ∀ l, polF (bI (ρ 1002).d) l = monF (ptX (ρ 3).d) (ρ 3).d.length l
/-- The sum so far takes the first values, and 0 at the other points. -/
def lagP (d : Rows') (i : Nat) (l : List Int) : Prop := l.length = d.length ∧ bytesL l ∧ ∀ m, m < d.length → pval d.length (polF l) (ptX d m) = if m < i then ptY d m else 0
/-- 1004 the sum's region, 1005 its rows, 1006 the round. -/
def through66D : Inv := { key := 19, nv := 7, env := [(0, qSl 0 1 2), (4, iv .i64 (.var 1)), (7, pSl 1000 1001 1001), (9, pSl 1004 1 1), (10, iv .i64 (.var 1006))], heap := [bHp 1000 1002 1001, bHp 1004 1005 1], inv := (fun ρ => thrAll ρ ∧ 0 ≤ (ρ 1006).i ∧ (ρ 1006).i ≤ (ρ 1).i ∧ (ρ 1).i = (ρ 1005).d.length ∧ allB (ρ 1005).d ∧ lagP (ρ 3).d (ρ 1006).i.toNat (bI (ρ 1005).d)), mu := (fun ρ => ((ρ 1).i - (ρ 1006).i).toNat) }
def partOk (d : Rows') (i : Nat) (l : List Int) : Prop := l.length = d.length ∧ bytesL l ∧ polF l (d.length - 1) = 1 ∧ ∀ x, fprod (fun u => x ^^^ ptX d u) d.length = fmul (x ^^^ ptX d i) (pval d.length (polF l) x)
/-- 1007 .. 1009 the part, 1010 its factor, 1011 the coefficient. -/
def through66E (w : Nat) : Inv := { key := 24, nv := 12, env := [(0, qSl 0 1 2), (4, iv .i64 (.var 1)), (7, pSl 1000 1001 1001), (9, pSl 1004 1 1), (10, iv .i64 (.var 1006)), (11, pSl 1007 1008 1008), (12, iv .u8 (.var 1010)), (13, iv .i64 (.var 1011))], heap := [bHp 1000 1002 1001, bHp 1004 1005 1, bHp 1007 1009 1008], inv := (fun ρ => thrAll ρ ∧ 0 ≤ (ρ 1006).i ∧ (ρ 1006).i < (ρ 1).i ∧ (ρ 1006).i = (ρ w).i ∧ (ρ 1).i = (ρ 1005).d.length ∧ allB (ρ 1005).d ∧ (ρ 1008).i = (ρ 1009).d.length ∧ allB (ρ 1009).d ∧ partOk (ρ 3).d (ρ 1006).i.toNat (bI (ρ 1009).d) ∧ byteP (ρ 1010).i ∧
  toF (ρ 1010).i = fmul (ptY (ρ 3).d (ρ 1006).i.toNat) (finv (pval (ρ 3).d.length (polF (bI (ρ 1009).d)) (ptX (ρ 3).d (ρ 1006).i.toNat))) ∧ 0 ≤ (ρ 1011).i ∧ (ρ 1011).i ≤ (ρ 1).i ∧ ∃ l, lagP (ρ 3).d (ρ 1006).i.toNat l ∧ bI (ρ 1005).d = rowTo (fun j x => xorB x (mulF (ρ 1010).i ((bI (ρ 1009).d).getD j 0))) l (ρ 1011).i.toNat), mu := (fun ρ => ((ρ 1).i - (ρ 1011).i).toNat) }
/-! ### The laws -/
def lawInterpolatesC : Ctr := lawIs 20 5 [qSl 0 1 2] [pHp 0 3 4] fun ρ => 0 ≤ (ρ 1).i ∧ (ρ 1).i ≤ 140737488351232 ∧ (ρ 1).i = (ρ 3).d.length ∧ allP (ρ 3).d
end Go.Eng
