/- Pieces: contracts of the reference's encoding, and of the comparison. -/
import Derived.Test.YtkiheclcmgbmnaaYM
import Derived.Test.YtkiheclcmgbmnaaGJ
set_option linter.unusedSimpArgs false
set_option linter.unusedVariables false
namespace Go.Eng
open Go Go.Proofs

def pcHp (r d c : Nat) : SH := .arr r 36 kPiece (.var d) (.var c)
def pcS (r l c : Nat) : SV := .one (.vslice r (.lit 0) (.var l) (.var c) 2)
/-- Encode: that the first rows are of full rank is known. -/
def encC : Ctr := { encode31C with pre := fun ρ => fieldD (ρ 1).d ∧ (ρ 5).i = (ρ 7).d.length ∧ allB (ρ 7).d }
/-! ### Pieces that are the same -/
def samePc (h h' : Hp) (D D' : Rows') (n n' : Nat) : Prop := n = n' ∧ ∀ j, j < n → pcI D j = pcI D' j ∧ pcD h D j = pcD h' D' j
def same33Of (hp ro : List SH) (a b : Nat) : Ctr := { fn := 33, nv := 12, args := [pcS 0 1 2, pcS 5 6 7], heap := hp, ro := [pcHp 0 3 4, pcHp 5 8 9] ++ ro, pre := fun ρ => 0 ≤ (ρ 1).i ∧ (ρ 1).i ≤ 17592186043904 ∧ 0 ≤ (ρ 6).i ∧ pcOk (ρ a).h (ρ 3).d (ρ 1).i.toNat ∧ pcOk (ρ b).h (ρ 8).d (ρ 6).i.toNat, alts := [{ k := 1, ret := .one (.vbool (.var 12)), heap := hp, post := fun ρ => (ρ 12).b = true ↔ samePc (ρ a).h (ρ b).h (ρ 3).d (ρ 8).d (ρ 1).i.toNat (ρ 6).i.toNat }] }
/-- Both in memory that is owned. -/
def same33C : Ctr := same33Of [.abs 10 2] [] 10 10
/-- The second list is read only. -/
def same33R : Ctr := same33Of [.abs 10 2] [.abs 11 6] 10 11
def same33N : Ctr := { fn := 33, nv := 0, args := [.one .vnils, .one .vnils], heap := [], ro := [], pre := fun _ => True, alts := [lawRet] }
def same33IOf (hp : List SH) (a b : Nat) : Inv := { key := 4, nv := 1, env := [(0, pcS 0 1 2), (1, pcS 5 6 7), (5, iv .i64 (.var 1000))], heap := hp, inv := (fun ρ => 0 ≤ (ρ 1000).i ∧ (ρ 1000).i ≤ (ρ 1).i ∧ (ρ 1).i = (ρ 6).i ∧ ∀ j, j < (ρ 1000).i.toNat → pcI (ρ 3).d j = pcI (ρ 8).d j ∧ pcD (ρ a).h (ρ 3).d j = pcD (ρ b).h (ρ 8).d j), mu := (fun ρ => ((ρ 1).i - (ρ 1000).i).toNat) }
/-! ### Sums of pieces -/
def mixN (f : Nat → List Int) (w : List Int) (l : Nat) : Nat → List Int
  | 0 => List.replicate l 0
  | j + 1 => addToL (mixN f w l j) 0 (seg (f j) 0 l) (w.getD j 0)
def wS : SV := .one (.vslice 5 (.lit 0) (.var 6) (.var 7) 1)
/-- Pieces 0 .. 4, weights 5 .. 9, the length 10, where the bytes are 11. -/
def mix77Of (t : Nat) : Ctr := { fn := 77, nv := 12, args := [pcS 0 1 2, wS, iv .i64 (.var 10)], heap := [], ro := [pcHp 0 3 4, bHp 5 8 9, .abs 11 t], pre := fun ρ => 0 ≤ (ρ 1).i ∧ (ρ 1).i ≤ 255 ∧ 0 ≤ (ρ 10).i ∧ (ρ 10).i ≤ 9000 ∧ (ρ 6).i = (ρ 1).i ∧ (ρ 6).i ≤ (ρ 8).d.length ∧ allB (ρ 8).d ∧ pcOk (ρ 11).h (ρ 3).d (ρ 1).i.toNat ∧ ∀ j, j < (ρ 1).i.toNat → (ρ 10).i ≤ (pcD (ρ 11).h (ρ 3).d j).length, alts := [
  { k := 3, ret := .one (.vslice 12 (.lit 0) (.var 10) (.var 13) 1), heap := [bHp 12 14 13], post := fun ρ => (ρ 14).d.length = (ρ 10).i.toNat ∧ allB (ρ 14).d ∧ bI (ρ 14).d = mixN (pcD (ρ 11).h (ρ 3).d) (bI (ρ 8).d) (ρ 10).i.toNat (ρ 1).i.toNat }] }
def mix77C : Ctr := mix77Of 2
def mix77R : Ctr := mix77Of 6
def mix77Env : List (Nat × SV) := [(0, pcS 0 1 2), (1, wS), (2, iv .i64 (.var 10)), (7, .one (.vslice 1000 (.lit 0) (.var 10) (.var 1001) 1)), (8, iv .i64 (.var 1003))]
def mix77I : Inv := { key := 3, nv := 4, env := mix77Env, heap := [bHp 1000 1002 1001], inv := (fun ρ => 0 ≤ (ρ 1003).i ∧ (ρ 1003).i ≤ (ρ 1).i ∧ (ρ 1002).d.length = (ρ 10).i.toNat ∧ allB (ρ 1002).d ∧ bI (ρ 1002).d = mixN (pcD (ρ 11).h (ρ 3).d) (bI (ρ 8).d) (ρ 10).i.toNat (ρ 1003).i.toNat), mu := (fun ρ => ((ρ 1).i - (ρ 1003).i).toNat) }
/-- 1004 the byte. -/
def mix77J : Inv := { key := 7, nv := 5, env := mix77Env ++ [(9, iv .i64 (.var 1004))], heap := [bHp 1000 1002 1001], inv := (fun ρ => 0 ≤ (ρ 1003).i ∧ (ρ 1003).i < (ρ 1).i ∧ (ρ 1003).i = (ρ 16).i ∧ (ρ 1002).d.length = (ρ 10).i.toNat ∧ allB (ρ 1002).d ∧ 0 ≤ (ρ 1004).i ∧ (ρ 1004).i ≤ (ρ 10).i ∧ bI (ρ 1002).d = addToL (mixN (pcD (ρ 11).h (ρ 3).d) (bI (ρ 8).d) (ρ 10).i.toNat (ρ 1003).i.toNat) 0 (seg (pcD (ρ 11).h (ρ 3).d (ρ 1003).i.toNat) 0 (ρ 1004).i.toNat) ((bI (ρ 8).d).getD (ρ 1003).i.toNat 0)), mu := (fun ρ => ((ρ 10).i - (ρ 1004).i).toNat) }
/-! ### The reference's pieces -/
def dataS : SV := .one (.vslice 2 (.lit 0) (.var 3) (.var 4) 1)
def split32C : Ctr := { fn := 32, nv := 7, ip := [(79, 2)], args := [iv .i64 (.var 0), iv .i64 (.var 1), dataS], heap := [], ro := [bHp 2 5 6], pre := fun ρ => (ρ 3).i = (ρ 5).d.length ∧ allB (ρ 5).d, alts := [
  { k := 1, ret := .tup [(false, [.vnils]), eRet (.var 7)], heap := [], post := fun ρ => (sizesB (ρ 0).i (ρ 1).i = false ∧ (ρ 7).i = 2) ∨ (sizesB (ρ 0).i (ρ 1).i = true ∧ 8192 < (ρ 3).i ∧ (ρ 7).i = 3) },
  { k := 4, ret := .tup [(false, [.vslice 7 (.lit 0) (.var 1) (.var 8) 2]), eRet (.lit 0)], heap := [pcHp 7 9 8, .abs 10 2], post := fun ρ => sizesB (ρ 0).i (ρ 1).i = true ∧ (ρ 3).i ≤ 8192 ∧ (ρ 9).d.length = (ρ 1).i.toNat ∧ encAt (ρ 10).h (ρ 9).d (ρ 1).i.toNat (encP (ρ 0).i.toNat (ρ 1).i.toNat (bI (ρ 5).d)) }] }
def splitW (k total len l n i : Int) (D data : Rows') (h : Hp) : Prop :=
  sizesB k total = true ∧ len ≤ 8192 ∧ len = data.length ∧ allB data ∧ l = (pieceLen k.toNat data.length : Nat) ∧ l ≤ 8192 ∧ n = i ∧ n = D.length ∧ 0 ≤ i ∧ i ≤ total ∧ encAt h D i.toNat (encP k.toNat total.toNat (bI data))
def splitEnv : List (Nat × SV) := [(0, iv .i64 (.var 0)), (1, iv .i64 (.var 1)), (8, iv .i64 (.var 1000)), (10, pcS 1001 1002 1003)]
def split32I : Inv := { key := 8, nv := 7, env := splitEnv ++ [(2, dataS), (11, iv .i64 (.var 1005))], heap := [pcHp 1001 1004 1003, .abs 1006 2], inv := (fun ρ => splitW (ρ 0).i (ρ 1).i (ρ 3).i (ρ 1000).i (ρ 1002).i (ρ 1005).i (ρ 1004).d (ρ 5).d (ρ 1006).h ∧ (ρ 1005).i ≤ (ρ 0).i), mu := (fun ρ => ((ρ 0).i - (ρ 1005).i).toNat) }
/-- 1007 .. 1009 the piece, 1010 the byte. -/
def split32J : Inv := { key := 12, nv := 11, env := splitEnv ++ [(2, dataS), (11, iv .i64 (.var 1005)), (12, .one (.vslice 1007 (.lit 0) (.var 1000) (.var 1008) 1)), (13, iv .i64 (.var 1010))], heap := [pcHp 1001 1004 1003, bHp 1007 1009 1008, .abs 1006 2], inv := (fun ρ => splitW (ρ 0).i (ρ 1).i (ρ 3).i (ρ 1000).i (ρ 1002).i (ρ 1005).i (ρ 1004).d (ρ 5).d (ρ 1006).h ∧ (ρ 1005).i < (ρ 0).i ∧ (ρ 1005).i = (ρ 17).i ∧ 0 ≤ (ρ 1010).i ∧ (ρ 1010).i ≤ (ρ 1000).i ∧ allB (ρ 1009).d ∧ bI (ρ 1009).d = fillTo (fun c => (bI (ρ 5).d).getD ((ρ 1005).i.toNat * (ρ 1000).i.toNat + c) 0) (ρ 1000).i.toNat (ρ 1010).i.toNat), mu := (fun ρ => ((ρ 1000).i - (ρ 1010).i).toNat) }
def split32K : Inv := { key := 17, nv := 7, env := splitEnv ++ [(14, iv .i64 (.var 1005))], heap := [pcHp 1001 1004 1003, .abs 1006 2], inv := (fun ρ => splitW (ρ 0).i (ρ 1).i (ρ 3).i (ρ 1000).i (ρ 1002).i (ρ 1005).i (ρ 1004).d (ρ 5).d (ρ 1006).h ∧ (ρ 0).i ≤ (ρ 1005).i), mu := (fun ρ => ((ρ 1).i - (ρ 1005).i).toNat) }
def lawEncodesC : Ctr := lawIs 4 7 [iv .i64 (.var 0), iv .i64 (.var 1), dataS] [bHp 2 5 6] fun ρ => matIn (ρ 3).i (ρ 4).i (ρ 5).d
end Go.Eng
