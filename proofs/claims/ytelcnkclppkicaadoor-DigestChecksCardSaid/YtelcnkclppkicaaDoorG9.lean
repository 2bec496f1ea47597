/- Texts CK, YA, CL, CM, ZLq, YF, W1, W2, W3, WD, CN, CO, YB, ZSq, YC, CP, E13, E14. -/
import Derived.Test.YtelcnkclppkicaaDoorG8
import Derived.Test.YtelcnkclppkicaaDoorG6
import Derived.Test.YtelcnkclppkicaaDoorG5
import Derived.Test.YtelcnkclppkicaaDoorProg
import Derived.Test.YtelcnkclppkicaaDoorG7
import Derived.WalkKit
import Derived.ProofKit
import Derived.OpenShut
import Derived.Carry
import Derived.SizedLaws
set_option linter.unusedSimpArgs false
set_option linter.unusedVariables false
namespace Go.Proofs
open Go Go.Eng
/-- The row number i of digests. -/
def rowI8 (d : Rows') (i : Int) : List Int := (List.range 32).map fun k => cellI d i k
@[simp high] theorem rowL_x8 (d : Rows') : rowL [[.int .u8 (cellX d 0), .int .u8 (cellX d 1), .int .u8 (cellX d 2), .int .u8 (cellX d 3), .int .u8 (cellX d 4), .int .u8 (cellX d 5), .int .u8 (cellX d 6), .int .u8 (cellX d 7), .int .u8 (cellX d 8), .int .u8 (cellX d 9), .int .u8 (cellX d 10), .int .u8 (cellX d 11), .int .u8 (cellX d 12), .int .u8 (cellX d 13), .int .u8 (cellX d 14), .int .u8 (cellX d 15), .int .u8 (cellX d 16), .int .u8 (cellX d 17), .int .u8 (cellX d 18), .int .u8 (cellX d 19), .int .u8 (cellX d 20), .int .u8 (cellX d 21), .int .u8 (cellX d 22), .int .u8 (cellX d 23), .int .u8 (cellX d 24), .int .u8 (cellX d 25), .int .u8 (cellX d 26), .int .u8 (cellX d 27), .int .u8 (cellX d 28), .int .u8 (cellX d 29), .int .u8 (cellX d 30), .int .u8 (cellX d 31)]] 32 = rowL d 32 := rfl
@[simp high] theorem rowL_i8 (d : Rows') (i : Int) : rowL [[.int .u8 (cellI d i 0), .int .u8 (cellI d i 1), .int .u8 (cellI d i 2), .int .u8 (cellI d i 3), .int .u8 (cellI d i 4), .int .u8 (cellI d i 5), .int .u8 (cellI d i 6), .int .u8 (cellI d i 7), .int .u8 (cellI d i 8), .int .u8 (cellI d i 9), .int .u8 (cellI d i 10), .int .u8 (cellI d i 11), .int .u8 (cellI d i 12), .int .u8 (cellI d i 13), .int .u8 (cellI d i 14), .int .u8 (cellI d i 15), .int .u8 (cellI d i 16), .int .u8 (cellI d i 17), .int .u8 (cellI d i 18), .int .u8 (cellI d i 19), .int .u8 (cellI d i 20), .int .u8 (cellI d i 21), .int .u8 (cellI d i 22), .int .u8 (cellI d i 23), .int .u8 (cellI d i 24), .int .u8 (cellI d i 25), .int .u8 (cellI d i 26), .int .u8 (cellI d i 27), .int .u8 (cellI d i 28), .int .u8 (cellI d i 29), .int .u8 (cellI d i 30), .int .u8 (cellI d i 31)]] 32 = rowI8 d i := rfl
@[simp high] theorem mapV_x8 (d : Rows') : ([.int .u8 (cellX d 0), .int .u8 (cellX d 1), .int .u8 (cellX d 2), .int .u8 (cellX d 3), .int .u8 (cellX d 4), .int .u8 (cellX d 5), .int .u8 (cellX d 6), .int .u8 (cellX d 7), .int .u8 (cellX d 8), .int .u8 (cellX d 9), .int .u8 (cellX d 10), .int .u8 (cellX d 11), .int .u8 (cellX d 12), .int .u8 (cellX d 13), .int .u8 (cellX d 14), .int .u8 (cellX d 15), .int .u8 (cellX d 16), .int .u8 (cellX d 17), .int .u8 (cellX d 18), .int .u8 (cellX d 19), .int .u8 (cellX d 20), .int .u8 (cellX d 21), .int .u8 (cellX d 22), .int .u8 (cellX d 23), .int .u8 (cellX d 24), .int .u8 (cellX d 25), .int .u8 (cellX d 26), .int .u8 (cellX d 27), .int .u8 (cellX d 28), .int .u8 (cellX d 29), .int .u8 (cellX d 30), .int .u8 (cellX d 31)] : List Value).map vInt = rowL d 32 := rfl
@[simp high] theorem mapV_i8 (d : Rows') (i : Int) : ([.int .u8 (cellI d i 0), .int .u8 (cellI d i 1), .int .u8 (cellI d i 2), .int .u8 (cellI d i 3), .int .u8 (cellI d i 4), .int .u8 (cellI d i 5), .int .u8 (cellI d i 6), .int .u8 (cellI d i 7), .int .u8 (cellI d i 8), .int .u8 (cellI d i 9), .int .u8 (cellI d i 10), .int .u8 (cellI d i 11), .int .u8 (cellI d i 12), .int .u8 (cellI d i 13), .int .u8 (cellI d i 14), .int .u8 (cellI d i 15), .int .u8 (cellI d i 16), .int .u8 (cellI d i 17), .int .u8 (cellI d i 18), .int .u8 (cellI d i 19), .int .u8 (cellI d i 20), .int .u8 (cellI d i 21), .int .u8 (cellI d i 22), .int .u8 (cellI d i 23), .int .u8 (cellI d i 24), .int .u8 (cellI d i 25), .int .u8 (cellI d i 26), .int .u8 (cellI d i 27), .int .u8 (cellI d i 28), .int .u8 (cellI d i 29), .int .u8 (cellI d i 30), .int .u8 (cellI d i 31)] : List Value).map vInt = rowI8 d i := rfl
@[simp high] theorem rowL_z8 : rowL [[.int .u8 0, .int .u8 0, .int .u8 0, .int .u8 0, .int .u8 0, .int .u8 0, .int .u8 0, .int .u8 0, .int .u8 0, .int .u8 0, .int .u8 0, .int .u8 0, .int .u8 0, .int .u8 0, .int .u8 0, .int .u8 0, .int .u8 0, .int .u8 0, .int .u8 0, .int .u8 0, .int .u8 0, .int .u8 0, .int .u8 0, .int .u8 0, .int .u8 0, .int .u8 0, .int .u8 0, .int .u8 0, .int .u8 0, .int .u8 0, .int .u8 0, .int .u8 0]] 32 = List.replicate 32 0 := rfl
@[simp high] theorem mapV_z8 : ([.int .u8 0, .int .u8 0, .int .u8 0, .int .u8 0, .int .u8 0, .int .u8 0, .int .u8 0, .int .u8 0, .int .u8 0, .int .u8 0, .int .u8 0, .int .u8 0, .int .u8 0, .int .u8 0, .int .u8 0, .int .u8 0, .int .u8 0, .int .u8 0, .int .u8 0, .int .u8 0, .int .u8 0, .int .u8 0, .int .u8 0, .int .u8 0, .int .u8 0, .int .u8 0, .int .u8 0, .int .u8 0, .int .u8 0, .int .u8 0, .int .u8 0, .int .u8 0] : List Value).map vInt = List.replicate 32 0 := rfl
theorem rowI8_dgs {d : Rows'} {i : Int} (h0 : 0 ≤ i) (h1 : i < d.length) : rowI8 d i = (dgs d).getD i.toNat [] := by
  have hl : i.toNat < d.length := by omega
  have h2 : (dgs d).getD i.toNat [] = rowB d[i.toNat] := by simp [dgs, hl]
  rw [h2]
  refine List.map_congr_left fun k hk => ?_
  simp [cellI, cellV, rowI, hl]
end Go.Proofs

set_option linter.unusedSimpArgs false
set_option linter.unusedVariables false
namespace Go.Eng
open Go

/-! ### Sizes -/
def len27C : Ctr := { piece26C with fn := 80 }
def len27I : Inv := { key := 4, nv := 1, env := [(0, iv .i64 (.var 0)), (1, iv .i64 (.var 1)), (6, iv .i64 (.var 1000))], heap := [], inv := (fun ρ => ¬ pieceBad (ρ 0).i (ρ 1).i ∧ 0 ≤ (ρ 1000).i ∧ (ρ 1000).i ≤ (ρ 1).i ∧ ((ρ 1000).i = 0 ∨ (ρ 0).i * ((ρ 1000).i - 1) < (ρ 1).i)), mu := (fun ρ => ((ρ 1).i - (ρ 1000).i).toNat) }
/-! ### Products bit by bit -/
/-! ### Values of polynomials -/
end Go.Eng

set_option linter.unusedSimpArgs false
set_option linter.unusedVariables false
namespace Go.Eng
open Go Go.Proofs
/-- A piece argument: variables r .. r + 5. -/
def pieceArg (r : Nat) : SV := .agg [.vint .i64 (.var r), .vslice (r + 1) (.lit 0) (.var (r + 2)) (.var (r + 3)) 1]
def pieceHp (r : Nat) : SH := bHp (r + 1) (r + 4) (r + 5)
def pieceArgIn (ρ : Env) (r : Nat) : Prop := i64P (ρ r).i ∧ (ρ (r + 2)).i = (ρ (r + 4)).d.length ∧ (ρ (r + 2)).i ≤ (ρ (r + 3)).i ∧ (ρ (r + 2)).i ≤ 100000000 ∧ allB (ρ (r + 4)).d
def plenI (k s : Int) : Int := (s + k - 1).tdiv k
def ofPieceC : Ctr := { fn := 42, nv := 8, ip := [gIs 6], args := [iv .i64 (.var 0), bS 1], heap := [], ro := [bSHp 1, gHp 6 7], pre := fun ρ => (ρ 2).i = (ρ 4).d.length ∧ (ρ 2).i ≤ 100000000 ∧ allB (ρ 4).d ∧ gOk ρ 6 7 gS, alts := [
  { k := 1, ret := dgV 8, heap := [], post := fun ρ => rowL (ρ 8).d 32 = sha (pieceIn (ρ 0).i ++ bI (ρ 4).d) }] }
def chkE (k n t s l : Int) (D : List (List Int)) (i : Int) (m : List Int) : Int := if manOk k n t s l = false then 2 else if i < 0 ∨ t ≤ i then 2 else if (m.length : Int) ≠ plenI k s then 10 else if sha (pieceIn i ++ m) ≠ D.getD i.toNat [] then 20 else 0
def chkPre (ρ : Env) : Prop := i64P (ρ 0).i ∧ i64P (ρ 3).i ∧ (ρ 6).i = (ρ 8).d.length ∧ dgsOk (ρ 8).d ∧ pieceArgIn ρ 10
def chkAlts : List Alt := [{ k := 1, ret := iv .i64 (.var 18), heap := [], post := fun ρ => (ρ 18).i = chkE (ρ 0).i (ρ 1).i (ρ 2).i (ρ 3).i (ρ 6).i (dgs (ρ 8).d) (ρ 10).i (bI (ρ 14).d) }]
def checkPC : Ctr := { fn := 43, nv := 18, ip := [gIp 16], args := [manV, pieceArg 10], heap := [], ro := [dgsHp 5 8 9, pieceHp 10, gHp 16 17], pre := fun ρ => chkPre ρ ∧ gOk ρ 16 17 gR, alts := chkAlts }
def checkRC : Ctr := { fn := 44, nv := 18, ip := [gIs 16], args := [manV, pieceArg 10], heap := [], ro := [dgsHp 5 8 9, pieceHp 10, gHp 16 17], pre := fun ρ => chkPre ρ ∧ gOk ρ 16 17 gS, alts := chkAlts }
def lawChecksC : Ctr := { fn := 9, nv := 20, ip := [gIp 18, gIs 16, (1005, 7)], args := [manV, pieceArg 10], heap := [], ro := [dgsHp 5 8 9, pieceHp 10, gHp 16 17, gHp 18 19], pre := fun ρ => manIn ρ 0 ∧ (i64P (ρ 10).i ∧ (ρ 12).i = (ρ 14).d.length ∧ (ρ 12).i ≤ (ρ 13).i ∧ (ρ 12).i ≤ 140737488351232 ∧ allB (ρ 14).d) ∧ gOk ρ 16 17 gS ∧ gOk ρ 18 19 gR, alts := [lawTrue] }
end Go.Eng

set_option linter.unusedSimpArgs false
set_option linter.unusedVariables false
set_option maxRecDepth 100000
namespace Go.Proofs
open Go Go.Eng

def o_refBytes : Out := (.fresh 10 (.pre 0 (sg 0 [bv 9 9, bv 8 8, bv 7 7, bv 6 6, bg 5 5, bv 3 3, bv 2 2, bv 1 1, bv 0 0, bt 4 (r8 4)]) (.both (.fresh 11 (.post 0 0 (sg 0 [bv 9 9, bv 8 8, bv 7 7, bv 6 6, bg 5 5, bv 3 3, bv 2 2, bv 1 1, bv 0 0, bt 4 (r8 4)]) 11 (.br (.not (.var 11))
 (.ret 0 (sg 10 []))
 (.fresh 12 (.need (.cmp .leq (.tims (.lit 1) (.lit 39)) (.lit 140737488355328)) (.fresh 13 (.fresh 14 (.inv 0 15 (sg 1000 [bt 1004 (.dapp (.dapp (.rcons (.vint .u8 (.lit 77)) .rnil) (.dapp (.rcons (.vint .u8 (.lit 1)) .rnil) (.dapp (.rcons (.vint .u8 (.conv .u8 (.var 0))) .rnil) (.dapp (.rcons (.vint .u8 (.conv .u8 (.var 1))) .rnil) (.dapp (.rcons (.vint .u8 (.conv .u8 (.var 2))) .rnil) (.dapp (.rcons (.vint .u8 (.conv .u8 (.arith .shr .i64 (.var 3) (.lit 8)))) .rnil) (.rcons (.vint .u8 (.conv .u8 (.var 3))) .rnil))))))) (.c3 .xrows (.rcons (.vint .i64 (.var 0)) (.rcons (.vint .i64 (.var 1)) (.rcons (.vint .i64 (.var 2)) (.rcons (.vint .i64 (.var 3)) (.rcons (x8 0 4) (.rcons (x8 1 4) (.rcons (x8 2 4) (.rcons (x8 3 4) (.rcons (x8 4 4) (.rcons (x8 5 4) (.rcons (x8 6 4) (.rcons (x8 7 4) (.rcons (x8 8 4) (.rcons (x8 9 4) (.rcons (x8 10 4) (.rcons (x8 11 4) (.rcons (x8 12 4) (.rcons (x8 13 4) (.rcons (x8 14 4) (.rcons (x8 15 4) (.rcons (x8 16 4) (.rcons (x8 17 4) (.rcons (x8 18 4) (.rcons (x8 19 4) (.rcons (x8 20 4) (.rcons (x8 21 4) (.rcons (x8 22 4) (.rcons (x8 23 4) (.rcons (x8 24 4) (.rcons (x8 25 4) (.rcons (x8 26 4) (.rcons (x8 27 4) (.rcons (x8 28 4) (.rcons (x8 29 4) (.rcons (x8 30 4) (.rcons (x8 31 4) (.rcons (.vslice 5 (.lit 0) (.var 6) (.var 7) 32) .rnil))))))))))))))))))))))))))))))))))))) (.lit 4) (.lit 32))), bt 1005 (.lit 0), bv 1003 14, bt 1002 (.lit 39), bg 1001 13, bg 1000 10]) (.fresh 15 (.fresh 16 (.fresh 17 (.fresh 18 (.fresh 19 (.fresh 20 (.hyp 0 15 (.br (.cmp .lss (.var 20) (.var 2))
 (.need (.cmp .leq (.lit 0) (.var 20)) (.need (.cmp .lss (.var 20) (.var 6)) (.need (.cmp .lss (.var 20) (.dlen (.var 8))) (.fresh 21 (.need (.cmp .eql (.var 17) (.dlen (.var 19))) (.need (.cmp .leq (.tims (.lit 1) (.plus (.var 17) (.lit 32))) (.lit 140737488355328)) (.fresh 22 (.fresh 23 (.back 0 15 (sg 1000 [bt 1004 (.dapp (.var 19) (.dapp (.rcons (i8 8 20 0) .rnil) (.dapp (.rcons (i8 8 20 1) .rnil) (.dapp (.rcons (i8 8 20 2) .rnil) (.dapp (.rcons (i8 8 20 3) .rnil) (.dapp (.rcons (i8 8 20 4) .rnil) (.dapp (.rcons (i8 8 20 5) .rnil) (.dapp (.rcons (i8 8 20 6) .rnil) (.dapp (.rcons (i8 8 20 7) .rnil) (.dapp (.rcons (i8 8 20 8) .rnil) (.dapp (.rcons (i8 8 20 9) .rnil) (.dapp (.rcons (i8 8 20 10) .rnil) (.dapp (.rcons (i8 8 20 11) .rnil) (.dapp (.rcons (i8 8 20 12) .rnil) (.dapp (.rcons (i8 8 20 13) .rnil) (.dapp (.rcons (i8 8 20 14) .rnil) (.dapp (.rcons (i8 8 20 15) .rnil) (.dapp (.rcons (i8 8 20 16) .rnil) (.dapp (.rcons (i8 8 20 17) .rnil) (.dapp (.rcons (i8 8 20 18) .rnil) (.dapp (.rcons (i8 8 20 19) .rnil) (.dapp (.rcons (i8 8 20 20) .rnil) (.dapp (.rcons (i8 8 20 21) .rnil) (.dapp (.rcons (i8 8 20 22) .rnil) (.dapp (.rcons (i8 8 20 23) .rnil) (.dapp (.rcons (i8 8 20 24) .rnil) (.dapp (.rcons (i8 8 20 25) .rnil) (.dapp (.rcons (i8 8 20 26) .rnil) (.dapp (.rcons (i8 8 20 27) .rnil) (.dapp (.rcons (i8 8 20 28) .rnil) (.dapp (.rcons (i8 8 20 29) .rnil) (.dapp (.rcons (i8 8 20 30) .rnil) (.rcons (i8 8 20 31) .rnil))))))))))))))))))))))))))))))))), bt 1005 (.arith .add .i64 (.var 20) (.lit 1)), bv 1003 23, bt 1002 (.plus (.var 17) (.lit 32)), bg 1001 22, bg 1000 15]))))))))))
 (.ret 1 (sg 10 [bv 13 19, bv 12 18, bv 11 17, bg 10 16])))))))))))))))))) .top)))
theorem o_refBytes_eq : treeOf ⟨Tryd.prog, refBytesC, [validC], [refBytesI]⟩ 100000 Tryd.f36 = o_refBytes := by kernel_rfl
theorem refBytes_of (hd : ∀ c ∈ ([validC] : List Ctr), c.ok Tryd.prog) (h : ∀ ρ : Env, ρ.good → (refBytesC).pre ρ → o_refBytes.den ⟨Tryd.prog, refBytesC, [validC], [refBytesI]⟩ ρ) : (refBytesC).ok Tryd.prog :=
  ok_of_tree Tryd.func36 (fun a w => Tryd.call36 a w) hd 100000 (fun ρ hg hp => by rw [o_refBytes_eq]; exact h ρ hg hp)
def o_id : Out := (.fresh 12 (.fresh 13 (.pre 0 (sg 0 [bv 9 9, bv 8 8, bv 7 7, bv 6 6, bg 5 5, bv 3 3, bv 2 2, bv 1 1, bv 0 0, bt 4 (r8 4)]) (.both (.post 0 0 (sg 0 [bv 9 9, bv 8 8, bv 7 7, bv 6 6, bg 5 5, bv 3 3, bv 2 2, bv 1 1, bv 0 0, bt 4 (r8 4)]) 14 (.ret 0 (sg 12 [bt 13 (.lit 2), bt 12 z8]))) (.both (.fresh 14 (.fresh 15 (.fresh 16 (.fresh 17 (.post 0 1 (sg 0 [bv 9 9, bv 8 8, bv 7 7, bv 6 6, bg 5 5, bv 3 3, bv 2 2, bv 1 1, bv 0 0, bt 4 (r8 4)]) 14 (.know (.cmp .leq (.dlen (.var 17)) (.var 16)) (.pre 1 (sg 0 [bv 7 11, bv 5 16, bv 4 17, bv 3 16, bv 2 15, bt 1 (.lit 0), bg 0 14, bg 6 10]) (.both (.fresh 18 (.post 1 0 (sg 0 [bv 7 11, bv 5 16, bv 4 17, bv 3 16, bv 2 15, bt 1 (.lit 0), bg 0 14, bg 6 10]) 18 (.ret 0 (sg 12 [bt 13 (.lit 0), bt 12 (r8 18)])))) .top)))))))) .top)))))
theorem o_id_eq : treeOf ⟨Tryd.prog, idC, [encManC, sha256C], []⟩ 100000 Tryd.f39 = o_id := by kernel_rfl
theorem id_of (hd : ∀ c ∈ ([encManC, sha256C] : List Ctr), c.ok Tryd.prog) (h : ∀ ρ : Env, ρ.good → (idC).pre ρ → o_id.den ⟨Tryd.prog, idC, [encManC, sha256C], []⟩ ρ) : (idC).ok Tryd.prog :=
  ok_of_tree Tryd.func39 (fun a w => Tryd.call39 a w) hd 100000 (fun ρ hg hp => by rw [o_id_eq]; exact h ρ hg hp)
def o_refId : Out := (.fresh 12 (.fresh 13 (.pre 0 (sg 0 [bv 9 9, bv 8 8, bv 7 7, bv 6 6, bg 5 5, bv 3 3, bv 2 2, bv 1 1, bv 0 0, bt 4 (r8 4)]) (.both (.post 0 0 (sg 0 [bv 9 9, bv 8 8, bv 7 7, bv 6 6, bg 5 5, bv 3 3, bv 2 2, bv 1 1, bv 0 0, bt 4 (r8 4)]) 14 (.ret 0 (sg 12 [bt 13 (.lit 2), bt 12 z8]))) (.both (.fresh 14 (.fresh 15 (.fresh 16 (.fresh 17 (.post 0 1 (sg 0 [bv 9 9, bv 8 8, bv 7 7, bv 6 6, bg 5 5, bv 3 3, bv 2 2, bv 1 1, bv 0 0, bt 4 (r8 4)]) 14 (.pre 1 (sg 0 [bv 6 11, bv 4 16, bv 3 17, bv 2 16, bv 1 15, bg 0 14, bg 5 10]) (.both (.fresh 18 (.post 1 0 (sg 0 [bv 6 11, bv 4 16, bv 3 17, bv 2 16, bv 1 15, bg 0 14, bg 5 10]) 18 (.ret 0 (sg 12 [bt 13 (.lit 0), bt 12 (r8 18)])))) .top))))))) .top)))))
theorem o_refId_eq : treeOf ⟨Tryd.prog, refIdC, [refBytesC, sumRC], []⟩ 100000 Tryd.f40 = o_refId := by kernel_rfl
theorem refId_of (hd : ∀ c ∈ ([refBytesC, sumRC] : List Ctr), c.ok Tryd.prog) (h : ∀ ρ : Env, ρ.good → (refIdC).pre ρ → o_refId.den ⟨Tryd.prog, refIdC, [refBytesC, sumRC], []⟩ ρ) : (refIdC).ok Tryd.prog :=
  ok_of_tree Tryd.func40 (fun a w => Tryd.call40 a w) hd 100000 (fun ρ hg hp => by rw [o_refId_eq]; exact h ρ hg hp)
def o_lawEncodes : Out := (.fresh 14 (.need (.cmp .leq (.lit 0) (.var 6)) (.br (.cmp .gtr (.var 6) (.lit 400))
 (.pre 0 (sg 0 [bv 1 13, bg 0 12]) (.both (.post 0 0 (sg 0 [bv 1 13, bg 0 12]) 15 (.ret 0 (sg 14 []))) .top))
 (.pre 1 (sg 0 [bv 9 9, bv 8 8, bv 7 7, bv 6 6, bg 5 5, bv 3 3, bv 2 2, bv 1 1, bv 0 0, bt 4 (r8 4)]) (.both (.fresh 15 (.fresh 16 (.fresh 17 (.post 1 0 (sg 0 [bv 9 9, bv 8 8, bv 7 7, bv 6 6, bg 5 5, bv 3 3, bv 2 2, bv 1 1, bv 0 0, bt 4 (r8 4)]) 15 (.pre 2 (sg 0 [bv 9 16, bv 8 17, bv 7 16, bv 6 6, bg 5 15, bv 3 3, bv 2 2, bv 1 1, bv 0 0, bt 4 (s8 4)]) (.both (.post 2 0 (sg 0 [bv 9 16, bv 8 17, bv 7 16, bv 6 6, bg 5 15, bv 3 3, bv 2 2, bv 1 1, bv 0 0, bt 4 (s8 4)]) 18 (.pre 3 (sg 0 [bv 9 9, bv 8 8, bv 7 7, bv 6 6, bg 5 5, bv 3 3, bv 2 2, bv 1 1, bv 0 0, bt 4 (r8 4)]) (.both (.post 3 0 (sg 0 [bv 9 9, bv 8 8, bv 7 7, bv 6 6, bg 5 5, bv 3 3, bv 2 2, bv 1 1, bv 0 0, bt 4 (r8 4)]) 18 (.br (.not (.c2 .veq (.c1 .vbytes .dnil) (.c1 .vbytes .dnil)))
 (.both (.both (.both (.both (.both (.both (.stuck 7 0 0) .top) .top) .top) .top) .top) .top)
 (.both (.pre 1 (sg 0 [bv 9 9, bv 8 8, bv 7 7, bv 6 6, bg 5 5, bv 3 3, bv 2 2, bv 1 1, bv 0 0, bt 4 (r8 4)]) (.both (.fresh 18 (.fresh 19 (.fresh 20 (.post 1 0 (sg 0 [bv 9 9, bv 8 8, bv 7 7, bv 6 6, bg 5 5, bv 3 3, bv 2 2, bv 1 1, bv 0 0, bt 4 (r8 4)]) 18 (.both (.pre 4 (sg 0 [bv 9 19, bv 8 20, bv 7 19, bv 6 6, bg 5 18, bv 3 3, bv 2 2, bv 1 1, bv 0 0, bt 4 (s8 4)]) (.both (.fresh 21 (.post 4 0 (sg 0 [bv 9 19, bv 8 20, bv 7 19, bv 6 6, bg 5 18, bv 3 3, bv 2 2, bv 1 1, bv 0 0, bt 4 (s8 4)]) 21 (.both (.pre 5 (sg 0 [bv 9 9, bv 8 8, bv 7 7, bv 6 6, bg 5 5, bv 3 3, bv 2 2, bv 1 1, bv 0 0, bt 4 (r8 4)]) (.both (.fresh 22 (.post 5 0 (sg 0 [bv 9 9, bv 8 8, bv 7 7, bv 6 6, bg 5 5, bv 3 3, bv 2 2, bv 1 1, bv 0 0, bt 4 (r8 4)]) 22 (.br (.not (.beq (.cmp .eql (.var 21) (.lit 0)) (.var 22)))
 (.both (.both (.both (.stuck 7 0 0) .top) .top) .top)
 (.both (.pre 5 (sg 0 [bv 9 9, bv 8 8, bv 7 7, bv 6 6, bg 5 5, bv 3 3, bv 2 2, bv 1 1, bv 0 0, bt 4 (r8 4)]) (.both (.fresh 23 (.post 5 0 (sg 0 [bv 9 9, bv 8 8, bv 7 7, bv 6 6, bg 5 5, bv 3 3, bv 2 2, bv 1 1, bv 0 0, bt 4 (r8 4)]) 23 (.br (.not (.var 23))
 (.both (.pre 1 (sg 0 [bv 9 9, bv 8 8, bv 7 7, bv 6 6, bg 5 5, bv 3 3, bv 2 2, bv 1 1, bv 0 0, bt 4 (r8 4)]) (.both (.fresh 24 (.fresh 25 (.fresh 26 (.post 1 0 (sg 0 [bv 9 9, bv 8 8, bv 7 7, bv 6 6, bg 5 5, bv 3 3, bv 2 2, bv 1 1, bv 0 0, bt 4 (r8 4)]) 24 (.both (.pre 4 (sg 0 [bv 9 25, bv 8 26, bv 7 25, bv 6 6, bg 5 24, bv 3 3, bv 2 2, bv 1 1, bv 0 0, bt 4 (s8 4)]) (.both (.fresh 27 (.post 4 0 (sg 0 [bv 9 25, bv 8 26, bv 7 25, bv 6 6, bg 5 24, bv 3 3, bv 2 2, bv 1 1, bv 0 0, bt 4 (s8 4)]) 27 (.br (.cmp .neq (.var 27) (.lit 2))
 (.stuck 7 0 0)
 (.pre 1 (sg 0 [bv 9 9, bv 8 8, bv 7 7, bv 6 6, bg 5 5, bv 3 3, bv 2 2, bv 1 1, bv 0 0, bt 4 (r8 4)]) (.both (.fresh 28 (.fresh 29 (.fresh 30 (.post 1 0 (sg 0 [bv 9 9, bv 8 8, bv 7 7, bv 6 6, bg 5 5, bv 3 3, bv 2 2, bv 1 1, bv 0 0, bt 4 (r8 4)]) 28 (.pre 6 (sg 0 [bv 11 13, bv 9 29, bv 8 30, bv 7 29, bv 6 6, bg 5 28, bv 3 3, bv 2 2, bv 1 1, bv 0 0, bt 4 (s8 4), bg 10 12]) (.both (.fresh 31 (.fresh 32 (.post 6 0 (sg 0 [bv 11 13, bv 9 29, bv 8 30, bv 7 29, bv 6 6, bg 5 28, bv 3 3, bv 2 2, bv 1 1, bv 0 0, bt 4 (s8 4), bg 10 12]) 31 (.fresh 33 (.pre 7 (sg 0 [bv 11 11, bv 9 9, bv 8 8, bv 7 7, bv 6 6, bg 5 5, bv 3 3, bv 2 2, bv 1 1, bv 0 0, bt 4 (r8 4), bg 10 10]) (.both (.fresh 34 (.fresh 35 (.post 7 0 (sg 0 [bv 11 11, bv 9 9, bv 8 8, bv 7 7, bv 6 6, bg 5 5, bv 3 3, bv 2 2, bv 1 1, bv 0 0, bt 4 (r8 4), bg 10 10]) 34 (.fresh 36 (.br (.cmp .eql (.var 32) (.var 35))
 (.br (.c2 .req (r8 31) (r8 34))
 (.pre 0 (sg 0 [bv 1 13, bg 0 12]) (.both (.post 0 0 (sg 0 [bv 1 13, bg 0 12]) 37 (.ret 0 (sg 14 []))) .top))
 (.stuck 7 0 0))
 (.stuck 7 0 0)))))) .top)))))) .top)))))) .top))))) .top)) .top))))) .top)) .top)
 (.both (.both (.pre 1 (sg 0 [bv 9 9, bv 8 8, bv 7 7, bv 6 6, bg 5 5, bv 3 3, bv 2 2, bv 1 1, bv 0 0, bt 4 (r8 4)]) (.both (.fresh 24 (.fresh 25 (.fresh 26 (.post 1 0 (sg 0 [bv 9 9, bv 8 8, bv 7 7, bv 6 6, bg 5 5, bv 3 3, bv 2 2, bv 1 1, bv 0 0, bt 4 (r8 4)]) 24 (.pre 6 (sg 0 [bv 11 13, bv 9 25, bv 8 26, bv 7 25, bv 6 6, bg 5 24, bv 3 3, bv 2 2, bv 1 1, bv 0 0, bt 4 (s8 4), bg 10 12]) (.both (.fresh 27 (.fresh 28 (.post 6 0 (sg 0 [bv 11 13, bv 9 25, bv 8 26, bv 7 25, bv 6 6, bg 5 24, bv 3 3, bv 2 2, bv 1 1, bv 0 0, bt 4 (s8 4), bg 10 12]) 27 (.fresh 29 (.pre 7 (sg 0 [bv 11 11, bv 9 9, bv 8 8, bv 7 7, bv 6 6, bg 5 5, bv 3 3, bv 2 2, bv 1 1, bv 0 0, bt 4 (r8 4), bg 10 10]) (.both (.fresh 30 (.fresh 31 (.post 7 0 (sg 0 [bv 11 11, bv 9 9, bv 8 8, bv 7 7, bv 6 6, bg 5 5, bv 3 3, bv 2 2, bv 1 1, bv 0 0, bt 4 (r8 4), bg 10 10]) 30 (.fresh 32 (.br (.cmp .eql (.var 28) (.var 31))
 (.br (.c2 .req (r8 27) (r8 30))
 (.pre 0 (sg 0 [bv 1 13, bg 0 12]) (.both (.post 0 0 (sg 0 [bv 1 13, bg 0 12]) 33 (.ret 0 (sg 14 []))) .top))
 (.stuck 7 0 0))
 (.stuck 7 0 0)))))) .top)))))) .top)))))) .top)) .top) .top)))) .top)) .top)))) .top)) .top))) .top)) .top))))) .top)) .top))) (.both (.fresh 18 (.fresh 19 (.fresh 20 (.fresh 21 (.post 3 1 (sg 0 [bv 9 9, bv 8 8, bv 7 7, bv 6 6, bg 5 5, bv 3 3, bv 2 2, bv 1 1, bv 0 0, bt 4 (r8 4)]) 18 (.both (.both (.both (.both (.both (.both (.stuck 7 0 0) .top) .top) .top) .top) .top) .top)))))) .top)))) (.both (.fresh 18 (.fresh 19 (.fresh 20 (.fresh 21 (.post 2 1 (sg 0 [bv 9 16, bv 8 17, bv 7 16, bv 6 6, bg 5 15, bv 3 3, bv 2 2, bv 1 1, bv 0 0, bt 4 (s8 4)]) 18 (.pre 3 (sg 0 [bv 9 9, bv 8 8, bv 7 7, bv 6 6, bg 5 5, bv 3 3, bv 2 2, bv 1 1, bv 0 0, bt 4 (r8 4)]) (.both (.post 3 0 (sg 0 [bv 9 9, bv 8 8, bv 7 7, bv 6 6, bg 5 5, bv 3 3, bv 2 2, bv 1 1, bv 0 0, bt 4 (r8 4)]) 22 (.both (.both (.both (.both (.both (.both (.stuck 7 0 0) .top) .top) .top) .top) .top) .top)) (.both (.fresh 22 (.fresh 23 (.fresh 24 (.fresh 25 (.post 3 1 (sg 0 [bv 9 9, bv 8 8, bv 7 7, bv 6 6, bg 5 5, bv 3 3, bv 2 2, bv 1 1, bv 0 0, bt 4 (r8 4)]) 22 (.both (.need (.cmp .leq (.lit 0) (.var 19)) (.need (.cmp .leq (.var 19) (.dlen (.var 21))) (.both (.need (.cmp .leq (.lit 0) (.var 23)) (.need (.cmp .leq (.var 23) (.dlen (.var 25))) (.br (.not (.c2 .veq (.c1 .vbytes (.dtake (.var 21) (.var 19))) (.c1 .vbytes (.dtake (.var 25) (.var 23)))))
 (.both (.both (.both (.both (.both (.both (.stuck 7 0 0) .top) .top) .top) .top) .top) .top)
 (.both (.pre 1 (sg 0 [bv 9 9, bv 8 8, bv 7 7, bv 6 6, bg 5 5, bv 3 3, bv 2 2, bv 1 1, bv 0 0, bt 4 (r8 4)]) (.both (.fresh 26 (.fresh 27 (.fresh 28 (.post 1 0 (sg 0 [bv 9 9, bv 8 8, bv 7 7, bv 6 6, bg 5 5, bv 3 3, bv 2 2, bv 1 1, bv 0 0, bt 4 (r8 4)]) 26 (.both (.pre 4 (sg 0 [bv 9 27, bv 8 28, bv 7 27, bv 6 6, bg 5 26, bv 3 3, bv 2 2, bv 1 1, bv 0 0, bt 4 (s8 4)]) (.both (.fresh 29 (.post 4 0 (sg 0 [bv 9 27, bv 8 28, bv 7 27, bv 6 6, bg 5 26, bv 3 3, bv 2 2, bv 1 1, bv 0 0, bt 4 (s8 4)]) 29 (.both (.pre 5 (sg 0 [bv 9 9, bv 8 8, bv 7 7, bv 6 6, bg 5 5, bv 3 3, bv 2 2, bv 1 1, bv 0 0, bt 4 (r8 4)]) (.both (.fresh 30 (.post 5 0 (sg 0 [bv 9 9, bv 8 8, bv 7 7, bv 6 6, bg 5 5, bv 3 3, bv 2 2, bv 1 1, bv 0 0, bt 4 (r8 4)]) 30 (.br (.not (.beq (.cmp .eql (.var 29) (.lit 0)) (.var 30)))
 (.both (.both (.both (.stuck 7 0 0) .top) .top) .top)
 (.both (.pre 5 (sg 0 [bv 9 9, bv 8 8, bv 7 7, bv 6 6, bg 5 5, bv 3 3, bv 2 2, bv 1 1, bv 0 0, bt 4 (r8 4)]) (.both (.fresh 31 (.post 5 0 (sg 0 [bv 9 9, bv 8 8, bv 7 7, bv 6 6, bg 5 5, bv 3 3, bv 2 2, bv 1 1, bv 0 0, bt 4 (r8 4)]) 31 (.br (.not (.var 31))
 (.both (.pre 1 (sg 0 [bv 9 9, bv 8 8, bv 7 7, bv 6 6, bg 5 5, bv 3 3, bv 2 2, bv 1 1, bv 0 0, bt 4 (r8 4)]) (.both (.fresh 32 (.fresh 33 (.fresh 34 (.post 1 0 (sg 0 [bv 9 9, bv 8 8, bv 7 7, bv 6 6, bg 5 5, bv 3 3, bv 2 2, bv 1 1, bv 0 0, bt 4 (r8 4)]) 32 (.both (.pre 4 (sg 0 [bv 9 33, bv 8 34, bv 7 33, bv 6 6, bg 5 32, bv 3 3, bv 2 2, bv 1 1, bv 0 0, bt 4 (s8 4)]) (.both (.fresh 35 (.post 4 0 (sg 0 [bv 9 33, bv 8 34, bv 7 33, bv 6 6, bg 5 32, bv 3 3, bv 2 2, bv 1 1, bv 0 0, bt 4 (s8 4)]) 35 (.br (.cmp .neq (.var 35) (.lit 2))
 (.stuck 7 0 0)
 (.pre 1 (sg 0 [bv 9 9, bv 8 8, bv 7 7, bv 6 6, bg 5 5, bv 3 3, bv 2 2, bv 1 1, bv 0 0, bt 4 (r8 4)]) (.both (.fresh 36 (.fresh 37 (.fresh 38 (.post 1 0 (sg 0 [bv 9 9, bv 8 8, bv 7 7, bv 6 6, bg 5 5, bv 3 3, bv 2 2, bv 1 1, bv 0 0, bt 4 (r8 4)]) 36 (.pre 6 (sg 0 [bv 11 13, bv 9 37, bv 8 38, bv 7 37, bv 6 6, bg 5 36, bv 3 3, bv 2 2, bv 1 1, bv 0 0, bt 4 (s8 4), bg 10 12]) (.both (.fresh 39 (.fresh 40 (.post 6 0 (sg 0 [bv 11 13, bv 9 37, bv 8 38, bv 7 37, bv 6 6, bg 5 36, bv 3 3, bv 2 2, bv 1 1, bv 0 0, bt 4 (s8 4), bg 10 12]) 39 (.fresh 41 (.pre 7 (sg 0 [bv 11 11, bv 9 9, bv 8 8, bv 7 7, bv 6 6, bg 5 5, bv 3 3, bv 2 2, bv 1 1, bv 0 0, bt 4 (r8 4), bg 10 10]) (.both (.fresh 42 (.fresh 43 (.post 7 0 (sg 0 [bv 11 11, bv 9 9, bv 8 8, bv 7 7, bv 6 6, bg 5 5, bv 3 3, bv 2 2, bv 1 1, bv 0 0, bt 4 (r8 4), bg 10 10]) 42 (.fresh 44 (.br (.cmp .eql (.var 40) (.var 43))
 (.br (.c2 .req (r8 39) (r8 42))
 (.pre 0 (sg 0 [bv 1 13, bg 0 12]) (.both (.post 0 0 (sg 0 [bv 1 13, bg 0 12]) 45 (.ret 0 (sg 14 []))) .top))
 (.stuck 7 0 0))
 (.stuck 7 0 0)))))) .top)))))) .top)))))) .top))))) .top)) .top))))) .top)) .top)
 (.both (.both (.pre 1 (sg 0 [bv 9 9, bv 8 8, bv 7 7, bv 6 6, bg 5 5, bv 3 3, bv 2 2, bv 1 1, bv 0 0, bt 4 (r8 4)]) (.both (.fresh 32 (.fresh 33 (.fresh 34 (.post 1 0 (sg 0 [bv 9 9, bv 8 8, bv 7 7, bv 6 6, bg 5 5, bv 3 3, bv 2 2, bv 1 1, bv 0 0, bt 4 (r8 4)]) 32 (.pre 6 (sg 0 [bv 11 13, bv 9 33, bv 8 34, bv 7 33, bv 6 6, bg 5 32, bv 3 3, bv 2 2, bv 1 1, bv 0 0, bt 4 (s8 4), bg 10 12]) (.both (.fresh 35 (.fresh 36 (.post 6 0 (sg 0 [bv 11 13, bv 9 33, bv 8 34, bv 7 33, bv 6 6, bg 5 32, bv 3 3, bv 2 2, bv 1 1, bv 0 0, bt 4 (s8 4), bg 10 12]) 35 (.fresh 37 (.pre 7 (sg 0 [bv 11 11, bv 9 9, bv 8 8, bv 7 7, bv 6 6, bg 5 5, bv 3 3, bv 2 2, bv 1 1, bv 0 0, bt 4 (r8 4), bg 10 10]) (.both (.fresh 38 (.fresh 39 (.post 7 0 (sg 0 [bv 11 11, bv 9 9, bv 8 8, bv 7 7, bv 6 6, bg 5 5, bv 3 3, bv 2 2, bv 1 1, bv 0 0, bt 4 (r8 4), bg 10 10]) 38 (.fresh 40 (.br (.cmp .eql (.var 36) (.var 39))
 (.br (.c2 .req (r8 35) (r8 38))
 (.pre 0 (sg 0 [bv 1 13, bg 0 12]) (.both (.post 0 0 (sg 0 [bv 1 13, bg 0 12]) 41 (.ret 0 (sg 14 []))) .top))
 (.stuck 7 0 0))
 (.stuck 7 0 0)))))) .top)))))) .top)))))) .top)) .top) .top)))) .top)) .top)))) .top)) .top))) .top)) .top))))) .top)) .top)))) .top))) (.both (.need (.cmp .leq (.lit 0) (.var 23)) (.need (.cmp .leq (.var 23) (.dlen (.var 25))) (.both (.need (.cmp .leq (.lit 0) (.var 19)) (.need (.cmp .leq (.var 19) (.dlen (.var 21))) (.br (.not (.c2 .veq (.c1 .vbytes (.dtake (.var 21) (.var 19))) (.c1 .vbytes (.dtake (.var 25) (.var 23)))))
 (.both (.both (.both (.both (.both (.both (.stuck 7 0 0) .top) .top) .top) .top) .top) .top)
 (.both (.pre 1 (sg 0 [bv 9 9, bv 8 8, bv 7 7, bv 6 6, bg 5 5, bv 3 3, bv 2 2, bv 1 1, bv 0 0, bt 4 (r8 4)]) (.both (.fresh 26 (.fresh 27 (.fresh 28 (.post 1 0 (sg 0 [bv 9 9, bv 8 8, bv 7 7, bv 6 6, bg 5 5, bv 3 3, bv 2 2, bv 1 1, bv 0 0, bt 4 (r8 4)]) 26 (.both (.pre 4 (sg 0 [bv 9 27, bv 8 28, bv 7 27, bv 6 6, bg 5 26, bv 3 3, bv 2 2, bv 1 1, bv 0 0, bt 4 (s8 4)]) (.both (.fresh 29 (.post 4 0 (sg 0 [bv 9 27, bv 8 28, bv 7 27, bv 6 6, bg 5 26, bv 3 3, bv 2 2, bv 1 1, bv 0 0, bt 4 (s8 4)]) 29 (.both (.pre 5 (sg 0 [bv 9 9, bv 8 8, bv 7 7, bv 6 6, bg 5 5, bv 3 3, bv 2 2, bv 1 1, bv 0 0, bt 4 (r8 4)]) (.both (.fresh 30 (.post 5 0 (sg 0 [bv 9 9, bv 8 8, bv 7 7, bv 6 6, bg 5 5, bv 3 3, bv 2 2, bv 1 1, bv 0 0, bt 4 (r8 4)]) 30 (.br (.not (.beq (.cmp .eql (.var 29) (.lit 0)) (.var 30)))
 (.both (.both (.both (.stuck 7 0 0) .top) .top) .top)
 (.both (.pre 5 (sg 0 [bv 9 9, bv 8 8, bv 7 7, bv 6 6, bg 5 5, bv 3 3, bv 2 2, bv 1 1, bv 0 0, bt 4 (r8 4)]) (.both (.fresh 31 (.post 5 0 (sg 0 [bv 9 9, bv 8 8, bv 7 7, bv 6 6, bg 5 5, bv 3 3, bv 2 2, bv 1 1, bv 0 0, bt 4 (r8 4)]) 31 (.br (.not (.var 31))
 (.both (.pre 1 (sg 0 [bv 9 9, bv 8 8, bv 7 7, bv 6 6, bg 5 5, bv 3 3, bv 2 2, bv 1 1, bv 0 0, bt 4 (r8 4)]) (.both (.fresh 32 (.fresh 33 (.fresh 34 (.post 1 0 (sg 0 [bv 9 9, bv 8 8, bv 7 7, bv 6 6, bg 5 5, bv 3 3, bv 2 2, bv 1 1, bv 0 0, bt 4 (r8 4)]) 32 (.both (.pre 4 (sg 0 [bv 9 33, bv 8 34, bv 7 33, bv 6 6, bg 5 32, bv 3 3, bv 2 2, bv 1 1, bv 0 0, bt 4 (s8 4)]) (.both (.fresh 35 (.post 4 0 (sg 0 [bv 9 33, bv 8 34, bv 7 33, bv 6 6, bg 5 32, bv 3 3, bv 2 2, bv 1 1, bv 0 0, bt 4 (s8 4)]) 35 (.br (.cmp .neq (.var 35) (.lit 2))
 (.stuck 7 0 0)
 (.pre 1 (sg 0 [bv 9 9, bv 8 8, bv 7 7, bv 6 6, bg 5 5, bv 3 3, bv 2 2, bv 1 1, bv 0 0, bt 4 (r8 4)]) (.both (.fresh 36 (.fresh 37 (.fresh 38 (.post 1 0 (sg 0 [bv 9 9, bv 8 8, bv 7 7, bv 6 6, bg 5 5, bv 3 3, bv 2 2, bv 1 1, bv 0 0, bt 4 (r8 4)]) 36 (.pre 6 (sg 0 [bv 11 13, bv 9 37, bv 8 38, bv 7 37, bv 6 6, bg 5 36, bv 3 3, bv 2 2, bv 1 1, bv 0 0, bt 4 (s8 4), bg 10 12]) (.both (.fresh 39 (.fresh 40 (.post 6 0 (sg 0 [bv 11 13, bv 9 37, bv 8 38, bv 7 37, bv 6 6, bg 5 36, bv 3 3, bv 2 2, bv 1 1, bv 0 0, bt 4 (s8 4), bg 10 12]) 39 (.fresh 41 (.pre 7 (sg 0 [bv 11 11, bv 9 9, bv 8 8, bv 7 7, bv 6 6, bg 5 5, bv 3 3, bv 2 2, bv 1 1, bv 0 0, bt 4 (r8 4), bg 10 10]) (.both (.fresh 42 (.fresh 43 (.post 7 0 (sg 0 [bv 11 11, bv 9 9, bv 8 8, bv 7 7, bv 6 6, bg 5 5, bv 3 3, bv 2 2, bv 1 1, bv 0 0, bt 4 (r8 4), bg 10 10]) 42 (.fresh 44 (.br (.cmp .eql (.var 40) (.var 43))
 (.br (.c2 .req (r8 39) (r8 42))
 (.pre 0 (sg 0 [bv 1 13, bg 0 12]) (.both (.post 0 0 (sg 0 [bv 1 13, bg 0 12]) 45 (.ret 0 (sg 14 []))) .top))
 (.stuck 7 0 0))
 (.stuck 7 0 0)))))) .top)))))) .top)))))) .top))))) .top)) .top))))) .top)) .top)
 (.both (.both (.pre 1 (sg 0 [bv 9 9, bv 8 8, bv 7 7, bv 6 6, bg 5 5, bv 3 3, bv 2 2, bv 1 1, bv 0 0, bt 4 (r8 4)]) (.both (.fresh 32 (.fresh 33 (.fresh 34 (.post 1 0 (sg 0 [bv 9 9, bv 8 8, bv 7 7, bv 6 6, bg 5 5, bv 3 3, bv 2 2, bv 1 1, bv 0 0, bt 4 (r8 4)]) 32 (.pre 6 (sg 0 [bv 11 13, bv 9 33, bv 8 34, bv 7 33, bv 6 6, bg 5 32, bv 3 3, bv 2 2, bv 1 1, bv 0 0, bt 4 (s8 4), bg 10 12]) (.both (.fresh 35 (.fresh 36 (.post 6 0 (sg 0 [bv 11 13, bv 9 33, bv 8 34, bv 7 33, bv 6 6, bg 5 32, bv 3 3, bv 2 2, bv 1 1, bv 0 0, bt 4 (s8 4), bg 10 12]) 35 (.fresh 37 (.pre 7 (sg 0 [bv 11 11, bv 9 9, bv 8 8, bv 7 7, bv 6 6, bg 5 5, bv 3 3, bv 2 2, bv 1 1, bv 0 0, bt 4 (r8 4), bg 10 10]) (.both (.fresh 38 (.fresh 39 (.post 7 0 (sg 0 [bv 11 11, bv 9 9, bv 8 8, bv 7 7, bv 6 6, bg 5 5, bv 3 3, bv 2 2, bv 1 1, bv 0 0, bt 4 (r8 4), bg 10 10]) 38 (.fresh 40 (.br (.cmp .eql (.var 36) (.var 39))
 (.br (.c2 .req (r8 35) (r8 38))
 (.pre 0 (sg 0 [bv 1 13, bg 0 12]) (.both (.post 0 0 (sg 0 [bv 1 13, bg 0 12]) 41 (.ret 0 (sg 14 []))) .top))
 (.stuck 7 0 0))
 (.stuck 7 0 0)))))) .top)))))) .top)))))) .top)) .top) .top)))) .top)) .top)))) .top)) .top))) .top)) .top))))) .top)) .top)))) .top))) .top))))))) .top)))))))) .top))))))) .top)))))
theorem o_lawEncodes_eq : treeOf ⟨Tryd.prog, lawEncodesC, [knownC, ownC, encManC, refBytesC, checkMC, validC, idC, refIdC], []⟩ 100000 Tryd.f8 = o_lawEncodes := by kernel_rfl
theorem lawEncodes_of (hd : ∀ c ∈ ([knownC, ownC, encManC, refBytesC, checkMC, validC, idC, refIdC] : List Ctr), c.ok Tryd.prog) (h : ∀ ρ : Env, ρ.good → (lawEncodesC).pre ρ → o_lawEncodes.den ⟨Tryd.prog, lawEncodesC, [knownC, ownC, encManC, refBytesC, checkMC, validC, idC, refIdC], []⟩ ρ) : (lawEncodesC).ok Tryd.prog :=
  ok_of_tree Tryd.func8 (fun a w => Tryd.call8 a w) hd 100000 (fun ρ hg hp => by rw [o_lawEncodes_eq]; exact h ρ hg hp)
end Go.Proofs

set_option linter.unusedSimpArgs false
set_option linter.unusedVariables false
set_option maxRecDepth 100000
namespace Go.Proofs
open Go Go.Eng
theorem log_exp : ∀ i : Fin 255, logL.getD (expL.getD i.val 0).toNat 0 = i.val := by decide +kernel
theorem exp_log : ∀ a : Fin 256, a.val ≠ 0 → expL.getD (logL.getD a.val 0).toNat 0 = a.val := by decide +kernel
theorem exp_per : ∀ i : Fin 255, expL.getD (i.val + 255) 0 = expL.getD i.val 0 := by decide +kernel
end Go.Proofs

set_option linter.unusedSimpArgs false
set_option linter.unusedVariables false
namespace Go.Proofs
open Go Go.Eng

abbrev F := BitVec 8
def toF (x : Int) : F := BitVec.ofInt 8 x
def ofF (x : F) : Int := (x.toNat : Nat)
def isB (x : Int) : Prop := 0 ≤ x ∧ x < 256
theorem ofF_isB {x : F} : isB (ofF x) := ⟨Int.natCast_nonneg _, by have := x.isLt; unfold ofF; omega⟩
theorem toF_toNat {x : Int} (h : isB x) : (toF x).toNat = x.toNat := by
  obtain ⟨h0, h1⟩ := h
  unfold toF
  rw [BitVec.toNat_ofInt]
  omega
theorem ofF_toF {x : Int} (h : isB x) : ofF (toF x) = x := by
  unfold ofF
  rw [toF_toNat h]
  obtain ⟨h0, h1⟩ := h
  omega
theorem toF_inj {x y : Int} (hx : isB x) (hy : isB y) (h : toF x = toF y) : x = y := by rw [← ofF_toF hx, ← ofF_toF hy, h]
theorem toF_eq_zero {x : Int} (h : isB x) : toF x = 0 ↔ x = 0 := ⟨fun e => toF_inj h ⟨by omega, by omega⟩ e, fun e => by rw [e]; rfl⟩
theorem xorB_F {x y : Int} : xorB x y = ofF (toF x ^^^ toF y) := by
  have h : (BitVec.ofInt 8 x ^^^ BitVec.ofInt 8 y).toNat < 256 := (BitVec.ofInt 8 x ^^^ BitVec.ofInt 8 y).isLt
  unfold xorB arithOf ofF toF
  show IntKind.u8.wrap _ = _
  have hb : IntKind.u8.bits = 8 := rfl
  rw [hb]
  generalize (BitVec.ofInt 8 x ^^^ BitVec.ofInt 8 y).toNat = z at h ⊢
  simp only [IntKind.wrap, IntKind.bits, IntKind.signed]
  simp
  omega
/-! ### Powers and exponents -/
def expF (n : Nat) : F := BitVec.ofNat 8 (expL.getD (n % 255) 0).toNat
def logF (x : F) : Nat := (logL.getD x.toNat 0).toNat
def fmul (x y : F) : F := if x = 0 ∨ y = 0 then 0 else expF (logF x + logF y)
theorem expF_mod {n : Nat} : expF (n % 255) = expF n := by unfold expF; rw [Nat.mod_mod]
theorem expF_congr {n m : Nat} (h : n % 255 = m % 255) : expF n = expF m := by rw [← expF_mod, h, expF_mod]
theorem expF_toNat {n : Nat} : (expF n).toNat = (expL.getD (n % 255) 0).toNat := by
  have h := expL_range ⟨n % 255, by omega⟩
  simp only at h
  unfold expF
  rw [BitVec.toNat_ofNat]
  omega
theorem expF_ne {n : Nat} : expF n ≠ 0 := fun h => by
  have h1 := congrArg BitVec.toNat h
  rw [expF_toNat] at h1
  have h2 := expL_range ⟨n % 255, by omega⟩
  simp only at h2
  rw [show (0 : F).toNat = 0 by rfl] at h1
  omega
theorem logF_lt {x : F} : logF x < 255 := by
  have := logL_range ⟨x.toNat, x.isLt⟩
  simp only at this
  unfold logF
  omega
theorem exp_logF {x : F} (h : x ≠ 0) : expF (logF x) = x := by
  apply BitVec.eq_of_toNat_eq
  have h0 : x.toNat ≠ 0 := fun e => h (BitVec.eq_of_toNat_eq (by rw [e]; rfl))
  have h1 := exp_log ⟨x.toNat, x.isLt⟩ h0
  simp only at h1
  rw [expF_toNat, Nat.mod_eq_of_lt logF_lt, logF, h1]
  omega
theorem log_expF {n : Nat} : logF (expF n) = n % 255 := by
  have h := log_exp ⟨n % 255, by omega⟩
  simp only at h
  unfold logF
  rw [expF_toNat, h]
  omega
theorem expF_zero : expF 0 = 1 := by decide
/-! ### Products -/
theorem fmul_comm {x y : F} : fmul x y = fmul y x := by
  unfold fmul
  by_cases hx : x = 0
  · simp [hx]
  · by_cases hy : y = 0
    · simp [hy]
    · rw [if_neg (not_or.2 ⟨hx, hy⟩), if_neg (not_or.2 ⟨hy, hx⟩), Nat.add_comm]
theorem fmul_zero {x : F} : fmul x 0 = 0 := by simp [fmul]
theorem zero_fmul {x : F} : fmul 0 x = 0 := by simp [fmul]
theorem fmul_ne {x y : F} (hx : x ≠ 0) (hy : y ≠ 0) : fmul x y = expF (logF x + logF y) := by rw [fmul, if_neg (not_or.2 ⟨hx, hy⟩)]
theorem fmul_exp {n m : Nat} : fmul (expF n) (expF m) = expF (n + m) := by
  rw [fmul_ne expF_ne expF_ne, log_expF, log_expF]
  exact expF_congr (by omega)
theorem fmul_one {x : F} : fmul x 1 = x := by
  by_cases h : x = 0
  · rw [h, zero_fmul]
  · rw [← expF_zero]; conv => lhs; arg 1; rw [← exp_logF h]
    rw [fmul_exp, Nat.add_zero, exp_logF h]
theorem one_fmul {x : F} : fmul 1 x = x := by rw [fmul_comm, fmul_one]
theorem exists_exp {x : F} (h : x ≠ 0) : ∃ n, n < 255 ∧ x = expF n := ⟨logF x, logF_lt, (exp_logF h).symm⟩
theorem fmul_assoc {x y z : F} : fmul (fmul x y) z = fmul x (fmul y z) := by
  by_cases hx : x = 0
  · rw [hx, zero_fmul, zero_fmul, zero_fmul]
  by_cases hy : y = 0
  · rw [hy, fmul_zero, zero_fmul, fmul_zero]
  by_cases hz : z = 0
  · rw [hz, fmul_zero, fmul_zero, fmul_zero]
  obtain ⟨a, _, rfl⟩ := exists_exp hx
  obtain ⟨b, _, rfl⟩ := exists_exp hy
  obtain ⟨c, _, rfl⟩ := exists_exp hz
  rw [fmul_exp, fmul_exp, fmul_exp, fmul_exp, Nat.add_assoc]
/-! ### Sums -/
def xt (x : F) : F := x <<< 1 ^^^ (if x.msb then 29#8 else 0#8)
theorem fmul_two' : ∀ i : Fin 256, fmul (BitVec.ofFin i) 2 = xt (BitVec.ofFin i) := by decide +kernel
theorem fmul_two {x : F} : fmul x 2 = xt x := fmul_two' x.toFin
theorem xt_xor {x y : F} : xt (x ^^^ y) = xt x ^^^ xt y := by
  unfold xt
  rw [BitVec.shiftLeft_xor_distrib, BitVec.msb_xor]
  have h1 : ∀ a b c : F, a ^^^ b ^^^ c = a ^^^ c ^^^ b := fun a b c => by rw [BitVec.xor_assoc, BitVec.xor_comm b c, ← BitVec.xor_assoc]
  cases x.msb <;> cases y.msb
  · simp
  · simp [BitVec.xor_assoc]
  · simp [h1 (x <<< 1) (29#8) (y <<< 1)]
  · simp only [bne_self_eq_false, Bool.false_eq_true, if_true, if_false, BitVec.xor_zero]
    rw [h1 (x <<< 1) (29#8), BitVec.xor_assoc (x <<< 1), BitVec.xor_assoc (y <<< 1), BitVec.xor_self, BitVec.xor_zero]
theorem fmul_xor_exp {x y : F} : ∀ n : Nat, fmul (x ^^^ y) (expF n) = fmul x (expF n) ^^^ fmul y (expF n)
  | 0 => by rw [expF_zero, fmul_one, fmul_one, fmul_one]
  | n + 1 => by
    have he : expF (n + 1) = fmul (expF n) 2 := by
      have : (2 : F) = expF 1 := by decide
      rw [this, fmul_exp]
    rw [he, ← fmul_assoc, ← fmul_assoc, ← fmul_assoc, fmul_xor_exp n, fmul_two, fmul_two, fmul_two, xt_xor]
theorem fmul_xor {x y z : F} : fmul (x ^^^ y) z = fmul x z ^^^ fmul y z := by
  by_cases hz : z = 0
  · rw [hz, fmul_zero, fmul_zero, fmul_zero]; rfl
  · obtain ⟨n, _, rfl⟩ := exists_exp hz
    exact fmul_xor_exp n
theorem xor_fmul {x y z : F} : fmul z (x ^^^ y) = fmul z x ^^^ fmul z y := by rw [fmul_comm, fmul_xor, fmul_comm, fmul_comm (x := y)]

/-! ### The tables' functions -/
theorem expT_F {i : Nat} (h : i < 510) : expT i = ofF (expF i) := by
  rw [expT_eq h, ofF, expF_toNat]
  by_cases hi : i < 255
  · rw [Nat.mod_eq_of_lt hi]
    have := expL_range ⟨i, h⟩
    simp only at this
    omega
  · have h1 := exp_per ⟨i - 255, by omega⟩
    have h2 := expL_range ⟨i, h⟩
    simp only at h1 h2
    rw [show i - 255 + 255 = i by omega] at h1
    rw [show i % 255 = i - 255 by omega, ← h1]
    omega
theorem logT_F {a : Int} (h : isB a) : logT a.toNat = (logF (toF a) : Nat) := by
  obtain ⟨h0, h1⟩ := h
  rw [logT_eq (by omega), logF, toF_toNat ⟨h0, h1⟩]
  have := logL_range ⟨a.toNat, by omega⟩
  simp only at this
  omega
theorem mulF_F {a b : Int} (ha : isB a) (hb : isB b) : mulF a b = ofF (fmul (toF a) (toF b)) := by
  unfold mulF fmul
  simp only [toF_eq_zero ha, toF_eq_zero hb]
  split
  · rfl
  · have h1 := logF_lt (x := toF a)
    have h2 := logF_lt (x := toF b)
    rw [logT_F ha, logT_F hb, expT_F (by omega)]
    congr 2
theorem mulF_isB {a b : Int} (ha : isB a) (hb : isB b) : isB (mulF a b) := by rw [mulF_F ha hb]; exact ofF_isB
theorem xorB_isB {a b : Int} : isB (xorB a b) := by rw [xorB_F]; exact ofF_isB
end Go.Proofs

set_option linter.unusedSimpArgs false
set_option linter.unusedVariables false
namespace Go.Proofs
open Go Go.Eng

theorem xor_left_comm (a b c : F) : a ^^^ (b ^^^ c) = b ^^^ (a ^^^ c) := by rw [← BitVec.xor_assoc, BitVec.xor_comm a b, BitVec.xor_assoc]
theorem xor_swap (a b c d : F) : (a ^^^ b) ^^^ (c ^^^ d) = (a ^^^ c) ^^^ (b ^^^ d) := by rw [BitVec.xor_assoc, BitVec.xor_assoc, xor_left_comm b c d]
theorem xor_zero' {a : F} : a ^^^ 0 = a := BitVec.xor_zero
theorem zero_xor' {a : F} : 0 ^^^ a = a := BitVec.zero_xor
def fsum (f : Nat → F) : Nat → F
  | 0 => 0
  | n + 1 => fsum f n ^^^ f n
theorem fsum_congr {f g : Nat → F} {n : Nat} (h : ∀ i, i < n → f i = g i) : fsum f n = fsum g n := by
  induction n with
  | zero => rfl
  | succ n ih => rw [fsum, fsum, ih fun i hi => h i (by omega), h n (by omega)]
theorem fsum_zero {f : Nat → F} {n : Nat} (h : ∀ i, i < n → f i = 0) : fsum f n = 0 := by
  induction n with
  | zero => rfl
  | succ n ih => rw [fsum, ih fun i hi => h i (by omega), h n (by omega), xor_zero']
theorem fsum_xor {f g : Nat → F} {n : Nat} : fsum (fun i => f i ^^^ g i) n = fsum f n ^^^ fsum g n := by
  induction n with
  | zero => exact xor_zero'.symm
  | succ n ih => rw [fsum, fsum, fsum, ih, xor_swap]
theorem fsum_mul {f : Nat → F} {c : F} {n : Nat} : fsum (fun i => fmul c (f i)) n = fmul c (fsum f n) := by
  induction n with
  | zero => exact fmul_zero.symm
  | succ n ih => rw [fsum, fsum, ih, xor_fmul]
theorem fsum_mul' {f : Nat → F} {c : F} {n : Nat} : fsum (fun i => fmul (f i) c) n = fmul (fsum f n) c := by
  rw [fmul_comm, ← fsum_mul]
  exact fsum_congr fun i _ => fmul_comm
/-- All but one are 0. -/
theorem fsum_one {f : Nat → F} {n k : Nat} (hk : k < n) (h : ∀ i, i < n → i ≠ k → f i = 0) : fsum f n = f k := by
  induction n with
  | zero => omega
  | succ n ih =>
    rw [fsum]
    by_cases hkn : k = n
    · rw [fsum_zero fun i hi => h i (by omega) (by omega), hkn, zero_xor']
    · rw [ih (by omega) fun i hi => h i (by omega), h n (by omega) (by omega), xor_zero']
theorem fsum_swap {f : Nat → Nat → F} {n m : Nat} : fsum (fun i => fsum (fun j => f i j) m) n = fsum (fun j => fsum (fun i => f i j) n) m := by
  induction n with
  | zero => exact (fsum_zero fun _ _ => rfl).symm
  | succ n ih =>
    rw [fsum, ih, ← fsum_xor]
    rfl
def del (i j : Nat) : F := if i = j then 1 else 0
theorem fsum_del {f : Nat → F} {n k : Nat} (hk : k < n) : fsum (fun i => fmul (del i k) (f i)) n = f k := by
  rw [fsum_one hk fun i hi hik => by rw [del, if_neg hik, zero_fmul], del, if_pos rfl, one_fmul]
/-! ### Rows and what they span -/
abbrev Mat := Nat → Nat → F
/-- v is a sum of multiples of the r rows of T, in the first w columns. -/
def spans (r w : Nat) (T : Mat) (v : Nat → F) : Prop := ∃ x : Nat → F, ∀ j, j < w → v j = fsum (fun i => fmul (x i) (T i j)) r
theorem spans_row {r w : Nat} {T : Mat} {i : Nat} (hi : i < r) : spans r w T (T i) := ⟨fun a => del a i, fun j _ => (fsum_del (f := fun a => T a j) hi).symm⟩
theorem spans_trans {r w : Nat} {T T' : Mat} {v : Nat → F} (h : spans r w T' v) (hr : ∀ i, i < r → spans r w T (T' i)) : spans r w T v := by
  obtain ⟨x, hx⟩ := h
  let y : Nat → Nat → F := fun i => if h : i < r then (hr i h).choose else fun _ => 0
  have hy : ∀ i, i < r → ∀ j, j < w → T' i j = fsum (fun a => fmul (y i a) (T a j)) r := fun i hi j hj => by
    simp only [y, dif_pos hi]
    exact (hr i hi).choose_spec j hj
  refine ⟨fun a => fsum (fun i => fmul (x i) (y i a)) r, fun j hj => ?_⟩
  rw [hx j hj, fsum_congr fun i hi => by rw [hy i hi j hj, ← fsum_mul], fsum_swap]
  refine fsum_congr fun a _ => ?_
  rw [← fsum_mul']
  exact fsum_congr fun i _ => fmul_assoc.symm
/-- Two matrices whose rows span the same. -/
structure Same (r w : Nat) (T T' : Mat) : Prop where
  to : ∀ i, i < r → spans r w T (T' i)
  back : ∀ i, i < r → spans r w T' (T i)
theorem Same.refl {r w : Nat} {T : Mat} : Same r w T T := ⟨fun i hi => spans_row hi, fun i hi => spans_row hi⟩
theorem Same.trans {r w : Nat} {T T' T'' : Mat} (h : Same r w T T') (h' : Same r w T' T'') : Same r w T T'' :=
  ⟨fun i hi => spans_trans (h'.to i hi) h.to, fun i hi => spans_trans (h.back i hi) h'.back⟩
theorem Same.symm {r w : Nat} {T T' : Mat} (h : Same r w T T') : Same r w T' T := ⟨h.back, h.to⟩
theorem Same.spans {r w : Nat} {T T' : Mat} (h : Same r w T T') {v : Nat → F} : spans r w T v ↔ Go.Proofs.spans r w T' v := ⟨fun hv => spans_trans hv h.back, fun hv => spans_trans hv h.to⟩
/-! ### Steps -/
end Go.Proofs

set_option linter.unusedSimpArgs false
set_option linter.unusedVariables false
namespace Go.Proofs
open Go Go.Eng

/-! ### Products of factors -/
end Go.Proofs

set_option linter.unusedSimpArgs false
set_option linter.unusedVariables false
namespace Go.Proofs
open Go Go.Eng

def bytesL (l : List Int) : Prop := ∀ x ∈ l, isB x
theorem addToL_bytes {l s : List Int} {off : Nat} {c : Int} (h : bytesL l) : bytesL (addToL l off s c) := fun x hx => by
  obtain ⟨i, hi⟩ := List.getElem?_of_mem hx
  rw [addToL_get] at hi
  obtain ⟨y, hy, rfl⟩ := Option.map_eq_some_iff.1 hi
  split
  · exact xorB_isB
  · exact h y (List.mem_of_getElem? hy)
theorem scaleL_bytes {l : List Int} {off n : Nat} {c : Int} (h : bytesL l) (hc : isB c) : bytesL (scaleL l off n c) := fun x hx => by
  obtain ⟨i, hi⟩ := List.getElem?_of_mem hx
  rw [scaleL_get] at hi
  obtain ⟨y, hy, rfl⟩ := Option.map_eq_some_iff.1 hi
  have := h y (List.mem_of_getElem? hy)
  split
  · exact mulF_isB this hc
  · exact this
/-- Two lists of bytes, as many rows of ca and of cb. -/
structure Two (r ca cb : Nat) (a b : List Int) : Prop where
  la : a.length = r * ca
  lb : b.length = r * cb
  ba : bytesL a
  bb : bytesL b
variable {r ca cb : Nat} {a b : List Int}
theorem Two.add (h : Two r ca cb a b) {i p : Nat} {g : Int} : Two r ca cb (addToL a (i * ca) (seg a (p * ca) ca) g) (addToL b (i * cb) (seg b (p * cb) cb) g) :=
  ⟨by rw [addToL_len, h.la], by rw [addToL_len, h.lb], addToL_bytes h.ba, addToL_bytes h.bb⟩
theorem Two.scale (h : Two r ca cb a b) {i : Nat} {g : Int} (hg : isB g) : Two r ca cb (scaleL a (i * ca) ca g) (scaleL b (i * cb) cb g) :=
  ⟨by rw [scaleL_len, h.la], by rw [scaleL_len, h.lb], scaleL_bytes h.ba hg, scaleL_bytes h.bb hg⟩
theorem Two.rows (h : Two r ca cb a b) {rank c : Nat} : ∀ i, Two r ca cb (elimRows ca cb rank c a b i).1 (elimRows ca cb rank c a b i).2
  | 0 => h
  | i + 1 => by
    have ih := Two.rows h (rank := rank) (c := c) i
    simp only [elimRows]
    split
    · exact ih
    · exact ih.add
end Go.Proofs

set_option linter.unusedSimpArgs false
set_option linter.unusedVariables false
namespace Go.Proofs
open Go Go.Eng
/-! ### Plainly -/
theorem allB_of {d : Rows'} (h : bytesL (bI d)) : allB d := fun row hr => h (rowI row 0) (List.mem_map.2 ⟨row, hr, rfl⟩)
end Go.Proofs

set_option linter.unusedSimpArgs false
set_option linter.unusedVariables false
namespace Go.Proofs
open Go Go.Eng
set_option maxRecDepth 20000
theorem manHead_len {k n t s : Int} {o : List Int} (h : o.length = 32) : (manHead k n t s o).length = 39 := by simp [manHead, beL_len, h]
theorem manHead_ok {k n t s l : Int} {o : List Int} (h : manOk k n t s l = true) (ho : allM o) : allM (manHead k n t s o) := by
  simp [manOk, sizes3] at h
  rw [head_eq (by omega) (by omega) (by omega) (by omega)]
  intro x hx
  simp only [List.mem_cons] at hx
  rcases hx with rfl | rfl | rfl | rfl | rfl | rfl | rfl | hx
  · omega
  · omega
  · omega
  · omega
  · omega
  · omega
  · omega
  · exact ho x hx
theorem id_ok : idC.ok Tryd.prog := id_of (by simp [encMan_ok, sha256_ok]) fun ρ hg hp => by
  obtain ⟨⟨hl, hO, hD⟩, hGr, hGd⟩ := hp
  simp (config := { maxSteps := 2000000 }) [o_id, idC, idAlts, encManC, sha256C, manV, manT, cellsT, gOk, manO, manB, bytesIn]
  refine ⟨⟨by omega, hl, hO, hD⟩, fun l _ c _ d _ hok hl2 hB hd => ?_⟩
  have hd : bI d.d = manHead (ρ 0).i (ρ 1).i (ρ 2).i (ρ 3).i (rowL (ρ 4).d 32) ++ (dgs (ρ 8).d).flatten := hd
  have hb := hok
  simp [manOk, sizes3] at hb
  have hlen := congrArg List.length hd
  rw [List.length_append, flat_len dgs_32, dgs_len, bI_len, manHead_len rowL_len] at hlen
  refine fun hc => ⟨⟨⟨by omega, by omega, by omega, by omega, hB⟩, hGr, hGd⟩, fun x _ hx => ⟨hok, ?_⟩⟩
  have hx : rowL x.d 32 = sha (manHead (ρ 0).i (ρ 1).i (ρ 2).i (ρ 3).i (rowL (ρ 4).d 32) ++ (dgs (ρ 8).d).flatten) := by
    rw [hx, segB, hd.symm]
    simp only [Int.toNat_zero, List.drop_zero]
    rw [List.take_of_length_le (by rw [bI_len]; omega)]
  exact hx
theorem refBytes_ok : refBytesC.ok Tryd.prog := refBytes_of (by simp [valid_ok]) fun ρ hg hp => by
  obtain ⟨l0, hl, ho, hd⟩ := hp
  simp (config := { maxSteps := 2000000 }) [o_refBytes, refBytesC, refBytesI, encManC, validC, manV, manT, cellsT, manO]
  refine ⟨l0, fun v _ hv => ⟨fun hf => by rw [← hv]; exact hf, fun ht => ?_⟩⟩
  have hok : manOk (ρ 0).i (ρ 1).i (ρ 2).i (ρ 3).i (ρ 6).i = true := by rw [← hv]; exact ht
  have hb := hok
  simp [manOk, sizes3] at hb
  obtain ⟨⟨b1, b2, b3, b4⟩, b5, b6, b7⟩ := hb
  have hB : 77 :: 1 :: IntKind.u8.wrap (ρ 0).i :: IntKind.u8.wrap (ρ 1).i :: IntKind.u8.wrap (ρ 2).i :: IntKind.u8.wrap (arithOf .shr .i64 (ρ 3).i 8) :: IntKind.u8.wrap (ρ 3).i :: rowL (ρ 4).d 32 = manHead (ρ 0).i (ρ 1).i (ρ 2).i (ρ 3).i (rowL (ρ 4).d 32) := by
    rw [head_eq (by omega) (by omega) (by omega) (by omega), shr8, wrap8, wrap8, wrap8, wrap8, wrap8, Int.fdiv_eq_ediv_of_nonneg _ (by decide), Int.emod_eq_of_lt (a := (ρ 0).i) (by omega) (by omega), Int.emod_eq_of_lt (a := (ρ 1).i) (by omega) (by omega), Int.emod_eq_of_lt (a := (ρ 2).i) (by omega) (by omega), Int.emod_eq_of_lt (a := (ρ 3).i / 256) (by omega) (by omega)]
  refine ⟨⟨hok, l0, rfl, allB_of ?_, hB⟩, fun l _ d _ t _ _ t0 t1 hl2 hB2 hd2 => ⟨fun hlt => ?_, fun hge => ?_⟩⟩
  · have h := manHead_ok hok ho
    rw [← hB] at h
    exact h
  · obtain ⟨T, hT⟩ : ∃ T : Nat, t.i = T := ⟨t.i.toNat, by omega⟩
    have m1 : arithOf .add .i64 t.i 1 = ((T + 1 : Nat) : Int) := by rw [add64 (by omega) (by omega)]; omega
    have hTl : T < (ρ 8).d.length := by omega
    have hrow := row_dgs hTl
    have hlen := congrArg List.length hd2
    rw [List.length_append, bI_len, manHead_len rowL_len, flat_len (fun x hx => dgs_32 x (List.take_subset _ _ hx)), List.length_take, dgs_len] at hlen
    have hx : ∀ q, q = t.i → bI [[.int .u8 (cellI (ρ 8).d q 0)], [.int .u8 (cellI (ρ 8).d q 1)], [.int .u8 (cellI (ρ 8).d q 2)], [.int .u8 (cellI (ρ 8).d q 3)], [.int .u8 (cellI (ρ 8).d q 4)], [.int .u8 (cellI (ρ 8).d q 5)], [.int .u8 (cellI (ρ 8).d q 6)], [.int .u8 (cellI (ρ 8).d q 7)], [.int .u8 (cellI (ρ 8).d q 8)], [.int .u8 (cellI (ρ 8).d q 9)], [.int .u8 (cellI (ρ 8).d q 10)], [.int .u8 (cellI (ρ 8).d q 11)], [.int .u8 (cellI (ρ 8).d q 12)], [.int .u8 (cellI (ρ 8).d q 13)], [.int .u8 (cellI (ρ 8).d q 14)], [.int .u8 (cellI (ρ 8).d q 15)], [.int .u8 (cellI (ρ 8).d q 16)], [.int .u8 (cellI (ρ 8).d q 17)], [.int .u8 (cellI (ρ 8).d q 18)], [.int .u8 (cellI (ρ 8).d q 19)], [.int .u8 (cellI (ρ 8).d q 20)], [.int .u8 (cellI (ρ 8).d q 21)], [.int .u8 (cellI (ρ 8).d q 22)], [.int .u8 (cellI (ρ 8).d q 23)], [.int .u8 (cellI (ρ 8).d q 24)], [.int .u8 (cellI (ρ 8).d q 25)], [.int .u8 (cellI (ρ 8).d q 26)], [.int .u8 (cellI (ρ 8).d q 27)], [.int .u8 (cellI (ρ 8).d q 28)], [.int .u8 (cellI (ρ 8).d q 29)], [.int .u8 (cellI (ρ 8).d q 30)], [.int .u8 (cellI (ρ 8).d q 31)]] = rowB (ρ 8).d[T] := fun q hq => by
      subst hq; rw [hT, ← hrow]; rfl
    have hnew := congrArg (bI d.d ++ ·) (hx t.i rfl)
    rw [← bI_app] at hnew
    refine ⟨t0, by omega, by omega, hl2, by omega, ⟨hok, by rw [m1]; omega, by rw [m1]; omega, hl2, allB_of ?_, ?_⟩, by rw [m1]; omega⟩
    · intro x hx
      have hx : x ∈ bI d.d ++ rowB (ρ 8).d[T] := by rw [← hnew]; exact hx
      rcases List.mem_append.1 hx with hx | hx
      · exact allB_list hB2 x hx
      · exact (hd _ (List.getElem_mem hTl)).2 x hx
    · refine hnew.trans ?_
      rw [hd2, m1, hT]
      simp only [Int.toNat_natCast]
      rw [dgs_take hTl, List.append_assoc]
  · rw [List.take_of_length_le (by rw [dgs_len]; omega)] at hd2
    exact ⟨hok, hl2, hB2, hd2⟩
theorem refId_ok : refIdC.ok Tryd.prog := refId_of (by simp [refBytes_ok, sumR_ok]) fun ρ hg hp => by
  obtain ⟨⟨hl, hO, hD⟩, hGr, hGd⟩ := hp
  simp (config := { maxSteps := 2000000 }) [o_refId, refIdC, idAlts, refBytesC, encManC, sumRC, manV, manT, cellsT, gOk, manO, manB]
  refine ⟨⟨by omega, hl, hO, hD⟩, fun l _ d _ hok hl2 hB hd => ?_⟩
  have hd : bI d.d = manHead (ρ 0).i (ρ 1).i (ρ 2).i (ρ 3).i (rowL (ρ 4).d 32) ++ (dgs (ρ 8).d).flatten := hd
  have hb := hok
  simp [manOk, sizes3] at hb
  have hlen := congrArg List.length hd
  rw [List.length_append, flat_len dgs_32, dgs_len, bI_len, manHead_len rowL_len] at hlen
  refine ⟨⟨hl2, by omega, hB, hGr, hGd⟩, fun x _ hx => ⟨hok, ?_⟩⟩
  have hx : rowL x.d 32 = sha (manHead (ρ 0).i (ρ 1).i (ρ 2).i (ρ 3).i (rowL (ρ 4).d 32) ++ (dgs (ρ 8).d).flatten) := by rw [hx, hd]
  exact hx
set_option maxHeartbeats 2000000 in
theorem lawEncodes_ok (hk : knownC.ok Tryd.prog) : lawEncodesC.ok Tryd.prog := lawEncodes_of (by simp [hk, own_ok, encMan_ok, refBytes_ok, checkM_ok, valid_ok, id_ok, refId_ok]) fun ρ hg hp => by
  obtain ⟨⟨ik, i1, it, is, hO, hl, hl1, hD⟩, ⟨hSr, hSd⟩, hGr, hGd⟩ := hp
  simp only [Nat.reduceAdd] at ik i1 it is hO hl hl1 hD
  have hl0 : 0 ≤ (ρ 6).i := by omega
  have hl2 : ((ρ 8).d.length : Int) ≤ 4398046510976 := by omega
  simp (config := { maxSteps := 4000000, contextual := true }) [o_lawEncodes, lawEncodesC, knownC, ownC, encManC, refBytesC, checkMC, validC, idC, refIdC, idAlts, idPre, lawTrue, gOk, manV, manT, cellsT, manO, manB, rowL_x8, hO, hD, hl, hl2, hSr, hSd, hGr, hGd]
  refine fun _ _ _ _ l _ d _ hok hl _ hd l2 _ d2 _ hl2 _ hd2 => ?_
  rw [vStr_mk, vStr_mk, bytesOf_bI, bytesOf_bI, hd, hd2]
end Go.Proofs

set_option linter.unusedSimpArgs false
set_option linter.unusedVariables false
set_option maxRecDepth 100000
namespace Go.Proofs
open Go Go.Eng

def o_ofPiece : Out := (.fresh 8 (.fresh 9 (.need (.cmp .leq (.lit 0) (.var 2)) (.need (.cmp .leq (.var 2) (.dlen (.var 4))) (.need (.cmp .leq (.tims (.lit 1) (.plus (.lit 2) (.var 2))) (.lit 140737488355328)) (.fresh 10 (.fresh 11 (.pre 0 (sg 0 [bv 6 7, bv 4 11, bt 3 (.dapp (.dapp (.rcons (.vint .u8 (.conv .u8 (.arith .shr .i64 (.var 0) (.lit 8)))) .rnil) (.rcons (.vint .u8 (.conv .u8 (.var 0))) .rnil)) (.dtake (.var 4) (.var 2))), bv 2 11, bt 1 (.plus (.lit 2) (.var 2)), bg 0 10, bg 5 6]) (.both (.fresh 12 (.post 0 0 (sg 0 [bv 6 7, bv 4 11, bt 3 (.dapp (.dapp (.rcons (.vint .u8 (.conv .u8 (.arith .shr .i64 (.var 0) (.lit 8)))) .rnil) (.rcons (.vint .u8 (.conv .u8 (.var 0))) .rnil)) (.dtake (.var 4) (.var 2))), bv 2 11, bt 1 (.plus (.lit 2) (.var 2)), bg 0 10, bg 5 6]) 12 (.ret 0 (sg 8 [bt 8 (r8 12)])))) .top)))))))))
theorem o_ofPiece_eq : treeOf ⟨Tryd.prog, ofPieceC, [sumRC], []⟩ 100000 Tryd.f42 = o_ofPiece := by kernel_rfl
theorem ofPiece_of (hd : ∀ c ∈ ([sumRC] : List Ctr), c.ok Tryd.prog) (h : ∀ ρ : Env, ρ.good → (ofPieceC).pre ρ → o_ofPiece.den ⟨Tryd.prog, ofPieceC, [sumRC], []⟩ ρ) : (ofPieceC).ok Tryd.prog :=
  ok_of_tree Tryd.func42 (fun a w => Tryd.call42 a w) hd 100000 (fun ρ hg hp => by rw [o_ofPiece_eq]; exact h ρ hg hp)
def o_checkP : Out := (.fresh 18 (.fresh 19 (.pre 0 (sg 0 [bv 9 9, bv 8 8, bv 7 7, bv 6 6, bg 5 5, bv 3 3, bv 2 2, bv 1 1, bv 0 0, bt 4 (r8 4)]) (.both (.fresh 20 (.post 0 0 (sg 0 [bv 9 9, bv 8 8, bv 7 7, bv 6 6, bg 5 5, bv 3 3, bv 2 2, bv 1 1, bv 0 0, bt 4 (r8 4)]) 20 (.br (.cmp .neq (.var 20) (.lit 0))
 (.ret 0 (sg 18 [bv 18 20]))
 (.br (.cmp .lss (.var 10) (.lit 0))
 (.ret 0 (sg 18 [bt 18 (.lit 2)]))
 (.br (.cmp .geq (.var 10) (.var 2))
 (.ret 0 (sg 18 [bt 18 (.lit 2)]))
 (.pre 1 (sg 0 [bv 1 3, bv 0 0]) (.both (.fresh 21 (.fresh 22 (.post 1 0 (sg 0 [bv 1 3, bv 0 0]) 21 (.need (.cmp .leq (.lit 0) (.var 12)) (.br (.cmp .neq (.var 12) (.var 21))
 (.ret 0 (sg 18 [bt 18 (.lit 10)]))
 (.need (.cmp .leq (.lit 0) (.var 10)) (.need (.cmp .lss (.var 10) (.var 6)) (.need (.cmp .lss (.var 10) (.dlen (.var 8))) (.both (.pre 2 (sg 0 [bv 8 17, bv 6 15, bv 5 14, bv 4 13, bv 3 12, bt 2 (.lit 0), bg 1 11, bv 0 10, bg 7 16]) (.both (.fresh 23 (.post 2 0 (sg 0 [bv 8 17, bv 6 15, bv 5 14, bv 4 13, bv 3 12, bt 2 (.lit 0), bg 1 11, bv 0 10, bg 7 16]) 23 (.br (.not (.c2 .req (r8 23) (.rcons (i8 8 10 0) (.rcons (i8 8 10 1) (.rcons (i8 8 10 2) (.rcons (i8 8 10 3) (.rcons (i8 8 10 4) (.rcons (i8 8 10 5) (.rcons (i8 8 10 6) (.rcons (i8 8 10 7) (.rcons (i8 8 10 8) (.rcons (i8 8 10 9) (.rcons (i8 8 10 10) (.rcons (i8 8 10 11) (.rcons (i8 8 10 12) (.rcons (i8 8 10 13) (.rcons (i8 8 10 14) (.rcons (i8 8 10 15) (.rcons (i8 8 10 16) (.rcons (i8 8 10 17) (.rcons (i8 8 10 18) (.rcons (i8 8 10 19) (.rcons (i8 8 10 20) (.rcons (i8 8 10 21) (.rcons (i8 8 10 22) (.rcons (i8 8 10 23) (.rcons (i8 8 10 24) (.rcons (i8 8 10 25) (.rcons (i8 8 10 26) (.rcons (i8 8 10 27) (.rcons (i8 8 10 28) (.rcons (i8 8 10 29) (.rcons (i8 8 10 30) (.rcons (i8 8 10 31) .rnil))))))))))))))))))))))))))))))))))
 (.ret 0 (sg 18 [bt 18 (.lit 20)]))
 (.ret 0 (sg 18 [bt 18 (.lit 0)]))))) .top)) .top))))))))) .top))))))) .top))))
theorem o_checkP_eq : treeOf ⟨Tryd.prog, checkPC, [checkMC, piece26C, pieceDgC], []⟩ 100000 Tryd.f43 = o_checkP := by kernel_rfl
theorem checkP_of (hd : ∀ c ∈ ([checkMC, piece26C, pieceDgC] : List Ctr), c.ok Tryd.prog) (h : ∀ ρ : Env, ρ.good → (checkPC).pre ρ → o_checkP.den ⟨Tryd.prog, checkPC, [checkMC, piece26C, pieceDgC], []⟩ ρ) : (checkPC).ok Tryd.prog :=
  ok_of_tree Tryd.func43 (fun a w => Tryd.call43 a w) hd 100000 (fun ρ hg hp => by rw [o_checkP_eq]; exact h ρ hg hp)
def o_checkR : Out := (.fresh 18 (.fresh 19 (.pre 0 (sg 0 [bv 9 9, bv 8 8, bv 7 7, bv 6 6, bg 5 5, bv 3 3, bv 2 2, bv 1 1, bv 0 0, bt 4 (r8 4)]) (.both (.fresh 20 (.post 0 0 (sg 0 [bv 9 9, bv 8 8, bv 7 7, bv 6 6, bg 5 5, bv 3 3, bv 2 2, bv 1 1, bv 0 0, bt 4 (r8 4)]) 20 (.br (.not (.var 20))
 (.ret 0 (sg 18 [bt 18 (.lit 2)]))
 (.br (.cmp .lss (.var 10) (.lit 0))
 (.ret 0 (sg 18 [bt 18 (.lit 2)]))
 (.br (.cmp .geq (.var 10) (.var 2))
 (.ret 0 (sg 18 [bt 18 (.lit 2)]))
 (.pre 1 (sg 0 [bv 1 3, bv 0 0]) (.both (.fresh 21 (.fresh 22 (.post 1 0 (sg 0 [bv 1 3, bv 0 0]) 21 (.need (.cmp .leq (.lit 0) (.var 12)) (.br (.cmp .neq (.var 12) (.var 21))
 (.ret 0 (sg 18 [bt 18 (.lit 10)]))
 (.need (.cmp .leq (.lit 0) (.var 10)) (.need (.cmp .lss (.var 10) (.var 6)) (.need (.cmp .lss (.var 10) (.dlen (.var 8))) (.both (.pre 2 (sg 0 [bv 7 17, bv 5 15, bv 4 14, bv 3 13, bv 2 12, bg 1 11, bv 0 10, bg 6 16]) (.both (.fresh 23 (.post 2 0 (sg 0 [bv 7 17, bv 5 15, bv 4 14, bv 3 13, bv 2 12, bg 1 11, bv 0 10, bg 6 16]) 23 (.br (.not (.c2 .req (r8 23) (.rcons (i8 8 10 0) (.rcons (i8 8 10 1) (.rcons (i8 8 10 2) (.rcons (i8 8 10 3) (.rcons (i8 8 10 4) (.rcons (i8 8 10 5) (.rcons (i8 8 10 6) (.rcons (i8 8 10 7) (.rcons (i8 8 10 8) (.rcons (i8 8 10 9) (.rcons (i8 8 10 10) (.rcons (i8 8 10 11) (.rcons (i8 8 10 12) (.rcons (i8 8 10 13) (.rcons (i8 8 10 14) (.rcons (i8 8 10 15) (.rcons (i8 8 10 16) (.rcons (i8 8 10 17) (.rcons (i8 8 10 18) (.rcons (i8 8 10 19) (.rcons (i8 8 10 20) (.rcons (i8 8 10 21) (.rcons (i8 8 10 22) (.rcons (i8 8 10 23) (.rcons (i8 8 10 24) (.rcons (i8 8 10 25) (.rcons (i8 8 10 26) (.rcons (i8 8 10 27) (.rcons (i8 8 10 28) (.rcons (i8 8 10 29) (.rcons (i8 8 10 30) (.rcons (i8 8 10 31) .rnil))))))))))))))))))))))))))))))))))
 (.ret 0 (sg 18 [bt 18 (.lit 20)]))
 (.ret 0 (sg 18 [bt 18 (.lit 0)]))))) .top)) .top))))))))) .top))))))) .top))))
theorem o_checkR_eq : treeOf ⟨Tryd.prog, checkRC, [validC, len27C, ofPieceC], []⟩ 100000 Tryd.f44 = o_checkR := by kernel_rfl
theorem checkR_of (hd : ∀ c ∈ ([validC, len27C, ofPieceC] : List Ctr), c.ok Tryd.prog) (h : ∀ ρ : Env, ρ.good → (checkRC).pre ρ → o_checkR.den ⟨Tryd.prog, checkRC, [validC, len27C, ofPieceC], []⟩ ρ) : (checkRC).ok Tryd.prog :=
  ok_of_tree Tryd.func44 (fun a w => Tryd.call44 a w) hd 100000 (fun ρ hg hp => by rw [o_checkR_eq]; exact h ρ hg hp)
def o_lawChecks : Out := (.fresh 20 (.fresh 21 (.need (.cmp .leq (.lit 0) (.var 6)) (.br (.cmp .gtr (.var 6) (.lit 400))
 (.pre 0 (sg 0 [bv 1 19, bg 0 18]) (.both (.post 0 0 (sg 0 [bv 1 19, bg 0 18]) 22 (.ret 0 (sg 20 []))) .top))
 (.need (.cmp .leq (.lit 0) (.var 12)) (.br (.cmp .gtr (.var 12) (.lit 9000))
 (.pre 0 (sg 0 [bv 1 19, bg 0 18]) (.both (.post 0 0 (sg 0 [bv 1 19, bg 0 18]) 22 (.ret 0 (sg 20 []))) .top))
 (.both (.fresh 22 (.both (.need (.cmp .leq (.var 12) (.dlen (.var 14))) (.need (.cmp .leq (.tims (.lit 1) (.var 12)) (.lit 140737488355328)) (.fresh 23 (.fresh 24 (.both (.both (.fresh 25 (.both (.both (.know (.cmp .leq (.dlen (.dtake (.var 14) (.var 12))) (.var 24)) (.pre 2 (sg 0 [bv 8 19, bv 6 24, bt 5 (.dtake (.var 14) (.var 12)), bv 4 24, bv 3 12, bt 2 (.lit 0), bg 1 23, bv 0 10, bg 7 18]) (.both (.fresh 26 (.post 2 0 (sg 0 [bv 8 19, bv 6 24, bt 5 (.dtake (.var 14) (.var 12)), bv 4 24, bv 3 12, bt 2 (.lit 0), bg 1 23, bv 0 10, bg 7 18]) 26 (.both (.pre 3 (sg 0 [bv 7 17, bv 5 15, bv 4 14, bv 3 13, bv 2 12, bg 1 11, bv 0 10, bg 6 16]) (.both (.fresh 27 (.post 3 0 (sg 0 [bv 7 17, bv 5 15, bv 4 14, bv 3 13, bv 2 12, bg 1 11, bv 0 10, bg 6 16]) 27 (.br (.c2 .req (r8 26) (r8 27))
 (.both (.pre 1 (sg 0 [bv 9 9, bv 8 8, bv 7 7, bv 6 6, bg 5 5, bv 3 3, bv 2 2, bv 1 1, bv 0 0, bt 4 (r8 4)]) (.both (.fresh 28 (.fresh 29 (.fresh 30 (.post 1 0 (sg 0 [bv 9 9, bv 8 8, bv 7 7, bv 6 6, bg 5 5, bv 3 3, bv 2 2, bv 1 1, bv 0 0, bt 4 (r8 4)]) 28 (.both (.know (.cmp .leq (.dlen (.var 30)) (.var 29)) (.pre 4 (sg 0 [bv 17 19, bv 15 24, bt 14 (.dtake (.var 14) (.var 12)), bv 9 29, bv 8 30, bv 13 24, bv 12 12, bg 11 23, bv 10 10, bv 7 29, bv 6 6, bg 5 28, bv 3 3, bv 2 2, bv 1 1, bv 0 0, bt 4 (s8 4), bg 16 18]) (.both (.fresh 31 (.post 4 0 (sg 0 [bv 17 19, bv 15 24, bt 14 (.dtake (.var 14) (.var 12)), bv 9 29, bv 8 30, bv 13 24, bv 12 12, bg 11 23, bv 10 10, bv 7 29, bv 6 6, bg 5 28, bv 3 3, bv 2 2, bv 1 1, bv 0 0, bt 4 (s8 4), bg 16 18]) 31 (.both (.pre 5 (sg 0 [bv 17 17, bv 15 15, bv 14 14, bv 9 9, bv 8 8, bv 13 13, bv 12 12, bg 11 11, bv 10 10, bv 7 7, bv 6 6, bg 5 5, bv 3 3, bv 2 2, bv 1 1, bv 0 0, bt 4 (r8 4), bg 16 16]) (.both (.fresh 32 (.post 5 0 (sg 0 [bv 17 17, bv 15 15, bv 14 14, bv 9 9, bv 8 8, bv 13 13, bv 12 12, bg 11 11, bv 10 10, bv 7 7, bv 6 6, bg 5 5, bv 3 3, bv 2 2, bv 1 1, bv 0 0, bt 4 (r8 4), bg 16 16]) 32 (.br (.cmp .eql (.var 31) (.var 32))
 (.both (.pre 0 (sg 0 [bv 1 19, bg 0 18]) (.both (.post 0 0 (sg 0 [bv 1 19, bg 0 18]) 33 (.ret 0 (sg 20 []))) .top)) .top)
 (.both (.stuck 7 0 0) .top)))) .top)) .top))) .top))) .top))))) .top)) .top)
 (.both (.both (.both (.both (.stuck 7 0 0) .top) .top) .top) .top)))) .top)) .top))) .top))) .top) .top)) .top) (.both (.fresh 25 (.both (.both (.both (.know (.cmp .leq (.dlen (.dtake (.var 14) (.var 12))) (.var 24)) (.pre 2 (sg 0 [bv 8 19, bv 6 24, bt 5 (.dtake (.var 14) (.var 12)), bv 4 24, bv 3 12, bt 2 (.lit 0), bg 1 23, bv 0 10, bg 7 18]) (.both (.fresh 26 (.post 2 0 (sg 0 [bv 8 19, bv 6 24, bt 5 (.dtake (.var 14) (.var 12)), bv 4 24, bv 3 12, bt 2 (.lit 0), bg 1 23, bv 0 10, bg 7 18]) 26 (.both (.pre 3 (sg 0 [bv 7 17, bv 5 15, bv 4 14, bv 3 13, bv 2 12, bg 1 11, bv 0 10, bg 6 16]) (.both (.fresh 27 (.post 3 0 (sg 0 [bv 7 17, bv 5 15, bv 4 14, bv 3 13, bv 2 12, bg 1 11, bv 0 10, bg 6 16]) 27 (.br (.c2 .req (r8 26) (r8 27))
 (.both (.pre 1 (sg 0 [bv 9 9, bv 8 8, bv 7 7, bv 6 6, bg 5 5, bv 3 3, bv 2 2, bv 1 1, bv 0 0, bt 4 (r8 4)]) (.both (.fresh 28 (.fresh 29 (.fresh 30 (.post 1 0 (sg 0 [bv 9 9, bv 8 8, bv 7 7, bv 6 6, bg 5 5, bv 3 3, bv 2 2, bv 1 1, bv 0 0, bt 4 (r8 4)]) 28 (.both (.know (.cmp .leq (.dlen (.var 30)) (.var 29)) (.pre 4 (sg 0 [bv 17 19, bv 15 24, bt 14 (.dtake (.var 14) (.var 12)), bv 9 29, bv 8 30, bv 13 24, bv 12 12, bg 11 23, bv 10 10, bv 7 29, bv 6 6, bg 5 28, bv 3 3, bv 2 2, bv 1 1, bv 0 0, bt 4 (s8 4), bg 16 18]) (.both (.fresh 31 (.post 4 0 (sg 0 [bv 17 19, bv 15 24, bt 14 (.dtake (.var 14) (.var 12)), bv 9 29, bv 8 30, bv 13 24, bv 12 12, bg 11 23, bv 10 10, bv 7 29, bv 6 6, bg 5 28, bv 3 3, bv 2 2, bv 1 1, bv 0 0, bt 4 (s8 4), bg 16 18]) 31 (.both (.pre 5 (sg 0 [bv 17 17, bv 15 15, bv 14 14, bv 9 9, bv 8 8, bv 13 13, bv 12 12, bg 11 11, bv 10 10, bv 7 7, bv 6 6, bg 5 5, bv 3 3, bv 2 2, bv 1 1, bv 0 0, bt 4 (r8 4), bg 16 16]) (.both (.fresh 32 (.post 5 0 (sg 0 [bv 17 17, bv 15 15, bv 14 14, bv 9 9, bv 8 8, bv 13 13, bv 12 12, bg 11 11, bv 10 10, bv 7 7, bv 6 6, bg 5 5, bv 3 3, bv 2 2, bv 1 1, bv 0 0, bt 4 (r8 4), bg 16 16]) 32 (.br (.cmp .eql (.var 31) (.var 32))
 (.both (.pre 0 (sg 0 [bv 1 19, bg 0 18]) (.both (.post 0 0 (sg 0 [bv 1 19, bg 0 18]) 33 (.ret 0 (sg 20 []))) .top)) .top)
 (.both (.stuck 7 0 0) .top)))) .top)) .top))) .top))) .top))))) .top)) .top)
 (.both (.both (.both (.both (.stuck 7 0 0) .top) .top) .top) .top)))) .top)) .top))) .top))) .top) .top) .top)) .top)))))) (.both (.fresh 23 (.both (.need (.cmp .leq (.var 12) (.dlen (.var 14))) (.need (.cmp .leq (.tims (.lit 1) (.var 12)) (.lit 140737488355328)) (.fresh 24 (.fresh 25 (.both (.both (.both (.know (.cmp .leq (.dlen (.dtake (.var 14) (.var 12))) (.var 25)) (.pre 2 (sg 0 [bv 8 19, bv 6 25, bt 5 (.dtake (.var 14) (.var 12)), bv 4 25, bv 3 12, bt 2 (.lit 0), bg 1 24, bv 0 10, bg 7 18]) (.both (.fresh 26 (.post 2 0 (sg 0 [bv 8 19, bv 6 25, bt 5 (.dtake (.var 14) (.var 12)), bv 4 25, bv 3 12, bt 2 (.lit 0), bg 1 24, bv 0 10, bg 7 18]) 26 (.both (.pre 3 (sg 0 [bv 7 17, bv 5 15, bv 4 14, bv 3 13, bv 2 12, bg 1 11, bv 0 10, bg 6 16]) (.both (.fresh 27 (.post 3 0 (sg 0 [bv 7 17, bv 5 15, bv 4 14, bv 3 13, bv 2 12, bg 1 11, bv 0 10, bg 6 16]) 27 (.br (.c2 .req (r8 26) (r8 27))
 (.both (.pre 1 (sg 0 [bv 9 9, bv 8 8, bv 7 7, bv 6 6, bg 5 5, bv 3 3, bv 2 2, bv 1 1, bv 0 0, bt 4 (r8 4)]) (.both (.fresh 28 (.fresh 29 (.fresh 30 (.post 1 0 (sg 0 [bv 9 9, bv 8 8, bv 7 7, bv 6 6, bg 5 5, bv 3 3, bv 2 2, bv 1 1, bv 0 0, bt 4 (r8 4)]) 28 (.both (.know (.cmp .leq (.dlen (.var 30)) (.var 29)) (.pre 4 (sg 0 [bv 17 19, bv 15 25, bt 14 (.dtake (.var 14) (.var 12)), bv 9 29, bv 8 30, bv 13 25, bv 12 12, bg 11 24, bv 10 10, bv 7 29, bv 6 6, bg 5 28, bv 3 3, bv 2 2, bv 1 1, bv 0 0, bt 4 (s8 4), bg 16 18]) (.both (.fresh 31 (.post 4 0 (sg 0 [bv 17 19, bv 15 25, bt 14 (.dtake (.var 14) (.var 12)), bv 9 29, bv 8 30, bv 13 25, bv 12 12, bg 11 24, bv 10 10, bv 7 29, bv 6 6, bg 5 28, bv 3 3, bv 2 2, bv 1 1, bv 0 0, bt 4 (s8 4), bg 16 18]) 31 (.both (.pre 5 (sg 0 [bv 17 17, bv 15 15, bv 14 14, bv 9 9, bv 8 8, bv 13 13, bv 12 12, bg 11 11, bv 10 10, bv 7 7, bv 6 6, bg 5 5, bv 3 3, bv 2 2, bv 1 1, bv 0 0, bt 4 (r8 4), bg 16 16]) (.both (.fresh 32 (.post 5 0 (sg 0 [bv 17 17, bv 15 15, bv 14 14, bv 9 9, bv 8 8, bv 13 13, bv 12 12, bg 11 11, bv 10 10, bv 7 7, bv 6 6, bg 5 5, bv 3 3, bv 2 2, bv 1 1, bv 0 0, bt 4 (r8 4), bg 16 16]) 32 (.br (.cmp .eql (.var 31) (.var 32))
 (.both (.pre 0 (sg 0 [bv 1 19, bg 0 18]) (.both (.post 0 0 (sg 0 [bv 1 19, bg 0 18]) 33 (.ret 0 (sg 20 []))) .top)) .top)
 (.both (.stuck 7 0 0) .top)))) .top)) .top))) .top))) .top))))) .top)) .top)
 (.both (.both (.both (.both (.stuck 7 0 0) .top) .top) .top) .top)))) .top)) .top))) .top))) .top) .top) .top))))) .top)) .top))) (.both (.fresh 22 (.both (.fresh 23 (.both (.need (.cmp .leq (.var 12) (.dlen (.var 14))) (.need (.cmp .leq (.tims (.lit 1) (.var 12)) (.lit 140737488355328)) (.fresh 24 (.fresh 25 (.both (.both (.both (.know (.cmp .leq (.dlen (.dtake (.var 14) (.var 12))) (.var 25)) (.pre 2 (sg 0 [bv 8 19, bv 6 25, bt 5 (.dtake (.var 14) (.var 12)), bv 4 25, bv 3 12, bt 2 (.lit 0), bg 1 24, bv 0 10, bg 7 18]) (.both (.fresh 26 (.post 2 0 (sg 0 [bv 8 19, bv 6 25, bt 5 (.dtake (.var 14) (.var 12)), bv 4 25, bv 3 12, bt 2 (.lit 0), bg 1 24, bv 0 10, bg 7 18]) 26 (.both (.pre 3 (sg 0 [bv 7 17, bv 5 15, bv 4 14, bv 3 13, bv 2 12, bg 1 11, bv 0 10, bg 6 16]) (.both (.fresh 27 (.post 3 0 (sg 0 [bv 7 17, bv 5 15, bv 4 14, bv 3 13, bv 2 12, bg 1 11, bv 0 10, bg 6 16]) 27 (.br (.c2 .req (r8 26) (r8 27))
 (.both (.pre 1 (sg 0 [bv 9 9, bv 8 8, bv 7 7, bv 6 6, bg 5 5, bv 3 3, bv 2 2, bv 1 1, bv 0 0, bt 4 (r8 4)]) (.both (.fresh 28 (.fresh 29 (.fresh 30 (.post 1 0 (sg 0 [bv 9 9, bv 8 8, bv 7 7, bv 6 6, bg 5 5, bv 3 3, bv 2 2, bv 1 1, bv 0 0, bt 4 (r8 4)]) 28 (.both (.know (.cmp .leq (.dlen (.var 30)) (.var 29)) (.pre 4 (sg 0 [bv 17 19, bv 15 25, bt 14 (.dtake (.var 14) (.var 12)), bv 9 29, bv 8 30, bv 13 25, bv 12 12, bg 11 24, bv 10 10, bv 7 29, bv 6 6, bg 5 28, bv 3 3, bv 2 2, bv 1 1, bv 0 0, bt 4 (s8 4), bg 16 18]) (.both (.fresh 31 (.post 4 0 (sg 0 [bv 17 19, bv 15 25, bt 14 (.dtake (.var 14) (.var 12)), bv 9 29, bv 8 30, bv 13 25, bv 12 12, bg 11 24, bv 10 10, bv 7 29, bv 6 6, bg 5 28, bv 3 3, bv 2 2, bv 1 1, bv 0 0, bt 4 (s8 4), bg 16 18]) 31 (.both (.pre 5 (sg 0 [bv 17 17, bv 15 15, bv 14 14, bv 9 9, bv 8 8, bv 13 13, bv 12 12, bg 11 11, bv 10 10, bv 7 7, bv 6 6, bg 5 5, bv 3 3, bv 2 2, bv 1 1, bv 0 0, bt 4 (r8 4), bg 16 16]) (.both (.fresh 32 (.post 5 0 (sg 0 [bv 17 17, bv 15 15, bv 14 14, bv 9 9, bv 8 8, bv 13 13, bv 12 12, bg 11 11, bv 10 10, bv 7 7, bv 6 6, bg 5 5, bv 3 3, bv 2 2, bv 1 1, bv 0 0, bt 4 (r8 4), bg 16 16]) 32 (.br (.cmp .eql (.var 31) (.var 32))
 (.both (.pre 0 (sg 0 [bv 1 19, bg 0 18]) (.both (.post 0 0 (sg 0 [bv 1 19, bg 0 18]) 33 (.ret 0 (sg 20 []))) .top)) .top)
 (.both (.stuck 7 0 0) .top)))) .top)) .top))) .top))) .top))))) .top)) .top)
 (.both (.both (.both (.both (.stuck 7 0 0) .top) .top) .top) .top)))) .top)) .top))) .top))) .top) .top) .top))))) .top)) .top)) .top))))))))
theorem o_lawChecks_eq : treeOf ⟨Tryd.prog, lawChecksC, [knownC, ownC, pieceDgC, ofPieceC, checkPC, checkRC], []⟩ 100000 Tryd.f9 = o_lawChecks := by kernel_rfl
theorem lawChecks_of (hd : ∀ c ∈ ([knownC, ownC, pieceDgC, ofPieceC, checkPC, checkRC] : List Ctr), c.ok Tryd.prog) (h : ∀ ρ : Env, ρ.good → (lawChecksC).pre ρ → o_lawChecks.den ⟨Tryd.prog, lawChecksC, [knownC, ownC, pieceDgC, ofPieceC, checkPC, checkRC], []⟩ ρ) : (lawChecksC).ok Tryd.prog :=
  ok_of_tree Tryd.func9 (fun a w => Tryd.call9 a w) hd 100000 (fun ρ hg hp => by rw [o_lawChecks_eq]; exact h ρ hg hp)
end Go.Proofs

set_option linter.unusedSimpArgs false
set_option linter.unusedVariables false
set_option maxRecDepth 100000
namespace Go.Proofs
open Go Go.Eng

def o_len27 : Out := (.br (.cmp .lss (.var 0) (.lit 1))
 (.ret 0 (sg 2 [bt 3 (.lit 2), bt 2 (.lit 0)]))
 (.br (.cmp .gtr (.var 0) (.lit 255))
 (.ret 0 (sg 2 [bt 3 (.lit 2), bt 2 (.lit 0)]))
 (.br (.cmp .lss (.var 1) (.lit 0))
 (.ret 0 (sg 2 [bt 3 (.lit 2), bt 2 (.lit 0)]))
 (.br (.cmp .gtr (.var 1) (.lit 8192))
 (.ret 0 (sg 2 [bt 3 (.lit 2), bt 2 (.lit 0)]))
 (.inv 0 2 (sg 1000 [bt 1000 (.lit 0)]) (.fresh 2 (.hyp 0 2 (.br (.cmp .lss (.arith .mul .i64 (.var 0) (.var 2)) (.var 1))
 (.back 0 2 (sg 1000 [bt 1000 (.arith .add .i64 (.var 2) (.lit 1))]))
 (.ret 0 (sg 2 [bt 3 (.lit 0), bv 2 2]))))))))))
theorem o_len27_eq : treeOf ⟨Tryd.prog, len27C, [], [len27I]⟩ 100000 Tryd.f80 = o_len27 := by kernel_rfl
theorem len27_of (hd : ∀ c ∈ ([] : List Ctr), c.ok Tryd.prog) (h : ∀ ρ : Env, ρ.good → (len27C).pre ρ → o_len27.den ⟨Tryd.prog, len27C, [], [len27I]⟩ ρ) : (len27C).ok Tryd.prog :=
  ok_of_tree Tryd.func80 (fun a w => Tryd.call80 a w) hd 100000 (fun ρ hg hp => by rw [o_len27_eq]; exact h ρ hg hp)
end Go.Proofs

set_option linter.unusedSimpArgs false
set_option linter.unusedVariables false
namespace Go.Proofs
open Go Go.Eng
end Go.Proofs

set_option linter.unusedSimpArgs false
set_option linter.unusedVariables false
namespace Go.Proofs
open Go Go.Eng

/-! ### Sizes -/
theorem ceil_eq {k n c : Int} (hk : 1 ≤ k) (h0 : 0 ≤ c) (h1 : n ≤ k * c) (h2 : c = 0 ∨ k * (c - 1) < n) (hn : 0 ≤ n) : c = (n + k - 1).tdiv k := by
  rw [Int.tdiv_eq_ediv_of_nonneg (by omega)]
  symm
  rw [Int.ediv_eq_iff_of_pos (by omega)]
  rw [Int.mul_sub, Int.mul_one] at h2
  rw [Int.mul_comm] at h1
  rcases h2 with rfl | h2
  · omega
  · rw [Int.mul_comm] at h2; omega
theorem len27_ok : len27C.ok Tryd.prog := len27_of (by simp) fun ρ hg hp => by
  simp [o_len27, len27C, len27I, piece26C]
  have hpb : pieceBad (ρ 0).i (ρ 1).i ↔ (ρ 0).i < 1 ∨ 255 < (ρ 0).i ∨ (ρ 1).i < 0 ∨ 8192 < (ρ 1).i := Iff.rfl
  refine ⟨fun h => hpb.2 (by omega), fun h1 => ⟨fun h => hpb.2 (by omega), fun h2 => ⟨fun h => hpb.2 (by omega), fun h3 => ⟨fun h => hpb.2 (by omega), fun h4 => ⟨⟨?_, h3⟩, fun u _ hnb u0 u1 u2 => ⟨fun h => ?_, fun h => ⟨fun hb => (hnb hb).elim, fun _ => ?_⟩⟩⟩⟩⟩⟩⟩
  · rw [hpb]; omega
  · have hb := mul_bound (x := (ρ 0).i) (y := u.i) (by omega) h2 u0 (show u.i ≤ 8192 by omega)
    rw [mul64 (by omega) (by omega)] at h
    have hlt : u.i < (ρ 1).i := by
      have := Int.mul_le_mul_of_nonneg_right h1 u0
      omega
    rw [add64 (by omega) (by omega)]
    refine ⟨⟨hnb, by omega, by omega, .inr ?_⟩, by omega⟩
    rw [show u.i + 1 - 1 = u.i by omega]; exact h
  · have hb := mul_bound (x := (ρ 0).i) (y := u.i) (by omega) h2 u0 (show u.i ≤ 8192 by omega)
    rw [mul64 (by omega) (by omega)] at h
    exact ceil_eq h1 u0 h u2 h3
/-! ### Products bit by bit -/
end Go.Proofs

set_option linter.unusedSimpArgs false
set_option linter.unusedVariables false
namespace Go.Proofs
open Go Go.Eng
set_option maxRecDepth 20000
theorem chkE_bad {k n t s l i : Int} {D : List (List Int)} {m : List Int} (h : manOk k n t s l = false) : 2 = chkE k n t s l D i m := by rw [chkE, if_pos h]
theorem chkE_arg {k n t s l i : Int} {D : List (List Int)} {m : List Int} (h : manOk k n t s l = true) (hi : i < 0 ∨ t ≤ i) : 2 = chkE k n t s l D i m := by rw [chkE, if_neg (by rw [h]; decide), if_pos hi]
theorem chkE_len {k n t s l i : Int} {D : List (List Int)} {m : List Int} (h : manOk k n t s l = true) (h0 : 0 ≤ i) (h1 : i < t) (hl : (m.length : Int) ≠ plenI k s) : 10 = chkE k n t s l D i m := by rw [chkE, if_neg (by rw [h]; decide), if_neg (by omega), if_pos hl]
theorem chkE_sum {k n t s l i : Int} {D : List (List Int)} {m : List Int} (h : manOk k n t s l = true) (h0 : 0 ≤ i) (h1 : i < t) (hl : (m.length : Int) = plenI k s) (hs : sha (pieceIn i ++ m) ≠ D.getD i.toNat []) : 20 = chkE k n t s l D i m := by rw [chkE, if_neg (by rw [h]; decide), if_neg (by omega), if_neg (fun h => h hl), if_pos hs]
theorem chkE_ok {k n t s l i : Int} {D : List (List Int)} {m : List Int} (h : manOk k n t s l = true) (h0 : 0 ≤ i) (h1 : i < t) (hl : (m.length : Int) = plenI k s) (hs : sha (pieceIn i ++ m) = D.getD i.toNat []) : 0 = chkE k n t s l D i m := by rw [chkE, if_neg (by rw [h]; decide), if_neg (by omega), if_neg (fun h => h hl), if_neg (fun h => h hs)]
theorem man_notBad {k n t s l : Int} (h : manOk k n t s l = true) : ¬ pieceBad k s := by
  simp [manOk, sizes3] at h
  unfold pieceBad; omega
theorem ofPiece_ok : ofPieceC.ok Tryd.prog := ofPiece_of (by simp [sumR_ok]) fun ρ hg hp => by
  obtain ⟨hl, hl1, hB, hSr, hSd⟩ := hp
  simp (config := { maxSteps := 4000000, contextual := true }) [o_ofPiece, ofPieceC, sumRC, gOk, hSr, hSd, hB, hl]
  have hx : bI ([Value.int .u8 (IntKind.u8.wrap (arithOf .shr .i64 (ρ 0).i 8))] :: [Value.int .u8 (IntKind.u8.wrap (ρ 0).i)] :: (ρ 4).d) = pieceIn (ρ 0).i ++ bI (ρ 4).d := by
    rw [shr8, wrap8, wrap8]; rfl
  refine ⟨by omega, ⟨by omega, by omega, allB_of ?_⟩, fun u _ hu => by rw [hx]⟩
  rw [hx]
  intro x hx
  rcases List.mem_append.1 hx with hx | hx
  · simp [pieceIn] at hx
    rcases hx with rfl | rfl <;> exact ⟨Int.emod_nonneg _ (by decide), Int.emod_lt_of_pos _ (by decide)⟩
  · exact allB_list hB x hx
set_option maxHeartbeats 1000000 in
theorem checkP_ok : checkPC.ok Tryd.prog := checkP_of (by simp [checkM_ok, piece26_ok, pieceDg_ok]) fun ρ hg hp => by
  obtain ⟨⟨i0, i3, hl, hD, ij, hpl, hpc, hp1, hB⟩, hGr, hGd⟩ := hp
  simp only [Nat.reduceAdd] at ij hpl hpc hp1 hB
  simp (config := { maxSteps := 4000000, contextual := true }) [o_checkP, checkPC, chkAlts, checkMC, piece26C, pieceDgC, manV, manT, cellsT, gOk, hGr, hGd, hB, hD, hl, hpl]
  refine fun u _ hu => ⟨chkE_bad, fun hok => ⟨fun h0 => chkE_arg hok (.inl h0), fun h0 => ⟨fun ht => chkE_arg hok (.inr ht), fun ht l _ e _ _ hgood => ?_⟩⟩⟩
  have hlen := (hgood (man_notBad hok)).1
  have hml : (bI (ρ 14).d).length = (ρ 14).d.length := bI_len
  have htl : (ρ 2).i = (ρ 8).d.length := by simp [manOk] at hok; omega
  have hrow : rowI8 (ρ 8).d (ρ 10).i = (dgs (ρ 8).d).getD (ρ 10).i.toNat [] := rowI8_dgs h0 (by omega)
  refine ⟨fun hne => chkE_len hok h0 ht (by rw [hml, plenI, ← hlen]; exact hne), fun heq => ⟨by omega, ⟨by omega, by omega, by omega⟩, fun x _ hx => ?_⟩⟩
  rw [segB_all heq.symm, hrow]
  exact ⟨fun hn => chkE_sum hok h0 ht (by rw [hml, plenI, ← hlen]; exact heq) hn, fun he => chkE_ok hok h0 ht (by rw [hml, plenI, ← hlen]; exact heq) he⟩
set_option maxHeartbeats 1000000 in
theorem checkR_ok : checkRC.ok Tryd.prog := checkR_of (by simp [valid_ok, len27_ok, ofPiece_ok]) fun ρ hg hp => by
  obtain ⟨⟨i0, i3, hl, hD, ij, hpl, hpc, hp1, hB⟩, hGr, hGd⟩ := hp
  simp only [Nat.reduceAdd] at ij hpl hpc hp1 hB
  simp (config := { maxSteps := 4000000, contextual := true }) [o_checkR, checkRC, chkAlts, validC, len27C, piece26C, ofPieceC, manV, manT, cellsT, manO, gOk, hGr, hGd, hB, hD, hl, hpl]
  refine fun u _ hu => ⟨chkE_bad, fun hok => ⟨fun h0 => chkE_arg hok (.inl h0), fun h0 => ⟨fun ht => chkE_arg hok (.inr ht), fun ht l _ e _ _ hgood => ?_⟩⟩⟩
  have hlen := (hgood (man_notBad hok)).1
  have hml : (bI (ρ 14).d).length = (ρ 14).d.length := bI_len
  have htl : (ρ 2).i = (ρ 8).d.length := by simp [manOk] at hok; omega
  have hrow : rowI8 (ρ 8).d (ρ 10).i = (dgs (ρ 8).d).getD (ρ 10).i.toNat [] := rowI8_dgs h0 (by omega)
  refine ⟨fun hne => chkE_len hok h0 ht (by rw [hml, plenI, ← hlen]; exact hne), fun heq => ⟨by omega, by omega, fun x _ hx => ?_⟩⟩
  rw [hrow]
  exact ⟨fun hn => chkE_sum hok h0 ht (by rw [hml, plenI, ← hlen]; exact heq) hn, fun he => chkE_ok hok h0 ht (by rw [hml, plenI, ← hlen]; exact heq) he⟩
set_option maxHeartbeats 2000000 in
theorem lawChecks_ok (hk : knownC.ok Tryd.prog) : lawChecksC.ok Tryd.prog := lawChecks_of (by simp [hk, own_ok, pieceDg_ok, ofPiece_ok, checkP_ok, checkR_ok]) fun ρ hg hp => by
  obtain ⟨⟨ik, i1, it, is, hO, hl, hl1, hD⟩, ⟨ij, hpl, hpc, hp1, hB⟩, ⟨hSr, hSd⟩, hGr, hGd⟩ := hp
  simp only [Nat.reduceAdd] at ik i1 it is hO hl hl1 hD ij hpl hpc hp1 hB
  have hl2 : ((ρ 8).d.length : Int) ≤ 4398046510976 := by omega
  simp (config := { maxSteps := 4000000, contextual := true }) [o_lawChecks, lawChecksC, knownC, ownC, pieceDgC, ofPieceC, checkPC, checkRC, chkAlts, chkPre, pieceArgIn, lawTrue, gOk, manV, manT, cellsT, hO, hD, hl, hl2, hSr, hSd, hGr, hGd, ik, is, ij, hB, hpl]
  exact fun _ _ => ⟨by omega, fun _ _ _ => ⟨by omega, fun _ _ _ => ⟨by omega, fun _ _ _ => ⟨fun _ _ _ _ _ _ _ => ⟨by omega, fun _ _ _ => ⟨by omega, by omega⟩⟩, by rw [segB_all rfl]⟩⟩⟩⟩
end Go.Proofs

set_option linter.unusedSimpArgs false
set_option linter.unusedVariables false
namespace Go.Eng
open Go Go.ChangeShapes Go.WideShapes Go.ChangeAt Go.RowKit

/-- Of what was there nothing has turned. -/
structure Grew (W w' : World) : Prop where
  os : w'.os = W.os
  out : w'.output = W.output
  blk : ∀ (b : Nat) (o : Obj), W.heap[b]? = some o → w'.heap[b]? = some o

theorem Grew.block {W w' : World} (h : Grew W w') {i : Nat} (hi : i < W.heap.size) : w'.heap[i]? = W.heap[i]? := by
  rw [Array.getElem?_eq_getElem hi]; exact h.blk i _ (Array.getElem?_eq_getElem hi)

theorem Grew.kept {W w' : World} (h : Grew W w') (may : MemPlace → Prop) : W.keptBut w' may := by
  refine ⟨h.os, h.out, fun i hi => ?_⟩
  rw [h.block hi, Array.getElem?_eq_getElem hi]
  cases W.heap[i] <;> simp

theorem Grew.trodAll {H : Type} {enc : TypeId × Value → H} {P : Program} {W W' : World} (hg : Grew W W') (hl : laidOutB P = true) {sp : Nat → Bool} : ∀ {ts : List TypeId} {vs : List Value} {ds : List (DataW H)} {ps : List MemPlace},
    (∀ t ∈ ts, P.readableRec t = true ∧ t < P.types.size) → DataW.TrodAll enc P W 0 (fun _ => true) true ts vs ds ps → (∀ p ∈ ps, p.block < W.heap.size) → (∀ p ∈ ps, sp p.block = true) →
    DataW.TrodAll enc P W' 0 sp true ts vs ds ps
  | [], [], [], _, _, h, _, _ => h
  | _ :: _, _ :: _, _ :: _, _, hT, ⟨p, q, h1, h2, e⟩, hlt, hs => by
    subst e
    refine ⟨p, q, ?_, Grew.trodAll hg hl (fun t ht => hT t (List.mem_cons_of_mem _ ht)) h2 (fun x hx => hlt x (List.mem_append_right _ hx)) (fun x hx => hs x (List.mem_append_right _ hx)), rfl⟩
    have hr := hT _ (List.mem_cons_self ..)
    refine WideElems.Trod_stays hl hr.1 hr.2 h1 (fun x hx => ?_) (fun x hx => hs x (List.mem_append_left _ hx))
    have hb := hg.block (hlt x (List.mem_append_left _ hx))
    cases x with
    | cell b o => exact World.cell?_of_block (w := W) hb
    | map b => exact hb

/-- The call's contract, at the whole memory as its frame. -/
theorem law_calls {P : Program} {c : Ctr} (hok : c.ok P) (hheap : c.heap = []) (halts : ∀ al ∈ c.alts, al.ret = .one (.vbool (.bl true))) {ρ : Env} (hg : ρ.good) (W : World)
    (hro : ∀ x ∈ c.ro, x.roden ρ (fun b => W.heap[b]?)) (hpre : c.pre ρ) :
    Calls P c.fn (c.args.map (SV.den ρ)).toArray W fun e W' => e = .returned (.bool true) ∧ Grew W W' := by
  have h := hok.2 ρ W ⟨fun b => W.heap[b]?, W.os, W.output⟩ Hp.emp hg (Hp.disj_emp _)
    ⟨fun b o hb => by simpa [Hp.union, Hp.emp] using hb, rfl, rfl⟩ (by rw [hheap]; trivial) hro hpre
  refine h.mono fun e w' hq => ?_
  obtain ⟨ai, al, ρ', hal, _, _, rfl, _, hO, _, _, hsub, hwi⟩ := hq
  refine ⟨by rw [halts al (List.mem_of_getElem? hal)]; rfl, ⟨hwi.1, hwi.2, fun b o hb => hsub b o ?_⟩⟩
  simp [Hp.union, hb]

theorem law_post {H : Type} {enc : TypeId × Value → H} {P : Program} {f : Func} {s : ChangeSpec} {W W' : World} {args : Array Value} {ds gs : List (DataW H)} {before : List MemPlace} {bt : TypeId}
    (hl : laidOutB P = true) (hT : ∀ t ∈ f.params.toList, P.readableRec t = true ∧ t < P.types.size) (hvars : s.vars = []) (hrt : f.resultTypes = #[bt]) (hbt : P.underlying bt = some .bool)
    (hfn : ∀ ds' : List (DataW H), ds'.length = f.params.size → s.fn H ds' = { results := [.lit (.bool true)], args := ds' })
    (hW : DataW.Whole enc P f.params.toList s.vars false W args.toList ds gs before) (hg : Grew W W') : s.post enc P f false true false false W args (.bool true) W' := by
  have hlt := hW.lt
  have hW0 := hW
  obtain ⟨p, q, hA, hV, hpq, hz, hn⟩ := hW
  rw [hvars] at hV
  obtain ⟨rfl, rfl⟩ := trodVars_none hV
  have hlen : ds.length = f.params.size := by
    have : ∀ {ts : List TypeId} {vs : List Value} {ds : List (DataW H)} {ps : List MemPlace}, DataW.TrodAll enc P W 0 (fun _ => true) true ts vs ds ps → ds.length = ts.length := by
      intro ts
      induction ts with
      | nil => intro vs ds ps h; cases vs <;> cases ds <;> simp_all [DataW.TrodAll]
      | cons t ts ih =>
        intro vs ds ps h
        cases vs <;> cases ds <;> simp_all [DataW.TrodAll]
        obtain ⟨p, q, _, h2, _⟩ := h
        exact ih h2
    simpa using this hA
  have hlt' : ∀ x ∈ p, x.block < W.heap.size := fun x hx => hlt x (by rw [hpq]; exact List.mem_append_left _ hx)
  refine ⟨ds, [], before, [], p, [], hW0, ?_, ?_, ?_, hg.kept _, fun h => by cases h⟩
  · rw [List.append_nil, hfn ds hlen, hrt]
    exact ⟨[], [], ⟨1, by simp [DataW.trod, hbt, Value.cells]⟩, rfl, rfl⟩
  · rw [List.append_nil, hfn ds hlen]
    exact hg.trodAll hl hT hA hlt' (fun x hx => by simpa using hlt' x hx)
  · rw [List.append_nil, hfn ds hlen, hvars]
    rfl

/-- What is asked of a law's call. -/
theorem law_call {H : Type} {enc : TypeId × Value → H} {P : Program} {f : Func} {s : ChangeSpec} {c : Ctr} {W : World} {args : Array Value} {ds gs : List (DataW H)} {before : List MemPlace} {bt : TypeId} {ρ : Env}
    (hok : c.ok P) (hheap : c.heap = []) (halts : ∀ al ∈ c.alts, al.ret = .one (.vbool (.bl true)))
    (hl : laidOutB P = true) (hT : ∀ t ∈ f.params.toList, P.readableRec t = true ∧ t < P.types.size) (hvars : s.vars = []) (hrt : f.resultTypes = #[bt]) (hbt : P.underlying bt = some .bool)
    (hfn : ∀ ds' : List (DataW H), ds'.length = f.params.size → s.fn H ds' = { results := [.lit (.bool true)], args := ds' })
    (hW : DataW.Whole enc P f.params.toList s.vars false W args.toList ds gs before)
    (hg : ρ.good) (hargs : args = (c.args.map (SV.den ρ)).toArray) (hro : ∀ x ∈ c.ro, x.roden ρ (fun b => W.heap[b]?)) (hpre : c.pre ρ) :
    Calls P c.fn args W fun e W' => ∃ v, e = .returned v ∧ s.post enc P f false true false false W args v W' := by
  rw [hargs]
  refine (law_calls hok hheap halts hg W hro hpre).mono fun e W' ⟨he, hgr⟩ => ⟨_, he, ?_⟩
  rw [← hargs]
  exact law_post hl hT hvars hrt hbt hfn hW hgr
end Go.Eng

set_option linter.unusedSimpArgs false
set_option linter.unusedVariables false
namespace Go.Eng
open Go Go.ChangeShapes Go.WideShapes Go.ChangeAt Go.RowKit

def patFs (P : Program) (f : TypeId → Option (List CK)) : List Field → Nat → Option (List CK)
  | [], _ => some []
  | x :: fs, off =>
    if Nat.beq x.offset off then
      match f x.type with
      | some p => if Nat.beq p.length (P.cellsOf x.type) then (patFs P f fs (off + p.length)).map (p ++ ·) else none
      | none => none
    else none
def patArr (p : List CK) : Nat → List CK
  | 0 => []
  | n + 1 => p ++ patArr p n
/-- The kinds of a type's cells. -/
def patP (P : Program) : Nat → TypeId → Option (List CK)
  | 0, _ => none
  | n + 1, t =>
    match P.underlying t with
    | some (.int k) => some [.int k]
    | some .bool => some [.bool]
    | some .string => some [.any]
    | some (.slice _) => some [.any]
    | some (.pointer _) => some [.any]
    | some (.struct fs) => match patFs P (patP P n) fs.toList 0 with
      | some p => if Nat.beq p.length (P.cellsOf t) then some p else none
      | none => none
    | some (.array m e) => match patP P n e with
      | some p => if Nat.beq p.length (P.cellsOf e) && Nat.beq (P.cellsOf t) (m * P.cellsOf e) then some (patArr p m) else none
      | none => none
    | _ => none

theorem fitsRow_append {p q : List CK} {cs : List Value} (h1 : fitsRow p (cs.take p.length)) (h2 : fitsRow q (cs.drop p.length)) : fitsRow (p ++ q) cs := by
  obtain ⟨a1, a2⟩ := h1
  obtain ⟨b1, b2⟩ := h2
  have hle : p.length ≤ cs.length := by simp at a1; omega
  refine ⟨by simp at a1 b1 ⊢; omega, fun c k v hk hv => ?_⟩
  by_cases hc : c < p.length
  · rw [List.getElem?_append_left hc] at hk
    exact a2 c k v hk (by rw [List.getElem?_take, if_pos hc]; exact hv)
  · rw [List.getElem?_append_right (by omega)] at hk
    exact b2 (c - p.length) k v hk (by rw [List.getElem?_drop, show p.length + (c - p.length) = c by omega]; exact hv)

section
variable {H : Type} {enc : TypeId × Value → H} {P : Program} {w : World} {base : Nat} {spare : Nat → Bool} {held : Bool}

theorem fits_one_any {v : Value} (h : v.oneCell' = true) : fitsRow [.any] [v] := ⟨rfl, fun c k v' hk hv => by
  cases c with
  | zero => simp at hk hv; subst hk; subst hv; exact h
  | succ c => simp at hk⟩

theorem patFs_fits {f : TypeId → Option (List CK)} {cs : List Value} (hf : ∀ t p, f t = some p → ∀ cs', (∃ fuel x, DataW.trod enc P w base spare held fuel t cs' = some x) → fitsRow p cs') :
    ∀ {fs : List Field} {off : Nat} {p : List CK}, patFs P f fs off = some p → (∀ x ∈ fs, ∃ fuel y, DataW.trod enc P w base spare held fuel x.type ((cs.drop x.offset).take (P.cellsOf x.type)) = some y) → off + p.length = cs.length → fitsRow p (cs.drop off)
  | [], off, p, h, _, hl => by
    simp only [patFs, Option.some.injEq] at h; subst h
    simp at hl
    refine ⟨by simp; omega, fun c k v hk => by simp at hk⟩
  | x :: fs, off, p, h, ht, hl => by
    simp only [patFs] at h
    split at h
    · rename_i ho
      have ho := Nat.eq_of_beq_eq_true ho
      split at h
      · rename_i p1 hp1
        split at h
        · rename_i hc
          have hc := Nat.eq_of_beq_eq_true hc
          simp only [Option.map_eq_some_iff] at h
          obtain ⟨p2, hp2, rfl⟩ := h
          simp only [List.length_append] at hl
          have h1 := hf x.type p1 hp1 _ (ht x (List.mem_cons_self ..))
          rw [ho, ← hc] at h1
          have h2 := patFs_fits hf hp2 (fun y hy => ht y (List.mem_cons_of_mem _ hy)) (by omega)
          exact fitsRow_append h1 (by rw [List.drop_drop]; exact h2)
        · simp at h
      · simp at h
    · simp at h

theorem patArr_fits {p : List CK} : ∀ {m : Nat} {cs : List Value}, cs.length = m * p.length → (∀ i, i < m → fitsRow p ((cs.drop (i * p.length)).take p.length)) → fitsRow (patArr p m) cs
  | 0, cs, hl, _ => by
    simp at hl; subst hl
    exact ⟨rfl, fun c k v hk => by simp [patArr] at hk⟩
  | m + 1, cs, hl, h => by
    simp only [patArr]
    refine fitsRow_append (by simpa using h 0 (by omega)) (patArr_fits (by rw [List.length_drop, hl, Nat.add_mul]; omega) fun i hi => ?_)
    rw [List.drop_drop, show p.length + i * p.length = (i + 1) * p.length by rw [Nat.add_mul]; omega]
    exact h (i + 1) (by omega)

theorem trod_fits : ∀ (n : Nat) {t : TypeId} {pat : List CK}, patP P n t = some pat → ∀ cs, (∃ fuel x, DataW.trod enc P w base spare held fuel t cs = some x) → fitsRow pat cs
  | 0, t, pat, h, _, _ => by simp [patP] at h
  | n + 1, t, pat, h, cs, ⟨fuel, x, hx⟩ => by
    simp only [patP] at h
    split at h
    · rename_i k hu
      simp only [Option.some.injEq] at h; subst h
      obtain ⟨z, rfl, _, _⟩ := DataW.trod_int hu hx
      refine ⟨rfl, fun c k' v hk hv => ?_⟩
      cases c with
      | zero => simp at hk hv; subst hk; subst hv; simp [CK.fits]
      | succ c => simp at hk
    · rename_i hu
      simp only [Option.some.injEq] at h; subst h
      cases fuel with
      | zero => simp [DataW.trod] at hx
      | succ m =>
        unfold DataW.trod at hx
        rw [hu] at hx
        split at hx <;> simp_all
        refine ⟨rfl, fun c k' v hk hv => ?_⟩
        cases c with
        | zero => simp at hk hv; subst hk; subst hv; simp [CK.fits]
        | succ c => simp at hk
    · rename_i hu
      simp only [Option.some.injEq] at h; subst h
      cases fuel with
      | zero => simp [DataW.trod] at hx
      | succ m =>
        unfold DataW.trod at hx
        rw [hu] at hx
        split at hx <;> simp_all
        exact fits_one_any rfl
    · rename_i e hu
      simp only [Option.some.injEq] at h; subst h
      rcases DataW.trod_slice hu hx with ⟨rfl, _⟩ | ⟨a, len, cap, elems, rest, m, _, rfl, _⟩
      · exact fits_one_any rfl
      · exact fits_one_any rfl
    · rename_i e hu
      simp only [Option.some.injEq] at h; subst h
      cases fuel with
      | zero => simp [DataW.trod] at hx
      | succ m =>
        unfold DataW.trod at hx
        rw [hu] at hx
        split at hx <;> simp_all
        all_goals exact fits_one_any rfl
    · rename_i fs hu
      split at h
      · rename_i p hp
        split at h
        · rename_i hc
          have hc := Nat.eq_of_beq_eq_true hc
          simp only [Option.some.injEq] at h; subst h
          obtain ⟨xs, m, _, _, hl, hxl, hall⟩ := DataW.trod_struct hu hx
          have := patFs_fits (cs := cs) (f := patP P n) (fun t p hp cs' hh => trod_fits n hp cs' hh) hp (fun y hy => by
            obtain ⟨i, hi⟩ := List.getElem?_of_mem hy
            have hi' : fs[i]? = some y := by simpa using hi
            have h1 := hall i y hi'
            have hlt : i < xs.length := by
              rw [hxl]; exact (Array.getElem?_eq_some_iff.1 hi').1
            exact ⟨m, xs[i], by rw [h1]; simp [hlt]⟩) (by omega)
          simpa using this
        · simp at h
      · simp at h
    · rename_i m e hu
      split at h
      · rename_i p hp
        split at h
        · rename_i hc
          simp only [Bool.and_eq_true] at hc
          have hc1 := Nat.eq_of_beq_eq_true hc.1
          have hc2 := Nat.eq_of_beq_eq_true hc.2
          simp only [Option.some.injEq] at h; subst h
          obtain ⟨xs, k, _, _, hl, hxl, hall⟩ := DataW.trod_array hu hx
          refine patArr_fits (by rw [hl, hc2, hc1]) fun i hi => ?_
          have h1 := hall i hi
          rw [← hc1] at h1
          exact trod_fits n hp _ ⟨k, xs[i]'(by omega), by rw [h1]; simp [hxl, hi]⟩
        · simp at h
      · simp at h
    · simp at h

theorem cells?_get {a : Addr} {n : Nat} {cs : List Value} (h : w.cells? base a n = some cs) : cs.length = n ∧ ∀ i, i < n → w.cell? (a.add i) = cs[i]? := by
  unfold World.cells? at h
  split at h
  · exact ⟨by simpa using mapM_some_length h, fun i hi => by simpa using mapM_some_get h i i (by simp [hi])⟩
  · simp at h

/-- A slice that reads as data: its rows in memory, each of which reads; what it is read as. -/
theorem open_rows {t e : TypeId} {pat : List CK} {n : Nat} {v : Value} {d : DataW H} {ps : List MemPlace} (ht : P.underlying t = some (.slice e)) (hpat : patP P n e = some pat) (hce : P.cellsOf e = pat.length) (hpos : 0 < pat.length)
    {fuel : Nat} (hsp : ∀ b, spare b = true) (hf : DataW.trod enc P w base spare held fuel t [v] = some (d, ps)) :
    ∃ rows : List (List Value), Rd (fun b => w.heap[b]?) pat v rows ∧ (∀ row ∈ rows, ∃ fuel x, DataW.trod enc P w base spare held fuel e row = some x) ∧
      ((d = .nil ∧ rows = []) ∨ ∃ elems sp, d = .slice elems sp ∧ elems.length = rows.length ∧ ∀ (i : Nat) (row : List Value), rows[i]? = some row → ∃ fuel x, DataW.trod enc P w base spare held fuel e row = some x ∧ elems[i]? = some x.1) := by
  rcases DataW.trod_slice ht hf with ⟨h1, h2⟩ | ⟨a, len, cap, elems, rest, m, _, h1, h2, hb, hlc, hcm, hel, hall, hrest, _⟩
  · simp at h1 h2
    exact ⟨[], .inl ⟨_, h1, rfl⟩, by simp, .inl ⟨h2.1, rfl⟩⟩
  · simp at h1 h2
    subst h1
    have hrow : ∀ i, i < len → ∃ cs x, w.cells? base (a.add (i * P.cellsOf e)) (P.cellsOf e) = some cs ∧ DataW.trod enc P w base spare held m e cs = some x ∧ elems[i]? = some x := fun i hi => by
      have := hall i hi
      rw [List.getElem?_eq_getElem (by omega)] at this
      obtain ⟨cs, g1, g2⟩ := Option.bind_eq_some_iff.1 this
      exact ⟨cs, _, g1, g2, List.getElem?_eq_getElem _⟩
    let rows : List (List Value) := (List.range len).map fun i => ((w.cells? base (a.add (i * P.cellsOf e)) (P.cellsOf e)).getD [])
    have hget : ∀ i row, rows[i]? = some row → i < len ∧ w.cells? base (a.add (i * P.cellsOf e)) (P.cellsOf e) = some row := fun i row hr => by
      simp only [rows, List.getElem?_map, Option.map_eq_some_iff] at hr
      obtain ⟨j, hj, rfl⟩ := hr
      have hlt : i < len := by
        have := (List.getElem?_eq_some_iff.1 hj).1; simpa using this
      rw [List.getElem?_range hlt] at hj
      simp only [Option.some.injEq] at hj; subst hj
      obtain ⟨cs, x, g1, _, _⟩ := hrow i hlt
      exact ⟨hlt, by rw [g1]; rfl⟩
    have hrl : rows.length = len := by simp [rows]
    have htr : ∀ row ∈ rows, ∃ fuel x, DataW.trod enc P w base spare held fuel e row = some x := fun row hr => by
      obtain ⟨i, hi⟩ := List.getElem?_of_mem hr
      obtain ⟨hlt, hc⟩ := hget i row hi
      obtain ⟨cs, x, g1, g2, _⟩ := hrow i hlt
      rw [hc] at g1
      simp only [Option.some.injEq] at g1; subst g1
      exact ⟨m, x, g2⟩
    refine ⟨rows, ?_, htr, .inr ⟨_, _, h2.1, by simp [hel, hrl], fun i row hi => ?_⟩⟩
    rotate_left
    · obtain ⟨hlt, hc⟩ := hget i row hi
      obtain ⟨cs, x, g1, g2, g3⟩ := hrow i hlt
      rw [hc] at g1
      simp only [Option.some.injEq] at g1; subst g1
      exact ⟨m, x, g2, by simp [g3]⟩
    by_cases hcap : cap = 0
    · have hl0 : len = 0 := by omega
      have : rows = [] := by apply List.eq_nil_of_length_eq_zero; omega
      exact .inl ⟨some a, by rw [hl0, hcap], this⟩
    have hfirst : ∃ cs, w.cells? base (a.add 0) (P.cellsOf e) = some cs := by
      by_cases hl : 0 < len
      · obtain ⟨cs, _, g1, _, _⟩ := hrow 0 hl
        rw [Nat.zero_mul] at g1
        exact ⟨cs, g1⟩
      · obtain ⟨r1, r2⟩ := hrest (hsp _)
        have := r2 0 (by omega)
        rw [show (len + 0) * P.cellsOf e = 0 by rw [show len + 0 = 0 by omega]; simp, List.getElem?_eq_getElem (by omega)] at this
        obtain ⟨cs, g1, _⟩ := Option.bind_eq_some_iff.1 this
        exact ⟨cs, g1⟩
    obtain ⟨cs0, hc0⟩ := hfirst
    obtain ⟨hl0, hg0⟩ := cells?_get hc0
    have h00 := hg0 0 (by omega)
    rw [show (a.add 0).add 0 = a from rfl, List.getElem?_eq_getElem (by omega)] at h00
    obtain ⟨ab, ao, asp⟩ := a
    have hblk0 := h00
    unfold World.cell? at hblk0
    split at hblk0
    · rename_i c ty fr hblk
      simp only at hblk
      have hsp0 : asp = none := by
        cases asp with
        | none => rfl
        | some s => simp at hblk0
      subst hsp0
      refine .inr ⟨ab, ao, cap, c, ty, fr, by rw [hrl], by omega, hblk, fun i row hi => ?_⟩
      obtain ⟨hlt, hc⟩ := hget i row hi
      refine ⟨trod_fits n hpat row (htr row (List.mem_of_getElem? hi)), fun k x hk => ?_⟩
      obtain ⟨hl1, hg⟩ := cells?_get hc
      have hkl : k < P.cellsOf e := by
        rw [← hl1]; exact (List.getElem?_eq_some_iff.1 hk).1
      have := hg k hkl
      rw [hk, hce] at this
      rw [Go.Eng.addr_add, Go.Eng.addr_add, cell_of_heap hblk] at this
      exact this
    · simp at hblk0
end

end Go.Eng
