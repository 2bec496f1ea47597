/- Texts QG, QH, PY, PZ, QM, QI, QJ, QK, QL, QN, QU, QV, QW. -/
import Derived.Test.YtelcnkclppkicaaGreatDoorG8
import Derived.Test.YtelcnkclppkicaaGreatDoorProg
import Derived.Test.YtelcnkclppkicaaGreatDoorG7
import Derived.Test.YtelcnkclppkicaaGreatDoorG5
set_option linter.unusedSimpArgs false
set_option linter.unusedVariables false
set_option maxRecDepth 100000
namespace Go.Proofs
open Go Go.Eng

def o_newGa:Out:=(.fresh 1 (.fresh 2 (.ret 0 (sg 1 [bg 1 2]))))
theorem o_newGa_eq:treeOf ⟨Tryz.prog,newGaC,[],[]⟩ 100000 Tryz.f45 = o_newGa:=by kernel_rfl
theorem newGa_of (hd:∀ c ∈ ([]:List Ctr),c.ok Tryz.prog) (h:∀ ρ:Env,ρ.good→(newGaC).pre ρ→o_newGa.den ⟨Tryz.prog,newGaC,[],[]⟩ ρ):(newGaC).ok Tryz.prog :=
 ok_of_tree Tryz.func45 (fun a w=>Tryz.call45 a w) hd 100000 (fun ρ hg hp=>by rw [o_newGa_eq]; exact h ρ hg hp)
def o_ready:Out:=(.br (.not (.and (.cmp .eql (.dlen (.var 3)) (.lit 0)) (.isnil 2)))
 (.need (.cmp .leq (.lit 0) (.var 6)) (.need (.cmp .lss (.lit 0) (.dlen (.var 3))) (.ret 0 (sg 10 [bt 10 (.cmp .geq (.var 6) (.icell (.var 3) (.lit 0) 0))]))))
 (.ret 0 (sg 10 [bt 10 (.bl false)])))
theorem o_ready_eq:treeOf ⟨Tryz.prog,readyC,[],[]⟩ 100000 Tryz.f47 = o_ready:=by kernel_rfl
theorem ready_of (hd:∀ c ∈ ([]:List Ctr),c.ok Tryz.prog) (h:∀ ρ:Env,ρ.good→(readyC).pre ρ→o_ready.den ⟨Tryz.prog,readyC,[],[]⟩ ρ):(readyC).ok Tryz.prog :=
 ok_of_tree Tryz.func47 (fun a w=>Tryz.call47 a w) hd 100000 (fun ρ hg hp=>by rw [o_ready_eq]; exact h ρ hg hp)
def o_inds:Out:=(.fresh 10 (.need (.cmp .leq (.lit 0) (.var 6)) (.inv 0 11 (sg 1000 [bt 1003 .dnil,bt 1004 (.lit 0),bt 1002 (.lit 0),bt 1001 (.lit 0),bg 1000 10]) (.fresh 11 (.fresh 12 (.fresh 13 (.fresh 14 (.fresh 15 (.hyp 0 11 (.br (.cmp .lss (.var 15) (.var 6))
 (.need (.cmp .leq (.lit 0) (.var 15)) (.need (.cmp .lss (.var 15) (.dlen (.var 8))) (.fresh 16 (.fresh 17 (.need (.cmp .eql (.var 12) (.dlen (.var 14))) (.need (.cmp .leq (.tims (.lit 8) (.plus (.var 12) (.lit 1))) (.lit 140737488355328)) (.fresh 18 (.fresh 19 (.back 0 11 (sg 1000 [bt 1003 (.dapp (.var 14) (.rcons (.vint .i64 (.icell (.var 8) (.var 15) 0)) .rnil)),bt 1004 (.arith .add .i64 (.var 15) (.lit 1)),bv 1002 19,bt 1001 (.plus (.var 12) (.lit 1)),bg 1000 18]))))))))))
 (.ret 0 (sg 10 [bv 13 14,bv 12 13,bv 11 12,bg 10 11]))))))))))))
theorem o_inds_eq:treeOf ⟨Tryz.prog,indsC,[],[indsI]⟩ 100000 Tryz.f55 = o_inds:=by kernel_rfl
theorem inds_of (hd:∀ c ∈ ([]:List Ctr),c.ok Tryz.prog) (h:∀ ρ:Env,ρ.good→(indsC).pre ρ→o_inds.den ⟨Tryz.prog,indsC,[],[indsI]⟩ ρ):(indsC).ok Tryz.prog :=
 ok_of_tree Tryz.func55 (fun a w=>Tryz.call55 a w) hd 100000 (fun ρ hg hp=>by rw [o_inds_eq]; exact h ρ hg hp)
def o_cloneD:Out:=(.br (.and (.cmp .eql (.dlen (.var 3)) (.lit 0)) (.isnil 0))
 (.need (.cmp .eql (.var 1) (.lit 0)) (.ret 0 (sg 5 [bt 7 .dnil,bt 6 (.lit 0),(5,.nil)])))
 (.fresh 5 (.need (.cmp .leq (.lit 0) (.var 1)) (.need (.cmp .leq (.var 1) (.dlen (.var 3))) (.need (.cmp .leq (.tims (.lit 32) (.var 1)) (.lit 140737488355328)) (.fresh 6 (.fresh 7 (.ret 0 (sg 5 [bt 7 (.dtake (.var 3) (.var 1)),bv 6 7,bg 5 6])))))))))
theorem o_cloneD_eq:treeOf ⟨Tryz.prog,cloneDC,[],[]⟩ 100000 Tryz.f90 = o_cloneD:=by kernel_rfl
theorem cloneD_of (hd:∀ c ∈ ([]:List Ctr),c.ok Tryz.prog) (h:∀ ρ:Env,ρ.good→(cloneDC).pre ρ→o_cloneD.den ⟨Tryz.prog,cloneDC,[],[]⟩ ρ):(cloneDC).ok Tryz.prog :=
 ok_of_tree Tryz.func90 (fun a w=>Tryz.call90 a w) hd 100000 (fun ρ hg hp=>by rw [o_cloneD_eq]; exact h ρ hg hp)
@[simp] def o_offer_3:Sg:=sg 0 [bg 9 9,bv 8 8,bv 4 4,bv 3 3,bv 7 7,bv 6 6,bg 5 5,bg 2 2,bt 1 (r8 1),bg 0 0]
@[simp] def o_offer_2:Sg:=sg 0 [bv 11 27,bv 9 19,bv 8 18,bv 7 17,bv 6 16,bg 5 15,bv 3 13,bv 2 12,bv 1 11,bv 0 10,bt 4 (r8 14),bg 10 26]
@[simp] def o_offer_1:Sg:=sg 0 [bv 17 27,bv 15 25,bv 14 24,bv 9 19,bv 8 18,bv 13 23,bv 12 22,bg 11 21,bv 10 20,bv 7 17,bv 6 16,bg 5 15,bv 3 13,bv 2 12,bv 1 11,bv 0 10,bt 4 (r8 14),bg 16 26]
def o_offer:Out:=(.fresh 28 (.fresh 29 (.pre 0 o_offer_2 (.both (.fresh 30 (.fresh 31 (.post 0 0 o_offer_2 30 (.fresh 32 (.br (.cmp .neq (.var 31) (.lit 0))
 (.pack [.cells 32 24 [(x8 0 30),(x8 1 30),(x8 2 30),(x8 3 30),(x8 4 30),(x8 5 30),(x8 6 30),(x8 7 30),(x8 8 30),(x8 9 30),(x8 10 30),(x8 11 30),(x8 12 30),(x8 13 30),(x8 14 30),(x8 15 30),(x8 16 30),(x8 17 30),(x8 18 30),(x8 19 30),(x8 20 30),(x8 21 30),(x8 22 30),(x8 23 30),(x8 24 30),(x8 25 30),(x8 26 30),(x8 27 30),(x8 28 30),(x8 29 30),(x8 30 30),(x8 31 30)],.cells 29 86 [(.vint .i64 (.var 20)),(.vslice 21 (.lit 0) (.var 22) (.var 23) 1)],.cells 28 27 [(.vint .i64 (.var 10)),(.vint .i64 (.var 11)),(.vint .i64 (.var 12)),(.vint .i64 (.var 13)),(x8 0 14),(x8 1 14),(x8 2 14),(x8 3 14),(x8 4 14),(x8 5 14),(x8 6 14),(x8 7 14),(x8 8 14),(x8 9 14),(x8 10 14),(x8 11 14),(x8 12 14),(x8 13 14),(x8 14 14),(x8 15 14),(x8 16 14),(x8 17 14),(x8 18 14),(x8 19 14),(x8 20 14),(x8 21 14),(x8 22 14),(x8 23 14),(x8 24 14),(x8 25 14),(x8 26 14),(x8 27 14),(x8 28 14),(x8 29 14),(x8 30 14),(x8 31 14),(.vslice 15 (.lit 0) (.var 16) (.var 17) 32)],.abs 9 20] 33 (.ret 0 (sg 28 [bg 35 33,bv 34 8,bv 30 4,bv 29 3,bv 33 7,bv 32 6,bg 31 5,bg 28 2,bv 36 31])))
 (.br (.not (.c2 .req (r8 30) (r8 1)))
 (.pack [.cells 32 24 [(x8 0 30),(x8 1 30),(x8 2 30),(x8 3 30),(x8 4 30),(x8 5 30),(x8 6 30),(x8 7 30),(x8 8 30),(x8 9 30),(x8 10 30),(x8 11 30),(x8 12 30),(x8 13 30),(x8 14 30),(x8 15 30),(x8 16 30),(x8 17 30),(x8 18 30),(x8 19 30),(x8 20 30),(x8 21 30),(x8 22 30),(x8 23 30),(x8 24 30),(x8 25 30),(x8 26 30),(x8 27 30),(x8 28 30),(x8 29 30),(x8 30 30),(x8 31 30)],.cells 29 86 [(.vint .i64 (.var 20)),(.vslice 21 (.lit 0) (.var 22) (.var 23) 1)],.cells 28 27 [(.vint .i64 (.var 10)),(.vint .i64 (.var 11)),(.vint .i64 (.var 12)),(.vint .i64 (.var 13)),(x8 0 14),(x8 1 14),(x8 2 14),(x8 3 14),(x8 4 14),(x8 5 14),(x8 6 14),(x8 7 14),(x8 8 14),(x8 9 14),(x8 10 14),(x8 11 14),(x8 12 14),(x8 13 14),(x8 14 14),(x8 15 14),(x8 16 14),(x8 17 14),(x8 18 14),(x8 19 14),(x8 20 14),(x8 21 14),(x8 22 14),(x8 23 14),(x8 24 14),(x8 25 14),(x8 26 14),(x8 27 14),(x8 28 14),(x8 29 14),(x8 30 14),(x8 31 14),(.vslice 15 (.lit 0) (.var 16) (.var 17) 32)],.abs 9 20] 33 (.ret 0 (sg 28 [bg 35 33,bv 34 8,bv 30 4,bv 29 3,bv 33 7,bv 32 6,bg 31 5,bg 28 2,bt 36 (.lit 20)])))
 (.pre 1 o_offer_1 (.both (.fresh 33 (.post 1 0 o_offer_1 33 (.br (.cmp .neq (.var 33) (.lit 0))
 (.pack [.cells 32 24 [(x8 0 30),(x8 1 30),(x8 2 30),(x8 3 30),(x8 4 30),(x8 5 30),(x8 6 30),(x8 7 30),(x8 8 30),(x8 9 30),(x8 10 30),(x8 11 30),(x8 12 30),(x8 13 30),(x8 14 30),(x8 15 30),(x8 16 30),(x8 17 30),(x8 18 30),(x8 19 30),(x8 20 30),(x8 21 30),(x8 22 30),(x8 23 30),(x8 24 30),(x8 25 30),(x8 26 30),(x8 27 30),(x8 28 30),(x8 29 30),(x8 30 30),(x8 31 30)],.cells 29 86 [(.vint .i64 (.var 20)),(.vslice 21 (.lit 0) (.var 22) (.var 23) 1)],.cells 28 27 [(.vint .i64 (.var 10)),(.vint .i64 (.var 11)),(.vint .i64 (.var 12)),(.vint .i64 (.var 13)),(x8 0 14),(x8 1 14),(x8 2 14),(x8 3 14),(x8 4 14),(x8 5 14),(x8 6 14),(x8 7 14),(x8 8 14),(x8 9 14),(x8 10 14),(x8 11 14),(x8 12 14),(x8 13 14),(x8 14 14),(x8 15 14),(x8 16 14),(x8 17 14),(x8 18 14),(x8 19 14),(x8 20 14),(x8 21 14),(x8 22 14),(x8 23 14),(x8 24 14),(x8 25 14),(x8 26 14),(x8 27 14),(x8 28 14),(x8 29 14),(x8 30 14),(x8 31 14),(.vslice 15 (.lit 0) (.var 16) (.var 17) 32)],.abs 9 20] 34 (.ret 0 (sg 28 [bg 35 34,bv 34 8,bv 30 4,bv 29 3,bv 33 7,bv 32 6,bg 31 5,bg 28 2,bv 36 33])))
 (.both (.pre 2 o_offer_3 (.both (.fresh 34 (.fresh 35 (.fresh 36 (.fresh 37 (.post 2 0 o_offer_3 34 (.both (.pre 3 (sg 0 [bv 4 36,bv 3 37,bv 5 20,bv 2 36,bv 1 35,bg 0 34]) (.both (.fresh 38 (.post 3 0 (sg 0 [bv 4 36,bv 3 37,bv 5 20,bv 2 36,bv 1 35,bg 0 34]) 38 (.br (.var 38)
 (.pack [.arr 34 3 [CK.int .i64] (.var 37) (.var 36),.cells 32 24 [(x8 0 30),(x8 1 30),(x8 2 30),(x8 3 30),(x8 4 30),(x8 5 30),(x8 6 30),(x8 7 30),(x8 8 30),(x8 9 30),(x8 10 30),(x8 11 30),(x8 12 30),(x8 13 30),(x8 14 30),(x8 15 30),(x8 16 30),(x8 17 30),(x8 18 30),(x8 19 30),(x8 20 30),(x8 21 30),(x8 22 30),(x8 23 30),(x8 24 30),(x8 25 30),(x8 26 30),(x8 27 30),(x8 28 30),(x8 29 30),(x8 30 30),(x8 31 30)],.cells 29 86 [(.vint .i64 (.var 20)),(.vslice 21 (.lit 0) (.var 22) (.var 23) 1)],.cells 28 27 [(.vint .i64 (.var 10)),(.vint .i64 (.var 11)),(.vint .i64 (.var 12)),(.vint .i64 (.var 13)),(x8 0 14),(x8 1 14),(x8 2 14),(x8 3 14),(x8 4 14),(x8 5 14),(x8 6 14),(x8 7 14),(x8 8 14),(x8 9 14),(x8 10 14),(x8 11 14),(x8 12 14),(x8 13 14),(x8 14 14),(x8 15 14),(x8 16 14),(x8 17 14),(x8 18 14),(x8 19 14),(x8 20 14),(x8 21 14),(x8 22 14),(x8 23 14),(x8 24 14),(x8 25 14),(x8 26 14),(x8 27 14),(x8 28 14),(x8 29 14),(x8 30 14),(x8 31 14),(.vslice 15 (.lit 0) (.var 16) (.var 17) 32)],.abs 9 20] 39 (.ret 0 (sg 28 [bg 35 39,bv 34 8,bv 30 4,bv 29 3,bv 33 7,bv 32 6,bg 31 5,bg 28 2,bt 36 (.lit 7)])))
 (.pre 4 o_offer_3 (.both (.fresh 39 (.post 4 0 o_offer_3 39 (.br (.var 39)
 (.pack [.arr 34 3 [CK.int .i64] (.var 37) (.var 36),.cells 32 24 [(x8 0 30),(x8 1 30),(x8 2 30),(x8 3 30),(x8 4 30),(x8 5 30),(x8 6 30),(x8 7 30),(x8 8 30),(x8 9 30),(x8 10 30),(x8 11 30),(x8 12 30),(x8 13 30),(x8 14 30),(x8 15 30),(x8 16 30),(x8 17 30),(x8 18 30),(x8 19 30),(x8 20 30),(x8 21 30),(x8 22 30),(x8 23 30),(x8 24 30),(x8 25 30),(x8 26 30),(x8 27 30),(x8 28 30),(x8 29 30),(x8 30 30),(x8 31 30)],.cells 29 86 [(.vint .i64 (.var 20)),(.vslice 21 (.lit 0) (.var 22) (.var 23) 1)],.cells 28 27 [(.vint .i64 (.var 10)),(.vint .i64 (.var 11)),(.vint .i64 (.var 12)),(.vint .i64 (.var 13)),(x8 0 14),(x8 1 14),(x8 2 14),(x8 3 14),(x8 4 14),(x8 5 14),(x8 6 14),(x8 7 14),(x8 8 14),(x8 9 14),(x8 10 14),(x8 11 14),(x8 12 14),(x8 13 14),(x8 14 14),(x8 15 14),(x8 16 14),(x8 17 14),(x8 18 14),(x8 19 14),(x8 20 14),(x8 21 14),(x8 22 14),(x8 23 14),(x8 24 14),(x8 25 14),(x8 26 14),(x8 27 14),(x8 28 14),(x8 29 14),(x8 30 14),(x8 31 14),(.vslice 15 (.lit 0) (.var 16) (.var 17) 32)],.abs 9 20] 40 (.ret 0 (sg 28 [bg 35 40,bv 34 8,bv 30 4,bv 29 3,bv 33 7,bv 32 6,bg 31 5,bg 28 2,bt 36 (.lit 8)])))
 (.pre 5 (sg 0 [bv 4 19,bv 3 18,bv 2 17,bv 1 16,bg 0 15]) (.both (.fresh 40 (.fresh 41 (.fresh 42 (.post 5 0 (sg 0 [bv 4 19,bv 3 18,bv 2 17,bv 1 16,bg 0 15]) 40 (.both (.pre 6 (sg 0 [bv 4 25,bv 3 24,bv 2 23,bv 1 22,bg 0 21]) (.both (.fresh 43 (.fresh 44 (.fresh 45 (.post 6 0 (sg 0 [bv 4 25,bv 3 24,bv 2 23,bv 1 22,bg 0 21]) 43 (.both (.both (.fresh 46 (.both (.need (.cmp .eql (.var 6) (.dlen (.var 8))) (.need (.cmp .leq (.tims (.lit 32) (.plus (.var 6) (.lit 1))) (.lit 140737488355328)) (.fresh 47 (.fresh 48 (.both (.both (.both (.pack [.cells 46 86 [(.vint .i64 (.var 20)),(.vslice 43 (.lit 0) (.var 22) (.var 44) 1)],.arr 43 5 [CK.int .u8] (.var 45) (.var 44),.arr 40 24 [CK.int .u8,CK.int .u8,CK.int .u8,CK.int .u8,CK.int .u8,CK.int .u8,CK.int .u8,CK.int .u8,CK.int .u8,CK.int .u8,CK.int .u8,CK.int .u8,CK.int .u8,CK.int .u8,CK.int .u8,CK.int .u8,CK.int .u8,CK.int .u8,CK.int .u8,CK.int .u8,CK.int .u8,CK.int .u8,CK.int .u8,CK.int .u8,CK.int .u8,CK.int .u8,CK.int .u8,CK.int .u8,CK.int .u8,CK.int .u8,CK.int .u8,CK.int .u8] (.var 42) (.var 41),.arr 34 3 [CK.int .i64] (.var 37) (.var 36),.cells 32 24 [(x8 0 30),(x8 1 30),(x8 2 30),(x8 3 30),(x8 4 30),(x8 5 30),(x8 6 30),(x8 7 30),(x8 8 30),(x8 9 30),(x8 10 30),(x8 11 30),(x8 12 30),(x8 13 30),(x8 14 30),(x8 15 30),(x8 16 30),(x8 17 30),(x8 18 30),(x8 19 30),(x8 20 30),(x8 21 30),(x8 22 30),(x8 23 30),(x8 24 30),(x8 25 30),(x8 26 30),(x8 27 30),(x8 28 30),(x8 29 30),(x8 30 30),(x8 31 30)],.cells 29 86 [(.vint .i64 (.var 20)),(.vslice 21 (.lit 0) (.var 22) (.var 23) 1)],.arr 2 27 [CK.int .i64,CK.int .i64,CK.int .i64,CK.int .i64,CK.int .u8,CK.int .u8,CK.int .u8,CK.int .u8,CK.int .u8,CK.int .u8,CK.int .u8,CK.int .u8,CK.int .u8,CK.int .u8,CK.int .u8,CK.int .u8,CK.int .u8,CK.int .u8,CK.int .u8,CK.int .u8,CK.int .u8,CK.int .u8,CK.int .u8,CK.int .u8,CK.int .u8,CK.int .u8,CK.int .u8,CK.int .u8,CK.int .u8,CK.int .u8,CK.int .u8,CK.int .u8,CK.int .u8,CK.int .u8,CK.int .u8,CK.int .u8,CK.any] (.var 3) (.var 4),.abs 9 20] 49 (.ret 0 (sg 28 [bg 35 49,bt 34 (.dapp (.var 8) (.rcons (.vint .i64 (.var 20)) (.rcons (.vslice 43 (.lit 0) (.var 22) (.var 44) 1) .rnil))),bt 30 (.lit 1),bt 29 (.rcons (.vint .i64 (.var 10)) (.rcons (.vint .i64 (.var 11)) (.rcons (.vint .i64 (.var 12)) (.rcons (.vint .i64 (.var 13)) (.rcons (x8 0 14) (.rcons (x8 1 14) (.rcons (x8 2 14) (.rcons (x8 3 14) (.rcons (x8 4 14) (.rcons (x8 5 14) (.rcons (x8 6 14) (.rcons (x8 7 14) (.rcons (x8 8 14) (.rcons (x8 9 14) (.rcons (x8 10 14) (.rcons (x8 11 14) (.rcons (x8 12 14) (.rcons (x8 13 14) (.rcons (x8 14 14) (.rcons (x8 15 14) (.rcons (x8 16 14) (.rcons (x8 17 14) (.rcons (x8 18 14) (.rcons (x8 19 14) (.rcons (x8 20 14) (.rcons (x8 21 14) (.rcons (x8 22 14) (.rcons (x8 23 14) (.rcons (x8 24 14) (.rcons (x8 25 14) (.rcons (x8 26 14) (.rcons (x8 27 14) (.rcons (x8 28 14) (.rcons (x8 29 14) (.rcons (x8 30 14) (.rcons (x8 31 14) (.rcons (.vslice 40 (.lit 0) (.var 16) (.var 41) 32) .rnil))))))))))))))))))))))))))))))))))))),bv 33 48,bt 32 (.plus (.var 6) (.lit 1)),bg 31 47,bg 28 28,bt 36 (.lit 0)]))) .top) .top) .top))))) .top)) .top) .top))))) .top)) .top))))) .top))))) .top))))) .top)) .top)))))) .top)) .top)))) .top)))))))) .top))))
theorem o_offer_eq:treeOf ⟨Tryz.prog,offerC,[idC,checkPC,indsC,containsC,readyC,cloneDC,cloneBC],[]⟩ 100000 Tryz.f48 = o_offer:=by kernel_rfl
theorem offer_of (hd:∀ c ∈ ([idC,checkPC,indsC,containsC,readyC,cloneDC,cloneBC]:List Ctr),c.ok Tryz.prog) (h:∀ ρ:Env,ρ.good→(offerC).pre ρ→o_offer.den ⟨Tryz.prog,offerC,[idC,checkPC,indsC,containsC,readyC,cloneDC,cloneBC],[]⟩ ρ):(offerC).ok Tryz.prog :=
 ok_of_tree Tryz.func48 (fun a w=>Tryz.call48 a w) hd 100000 (fun ρ hg hp=>by rw [o_offer_eq]; exact h ρ hg hp)
end Go.Proofs

set_option linter.unusedSimpArgs false
set_option linter.unusedVariables false
namespace Go.Proofs
open Go Go.Eng
set_option maxRecDepth 20000
theorem newGa_ok:newGaC.ok Tryz.prog:=newGa_of (by simp) fun ρ hg hp=>by
 simp (config:={ maxSteps:=4000000 }) [o_newGa,newGaC]
theorem cloneD_ok:cloneDC.ok Tryz.prog:=cloneD_of (by simp) fun ρ hg hp=>by
 obtain ⟨h0,hl,h1⟩:=hp
 simp (config:={ maxSteps:=4000000 }) [o_cloneD,cloneDC,hl]
 exact ⟨fun h _=>h,fun _=>by omega⟩
section
variable {h:Hp} {r:Option Addr} {d P:Rows'} {c n:Int} {M M':Option ManV} {L L':PcL}
theorem pcs_uniq (h1:pcsIs h P L) (h2:pcsIs h P L'):L = L':=by
 refine List.ext_getElem? fun j=>?_
 by_cases hj:j < P.length
 ·have e:=(h1.2.2 j hj).symm.trans (h2.2.2 j hj)
  rw [List.getD_eq_getElem?_getD,List.getD_eq_getElem?_getD,List.getElem?_eq_getElem (by have:=h1.1; omega),List.getElem?_eq_getElem (by have:=h2.1; omega)] at e
  rw [List.getElem?_eq_getElem (by have:=h1.1; omega),List.getElem?_eq_getElem (by have:=h2.1; omega)]
  exact congrArg some e
 ·rw [List.getElem?_eq_none (by have:=h1.1; omega),List.getElem?_eq_none (by have:=h2.1; omega)]
theorem man_uniq {m m':ManV} (h1:manRow h d m) (h2:manRow h d m'):m = m':=by
 obtain ⟨row,D,e,hf,hr,hD,a1,a2,a3,a4,a5,a6,_,_⟩:=h1
 obtain ⟨row',D',e',hf',hr',hD',b1,b2,b3,b4,b5,b6,_,_⟩:=h2
 rw [e] at e'
 simp only [List.cons.injEq,and_true] at e'
 subst e'
 obtain rfl:=Rd_unique hr hr'
 obtain ⟨k,n,t,s,o,D1⟩:=m
 obtain ⟨k',n',t',s',o',D1'⟩:=m'
 simp only at a1 a2 a3 a4 a5 a6 b1 b2 b3 b4 b5 b6
 simp only [ManV.mk.injEq]
 exact ⟨by rw [← a2,← b2],by rw [← a3,← b3],by rw [← a4,← b4],by rw [← a5,← b5],by rw [← a6,← b6],by rw [← a1,← b1]⟩
theorem ga_uniq (h1:gaIs h r d c n P M L) (h2:gaIs h r d c n P M' L'):M' = M∧L' = L:=by
 obtain ⟨_,p1,_,_,q1⟩:=h1
 obtain ⟨_,p2,_,_,q2⟩:=h2
 refine ⟨?_,(pcs_uniq p1 p2).symm⟩
 rcases q1 with ⟨rfl,_,c0,_⟩ | ⟨m,rfl,c1,hm,_⟩ <;> rcases q2 with ⟨rfl,_,c0',_⟩ | ⟨m',rfl,c1',hm',_⟩
 ·rfl
 ·omega
 ·omega
 ·rw [man_uniq hm hm']
theorem ga_idx (h1:gaIs h r d c n P M L):idxL P P.length = L.map Prod.fst:=by
 obtain ⟨_,p1,_⟩:=h1
 refine List.ext_getElem? fun j=>?_
 by_cases hj:j < P.length
 ·have e:=congrArg Prod.fst (p1.2.2 j hj)
  rw [List.getD_eq_getElem?_getD,List.getElem?_eq_getElem (by have:=p1.1; omega)] at e
  rw [idxL,List.getElem?_map,List.getElem?_range hj,List.getElem?_map,List.getElem?_eq_getElem (by have:=p1.1; omega)]
  exact congrArg some e
 ·rw [List.getElem?_eq_none (by simp [idxL]; omega),List.getElem?_eq_none (by rw [List.length_map]; have:=p1.1; omega)]
theorem idx_next {i:Nat}:idxL P (i + 1) = idxL P i ++ [pcI P i]:=by
 unfold idxL
 rw [List.range_succ,List.map_append]; rfl
end
theorem ready_ok:readyC.ok Tryz.prog:=ready_of (by simp) fun ρ hg hp=>by
 obtain ⟨M,L,h⟩:=hp
 simp (config:={ maxSteps:=4000000 }) [o_ready,readyC,gaB]
 have h0:gaIs (ρ 9).h (ρ 2).r (ρ 3).d (ρ 4).i (ρ 6).i (ρ 8).d M L:=h
 obtain ⟨hn,hp,_,_,hc⟩:=h
 rcases hc with ⟨rfl,hr,c0,hd,hL⟩ | ⟨m,rfl,c1,hm,hL⟩
 ·refine ⟨fun hcon=>?_,fun _ _ M' L' h'=>?_⟩
  ·rw [hd,hr] at hcon; simp at hcon
  ·obtain ⟨rfl,rfl⟩:=ga_uniq h0 h'; rfl
 ·obtain ⟨row,D,e,hf,hrd,hD,a1,a2,_⟩:=hm
  have e:(ρ 3).d = [row]:=e
  refine ⟨fun _=>⟨by have hn':(ρ 6).i = ((ρ 8).d.length:Int):=hn; omega,by rw [e]; exact Nat.one_pos,fun M' L' h'=>?_⟩,fun hd _=>by rw [e] at hd; cases hd⟩
  obtain ⟨rfl,rfl⟩:=ga_uniq h0 h'
  have hk:cellI (ρ 3).d 0 0 = m.k:=by rw [← a2,e]; rfl
  have hn':(ρ 6).i = ((ρ 8).d.length:Int):=hn
  have hp1:(ρ 8).d.length = L'.length:=hp.1
  rw [hk,hn',hp1]; rfl
theorem inds_ok:indsC.ok Tryz.prog:=inds_of (by simp) fun ρ hg hp=>by
 obtain ⟨M,L,h⟩:=hp
 have h0:gaIs (ρ 9).h (ρ 2).r (ρ 3).d (ρ 4).i (ρ 6).i (ρ 8).d M L:=h
 obtain ⟨hn,hp,_,h255,hc⟩:=h
 have hpl:=hp.1
 simp (config:={ maxSteps:=4000000 }) [o_inds,indsC,indsI,isInts,gaB]
 have hn:(ρ 6).i = ((ρ 8).d.length:Int):=hn
 have hpl:(ρ 8).d.length = L.length:=hpl
 refine ⟨by omega,⟨by omega,rfl⟩,fun a _ D _ i _ i0 i1 ha hD hr=>⟨fun hi=>?_,fun hi M' L' h'=>?_⟩⟩
 ·have hDl:D.d.length = i.i.toNat:=by
   have:=congrArg List.length hD
   rw [ints_len] at this
   simpa [idxL] using this
  have hnx:(arithOf .add .i64 i.i 1).toNat = i.i.toNat + 1:=by rw [add1 i0 (by omega)]; omega
  refine ⟨i0,by omega,ha,by omega,⟨by rw [add1 i0 (by omega)]; omega,by rw [add1 i0 (by omega)]; omega,ha,?_,fun row h=>rows_or h hr⟩,by rw [add1 i0 (by omega)]; omega⟩
  rw [hnx,idx_next,ints_snoc,hD]
  unfold pcI
  rw [Int.toNat_of_nonneg i0]
 ·obtain ⟨rfl,rfl⟩:=ga_uniq h0 h'
  refine ⟨ha,?_,hr⟩
  rw [hD,← ga_idx h0,show i.i.toNat = (ρ 8).d.length by omega]
section
variable {h h':Hp} {r:Option Addr} {d P:Rows'} {c n e i:Int} {M:Option ManV} {L:PcL} {o b:List Int} {m:ManV}
theorem pcs_mono (h1:pcsIs h P L) (hl:Hp.le h h'):pcsIs h' P L:=by
 refine ⟨h1.1,fun j hj=>?_,fun j hj=>?_⟩
 ·obtain ⟨i,v,d,e1,e2,e3⟩:=h1.2.1 j hj
  exact ⟨i,v,d,e1,Rd_mono e2 hl,e3⟩
 ·rw [← h1.2.2 j hj]
  obtain ⟨i,v,d,e1,e2,e3⟩:=h1.2.1 j hj
  have hv:cellV P j 1 = v:=by simp only [cellV,Int.toNat_natCast,e1,Option.getD_some]; rfl
  unfold pcD
  rw [hv,rdL_eq e2,rdL_eq (Rd_mono e2 hl)]
theorem man_mono (h1:manRow h d m) (hl:Hp.le h h'):manRow h' d m:=by
 obtain ⟨row,D,e,hf,hr,hx⟩:=h1
 exact ⟨row,D,e,hf,Rd_mono hr hl,hx⟩
theorem ga_mono (h1:gaIs h r d c n P M L) (hl:Hp.le h h'):gaIs h' r d c n P M L:=by
 obtain ⟨a1,a2,a3,a4,a5⟩:=h1
 refine ⟨a1,pcs_mono a2 hl,a3,a4,?_⟩
 rcases a5 with a5 | ⟨m,b1,b3,b4,b5⟩
 ·exact .inl a5
 ·exact .inr ⟨m,b1,b3,man_mono b4 hl,b5⟩
theorem ga_ite (h1:gaIs h r d c n P M L) (hl:Hp.le h h') (hne:¬ e = 0):gaIs h' r d c n P (if e = 0 then some m else M) (if e = 0 then L ++ [(i,b)] else L):=by
 rw [if_neg hne,if_neg hne]; exact ga_mono h1 hl
section
variable {k n' t s l u:Int} {O R S z:List Int} {D J:Rows'} {x y:Bool}
theorem man_okD (hl:l = (D.length:Int)):ManV.ok ⟨k,n',t,s,O,dgs D⟩ = manOk k n' t s l:=by
 unfold ManV.ok
 rw [hl]; simp [dgs]
theorem off_2 (hl:l = (D.length:Int)) (hid:(manOk k n' t s l = false∧e = 2∧R = z)∨(manOk k n' t s l = true∧e = 0∧R = S)) (hne:¬ e = 0):e = offE o M L ⟨k,n',t,s,O,dgs D⟩ i b:=by
 rcases hid with ⟨h1,h2,_⟩ | ⟨_,h2,_⟩
 ·unfold offE; rw [man_okD hl,if_pos h1,h2]
 ·exact absurd h2 hne
theorem id_ok0 (hid:(manOk k n' t s l = false∧e = 2∧R = z)∨(manOk k n' t s l = true∧e = 0∧R = S)) (he:e = 0):manOk k n' t s l = true∧R = S:=by
 rcases hid with ⟨_,h2,_⟩ | ⟨h1,_,h3⟩
 ·omega
 ·exact ⟨h1,h3⟩
theorem off_20 (hl:l = (D.length:Int)) (hid:(manOk k n' t s l = false∧e = 2∧R = z)∨(manOk k n' t s l = true∧e = 0∧R = sha (manHead k n' t s O ++ (dgs D).flatten))) (he:e = 0) (hR:¬ R = o):20 = offE o M L ⟨k,n',t,s,O,dgs D⟩ i b:=by
 obtain ⟨h1,h2⟩:=id_ok0 hid he
 unfold offE
 rw [man_okD hl,if_neg (by rw [h1]; simp),if_pos (by show sha (manHead k n' t s O ++ (dgs D).flatten) ≠ o; rw [← h2]; exact hR)]
theorem off_c (hl:l = (D.length:Int)) (hid:(manOk k n' t s l = false∧e = 2∧R = z)∨(manOk k n' t s l = true∧e = 0∧R = sha (manHead k n' t s O ++ (dgs D).flatten))) (he:e = 0) (hR:R = o) (hc:u = chkE k n' t s l (dgs D) i b) (hne:¬ u = 0):u = offE o M L ⟨k,n',t,s,O,dgs D⟩ i b:=by
 obtain ⟨h1,h2⟩:=id_ok0 hid he
 have hl':(((dgs D).length:Nat):Int) = l:=by rw [hl]; simp [dgs]
 unfold offE
 simp only [hl']
 rw [man_okD hl,if_neg (by rw [h1]; simp),if_neg (fun h=>h (by rw [← hR,h2]; rfl)),if_pos (by rw [← hc]; exact hne),hc]
theorem off_last (hl:l = (D.length:Int)) (hid:(manOk k n' t s l = false∧e = 2∧R = z)∨(manOk k n' t s l = true∧e = 0∧R = sha (manHead k n' t s O ++ (dgs D).flatten))) (he:e = 0) (hR:R = o) (hc:u = chkE k n' t s l (dgs D) i b) (hu:u = 0):offE o M L ⟨k,n',t,s,O,dgs D⟩ i b = if i ∈ L.map Prod.fst then 7 else if readyF M L then 8 else 0:=by
 obtain ⟨h1,h2⟩:=id_ok0 hid he
 have hl':(((dgs D).length:Nat):Int) = l:=by rw [hl]; simp [dgs]
 unfold offE
 simp only [hl']
 rw [man_okD hl,if_neg (by rw [h1]; simp),if_neg (fun h=>h (by rw [← hR,h2]; rfl)),if_neg (by rw [← hc,hu]; simp)]
theorem inds_use (hq:∀ (M:Option ManV) (L:PcL),gaIs h r d c n P M L→u = (J.length:Int)∧ints J = L.map Prod.fst∧∀ row,row ∈ J→row.length = 1) (h1:gaIs h r d c n P M L):u = (J.length:Int)∧u ≤ 1000∧ints J = L.map Prod.fst∧∀ row,row ∈ J→row.length = 1:=by
 obtain ⟨a,b,e⟩:=hq M L h1
 refine ⟨a,?_,b,e⟩
 have h2:=congrArg List.length b
 rw [ints_len,List.length_map] at h2
 have:=h1.2.2.2.1
 omega
theorem off_7 (hl:l = (D.length:Int)) (hid:(manOk k n' t s l = false∧e = 2∧R = z)∨(manOk k n' t s l = true∧e = 0∧R = sha (manHead k n' t s O ++ (dgs D).flatten))) (he:e = 0) (hR:R = o) (hc:u = chkE k n' t s l (dgs D) i b) (hu:u = 0) {u':Int}
  (hq:∀ (M:Option ManV) (L:PcL),gaIs h r d c n P M L→u' = (J.length:Int)∧ints J = L.map Prod.fst∧∀ row,row ∈ J→row.length = 1) (h1:gaIs h r d c n P M L) (hx:x = decide (i ∈ ints J)) (ht:x = true):7 = offE o M L ⟨k,n',t,s,O,dgs D⟩ i b:=by
 rw [off_last hl hid he hR hc hu,if_pos]
 rw [← (hq M L h1).2.1]; exact dec_t hx ht
theorem off_8 (hl:l = (D.length:Int)) (hid:(manOk k n' t s l = false∧e = 2∧R = z)∨(manOk k n' t s l = true∧e = 0∧R = sha (manHead k n' t s O ++ (dgs D).flatten))) (he:e = 0) (hR:R = o) (hc:u = chkE k n' t s l (dgs D) i b) (hu:u = 0) {u':Int}
  (hq:∀ (M:Option ManV) (L:PcL),gaIs h r d c n P M L→u' = (J.length:Int)∧ints J = L.map Prod.fst∧∀ row,row ∈ J→row.length = 1) (h1:gaIs h r d c n P M L) (hx:x = decide (i ∈ ints J)) (ht:x = false) (hr:∀ (M:Option ManV) (L:PcL),gaIs h r d c n P M L→y = readyF M L):offE o M L ⟨k,n',t,s,O,dgs D⟩ i b = if y then 8 else 0:=by
 rw [off_last hl hid he hR hc hu,if_neg,← hr M L h1]
 rw [← (hq M L h1).2.1]; exact dec_f hx ht
theorem man_lit {v:Value} (hv:v.oneCell' = true) (hRd:Rd h k32 v D) (hD:dgsOk D) (hO:allM (rowL J 32)) (hok:manOk k n' t s l = true) (hl:l = (D.length:Int)) :
  manRow h [[Value.int .i64 k,Value.int .i64 n',Value.int .i64 t,Value.int .i64 s] ++ ((rowL J 32).map (Value.int .u8) ++ [v])] ⟨k,n',t,s,rowL J 32,dgs D⟩:=by
 refine ⟨_,D,rfl,⟨by simp [kMan,rowL],fun c kk w hk hw=>?_⟩,hRd,hD,rfl,rfl,rfl,rfl,rfl,rfl,hO,by rw [man_okD hl]; exact hok⟩
 unfold kMan at hk
 rcases Nat.lt_or_ge c 4 with h4 | h4
 ·rw [List.getElem?_append_left (by simpa using h4),List.getElem?_replicate,if_pos h4] at hk
  rw [List.getElem?_append_left (by simpa using h4)] at hw
  obtain rfl:=(Option.some.inj hk).symm
  match c,h4 with
  | 0,_=>obtain rfl:=(Option.some.inj hw).symm; rfl
  | 1,_=>obtain rfl:=(Option.some.inj hw).symm; rfl
  | 2,_=>obtain rfl:=(Option.some.inj hw).symm; rfl
  | 3,_=>obtain rfl:=(Option.some.inj hw).symm; rfl
 ·rw [List.getElem?_append_right (by simpa using h4)] at hk
  rw [List.getElem?_append_right (by simpa using h4)] at hw
  simp only [List.length_replicate,List.length_cons,List.length_nil] at hk hw
  rcases Nat.lt_or_ge (c - 4) 32 with h5 | h5
  ·rw [List.getElem?_append_left (by simpa using h5),List.getElem?_replicate,if_pos h5] at hk
   rw [List.getElem?_append_left (by simp [rowL]; omega),List.getElem?_map] at hw
   obtain rfl:=(Option.some.inj hk).symm
   obtain ⟨q,_,rfl⟩:=Option.map_eq_some_iff.1 hw
   rfl
  ·rw [List.getElem?_append_right (by simpa using h5)] at hk
   rw [List.getElem?_append_right (by simp [rowL]; omega)] at hw
   simp only [List.length_replicate,List.length_map] at hk hw
   rw [show (rowL J 32).length = 32 by simp [rowL]] at hw
   match hc:c - 4 - 32,hk with
   | 0,hk =>
    rw [hc] at hw
    obtain rfl:=(Option.some.inj hk).symm
    obtain rfl:=(Option.some.inj hw).symm
    unfold CK.fits; exact hv
   | q + 1,hk=>simp at hk
theorem ga_add {v:Value} {B d':Rows'} {r':Option Addr} {m:ManV} (h1:gaIs h r d c n P M L) (hl:Hp.le h h') (hRd:Rd h' kB v B) (hB:allB B) (hb9:(B.length:Int) ≤ 9000) (hm:manRow h' d' m) (hy:readyF M L = false):gaIs h' r' d' 1 (n + 1) (P ++ [[.int .i64 i,v]]) (some m) (L ++ [(i,bI B)]):=by
 have h2:=ga_mono h1 hl
 obtain ⟨a1,a2,a3,a4,a5⟩:=h2
 have hlen:L.length < 255:=by
  rcases a5 with ⟨_,_,_,_,rfl⟩ | ⟨m0,rfl,_,hm0,_⟩
  ·decide
  ·obtain ⟨_,_,_,_,_,_,_,_,_,_,_,_,_,hok⟩:=hm0
   unfold readyF at hy
   have hk:=of_decide_eq_false hy
   have hk2:m0.k ≤ 255:=by
    unfold ManV.ok manOk sizes3 at hok
    simp at hok
    omega
   omega
 have hPl:=a2.1
 refine ⟨by rw [List.length_append,List.length_singleton]; omega,⟨by rw [List.length_append,List.length_append,hPl]; rfl,fun j hj=>?_,fun j hj=>?_⟩,fun x hx=>?_,by rw [List.length_append,List.length_singleton]; omega,.inr ⟨m,rfl,rfl,hm,by simp⟩⟩
 ·rw [List.length_append,List.length_singleton] at hj
  rcases Nat.lt_or_ge j P.length with hjP | hjP
  ·obtain ⟨i0,v0,d0,e1,e2⟩:=a2.2.1 j hjP
   exact ⟨i0,v0,d0,by rw [List.getElem?_append_left hjP]; exact e1,e2⟩
  ·have:j = P.length:=by omega
   subst this
   exact ⟨i,v,B,by rw [List.getElem?_append_right (Nat.le_refl _),Nat.sub_self]; rfl,hRd,hB⟩
 ·rw [List.length_append,List.length_singleton] at hj
  rcases Nat.lt_or_ge j P.length with hjP | hjP
  ·have h3:=a2.2.2 j hjP
   have e1:pcI (P ++ [[.int .i64 i,v]]) j = pcI P j:=by unfold pcI cellI cellV; rw [Int.toNat_natCast,List.getElem?_append_left hjP]
   have e2:pcD h' (P ++ [[.int .i64 i,v]]) j = pcD h' P j:=by unfold pcD cellV; rw [Int.toNat_natCast,List.getElem?_append_left hjP]
   rw [e1,e2,h3,List.getD_eq_getElem?_getD,List.getD_eq_getElem?_getD,List.getElem?_append_left (by omega)]
  ·have:j = P.length:=by omega
   subst this
   have e1:pcI (P ++ [[.int .i64 i,v]]) P.length = i:=by unfold pcI cellI cellV; rw [Int.toNat_natCast,List.getElem?_append_right (Nat.le_refl _),Nat.sub_self]; rfl
   have e2:pcD h' (P ++ [[.int .i64 i,v]]) P.length = bI B:=by
    unfold pcD cellV
    rw [Int.toNat_natCast,List.getElem?_append_right (Nat.le_refl _),Nat.sub_self]
    exact rdL_eq hRd
   rw [e1,e2,hPl,List.getD_eq_getElem?_getD,List.getElem?_append_right (Nat.le_refl _),Nat.sub_self]; rfl
 ·rcases List.mem_append.1 hx with hx | hx
  ·exact a3 x hx
  ·rw [List.mem_singleton.1 hx,bI_len]; exact hb9
end
end
theorem off_end {h h':Hp} {r r':Option Addr} {d P:Rows'} {c n e i:Int} {M:Option ManV} {L:PcL} {k n' t s l:Int} {R S z:List Int} {D D' B B' J:Rows'} {y:Bool} {a a':Option Addr} {x x' q q':Nat} (h1:gaIs h r d c n P M L) (hl:Hp.le h h')
  (hid:(manOk k n' t s l = false∧e = 2∧R = z)∨(manOk k n' t s l = true∧e = 0∧R = S)) (he:e = 0) (hy:∀ (M:Option ManV) (L:PcL),gaIs h r d c n P M L→y = readyF M L) (hyf:y = false) (hRb:Rd h' kB (.slice a B'.length q) B') (eB:B' = B) (hRd:Rd h' k32 (.slice a' D'.length q') D') (eD:D' = D)
  (hx:x = B.length) (hx':x' = D.length) (hB:allB B) (hb9:(B.length:Int) ≤ 9000) (hD:dgsOk D) (hO:allM (rowL J 32)) (hml:l = (D.length:Int)) :
  gaIs h' r' [[Value.int .i64 k,Value.int .i64 n',Value.int .i64 t,Value.int .i64 s] ++ ((rowL J 32).map (Value.int .u8) ++ [.slice a' x' q'])] 1 (n + 1) (P ++ [[.int .i64 i,.slice a x q]]) (some ⟨k,n',t,s,rowL J 32,dgs D⟩) (L ++ [(i,bI B)]):=by
 subst eB eD hx hx'
 exact ga_add h1 hl hRb hB hb9 (man_lit rfl hRd hD hO (id_ok0 hid he).1 hml) (by rw [← hy M L h1]; exact hyf)
theorem star_Rd {ρ:Env} {l:List SH} {H:Hp} (r ty d c:Nat) (pat:List CK) (hs:star ρ l H) (hm:SH.arr r ty pat (.var d) (.var c) ∈ l):Rd H pat (.slice (addrOf (ρ r).r 0) (ρ d).d.length (ρ c).i.toNat) (ρ d).d:=by
 obtain ⟨hx,hl,hd⟩:=star_mem hs hm
 exact arr_Rd hd hl rfl rfl
set_option maxHeartbeats 4000000 in
theorem offer_ok:offerC.ok Tryz.prog:=offer_of (by simp [id_ok,checkP_ok,inds_ok,contains_ok,ready_ok,cloneD_ok,cloneB_ok]) fun ρ hg hp=>by
 obtain ⟨⟨⟨M,L,h⟩,hO,hMan,hi64,hpa,h9⟩,hGr,hGd⟩:=hp
 have h0:gaIs (ρ 9).h (ρ 2).r (ρ 3).d (ρ 4).i (ρ 6).i (ρ 8).d M L:=h
 obtain ⟨q0,q1,q2,q3,hOm,hml,hml2,hD⟩:=hMan
 obtain ⟨p0,p1,p2,p3⟩:=hpa
 simp only [Nat.reduceAdd] at q0 q1 q2 q3 hOm hml hml2 hD p0 p1 p2 p3
 obtain ⟨hn0,hp0,_,h255,_⟩:=id h0
 have hpl0:=hp0.1
 simp (config:={ maxSteps:=4000000 }) [o_offer,offerC,idC,idAlts,idPre,checkPC,chkAlts,chkPre,indsC,containsC,readyC,cloneDC,cloneBC,gaB,iHpA,intsIn,isInts,pieceArg,pieceArgIn,argM,manO,manB,manT,cellsT,gOk,hGr,hGd]
 repeat' (first | with_reducible apply And.intro | with_reducible intro _)
 all_goals first
  | assumption
  | omega
  | exact ⟨M,L,h0⟩
  | exact off_2 (by assumption) (by assumption) (by assumption)
  | exact off_20 (by assumption) (by assumption) (by assumption) (by assumption)
  | exact off_7 (by assumption) (by assumption) (by assumption) (by assumption) (by assumption) (by assumption) (by assumption) (by assumption) (by assumption) (by assumption)
  | (rw [off_8 (by assumption) (by assumption) (by assumption) (by assumption) (by assumption) (by assumption) (by assumption) (by assumption) (by assumption) (by assumption) (by assumption)]; simp [*]; done)
  | exact (inds_use (by assumption) h0).1
  | exact Int.le_trans (inds_use (by assumption) h0).2.1 (by decide)
  | exact (inds_use (by assumption) h0).2.2.2 _ (by assumption)
  | exact off_c (by assumption) (by assumption) (by assumption) (by assumption) (by assumption) (by assumption)
  | exact ga_ite (by assumption) (by have h:=star_leM 9 20 (by assumption) (by simp); simpa using h) (by assumption)
  | exact ga_mono (by assumption) (by have h:=star_leM 9 20 (by assumption) (by simp); simpa using h)
  | skip
 rename_i hst M1 L1 h1
 have hle:=star_leM 9 20 hst (by simp)
 have hRb:=star_Rd 43 5 45 44 kB hst (by simp [kB])
 have hRd:=star_Rd 40 24 42 41 k32 hst (by simp [k32])
 simp at hRb hRd hle
 exact off_end (J:=(ρ 14).d) h1 hle (by assumption) (by assumption) (by assumption) (by assumption) hRb (by assumption) hRd (by assumption) (by omega) (by omega) p3 (by omega) hD hOm hml
end Go.Proofs

set_option linter.unusedSimpArgs false
set_option linter.unusedVariables false
set_option maxRecDepth 100000
namespace Go.Proofs
open Go Go.Eng

def o_cov:Out:=(.fresh 10 (.pre 0 (sg 0 [bv 4 7,bv 3 6,bv 2 5,bv 1 4,bg 0 3]) (.both (.fresh 11 (.fresh 12 (.fresh 13 (.fresh 14 (.fresh 15 (.fresh 16 (.fresh 17 (.fresh 18 (.fresh 19 (.fresh 20 (.fresh 21 (.fresh 22 (.fresh 23 (.fresh 24 (.fresh 25 (.fresh 26 (.post 0 0 (sg 0 [bv 4 7,bv 3 6,bv 2 5,bv 1 4,bg 0 3]) 11 (.inv 0 27 (sg 1000 [bt 1001 (.lit 0),bt 1002 (.lit 0),bg 1000 10]) (.fresh 27 (.fresh 28 (.fresh 29 (.hyp 0 27 (.br (.cmp .lss (.var 28) (.lit 16))
 (.need (.cmp .leq (.lit 0) (.var 28)) (.br (.c2 (.xbool 0) (.rcons (.vbool (.var 11)) (.rcons (.vbool (.var 12)) (.rcons (.vbool (.var 13)) (.rcons (.vbool (.var 14)) (.rcons (.vbool (.var 15)) (.rcons (.vbool (.var 16)) (.rcons (.vbool (.var 17)) (.rcons (.vbool (.var 18)) (.rcons (.vbool (.var 19)) (.rcons (.vbool (.var 20)) (.rcons (.vbool (.var 21)) (.rcons (.vbool (.var 22)) (.rcons (.vbool (.var 23)) (.rcons (.vbool (.var 24)) (.rcons (.vbool (.var 25)) (.rcons (.vbool (.var 26)) .rnil)))))))))))))))) (.var 28))
 (.pre 1 (sg 0 [bv 4 9,bv 2 1,bv 1 28,bt 0 (r8 0),bg 3 8]) (.both (.fresh 30 (.post 1 0 (sg 0 [bv 4 9,bv 2 1,bv 1 28,bt 0 (r8 0),bg 3 8]) 30 (.br (.var 30)
 (.back 0 27 (sg 1000 [bt 1001 (.arith .add .i64 (.var 28) (.lit 1)),bt 1002 (.arith .add .i64 (.var 29) (.lit 1)),bg 1000 27]))
 (.back 0 27 (sg 1000 [bt 1001 (.arith .add .i64 (.var 28) (.lit 1)),bv 1002 29,bg 1000 27]))))) .top))
 (.back 0 27 (sg 1000 [bt 1001 (.arith .add .i64 (.var 28) (.lit 1)),bv 1002 29,bg 1000 27]))))
 (.br (.cmp .geq (.var 2) (.lit 1))
 (.ret 0 (sg 10 [bt 10 (.cmp .geq (.var 29) (.var 2))]))
 (.ret 0 (sg 10 [bt 10 (.bl false)])))))))))))))))))))))))))) .top)))
end Go.Proofs

set_option linter.unusedSimpArgs false
set_option linter.unusedVariables false
namespace Go.Proofs
open Go Go.Eng
set_option maxRecDepth 20000
section
variable {o L:List Int} {i c s:Int} {l:List Bool}
def covN (o:List Int) (s:Int) (l:List Int):Int:=((l.filter fun i=>betF o i s).length:Int)
theorem covN_len {l:List Int}:0 ≤ covN o s l∧covN o s l ≤ l.length:=⟨by unfold covN; omega,by unfold covN; have:=List.length_filter_le (fun i=>betF o i s) l; omega⟩
theorem covN_snoc {l:List Int} {x:Int}:covN o s (l ++ [x]) = covN o s l + (if betF o x s = true then 1 else 0):=by
 unfold covN
 rw [List.filter_append,List.length_append]
 by_cases h:betF o x s = true
 ·rw [if_pos h]; simp [h]
 ·rw [if_neg h]; simp [h]
theorem covN_to {n:Nat}:0 ≤ covN o s (peersTo L n)∧covN o s (peersTo L n) ≤ n:=by
 have h:=covN_len (o:=o) (s:=s) (l:=peersTo L n)
 have:=peersTo_len (L:=L) (n:=n)
 omega
theorem cov_t {x:Bool} (hc:c = ((peersTo L i.toNat).filter fun i=>betF o i s).length) (h0:0 ≤ i) (h1:i < 16) (hb:boolsP l L) (hx:cellXB [l.map Value.bool] i.toNat = true) (hu:x = betF o i s) (ht:x = true):arithOf .add .i64 c 1 = ((peersTo L (arithOf .add .i64 i 1).toNat).filter fun i=>betF o i s).length:=by
 have hm:i ∈ L:=(seen_iff (seen_bools hb (Nat.le_refl _)) (Nat.le_refl _) h0 h1).1 hx
 have h2:=covN_to (o:=o) (s:=s) (L:=L) (n:=i.toNat)
 change c = covN o s (peersTo L i.toNat) at hc
 show _ = covN o s _
 rw [add1 h0 (by omega),add1 (by omega) (by omega),show (i + 1).toNat = i.toNat + 1 by omega,peersTo_next,Int.toNat_of_nonneg h0,if_pos hm,covN_snoc,if_pos (hu ▸ ht),hc]
theorem cov_f {x:Bool} (hc:c = ((peersTo L i.toNat).filter fun i=>betF o i s).length) (h0:0 ≤ i) (h1:i < 16) (hb:boolsP l L) (hx:cellXB [l.map Value.bool] i.toNat = true) (hu:x = betF o i s) (ht:x = false):c = ((peersTo L (arithOf .add .i64 i 1).toNat).filter fun i=>betF o i s).length:=by
 have hm:i ∈ L:=(seen_iff (seen_bools hb (Nat.le_refl _)) (Nat.le_refl _) h0 h1).1 hx
 have h2:=covN_to (o:=o) (s:=s) (L:=L) (n:=i.toNat)
 change c = covN o s (peersTo L i.toNat) at hc
 show _ = covN o s _
 rw [add1 h0 (by omega),show (i + 1).toNat = i.toNat + 1 by omega,peersTo_next,Int.toNat_of_nonneg h0,if_pos hm,covN_snoc,if_neg (by rw [← hu,ht]; simp),hc,Int.add_zero]
theorem cov_n (hc:c = ((peersTo L i.toNat).filter fun i=>betF o i s).length) (h0:0 ≤ i) (h1:i < 16) (hb:boolsP l L) (hx:cellXB [l.map Value.bool] i.toNat = false):c = ((peersTo L (arithOf .add .i64 i 1).toNat).filter fun i=>betF o i s).length:=by
 have hm:¬ i ∈ L:=seen_not (seen_bools hb (Nat.le_refl _)) (Nat.le_refl _) h0 h1 hx
 rw [add1 h0 (by omega),show (i + 1).toNat = i.toNat + 1 by omega,peersTo_next,Int.toNat_of_nonneg h0,if_neg hm,List.append_nil,hc]
theorem cov_end {n:Int} (hc:c = ((peersTo L i.toNat).filter fun i=>betF o i s).length) (h0:i ≤ 16) (h1:16 ≤ i) (hn:1 ≤ n):decide (c ≥ n) = covF o s n L:=by
 rw [show i.toNat = 16 by omega] at hc
 unfold covF
 rw [decide_eq_true hn,Bool.true_and,hc]; rfl
theorem cov_less {n:Int} (hn:n < 1):false = covF o s n L:=by
 unfold covF
 rw [decide_eq_false (by omega),Bool.false_and]
end
end Go.Proofs

set_option linter.unusedSimpArgs false
set_option linter.unusedVariables false
namespace Go.Eng
open Go Go.Proofs
def intsPre (ρ:Env) (r:Nat):Prop:=0 ≤ (ρ (r + 1)).i∧(ρ (r + 1)).i ≤ (ρ (r + 3)).d.length∧(ρ (r + 1)).i ≤ 1000000000000∧∀ row ∈ (ρ (r + 3)).d,row.length = 1
def setSC:Ctr:={ setC with pre:=fun ρ=>intsPre ρ 0,alts:=[
 { k:=16,ret:=b16 5,heap:=[],post:=fun ρ=>boolsP [(ρ 5).b,(ρ 6).b,(ρ 7).b,(ρ 8).b,(ρ 9).b,(ρ 10).b,(ρ 11).b,(ρ 12).b,(ρ 13).b,(ρ 14).b,(ρ 15).b,(ρ 16).b,(ρ 17).b,(ρ 18).b,(ρ 19).b,(ρ 20).b] ((ints (ρ 3).d).take (ρ 1).i.toNat) }] }
def covSC:Ctr:={ covC with pre:=fun ρ=>allM (rowL (ρ 0).d 32)∧intsPre ρ 3∧gOk ρ 8 9 gR,alts:=[{ k:=1,ret:=.one (.vbool (.var 10)),heap:=[],post:=fun ρ=>(ρ 10).b = covF (rowL (ρ 0).d 32) (ρ 1).i (ρ 2).i ((ints (ρ 6).d).take (ρ 4).i.toNat) }] }
def covSI:Inv:={ covI with inv:=(fun ρ=>0 ≤ (ρ 1001).i∧(ρ 1001).i ≤ 16∧(ρ 1002).i = (((peersTo ((ints (ρ 6).d).take (ρ 4).i.toNat) (ρ 1001).i.toNat).filter fun i=>betF (rowL (ρ 0).d 32) i (ρ 1).i).length:Int)) }
end Go.Eng
namespace Go.Proofs
open Go Go.Eng
set_option maxRecDepth 100000
theorem o_setS_eq:treeOf ⟨Tryz.prog,setSC,[peerC],[setI]⟩ 100000 Tryz.f82 = o_set:=by kernel_rfl
theorem setS_of (hd:∀ c ∈ ([peerC]:List Ctr),c.ok Tryz.prog) (h:∀ ρ:Env,ρ.good→(setSC).pre ρ→o_set.den ⟨Tryz.prog,setSC,[peerC],[setI]⟩ ρ):(setSC).ok Tryz.prog :=
 ok_of_tree Tryz.func82 (fun a w=>Tryz.call82 a w) hd 100000 (fun ρ hg hp=>by rw [o_setS_eq]; exact h ρ hg hp)
theorem o_covS_eq:treeOf ⟨Tryz.prog,covSC,[setSC,betterC],[covSI]⟩ 100000 Tryz.f37 = o_cov:=by kernel_rfl
theorem covS_of (hd:∀ c ∈ ([setSC,betterC]:List Ctr),c.ok Tryz.prog) (h:∀ ρ:Env,ρ.good→(covSC).pre ρ→o_cov.den ⟨Tryz.prog,covSC,[setSC,betterC],[covSI]⟩ ρ):(covSC).ok Tryz.prog :=
 ok_of_tree Tryz.func37 (fun a w=>Tryz.call37 a w) hd 100000 (fun ρ hg hp=>by rw [o_covS_eq]; exact h ρ hg hp)
theorem setS_ok:setSC.ok Tryz.prog:=setS_of (by simp [peer_ok]) fun ρ hg hp=>by
 obtain ⟨h0,hl,h1,hr⟩:=hp
 simp only [Nat.reduceAdd] at h0 hl h1 hr
 simp (config:={ maxSteps:=4000000 }) [o_set,setSC,setC,setI,peerC,h0]
 have hil:(ints (ρ 3).d).length = (ρ 3).d.length:=by simp [ints]
 refine ⟨seenTo_zero,fun s _ i _ i0 i1 hs=>⟨fun hi=>⟨i0,by omega,fun u _ hu=>⟨fun ht=>?_,fun hf=>?_⟩⟩,fun hi=>?_⟩⟩
 ·have hp:0 ≤ cellI (ρ 3).d i.i 0∧cellI (ρ 3).d i.i 0 < 16:=by rw [hu] at ht; exact of_decide_eq_true ht
  have hsl:0 < s.d.length:=by obtain ⟨⟨row,e,_⟩,_⟩:=hs; rw [e]; exact Nat.one_pos
  rw [add64 (x:=i.i) (by omega) (by omega)]
  refine ⟨hp.1,hp.2,hsl,⟨by omega,by omega,?_⟩,by omega⟩
  rw [show (i.i + 1).toNat = i.i.toNat + 1 by omega]
  exact seenTo_step hs (by omega) (ints_at i0 (by omega)) hp.1 hp.2
 ·have hp:¬ (0 ≤ cellI (ρ 3).d i.i 0∧cellI (ρ 3).d i.i 0 < 16):=by rw [hu] at hf; exact of_decide_eq_false hf
  rw [add64 (x:=i.i) (by omega) (by omega)]
  refine ⟨⟨by omega,by omega,?_⟩,by omega⟩
  rw [show (i.i + 1).toNat = i.i.toNat + 1 by omega]
  exact seenTo_skip hs (by omega) (ints_at i0 (by omega)) hp
 ·obtain ⟨⟨row,hs1,hrl⟩,hs2⟩:=hs
  rw [show i.i.toNat = (ρ 1).i.toNat by omega] at hs2
  rw [hs1] at hs2 ⊢
  match row,hrl with
  | [a0,a1,a2,a3,a4,a5,a6,a7,a8,a9,a10,a11,a12,a13,a14,a15],_ =>
   refine ⟨by simp,?_⟩
   have key:boolsP ((List.range 16).map (cellXB [[a0,a1,a2,a3,a4,a5,a6,a7,a8,a9,a10,a11,a12,a13,a14,a15]])) ((ints (ρ 3).d).take (ρ 1).i.toNat):=⟨by simp,fun j hj=>by
    rw [List.getD_eq_getElem?_getD,List.getElem?_map,List.getElem?_range hj]
    exact hs2 j (by omega) (by omega)⟩
   exact key
theorem covS_ok:covSC.ok Tryz.prog:=covS_of (by simp [setS_ok,better_ok]) fun ρ hg hp=>by
 obtain ⟨hO,⟨h0,hl,h1,hr⟩,hGr,hGd⟩:=hp
 simp only [Nat.reduceAdd] at h0 hl h1 hr
 simp (config:={ maxSteps:=4000000 }) [o_cov,covSC,covC,covSI,covI,setSC,setC,betterC,iHpA,intsPre,gOk,h0,hl,hO,hGr,hGd]
 repeat' (first | with_reducible apply And.intro | with_reducible intro _)
 all_goals first
  | assumption
  | omega
  | rfl
  | exact rows_in (by assumption) (by assumption)
  | (rw [add1 (by assumption) (by omega)]; omega)
  | exact cov_t (l:=[_,_,_,_,_,_,_,_,_,_,_,_,_,_,_,_]) (by assumption) (by assumption) (by assumption) (by assumption) (by assumption) (by assumption) (by assumption)
  | exact cov_f (l:=[_,_,_,_,_,_,_,_,_,_,_,_,_,_,_,_]) (by assumption) (by assumption) (by assumption) (by assumption) (by assumption) (by assumption) (by assumption)
  | exact cov_n (l:=[_,_,_,_,_,_,_,_,_,_,_,_,_,_,_,_]) (by assumption) (by assumption) (by assumption) (by assumption) (by assumption)
  | exact cov_end (by assumption) (by assumption) (by assumption) (by assumption)
  | exact cov_less (by assumption)
  | exact (cov_less (by assumption)).symm
end Go.Proofs

set_option linter.unusedSimpArgs false
set_option linter.unusedVariables false
namespace Go.Eng
open Go Go.Proofs
def known7C:Ctr:={ fn := 31,nv:=2,ow:=[1003,200096],ip:=[gIp 0,(1127,8),(58,2),(1001,9),(1002,9)],args:=[],heap:=[],ro:=[gHp 0 1],pre:=fun ρ=>gOk ρ 0 1 gR,alts:=[lawTrue] }
def known7J:Inv:={ key:=1000012,nv:=19,env:=[(4,.one (.vptr 1010 (.lit 0) 37 0)),(5,.one (.vslice 1015 (.lit 0) (.lit 1) (.var 1016) 2)),(6,.one (.vint .i64 (.lit 0))),(9,gaP 1000)],heap:=gaAll 1000 20 ++ [.cells 1010 27 ([.vint .i64 (.lit 1),.vint .i64 (.lit 1),.vint .i64 (.lit 1),.vint .i64 (.lit 1)] ++ (cellsT .u8 1011 32 ++ [.vslice 1012 (.lit 0) (.lit 1) (.var 1013) 32])),dgsHp 1012 1014 1013,pcHp 1015 1017 1016,.abs 1018 10],inv:=(fun ρ=>gaB ρ 1000 none []∧allM (rowL (ρ 1011).d 32)∧dgsOk (ρ 1014).d∧(ρ 1014).d.length = 1∧(ρ 1017).d.length = 1∧pcOk (ρ 1018).h (ρ 1017).d 1∧pcI (ρ 1017).d 0 = 0∧chkE 1 1 1 1 1 (dgs (ρ 1014).d) 0 (pcD (ρ 1018).h (ρ 1017).d 0) = 0∧rowL (ρ 1001).d 32 = sha (manHead 1 1 1 1 (rowL (ρ 1011).d 32) ++ (dgs (ρ 1014).d).flatten)),mu:=fun _=>0 }
end Go.Eng

set_option linter.unusedSimpArgs false
set_option linter.unusedVariables false
set_option maxRecDepth 100000
namespace Go.Proofs
open Go Go.Eng

@[simp] def o_known7_14:T:=.rcons (.vint .u8 (.lit 1)) (.rcons o8 (.rcons o8 (.rcons o8 (.rcons o8 (.rcons o8 (.rcons o8 (.rcons o8 (.rcons o8 (.rcons o8 (.rcons o8 (.rcons o8 (.rcons o8 (.rcons o8 (.rcons o8 (.rcons o8 (.rcons o8 (.rcons o8 (.rcons o8 (.rcons o8 (.rcons o8 (.rcons o8 (.rcons o8 (.rcons o8 (.rcons o8 (.rcons o8 (.rcons o8 (.rcons o8 (.rcons o8 (.rcons o8 (.rcons o8 (.rcons o8 .rnil)))))))))))))))))))))))))))))))
@[simp] def o_known7_13:Sg:=sg 0 [bg 9 68,bv 8 67,bv 4 63,bv 3 62,bv 7 66,bv 6 65,bg 5 64,bg 2 61,bt 1 (s8 40),bg 0 39]
@[simp] def o_known7_12:Sg:=sg 0 [bv 11 1,bv 9 28,bv 8 32,bv 7 28,bt 6 (.lit 1),bg 5 27,bt 3 (.lit 1),bt 2 (.lit 1),bt 1 (.lit 1),bt 0 (.lit 1),bt 4 (r8 26),bg 10 0]
@[simp] def o_known7_11:Sg:=sg 0 [bv 11 1,bt 9 (.lit 1),bt 8 (.rcons (.vint .u8 (.lit 120)) .rnil),bv 1 23,bt 7 (.lit 1),bt 6 (.lit 1),bg 5 24,bt 4 (.lit 1),bt 3 (.lit 1),bt 2 (.lit 1),bg 0 22,bg 10 0]
@[simp] def o_known7_10:Sg:=sg 0 [bv 27 1,bv 25 59,bv 24 60,bv 19 52,bv 18 53,bg 9 48,bv 8 47,bv 4 43,bv 3 42,bv 7 46,bv 6 45,bg 5 44,bg 2 41,bt 1 (r8 40),bv 23 59,bt 22 (.dlen (.var 60)),bg 21 58,bt 20 (.icell (.var 56) (.lit 0) 0),bv 17 52,bt 16 (.lit 1),bg 15 51,bt 13 (.lit 1),bt 12 (.lit 1),bt 11 (.lit 1),bt 10 (.lit 1),bt 14 (r8 50),bg 0 39,bg 26 0]
@[simp] def o_known7_9:Sg:=sg 0 [bv 3 1,bt 1 (.lit 1),bt 0 o_known7_14,bg 2 0]
@[simp] def o_known7_8:Sg:=sg 0 [bv 3 1,bt 1 (.lit 0),bt 0 o_known7_14,bg 2 0]
@[simp] def o_known7_7:Sg:=sg 0 [bv 3 1,bt 1 (.lit 3),bt 0 o_known7_14,bg 2 0]
@[simp] def o_known7_6:Sg:=sg 0 [bg 5 13,bv 4 12,bt 3 (.lit 5),bt 2 (.icell (.var 6) (.lit 0) 0),bt 1 o_known7_14,bg 0 11]
@[simp] def o_known7_5:Sg:=sg 0 [bv 9 1,bv 7 5,bv 6 6,bv 5 5,bt 4 (.lit 2),bg 3 3,bt 2 (.lit 2),bt 1 (.icell (.var 6) (.lit 2) 0),bt 0 o_known7_14,bg 8 0]
@[simp] def o_known7_4:Sg:=sg 0 [bv 17 1,bt 15 (.lit 0),bt 14 .dnil,bv 10 5,bv 9 6,bg 5 16,bv 4 12,bt 13 (.lit 0),bt 12 (.lit 0),(11,.nil),bv 8 5,bv 7 4,bg 6 3,bt 3 (.lit 17),bt 2 (.icell (.var 6) (.lit 1) 0),bt 1 o_known7_14,bg 0 11,bg 16 0]
@[simp] def o_known7_3:Sg:=sg 0 [bv 17 1,bt 15 (.lit 0),bt 14 .dnil,bv 10 5,bv 9 6,bg 5 14,bv 4 12,bt 13 (.lit 0),bt 12 (.lit 0),(11,.nil),bv 8 5,bv 7 4,bg 6 3,bt 3 (.lit 16),bt 2 (.icell (.var 6) (.lit 1) 0),bt 1 o_known7_14,bg 0 11,bg 16 0]
@[simp] def o_known7_2:Sg:=sg 0 [bv 11 1,bt 6 (.lit 3),bt 5 (.dapp (.rcons (.vint .i64 (.lit 0)) .rnil) (.dapp (.rcons (.vint .i64 (.lit 1)) .rnil) (.rcons (.vint .i64 (.lit 2)) .rnil))),bt 9 (.bl false),bt 8 (.bl true),bt 7 (.lit 3),bt 4 (.lit 3),bt 3 (.lit 3),bg 2 9,bt 1 (.lit 3),bt 0 o_known7_14,bg 10 0]
@[simp] def o_known7_1:Sg:=sg 0 [bv 11 1,bt 6 (.lit 3),bt 5 (.dapp (.rcons (.vint .i64 (.lit 0)) .rnil) (.dapp (.rcons (.vint .i64 (.lit 1)) .rnil) (.rcons (.vint .i64 (.lit 2)) .rnil))),bt 9 (.bl false),bt 8 (.bl false),bt 7 (.lit 3),bt 4 (.lit 3),bt 3 (.lit 3),bg 2 7,bt 1 (.lit 1),bt 0 o_known7_14,bg 10 0]
def o_known7:Out:=(.fresh 2 (.pre 0 o_known7_7 (.both (.fresh 3 (.fresh 4 (.fresh 5 (.fresh 6 (.post 0 0 o_known7_7 3 (.need (.cmp .leq (.lit 0) (.var 4)) (.br (.cmp .neq (.var 4) (.lit 3))
 (.stuck 7 0 0)
 (.fresh 7 (.pre 1 o_known7_1 (.both (.fresh 8 (.post 1 0 o_known7_1 8 (.br (.cmp .neq (.var 8) (.lit 1))
 (.stuck 7 0 0)
 (.fresh 9 (.pre 1 o_known7_2 (.both (.fresh 10 (.post 1 0 o_known7_2 10 (.br (.cmp .neq (.var 10) (.lit 2))
 (.stuck 7 0 0)
 (.pre 2 (sg 0 []) (.both (.fresh 11 (.fresh 12 (.fresh 13 (.post 2 0 (sg 0 []) 11 (.need (.cmp .lss (.lit 0) (.var 4)) (.need (.cmp .lss (.lit 0) (.dlen (.var 6))) (.both (.pre 3 o_known7_6 (.both (.fresh 14 (.post 3 0 o_known7_6 14 (.need (.cmp .lss (.lit 1) (.var 4)) (.need (.cmp .lss (.lit 1) (.dlen (.var 6))) (.both (.pre 4 o_known7_3 (.both (.fresh 15 (.fresh 16 (.post 4 0 o_known7_3 15 (.br (.not (.var 15))
 (.both (.both (.both (.both (.stuck 7 0 0) .top) .top) .top) .top)
 (.both (.pre 4 o_known7_4 (.both (.fresh 17 (.fresh 18 (.post 4 0 o_known7_4 17 (.br (.var 17)
 (.both (.both (.both (.stuck 7 0 0) .top) .top) .top)
 (.need (.cmp .lss (.lit 2) (.var 4)) (.need (.cmp .lss (.lit 2) (.dlen (.var 6))) (.know (.cmp .leq (.dlen (.var 6)) (.var 5)) (.need (.cmp .leq (.lit 0) (.var 5)) (.need (.cmp .leq (.lit 2) (.var 5)) (.both (.pre 5 o_known7_5 (.both (.fresh 19 (.post 5 0 o_known7_5 19 (.br (.not (.var 19))
 (.both (.both (.stuck 7 0 0) .top) .top)
 (.both (.pre 6 o_known7_8 (.both (.fresh 20 (.post 6 0 o_known7_8 20 (.both (.pre 6 o_known7_9 (.both (.fresh 21 (.post 6 0 o_known7_9 21 (.br (.c2 .req (r8 20) (r8 21))
 (.stuck 7 0 0)
 (.pre 7 (sg 0 []) (.both (.fresh 22 (.fresh 23 (.post 7 0 (sg 0 []) 22 (.fresh 24 (.fresh 25 (.pre 8 o_known7_11 (.both (.fresh 26 (.fresh 27 (.fresh 28 (.fresh 29 (.fresh 30 (.fresh 31 (.fresh 32 (.fresh 33 (.fresh 34 (.post 8 0 o_known7_11 26 (.fresh 35 (.pre 9 o_known7_12 (.both (.fresh 36 (.fresh 37 (.post 9 0 o_known7_12 36 (.fresh 38 (.both (.pre 10 (sg 0 [bt 0 (r8 36)]) (.both (.fresh 39 (.post 10 0 (sg 0 [bt 0 (r8 36)]) 39 (.pack [.cells 38 24 [(x8 0 36),(x8 1 36),(x8 2 36),(x8 3 36),(x8 4 36),(x8 5 36),(x8 6 36),(x8 7 36),(x8 8 36),(x8 9 36),(x8 10 36),(x8 11 36),(x8 12 36),(x8 13 36),(x8 14 36),(x8 15 36),(x8 16 36),(x8 17 36),(x8 18 36),(x8 19 36),(x8 20 36),(x8 21 36),(x8 22 36),(x8 23 36),(x8 24 36),(x8 25 36),(x8 26 36),(x8 27 36),(x8 28 36),(x8 29 36),(x8 30 36),(x8 31 36)],.arr 22 151 [CK.int .u32,CK.int .i32,CK.int .u32,CK.int .u8,CK.int .u8,CK.int .u8,CK.int .u8,CK.int .u8,CK.int .u8,CK.int .u8,CK.int .u8,CK.int .u8,CK.int .u8,CK.int .u8,CK.int .u8,CK.int .u8,CK.int .u8,CK.int .u8,CK.int .u8,CK.int .u8,CK.int .u8,CK.int .u8,CK.int .u8,CK.int .u8,CK.int .u8,CK.int .u8,CK.int .u8,CK.int .u8,CK.int .u8,CK.int .u8,CK.int .u8,CK.int .u8,CK.int .u8,CK.int .u8,CK.int .u8,CK.int .u8,CK.int .u8,CK.int .u8,CK.int .u8,CK.int .u8,CK.int .u8,CK.int .u8,CK.int .u8,CK.int .u8,CK.int .u8,CK.int .u8,CK.int .u8,CK.int .u8,CK.int .u8,CK.int .u8,CK.int .u8,CK.int .u8,CK.int .u8,CK.int .u8,CK.int .u8,CK.int .u8,CK.int .u8,CK.int .u8,CK.int .u8,CK.int .u8,CK.int .u8,CK.int .u8,CK.int .u8,CK.int .u8,CK.int .u8,CK.int .u8,CK.int .u8,CK.int .u8,CK.int .u8,CK.int .u8,CK.int .u8,CK.int .u8,CK.int .u8,CK.int .u8,CK.int .u8,CK.int .u8,CK.int .u8,CK.int .u8,CK.int .u8,CK.int .u8,CK.int .u8,CK.int .u8,CK.int .u8,CK.int .u8,CK.int .u8,CK.int .u8,CK.int .u8,CK.int .u8,CK.int .u8,CK.int .u8,CK.int .u8,CK.int .u8,CK.int .u8,CK.int .u8,CK.int .u8,CK.int .u8,CK.int .u8,CK.int .u8,CK.int .u8,CK.int .u8,CK.int .u8,CK.int .u8,CK.int .u8,CK.int .u8,CK.int .u8,CK.int .u8,CK.int .u8,CK.int .u8,CK.int .u8,CK.int .u8,CK.int .u8,CK.int .u8,CK.int .u8,CK.int .u8,CK.int .u8,CK.int .u8,CK.int .u8,CK.int .u8,CK.int .u8,CK.int .u8,CK.int .u8,CK.int .u8,CK.int .u8,CK.int .u8,CK.int .u8,CK.int .u8,CK.int .u8,CK.int .u8,CK.int .u8,CK.int .u8,CK.int .u8,CK.int .u8,CK.int .u8,CK.int .u8,CK.int .u8,CK.int .u8,CK.int .u8,CK.int .u8,CK.int .u8,CK.int .u8,CK.int .u8,CK.int .u8,CK.int .u8,CK.int .u8,CK.int .u8,CK.int .u8,CK.int .u8,CK.int .u8,CK.int .u8,CK.int .u8,CK.int .u8,CK.int .u8,CK.int .u8,CK.int .u8,CK.int .u8,CK.int .u8,CK.int .u8,CK.int .u8,CK.int .u8,CK.int .u8,CK.int .u8,CK.int .u8,CK.int .u8,CK.int .u8,CK.int .u8,CK.int .u8,CK.int .u8,CK.int .u8,CK.int .u8,CK.int .u8,CK.int .u8,CK.int .u8,CK.int .u8,CK.int .u8,CK.int .u8,CK.int .u8,CK.int .u8,CK.int .u8,CK.int .u8,CK.int .u8,CK.int .u8,CK.int .u8,CK.int .u8,CK.int .u8,CK.int .u8,CK.int .u8,CK.int .u8,CK.int .u8,CK.int .u8,CK.int .u8,CK.int .u8,CK.int .u8,CK.int .u8,CK.int .u8,CK.int .u8,CK.int .u8,CK.int .u8,CK.int .u8,CK.int .u8,CK.int .u8,CK.int .u8,CK.int .u8,CK.int .u8,CK.int .u8,CK.int .u8,CK.int .u8,CK.int .u8,CK.int .u8,CK.int .u8,CK.int .u8,CK.int .u8,CK.int .u8,CK.int .u8,CK.int .u8,CK.int .u8,CK.int .u8,CK.int .u8,CK.int .u8,CK.int .u8,CK.int .u8,CK.int .u8,CK.int .u8,CK.int .u8,CK.int .u8,CK.int .u8,CK.int .u8,CK.int .u8,CK.int .u8,CK.int .u8,CK.int .u8,CK.int .u8,CK.int .u8,CK.int .u8,CK.int .u8,CK.int .u8,CK.int .u8,CK.int .u8,CK.int .u8,CK.int .u8,CK.int .u8,CK.int .u8,CK.int .u8,CK.int .u8,CK.int .u8,CK.int .u8,CK.int .u8,CK.int .u8,CK.int .u8,CK.int .u8,CK.int .u8,CK.int .u8,CK.int .u8,CK.int .u8,CK.int .u8,CK.int .u8,CK.int .u8,CK.int .u8,CK.int .u8,CK.int .u8,CK.int .u8,CK.int .u8,CK.int .u8,CK.int .u8,CK.int .u8,CK.int .u8,CK.int .u8,CK.int .u8,CK.int .u8,CK.int .u8,CK.int .u8,CK.int .u8,CK.int .u8,CK.int .u8,CK.int .u8,CK.int .u8,CK.int .u8,CK.int .u8,CK.int .u8,CK.int .u8,CK.int .u8,CK.int .u8,CK.int .u8,CK.int .u8,CK.int .u8,CK.int .u8,CK.int .u8,CK.int .u8,CK.int .u8,CK.int .u8,CK.int .u8,CK.int .u8,CK.int .u8,CK.int .u8,CK.int .u8,CK.int .u8,CK.int .u8,CK.int .u8,CK.int .u8,CK.int .u8,CK.int .u8,CK.int .u8,CK.int .u8,CK.int .u8,CK.int .u8,CK.int .u8,CK.int .u8,CK.int .u8,CK.int .u8,CK.int .u8,CK.int .u8,CK.int .u8,CK.int .u8,CK.int .u8,CK.int .u8,CK.int .u8,CK.int .u8,CK.int .u8,CK.int .u8,CK.int .u8,CK.int .u8,CK.int .u8,CK.int .u8,CK.int .u8,CK.int .u8,CK.int .u8,CK.int .u8,CK.int .u8,CK.int .u8,CK.int .u8,CK.int .u8,CK.int .u8,CK.int .u8,CK.int .u8,CK.int .u8,CK.int .u8,CK.int .u8,CK.int .u8,CK.int .u8,CK.int .u8,CK.int .u8,CK.int .u8,CK.int .u8,CK.int .u8,CK.int .u8,CK.int .u8,CK.int .u8,CK.int .u8,CK.int .u8,CK.int .u8,CK.int .u8,CK.int .u8,CK.int .u8,CK.int .u8,CK.int .u8,CK.int .u8,CK.int .u8,CK.int .u8,CK.int .u8,CK.int .u8,CK.int .u8,CK.int .u8,CK.int .u8,CK.int .u8,CK.int .u8,CK.int .u8,CK.int .u8,CK.int .u8,CK.int .u8,CK.int .u8,CK.int .u8,CK.int .u8,CK.int .u8,CK.int .u8,CK.int .u8,CK.int .u8,CK.int .u8,CK.int .u8,CK.int .u8,CK.int .u8,CK.int .u8,CK.int .u8,CK.int .u8,CK.int .u8,CK.int .u8,CK.int .u8,CK.int .u8,CK.int .u8,CK.int .u8,CK.int .u8,CK.int .u8,CK.int .u8,CK.int .u8,CK.int .u8,CK.int .u8,CK.int .u8,CK.int .u8,CK.int .u8,CK.int .u8,CK.int .u8,CK.int .u8,CK.int .u8,CK.int .u8,CK.int .u8,CK.int .u8,CK.int .u8,CK.int .u8,CK.int .u8,CK.int .u8,CK.int .u8,CK.int .u8,CK.int .u8,CK.int .u8,CK.int .u8,CK.int .u8,CK.int .u8,CK.int .u8,CK.int .u8,CK.int .u8,CK.int .u8,CK.int .u8,CK.int .u8,CK.int .u8,CK.int .u8,CK.int .u8,CK.int .u8,CK.int .u8,CK.int .u8,CK.int .u8,CK.int .u8,CK.int .u8,CK.int .u8,CK.int .u8,CK.int .u8,CK.int .u8,CK.int .u8,CK.int .u8,CK.int .u8,CK.int .u8,CK.int .u8,CK.int .u8,CK.int .u8,CK.int .u8,CK.int .u8,CK.int .u8,CK.int .u8,CK.int .u8,CK.int .u8,CK.int .u8,CK.int .u8,CK.int .u8,CK.int .u8,CK.int .u8,CK.int .u8,CK.int .u8,CK.int .u8,CK.int .u8,CK.int .u8,CK.int .u8,CK.int .u8,CK.int .u8,CK.int .u8,CK.int .u8,CK.int .u8,CK.int .u8,CK.int .u8,CK.int .u8,CK.int .u8,CK.int .u8,CK.int .u8,CK.int .u8,CK.int .u8,CK.int .u8,CK.int .u8,CK.int .u8,CK.int .u8,CK.int .u8,CK.int .u8,CK.int .u8,CK.int .u8,CK.int .u8,CK.int .u8,CK.int .u8,CK.int .u8,CK.int .u8,CK.int .u8,CK.int .u8,CK.int .u8,CK.int .u8,CK.int .u8,CK.int .u8,CK.int .u8,CK.int .u8,CK.int .u8,CK.int .u8,CK.int .u8,CK.int .u8,CK.int .u8,CK.int .u8,CK.int .u8,CK.int .u8,CK.int .u8,CK.int .u8,CK.int .u8,CK.int .u8,CK.int .u8,CK.int .u8,CK.int .u8,CK.int .u8,CK.int .u8,CK.int .u8,CK.int .u8,CK.int .u8,CK.int .u8,CK.int .i64,CK.int .i64,CK.int .i64,CK.int .i64,CK.int .i64,CK.int .i64,CK.int .i64,CK.int .i64,CK.int .i64,CK.int .i64,CK.int .i64,CK.int .i64,CK.int .i64,CK.int .i64,CK.int .i64,CK.int .i64,CK.int .i64,CK.int .i64,CK.int .i64,CK.int .i64,CK.int .i64,CK.int .i64,CK.int .i64,CK.int .i64,CK.int .i64,CK.int .i64,CK.int .i64,CK.int .i64,CK.int .i64,CK.int .i64,CK.int .i64,CK.int .i64,CK.int .i64,CK.int .i64,CK.int .i64,CK.int .i64,CK.int .i64,CK.int .i64,CK.int .i64,CK.int .i64,CK.int .i64,CK.int .i64,CK.int .i64,CK.int .i64,CK.int .i64,CK.int .i64,CK.int .i64,CK.int .i64,CK.int .i64,CK.int .i64,CK.int .i64,CK.int .i64,CK.int .i64,CK.int .i64,CK.int .i64,CK.int .i64,CK.int .i64,CK.int .i64,CK.int .i64,CK.int .i64,CK.int .i64,CK.int .i64,CK.int .i64,CK.int .i64,CK.int .i64,CK.int .i64,CK.int .i64,CK.int .i64,CK.int .i64,CK.int .i64,CK.int .i64,CK.int .i64,CK.int .i64,CK.int .i64,CK.int .i64,CK.int .i64,CK.int .i64,CK.int .i64,CK.int .i64,CK.int .i64,CK.int .i64,CK.int .i64,CK.int .i64,CK.int .i64,CK.int .i64,CK.int .i64,CK.int .i64,CK.int .i64,CK.int .i64,CK.int .i64,CK.int .i64,CK.int .i64,CK.int .i64,CK.int .i64,CK.int .i64,CK.int .i64,CK.int .i64,CK.int .i64,CK.int .i64,CK.int .i64,CK.int .i64,CK.int .i64,CK.int .i64,CK.int .i64,CK.int .i64,CK.int .i64,CK.int .i64,CK.int .i64,CK.int .i64,CK.int .i64,CK.int .i64,CK.int .i64,CK.int .i64,CK.int .i64,CK.int .i64,CK.int .i64,CK.int .i64,CK.int .i64,CK.int .i64,CK.int .i64,CK.int .i64,CK.int .i64,CK.int .i64,CK.int .i64,CK.int .i64,CK.int .i64,CK.int .i64,CK.int .i64,CK.int .i64,CK.int .i64,CK.int .i64,CK.int .i64,CK.int .i64,CK.int .i64,CK.int .i64,CK.int .i64,CK.int .i64,CK.int .i64,CK.int .i64,CK.int .i64,CK.int .i64,CK.int .i64,CK.int .i64,CK.int .i64,CK.int .i64,CK.int .i64,CK.int .i64,CK.int .i64,CK.int .i64,CK.int .i64,CK.int .i64,CK.int .i64,CK.int .i64,CK.int .i64,CK.int .i64,CK.int .i64,CK.int .i64,CK.int .i64,CK.int .i64,CK.int .i64,CK.int .i64,CK.int .i64,CK.int .i64,CK.int .i64,CK.int .i64,CK.int .i64,CK.int .i64,CK.int .i64,CK.int .i64,CK.int .i64,CK.int .i64,CK.int .i64,CK.int .i64,CK.int .i64,CK.int .i64,CK.int .i64,CK.int .i64,CK.int .i64,CK.int .i64,CK.int .i64,CK.int .i64,CK.int .i64,CK.int .i64,CK.int .i64,CK.int .i64,CK.int .i64,CK.int .i64,CK.int .i64,CK.int .i64,CK.int .i64,CK.int .i64,CK.int .i64,CK.int .i64,CK.int .i64,CK.int .i64,CK.int .i64,CK.int .i64,CK.int .i64,CK.int .i64,CK.int .i64,CK.int .i64,CK.int .i64,CK.int .i64,CK.int .i64,CK.int .i64,CK.int .i64,CK.int .i64,CK.int .i64,CK.int .i64,CK.int .i64,CK.int .i64,CK.int .i64,CK.int .i64,CK.int .i64,CK.int .i64,CK.int .i64,CK.int .i64,CK.int .i64,CK.int .i64,CK.int .i64,CK.int .i64,CK.int .i64,CK.int .i64,CK.int .i64,CK.int .i64,CK.int .i64,CK.int .i64,CK.int .i64,CK.int .i64,CK.int .i64,CK.int .i64,CK.int .i64,CK.int .i64,CK.int .i64,CK.int .i64,CK.int .i64,CK.int .i64,CK.int .i64,CK.int .i64,CK.int .i64,CK.int .i64,CK.int .i64,CK.int .i64,CK.int .i64,CK.int .i64,CK.int .i64,CK.int .i64,CK.int .i64,CK.int .i64,CK.int .i64,CK.int .i64,CK.int .i64,CK.int .i64,CK.int .i64,CK.int .i64,CK.int .i64] (.var 31) (.lit 1),.cells 11 179 [(.var 12)],.cells 9 3 [(.vint .i64 (.lit 0)),(.vint .i64 (.lit 1)),(.vint .i64 (.lit 2))],.cells 7 3 [(.vint .i64 (.lit 0)),(.vint .i64 (.lit 1)),(.vint .i64 (.lit 2))],.arr 3 3 [CK.int .i64] (.var 6) (.var 5),.cells 2 24 [(.vint .u8 (.lit 1)),o8,o8,o8,o8,o8,o8,o8,o8,o8,o8,o8,o8,o8,o8,o8,o8,o8,o8,o8,o8,o8,o8,o8,o8,o8,o8,o8,o8,o8,o8,o8]] 40 (.cut 0 39 (sg 1000 [bg 1018 34,bv 1017 33,bv 1014 32,bv 1013 28,bg 1012 27,bt 1011 (r8 26),bg 1009 40,bt 1008 .dnil,bt 1004 (.lit 0),bt 1003 .dnil,bt 1007 (.lit 0),bt 1006 (.lit 0),(1005,.nil),(1002,.nil),bt 1001 (s8 36),bg 1000 39,bv 1016 30,bg 1015 29,bg 1010 35]))))) .top)) (.fresh 39 (.fresh 40 (.fresh 41 (.fresh 42 (.fresh 43 (.fresh 44 (.fresh 45 (.fresh 46 (.fresh 47 (.fresh 48 (.fresh 49 (.fresh 50 (.fresh 51 (.fresh 52 (.fresh 53 (.fresh 54 (.fresh 55 (.fresh 56 (.fresh 57 (.hyp 0 39 (.need (.cmp .lss (.lit 0) (.dlen (.var 56))) (.both (.viewL (.vcell (.var 56) (.lit 0) 1) [CK.int .u8] [57] 58 (.pre 11 o_known7_10 (.both (.fresh 61 (.fresh 62 (.fresh 63 (.fresh 64 (.fresh 65 (.fresh 66 (.fresh 67 (.fresh 68 (.fresh 69 (.post 11 0 o_known7_10 61 (.both (.both (.both (.br (.cmp .eql (.var 69) (.lit 0))
 (.both (.both (.pre 12 o_known7_13 (.both (.fresh 70 (.post 12 0 o_known7_13 70 (.both (.both (.br (.var 70)
 (.both (.both (.pre 13 o_known7_13 (.both (.fresh 71 (.fresh 72 (.fresh 73 (.fresh 74 (.post 13 0 o_known7_13 71 (.both (.need (.cmp .leq (.lit 0) (.var 72)) (.both (.both (.both (.need (.beq (.bl true) (.cmp .eql (.var 72) (.lit 1))) (.ret 0 (sg 2 []))) .top) .top) .top)) .top)))))) .top)) .top) .top)
 (.both (.both (.both (.both (.both (.both (.stuck 7 0 0) .top) .top) .top) .top) .top) .top)) .top) .top))) .top)) .top) .top)
 (.both (.both (.both (.both (.both (.both (.both (.both (.both (.both (.stuck 7 0 0) .top) .top) .top) .top) .top) .top) .top) .top) .top) .top)) .top) .top) .top))))))))))) .top))) .top))))))))))))))))))))))))))) .top))))))))))))) .top))))))) .top))))) .top)) .top))) .top)) .top)))) .top)) .top)))))))))) .top)) .top))))) .top)) .top))))) .top)) .top))))))) .top))))) .top)))))) .top)))))))))) .top)))
theorem o_known7_eq:treeOf ⟨Tryz.prog,known7C,[rankingC,dutyC,newClC,noteC,blockedC,covSC,scoreC,newFieldC,makeGC,idC,newGaC,offerC,readyC,indsC],[known7J]⟩ 100000 Tryz.f31 = o_known7:=by kernel_rfl
theorem known7_of (hd:∀ c ∈ ([rankingC,dutyC,newClC,noteC,blockedC,covSC,scoreC,newFieldC,makeGC,idC,newGaC,offerC,readyC,indsC]:List Ctr),c.ok Tryz.prog) (h:∀ ρ:Env,ρ.good→(known7C).pre ρ→o_known7.den ⟨Tryz.prog,known7C,[rankingC,dutyC,newClC,noteC,blockedC,covSC,scoreC,newFieldC,makeGC,idC,newGaC,offerC,readyC,indsC],[known7J]⟩ ρ):(known7C).ok Tryz.prog :=
 ok_of_tree Tryz.func31 (fun a w=>Tryz.call31 a w) hd 100000 (fun ρ hg hp=>by rw [o_known7_eq]; exact h ρ hg hp)
end Go.Proofs

set_option linter.unusedSimpArgs false
set_option linter.unusedVariables false
namespace Go.Proofs
open Go Go.Eng
def d1:List Int:=1 :: List.replicate 31 0
theorem d1_bet01:betF d1 0 1 = true:=by decide +kernel
theorem d1_bet02:betF d1 0 2 = true:=by decide +kernel
theorem d1_bet12:betF d1 1 2 = true:=by decide +kernel
theorem d1_score:¬ scoreF d1 0 = scoreF d1 1:=by decide +kernel
theorem d1_sort:sortF d1 [0,1,2] = [0,1,2]:=by
 symm
 refine sortF_uniq ⟨List.Perm.refl _,?_⟩ (by decide)
 simp [d1_bet01,d1_bet02,d1_bet12]
theorem peers012:peersL [0,1,2] = [0,1,2]:=by decide
theorem d1_rank:rankingF d1 3 = [0,1,2]:=by
 have h:upTo 3 = [0,1,2]:=by decide
 rw [rankingF,h,chosenF,peers012,d1_sort]; rfl
theorem d1_chosen:chosenF d1 [0,1,2] 3 = [0,1,2]:=by
 rw [chosenF,peers012,d1_sort]; rfl
theorem d1_duty1:dutyF d1 1 [0,1,2] 3 false false = 1:=by simp [dutyF,d1_chosen]
theorem d1_duty2:dutyF d1 3 [0,1,2] 3 true false = 2:=by simp [dutyF,d1_chosen]
theorem d1_cov:covF d1 2 2 [0,1] = true:=by
 have h:peersL [0,1] = [0,1]:=by decide
 rw [covF,h]; simp [d1_bet02,d1_bet12]
def cl1:Cl:=noteF (fun _ _=>none) d1 0 5
theorem d1_block16:blockedF cl1 d1 1 16 [0,1,2] [] = true:=by
 rw [blockedF,List.any_eq_true]
 refine ⟨0,by simp,?_⟩
 have h:cl1 d1 ((0:Nat):Int) = some 5:=by simp [cl1,noteF]
 rw [h]
 simp [d1_bet01,curF]
theorem d1_block17:blockedF cl1 d1 1 17 [0,1,2] [] = false:=by
 rw [blockedF,List.any_eq_false]
 intro i _
 by_cases hi:i = 0
 ·subst hi
  have h:cl1 d1 ((0:Nat):Int) = some 5:=by simp [cl1,noteF]
  rw [h]; simp [curF]
 ·have h:cl1 d1 ((i:Nat):Int) = none:=by simp [cl1,noteF,hi]
  rw [h]; simp
end Go.Proofs

set_option linter.unusedSimpArgs false
set_option linter.unusedVariables false
namespace Go.Proofs
open Go Go.Eng
theorem rowL_d1:rowL [[Value.int .u8 1,.int .u8 0,.int .u8 0,.int .u8 0,.int .u8 0,.int .u8 0,.int .u8 0,.int .u8 0,.int .u8 0,.int .u8 0,.int .u8 0,.int .u8 0,.int .u8 0,.int .u8 0,.int .u8 0,.int .u8 0,.int .u8 0,.int .u8 0,.int .u8 0,.int .u8 0,.int .u8 0,.int .u8 0,.int .u8 0,.int .u8 0,.int .u8 0,.int .u8 0,.int .u8 0,.int .u8 0,.int .u8 0,.int .u8 0,.int .u8 0,.int .u8 0]] 32 = d1:=by rfl
theorem d1_allM:allM d1:=by intro x hx; simp [d1] at hx; rcases hx with rfl | rfl <;> decide
theorem ga_empty {h:Hp}:gaIs h none [] 0 0 [] none []:=by
 refine ⟨rfl,⟨rfl,?_,?_⟩,?_,by decide,.inl ⟨rfl,rfl,rfl,rfl,rfl⟩⟩
 ·intro j hj; exact absurd hj (Nat.not_lt_zero j)
 ·intro j hj; exact absurd hj (Nat.not_lt_zero j)
 ·intro x hx; cases hx
theorem top11:(topE 1 1).2.2 = 1:=by kernel_rfl
theorem allB_one:allB [[Value.int .u8 120]]:=by intro row hr; simp at hr; subst hr; decide
set_option pp.funBinderTypes false
set_option format.width 2000
set_option format.indent 1
set_option maxRecDepth 20000 in
set_option maxHeartbeats 4000000 in
theorem known7_ok_of (hd:∀ c ∈ ([rankingC,dutyC,newClC,noteC,blockedC,covSC,scoreC,newFieldC,makeGC,idC,newGaC,offerC,readyC,indsC]:List Ctr),c.ok Tryz.prog):known7C.ok Tryz.prog:=known7_of hd fun ρ hg hp=>by
 obtain ⟨hGr,hGd⟩:=hp
 simp (config:={ maxSteps:=4000000 }) [o_known7,known7C,known7J,rankingC,dutyC,duPre,newClC,noteC,blockedC,blPre,covSC,covC,intsPre,scoreC,newFieldC,makeGC,makeC,idC,idAlts,idPre,newGaC,offerC,offPre,readyC,indsC,manO,manB,manT,cellsT,manAt,manIn,pieceArg,pieceArgIn,pieceHp,argM,i64P,intsIn,iHpA,gaB,gOk,hGr,hGd,rowL_d1,d1_allM]
 have e012:ints [[Value.int IntKind.i64 0],[Value.int IntKind.i64 1],[Value.int IntKind.i64 2]] = [0,1,2]:=rfl
 intro _ _ l0 _ n _ c _ D _ hl
 obtain ⟨hn,hD,hrow⟩:=hl
 rw [d1_rank] at hD
 have hDl:D.d.length = 3:=by have:=congrArg List.length hD; simpa [ints] using this
 refine ⟨by omega,by omega,fun _ _ _ x5 _ h5=>?_⟩
 rw [e012,d1_duty1] at h5
 refine ⟨h5,fun _ _ _ x6 _ h6=>?_⟩
 rw [e012,d1_duty2] at h6
 refine ⟨h6,fun _ _ _ v _ H0 _ hc0=>⟨by omega,by omega,⟨_,hc0⟩,fun H1 _ hc1=>?_⟩⟩
 have g0:cellI D.d 0 0 = 0:=by rw [ints_at (d:=D.d) (by omega) (by omega),hD]; rfl
 have g1:cellI D.d 1 0 = 1:=by rw [ints_at (d:=D.d) (by omega) (by omega),hD]; rfl
 have g2:cellI D.d 2 0 = 2:=by rw [ints_at (d:=D.d) (by omega) (by omega),hD]; rfl
 have hcl:=hc1 _ hc0
 rw [g0] at hcl
 refine ⟨by omega,by omega,⟨⟨_,hcl⟩,by omega,by omega,hrow⟩,fun b1 _ H2 _ hb1=>?_⟩
 obtain ⟨hcl2,hb1⟩:=hb1 _ hcl
 rw [g1,hD] at hb1
 have hb1':b1.b = true:=hb1.trans d1_block16
 refine ⟨hb1',fun _=>⟨⟨⟨_,hcl2⟩,by omega,by omega,hrow⟩,fun b2 _ H3 _ hb2=>?_⟩⟩
 obtain ⟨hcl3,hb2⟩:=hb2 _ hcl2
 rw [g1,hD] at hb2
 have hb2':b2.b = false:=hb2.trans d1_block17
 refine ⟨hb2',fun _=>⟨by omega,by omega,fun hcap=>⟨by omega,by omega,⟨by omega,hrow⟩,fun b3 _ hb3=>?_⟩⟩⟩
 rw [g2,hD] at hb3
 have hb3':b3.b = true:=hb3.trans d1_cov
 refine ⟨hb3',fun _ s0 _ hs0 s1 _ hs1=>?_⟩
 rw [hs0,hs1]
 refine ⟨d1_score,fun _ _ _ fl _ hfl _ _ _ _=>⟨⟨⟨.inl hfl,allB_one,fun _=>top11⟩,by decide⟩,?_⟩⟩
 intro o _ _ _ f _ _ _ _ _ _ _ Ds _ P _ Hp _ _ _ hPl hE ho hDs hdg _ _
 have hDl1:Ds.d.length = 1:=by
  have:=congrArg List.length hdg
  rw [madeAt_len] at this; simpa [dgs] using this
 have hoM:allM (rowL o.d 32):=by rw [ho]; exact sha_allM _
 have hm1:manOk 1 1 1 1 1 = true:=by decide
 refine ⟨⟨by omega,hoM,hDs⟩,fun ID _ e _ hid gn _=>⟨fun _ _ _ _ _=>?_,?_⟩⟩
 ·obtain ⟨q1,q2⟩:=enc_pc hE
  refine ⟨ga_empty,hoM,hDs,hDl1,hPl,q1,(q2 0 (by decide)).1,?_,?_⟩
  ·exact made_chk (data:=[120]) hm1 (by intro x hx; simp at hx; subst hx; exact ⟨by decide,by decide⟩) rfl hdg (by decide) (by decide) (q2 0 (by decide)).2
  ·rcases hid with ⟨h,_⟩ | ⟨_,_,h⟩
   ·exact absurd h (by decide)
   ·exact h
 intro ar _ id _ mr _ mp _ mc _ pr _ pl _ pq _ pd _ gh _ bm _ om _ dr _ dq _ dd _ br _ bq _ bp _ bh _ hga hom hdd hdl hbl hpk hpi hck hid2
 obtain ⟨v0,B0,eP,hv,hRd,hB,hpd⟩:=pc_at hpk (j:=0) (by decide)
 obtain ⟨_,_,_,hlen,hsum⟩:=chkE_zero hck
 have hB1:B0.length = 1:=by rw [hpd,bI_len] at hlen; rw [show plenI 1 1 = 1 from rfl] at hlen; omega
 have hci:cellI bp.d 0 0 = 0:=hpi
 have hidM:allM (rowL id.d 32):=by rw [hid2]; exact sha_allM _
 have hck':chkE 1 1 1 1 1 (dgs dd.d) 0 (bI B0) = 0:=by rw [← hpd]; exact hck
 have hddl:(dgs dd.d).length = 1:=by simpa [dgs] using hdl
 have hoff:offE (rowL id.d 32) none [] { k:=1,n:=1,t:=1,s:=1,o:=rowL om.d 32,D:=dgs dd.d } 0 (bI B0) = 0:=by
  have hok:ManV.ok { k:=1,n:=1,t:=1,s:=1,o:=rowL om.d 32,D:=dgs dd.d } = true:=by simp only [ManV.ok,hddl]; decide
  have hbt:sha (ManV.bytes { k:=1,n:=1,t:=1,s:=1,o:=rowL om.d 32,D:=dgs dd.d }) = rowL id.d 32:=hid2.symm
  rw [offE,if_neg (by rw [hok]; decide),if_neg (fun h=>h hbt)]
  simp [hddl,hck',readyF]
 refine ⟨by omega,B0,by rw [show (0:Int) = ((0:Nat):Int) from rfl,hv]; exact hRd,?_⟩
 rw [hci]
 intro vr _ vc _ _ hcap
 refine ⟨⟨⟨_,_,hga⟩,hidM,⟨hom,by omega,hdd⟩,by decide,⟨by omega,by omega,hB⟩,by omega⟩,?_⟩
 intro _ _ _ _ _ _ _ _ _ _ _ _ _ _ _ _ oe _ hofr
 obtain ⟨he0,hga2⟩:=hofr _ _ hga
 rw [hoff] at he0
 rw [if_pos he0,if_pos he0] at hga2
 refine ⟨fun _=>⟨⟨_,_,hga2⟩,fun rb _ hrb=>?_⟩,he0⟩
 have hr1:=hrb _ _ hga2
 have hr2:rb.b = true:=by rw [hr1]; rfl
 refine ⟨fun _=>⟨⟨_,_,hga2⟩,fun _ _ il _ _ _ di _ hi=>?_⟩,hr2⟩
 obtain ⟨hi1,hi2,_⟩:=hi _ _ hga2
 have hdi:di.d.length = 1:=by
  have:=congrArg List.length hi2
  rw [ints_len] at this; simpa using this
 exact ⟨by omega,by omega,trivial⟩
theorem chosen_ok':chosenC.ok Tryz.prog:=chosen_ok sort_ok
theorem known7_ok:known7C.ok Tryz.prog:=known7_ok_of (by simp [ranking_ok chosen_ok',duty_ok chosen_ok',newCl_ok,note_ok,blocked_ok,covS_ok,score_ok,newField_ok,makeG_ok,id_ok,newGa_ok,offer_ok,ready_ok,inds_ok])
end Go.Proofs

set_option linter.unusedSimpArgs false
set_option linter.unusedVariables false
namespace Go.Eng
open Go Go.Proofs
end Go.Eng

set_option linter.unusedSimpArgs false
set_option linter.unusedVariables false
namespace Go.Eng
open Go Go.Proofs
def lawOrderC:Ctr:={ fn := 5,nv:=4,ip:=[gIp 2,(1001,9),(1002,9)],args:=[dgV 0,iv .i64 (.var 1)],heap:=[],ro:=[gHp 2 3],pre:=fun ρ=>allM (rowL (ρ 0).d 32)∧i64P (ρ 1).i∧gOk ρ 2 3 gR,alts:=[lawTrue] }
def orderI1:Inv:={ key:=2,nv:=2,env:=[(1,iv .i64 (.var 1)),(2,objP 1000),(5,iv .i64 (.var 1001))],heap:=[objHp 1000],inv:=(fun ρ=>0 ≤ (ρ 1001).i∧(ρ 1001).i ≤ 16),mu:=(fun ρ=>(16 - (ρ 1001).i).toNat) }
def orderI2:Inv:={ key:=5,nv:=3,env:=[(1,iv .i64 (.var 1)),(2,objP 1000),(5,iv .i64 (.var 1001)),(6,iv .i64 (.var 1002))],heap:=[objHp 1000],inv:=(fun ρ=>0 ≤ (ρ 1002).i∧(ρ 1002).i ≤ 16∧(ρ 1001).i = (ρ 6).i),mu:=(fun ρ=>(16 - (ρ 1002).i).toNat) }
def orderJ0:Inv:={ key:=1000012,nv:=2,env:=[(1,iv .i64 (.var 1)),(2,objP 1000),(7,iv .i64 (.var 1001))],heap:=[objHp 1000],inv:=(fun ρ=>(ρ 1001).i = max (ρ 1).i 0),mu:=fun _=>0 }
def orderJ:Inv:={ key:=1000014,nv:=2,env:=[(1,iv .i64 (.var 1)),(2,objP 1000),(7,iv .i64 (.var 1001))],heap:=[objHp 1000],inv:=(fun ρ=>(ρ 1001).i = min (max (ρ 1).i 0) 16),mu:=fun _=>0 }
def ordIs (o:List Int) (k:Int) (d:Rows') (n m:Int):Prop:=n = min (max k 0) 16∧m = n∧isInts d m (rankingF o k)
def orderI3:Inv:={ key:=18,nv:=7,env:=[(2,objP 1000),(7,iv .i64 (.var 1001)),(8,.one (.vslice 1002 (.lit 0) (.var 1003) (.var 1004) 1)),(9,iv .i64 (.var 1006))],heap:=[objHp 1000,iHp 1002 1005 1004],inv:=(fun ρ=>ordIs (rowL (ρ 0).d 32) (ρ 1).i (ρ 1005).d (ρ 1001).i (ρ 1003).i∧0 ≤ (ρ 1006).i∧(ρ 1006).i ≤ (ρ 1001).i),mu:=(fun ρ=>((ρ 1001).i - (ρ 1006).i).toNat) }
def orderI4:Inv:={ key:=23,nv:=8,env:=[(2,objP 1000),(7,iv .i64 (.var 1001)),(8,.one (.vslice 1002 (.lit 0) (.var 1003) (.var 1004) 1)),(9,iv .i64 (.var 1006)),(10,iv .i64 (.var 1007))],heap:=[objHp 1000,iHp 1002 1005 1004],inv:=(fun ρ=>ordIs (rowL (ρ 0).d 32) (ρ 1).i (ρ 1005).d (ρ 1001).i (ρ 1003).i∧0 ≤ (ρ 1006).i∧(ρ 1006).i < (ρ 1001).i∧0 ≤ (ρ 1007).i∧(ρ 1007).i ≤ (ρ 1006).i∧(ρ 1006).i = (ρ 21).i),mu:=(fun ρ=>((ρ 1006).i - (ρ 1007).i).toNat) }
end Go.Eng

set_option linter.unusedSimpArgs false
set_option linter.unusedVariables false
set_option maxRecDepth 100000
namespace Go.Proofs
open Go Go.Eng

@[simp] def o_lawOrder_1:Sg:=sg 0 [bv 4 3,bt 2 (.icell (.var 20) (.var 21) 0),bt 1 (.icell (.var 20) (.arith .sub .i64 (.var 21) (.lit 1)) 0),bt 0 (r8 0),bg 3 2]
def o_lawOrder:Out:=(.fresh 4 (.inv 0 5 (sg 1000 [bt 1001 (.lit 0),bg 1000 4]) (.fresh 5 (.fresh 6 (.hyp 0 5 (.br (.cmp .lss (.var 6) (.lit 16))
 (.inv 1 7 (sg 1000 [bt 1002 (.lit 0),bv 1001 6,bg 1000 5]) (.fresh 7 (.fresh 8 (.fresh 9 (.hyp 1 7 (.br (.cmp .lss (.var 9) (.lit 16))
 (.both (.pre 0 (sg 0 [bv 4 3,bv 2 9,bv 1 8,bt 0 (r8 0),bg 3 2]) (.both (.fresh 10 (.post 0 0 (sg 0 [bv 4 3,bv 2 9,bv 1 8,bt 0 (r8 0),bg 3 2]) 10 (.both (.pre 0 (sg 0 [bv 4 3,bv 2 8,bv 1 9,bt 0 (r8 0),bg 3 2]) (.both (.fresh 11 (.post 0 0 (sg 0 [bv 4 3,bv 2 8,bv 1 9,bt 0 (r8 0),bg 3 2]) 11 (.br (.not (.beq (.beq (.var 10) (.var 11)) (.cmp .eql (.var 8) (.var 9))))
 (.stuck 7 0 0)
 (.back 1 7 (sg 1000 [bt 1002 (.arith .add .i64 (.var 9) (.lit 1)),bv 1001 8,bg 1000 7]))))) .top)) .top))) .top)) .top)
 (.back 0 5 (sg 1000 [bt 1001 (.arith .add .i64 (.var 8) (.lit 1)),bg 1000 7]))))))))
 (.both (.br (.cmp .lss (.var 1) (.lit 0))
 (.cut 2 7 (sg 1000 [bt 1001 (.lit 0),bg 1000 5]))
 (.cut 2 7 (sg 1000 [bv 1001 1,bg 1000 5]))) (.fresh 7 (.fresh 8 (.hyp 2 7 (.both (.br (.cmp .gtr (.var 8) (.lit 16))
 (.cut 3 9 (sg 1000 [bt 1001 (.lit 16),bg 1000 7]))
 (.cut 3 9 (sg 1000 [bv 1001 8,bg 1000 7]))) (.fresh 9 (.fresh 10 (.hyp 3 9 (.pre 1 (sg 0 [bv 3 3,bv 1 1,bt 0 (r8 0),bg 2 2]) (.both (.fresh 11 (.fresh 12 (.fresh 13 (.fresh 14 (.post 1 0 (sg 0 [bv 3 3,bv 1 1,bt 0 (r8 0),bg 2 2]) 11 (.need (.cmp .leq (.lit 0) (.var 12)) (.br (.cmp .neq (.var 12) (.var 10))
 (.stuck 7 0 0)
 (.inv 4 15 (sg 1000 [bv 1005 14,bt 1006 (.lit 0),bv 1004 13,bv 1003 12,bg 1002 11,bv 1001 10,bg 1000 9]) (.fresh 15 (.fresh 16 (.fresh 17 (.fresh 18 (.fresh 19 (.fresh 20 (.fresh 21 (.hyp 4 15 (.br (.cmp .lss (.var 21) (.var 16))
 (.need (.cmp .leq (.lit 0) (.var 21)) (.need (.cmp .lss (.var 21) (.var 18)) (.need (.cmp .lss (.var 21) (.dlen (.var 20))) (.br (.cmp .lss (.icell (.var 20) (.var 21) 0) (.lit 0))
 (.both (.stuck 7 0 0) .top)
 (.br (.cmp .geq (.icell (.var 20) (.var 21) 0) (.var 16))
 (.both (.stuck 7 0 0) .top)
 (.br (.cmp .gtr (.var 21) (.lit 0))
 (.need (.cmp .leq (.lit 0) (.arith .sub .i64 (.var 21) (.lit 1))) (.need (.cmp .lss (.arith .sub .i64 (.var 21) (.lit 1)) (.var 18)) (.need (.cmp .lss (.arith .sub .i64 (.var 21) (.lit 1)) (.dlen (.var 20))) (.both (.pre 0 o_lawOrder_1 (.both (.fresh 22 (.post 0 0 o_lawOrder_1 22 (.br (.not (.var 22))
 (.stuck 7 0 0)
 (.inv 5 23 (sg 1000 [bv 1005 20,bt 1007 (.lit 0),bv 1006 21,bv 1004 19,bv 1003 18,bg 1002 17,bv 1001 16,bg 1000 15]) (.fresh 23 (.fresh 24 (.fresh 25 (.fresh 26 (.fresh 27 (.fresh 28 (.fresh 29 (.fresh 30 (.hyp 5 23 (.br (.cmp .lss (.var 30) (.var 29))
 (.need (.cmp .leq (.lit 0) (.var 30)) (.need (.cmp .lss (.var 30) (.var 26)) (.need (.cmp .lss (.var 30) (.dlen (.var 28))) (.need (.cmp .leq (.lit 0) (.var 29)) (.need (.cmp .lss (.var 29) (.var 26)) (.need (.cmp .lss (.var 29) (.dlen (.var 28))) (.br (.cmp .eql (.icell (.var 28) (.var 30) 0) (.icell (.var 28) (.var 29) 0))
 (.both (.stuck 7 0 0) .top)
 (.both (.pre 0 (sg 0 [bv 4 3,bt 2 (.icell (.var 28) (.var 29) 0),bt 1 (.icell (.var 28) (.var 30) 0),bt 0 (r8 0),bg 3 2]) (.both (.fresh 31 (.post 0 0 (sg 0 [bv 4 3,bt 2 (.icell (.var 28) (.var 29) 0),bt 1 (.icell (.var 28) (.var 30) 0),bt 0 (r8 0),bg 3 2]) 31 (.br (.not (.var 31))
 (.stuck 7 0 0)
 (.back 5 23 (sg 1000 [bv 1005 28,bt 1007 (.arith .add .i64 (.var 30) (.lit 1)),bv 1006 29,bv 1004 27,bv 1003 26,bg 1002 25,bv 1001 24,bg 1000 23]))))) .top)) .top))))))))
 (.back 4 15 (sg 1000 [bv 1005 28,bt 1006 (.arith .add .i64 (.var 29) (.lit 1)),bv 1004 27,bv 1003 26,bg 1002 25,bv 1001 24,bg 1000 23])))))))))))))))) .top)) .top))))
 (.both (.inv 5 22 (sg 1000 [bv 1005 20,bt 1007 (.lit 0),bv 1006 21,bv 1004 19,bv 1003 18,bg 1002 17,bv 1001 16,bg 1000 15]) (.fresh 22 (.fresh 23 (.fresh 24 (.fresh 25 (.fresh 26 (.fresh 27 (.fresh 28 (.fresh 29 (.hyp 5 22 (.br (.cmp .lss (.var 29) (.var 28))
 (.need (.cmp .leq (.lit 0) (.var 29)) (.need (.cmp .lss (.var 29) (.var 25)) (.need (.cmp .lss (.var 29) (.dlen (.var 27))) (.need (.cmp .leq (.lit 0) (.var 28)) (.need (.cmp .lss (.var 28) (.var 25)) (.need (.cmp .lss (.var 28) (.dlen (.var 27))) (.br (.cmp .eql (.icell (.var 27) (.var 29) 0) (.icell (.var 27) (.var 28) 0))
 (.both (.stuck 7 0 0) .top)
 (.both (.pre 0 (sg 0 [bv 4 3,bt 2 (.icell (.var 27) (.var 28) 0),bt 1 (.icell (.var 27) (.var 29) 0),bt 0 (r8 0),bg 3 2]) (.both (.fresh 30 (.post 0 0 (sg 0 [bv 4 3,bt 2 (.icell (.var 27) (.var 28) 0),bt 1 (.icell (.var 27) (.var 29) 0),bt 0 (r8 0),bg 3 2]) 30 (.br (.not (.var 30))
 (.stuck 7 0 0)
 (.back 5 22 (sg 1000 [bv 1005 27,bt 1007 (.arith .add .i64 (.var 29) (.lit 1)),bv 1006 28,bv 1004 26,bv 1003 25,bg 1002 24,bv 1001 23,bg 1000 22]))))) .top)) .top))))))))
 (.back 4 15 (sg 1000 [bv 1005 27,bt 1006 (.arith .add .i64 (.var 28) (.lit 1)),bv 1004 26,bv 1003 25,bg 1002 24,bv 1001 23,bg 1000 22]))))))))))))) .top)))))))
 (.pre 2 (sg 0 [bv 1 3,bg 0 2]) (.both (.post 2 0 (sg 0 [bv 1 3,bg 0 2]) 22 (.ret 0 (sg 4 []))) .top))))))))))))))))))) .top))))))))))))))))
theorem o_lawOrder_eq:treeOf ⟨Tryz.prog,lawOrderC,[betterC,rankingC,known7C],[orderI1,orderI2,orderJ0,orderJ,orderI3,orderI4]⟩ 100000 Tryz.f5 = o_lawOrder:=by kernel_rfl
theorem lawOrder_of (hd:∀ c ∈ ([betterC,rankingC,known7C]:List Ctr),c.ok Tryz.prog) (h:∀ ρ:Env,ρ.good→(lawOrderC).pre ρ→o_lawOrder.den ⟨Tryz.prog,lawOrderC,[betterC,rankingC,known7C],[orderI1,orderI2,orderJ0,orderJ,orderI3,orderI4]⟩ ρ):(lawOrderC).ok Tryz.prog :=
 ok_of_tree Tryz.func5 (fun a w=>Tryz.call5 a w) hd 100000 (fun ρ hg hp=>by rw [o_lawOrder_eq]; exact h ρ hg hp)
end Go.Proofs

set_option linter.unusedSimpArgs false
set_option linter.unusedVariables false
namespace Go.Proofs
open Go Go.Eng
theorem peers_range:∀ m:Fin 17,peersL ((List.range m.val).map fun (i:Nat)=>(i:Int)) = (List.range m.val).map fun (i:Nat)=>(i:Int):=by decide +kernel
theorem peers_upTo {k:Int}:peersL (upTo k) = upTo k:=peers_range ⟨(min (max k 0) 16).toNat,by omega⟩
theorem rank_eq {o:List Int} {k:Int}:rankingF o k = sortF o (upTo k):=by
 rw [rankingF,chosenF,peers_upTo]
 exact List.take_of_length_le (by rw [len_sortF,upTo_len]; show _ ≤ (16:Int).toNat; omega)
theorem rank_len {o:List Int} {k:Int}:(rankingF o k).length = (min (max k 0) 16).toNat:=by rw [rank_eq,len_sortF,upTo_len]
theorem rank_mem {o:List Int} {k x:Int} (h:x ∈ rankingF o k):0 ≤ x∧x < min (max k 0) 16:=by
 rw [rank_eq,mem_sortF,upTo,List.mem_map] at h
 obtain ⟨i,hi,rfl⟩:=h
 rw [List.mem_range] at hi
 omega
theorem rank_lt {o:List Int} {k:Int}:(rankingF o k).Pairwise fun a b=>betF o a b = true:=by
 rw [rank_eq]
 refine (sortF_ranked ?_).2
 exact rangeI_nodup
theorem ord_at {o:List Int} {k:Int} {d:Rows'} {n m i:Int} (h:ordIs o k d n m) (h0:0 ≤ i) (h1:i < n):i < m∧i < d.length∧∃ hl:i.toNat < (rankingF o k).length,cellI d i 0 = (rankingF o k)[i.toNat]:=by
 obtain ⟨e1,e2,e3,e4,e5⟩:=h
 have hd:i < d.length:=by omega
 have hl:i.toNat < (rankingF o k).length:=by rw [rank_len]; omega
 refine ⟨by omega,hd,hl,?_⟩
 rw [ints_at h0 hd,e4,List.getD_eq_getElem?_getD,List.getElem?_eq_getElem hl]; rfl
theorem ord_rng {o:List Int} {k:Int} {d:Rows'} {n m i:Int} (h:ordIs o k d n m) (h0:0 ≤ i) (h1:i < n):0 ≤ cellI d i 0∧cellI d i 0 < n:=by
 obtain ⟨_,_,hl,e⟩:=ord_at h h0 h1
 have:=rank_mem (e ▸ List.getElem_mem hl)
 rw [← h.1] at this; exact this
theorem ord_bet {o:List Int} {k:Int} {d:Rows'} {n m i j:Int} (h:ordIs o k d n m) (h0:0 ≤ j) (h1:j < i) (h2:i < n):betF o (cellI d j 0) (cellI d i 0) = true:=by
 obtain ⟨_,_,hl,e⟩:=ord_at h (i:=i) (by omega) h2
 obtain ⟨_,_,hl',e'⟩:=ord_at h (i:=j) h0 (by omega)
 rw [e,e']
 exact List.pairwise_iff_getElem.1 rank_lt _ _ hl' hl (by omega)
theorem bet_irr {o:List Int} {a:Int}:betF o a a = false:=by simp [betF]
theorem ord_ne {o:List Int} {k:Int} {d:Rows'} {n m i j:Int} (h:ordIs o k d n m) (h0:0 ≤ j) (h1:j < i) (h2:i < n):¬ cellI d j 0 = cellI d i 0:=fun e=>by
 have:=ord_bet h h0 h1 h2
 rw [e,bet_irr] at this; cases this
theorem sub1 {i:Int} (h0:0 < i) (h1:i < 1000000000000):arithOf .sub .i64 i 1 = i - 1:=wrap64 (by omega) (by omega)
theorem ord_n {o:List Int} {k x n:Int} {d:Rows'} (h:isInts d n (rankingF o k)) (e:x = min (max k 0) 16):n = x:=by
 obtain ⟨h1,h2,h3⟩:=h
 have:=congrArg List.length h2
 rw [ints_len,rank_len] at this
 omega
theorem ord_0 {l:List Int} {n:Int} {d:Rows'} (h:isInts d n l):0 ≤ n:=by have:=h.1; omega
theorem ord_mk {o:List Int} {k x n:Int} {d:Rows'} (h:isInts d n (rankingF o k)) (e:x = min (max k 0) 16):ordIs o k d x n:=⟨e,ord_n h e,h⟩
theorem ord_2 {o:List Int} {a b:Int} {x y:Bool} (h1:x = betF o a b) (h2:y = betF o b a):(x == y) = cmpOf .eql a b:=by
 rw [h1,h2]
 show _ = decide (a = b)
 by_cases e:a = b
 ·subst e; simp
 ·rw [decide_eq_false e]
  rcases bet_total (o:=o) e with h | h
  ·rw [h,bet_asymm h]; rfl
  ·rw [h,bet_asymm h]; rfl
theorem ord_b1 {o:List Int} {k n m i:Int} {d:Rows'} {x:Bool} (hx:x = betF o (cellI d (arithOf .sub .i64 i 1) 0) (cellI d i 0)) (h:ordIs o k d n m) (h0:0 < i) (h1:i < n):x = true:=by
 have h16:n ≤ 16:=by have:=h.1; omega
 rw [sub1 h0 (by omega)] at hx
 rw [hx]; exact ord_bet h (by omega) (by omega) h1
theorem ord_b2 {o:List Int} {k n m i j:Int} {d:Rows'} {x:Bool} (hx:x = betF o (cellI d j 0) (cellI d i 0)) (h:ordIs o k d n m) (h0:0 ≤ j) (h1:j < i) (h2:i < n):x = true:=by
 rw [hx]; exact ord_bet h h0 h1 h2
theorem ord_16 {o:List Int} {k n m:Int} {d:Rows'} (h:ordIs o k d n m):n ≤ 16∧m = n∧n = d.length:=by
 obtain ⟨e1,e2,e3,_⟩:=h; omega
theorem ord_mu {o:List Int} {k n m n' m' i i':Int} {d d':Rows'} (h:ordIs o k d n m) (h':ordIs o k d' n' m') (h0:0 ≤ i) (h1:i < n) (e:i = i'):max (n - arithOf .add .i64 i 1) 0 < n' - i':=by
 have e1:=h.1
 have e2:=h'.1
 rw [add1 h0 (by omega)]; omega
theorem lt_post {ρ:Env}:lawTrue.post ρ:=True.intro
set_option maxHeartbeats 1000000 in
set_option maxRecDepth 20000 in
theorem lawOrder_ok:lawOrderC.ok Tryz.prog:=lawOrder_of (by simp [better_ok,ranking_ok chosen_ok',known7_ok]) fun ρ hg hp=>by
 obtain ⟨hO,⟨hk1,hk2⟩,hRr,hRd⟩:=hp
 simp (config:={ maxSteps:=4000000 }) [o_lawOrder,lawOrderC,orderI1,orderI2,orderJ0,orderJ,orderI3,orderI4,betterC,rankingC,known7C,gOk,hO,hRr,hRd]
 repeat' (first | with_reducible apply And.intro | with_reducible intro _)
 all_goals first
  | assumption
  | omega
  | with_reducible exact lt_post
  | with_reducible exact ord_2 (by assumption) (by assumption)
  | with_reducible exact ord_0 (by assumption)
  | with_reducible exact ord_n (by assumption) (by omega)
  | with_reducible exact ord_mk (by assumption) (by omega)
  | (have h16:=ord_16 (by assumption); first | omega | (rw [add1 (by omega) (by omega)]; omega) | (rw [sub1 (by assumption) (by omega)]; omega))
  | (rw [add1 (by omega) (by omega)]; omega)
  | with_reducible exact (ord_rng (by assumption) (by assumption) (by assumption)).1
  | with_reducible exact (ord_rng (by assumption) (by assumption) (by assumption)).2
  | with_reducible exact ord_b1 (by assumption) (by assumption) (by assumption) (by assumption)
  | with_reducible exact ord_b2 (by assumption) (by assumption) (by assumption) (by assumption) (by assumption)
  | with_reducible exact ord_ne (by assumption) (by assumption) (by assumption) (by assumption)
  | with_reducible exact ord_mu (by assumption) (by assumption) (by assumption) (by assumption) (by assumption)
end Go.Proofs
