/- Texts ZV, ZW, ZX, DS, DT, BT, BU, BV, BW, BX, E13. -/
import Derived.Test.YtelcnkclppkicaaDoorG6
import Derived.Test.YtelcnkclppkicaaDoorProg
import Derived.Test.YtelcnkclppkicaaDoorG8
import Derived.Test.YtelcnkclppkicaaDoorG5
import Derived.Test.YtelcnkclppkicaaDoorG7
import Derived.WalkKit
import Derived.ProofKit
import Derived.OpenShut
import Derived.Carry
set_option linter.unusedSimpArgs false
set_option linter.unusedVariables false
set_option maxRecDepth 100000
namespace Go.Proofs
open Go Go.Eng

def o_encode31 : Out := (.br (.and (.cmp .eql (.dlen (.var 1)) (.lit (0))) (.isnil 0))
 (.ret 0 ⟨9, [(10, (.t (.var 1))), (9, (.t (.lit (1))))], [((.lit (1)), (.lit (1)))], [], []⟩)
 (.pre 0 ⟨0, [(1, (.t (.var 3))), (0, (.t (.var 2)))], [], [], []⟩ (.both (.fresh 9 (.post 0 0 ⟨0, [(1, (.t (.var 3))), (0, (.t (.var 2)))], [], [], []⟩ 9 (.br (.not (.var 9))
 (.ret 0 ⟨9, [(10, (.t (.var 1))), (9, (.t (.lit (2))))], [((.lit (1)), (.lit (1)))], [], []⟩)
 (.need (.cmp .leq (.lit (0)) (.var 5)) (.br (.cmp .gtr (.var 5) (.lit (8192)))
 (.ret 0 ⟨9, [(10, (.t (.var 1))), (9, (.t (.lit (3))))], [((.lit (1)), (.lit (1)))], [], []⟩)
 (.pre 1 ⟨0, [(1, (.t (.var 5))), (0, (.t (.var 2)))], [], [], []⟩ (.both (.fresh 10 (.fresh 11 (.post 1 0 ⟨0, [(1, (.t (.var 5))), (0, (.t (.var 2)))], [], [], []⟩ 10 (.need (.cmp .leq (.lit (0)) (.arith .mul .i64 (.var 2) (.var 10))) (.need (.cmp .leq (.tims (.lit (1)) (.arith .mul .i64 (.var 2) (.var 10))) (.lit (281474976710656))) (.fresh 12 (.need (.cmp .leq (.arith .mul .i64 (.var 2) (.var 10)) (.dlen (.drep (.arith .mul .i64 (.var 2) (.var 10)) (.rcons (.vint .u8 (.lit (0))) .rnil)))) (.need (.cmp .leq (.var 5) (.dlen (.var 7))) (.fresh 13 (.pre 2 ⟨0, [(1, (.t (.var 1))), (3, (.t (.var 3))), (2, (.t (.var 2))), (0, (.r 0))], [((.lit (1)), (.lit (1))), ((.lit (0)), (.lit (0)))], [], []⟩ (.both (.fresh 14 (.fresh 15 (.fresh 16 (.fresh 17 (.fresh 18 (.fresh 19 (.post 2 0 ⟨0, [(1, (.t (.var 1))), (3, (.t (.var 3))), (2, (.t (.var 2))), (0, (.r 0))], [((.lit (1)), (.lit (1))), ((.lit (0)), (.lit (0)))], [], []⟩ 14 (.fresh 20 (.need (.cmp .leq (.lit (0)) (.var 3)) (.need (.cmp .leq (.tims (.lit (32)) (.var 3)) (.lit (281474976710656))) (.fresh 21 (.inv 0 22 ⟨1000, [(1015, (.r 19)), (1014, (.t (.drep (.var 3) (.rcons (.vint .i64 (.lit (0))) (.rcons .vnils .rnil))))), (1013, (.t (.c3 .dsplice (.drep (.arith .mul .i64 (.var 2) (.var 10)) (.rcons (.vint .u8 (.lit (0))) .rnil)) (.lit (0)) (.dtake (.dtake (.var 7) (.var 5)) (.imin (.arith .mul .i64 (.var 2) (.var 10)) (.var 5)))))), (1012, (.t (.var 18))), (1011, (.t (.var 16))), (1010, (.t (.var 15))), (1009, (.r 14)), (1008, (.t (.var 17))), (1007, (.t (.lit (0)))), (1006, (.t (.var 3))), (1005, (.r 21)), (1004, (.r 20)), (1003, (.t (.arith .mul .i64 (.var 2) (.var 10)))), (1002, (.t (.arith .mul .i64 (.var 2) (.var 10)))), (1001, (.r 12)), (1000, (.t (.var 10)))], [((.var 1006), (.var 3)), ((.var 1003), (.arith .mul .i64 (.var 2) (.var 10))), ((.var 1011), (.var 16)), ((.lit (0)), (.lit (0))), ((.var 2), (.var 2)), ((.var 3), (.var 3)), ((.lit (1)), (.lit (1))), ((.var 3), (.var 3)), ((.var 3), (.var 3)), ((.lit (0)), (.lit (0))), ((.lit (0)), (.lit (0))), ((.lit (0)), (.lit (0)))], [], []⟩ (.fresh 22 (.fresh 23 (.fresh 24 (.fresh 25 (.fresh 26 (.fresh 27 (.fresh 28 (.fresh 29 (.fresh 30 (.fresh 31 (.fresh 32 (.fresh 33 (.fresh 34 (.fresh 35 (.fresh 36 (.fresh 37 (.hyp 0 22 (.br (.cmp .lss (.var 29) (.var 3))
 (.need (.cmp .leq (.lit (0)) (.var 22)) (.need (.cmp .leq (.tims (.lit (1)) (.var 22)) (.lit (281474976710656))) (.fresh 38 (.pre 3 ⟨0, [(6, (.t (.var 33))), (5, (.t (.var 34))), (7, (.t (.var 29))), (4, (.t (.var 33))), (3, (.t (.var 32))), (2, (.r 31)), (1, (.t (.var 2))), (0, (.t (.var 3)))], [((.lit (0)), (.lit (0)))], [], []⟩ (.both (.fresh 39 (.fresh 40 (.fresh 41 (.post 3 0 ⟨0, [(6, (.t (.var 33))), (5, (.t (.var 34))), (7, (.t (.var 29))), (4, (.t (.var 33))), (3, (.t (.var 32))), (2, (.r 31)), (1, (.t (.var 2))), (0, (.t (.var 3)))], [((.lit (0)), (.lit (0)))], [], []⟩ 39 (.need (.cmp .leq (.lit (0)) (.var 40)) (.inv 1 42 ⟨1000, [(1015, (.r 37)), (1018, (.t (.drep (.var 22) (.rcons (.vint .u8 (.lit (0))) .rnil)))), (1014, (.t (.var 36))), (1013, (.t (.var 35))), (1012, (.t (.var 34))), (1011, (.t (.var 33))), (1010, (.t (.var 32))), (1008, (.t (.var 30))), (1022, (.t (.lit (0)))), (1021, (.t (.var 41))), (1020, (.t (.var 40))), (1019, (.t (.var 39))), (1009, (.r 31)), (1017, (.t (.var 22))), (1016, (.r 38)), (1007, (.t (.var 29))), (1006, (.t (.var 28))), (1005, (.r 27)), (1004, (.r 26)), (1003, (.t (.var 25))), (1002, (.t (.var 24))), (1001, (.r 23)), (1000, (.t (.var 22)))], [((.var 1017), (.var 22)), ((.var 1006), (.var 28)), ((.var 1003), (.var 25)), ((.var 1011), (.var 33)), ((.lit (0)), (.lit (0))), ((.var 2), (.var 2)), ((.var 3), (.var 3)), ((.lit (1)), (.lit (1))), ((.var 1020), (.var 40)), ((.var 1000), (.var 22)), ((.lit (0)), (.lit (0))), ((.var 1007), (.var 29)), ((.var 3), (.var 3)), ((.var 3), (.var 3)), ((.lit (0)), (.lit (0))), ((.lit (0)), (.lit (0))), ((.lit (0)), (.lit (0))), ((.lit (0)), (.lit (0)))], [], []⟩ (.fresh 42 (.fresh 43 (.fresh 44 (.fresh 45 (.fresh 46 (.fresh 47 (.fresh 48 (.fresh 49 (.fresh 50 (.fresh 51 (.fresh 52 (.fresh 53 (.fresh 54 (.fresh 55 (.fresh 56 (.fresh 57 (.fresh 58 (.fresh 59 (.fresh 60 (.fresh 61 (.fresh 62 (.fresh 63 (.fresh 64 (.hyp 1 42 (.br (.cmp .lss (.var 64) (.var 62))
 (.need (.cmp .leq (.lit (0)) (.var 64)) (.need (.cmp .leq (.lit (0)) (.var 61)) (.need (.cmp .leq (.lit (0)) (.plus (.var 61) (.var 64))) (.need (.cmp .lss (.plus (.var 61) (.var 64)) (.dlen (.var 54))) (.know (.cmp .leq (.dlen (.var 55)) (.var 45)) (.need (.cmp .leq (.lit (0)) (.var 44)) (.need (.cmp .leq (.lit (0)) (.var 45)) (.need (.cmp .leq (.lit (0)) (.arith .mul .i64 (.var 64) (.var 42))) (.need (.cmp .leq (.arith .mul .i64 (.var 64) (.var 42)) (.arith .mul .i64 (.arith .add .i64 (.var 64) (.lit (1))) (.var 42))) (.need (.cmp .leq (.arith .mul .i64 (.arith .add .i64 (.var 64) (.lit (1))) (.var 42)) (.var 45)) (.pre 4 ⟨0, [(13, (.t (.var 45))), (12, (.t (.var 55))), (7, (.t (.var 59))), (6, (.t (.var 60))), (1, (.t (.var 50))), (14, (.t (.icell (.var 54) (.plus (.var 61) (.var 64)) 0))), (11, (.t (.minus (.var 45) (.arith .mul .i64 (.var 64) (.var 42))))), (10, (.t (.minus (.arith .mul .i64 (.arith .add .i64 (.var 64) (.lit (1))) (.var 42)) (.arith .mul .i64 (.var 64) (.var 42))))), (9, (.t (.ife (.var 45) (.arith .mul .i64 (.var 64) (.var 42)) (.lit (0)) (.arith .mul .i64 (.var 64) (.var 42))))), (8, (.r 43)), (5, (.t (.var 59))), (4, (.t (.var 42))), (3, (.t (.lit (0)))), (2, (.r 58)), (0, (.r 0))], [((.lit (1)), (.lit (1))), ((.lit (0)), (.lit (0)))], [], []⟩ (.both (.fresh 65 (.fresh 66 (.post 4 0 ⟨0, [(13, (.t (.var 45))), (12, (.t (.var 55))), (7, (.t (.var 59))), (6, (.t (.var 60))), (1, (.t (.var 50))), (14, (.t (.icell (.var 54) (.plus (.var 61) (.var 64)) 0))), (11, (.t (.minus (.var 45) (.arith .mul .i64 (.var 64) (.var 42))))), (10, (.t (.minus (.arith .mul .i64 (.arith .add .i64 (.var 64) (.lit (1))) (.var 42)) (.arith .mul .i64 (.var 64) (.var 42))))), (9, (.t (.ife (.var 45) (.arith .mul .i64 (.var 64) (.var 42)) (.lit (0)) (.arith .mul .i64 (.var 64) (.var 42))))), (8, (.r 43)), (5, (.t (.var 59))), (4, (.t (.var 42))), (3, (.t (.lit (0)))), (2, (.r 58)), (0, (.r 0))], [((.lit (1)), (.lit (1))), ((.lit (0)), (.lit (0)))], [], []⟩ 65 (.back 1 42 ⟨1000, [(1015, (.r 57)), (1018, (.t (.var 66))), (1014, (.t (.var 56))), (1013, (.t (.var 55))), (1012, (.t (.var 54))), (1011, (.t (.var 53))), (1010, (.t (.var 52))), (1008, (.t (.var 65))), (1022, (.t (.arith .add .i64 (.var 64) (.lit (1))))), (1021, (.t (.var 63))), (1020, (.t (.var 62))), (1019, (.t (.var 61))), (1009, (.r 51)), (1017, (.t (.var 59))), (1016, (.r 58)), (1007, (.t (.var 49))), (1006, (.t (.var 48))), (1005, (.r 47)), (1004, (.r 46)), (1003, (.t (.var 45))), (1002, (.t (.var 44))), (1001, (.r 43)), (1000, (.t (.var 42)))], [((.var 1017), (.var 59)), ((.var 1006), (.var 48)), ((.var 1003), (.var 45)), ((.var 1011), (.var 53)), ((.lit (0)), (.lit (0))), ((.var 2), (.var 2)), ((.var 3), (.var 3)), ((.lit (1)), (.lit (1))), ((.var 1020), (.var 62)), ((.var 1000), (.var 42)), ((.lit (0)), (.lit (0))), ((.var 1007), (.var 49)), ((.var 3), (.var 3)), ((.var 3), (.var 3)), ((.lit (0)), (.lit (0))), ((.lit (0)), (.lit (0))), ((.lit (0)), (.lit (0))), ((.lit (0)), (.lit (0)))], [], []⟩)))) .top))))))))))))
 (.need (.cmp .leq (.lit (0)) (.var 49)) (.need (.cmp .lss (.var 49) (.var 3)) (.need (.cmp .lss (.var 49) (.dlen (.var 56))) (.pack [.arr 58 5 [CK.int .u8] (.var 60) (.var 59), .abs 57 2] 65 (.back 0 22 ⟨1000, [(1015, (.r 65)), (1014, (.t (.dput (.var 56) (.var 49) 0 (.rcons (.vint .i64 (.var 49)) (.rcons (.vslice 58 (.lit (0)) (.var 42) (.var 59) 1) .rnil))))), (1013, (.t (.var 55))), (1012, (.t (.var 54))), (1011, (.t (.var 53))), (1010, (.t (.var 52))), (1009, (.r 51)), (1008, (.t (.var 50))), (1007, (.t (.arith .add .i64 (.var 49) (.lit (1))))), (1006, (.t (.var 48))), (1005, (.r 47)), (1004, (.r 46)), (1003, (.t (.var 45))), (1002, (.t (.var 44))), (1001, (.r 43)), (1000, (.t (.var 42)))], [((.var 1006), (.var 48)), ((.var 1003), (.var 45)), ((.var 1011), (.var 53)), ((.lit (0)), (.lit (0))), ((.var 2), (.var 2)), ((.var 3), (.var 3)), ((.lit (1)), (.lit (1))), ((.var 3), (.var 3)), ((.var 3), (.var 3)), ((.lit (0)), (.lit (0))), ((.lit (0)), (.lit (0))), ((.lit (0)), (.lit (0))), ((.lit (0)), (.lit (0)))], [], []⟩)))))))))))))))))))))))))))))))))))) .top)))))
 (.pack [.cells 26 160 [(.vint .i64 (.var 3)), (.vint .i64 (.var 2)), (.vslice 31 (.lit (0)) (.var 32) (.var 33) 1)], .arr 31 5 [CK.int .u8] (.var 34) (.var 33), .arr 23 5 [CK.int .u8] (.var 35) (.var 25), .abs 37 2] 38 (.ret 1 ⟨9, [(13, (.r 38)), (12, (.t (.var 36))), (11, (.t (.var 30))), (10, (.t (.var 28))), (9, (.r 27))], [((.var 10), (.var 28)), ((.lit (1)), (.lit (1))), ((.lit (0)), (.lit (0))), ((.var 3), (.var 3)), ((.lit (0)), (.lit (0)))], [], []⟩)))))))))))))))))))))))))))))))) .top))))))))))) .top))))))) .top)))
theorem o_encode31_eq : treeOf ⟨Tryd.prog, encode31C, [sizes74C, piece26C, genGC, row75C, addToC], [encode31I, encode31J]⟩ 100000 Tryd.f72 = o_encode31 := by kernel_rfl
theorem encode31_of (hd : ∀ c ∈ ([sizes74C, piece26C, genGC, row75C, addToC] : List Ctr), c.ok Tryd.prog) (h : ∀ ρ : Env, ρ.good → (encode31C).pre ρ → o_encode31.den ⟨Tryd.prog, encode31C, [sizes74C, piece26C, genGC, row75C, addToC], [encode31I, encode31J]⟩ ρ) : (encode31C).ok Tryd.prog :=
  ok_of_tree Tryd.func72 (fun a w => Tryd.call72 a w) hd 100000 (fun ρ hg hp => by rw [o_encode31_eq]; exact h ρ hg hp)
end Go.Proofs

set_option linter.unusedSimpArgs false
set_option linter.unusedVariables false
namespace Go.Proofs
open Go Go.Eng

theorem genG_ok : genGC.ok Tryd.prog := Ctr.ok_less gen35_ok rfl rfl rfl rfl rfl (fun _ h => h.1) fun ρ ρ' ai al hp hag hal hpost => by
  match ai, hal with
  | 0, hal =>
    exfalso
    obtain rfl := Option.some.inj hal
    obtain ⟨_, h2⟩ : _ ∧ (sizesB ((ρ'.upto 5) 2).i ((ρ'.upto 5) 3).i = true → (topE ((ρ'.upto 5) 2).i.toNat ((ρ'.upto 5) 3).i.toNat).2.2 < ((ρ'.upto 5) 2).i.toNat) := hpost
    have e2 : (ρ'.upto 5) 2 = ρ 2 := by rw [Env.upto, if_pos (by omega)]; exact hag 2 (by decide)
    have e3 : (ρ'.upto 5) 3 = ρ 3 := by rw [Env.upto, if_pos (by omega)]; exact hag 3 (by decide)
    rw [e2, e3] at h2
    obtain ⟨_, p2, p3⟩ := hp
    have := h2 p2
    omega
  | 1, hal => exact ⟨0, hal⟩
  | n + 2, hal => cases hal
/-! ### Pieces' lengths -/
theorem pieceLen_ge {k n : Nat} (hk : 0 < k) : n ≤ k * pieceLen k n := by
  unfold pieceLen
  have h1 := Nat.div_add_mod (n + k - 1) k
  have h2 := Nat.mod_lt (n + k - 1) hk
  omega
theorem pieceLen_lt {k n : Nat} (hk : 0 < k) : k * pieceLen k n < n + k := by
  unfold pieceLen
  have h1 := Nat.div_add_mod (n + k - 1) k
  omega
theorem pieceLen_le {k n : Nat} (hk : 0 < k) : pieceLen k n ≤ n := by
  have h := pieceLen_lt (n := n) hk
  by_cases h2 : pieceLen k n ≤ n
  · exact h2
  · have h3 : k * (n + 1) ≤ k * pieceLen k n := Nat.mul_le_mul_left k (by omega)
    rw [Nat.mul_add, Nat.mul_one] at h3
    have h4 : n * 1 ≤ k * n := by rw [Nat.mul_comm k n]; exact Nat.mul_le_mul_left n hk
    omega
theorem pieceLen_tdiv {k : Int} {n : Nat} (hk : 1 ≤ k) : ((n : Int) + k - 1).tdiv k = (pieceLen k.toNat n : Nat) := by
  rw [Int.tdiv_eq_ediv_of_nonneg (by omega), pieceLen, Int.natCast_ediv]
  congr 1 <;> omega
/-! ### Rows spliced -/
theorem bI_splice {d x : Rows'} (h : x.length ≤ d.length) : bI (spliceD d 0 x) = bI x ++ (bI d).drop x.length := by
  simp [spliceD, bI, List.map_drop]
theorem allB_splice {d x : Rows'} (hd : allB d) (hx : allB x) : allB (spliceD d 0 x) := fun r hr => by
  unfold spliceD at hr
  rcases List.mem_append.1 hr with hr | hr
  · rcases List.mem_append.1 hr with hr | hr
    · simp at hr
    · exact hx r hr
  · exact hd r (List.mem_of_mem_drop hr)
theorem encW_init {k total len lg cg : Int} {f dg data D : Rows'} (hf : fieldD f) (hs : sizesB k total = true) (h1 : len ≤ 8192) (h2 : len = data.length) (hB : allB data) (hM : fullM total k lg cg dg) (hG : bI dg = genL k.toNat total.toNat) (hD : D = List.replicate total.toNat [.int .i64 0, .slice none 0 0]) :
    encW k total len (pieceLen k.toNat data.length : Nat) (k * (pieceLen k.toNat data.length : Nat)) (k * (pieceLen k.toNat data.length : Nat)) lg cg 0 f dg (spliceD (List.replicate (k * (pieceLen k.toNat data.length : Nat)).toNat [.int .u8 0]) 0 data) D data := by
  obtain ⟨k1, k2, k3⟩ := sizesB_iff.1 hs
  have hge := pieceLen_ge (k := k.toNat) (n := data.length) (by omega)
  have hle := pieceLen_le (k := k.toNat) (n := data.length) (by omega)
  have hc : (k * (pieceLen k.toNat data.length : Nat)).toNat = k.toNat * pieceLen k.toNat data.length := by rw [Int.toNat_mul (by omega) (by omega)]; simp
  have hc0 : 0 ≤ k * (pieceLen k.toNat data.length : Nat) := Int.mul_nonneg (by omega) (by omega)
  refine ⟨hf, hs, h1, h2, hB, rfl, by omega, rfl, ?_, allB_splice allB_rep hB, ?_, hM, hG, by rw [hD, List.length_replicate], fun row hr => by rw [hD] at hr; rw [List.eq_of_mem_replicate hr]; rfl, by omega, by omega⟩
  · rw [spliceD_len (by rw [List.length_replicate]; omega), List.length_replicate]; omega
  · rw [bI_splice (by rw [List.length_replicate]; omega), bI_rep, hc, fullL, bI_len, List.drop_replicate]; simp
theorem encW_next {k total len l lf cf lg cg i : Int} {f dg df D data : Rows'} {v w : Value} (h : encW k total len l lf cf lg cg i f dg df D data) (hi : i < total) : encW k total len l lf cf lg cg (i + 1) f dg df (putD D i 0 [v, w]) data := by
  obtain ⟨a1, a2, a3, a4, a5, a6, a7, a8, a9, a10, a11, a12, a13, a14, a17, a15, a16⟩ := h
  refine ⟨a1, a2, a3, a4, a5, a6, a7, a8, a9, a10, a11, a12, a13, by rw [putD_len]; exact a14, fun row hr => ?_, by omega, by omega⟩
  unfold putD at hr
  rcases List.mem_or_eq_of_mem_set hr with hr | rfl
  · exact a17 row hr
  · have hl : i.toNat < D.length := by omega
    have := a17 _ (List.getElem_mem hl)
    rw [List.getElem?_eq_getElem hl, Option.getD_some, splice_length (by rw [this]; simp), this]
theorem encW_f {k total len l lf cf lg cg i : Int} {f f' dg df D data : Rows'} (h : encW k total len l lf cf lg cg i f dg df D data) (hf : fieldD f') : encW k total len l lf cf lg cg i f' dg df D data := ⟨hf, h.2⟩
theorem encAt_mono {h h' : Hp} {D : Rows'} {n : Nat} {f : Nat → List Int} (he : encAt h D n f) (hl : Hp.le h h') : encAt h' D n f := fun j hj => by
  obtain ⟨v, d, e1, e2, e3⟩ := he j hj
  exact ⟨v, d, e1, Rd_mono e2 hl, e3⟩
theorem encAt_next {h h' : Hp} {D : Rows'} {i : Int} {f : Nat → List Int} {v : Value} {d : Rows'} (he : encAt h D i.toNat f) (hl : Hp.le h h') (h0 : 0 ≤ i) (hi : i.toNat < D.length) (hc : (D[i.toNat]?.getD []).length = 2) (hr : Rd h' kB v d) (hd : bI d = f i.toNat) (hB : allB d) :
    encAt h' (putD D i 0 [.int .i64 i, v]) (i.toNat + 1) f := fun j hj => by
  by_cases hji : j = i.toNat
  · subst hji
    refine ⟨v, d, ?_, hr, hd, hB⟩
    have hs : splice (D[i.toNat]?.getD []) 0 [.int .i64 i, v] = [.int .i64 i, v] := by
      simp only [splice, List.take_zero, List.nil_append]
      rw [List.drop_eq_nil_of_le (by rw [hc]; exact Nat.le_refl _), List.append_nil]
    rw [putD, List.getElem?_set_self hi, hs, Int.toNat_of_nonneg h0]
  · obtain ⟨v', d', e1, e2, e3⟩ := he j (by omega)
    exact ⟨v', d', by rw [putD, List.getElem?_set_ne (by omega)]; exact e1, Rd_mono e2 hl, e3⟩
set_option maxRecDepth 20000 in
set_option pp.deepTerms true in
set_option pp.maxSteps 1000000 in
theorem encode31_ok : encode31C.ok Tryd.prog := encode31_of (by simp [sizes74_ok, piece26_ok, genG_ok, row75_ok, addTo_ok]) fun ρ hg hp => by
  obtain ⟨hf, hl, hB, hrk⟩ := hp
  have hne := (fieldD_ne hf).1
  simp (config := { maxSteps := 4000000 }) [o_encode31, encode31C, encode31I, encode31J, sizes74C, piece26C, genGC, gen35C, row75C, addToC]
  refine ⟨fun h => (hne h).elim, fun _ v _ hv => ⟨fun hb => ⟨hf, by rw [← hv]; exact hb⟩, fun hb => ?_⟩⟩
  have hsz : sizesB (ρ 2).i (ρ 3).i = true := by rw [← hv]; exact hb
  obtain ⟨k1, k2, k3⟩ := sizesB_iff.1 hsz
  refine ⟨by omega, fun h => ⟨hf, hsz, h⟩, fun hle l _ e _ _ hpl => ?_⟩
  have hnb : ¬ pieceBad (ρ 2).i (ρ 5).i := by unfold pieceBad; omega
  obtain ⟨hpl1, _⟩ := hpl hnb
  rw [hl, pieceLen_tdiv k1] at hpl1
  have hge := pieceLen_ge (k := (ρ 2).i.toNat) (n := (ρ 7).d.length) (by omega)
  have hlt := pieceLen_lt (k := (ρ 2).i.toNat) (n := (ρ 7).d.length) (by omega)
  have hkl : (ρ 2).i * l.i = (((ρ 2).i.toNat * pieceLen (ρ 2).i.toNat (ρ 7).d.length : Nat) : Int) := by rw [hpl1, Int.natCast_mul, Int.toNat_of_nonneg (by omega)]
  rw [mul64 (by omega) (by omega)]
  have hmax : max ((ρ 2).i * l.i) 0 = (ρ 2).i * l.i := by omega
  refine ⟨by omega, by omega, fun u3 _ => ⟨by omega, by omega, fun u4 _ => ⟨⟨hf, hsz, hrk hsz⟩, fun u5 _ lg _ cg _ f1 _ dg _ ab _ hf1 _ hM _ hG u11 _ => ⟨by omega, by omega, fun u12 _ => ⟨⟨?_, fun j hj => by omega⟩, ?_⟩⟩⟩⟩⟩
  · have htake : (((ρ 7).d.take (ρ 5).i.toNat).take (if (ρ 5).i < (ρ 2).i * l.i then (ρ 5).i else (ρ 2).i * l.i).toNat) = (ρ 7).d := by
      rw [List.take_of_length_le (l := (ρ 7).d) (by omega), List.take_of_length_le (by split <;> omega)]
    rw [htake, hpl1]
    exact encW_init hf1 hsz hle hl hB hM hG rfl
  intro l2 _ u14 _ lf _ cf _ u17 _ u18 _ u19 _ i _ f2 _ u22 _ lg2 _ cg2 _ dg2 _ df2 _ D2 _ ab2 _ hW hE
  refine ⟨fun hi => ?_, fun hi u29 _ hst => ?_⟩
  · have hW' := hW
    obtain ⟨a1, a2, a3, a4, a5, a6, a7, a8, a9, a10, a11, a12, a13, a14, a17, a15, a16⟩ := hW'
    refine ⟨by omega, by omega, fun u29 _ => ⟨⟨a15, hi, a12.1⟩, fun o _ n _ c _ ho hn hc => ⟨by omega, ⟨hW, hE, hi, ho, hn, by omega, allB_rep, ?_⟩, ?_⟩⟩⟩
    · rw [bI_rep]; rfl
    intro l3 _ u34 _ lf3 _ cf3 _ u37 _ u38 _ u39 _ i3 _ f3 _ u42 _ lg3 _ cg3 _ dg3 _ df3 _ D3 _ ab3 _ rp _ cp _ pd _ o3 _ n3 _ c3 _ j _ hW3 hE3 hii hi3 ho3 hn3 j0 j1 hpl hpB hp3
    have hW3' := hW3
    obtain ⟨b1, b2, b3, b4, b5, b6, b7, b8, b9, b10, b11, b12, b13, b14, b17, b15, b16⟩ := hW3'
    obtain ⟨⟨m1, m2, m3, m4, m5, m6, m7, m8⟩, m9⟩ := b12
    have hl0 : 0 ≤ l3.i := by omega
    refine ⟨fun hj => ?_, fun hj => ?_⟩
    · have hjk : j.i < (ρ 2).i := by omega
      have hbo := mul_bound (x := i3.i) (y := (ρ 2).i) b15 (show i3.i ≤ 255 by omega) (by omega) (show (ρ 2).i ≤ 255 by omega)
      have hbj := mul_bound (x := j.i) (y := l3.i) j0 (show j.i ≤ 255 by omega) hl0 b7
      have hltG : i3.i * (ρ 2).i + j.i < (ρ 3).i * (ρ 2).i := by
        have := Int.mul_le_mul_of_nonneg_right (show i3.i + 1 ≤ (ρ 3).i by omega) (show 0 ≤ (ρ 2).i by omega)
        rw [Int.add_mul, Int.one_mul] at this; omega
      have he : (j.i + 1) * l3.i = j.i * l3.i + l3.i := by rw [Int.add_mul, Int.one_mul]
      have hltF : j.i * l3.i + l3.i ≤ (ρ 2).i * l3.i := by
        have := Int.mul_le_mul_of_nonneg_right (show j.i + 1 ≤ (ρ 2).i by omega) hl0
        omega
      have hcell := allB_get m8 (i := o3.i + j.i) (by omega) (by omega)
      rw [add64 (by omega) (by omega), mul64 (by omega) (by omega), mul64 (by omega) (by omega), he]
      refine ⟨j0, by omega, by omega, by omega, fun hcap => ⟨by omega, by omega, hbj.1, by omega, by omega, ⟨b1, ⟨by omega, hl0, by omega, by unfold Go.Eng.big; omega⟩, ⟨by split <;> omega, by omega, by split <;> omega, by unfold Go.Eng.big; omega⟩, by omega, hpB, b10, hcell⟩, fun f4 _ d4 _ hf4 hl4 hB4 he4 => ?_⟩⟩
      refine ⟨⟨encW_f hW3 hf4, hE3, hii, hi3, ho3, hn3, by omega, by omega, by omega, hB4, ?_⟩, by omega⟩
      have hsg : seg (bI df3.d) (if cf3.i = j.i * l3.i then 0 else j.i * l3.i).toNat (j.i * l3.i + l3.i - j.i * l3.i).toNat = seg (bI df3.d) (j.i.toNat * l3.i.toNat) l3.i.toNat := by
        rw [show j.i * l3.i + l3.i - j.i * l3.i = l3.i by omega]
        split
        · have : l3.i.toNat = 0 := by omega
          rw [this]; simp [seg]
        · rw [Int.toNat_mul j0 hl0]
      have hgd : (bI dg3.d).getD (i3.i.toNat * (ρ 2).i.toNat + j.i.toNat) 0 = cellI dg3.d (o3.i + j.i) 0 := by
        have := bI_get (d := dg3.d) (i := o3.i + j.i) (by omega) (by omega)
        rw [show (o3.i + j.i).toNat = i3.i.toNat * (ρ 2).i.toNat + j.i.toNat by rw [ho3, Int.toNat_add hbo.1 j0, Int.toNat_mul b15 (by omega)]] at this
        rw [List.getD_eq_getElem?_getD, this]; rfl
      rw [he4, hp3, hsg, show (j.i + 1).toNat = j.i.toNat + 1 by omega, pieceN, hgd]
    · have hjk : j.i = (ρ 2).i := by omega
      refine ⟨b15, hi3, by omega, fun u56 _ hst => ?_⟩
      rw [add64 (by omega) (by omega)]
      refine ⟨⟨encW_next hW3 hi3, ?_⟩, by omega⟩
      obtain ⟨ha, la, da⟩ := star_mem hst (List.mem_cons_self ..)
      obtain ⟨hb, lb, db⟩ := star_mem_abs hst (n := 57) (t := 2) (by simp)
      have hr := arr_Rd (n := l3.i.toNat) (k := cp.i.toNat) da la (by simp; omega) (by simp)
      have hr : Rd u56.h kB (.slice (addrOf rp.r 0) l3.i.toNat cp.i.toNat) pd.d := by simpa [kB] using hr
      have hdl : i3.i.toNat < D3.d.length := by omega
      rw [show (i3.i + 1).toNat = i3.i.toNat + 1 by omega]
      refine encAt_next hE3 (Hp.le_trans (by simpa using db) lb) b15 hdl (by rw [List.getElem?_eq_getElem hdl]; exact b17 _ (List.getElem_mem hdl)) hr ?_ hpB
      rw [hp3, encP, hjk, b13, b11, bI_len]
      rw [show l3.i.toNat = pieceLen (ρ 2).i.toNat (ρ 7).d.length by omega]
  · obtain ⟨a1, a2, a3, a4, a5, a6, a7, a8, a9, a10, a11, a12, a13, a14, a17, a15, a16⟩ := hW
    obtain ⟨hb, lb, db⟩ := star_mem_abs hst (n := 37) (t := 2) (by simp)
    refine ⟨a1, hsz, hle, a14, ?_⟩
    rw [show i.i.toNat = (ρ 3).i.toNat by omega] at hE
    exact encAt_mono hE (Hp.le_trans (by simpa using db) lb)
end Go.Proofs

set_option linter.unusedSimpArgs false
set_option linter.unusedVariables false
namespace Go.Proofs
open Go Go.Eng

end Go.Proofs

set_option linter.unusedSimpArgs false
set_option linter.unusedVariables false
namespace Go.Proofs
open Go Go.Eng
theorem sizes3_ok : sizes3C.ok Tryd.prog := sizes3_of (by simp) fun ρ hg hp => by
  simp [o_sizes3, sizes3C]
  refine ⟨fun h1 => ⟨fun h2 => ⟨fun h3 => ?_, fun h3 => ?_⟩, fun h2 => ?_⟩, fun h1 => ?_⟩
  · simp [sizes3, h1, h2, h3, cmpOf]
  · simp [sizes3]; omega
  · simp [sizes3]; omega
  · simp [sizes3]; omega
set_option maxRecDepth 20000 in
theorem checkM_ok : checkMC.ok Tryd.prog := checkM_of (by simp [sizes3_ok]) fun ρ hg hp => by
  have hp : 0 ≤ (ρ 6).i := hp
  simp [o_checkM, checkMC, sizes3C, manOk, manV, manT, cellsT]
  refine fun u _ hu => ⟨fun h hs => by (rw [hu, hs] at h; cases h), fun h => ⟨fun a _ b => by omega, fun a => ⟨fun b _ _ c => by omega, fun b => ⟨hp, fun c _ _ _ => c, fun c => ⟨by rw [← hu, h], a, b, c⟩⟩⟩⟩⟩
theorem shr8 {x : Int} : arithOf .shr .i64 x 8 = x.fdiv 256 := rfl
set_option maxRecDepth 20000 in
theorem pieceDg_ok : pieceDgC.ok Tryd.prog := pieceDg_of (by simp [newHash_ok, write_ok, sum_ok]) fun ρ hg hp => by
  obtain ⟨o0, l0, lc, l1, hle, hB, hGr, hGd⟩ := hp
  simp (config := { maxSteps := 2000000 }) [o_pieceDg, pieceDgC, newHashC, writeC, sumC, gOk]
  have hseg : segB [[.int .u8 (IntKind.u8.wrap (arithOf .shr .i64 (ρ 0).i 8))], [.int .u8 (IntKind.u8.wrap (ρ 0).i)]] 0 2 = pieceIn (ρ 0).i := by
    rw [shr8, wrap8, wrap8]; rfl
  refine fun h _ hh => ⟨⟨⟨[], hh, by decide⟩, ?_, hGr, hGd⟩, fun g _ hg1 => ?_⟩
  · intro row hr
    simp at hr
    rcases hr with rfl | rfl
    · simp [rowI, vInt, wrap8]; omega
    · simp [rowI, vInt, wrap8]; omega
  · rw [hseg] at hg1
    have h1 := hg1 [] hh
    refine ⟨⟨⟨_, h1, by simp [pieceIn]⟩, o0, l0, lc, by omega, hle, hB, hGr, hGd⟩, fun k _ hk => ⟨⟨⟨_, hk _ h1, ?_⟩, hGr, hGd⟩, fun d _ hd => ?_⟩⟩
    · have : (segB (ρ 5).d (ρ 2).i (ρ 3).i).length ≤ (ρ 3).i.toNat := by simp [segB]; omega
      simp [pieceIn]; omega
    · exact (show rowL _ 32 = rowL d.d 32 from rfl).trans (hd _ (hk _ h1))
theorem wThen_ok {lim : Int} {b : Bool} {x m s : List Int} (h : (b, x) = wThen lim false m s) (hf : (m.length : Int) + s.length ≤ lim) : b = false ∧ x = m ++ s := by
  rw [wThen_fits (by simp [wFull]; omega)] at h
  simpa using h
theorem wrap16 {x : Int} : IntKind.u16.wrap x = x % 65536 := by simp [IntKind.wrap, IntKind.bits, IntKind.signed]
theorem row_dgs {d : Rows'} {i : Nat} (h : i < d.length) : rowL [dgCells (cellI d i)] 32 = rowB d[i] := by
  refine List.map_congr_left fun j hj => ?_
  rw [dgCells_get (List.mem_range.1 hj)]
  simp [cellI, cellV, rowI, h]
theorem dgs_take {d : Rows'} {i : Nat} (h : i < d.length) : ((dgs d).take (i + 1)).flatten = ((dgs d).take i).flatten ++ rowB d[i] := by
  rw [List.take_add_one, List.getElem?_eq_getElem (by simpa [dgs] using h)]
  simp [dgs]
set_option maxRecDepth 20000 in
set_option maxHeartbeats 800000 in
theorem encMan_ok : encManC.ok Tryd.prog := encMan_of (by simp [checkM_ok, newWriter_ok, u8_ok, u16_ok, rawM_ok, raw32_ok, bytes_ok]) fun ρ hg hp => by
  obtain ⟨l0, hl, ho, hd⟩ := hp
  simp (config := { maxSteps := 2000000 }) [o_encMan, encManC, encManI, checkMC, newWriterC, u8C, u16C, numFn, rawMC, raw32C, bytesC, wHeap, wCells, wPost]
  refine ⟨l0, fun e _ he => ⟨fun hne => ?_, fun hz lim _ hlim => ?_⟩⟩
  · by_cases h : manOk (ρ 0).i (ρ 1).i (ρ 2).i (ρ 3).i (ρ 6).i = true
    · rw [if_pos h] at he; exact absurd he hne
    · rw [if_neg h] at he; exact ⟨he.symm, by simpa using h⟩
  · have hok : manOk (ρ 0).i (ρ 1).i (ρ 2).i (ρ 3).i (ρ 6).i = true := by
      by_cases h : manOk (ρ 0).i (ρ 1).i (ρ 2).i (ρ 3).i (ρ 6).i = true
      · exact h
      · rw [if_neg h] at he; omega
    have hb := hok
    simp [manOk, sizes3] at hb
    obtain ⟨⟨b1, b2, b3, b4⟩, b5, b6, b7⟩ := hb
    have hl2 : lim.i = 39 + 32 * (ρ 2).i := by
      rw [hlim, mul64 (by omega) (by omega), add64 (by omega) (by omega)]; omega
    clear hlim
    simp only [wrap8, wrap16]
    have hman : List.drop 4 (rowL [([.int .i64 (ρ 0).i, .int .i64 (ρ 1).i, .int .i64 (ρ 2).i, .int .i64 (ρ 3).i] ++ (dgCells (cellX (ρ 4).d) ++ [.slice (addrOf (ρ 5).r 0) (ρ 6).i.toNat (ρ 7).i.toNat]) : List Value)] 36) = rowL (ρ 4).d 32 := rfl
    have hone : oneRow [([.int .i64 (ρ 0).i, .int .i64 (ρ 1).i, .int .i64 (ρ 2).i, .int .i64 (ρ 3).i] ++ (dgCells (cellX (ρ 4).d) ++ [.slice (addrOf (ρ 5).r 0) (ρ 6).i.toNat (ρ 7).i.toNat]) : List Value)] 37 := ⟨_, rfl, by simp [dgCells]⟩
    have hlen : ∀ {l n c : Int} {d : Rows'}, wOk l n c d → n = ((bI d).length : Int) := fun h => by rw [bI_len]; exact h.2.2.1
    refine ⟨⟨by omega, by omega, rfl, by omega, by intro r hr; cases hr⟩, fun f1 _ n1 _ c1 _ d1 _ w1 g1 => ?_⟩
    obtain ⟨y1, x1⟩ := wThen_ok g1 (by rw [hl2]; simp [bI, beL_len]; omega)
    have L1 : (bI d1.d).length = 2 := by rw [x1]; simp [bI, beL_len]
    have q1 := hlen w1
    refine ⟨⟨w1, by omega, by omega, by omega⟩, fun f2 _ n2 _ c2 _ d2 _ w2 g2 => ?_⟩
    rw [y1] at g2
    obtain ⟨y2, x2⟩ := wThen_ok g2 (by rw [hl2, L1, beL_len]; omega)
    have L2 : (bI d2.d).length = 3 := by rw [x2, List.length_append, L1, beL_len]
    have q2 := hlen w2
    refine ⟨⟨w2, by omega, by omega, by omega⟩, fun f3 _ n3 _ c3 _ d3 _ w3 g3 => ?_⟩
    rw [y2] at g3
    obtain ⟨y3, x3⟩ := wThen_ok g3 (by rw [hl2, L2, beL_len]; omega)
    have L3 : (bI d3.d).length = 4 := by rw [x3, List.length_append, L2, beL_len]
    have q3 := hlen w3
    refine ⟨⟨w3, by omega, by omega, by omega⟩, fun f4 _ n4 _ c4 _ d4 _ w4 g4 => ?_⟩
    rw [y3] at g4
    obtain ⟨y4, x4⟩ := wThen_ok g4 (by rw [hl2, L3, beL_len]; omega)
    have L4 : (bI d4.d).length = 5 := by rw [x4, List.length_append, L3, beL_len]
    have q4 := hlen w4
    refine ⟨⟨w4, by omega, by omega, by omega⟩, fun f5 _ n5 _ c5 _ d5 _ w5 g5 => ?_⟩
    rw [y4] at g5
    obtain ⟨y5, x5⟩ := wThen_ok g5 (by rw [hl2, L4, beL_len]; omega)
    have L5 : (bI d5.d).length = 7 := by rw [x5, List.length_append, L4, beL_len]
    have q5 := hlen w5
    refine ⟨⟨w5, by omega, hone, ?_⟩, fun f6 _ n6 _ c6 _ d6 _ w6 g6 => ?_⟩
    · have := hman
      exact this ▸ ho
    have g6' : (f6.b, bI d6.d) = wThen lim.i f5.b (bI d5.d) (rowL (ρ 4).d 32) := g6
    rw [y5] at g6'
    obtain ⟨y6, x6⟩ := wThen_ok g6' (by rw [hl2, L5, rowL_len]; omega)
    have hhead : bI d6.d = manHead (ρ 0).i (ρ 1).i (ρ 2).i (ρ 3).i (rowL (ρ 4).d 32) := by
      rw [x6, x5, x4, x3, x2, x1]
      simp [manHead, bI, List.append_assoc]
    refine ⟨l0, ⟨hok, l0, hl2, y6, w6, hhead⟩, fun lim2 _ f _ n _ c _ d _ t _ _ t0 t1 z1 z2 z3 z4 => ⟨fun hlt => ?_, fun hge => ?_⟩⟩
    · obtain ⟨T, hT⟩ : ∃ T : Nat, t.i = T := ⟨t.i.toNat, by omega⟩
      have m1 : arithOf .add .i64 t.i 1 = ((T + 1 : Nat) : Int) := by rw [add64 (by omega) (by omega)]; omega
      have hTl : T < (ρ 8).d.length := by omega
      have hrow := row_dgs hTl
      have hnl : n.i = 39 + 32 * t.i := by
        have h1 := hlen z3
        rw [z4, List.length_append] at h1
        have h2 : ∀ (k : Nat), k ≤ (ρ 8).d.length → ((dgs (ρ 8).d).take k).flatten.length = 32 * k := fun k => by
          induction k with
          | zero => intro _; simp
          | succ k ih => intro hk; rw [dgs_take (by omega), List.length_append, ih (by omega)]; simp [rowB]; omega
        rw [h2 _ (by omega)] at h1
        have h3 : (manHead (ρ 0).i (ρ 1).i (ρ 2).i (ρ 3).i (rowL (ρ 4).d 32)).length = 39 := by simp [manHead, beL_len, rowL_len]
        omega
      rw [hT] at z4 hnl ⊢
      rw [← hT, m1, hT]
      refine ⟨by omega, by omega, ⟨z3, by omega, ⟨_, rfl, rfl⟩, ?_⟩, fun f7 _ n7 _ c7 _ d7 _ w7 g7 => ?_⟩
      · have h1 : allM (rowB (ρ 8).d[T]) := (hd _ (List.getElem_mem hTl)).2
        rw [← hrow] at h1
        exact h1
      · have g7' : (f7.b, bI d7.d) = wThen lim2.i f.b (bI d.d) (rowL [dgCells (cellI (ρ 8).d T)] 32) := g7
        rw [z2, hrow] at g7'
        have hbl : (rowB (ρ 8).d[T]).length = 32 := by simp [rowB]
        obtain ⟨y7, x7⟩ := wThen_ok g7' (by rw [← hlen z3, hbl]; omega)
        refine ⟨⟨hok, by omega, by omega, z1, y7, w7, ?_⟩, by omega⟩
        rw [x7, z4]
        simp only [Int.toNat_natCast]
        rw [dgs_take hTl, List.append_assoc]
    · have ht : t.i.toNat = (ρ 8).d.length := by omega
      rw [ht] at z4
      rw [List.take_of_length_le (by simp [dgs])] at z4
      refine ⟨⟨z3, ?_⟩, z2, fun e _ _ he => ⟨hok, by rw [he]; exact z3.2.2.1, by rw [he]; exact z3.2.2.2.2, by rw [he]; exact z4⟩⟩
      have := z3.2.2.2.1
      omega
end Go.Proofs

set_option linter.unusedSimpArgs false
set_option linter.unusedVariables false
namespace Go.Proofs
open Go Go.Eng
theorem sha_allM (m : List Int) : allM (sha m) := fun x hx => by
  obtain ⟨j, _, rfl⟩ := List.mem_map.1 hx
  omega
theorem sha_hex : hexL (sha [97, 98, 99]) = [98, 97, 55, 56, 49, 54, 98, 102, 56, 102, 48, 49, 99, 102, 101, 97, 52, 49, 52, 49, 52, 48, 100, 101, 53, 100, 97, 101, 50, 50, 50, 51, 98, 48, 48, 51, 54, 49, 97, 51, 57, 54, 49, 55, 55, 97, 57, 99, 98, 52, 49, 48, 102, 102, 54, 49, 102, 50, 48, 48, 49, 53, 97, 100] := by
  rw [sha_abc]; decide +kernel
theorem crc_known : ofW (crcF [49, 50, 51, 52, 53, 54, 55, 56, 57]) = 3808858755 := by decide +kernel
set_option maxRecDepth 100000 in
theorem top23 : (topE 2 3).2.2 = 2 := by kernel_rfl
theorem head23 : ∀ o : List Int, manHead 2 3 3 2 o = [77, 1, 2, 3, 3, 0, 2] ++ o := fun o => by
  have h1 : beL 19713 2 = [77, 1] := by decide
  have h2 : beL (2 % 256) 1 = [2] := by decide
  have h3 : beL (3 % 256) 1 = [3] := by decide
  have h4 : beL (2 % 65536) 2 = [0, 2] := by decide
  rw [manHead, h1, h2, h3, h4]; rfl
theorem madeAt_len {f : Nat → List Int} {n : Nat} : (madeAt f n).length = n := by simp [madeAt]
theorem bytesOf_bI {d : Rows'} : bytesOf d = (bI d).map fun x => UInt8.ofNat x.toNat := by simp [bytesOf, bI, rowI]
theorem pieceN_len {g full : List Int} {k l i : Nat} : ∀ j, (pieceN g full k l i j).length = l
  | 0 => by simp [pieceN]
  | j + 1 => by rw [pieceN, addToL_len, pieceN_len j]
theorem encP_len {k total : Nat} {data : List Int} {i : Nat} : (encP k total data i).length = pieceLen k data.length := pieceN_len k
theorem dgs_snoc {d : Rows'} {r : List Value} : dgs (d ++ [r]) = dgs d ++ [rowB r] := by simp [dgs]
theorem madeAt_snoc {f : Nat → List Int} {n : Nat} : madeAt f (n + 1) = madeAt f n ++ [sha (pieceIn n ++ f n)] := by simp [madeAt, List.range_succ]
theorem rowB_dg {d : Rows'} : rowB (dgCells (cellX d)) = rowL d 32 := rfl
set_option maxRecDepth 20000 in
set_option maxHeartbeats 1600000 in
theorem make_ok : makeC.ok Tryd.prog := make_of (by simp [sizes3_ok, encode31_ok, sha256_ok, pieceDg_ok]) fun ρ hg hp => by
  obtain ⟨hf, hl, hlc, hB, ⟨hGr, hGd⟩, htop⟩ := hp
  simp (config := { maxSteps := 2000000 }) [o_make, makeC, makeI, sizes3C, encode31C, sha256C, pieceDgC, gOk, bytesIn]
  have hnn := fieldD_ne hf
  refine fun u _ => ⟨fun h => absurd h hnn.1, fun _ b _ hb => ⟨fun hz => ⟨hf, by rw [← hb]; exact hz⟩, fun hz => ?_⟩⟩
  rw [hz] at hb
  have hs3 := hb.symm
  have hs3' := hs3
  simp [sizes3] at hs3'
  obtain ⟨b1, b2, b3, b4⟩ := hs3'
  have hsB : sizesB (ρ 2).i (ρ 4).i = true := by simp [sizesB]; omega
  have hsz : sizesB (ρ 2).i (ρ 4).i = false → False := fun h => by rw [hsB] at h; cases h
  refine ⟨⟨hf, hl, hB, htop⟩, fun e _ f _ hf2 he => ⟨fun hne => ⟨hf2, ?_⟩, fun hz2 => ?_⟩, fun _ _ _ _ f _ P _ ab _ hf2 _ hle hPl hE => ⟨by omega, ⟨⟨by omega, hlc, by omega, by omega, hB⟩, hGr, hGd⟩, fun o _ ho _ _ => ⟨by omega, ⟨hf2, hs3, hle, by omega, hPl, hE, ?_, ?_, ?_⟩, fun _ _ _ _ _ _ o2 _ _ _ t _ _ _ Ds _ P2 _ _ _ f2 _ ab2 _ hf3 _ _ t0 t1 hPl2 hE2 ho2 hDl hDo hDm => ⟨fun hlt => ?_, fun hge => ?_⟩⟩⟩⟩
  · rcases he with ⟨h, _⟩ | ⟨_, h1, h2⟩
    · exact (hsz h).elim
    · exact .inr ⟨hs3, h1, h2⟩
  · rcases he with ⟨h, _⟩ | ⟨_, h1, h2⟩
    · exact (hsz h).elim
    · omega
  · rw [segB_all hl] at ho
    exact ho
  · intro r hr; cases hr
  · rfl
  · obtain ⟨T, hT⟩ : ∃ T : Nat, t.i = T := ⟨t.i.toNat, by omega⟩
    have m1 : arithOf .add .i64 t.i 1 = ((T + 1 : Nat) : Int) := by rw [add64 (by omega) (by omega)]; omega
    obtain ⟨v, d, e1, e2, e3, e4⟩ := hE2 T (by omega)
    have hcv : cellV P2.d t.i 1 = v := by rw [hT]; simp [cellV, e1]
    have hci : cellI P2.d t.i 0 = (T : Int) := by rw [hT]; simp [cellI, cellV, e1, vInt]
    rw [m1, hcv, hci]
    have hdl : d.length ≤ (ρ 8).d.length := by
      have h1 := congrArg List.length e3
      rw [bI_len, encP_len, bI_len] at h1
      have := pieceLen_le (k := (ρ 2).i.toNat) (n := (ρ 8).d.length) (by omega)
      omega
    refine ⟨by omega, by omega, fun _ _ => ⟨d, e2, fun r0 _ c1 _ hv hcl => ⟨⟨hcl, by omega, e4, hGr, hGd⟩, fun g _ hg2 _ _ => ⟨by omega, by omega, fun _ _ _ _ ab3 _ hst => ⟨by omega, ⟨hf3, hs3, hle, by omega, by omega, hPl2, ?_, ho2, by omega, ?_, ?_⟩, by omega⟩⟩⟩⟩⟩
    · obtain ⟨hb2, lb, db⟩ := star_mem_abs hst (n := 32) (t := 2) (by simp)
      exact encAt_mono hE2 (Hp.le_trans (by simpa using db) lb)
    · intro r hr
      rcases List.mem_append.1 hr with hr | hr
      · exact hDo r hr
      · obtain rfl := List.mem_singleton.1 hr
        refine ⟨rfl, ?_⟩
        have : allM (rowL g.d 32) := by rw [hg2]; exact sha_allM _
        exact this
    · have hh : dgs (Ds.d ++ [dgCells (cellX g.d)]) = madeAt (encP (ρ 2).i.toNat (ρ 4).i.toNat (bI (ρ 8).d)) (T + 1) := by
        rw [dgs_snoc, rowB_dg, hg2, segB_all rfl, e3, hDm, hT, Int.toNat_natCast, madeAt_snoc]
      exact hh
  · have ht : t.i = (ρ 4).i := by omega
    refine fun ab3 _ hst => ⟨by omega, hf3, hs3, hle, hPl2, ?_, ho2, hDo, by rw [hDm, ht]⟩
    obtain ⟨hb2, lb, db⟩ := star_mem_abs hst (n := 32) (t := 2) (by simp)
    exact encAt_mono hE2 (Hp.le_trans (by simpa using db) lb)
set_option maxRecDepth 20000 in
theorem known_ok : knownC.ok Tryd.prog := known_of (by simp [sha256_ok, hex_ok, crc_ok, newField_ok, make_ok, encMan_ok]) fun ρ hg hp => by
  obtain ⟨hGr, hGd⟩ := hp
  simp (config := { maxSteps := 2000000 }) [o_known, vStr_mk, knownC, newFieldC, sha256C, hexC, crcC, makeC, encManC, gOk, bytesIn]
  have b3 : allB [[Value.int .u8 97], [Value.int .u8 98], [Value.int .u8 99]] := by
    intro row hr; simp at hr; rcases hr with rfl | rfl | rfl <;> decide
  have b9 : allB [[Value.int .u8 49], [Value.int .u8 50], [Value.int .u8 51], [Value.int .u8 52], [Value.int .u8 53], [Value.int .u8 54], [Value.int .u8 55], [Value.int .u8 56], [Value.int .u8 57]] := by
    intro row hr; simp at hr; rcases hr with rfl | rfl | rfl | rfl | rfl | rfl | rfl | rfl | rfl <;> decide
  have b2 : allB [[Value.int .u8 97], [Value.int .u8 98]] := by
    intro row hr; simp at hr; rcases hr with rfl | rfl <;> decide
  refine ⟨⟨b3, hGr, hGd⟩, fun d _ hd => ⟨?_, fun s _ hs => ?_⟩⟩
  · have : allM (rowL d.d 32) := by rw [hd]; exact sha_allM _
    exact this
  · have hs' : vStr s.v = hexL (rowL d.d 32) := hs
    have hd' : rowL d.d 32 = sha [97, 98, 99] := hd
    rw [hd', sha_hex] at hs'
    refine ⟨hs', fun _ => ⟨b9, fun c _ hc => ?_⟩⟩
    have hc' : c.i = 3808858755 := hc.trans crc_known
    refine ⟨hc', fun _ F _ hF => ⟨⟨.inl hF, b2, ⟨hGr, hGd⟩, fun _ => top23⟩, fun _ _ _ _ _ h => absurd h (by decide), fun o _ f _ Ds _ P _ ab _ hf hsz hPl hE ho hdo hdg => ?_⟩⟩
    have hDl : Ds.d.length = 3 := by
      have := congrArg List.length hdg
      rw [madeAt_len] at this; simpa [dgs] using this
    have hoM : allM (rowL o.d 32) := by rw [ho]; exact sha_allM _
    refine ⟨⟨by omega, hoM, hdo⟩, by decide, fun n _ cp _ b _ _ hn hb hbI => ?_⟩
    have hbI' : bI b.d = manHead 2 3 3 2 (rowL o.d 32) ++ (dgs Ds.d).flatten := hbI
    have hfl : (dgs Ds.d).flatten.length = 96 := by
      rw [hdg]; simp [madeAt, List.range_succ, sha_len]
    have hbl : b.d.length = 135 := by
      have := congrArg List.length hbI'
      rw [bI_len, head23] at this
      simp [rowL_len, hfl] at this
      exact this
    refine ⟨by omega, fun _ hcp => ⟨by omega, by omega, by omega, ?_⟩, by omega⟩
    have h7 : bI (List.take 7 b.d) = [77, 1, 2, 3, 3, 0, 2] := by
      rw [bI, List.map_take, ← bI, hbI', head23]; rfl
    rw [bytesOf_bI, h7]; rfl
end Go.Proofs

set_option linter.unusedSimpArgs false
set_option linter.unusedVariables false
namespace Go.Proofs
open Go Go.Eng
set_option maxRecDepth 20000
end Go.Proofs

set_option linter.unusedSimpArgs false
set_option linter.unusedVariables false
namespace Go.Eng
open Go Go.Proofs
/-! ### What is read: the bytes, what is left, the error -/
def rdTake (m : List Int) (e n : Int) : Option (List Int) × List Int × Int := if e ≠ 0 then (none, m, e) else if n < 0 then (none, m, 2) else if (m.length : Int) < n then (none, m, 4) else (some (m.take n.toNat), m.drop n.toNat, 0)
def rdNum (m : List Int) (e : Int) (w : Nat) : Int × List Int × List Int × Int := (valL ((rdTake m e w).1.getD []), [], (rdTake m e w).2)
def rdRaw (m : List Int) (e n : Int) : Int × List Int × List Int × Int := (0, (rdTake m e n).1.getD [], (rdTake m e n).2)
def rdText (m : List Int) (e : Int) : Int × List Int × List Int × Int := if e ≠ 0 then (0, [], m, e) else if m.length < 2 then (0, [], m, 4) else if ((m.drop 2).length : Int) < valL (m.take 2) then (0, [], m, 4) else (0, (m.drop 2).take (valL (m.take 2)).toNat, (m.drop 2).drop (valL (m.take 2)).toNat, 0)
def rdOp (m : List Int) (e k n : Int) : Int × List Int × List Int × Int := if 1 ≤ k ∧ k ≤ 4 then rdNum m e (2 ^ (k.toNat - 1)) else if k = 5 then rdRaw m e n else if k = 6 then rdText m e else (0, [], m, e)
/-! ### Readers -/
def rdStr : Nat := 146
def rdA : SV := .one (.vptr 0 (.lit 0) 2 0)
def rdCells (r o l c e : Nat) : SH := .cells 0 rdStr [.vslice r (.var o) (.var l) (.var c) 1, .vint .i64 (.var e)]
/-- What a Reader has left: a stretch of bytes. -/
def rOk (o l c : Int) (d : Rows') : Prop := 0 ≤ o ∧ 0 ≤ l ∧ l ≤ c ∧ o + l ≤ d.length ∧ allB d ∧ (d.length : Int) ≤ 100000000000000
def rPre (ρ : Env) : Prop := rOk (ρ 2).i (ρ 3).i (ρ 4).i (ρ 6).d ∧ 0 ≤ (ρ 5).i ∧ (ρ 5).i < 1000
def rM (ρ : Env) : List Int := segB (ρ 6).d (ρ 2).i (ρ 3).i
/-- After a call: the state at variables n .. n + 3. -/
def rNow (ρ : Env) (n : Nat) (x : List Int × Int) : Prop := rOk (ρ n).i (ρ (n + 1)).i (ρ (n + 2)).i (ρ 6).d ∧ segB (ρ 6).d (ρ n).i (ρ (n + 1)).i = x.1 ∧ (ρ (n + 3)).i = x.2 ∧ 0 ≤ (ρ (n + 3)).i ∧ (ρ (n + 3)).i < 1000
def takeC : Ctr := { fn := 119, nv := 9, args := [rdA, iv .i64 (.var 8)], heap := [rdCells 1 2 3 4 5], ro := [bHp 1 6 7], pre := fun ρ => rPre ρ ∧ i64P (ρ 8).i, alts := [
  { k := 1, ret := .one .vnils, heap := [.cells 0 rdStr [.vslice 1 (.var 2) (.var 3) (.var 4) 1, .vint .i64 (.var 9)]], post := fun ρ => rdTake (rM ρ) (ρ 5).i (ρ 8).i = (none, rM ρ, (ρ 9).i) ∧ 0 < (ρ 9).i ∧ (ρ 9).i < 1000 },
  { k := 5, ret := .one (.vslice 1 (.var 9) (.var 8) (.var 10) 1), heap := [.cells 0 rdStr [.vslice 1 (.var 11) (.var 12) (.var 13) 1, .vint .i64 (.lit 0)]], post := fun ρ => rOk (ρ 9).i (ρ 8).i (ρ 10).i (ρ 6).d ∧ rOk (ρ 11).i (ρ 12).i (ρ 13).i (ρ 6).d ∧ rdTake (rM ρ) (ρ 5).i (ρ 8).i = (some (segB (ρ 6).d (ρ 9).i (ρ 8).i), segB (ρ 6).d (ρ 11).i (ρ 12).i, 0) }] }
def rNumC : Ctr := { fn := 118, nv := 9, args := [rdA, iv .i64 (.var 8)], heap := [rdCells 1 2 3 4 5], ro := [bHp 1 6 7], pre := fun ρ => rPre ρ ∧ 0 ≤ (ρ 8).i ∧ (ρ 8).i ≤ 8, alts := [
  { k := 5, ret := u64v 9, heap := [rdCells 1 10 11 12 13], post := fun ρ => (ρ 9).i = (rdNum (rM ρ) (ρ 5).i (ρ 8).i.toNat).1 ∧ rNow ρ 10 (rdNum (rM ρ) (ρ 5).i (ρ 8).i.toNat).2.2 }] }
/-- Nothing was taken; bytes were taken. -/
def rNumN : Inv := { key := 3, nv := 2, env := [(5, u64v 1000), (10, .one .vnils), (11, iv .i64 (.lit 0)), (12, iv .i64 (.var 1001))], heap := [.cells 0 rdStr [.vslice 1 (.var 2) (.var 3) (.var 4) 1, .vint .i64 (.var 9)]], inv := (fun ρ => (ρ 1000).i = 0 ∧ (ρ 1001).i = 0), mu := fun _ => 0 }
def rNumI : Inv := { key := 3, nv := 2, env := [(5, u64v 1000), (10, .one (.vslice 1 (.var 9) (.var 8) (.var 10) 1)), (11, iv .i64 (.var 8)), (12, iv .i64 (.var 1001))], heap := [.cells 0 rdStr [.vslice 1 (.var 11) (.var 12) (.var 13) 1, .vint .i64 (.lit 0)]], inv := (fun ρ => 0 ≤ (ρ 1001).i ∧ (ρ 1001).i ≤ (ρ 8).i ∧ (ρ 1000).i = valL (segB (ρ 6).d (ρ 9).i (ρ 1001).i)), mu := (fun ρ => ((ρ 8).i - (ρ 1001).i).toNat) }
def rNumFn (fn : Nat) (k : IntKind) (n : Nat) : Ctr := { fn := fn, nv := 8, args := [rdA], heap := [rdCells 1 2 3 4 5], ro := [bHp 1 6 7], pre := rPre, alts := [
  { k := 5, ret := .one (.vint k (.var 8)), heap := [rdCells 1 9 10 11 12], post := fun ρ => (ρ 8).i = (rdNum (rM ρ) (ρ 5).i n).1 ∧ rNow ρ 9 (rdNum (rM ρ) (ρ 5).i n).2.2 }] }
def rU8C : Ctr := rNumFn 90 .u8 1
def rU16C : Ctr := rNumFn 91 .u16 2
def rU32C : Ctr := rNumFn 92 .u32 4
def rU64C : Ctr := rNumFn 93 .u64 8
/-- A copy of a stretch of bytes. -/
def cloneOC : Ctr := { fn := 88, nv := 6, args := [bSl 0 1 2 3], heap := [], ro := [bHp 0 4 5], pre := fun ρ => rOk (ρ 1).i (ρ 2).i (ρ 3).i (ρ 4).d, alts := [
  { k := 3, ret := .one (.vslice 6 (.lit 0) (.var 2) (.var 7) 1), heap := [bHp 6 8 7], post := fun ρ => (ρ 8).d.length = (ρ 2).i.toNat ∧ allB (ρ 8).d ∧ bI (ρ 8).d = segB (ρ 4).d (ρ 1).i (ρ 2).i }] }
def cloneNC : Ctr := { fn := 88, nv := 0, args := [.one .vnils], heap := [], ro := [], pre := fun _ => True, alts := [{ k := 0, ret := .one .vnils, heap := [], post := fun _ => True }] }
/-- Bytes that are read: 8 .. 11 they, 12 .. 15 the state. -/
def rRet : SV := .one (.vslice 9 (.lit 0) (.var 10) (.var 11) 1)
def rRetHp : List SH := [rdCells 1 13 14 15 16, bHp 9 12 11]
def rPost (ρ : Env) (x : Int × List Int × List Int × Int) : Prop := (ρ 10).i = (ρ 12).d.length ∧ allB (ρ 12).d ∧ bI (ρ 12).d = x.2.1 ∧ rNow ρ 13 x.2.2
def rawRC : Ctr := { fn := 94, nv := 9, args := [rdA, iv .i64 (.var 8)], heap := [rdCells 1 2 3 4 5], ro := [bHp 1 6 7], pre := fun ρ => rPre ρ ∧ i64P (ρ 8).i, alts := [
  { k := 8, ret := rRet, heap := rRetHp, post := fun ρ => rPost ρ (rdRaw (rM ρ) (ρ 5).i (ρ 8).i) }] }
def textRC : Ctr := { fn := 95, nv := 9, args := [rdA], heap := [rdCells 1 2 3 4 5], ro := [bHp 1 6 7], pre := rPre, alts := [
  { k := 8, ret := rRet, heap := rRetHp, post := fun ρ => rPost ρ (rdText (rM ρ) (ρ 5).i) }] }
/-- A call is made: 8 .. 15 the call and its bytes. -/
def readOpC : Ctr := { fn := 59, nv := 16, args := [rdA, .agg (opV 8 9 10 11 12 13)], heap := [rdCells 1 2 3 4 5], ro := [bHp 1 6 7, bHp 11 14 15], pre := fun ρ => rPre ρ ∧ i64P (ρ 8).i ∧ i64P (ρ 10).i, alts := [
  { k := 9, ret := .tup [(false, [.vint .u64 (.var 16)]), (false, [.vslice 17 (.lit 0) (.var 18) (.var 19) 1])], heap := [rdCells 1 21 22 23 24, bHp 17 20 19], post := fun ρ => (ρ 16).i = (rdOp (rM ρ) (ρ 5).i (ρ 8).i (ρ 10).i).1 ∧ (ρ 18).i = (ρ 20).d.length ∧ allB (ρ 20).d ∧ bI (ρ 20).d = (rdOp (rM ρ) (ρ 5).i (ρ 8).i (ρ 10).i).2.1 ∧ rNow ρ 21 (rdOp (rM ρ) (ρ 5).i (ρ 8).i (ρ 10).i).2.2 }] }
def newReaderC : Ctr := { fn := 58, nv := 5, args := [.one (.vslice 0 (.lit 0) (.var 1) (.var 2) 1)], heap := [], ro := [bHp 0 3 4], pre := fun ρ => 0 ≤ (ρ 1).i ∧ (ρ 1).i = (ρ 3).d.length ∧ (ρ 1).i ≤ 140737488355328, alts := [
  { k := 4, ret := .one (.vptr 5 (.lit 0) 2 0), heap := [.cells 5 rdStr [.vslice 6 (.lit 0) (.var 1) (.var 7) 1, .vint .i64 (.lit 0)], bHp 6 8 7], post := fun ρ => (ρ 8).d = (ρ 3).d }] }
def restC : Ctr := { fn := 61, nv := 8, args := [rdA], heap := [], ro := [rdCells 1 2 3 4 5], pre := fun ρ => 0 ≤ (ρ 3).i, alts := [{ k := 0, ret := iv .i64 (.var 3), heap := [], post := fun _ => True }] }
def errC : Ctr := { fn := 62, nv := 8, args := [rdA], heap := [], ro := [rdCells 1 2 3 4 5], pre := fun _ => True, alts := [{ k := 0, ret := iv .i64 (.var 5), heap := [], post := fun _ => True }] }
def endE (l e : Int) : Int := if e ≠ 0 then e else if 0 < l then 5 else 0
def endC : Ctr := { fn := 63, nv := 8, args := [rdA], heap := [], ro := [rdCells 1 2 3 4 5], pre := fun ρ => 0 ≤ (ρ 3).i, alts := [{ k := 1, ret := iv .i64 (.var 8), heap := [], post := fun ρ => (ρ 8).i = endE (ρ 3).i (ρ 5).i }] }
/-! ### The document's Readers -/
def valueC : Ctr := { fn := 96, nv := 6, args := [bSl 0 1 2 3], heap := [], ro := [bHp 0 4 5], pre := fun ρ => rOk (ρ 1).i (ρ 2).i (ρ 3).i (ρ 4).d ∧ (ρ 2).i ≤ 8, alts := [
  { k := 1, ret := u64v 6, heap := [], post := fun ρ => (ρ 6).i = valL (segB (ρ 4).d (ρ 1).i (ρ 2).i) }] }
def valueI : Inv := { key := 3, nv := 2, env := [(0, bSl 0 1 2 3), (3, u64v 1000), (4, iv .i64 (.var 1001))], heap := [], inv := (fun ρ => 0 ≤ (ρ 1001).i ∧ (ρ 1001).i ≤ (ρ 2).i ∧ (ρ 1000).i = valL (segB (ρ 4).d (ρ 1).i (ρ 1001).i)), mu := (fun ρ => ((ρ 2).i - (ρ 1001).i).toNat) }
def inV (r o l c e : Nat) : List T := [.vslice r (.var o) (.var l) (.var c) 1, .vint .i64 (.var e)]
/-- 1 .. 5 the state as a Reader's (1 the bytes' place), 6, 7 the bytes, 8 .. 15 the call. -/
def readRC : Ctr := { fn := 60, nv := 16, args := [.agg (inV 1 2 3 4 5), .agg (opV 8 9 10 11 12 13)], heap := [], ro := [bHp 1 6 7, bHp 11 14 15], pre := fun ρ => rPre ρ ∧ i64P (ρ 8).i ∧ i64P (ρ 10).i, alts := [
  { k := 5, ret := .tup [(false, [.vint .u64 (.var 16)]), (false, [.vnils]), (true, inV 1 17 18 19 20)], heap := [], post := fun ρ => (rdOp (rM ρ) (ρ 5).i (ρ 8).i (ρ 10).i).1 = (ρ 16).i ∧ (rdOp (rM ρ) (ρ 5).i (ρ 8).i (ρ 10).i).2.1 = [] ∧ rNow ρ 17 (rdOp (rM ρ) (ρ 5).i (ρ 8).i (ρ 10).i).2.2 },
  { k := 7, ret := .tup [(false, [.vint .u64 (.lit 0)]), (false, [.vslice 1 (.var 16) (.var 17) (.var 18) 1]), (true, inV 1 19 20 21 22)], heap := [], post := fun ρ => (rdOp (rM ρ) (ρ 5).i (ρ 8).i (ρ 10).i).1 = 0 ∧ rOk (ρ 16).i (ρ 17).i (ρ 18).i (ρ 6).d ∧ (rdOp (rM ρ) (ρ 5).i (ρ 8).i (ρ 10).i).2.1 = segB (ρ 6).d (ρ 16).i (ρ 17).i ∧ rNow ρ 19 (rdOp (rM ρ) (ρ 5).i (ρ 8).i (ρ 10).i).2.2 }] }
def endRC : Ctr := { fn := 64, nv := 6, args := [.agg (inV 1 2 3 4 5)], heap := [], ro := [], pre := fun ρ => 0 ≤ (ρ 3).i, alts := [{ k := 1, ret := iv .i64 (.var 6), heap := [], post := fun ρ => (ρ 6).i = endE (ρ 3).i (ρ 5).i }] }
/-! ### The law -/
def inStr : Nat := 88
def lawReadsC : Ctr := { fn := 14, nv := 13, ip := [gIp 11, (1005, 8)], args := [bS 0, opsS 5], heap := [], ro := bSHp 0 :: (opsHp 5 ++ [gHp 11 12]), pre := fun ρ => bSIn ρ 0 ∧ opsIn ρ 5 ∧ gOk ρ 11 12 gR, alts := [lawTrue] }
def lawReadsI : Inv := { key := 8, nv := 9, env := [(0, bS 0), (1, opsS 5), (5, .one (.vslice 1000 (.lit 0) (.var 1001) (.var 1002) 1)), (6, .one (.vptr 1004 (.lit 0) 2 0)), (7, iv .i64 (.var 1005))], heap := [bHp 1000 1003 1002, .cells 1004 rdStr [.vslice 1006 (.lit 0) (.var 1) (.var 1007) 1, .vint .i64 (.lit 0)], bHp 1006 1008 1007], inv := (fun ρ => (ρ 1).i ≤ 200000 ∧ (ρ 6).i ≤ 200 ∧ 0 ≤ (ρ 1005).i ∧ (ρ 1005).i ≤ (ρ 1001).i ∧ (ρ 1001).i ≤ 200000 ∧ (ρ 1001).i = (ρ 1003).d.length ∧ (ρ 1008).d.length = (ρ 3).d.length ∧ bI (ρ 1008).d = bI (ρ 3).d ∧ allB (ρ 1008).d), mu := (fun ρ => ((ρ 1001).i - (ρ 1005).i).toNat) }
def lrEnv : List (Nat × SV) := [(0, bS 0), (1, opsS 5), (6, .one (.vptr 1000 (.lit 0) 2 0)), (8, .one (.vptr 1001 (.lit 0) 2 0)), (9, iv .i64 (.var 1002))]
def lrHp : List SH := [.cells 1000 rdStr (inV 1003 1004 1005 1006 1007), bHp 1003 1009 1008, .cells 1001 inStr (inV 1010 1011 1012 1013 1014), bHp 1010 1016 1015]
/-- A stretch of bytes in a block of a known bound. -/
def rIn (o l c cap : Int) (d : Rows') : Prop := 0 ≤ l ∧ ((d.length : Int) ≤ cap → rOk o l c d)
def lrIn (ρ : Env) : Prop := 0 ≤ (ρ 1002).i ∧ (ρ 1002).i ≤ (ρ 6).i ∧ (ρ 6).i ≤ 200 ∧ rIn (ρ 1004).i (ρ 1005).i (ρ 1006).i (ρ 1008).i (ρ 1009).d ∧ rIn (ρ 1011).i (ρ 1012).i (ρ 1013).i (ρ 1015).i (ρ 1016).d ∧ (ρ 1005).i = (ρ 1012).i ∧ segB (ρ 1009).d (ρ 1004).i (ρ 1005).i = segB (ρ 1016).d (ρ 1011).i (ρ 1012).i ∧ (ρ 1007).i = (ρ 1014).i ∧ 0 ≤ (ρ 1007).i ∧ (ρ 1007).i < 1000
def lawReadsJ : Inv := { key := 13, nv := 18, env := lrEnv, heap := lrHp ++ [.abs 1017 2], inv := lrIn, mu := (fun ρ => ((ρ 6).i - (ρ 1002).i).toNat) }
/-- 1018 .. 1021 the bytes; 1022 the place. -/
def lawReadsK : Inv := { key := 21, nv := 23, env := lrEnv ++ [(11, .one (.vslice 1018 (.lit 0) (.var 1019) (.var 1020) 1)), (15, iv .i64 (.var 1022))], heap := lrHp ++ [bHp 1018 1021 1020, .abs 1017 2], inv := (fun ρ => lrIn ρ ∧ (ρ 1002).i < (ρ 6).i ∧ (ρ 1002).i = (ρ 36).i ∧ (ρ 1019).i = (ρ 1021).d.length ∧ (ρ 1019).i ≤ 100000000000000 ∧ 0 ≤ (ρ 1022).i ∧ (ρ 1022).i ≤ (ρ 1019).i), mu := (fun ρ => ((ρ 1019).i - (ρ 1022).i).toNat) }
end Go.Eng

set_option linter.unusedSimpArgs false
set_option linter.unusedVariables false
set_option maxRecDepth 100000
namespace Go.Proofs
open Go Go.Eng

def o_take : Out := (.br (.cmp .neq (.var 5) (.lit (0)))
 (.ret 0 ⟨9, [(9, (.t (.var 5)))], [((.var 4), (.var 4)), ((.var 3), (.var 3)), ((.var 2), (.var 2))], [], []⟩)
 (.br (.cmp .lss (.var 8) (.lit (0)))
 (.ret 0 ⟨9, [(9, (.t (.lit (2))))], [((.var 4), (.var 4)), ((.var 3), (.var 3)), ((.var 2), (.var 2))], [], []⟩)
 (.need (.cmp .leq (.lit (0)) (.var 3)) (.br (.cmp .gtr (.var 8) (.var 3))
 (.ret 0 ⟨9, [(9, (.t (.lit (4))))], [((.var 4), (.var 4)), ((.var 3), (.var 3)), ((.var 2), (.var 2))], [], []⟩)
 (.need (.cmp .leq (.lit (0)) (.var 2)) (.need (.cmp .leq (.lit (0)) (.var 4)) (.need (.cmp .leq (.lit (0)) (.var 8)) (.need (.cmp .leq (.var 8) (.var 4)) (.need (.cmp .leq (.var 8) (.var 3)) (.need (.cmp .leq (.var 3) (.var 4)) (.need (.cmp .eql (.lit (0)) (.var 5)) (.ret 1 ⟨9, [(13, (.t (.minus (.var 4) (.var 8)))), (12, (.t (.minus (.var 3) (.var 8)))), (11, (.t (.ife (.var 4) (.var 8) (.var 2) (.plus (.var 2) (.var 8))))), (10, (.t (.var 4))), (9, (.t (.var 2)))], [((.lit (0)), (.var 5)), ((.var 8), (.var 8))], [], []⟩))))))))))))
theorem o_take_eq : treeOf ⟨Tryd.prog, takeC, [], []⟩ 100000 Tryd.f119 = o_take := by kernel_rfl
theorem take_of (hd : ∀ c ∈ ([] : List Ctr), c.ok Tryd.prog) (h : ∀ ρ : Env, ρ.good → (takeC).pre ρ → o_take.den ⟨Tryd.prog, takeC, [], []⟩ ρ) : (takeC).ok Tryd.prog :=
  ok_of_tree Tryd.func119 (fun a w => Tryd.call119 a w) hd 100000 (fun ρ hg hp => by rw [o_take_eq]; exact h ρ hg hp)
def o_rNum : Out := (.pre 0 ⟨0, [(7, (.t (.var 7))), (6, (.t (.var 6))), (5, (.t (.var 5))), (4, (.t (.var 4))), (3, (.t (.var 3))), (2, (.t (.var 2))), (1, (.r 1)), (8, (.t (.var 8))), (0, (.r 0))], [((.lit (0)), (.lit (0)))], [], []⟩ (.both (.fresh 9 (.post 0 0 ⟨0, [(7, (.t (.var 7))), (6, (.t (.var 6))), (5, (.t (.var 5))), (4, (.t (.var 4))), (3, (.t (.var 3))), (2, (.t (.var 2))), (1, (.r 1)), (8, (.t (.var 8))), (0, (.r 0))], [((.lit (0)), (.lit (0)))], [], []⟩ 9 (.inv 0 10 ⟨1000, [(1001, (.t (.lit (0)))), (1000, (.t (.lit (0))))], [((.var 9), (.var 9)), ((.var 4), (.var 4)), ((.var 3), (.var 3)), ((.var 2), (.var 2)), ((.lit (0)), (.lit (0)))], [], []⟩ (.fresh 10 (.fresh 11 (.hyp 0 10 (.br (.cmp .lss (.var 11) (.lit (0)))
 (.stuck 15 0 0)
 (.ret 0 ⟨9, [(13, (.t (.var 9))), (12, (.t (.var 4))), (11, (.t (.var 3))), (10, (.t (.var 2))), (9, (.t (.var 10)))], [], [], []⟩)))))))) (.both (.fresh 9 (.fresh 10 (.fresh 11 (.fresh 12 (.fresh 13 (.post 0 1 ⟨0, [(7, (.t (.var 7))), (6, (.t (.var 6))), (5, (.t (.var 5))), (4, (.t (.var 4))), (3, (.t (.var 3))), (2, (.t (.var 2))), (1, (.r 1)), (8, (.t (.var 8))), (0, (.r 0))], [((.lit (0)), (.lit (0)))], [], []⟩ 9 (.need (.cmp .leq (.lit (0)) (.var 8)) (.inv 1 14 ⟨1000, [(1001, (.t (.lit (0)))), (1000, (.t (.lit (0))))], [((.lit (0)), (.lit (0))), ((.var 13), (.var 13)), ((.var 12), (.var 12)), ((.var 11), (.var 11)), ((.var 8), (.var 8)), ((.var 10), (.var 10)), ((.var 8), (.var 8)), ((.var 9), (.var 9))], [], []⟩ (.fresh 14 (.fresh 15 (.hyp 1 14 (.br (.cmp .lss (.var 15) (.var 8))
 (.need (.cmp .leq (.lit (0)) (.var 15)) (.need (.cmp .leq (.lit (0)) (.var 9)) (.need (.cmp .leq (.lit (0)) (.plus (.var 9) (.var 15))) (.need (.cmp .lss (.plus (.var 9) (.var 15)) (.dlen (.var 6))) (.back 1 14 ⟨1000, [(1001, (.t (.arith .add .i64 (.var 15) (.lit (1))))), (1000, (.t (.arith .or .u64 (.arith .shl .u64 (.var 14) (.lit (8))) (.conv .u64 (.icell (.var 6) (.plus (.var 9) (.var 15)) 0)))))], [((.lit (0)), (.lit (0))), ((.var 13), (.var 13)), ((.var 12), (.var 12)), ((.var 11), (.var 11)), ((.var 8), (.var 8)), ((.var 10), (.var 10)), ((.var 8), (.var 8)), ((.var 9), (.var 9))], [], []⟩)))))
 (.ret 0 ⟨9, [(13, (.t (.lit (0)))), (12, (.t (.var 13))), (11, (.t (.var 12))), (10, (.t (.var 11))), (9, (.t (.var 14)))], [], [], []⟩))))))))))))) .top)))
theorem o_rNum_eq : treeOf ⟨Tryd.prog, rNumC, [takeC], [rNumN, rNumI]⟩ 100000 Tryd.f118 = o_rNum := by kernel_rfl
theorem rNum_of (hd : ∀ c ∈ ([takeC] : List Ctr), c.ok Tryd.prog) (h : ∀ ρ : Env, ρ.good → (rNumC).pre ρ → o_rNum.den ⟨Tryd.prog, rNumC, [takeC], [rNumN, rNumI]⟩ ρ) : (rNumC).ok Tryd.prog :=
  ok_of_tree Tryd.func118 (fun a w => Tryd.call118 a w) hd 100000 (fun ρ hg hp => by rw [o_rNum_eq]; exact h ρ hg hp)
def o_rU8 : Out := (.pre 0 ⟨0, [(7, (.t (.var 7))), (6, (.t (.var 6))), (5, (.t (.var 5))), (4, (.t (.var 4))), (3, (.t (.var 3))), (2, (.t (.var 2))), (1, (.r 1)), (8, (.t (.lit (1)))), (0, (.r 0))], [((.lit (0)), (.lit (0)))], [], []⟩ (.both (.fresh 8 (.fresh 9 (.fresh 10 (.fresh 11 (.fresh 12 (.post 0 0 ⟨0, [(7, (.t (.var 7))), (6, (.t (.var 6))), (5, (.t (.var 5))), (4, (.t (.var 4))), (3, (.t (.var 3))), (2, (.t (.var 2))), (1, (.r 1)), (8, (.t (.lit (1)))), (0, (.r 0))], [((.lit (0)), (.lit (0)))], [], []⟩ 8 (.ret 0 ⟨8, [(12, (.t (.var 12))), (11, (.t (.var 11))), (10, (.t (.var 10))), (9, (.t (.var 9))), (8, (.t (.conv .u8 (.var 8))))], [], [], []⟩))))))) .top))
theorem o_rU8_eq : treeOf ⟨Tryd.prog, rU8C, [rNumC], []⟩ 100000 Tryd.f90 = o_rU8 := by kernel_rfl
theorem rU8_of (hd : ∀ c ∈ ([rNumC] : List Ctr), c.ok Tryd.prog) (h : ∀ ρ : Env, ρ.good → (rU8C).pre ρ → o_rU8.den ⟨Tryd.prog, rU8C, [rNumC], []⟩ ρ) : (rU8C).ok Tryd.prog :=
  ok_of_tree Tryd.func90 (fun a w => Tryd.call90 a w) hd 100000 (fun ρ hg hp => by rw [o_rU8_eq]; exact h ρ hg hp)
def o_rU16 : Out := (.pre 0 ⟨0, [(7, (.t (.var 7))), (6, (.t (.var 6))), (5, (.t (.var 5))), (4, (.t (.var 4))), (3, (.t (.var 3))), (2, (.t (.var 2))), (1, (.r 1)), (8, (.t (.lit (2)))), (0, (.r 0))], [((.lit (0)), (.lit (0)))], [], []⟩ (.both (.fresh 8 (.fresh 9 (.fresh 10 (.fresh 11 (.fresh 12 (.post 0 0 ⟨0, [(7, (.t (.var 7))), (6, (.t (.var 6))), (5, (.t (.var 5))), (4, (.t (.var 4))), (3, (.t (.var 3))), (2, (.t (.var 2))), (1, (.r 1)), (8, (.t (.lit (2)))), (0, (.r 0))], [((.lit (0)), (.lit (0)))], [], []⟩ 8 (.ret 0 ⟨8, [(12, (.t (.var 12))), (11, (.t (.var 11))), (10, (.t (.var 10))), (9, (.t (.var 9))), (8, (.t (.conv .u16 (.var 8))))], [], [], []⟩))))))) .top))
theorem o_rU16_eq : treeOf ⟨Tryd.prog, rU16C, [rNumC], []⟩ 100000 Tryd.f91 = o_rU16 := by kernel_rfl
theorem rU16_of (hd : ∀ c ∈ ([rNumC] : List Ctr), c.ok Tryd.prog) (h : ∀ ρ : Env, ρ.good → (rU16C).pre ρ → o_rU16.den ⟨Tryd.prog, rU16C, [rNumC], []⟩ ρ) : (rU16C).ok Tryd.prog :=
  ok_of_tree Tryd.func91 (fun a w => Tryd.call91 a w) hd 100000 (fun ρ hg hp => by rw [o_rU16_eq]; exact h ρ hg hp)
def o_rU32 : Out := (.pre 0 ⟨0, [(7, (.t (.var 7))), (6, (.t (.var 6))), (5, (.t (.var 5))), (4, (.t (.var 4))), (3, (.t (.var 3))), (2, (.t (.var 2))), (1, (.r 1)), (8, (.t (.lit (4)))), (0, (.r 0))], [((.lit (0)), (.lit (0)))], [], []⟩ (.both (.fresh 8 (.fresh 9 (.fresh 10 (.fresh 11 (.fresh 12 (.post 0 0 ⟨0, [(7, (.t (.var 7))), (6, (.t (.var 6))), (5, (.t (.var 5))), (4, (.t (.var 4))), (3, (.t (.var 3))), (2, (.t (.var 2))), (1, (.r 1)), (8, (.t (.lit (4)))), (0, (.r 0))], [((.lit (0)), (.lit (0)))], [], []⟩ 8 (.ret 0 ⟨8, [(12, (.t (.var 12))), (11, (.t (.var 11))), (10, (.t (.var 10))), (9, (.t (.var 9))), (8, (.t (.conv .u32 (.var 8))))], [], [], []⟩))))))) .top))
theorem o_rU32_eq : treeOf ⟨Tryd.prog, rU32C, [rNumC], []⟩ 100000 Tryd.f92 = o_rU32 := by kernel_rfl
theorem rU32_of (hd : ∀ c ∈ ([rNumC] : List Ctr), c.ok Tryd.prog) (h : ∀ ρ : Env, ρ.good → (rU32C).pre ρ → o_rU32.den ⟨Tryd.prog, rU32C, [rNumC], []⟩ ρ) : (rU32C).ok Tryd.prog :=
  ok_of_tree Tryd.func92 (fun a w => Tryd.call92 a w) hd 100000 (fun ρ hg hp => by rw [o_rU32_eq]; exact h ρ hg hp)
def o_rU64 : Out := (.pre 0 ⟨0, [(7, (.t (.var 7))), (6, (.t (.var 6))), (5, (.t (.var 5))), (4, (.t (.var 4))), (3, (.t (.var 3))), (2, (.t (.var 2))), (1, (.r 1)), (8, (.t (.lit (8)))), (0, (.r 0))], [((.lit (0)), (.lit (0)))], [], []⟩ (.both (.fresh 8 (.fresh 9 (.fresh 10 (.fresh 11 (.fresh 12 (.post 0 0 ⟨0, [(7, (.t (.var 7))), (6, (.t (.var 6))), (5, (.t (.var 5))), (4, (.t (.var 4))), (3, (.t (.var 3))), (2, (.t (.var 2))), (1, (.r 1)), (8, (.t (.lit (8)))), (0, (.r 0))], [((.lit (0)), (.lit (0)))], [], []⟩ 8 (.ret 0 ⟨8, [(12, (.t (.var 12))), (11, (.t (.var 11))), (10, (.t (.var 10))), (9, (.t (.var 9))), (8, (.t (.var 8)))], [], [], []⟩))))))) .top))
theorem o_rU64_eq : treeOf ⟨Tryd.prog, rU64C, [rNumC], []⟩ 100000 Tryd.f93 = o_rU64 := by kernel_rfl
theorem rU64_of (hd : ∀ c ∈ ([rNumC] : List Ctr), c.ok Tryd.prog) (h : ∀ ρ : Env, ρ.good → (rU64C).pre ρ → o_rU64.den ⟨Tryd.prog, rU64C, [rNumC], []⟩ ρ) : (rU64C).ok Tryd.prog :=
  ok_of_tree Tryd.func93 (fun a w => Tryd.call93 a w) hd 100000 (fun ρ hg hp => by rw [o_rU64_eq]; exact h ρ hg hp)
def o_cloneO : Out := (.br (.and (.cmp .eql (.dlen (.var 4)) (.lit (0))) (.isnil 0))
 (.need (.cmp .eql (.var 2) (.lit (0))) (.ret 0 ⟨6, [(8, (.t .dnil)), (7, (.t (.lit (0)))), (6, .nil)], [((.var 7), (.lit (0))), ((.var 2), (.lit (0))), ((.lit (0)), (.lit (0)))], [], []⟩))
 (.fresh 6 (.need (.cmp .leq (.lit (0)) (.var 1)) (.need (.cmp .leq (.lit (0)) (.var 2)) (.need (.cmp .leq (.plus (.var 1) (.var 2)) (.dlen (.var 4))) (.need (.cmp .leq (.tims (.lit (1)) (.var 2)) (.lit (140737488355328))) (.fresh 7 (.fresh 8 (.ret 0 ⟨6, [(8, (.t (.dtake (.ddrop (.var 4) (.var 1)) (.var 2)))), (7, (.t (.var 8))), (6, (.r 7))], [((.var 7), (.var 8)), ((.var 2), (.var 2)), ((.lit (0)), (.lit (0)))], [], []⟩)))))))))
theorem o_cloneO_eq : treeOf ⟨Tryd.prog, cloneOC, [], []⟩ 100000 Tryd.f88 = o_cloneO := by kernel_rfl
theorem cloneO_of (hd : ∀ c ∈ ([] : List Ctr), c.ok Tryd.prog) (h : ∀ ρ : Env, ρ.good → (cloneOC).pre ρ → o_cloneO.den ⟨Tryd.prog, cloneOC, [], []⟩ ρ) : (cloneOC).ok Tryd.prog :=
  ok_of_tree Tryd.func88 (fun a w => Tryd.call88 a w) hd 100000 (fun ρ hg hp => by rw [o_cloneO_eq]; exact h ρ hg hp)
def o_cloneN : Out := (.ret 0 ⟨0, [], [], [], []⟩)
theorem o_cloneN_eq : treeOf ⟨Tryd.prog, cloneNC, [], []⟩ 100000 Tryd.f88 = o_cloneN := by kernel_rfl
theorem cloneN_of (hd : ∀ c ∈ ([] : List Ctr), c.ok Tryd.prog) (h : ∀ ρ : Env, ρ.good → (cloneNC).pre ρ → o_cloneN.den ⟨Tryd.prog, cloneNC, [], []⟩ ρ) : (cloneNC).ok Tryd.prog :=
  ok_of_tree Tryd.func88 (fun a w => Tryd.call88 a w) hd 100000 (fun ρ hg hp => by rw [o_cloneN_eq]; exact h ρ hg hp)
def o_rawR : Out := (.pre 0 ⟨0, [(7, (.t (.var 7))), (6, (.t (.var 6))), (5, (.t (.var 5))), (4, (.t (.var 4))), (3, (.t (.var 3))), (2, (.t (.var 2))), (1, (.r 1)), (8, (.t (.var 8))), (0, (.r 0))], [((.lit (0)), (.lit (0)))], [], []⟩ (.both (.fresh 9 (.post 0 0 ⟨0, [(7, (.t (.var 7))), (6, (.t (.var 6))), (5, (.t (.var 5))), (4, (.t (.var 4))), (3, (.t (.var 3))), (2, (.t (.var 2))), (1, (.r 1)), (8, (.t (.var 8))), (0, (.r 0))], [((.lit (0)), (.lit (0)))], [], []⟩ 9 (.pre 1 ⟨0, [], [], [], []⟩ (.both (.post 1 0 ⟨0, [], [], [], []⟩ 10 (.ret 0 ⟨9, [(12, (.t .dnil)), (16, (.t (.var 9))), (15, (.t (.var 4))), (14, (.t (.var 3))), (13, (.t (.var 2))), (11, (.t (.lit (0)))), (10, (.t (.lit (0)))), (9, .nil)], [((.var 11), (.lit (0))), ((.lit (0)), (.lit (0)))], [], []⟩)) .top)))) (.both (.fresh 9 (.fresh 10 (.fresh 11 (.fresh 12 (.fresh 13 (.post 0 1 ⟨0, [(7, (.t (.var 7))), (6, (.t (.var 6))), (5, (.t (.var 5))), (4, (.t (.var 4))), (3, (.t (.var 3))), (2, (.t (.var 2))), (1, (.r 1)), (8, (.t (.var 8))), (0, (.r 0))], [((.lit (0)), (.lit (0)))], [], []⟩ 9 (.pre 2 ⟨0, [(5, (.t (.var 7))), (4, (.t (.var 6))), (3, (.t (.var 10))), (2, (.t (.var 8))), (1, (.t (.var 9))), (0, (.r 1))], [], [], []⟩ (.both (.fresh 14 (.fresh 15 (.fresh 16 (.post 2 0 ⟨0, [(5, (.t (.var 7))), (4, (.t (.var 6))), (3, (.t (.var 10))), (2, (.t (.var 8))), (1, (.t (.var 9))), (0, (.r 1))], [], [], []⟩ 14 (.ret 0 ⟨9, [(12, (.t (.var 16))), (16, (.t (.lit (0)))), (15, (.t (.var 13))), (14, (.t (.var 12))), (13, (.t (.var 11))), (11, (.t (.var 15))), (10, (.t (.var 8))), (9, (.r 14))], [((.var 11), (.var 15)), ((.lit (0)), (.lit (0)))], [], []⟩))))) .top)))))))) .top)))
theorem o_rawR_eq : treeOf ⟨Tryd.prog, rawRC, [takeC, cloneNC, cloneOC], []⟩ 100000 Tryd.f94 = o_rawR := by kernel_rfl
theorem rawR_of (hd : ∀ c ∈ ([takeC, cloneNC, cloneOC] : List Ctr), c.ok Tryd.prog) (h : ∀ ρ : Env, ρ.good → (rawRC).pre ρ → o_rawR.den ⟨Tryd.prog, rawRC, [takeC, cloneNC, cloneOC], []⟩ ρ) : (rawRC).ok Tryd.prog :=
  ok_of_tree Tryd.func94 (fun a w => Tryd.call94 a w) hd 100000 (fun ρ hg hp => by rw [o_rawR_eq]; exact h ρ hg hp)
def o_textR : Out := (.br (.cmp .neq (.var 5) (.lit (0)))
 (.ret 0 ⟨9, [(12, (.t .dnil)), (16, (.t (.var 5))), (15, (.t (.var 4))), (14, (.t (.var 3))), (13, (.t (.var 2))), (11, (.t (.lit (0)))), (10, (.t (.lit (0)))), (9, .nil)], [((.var 11), (.lit (0))), ((.lit (0)), (.lit (0)))], [], []⟩)
 (.pre 1 ⟨0, [(7, (.t (.var 7))), (6, (.t (.var 6))), (5, (.t (.var 5))), (4, (.t (.var 4))), (3, (.t (.var 3))), (2, (.t (.var 2))), (1, (.r 1)), (8, (.t (.lit (2)))), (0, (.r 0))], [((.lit (0)), (.lit (0)))], [], []⟩ (.both (.fresh 9 (.fresh 10 (.fresh 11 (.fresh 12 (.fresh 13 (.post 1 0 ⟨0, [(7, (.t (.var 7))), (6, (.t (.var 6))), (5, (.t (.var 5))), (4, (.t (.var 4))), (3, (.t (.var 3))), (2, (.t (.var 2))), (1, (.r 1)), (8, (.t (.lit (2)))), (0, (.r 0))], [((.lit (0)), (.lit (0)))], [], []⟩ 9 (.pre 0 ⟨0, [(7, (.t (.var 7))), (6, (.t (.var 6))), (5, (.t (.var 13))), (4, (.t (.var 12))), (3, (.t (.var 11))), (2, (.t (.var 10))), (1, (.r 1)), (8, (.t (.conv .i64 (.var 9)))), (0, (.r 0))], [((.lit (0)), (.lit (0)))], [], []⟩ (.both (.fresh 14 (.post 0 0 ⟨0, [(7, (.t (.var 7))), (6, (.t (.var 6))), (5, (.t (.var 13))), (4, (.t (.var 12))), (3, (.t (.var 11))), (2, (.t (.var 10))), (1, (.r 1)), (8, (.t (.conv .i64 (.var 9)))), (0, (.r 0))], [((.lit (0)), (.lit (0)))], [], []⟩ 14 (.br (.cmp .neq (.var 14) (.lit (0)))
 (.ret 0 ⟨9, [(12, (.t .dnil)), (16, (.t (.var 14))), (15, (.t (.var 4))), (14, (.t (.var 3))), (13, (.t (.var 2))), (11, (.t (.lit (0)))), (10, (.t (.lit (0)))), (9, .nil)], [((.var 11), (.lit (0))), ((.lit (0)), (.lit (0)))], [], []⟩)
 (.pre 2 ⟨0, [], [], [], []⟩ (.both (.post 2 0 ⟨0, [], [], [], []⟩ 15 (.ret 0 ⟨9, [(12, (.t .dnil)), (16, (.t (.var 14))), (15, (.t (.var 12))), (14, (.t (.var 11))), (13, (.t (.var 10))), (11, (.t (.lit (0)))), (10, (.t (.lit (0)))), (9, .nil)], [((.var 11), (.lit (0))), ((.lit (0)), (.lit (0)))], [], []⟩)) .top))))) (.both (.fresh 14 (.fresh 15 (.fresh 16 (.fresh 17 (.fresh 18 (.post 0 1 ⟨0, [(7, (.t (.var 7))), (6, (.t (.var 6))), (5, (.t (.var 13))), (4, (.t (.var 12))), (3, (.t (.var 11))), (2, (.t (.var 10))), (1, (.r 1)), (8, (.t (.conv .i64 (.var 9)))), (0, (.r 0))], [((.lit (0)), (.lit (0)))], [], []⟩ 14 (.pre 3 ⟨0, [(5, (.t (.var 7))), (4, (.t (.var 6))), (3, (.t (.var 15))), (2, (.t (.conv .i64 (.var 9)))), (1, (.t (.var 14))), (0, (.r 1))], [], [], []⟩ (.both (.fresh 19 (.fresh 20 (.fresh 21 (.post 3 0 ⟨0, [(5, (.t (.var 7))), (4, (.t (.var 6))), (3, (.t (.var 15))), (2, (.t (.conv .i64 (.var 9)))), (1, (.t (.var 14))), (0, (.r 1))], [], [], []⟩ 19 (.ret 0 ⟨9, [(12, (.t (.var 21))), (16, (.t (.lit (0)))), (15, (.t (.var 18))), (14, (.t (.var 17))), (13, (.t (.var 16))), (11, (.t (.var 20))), (10, (.t (.conv .i64 (.var 9)))), (9, (.r 19))], [((.var 11), (.var 20)), ((.lit (0)), (.lit (0)))], [], []⟩))))) .top)))))))) .top))))))))) .top)))
theorem o_textR_eq : treeOf ⟨Tryd.prog, textRC, [takeC, rNumC, cloneNC, cloneOC], []⟩ 100000 Tryd.f95 = o_textR := by kernel_rfl
theorem textR_of (hd : ∀ c ∈ ([takeC, rNumC, cloneNC, cloneOC] : List Ctr), c.ok Tryd.prog) (h : ∀ ρ : Env, ρ.good → (textRC).pre ρ → o_textR.den ⟨Tryd.prog, textRC, [takeC, rNumC, cloneNC, cloneOC], []⟩ ρ) : (textRC).ok Tryd.prog :=
  ok_of_tree Tryd.func95 (fun a w => Tryd.call95 a w) hd 100000 (fun ρ hg hp => by rw [o_textR_eq]; exact h ρ hg hp)
def o_readOp : Out := (.fresh 16 (.br (.cmp .eql (.var 8) (.lit (1)))
 (.pre 0 ⟨0, [(7, (.t (.var 7))), (6, (.t (.var 6))), (5, (.t (.var 5))), (4, (.t (.var 4))), (3, (.t (.var 3))), (2, (.t (.var 2))), (1, (.r 1)), (0, (.r 0))], [((.lit (0)), (.lit (0)))], [], []⟩ (.both (.fresh 17 (.fresh 18 (.fresh 19 (.fresh 20 (.fresh 21 (.post 0 0 ⟨0, [(7, (.t (.var 7))), (6, (.t (.var 6))), (5, (.t (.var 5))), (4, (.t (.var 4))), (3, (.t (.var 3))), (2, (.t (.var 2))), (1, (.r 1)), (0, (.r 0))], [((.lit (0)), (.lit (0)))], [], []⟩ 17 (.ret 0 ⟨16, [(20, (.t .dnil)), (24, (.t (.var 21))), (23, (.t (.var 20))), (22, (.t (.var 19))), (21, (.t (.var 18))), (19, (.t (.lit (0)))), (18, (.t (.lit (0)))), (17, .nil), (16, (.t (.conv .u64 (.var 17))))], [((.var 19), (.lit (0))), ((.lit (0)), (.lit (0)))], [], []⟩))))))) .top))
 (.br (.cmp .eql (.var 8) (.lit (2)))
 (.pre 1 ⟨0, [(7, (.t (.var 7))), (6, (.t (.var 6))), (5, (.t (.var 5))), (4, (.t (.var 4))), (3, (.t (.var 3))), (2, (.t (.var 2))), (1, (.r 1)), (0, (.r 0))], [((.lit (0)), (.lit (0)))], [], []⟩ (.both (.fresh 17 (.fresh 18 (.fresh 19 (.fresh 20 (.fresh 21 (.post 1 0 ⟨0, [(7, (.t (.var 7))), (6, (.t (.var 6))), (5, (.t (.var 5))), (4, (.t (.var 4))), (3, (.t (.var 3))), (2, (.t (.var 2))), (1, (.r 1)), (0, (.r 0))], [((.lit (0)), (.lit (0)))], [], []⟩ 17 (.ret 0 ⟨16, [(20, (.t .dnil)), (24, (.t (.var 21))), (23, (.t (.var 20))), (22, (.t (.var 19))), (21, (.t (.var 18))), (19, (.t (.lit (0)))), (18, (.t (.lit (0)))), (17, .nil), (16, (.t (.conv .u64 (.var 17))))], [((.var 19), (.lit (0))), ((.lit (0)), (.lit (0)))], [], []⟩))))))) .top))
 (.br (.cmp .eql (.var 8) (.lit (3)))
 (.pre 2 ⟨0, [(7, (.t (.var 7))), (6, (.t (.var 6))), (5, (.t (.var 5))), (4, (.t (.var 4))), (3, (.t (.var 3))), (2, (.t (.var 2))), (1, (.r 1)), (0, (.r 0))], [((.lit (0)), (.lit (0)))], [], []⟩ (.both (.fresh 17 (.fresh 18 (.fresh 19 (.fresh 20 (.fresh 21 (.post 2 0 ⟨0, [(7, (.t (.var 7))), (6, (.t (.var 6))), (5, (.t (.var 5))), (4, (.t (.var 4))), (3, (.t (.var 3))), (2, (.t (.var 2))), (1, (.r 1)), (0, (.r 0))], [((.lit (0)), (.lit (0)))], [], []⟩ 17 (.ret 0 ⟨16, [(20, (.t .dnil)), (24, (.t (.var 21))), (23, (.t (.var 20))), (22, (.t (.var 19))), (21, (.t (.var 18))), (19, (.t (.lit (0)))), (18, (.t (.lit (0)))), (17, .nil), (16, (.t (.conv .u64 (.var 17))))], [((.var 19), (.lit (0))), ((.lit (0)), (.lit (0)))], [], []⟩))))))) .top))
 (.br (.cmp .eql (.var 8) (.lit (4)))
 (.pre 3 ⟨0, [(7, (.t (.var 7))), (6, (.t (.var 6))), (5, (.t (.var 5))), (4, (.t (.var 4))), (3, (.t (.var 3))), (2, (.t (.var 2))), (1, (.r 1)), (0, (.r 0))], [((.lit (0)), (.lit (0)))], [], []⟩ (.both (.fresh 17 (.fresh 18 (.fresh 19 (.fresh 20 (.fresh 21 (.post 3 0 ⟨0, [(7, (.t (.var 7))), (6, (.t (.var 6))), (5, (.t (.var 5))), (4, (.t (.var 4))), (3, (.t (.var 3))), (2, (.t (.var 2))), (1, (.r 1)), (0, (.r 0))], [((.lit (0)), (.lit (0)))], [], []⟩ 17 (.ret 0 ⟨16, [(20, (.t .dnil)), (24, (.t (.var 21))), (23, (.t (.var 20))), (22, (.t (.var 19))), (21, (.t (.var 18))), (19, (.t (.lit (0)))), (18, (.t (.lit (0)))), (17, .nil), (16, (.t (.var 17)))], [((.var 19), (.lit (0))), ((.lit (0)), (.lit (0)))], [], []⟩))))))) .top))
 (.br (.cmp .eql (.var 8) (.lit (5)))
 (.pre 4 ⟨0, [(7, (.t (.var 7))), (6, (.t (.var 6))), (5, (.t (.var 5))), (4, (.t (.var 4))), (3, (.t (.var 3))), (2, (.t (.var 2))), (1, (.r 1)), (8, (.t (.var 10))), (0, (.r 0))], [((.lit (0)), (.lit (0)))], [], []⟩ (.both (.fresh 17 (.fresh 18 (.fresh 19 (.fresh 20 (.fresh 21 (.fresh 22 (.fresh 23 (.fresh 24 (.post 4 0 ⟨0, [(7, (.t (.var 7))), (6, (.t (.var 6))), (5, (.t (.var 5))), (4, (.t (.var 4))), (3, (.t (.var 3))), (2, (.t (.var 2))), (1, (.r 1)), (8, (.t (.var 10))), (0, (.r 0))], [((.lit (0)), (.lit (0)))], [], []⟩ 17 (.ret 0 ⟨16, [(20, (.t (.var 20))), (24, (.t (.var 24))), (23, (.t (.var 23))), (22, (.t (.var 22))), (21, (.t (.var 21))), (19, (.t (.var 19))), (18, (.t (.var 18))), (17, (.r 17)), (16, (.t (.lit (0))))], [((.var 19), (.var 19)), ((.lit (0)), (.lit (0)))], [], []⟩)))))))))) .top))
 (.br (.cmp .eql (.var 8) (.lit (6)))
 (.pre 5 ⟨0, [(7, (.t (.var 7))), (6, (.t (.var 6))), (5, (.t (.var 5))), (4, (.t (.var 4))), (3, (.t (.var 3))), (2, (.t (.var 2))), (1, (.r 1)), (0, (.r 0))], [((.lit (0)), (.lit (0)))], [], []⟩ (.both (.fresh 17 (.fresh 18 (.fresh 19 (.fresh 20 (.fresh 21 (.fresh 22 (.fresh 23 (.fresh 24 (.post 5 0 ⟨0, [(7, (.t (.var 7))), (6, (.t (.var 6))), (5, (.t (.var 5))), (4, (.t (.var 4))), (3, (.t (.var 3))), (2, (.t (.var 2))), (1, (.r 1)), (0, (.r 0))], [((.lit (0)), (.lit (0)))], [], []⟩ 17 (.ret 0 ⟨16, [(20, (.t (.var 20))), (24, (.t (.var 24))), (23, (.t (.var 23))), (22, (.t (.var 22))), (21, (.t (.var 21))), (19, (.t (.var 19))), (18, (.t (.var 18))), (17, (.r 17)), (16, (.t (.lit (0))))], [((.var 19), (.var 19)), ((.lit (0)), (.lit (0)))], [], []⟩)))))))))) .top))
 (.ret 0 ⟨16, [(20, (.t .dnil)), (24, (.t (.var 5))), (23, (.t (.var 4))), (22, (.t (.var 3))), (21, (.t (.var 2))), (19, (.t (.lit (0)))), (18, (.t (.lit (0)))), (17, .nil), (16, (.t (.lit (0))))], [((.var 19), (.lit (0))), ((.lit (0)), (.lit (0)))], [], []⟩))))))))
theorem o_readOp_eq : treeOf ⟨Tryd.prog, readOpC, [rU8C, rU16C, rU32C, rU64C, rawRC, textRC], []⟩ 100000 Tryd.f59 = o_readOp := by kernel_rfl
theorem readOp_of (hd : ∀ c ∈ ([rU8C, rU16C, rU32C, rU64C, rawRC, textRC] : List Ctr), c.ok Tryd.prog) (h : ∀ ρ : Env, ρ.good → (readOpC).pre ρ → o_readOp.den ⟨Tryd.prog, readOpC, [rU8C, rU16C, rU32C, rU64C, rawRC, textRC], []⟩ ρ) : (readOpC).ok Tryd.prog :=
  ok_of_tree Tryd.func59 (fun a w => Tryd.call59 a w) hd 100000 (fun ρ hg hp => by rw [o_readOp_eq]; exact h ρ hg hp)
def o_newReader : Out := (.pre 0 ⟨0, [(4, (.t (.var 4))), (3, (.t (.var 3))), (2, (.t (.var 2))), (1, (.t (.var 1))), (0, (.r 0))], [((.lit (0)), (.lit (0)))], [], []⟩ (.both (.fresh 5 (.fresh 6 (.fresh 7 (.post 0 0 ⟨0, [(4, (.t (.var 4))), (3, (.t (.var 3))), (2, (.t (.var 2))), (1, (.t (.var 1))), (0, (.r 0))], [((.lit (0)), (.lit (0)))], [], []⟩ 5 (.fresh 8 (.ret 0 ⟨5, [(8, (.t (.var 7))), (7, (.t (.var 6))), (6, (.r 5)), (5, (.r 8))], [((.var 7), (.var 6)), ((.lit (0)), (.lit (0))), ((.var 1), (.var 1)), ((.lit (0)), (.lit (0)))], [], []⟩)))))) .top))
theorem o_newReader_eq : treeOf ⟨Tryd.prog, newReaderC, [cloneBC], []⟩ 100000 Tryd.f58 = o_newReader := by kernel_rfl
theorem newReader_of (hd : ∀ c ∈ ([cloneBC] : List Ctr), c.ok Tryd.prog) (h : ∀ ρ : Env, ρ.good → (newReaderC).pre ρ → o_newReader.den ⟨Tryd.prog, newReaderC, [cloneBC], []⟩ ρ) : (newReaderC).ok Tryd.prog :=
  ok_of_tree Tryd.func58 (fun a w => Tryd.call58 a w) hd 100000 (fun ρ hg hp => by rw [o_newReader_eq]; exact h ρ hg hp)
def o_rest : Out := (.need (.cmp .leq (.lit (0)) (.var 3)) (.ret 0 ⟨8, [], [((.var 3), (.var 3))], [], []⟩))
theorem o_rest_eq : treeOf ⟨Tryd.prog, restC, [], []⟩ 100000 Tryd.f61 = o_rest := by kernel_rfl
theorem rest_of (hd : ∀ c ∈ ([] : List Ctr), c.ok Tryd.prog) (h : ∀ ρ : Env, ρ.good → (restC).pre ρ → o_rest.den ⟨Tryd.prog, restC, [], []⟩ ρ) : (restC).ok Tryd.prog :=
  ok_of_tree Tryd.func61 (fun a w => Tryd.call61 a w) hd 100000 (fun ρ hg hp => by rw [o_rest_eq]; exact h ρ hg hp)
def o_err : Out := (.ret 0 ⟨8, [], [((.var 5), (.var 5))], [], []⟩)
theorem o_err_eq : treeOf ⟨Tryd.prog, errC, [], []⟩ 100000 Tryd.f62 = o_err := by kernel_rfl
theorem err_of (hd : ∀ c ∈ ([] : List Ctr), c.ok Tryd.prog) (h : ∀ ρ : Env, ρ.good → (errC).pre ρ → o_err.den ⟨Tryd.prog, errC, [], []⟩ ρ) : (errC).ok Tryd.prog :=
  ok_of_tree Tryd.func62 (fun a w => Tryd.call62 a w) hd 100000 (fun ρ hg hp => by rw [o_err_eq]; exact h ρ hg hp)
def o_endD : Out := (.pre 0 ⟨0, [(5, (.t (.var 5))), (4, (.t (.var 4))), (3, (.t (.var 3))), (2, (.t (.var 2))), (1, (.r 1)), (0, (.r 0))], [((.lit (0)), (.lit (0)))], [], []⟩ (.both (.post 0 0 ⟨0, [(5, (.t (.var 5))), (4, (.t (.var 4))), (3, (.t (.var 3))), (2, (.t (.var 2))), (1, (.r 1)), (0, (.r 0))], [((.lit (0)), (.lit (0)))], [], []⟩ 8 (.br (.cmp .neq (.var 5) (.lit (0)))
 (.ret 0 ⟨8, [(8, (.t (.var 5)))], [], [], []⟩)
 (.need (.cmp .leq (.lit (0)) (.var 3)) (.br (.cmp .gtr (.var 3) (.lit (0)))
 (.ret 0 ⟨8, [(8, (.t (.lit (5))))], [], [], []⟩)
 (.ret 0 ⟨8, [(8, (.t (.lit (0))))], [], [], []⟩))))) .top))
theorem o_endD_eq : treeOf ⟨Tryd.prog, endC, [errC], []⟩ 100000 Tryd.f63 = o_endD := by kernel_rfl
theorem endD_of (hd : ∀ c ∈ ([errC] : List Ctr), c.ok Tryd.prog) (h : ∀ ρ : Env, ρ.good → (endC).pre ρ → o_endD.den ⟨Tryd.prog, endC, [errC], []⟩ ρ) : (endC).ok Tryd.prog :=
  ok_of_tree Tryd.func63 (fun a w => Tryd.call63 a w) hd 100000 (fun ρ hg hp => by rw [o_endD_eq]; exact h ρ hg hp)
def o_value : Out := (.inv 0 6 ⟨1000, [(1001, (.t (.lit (0)))), (1000, (.t (.lit (0))))], [((.var 3), (.var 3)), ((.var 2), (.var 2)), ((.var 1), (.var 1))], [], []⟩ (.fresh 6 (.fresh 7 (.hyp 0 6 (.need (.cmp .leq (.lit (0)) (.var 2)) (.br (.cmp .lss (.var 7) (.var 2))
 (.need (.cmp .leq (.lit (0)) (.var 7)) (.need (.cmp .leq (.lit (0)) (.var 1)) (.need (.cmp .leq (.lit (0)) (.plus (.var 1) (.var 7))) (.need (.cmp .lss (.plus (.var 1) (.var 7)) (.dlen (.var 4))) (.back 0 6 ⟨1000, [(1001, (.t (.arith .add .i64 (.var 7) (.lit (1))))), (1000, (.t (.arith .or .u64 (.arith .shl .u64 (.var 6) (.lit (8))) (.conv .u64 (.icell (.var 4) (.plus (.var 1) (.var 7)) 0)))))], [((.var 3), (.var 3)), ((.var 2), (.var 2)), ((.var 1), (.var 1))], [], []⟩)))))
 (.ret 0 ⟨6, [(6, (.t (.var 6)))], [], [], []⟩)))))))
theorem o_value_eq : treeOf ⟨Tryd.prog, valueC, [], [valueI]⟩ 100000 Tryd.f96 = o_value := by kernel_rfl
theorem value_of (hd : ∀ c ∈ ([] : List Ctr), c.ok Tryd.prog) (h : ∀ ρ : Env, ρ.good → (valueC).pre ρ → o_value.den ⟨Tryd.prog, valueC, [], [valueI]⟩ ρ) : (valueC).ok Tryd.prog :=
  ok_of_tree Tryd.func96 (fun a w => Tryd.call96 a w) hd 100000 (fun ρ hg hp => by rw [o_value_eq]; exact h ρ hg hp)
def o_readR : Out := (.fresh 16 (.fresh 17 (.fresh 18 (.br (.cmp .neq (.var 5) (.lit (0)))
 (.both (.ret 0 ⟨16, [(20, (.t (.var 5))), (19, (.t (.var 4))), (18, (.t (.var 3))), (17, (.t (.var 2))), (16, (.t (.lit (0))))], [], [], []⟩) .top)
 (.br (.cmp .lss (.var 8) (.lit (1)))
 (.both (.ret 0 ⟨16, [(20, (.t (.var 5))), (19, (.t (.var 4))), (18, (.t (.var 3))), (17, (.t (.var 2))), (16, (.t (.lit (0))))], [], [], []⟩) .top)
 (.br (.cmp .gtr (.var 8) (.lit (6)))
 (.both (.ret 0 ⟨16, [(20, (.t (.var 5))), (19, (.t (.var 4))), (18, (.t (.var 3))), (17, (.t (.var 2))), (16, (.t (.lit (0))))], [], [], []⟩) .top)
 (.pre 0 ⟨0, [(0, (.t (.var 8)))], [], [], []⟩ (.both (.fresh 19 (.post 0 0 ⟨0, [(0, (.t (.var 8)))], [], [], []⟩ 19 (.br (.cmp .eql (.var 8) (.lit (5)))
 (.br (.cmp .eql (.var 8) (.lit (6)))
 (.need (.cmp .leq (.lit (0)) (.var 3)) (.br (.cmp .lss (.var 3) (.lit (2)))
 (.both (.ret 0 ⟨16, [(20, (.t (.lit (4)))), (19, (.t (.var 4))), (18, (.t (.var 3))), (17, (.t (.var 2))), (16, (.t (.lit (0))))], [], [], []⟩) .top)
 (.need (.cmp .leq (.lit (0)) (.var 2)) (.need (.cmp .leq (.lit (0)) (.var 4)) (.need (.cmp .leq (.lit (2)) (.var 4)) (.pre 1 ⟨0, [(5, (.t (.var 7))), (4, (.t (.var 6))), (3, (.t (.var 4))), (2, (.t (.lit (2)))), (1, (.t (.var 2))), (0, (.r 1))], [], [], []⟩ (.both (.fresh 20 (.post 1 0 ⟨0, [(5, (.t (.var 7))), (4, (.t (.var 6))), (3, (.t (.var 4))), (2, (.t (.lit (2)))), (1, (.t (.var 2))), (0, (.r 1))], [], [], []⟩ 20 (.br (.cmp .lss (.conv .i64 (.var 20)) (.lit (0)))
 (.both (.ret 0 ⟨16, [(20, (.t (.lit (2)))), (19, (.t (.var 4))), (18, (.t (.var 3))), (17, (.t (.var 2))), (16, (.t (.lit (0))))], [], [], []⟩) .top)
 (.br (.cmp .gtr (.conv .i64 (.var 20)) (.arith .sub .i64 (.var 3) (.lit (2))))
 (.both (.ret 0 ⟨16, [(20, (.t (.lit (4)))), (19, (.t (.var 4))), (18, (.t (.var 3))), (17, (.t (.var 2))), (16, (.t (.lit (0))))], [], [], []⟩) .top)
 (.need (.cmp .leq (.lit (2)) (.arith .add .i64 (.lit (2)) (.conv .i64 (.var 20)))) (.need (.cmp .leq (.arith .add .i64 (.lit (2)) (.conv .i64 (.var 20))) (.var 4)) (.need (.cmp .leq (.lit (0)) (.arith .add .i64 (.lit (2)) (.conv .i64 (.var 20)))) (.need (.cmp .leq (.arith .add .i64 (.lit (2)) (.conv .i64 (.var 20))) (.var 3)) (.need (.cmp .leq (.var 3) (.var 4)) (.fresh 21 (.br (.cmp .leq (.var 8) (.lit (4)))
 (.both (.pre 1 ⟨0, [(5, (.t (.var 7))), (4, (.t (.var 6))), (3, (.t (.minus (.var 4) (.lit (2))))), (2, (.t (.minus (.arith .add .i64 (.lit (2)) (.conv .i64 (.var 20))) (.lit (2))))), (1, (.t (.ife (.var 4) (.lit (2)) (.var 2) (.plus (.var 2) (.lit (2)))))), (0, (.r 1))], [], [], []⟩ (.both (.fresh 22 (.post 1 0 ⟨0, [(5, (.t (.var 7))), (4, (.t (.var 6))), (3, (.t (.minus (.var 4) (.lit (2))))), (2, (.t (.minus (.arith .add .i64 (.lit (2)) (.conv .i64 (.var 20))) (.lit (2))))), (1, (.t (.ife (.var 4) (.lit (2)) (.var 2) (.plus (.var 2) (.lit (2)))))), (0, (.r 1))], [], [], []⟩ 22 (.both (.ret 0 ⟨16, [(20, (.t (.lit (0)))), (19, (.t (.minus (.var 4) (.arith .add .i64 (.lit (2)) (.conv .i64 (.var 20)))))), (18, (.t (.minus (.var 3) (.arith .add .i64 (.lit (2)) (.conv .i64 (.var 20)))))), (17, (.t (.ife (.var 4) (.arith .add .i64 (.lit (2)) (.conv .i64 (.var 20))) (.var 2) (.plus (.var 2) (.arith .add .i64 (.lit (2)) (.conv .i64 (.var 20))))))), (16, (.t (.var 22)))], [], [], []⟩) .top))) .top)) .top)
 (.both (.ret 1 ⟨16, [(22, (.t (.lit (0)))), (21, (.t (.minus (.var 4) (.arith .add .i64 (.lit (2)) (.conv .i64 (.var 20)))))), (20, (.t (.minus (.var 3) (.arith .add .i64 (.lit (2)) (.conv .i64 (.var 20)))))), (19, (.t (.ife (.var 4) (.arith .add .i64 (.lit (2)) (.conv .i64 (.var 20))) (.var 2) (.plus (.var 2) (.arith .add .i64 (.lit (2)) (.conv .i64 (.var 20))))))), (18, (.t (.minus (.var 4) (.lit (2))))), (17, (.t (.minus (.arith .add .i64 (.lit (2)) (.conv .i64 (.var 20))) (.lit (2))))), (16, (.t (.ife (.var 4) (.lit (2)) (.var 2) (.plus (.var 2) (.lit (2))))))], [((.lit (0)), (.lit (0)))], [], []⟩) .top)))))))))))) .top)))))))
 (.br (.cmp .lss (.var 10) (.lit (0)))
 (.both (.ret 0 ⟨16, [(20, (.t (.lit (2)))), (19, (.t (.var 4))), (18, (.t (.var 3))), (17, (.t (.var 2))), (16, (.t (.lit (0))))], [], [], []⟩) .top)
 (.need (.cmp .leq (.lit (0)) (.var 3)) (.br (.cmp .gtr (.var 10) (.arith .sub .i64 (.var 3) (.lit (0))))
 (.both (.ret 0 ⟨16, [(20, (.t (.lit (4)))), (19, (.t (.var 4))), (18, (.t (.var 3))), (17, (.t (.var 2))), (16, (.t (.lit (0))))], [], [], []⟩) .top)
 (.need (.cmp .leq (.lit (0)) (.var 2)) (.need (.cmp .leq (.lit (0)) (.var 4)) (.need (.cmp .leq (.lit (0)) (.arith .add .i64 (.lit (0)) (.var 10))) (.need (.cmp .leq (.arith .add .i64 (.lit (0)) (.var 10)) (.var 4)) (.need (.cmp .leq (.arith .add .i64 (.lit (0)) (.var 10)) (.var 3)) (.need (.cmp .leq (.var 3) (.var 4)) (.fresh 20 (.br (.cmp .leq (.var 8) (.lit (4)))
 (.both (.pre 1 ⟨0, [(5, (.t (.var 7))), (4, (.t (.var 6))), (3, (.t (.var 4))), (2, (.t (.arith .add .i64 (.lit (0)) (.var 10)))), (1, (.t (.var 2))), (0, (.r 1))], [], [], []⟩ (.both (.fresh 21 (.post 1 0 ⟨0, [(5, (.t (.var 7))), (4, (.t (.var 6))), (3, (.t (.var 4))), (2, (.t (.arith .add .i64 (.lit (0)) (.var 10)))), (1, (.t (.var 2))), (0, (.r 1))], [], [], []⟩ 21 (.both (.ret 0 ⟨16, [(20, (.t (.lit (0)))), (19, (.t (.minus (.var 4) (.arith .add .i64 (.lit (0)) (.var 10))))), (18, (.t (.minus (.var 3) (.arith .add .i64 (.lit (0)) (.var 10))))), (17, (.t (.ife (.var 4) (.arith .add .i64 (.lit (0)) (.var 10)) (.var 2) (.plus (.var 2) (.arith .add .i64 (.lit (0)) (.var 10)))))), (16, (.t (.var 21)))], [], [], []⟩) .top))) .top)) .top)
 (.both (.ret 1 ⟨16, [(22, (.t (.lit (0)))), (21, (.t (.minus (.var 4) (.arith .add .i64 (.lit (0)) (.var 10))))), (20, (.t (.minus (.var 3) (.arith .add .i64 (.lit (0)) (.var 10))))), (19, (.t (.ife (.var 4) (.arith .add .i64 (.lit (0)) (.var 10)) (.var 2) (.plus (.var 2) (.arith .add .i64 (.lit (0)) (.var 10)))))), (18, (.t (.var 4))), (17, (.t (.arith .add .i64 (.lit (0)) (.var 10)))), (16, (.t (.var 2)))], [((.lit (0)), (.lit (0)))], [], []⟩) .top)))))))))))))
 (.br (.cmp .eql (.var 8) (.lit (6)))
 (.need (.cmp .leq (.lit (0)) (.var 3)) (.br (.cmp .lss (.var 3) (.lit (2)))
 (.both (.ret 0 ⟨16, [(20, (.t (.lit (4)))), (19, (.t (.var 4))), (18, (.t (.var 3))), (17, (.t (.var 2))), (16, (.t (.lit (0))))], [], [], []⟩) .top)
 (.need (.cmp .leq (.lit (0)) (.var 2)) (.need (.cmp .leq (.lit (0)) (.var 4)) (.need (.cmp .leq (.lit (2)) (.var 4)) (.pre 1 ⟨0, [(5, (.t (.var 7))), (4, (.t (.var 6))), (3, (.t (.var 4))), (2, (.t (.lit (2)))), (1, (.t (.var 2))), (0, (.r 1))], [], [], []⟩ (.both (.fresh 20 (.post 1 0 ⟨0, [(5, (.t (.var 7))), (4, (.t (.var 6))), (3, (.t (.var 4))), (2, (.t (.lit (2)))), (1, (.t (.var 2))), (0, (.r 1))], [], [], []⟩ 20 (.br (.cmp .lss (.conv .i64 (.var 20)) (.lit (0)))
 (.both (.ret 0 ⟨16, [(20, (.t (.lit (2)))), (19, (.t (.var 4))), (18, (.t (.var 3))), (17, (.t (.var 2))), (16, (.t (.lit (0))))], [], [], []⟩) .top)
 (.br (.cmp .gtr (.conv .i64 (.var 20)) (.arith .sub .i64 (.var 3) (.lit (2))))
 (.both (.ret 0 ⟨16, [(20, (.t (.lit (4)))), (19, (.t (.var 4))), (18, (.t (.var 3))), (17, (.t (.var 2))), (16, (.t (.lit (0))))], [], [], []⟩) .top)
 (.need (.cmp .leq (.lit (2)) (.arith .add .i64 (.lit (2)) (.conv .i64 (.var 20)))) (.need (.cmp .leq (.arith .add .i64 (.lit (2)) (.conv .i64 (.var 20))) (.var 4)) (.need (.cmp .leq (.lit (0)) (.arith .add .i64 (.lit (2)) (.conv .i64 (.var 20)))) (.need (.cmp .leq (.arith .add .i64 (.lit (2)) (.conv .i64 (.var 20))) (.var 3)) (.need (.cmp .leq (.var 3) (.var 4)) (.fresh 21 (.br (.cmp .leq (.var 8) (.lit (4)))
 (.both (.pre 1 ⟨0, [(5, (.t (.var 7))), (4, (.t (.var 6))), (3, (.t (.minus (.var 4) (.lit (2))))), (2, (.t (.minus (.arith .add .i64 (.lit (2)) (.conv .i64 (.var 20))) (.lit (2))))), (1, (.t (.ife (.var 4) (.lit (2)) (.var 2) (.plus (.var 2) (.lit (2)))))), (0, (.r 1))], [], [], []⟩ (.both (.fresh 22 (.post 1 0 ⟨0, [(5, (.t (.var 7))), (4, (.t (.var 6))), (3, (.t (.minus (.var 4) (.lit (2))))), (2, (.t (.minus (.arith .add .i64 (.lit (2)) (.conv .i64 (.var 20))) (.lit (2))))), (1, (.t (.ife (.var 4) (.lit (2)) (.var 2) (.plus (.var 2) (.lit (2)))))), (0, (.r 1))], [], [], []⟩ 22 (.both (.ret 0 ⟨16, [(20, (.t (.lit (0)))), (19, (.t (.minus (.var 4) (.arith .add .i64 (.lit (2)) (.conv .i64 (.var 20)))))), (18, (.t (.minus (.var 3) (.arith .add .i64 (.lit (2)) (.conv .i64 (.var 20)))))), (17, (.t (.ife (.var 4) (.arith .add .i64 (.lit (2)) (.conv .i64 (.var 20))) (.var 2) (.plus (.var 2) (.arith .add .i64 (.lit (2)) (.conv .i64 (.var 20))))))), (16, (.t (.var 22)))], [], [], []⟩) .top))) .top)) .top)
 (.both (.ret 1 ⟨16, [(22, (.t (.lit (0)))), (21, (.t (.minus (.var 4) (.arith .add .i64 (.lit (2)) (.conv .i64 (.var 20)))))), (20, (.t (.minus (.var 3) (.arith .add .i64 (.lit (2)) (.conv .i64 (.var 20)))))), (19, (.t (.ife (.var 4) (.arith .add .i64 (.lit (2)) (.conv .i64 (.var 20))) (.var 2) (.plus (.var 2) (.arith .add .i64 (.lit (2)) (.conv .i64 (.var 20))))))), (18, (.t (.minus (.var 4) (.lit (2))))), (17, (.t (.minus (.arith .add .i64 (.lit (2)) (.conv .i64 (.var 20))) (.lit (2))))), (16, (.t (.ife (.var 4) (.lit (2)) (.var 2) (.plus (.var 2) (.lit (2))))))], [((.lit (0)), (.lit (0)))], [], []⟩) .top)))))))))))) .top)))))))
 (.br (.cmp .lss (.var 19) (.lit (0)))
 (.both (.ret 0 ⟨16, [(20, (.t (.lit (2)))), (19, (.t (.var 4))), (18, (.t (.var 3))), (17, (.t (.var 2))), (16, (.t (.lit (0))))], [], [], []⟩) .top)
 (.need (.cmp .leq (.lit (0)) (.var 3)) (.br (.cmp .gtr (.var 19) (.arith .sub .i64 (.var 3) (.lit (0))))
 (.both (.ret 0 ⟨16, [(20, (.t (.lit (4)))), (19, (.t (.var 4))), (18, (.t (.var 3))), (17, (.t (.var 2))), (16, (.t (.lit (0))))], [], [], []⟩) .top)
 (.need (.cmp .leq (.lit (0)) (.var 2)) (.need (.cmp .leq (.lit (0)) (.var 4)) (.need (.cmp .leq (.lit (0)) (.arith .add .i64 (.lit (0)) (.var 19))) (.need (.cmp .leq (.arith .add .i64 (.lit (0)) (.var 19)) (.var 4)) (.need (.cmp .leq (.arith .add .i64 (.lit (0)) (.var 19)) (.var 3)) (.need (.cmp .leq (.var 3) (.var 4)) (.fresh 20 (.br (.cmp .leq (.var 8) (.lit (4)))
 (.both (.pre 1 ⟨0, [(5, (.t (.var 7))), (4, (.t (.var 6))), (3, (.t (.var 4))), (2, (.t (.arith .add .i64 (.lit (0)) (.var 19)))), (1, (.t (.var 2))), (0, (.r 1))], [], [], []⟩ (.both (.fresh 21 (.post 1 0 ⟨0, [(5, (.t (.var 7))), (4, (.t (.var 6))), (3, (.t (.var 4))), (2, (.t (.arith .add .i64 (.lit (0)) (.var 19)))), (1, (.t (.var 2))), (0, (.r 1))], [], [], []⟩ 21 (.both (.ret 0 ⟨16, [(20, (.t (.lit (0)))), (19, (.t (.minus (.var 4) (.arith .add .i64 (.lit (0)) (.var 19))))), (18, (.t (.minus (.var 3) (.arith .add .i64 (.lit (0)) (.var 19))))), (17, (.t (.ife (.var 4) (.arith .add .i64 (.lit (0)) (.var 19)) (.var 2) (.plus (.var 2) (.arith .add .i64 (.lit (0)) (.var 19)))))), (16, (.t (.var 21)))], [], [], []⟩) .top))) .top)) .top)
 (.both (.ret 1 ⟨16, [(22, (.t (.lit (0)))), (21, (.t (.minus (.var 4) (.arith .add .i64 (.lit (0)) (.var 19))))), (20, (.t (.minus (.var 3) (.arith .add .i64 (.lit (0)) (.var 19))))), (19, (.t (.ife (.var 4) (.arith .add .i64 (.lit (0)) (.var 19)) (.var 2) (.plus (.var 2) (.arith .add .i64 (.lit (0)) (.var 19)))))), (18, (.t (.var 4))), (17, (.t (.arith .add .i64 (.lit (0)) (.var 19)))), (16, (.t (.var 2)))], [((.lit (0)), (.lit (0)))], [], []⟩) .top)))))))))))))))) .top))))))))
theorem o_readR_eq : treeOf ⟨Tryd.prog, readRC, [widthC, valueC], []⟩ 100000 Tryd.f60 = o_readR := by kernel_rfl
theorem readR_of (hd : ∀ c ∈ ([widthC, valueC] : List Ctr), c.ok Tryd.prog) (h : ∀ ρ : Env, ρ.good → (readRC).pre ρ → o_readR.den ⟨Tryd.prog, readRC, [widthC, valueC], []⟩ ρ) : (readRC).ok Tryd.prog :=
  ok_of_tree Tryd.func60 (fun a w => Tryd.call60 a w) hd 100000 (fun ρ hg hp => by rw [o_readR_eq]; exact h ρ hg hp)
def o_endR : Out := (.fresh 6 (.br (.cmp .eql (.var 5) (.lit (0)))
 (.need (.cmp .leq (.lit (0)) (.var 3)) (.br (.cmp .gtr (.var 3) (.lit (0)))
 (.ret 0 ⟨6, [(6, (.t (.lit (5))))], [], [], []⟩)
 (.ret 0 ⟨6, [(6, (.t (.var 5)))], [], [], []⟩)))
 (.ret 0 ⟨6, [(6, (.t (.var 5)))], [], [], []⟩)))
theorem o_endR_eq : treeOf ⟨Tryd.prog, endRC, [], []⟩ 100000 Tryd.f64 = o_endR := by kernel_rfl
theorem endR_of (hd : ∀ c ∈ ([] : List Ctr), c.ok Tryd.prog) (h : ∀ ρ : Env, ρ.good → (endRC).pre ρ → o_endR.den ⟨Tryd.prog, endRC, [], []⟩ ρ) : (endRC).ok Tryd.prog :=
  ok_of_tree Tryd.func64 (fun a w => Tryd.call64 a w) hd 100000 (fun ρ hg hp => by rw [o_endR_eq]; exact h ρ hg hp)
def o_lawReads : Out := (.need (.cmp .leq (.lit (0)) (.var 1)) (.br (.cmp .gtr (.var 1) (.lit (200000)))
 (.pre 0 ⟨0, [(1, (.t (.var 12))), (0, (.r 11))], [((.lit (1)), (.lit (1)))], [], []⟩ (.both (.post 0 0 ⟨0, [(1, (.t (.var 12))), (0, (.r 11))], [((.lit (1)), (.lit (1)))], [], []⟩ 13 (.ret 0 ⟨13, [], [], [((.bl true), (.bl true))], []⟩)) .top))
 (.need (.cmp .leq (.lit (0)) (.var 6)) (.br (.cmp .gtr (.var 6) (.lit (200)))
 (.pre 0 ⟨0, [(1, (.t (.var 12))), (0, (.r 11))], [((.lit (1)), (.lit (1)))], [], []⟩ (.both (.post 0 0 ⟨0, [(1, (.t (.var 12))), (0, (.r 11))], [((.lit (1)), (.lit (1)))], [], []⟩ 13 (.ret 0 ⟨13, [], [], [((.bl true), (.bl true))], []⟩)) .top))
 (.fresh 13 (.need (.cmp .leq (.var 1) (.dlen (.var 3))) (.need (.cmp .leq (.tims (.lit (1)) (.var 1)) (.lit (140737488355328))) (.fresh 14 (.fresh 15 (.pre 1 ⟨0, [(4, (.t (.var 15))), (3, (.t (.dtake (.var 3) (.var 1)))), (2, (.t (.var 15))), (1, (.t (.var 1))), (0, (.r 14))], [((.lit (0)), (.lit (0)))], [], []⟩ (.both (.fresh 16 (.fresh 17 (.fresh 18 (.fresh 19 (.post 1 0 ⟨0, [(4, (.t (.var 15))), (3, (.t (.dtake (.var 3) (.var 1)))), (2, (.t (.var 15))), (1, (.t (.var 1))), (0, (.r 14))], [((.lit (0)), (.lit (0)))], [], []⟩ 16 (.inv 0 20 ⟨1000, [(1008, (.t (.var 19))), (1007, (.t (.var 18))), (1006, (.r 17)), (1003, (.t (.dtake (.var 3) (.var 1)))), (1005, (.t (.lit (0)))), (1004, (.r 16)), (1002, (.t (.var 15))), (1001, (.t (.var 1))), (1000, (.r 14))], [((.var 1007), (.var 18)), ((.lit (0)), (.lit (0))), ((.var 1), (.var 1)), ((.lit (0)), (.lit (0))), ((.var 1002), (.var 15)), ((.lit (0)), (.lit (0))), ((.lit (0)), (.lit (0))), ((.var 7), (.var 7)), ((.var 6), (.var 6)), ((.lit (0)), (.lit (0))), ((.var 2), (.var 2)), ((.var 1), (.var 1)), ((.lit (0)), (.lit (0)))], [], []⟩ (.fresh 20 (.fresh 21 (.fresh 22 (.fresh 23 (.fresh 24 (.fresh 25 (.fresh 26 (.fresh 27 (.fresh 28 (.hyp 0 20 (.need (.cmp .leq (.lit (0)) (.var 21)) (.br (.cmp .lss (.var 25) (.var 21))
 (.need (.cmp .leq (.lit (0)) (.var 25)) (.need (.cmp .lss (.var 25) (.dlen (.var 23))) (.back 0 20 ⟨1000, [(1008, (.t (.var 28))), (1007, (.t (.var 27))), (1006, (.r 26)), (1003, (.t (.dput (.var 23) (.var 25) 0 (.rcons (.vint .u8 (.arith .xor .u8 (.icell (.var 23) (.var 25) 0) (.lit (255)))) .rnil)))), (1005, (.t (.arith .add .i64 (.var 25) (.lit (1))))), (1004, (.r 24)), (1002, (.t (.var 22))), (1001, (.t (.var 21))), (1000, (.r 20))], [((.var 1007), (.var 27)), ((.lit (0)), (.lit (0))), ((.var 1), (.var 1)), ((.lit (0)), (.lit (0))), ((.var 1002), (.var 22)), ((.lit (0)), (.lit (0))), ((.lit (0)), (.lit (0))), ((.var 7), (.var 7)), ((.var 6), (.var 6)), ((.lit (0)), (.lit (0))), ((.var 2), (.var 2)), ((.var 1), (.var 1)), ((.lit (0)), (.lit (0)))], [], []⟩)))
 (.fresh 29 (.fresh 30 (.fresh 31 (.fresh 32 (.pack [.arr 20 5 [CK.int .u8] (.var 23) (.var 22)] 33 (.inv 1 34 ⟨1000, [(1017, (.r 33)), (1015, (.t (.var 31))), (1016, (.t (.dtake (.var 3) (.var 1)))), (1014, (.t (.lit (0)))), (1013, (.t (.var 31))), (1012, (.t (.var 1))), (1011, (.t (.lit (0)))), (1010, (.r 30)), (1008, (.t (.var 27))), (1009, (.t (.var 28))), (1007, (.t (.lit (0)))), (1006, (.t (.var 27))), (1005, (.t (.var 1))), (1004, (.t (.lit (0)))), (1003, (.r 26)), (1002, (.t (.lit (0)))), (1001, (.r 32)), (1000, (.r 24))], [((.lit (0)), (.lit (0))), ((.var 7), (.var 7)), ((.var 6), (.var 6)), ((.lit (0)), (.lit (0))), ((.var 2), (.var 2)), ((.var 1), (.var 1)), ((.lit (0)), (.lit (0)))], [], []⟩ (.fresh 34 (.fresh 35 (.fresh 36 (.fresh 37 (.fresh 38 (.fresh 39 (.fresh 40 (.fresh 41 (.fresh 42 (.fresh 43 (.fresh 44 (.fresh 45 (.fresh 46 (.fresh 47 (.fresh 48 (.fresh 49 (.fresh 50 (.fresh 51 (.hyp 1 34 (.br (.cmp .lss (.var 36) (.var 6))
 (.need (.cmp .leq (.lit (0)) (.var 36)) (.need (.cmp .lss (.var 36) (.dlen (.var 8))) (.view (.vcell (.var 8) (.var 36) 3) [CK.int .u8] [51, 10] 52 (.know (.cmp .leq (.dlen (.var 43)) (.var 42)) (.pre 2 ⟨0, [(15, (.t (.var 53))), (14, (.t (.var 54))), (7, (.t (.var 42))), (6, (.t (.var 43))), (5, (.t (.var 41))), (4, (.t (.var 40))), (3, (.t (.var 39))), (2, (.t (.var 38))), (1, (.r 37)), (13, (.t (.var 53))), (12, (.t (.dlen (.var 54)))), (11, (.r 52)), (10, (.t (.icell (.var 8) (.var 36) 2))), (9, (.t (.icell (.var 8) (.var 36) 1))), (8, (.t (.icell (.var 8) (.var 36) 0))), (0, (.r 34))], [((.lit (0)), (.lit (0))), ((.lit (0)), (.lit (0)))], [], []⟩ (.both (.fresh 55 (.fresh 56 (.fresh 57 (.fresh 58 (.fresh 59 (.fresh 60 (.fresh 61 (.fresh 62 (.fresh 63 (.post 2 0 ⟨0, [(15, (.t (.var 53))), (14, (.t (.var 54))), (7, (.t (.var 42))), (6, (.t (.var 43))), (5, (.t (.var 41))), (4, (.t (.var 40))), (3, (.t (.var 39))), (2, (.t (.var 38))), (1, (.r 37)), (13, (.t (.var 53))), (12, (.t (.dlen (.var 54)))), (11, (.r 52)), (10, (.t (.icell (.var 8) (.var 36) 2))), (9, (.t (.icell (.var 8) (.var 36) 1))), (8, (.t (.icell (.var 8) (.var 36) 0))), (0, (.r 34))], [((.lit (0)), (.lit (0))), ((.lit (0)), (.lit (0)))], [], []⟩ 55 (.both (.view (.vcell (.var 8) (.var 36) 3) [CK.int .u8] [51, 10] 64 (.know (.cmp .leq (.dlen (.var 50)) (.var 49)) (.pre 3 ⟨0, [(15, (.t (.var 65))), (14, (.t (.var 66))), (7, (.t (.var 49))), (6, (.t (.var 50))), (13, (.t (.var 65))), (12, (.t (.dlen (.var 66)))), (11, (.r 64)), (10, (.t (.icell (.var 8) (.var 36) 2))), (9, (.t (.icell (.var 8) (.var 36) 1))), (8, (.t (.icell (.var 8) (.var 36) 0))), (5, (.t (.var 48))), (4, (.t (.var 47))), (3, (.t (.var 46))), (2, (.t (.var 45))), (1, (.r 44))], [((.lit (0)), (.lit (0)))], [], []⟩ (.both (.fresh 67 (.fresh 68 (.fresh 69 (.fresh 70 (.fresh 71 (.post 3 0 ⟨0, [(15, (.t (.var 65))), (14, (.t (.var 66))), (7, (.t (.var 49))), (6, (.t (.var 50))), (13, (.t (.var 65))), (12, (.t (.dlen (.var 66)))), (11, (.r 64)), (10, (.t (.icell (.var 8) (.var 36) 2))), (9, (.t (.icell (.var 8) (.var 36) 1))), (8, (.t (.icell (.var 8) (.var 36) 0))), (5, (.t (.var 48))), (4, (.t (.var 47))), (3, (.t (.var 46))), (2, (.t (.var 45))), (1, (.r 44))], [((.lit (0)), (.lit (0)))], [], []⟩ 67 (.both (.fresh 72 (.both (.br (.cmp .neq (.var 55) (.var 67))
 (.both (.both (.both (.both (.stuck 7 0 0) .top) .top) .top) .top)
 (.need (.cmp .leq (.lit (0)) (.var 57)) (.need (.cmp .leq (.var 57) (.dlen (.var 59))) (.br (.not (.c2 .veq (.c1 .vbytes (.dtake (.var 59) (.var 57))) (.c1 .vbytes .dnil)))
 (.both (.both (.both (.both (.stuck 7 0 0) .top) .top) .top) .top)
 (.need (.cmp .leq (.lit (0)) (.var 69)) (.both (.pre 4 ⟨0, [(5, (.t (.var 63))), (4, (.t (.var 62))), (3, (.t (.var 61))), (2, (.t (.var 60))), (1, (.r 37)), (0, (.r 34))], [((.lit (0)), (.lit (0)))], [], []⟩ (.both (.post 4 0 ⟨0, [(5, (.t (.var 63))), (4, (.t (.var 62))), (3, (.t (.var 61))), (2, (.t (.var 60))), (1, (.r 37)), (0, (.r 34))], [((.lit (0)), (.lit (0)))], [], []⟩ 73 (.br (.cmp .neq (.var 61) (.var 69))
 (.both (.both (.both (.stuck 7 0 0) .top) .top) .top)
 (.both (.pre 5 ⟨0, [(5, (.t (.var 63))), (4, (.t (.var 62))), (3, (.t (.var 61))), (2, (.t (.var 60))), (1, (.r 37)), (0, (.r 34))], [((.lit (0)), (.lit (0)))], [], []⟩ (.both (.post 5 0 ⟨0, [(5, (.t (.var 63))), (4, (.t (.var 62))), (3, (.t (.var 61))), (2, (.t (.var 60))), (1, (.r 37)), (0, (.r 34))], [((.lit (0)), (.lit (0)))], [], []⟩ 73 (.br (.cmp .neq (.var 63) (.var 71))
 (.both (.both (.stuck 7 0 0) .top) .top)
 (.both (.pre 6 ⟨0, [(5, (.t (.var 63))), (4, (.t (.var 62))), (3, (.t (.var 61))), (2, (.t (.var 60))), (1, (.r 37)), (0, (.r 34))], [((.lit (0)), (.lit (0)))], [], []⟩ (.both (.fresh 73 (.post 6 0 ⟨0, [(5, (.t (.var 63))), (4, (.t (.var 62))), (3, (.t (.var 61))), (2, (.t (.var 60))), (1, (.r 37)), (0, (.r 34))], [((.lit (0)), (.lit (0)))], [], []⟩ 73 (.both (.pre 7 ⟨0, [(5, (.t (.var 71))), (4, (.t (.var 70))), (3, (.t (.var 69))), (2, (.t (.var 68))), (1, (.r 44))], [], [], []⟩ (.both (.fresh 74 (.post 7 0 ⟨0, [(5, (.t (.var 71))), (4, (.t (.var 70))), (3, (.t (.var 69))), (2, (.t (.var 68))), (1, (.r 44))], [], [], []⟩ 74 (.br (.cmp .neq (.var 73) (.var 74))
 (.stuck 7 0 0)
 (.pack [.cells 72 88 [(.vslice 44 (.var 68) (.var 69) (.var 70) 1), (.vint .i64 (.var 71))], .abs 51 2] 75 (.inv 2 76 ⟨1000, [(1017, (.r 75)), (1021, (.t (.var 59))), (1015, (.t (.var 49))), (1016, (.t (.var 50))), (1014, (.t (.var 71))), (1013, (.t (.var 70))), (1012, (.t (.var 69))), (1011, (.t (.var 68))), (1010, (.r 44)), (1008, (.t (.var 42))), (1009, (.t (.var 43))), (1007, (.t (.var 63))), (1006, (.t (.var 62))), (1005, (.t (.var 61))), (1004, (.t (.var 60))), (1003, (.r 37)), (1022, (.t (.lit (0)))), (1020, (.t (.var 58))), (1019, (.t (.var 57))), (1018, (.r 56)), (1002, (.t (.var 36))), (1001, (.r 35)), (1000, (.r 34))], [((.var 1020), (.var 58)), ((.lit (0)), (.lit (0))), ((.lit (0)), (.lit (0))), ((.lit (0)), (.lit (0))), ((.var 7), (.var 7)), ((.var 6), (.var 6)), ((.lit (0)), (.lit (0))), ((.var 2), (.var 2)), ((.var 1), (.var 1)), ((.lit (0)), (.lit (0)))], [], []⟩ (.fresh 76 (.fresh 77 (.fresh 78 (.fresh 79 (.fresh 80 (.fresh 81 (.fresh 82 (.fresh 83 (.fresh 84 (.fresh 85 (.fresh 86 (.fresh 87 (.fresh 88 (.fresh 89 (.fresh 90 (.fresh 91 (.fresh 92 (.fresh 93 (.fresh 94 (.fresh 95 (.fresh 96 (.fresh 97 (.fresh 98 (.hyp 2 76 (.need (.cmp .leq (.lit (0)) (.var 95)) (.br (.cmp .lss (.var 98) (.var 95))
 (.need (.cmp .leq (.lit (0)) (.var 98)) (.need (.cmp .lss (.var 98) (.dlen (.var 97))) (.back 2 76 ⟨1000, [(1017, (.r 93)), (1021, (.t (.dput (.var 97) (.var 98) 0 (.rcons (.vint .u8 (.arith .xor .u8 (.icell (.var 97) (.var 98) 0) (.lit (255)))) .rnil)))), (1015, (.t (.var 91))), (1016, (.t (.var 92))), (1014, (.t (.var 90))), (1013, (.t (.var 89))), (1012, (.t (.var 88))), (1011, (.t (.var 87))), (1010, (.r 86)), (1008, (.t (.var 84))), (1009, (.t (.var 85))), (1007, (.t (.var 83))), (1006, (.t (.var 82))), (1005, (.t (.var 81))), (1004, (.t (.var 80))), (1003, (.r 79)), (1022, (.t (.arith .add .i64 (.var 98) (.lit (1))))), (1020, (.t (.var 96))), (1019, (.t (.var 95))), (1018, (.r 94)), (1002, (.t (.var 78))), (1001, (.r 77)), (1000, (.r 76))], [((.var 1020), (.var 96)), ((.lit (0)), (.lit (0))), ((.lit (0)), (.lit (0))), ((.lit (0)), (.lit (0))), ((.var 7), (.var 7)), ((.var 6), (.var 6)), ((.lit (0)), (.lit (0))), ((.var 2), (.var 2)), ((.var 1), (.var 1)), ((.lit (0)), (.lit (0)))], [], []⟩)))
 (.pack [.arr 94 5 [CK.int .u8] (.var 97) (.var 96), .abs 93 2] 99 (.back 1 34 ⟨1000, [(1017, (.r 99)), (1015, (.t (.var 91))), (1016, (.t (.var 92))), (1014, (.t (.var 90))), (1013, (.t (.var 89))), (1012, (.t (.var 88))), (1011, (.t (.var 87))), (1010, (.r 86)), (1008, (.t (.var 84))), (1009, (.t (.var 85))), (1007, (.t (.var 83))), (1006, (.t (.var 82))), (1005, (.t (.var 81))), (1004, (.t (.var 80))), (1003, (.r 79)), (1002, (.t (.arith .add .i64 (.var 78) (.lit (1))))), (1001, (.r 77)), (1000, (.r 76))], [((.lit (0)), (.lit (0))), ((.lit (0)), (.lit (0))), ((.var 7), (.var 7)), ((.var 6), (.var 6)), ((.lit (0)), (.lit (0))), ((.var 2), (.var 2)), ((.var 1), (.var 1)), ((.lit (0)), (.lit (0)))], [], []⟩))))))))))))))))))))))))))))))))) .top)) .top))) .top)) .top))) .top)) .top))) .top)) .top)))))) .top)) .top))))))) (.both (.fresh 67 (.fresh 68 (.fresh 69 (.fresh 70 (.fresh 71 (.fresh 72 (.fresh 73 (.post 3 1 ⟨0, [(15, (.t (.var 65))), (14, (.t (.var 66))), (7, (.t (.var 49))), (6, (.t (.var 50))), (13, (.t (.var 65))), (12, (.t (.dlen (.var 66)))), (11, (.r 64)), (10, (.t (.icell (.var 8) (.var 36) 2))), (9, (.t (.icell (.var 8) (.var 36) 1))), (8, (.t (.icell (.var 8) (.var 36) 0))), (5, (.t (.var 48))), (4, (.t (.var 47))), (3, (.t (.var 46))), (2, (.t (.var 45))), (1, (.r 44))], [((.lit (0)), (.lit (0)))], [], []⟩ 67 (.both (.fresh 74 (.both (.br (.cmp .neq (.var 55) (.lit (0)))
 (.both (.both (.both (.both (.stuck 7 0 0) .top) .top) .top) .top)
 (.need (.cmp .leq (.lit (0)) (.var 57)) (.need (.cmp .leq (.var 57) (.dlen (.var 59))) (.need (.cmp .leq (.lit (0)) (.var 67)) (.need (.cmp .leq (.lit (0)) (.var 68)) (.need (.cmp .leq (.plus (.var 67) (.var 68)) (.dlen (.var 50))) (.br (.not (.c2 .veq (.c1 .vbytes (.dtake (.var 59) (.var 57))) (.c1 .vbytes (.dtake (.ddrop (.var 50) (.var 67)) (.var 68)))))
 (.both (.both (.both (.both (.stuck 7 0 0) .top) .top) .top) .top)
 (.need (.cmp .leq (.lit (0)) (.var 71)) (.both (.pre 4 ⟨0, [(5, (.t (.var 63))), (4, (.t (.var 62))), (3, (.t (.var 61))), (2, (.t (.var 60))), (1, (.r 37)), (0, (.r 34))], [((.lit (0)), (.lit (0)))], [], []⟩ (.both (.post 4 0 ⟨0, [(5, (.t (.var 63))), (4, (.t (.var 62))), (3, (.t (.var 61))), (2, (.t (.var 60))), (1, (.r 37)), (0, (.r 34))], [((.lit (0)), (.lit (0)))], [], []⟩ 75 (.br (.cmp .neq (.var 61) (.var 71))
 (.both (.both (.both (.stuck 7 0 0) .top) .top) .top)
 (.both (.pre 5 ⟨0, [(5, (.t (.var 63))), (4, (.t (.var 62))), (3, (.t (.var 61))), (2, (.t (.var 60))), (1, (.r 37)), (0, (.r 34))], [((.lit (0)), (.lit (0)))], [], []⟩ (.both (.post 5 0 ⟨0, [(5, (.t (.var 63))), (4, (.t (.var 62))), (3, (.t (.var 61))), (2, (.t (.var 60))), (1, (.r 37)), (0, (.r 34))], [((.lit (0)), (.lit (0)))], [], []⟩ 75 (.br (.cmp .neq (.var 63) (.var 73))
 (.both (.both (.stuck 7 0 0) .top) .top)
 (.both (.pre 6 ⟨0, [(5, (.t (.var 63))), (4, (.t (.var 62))), (3, (.t (.var 61))), (2, (.t (.var 60))), (1, (.r 37)), (0, (.r 34))], [((.lit (0)), (.lit (0)))], [], []⟩ (.both (.fresh 75 (.post 6 0 ⟨0, [(5, (.t (.var 63))), (4, (.t (.var 62))), (3, (.t (.var 61))), (2, (.t (.var 60))), (1, (.r 37)), (0, (.r 34))], [((.lit (0)), (.lit (0)))], [], []⟩ 75 (.both (.pre 7 ⟨0, [(5, (.t (.var 73))), (4, (.t (.var 72))), (3, (.t (.var 71))), (2, (.t (.var 70))), (1, (.r 44))], [], [], []⟩ (.both (.fresh 76 (.post 7 0 ⟨0, [(5, (.t (.var 73))), (4, (.t (.var 72))), (3, (.t (.var 71))), (2, (.t (.var 70))), (1, (.r 44))], [], [], []⟩ 76 (.br (.cmp .neq (.var 75) (.var 76))
 (.stuck 7 0 0)
 (.pack [.cells 74 88 [(.vslice 44 (.var 70) (.var 71) (.var 72) 1), (.vint .i64 (.var 73))], .abs 51 2] 77 (.inv 2 78 ⟨1000, [(1017, (.r 77)), (1021, (.t (.var 59))), (1015, (.t (.var 49))), (1016, (.t (.var 50))), (1014, (.t (.var 73))), (1013, (.t (.var 72))), (1012, (.t (.var 71))), (1011, (.t (.var 70))), (1010, (.r 44)), (1008, (.t (.var 42))), (1009, (.t (.var 43))), (1007, (.t (.var 63))), (1006, (.t (.var 62))), (1005, (.t (.var 61))), (1004, (.t (.var 60))), (1003, (.r 37)), (1022, (.t (.lit (0)))), (1020, (.t (.var 58))), (1019, (.t (.var 57))), (1018, (.r 56)), (1002, (.t (.var 36))), (1001, (.r 35)), (1000, (.r 34))], [((.var 1020), (.var 58)), ((.lit (0)), (.lit (0))), ((.lit (0)), (.lit (0))), ((.lit (0)), (.lit (0))), ((.var 7), (.var 7)), ((.var 6), (.var 6)), ((.lit (0)), (.lit (0))), ((.var 2), (.var 2)), ((.var 1), (.var 1)), ((.lit (0)), (.lit (0)))], [], []⟩ (.fresh 78 (.fresh 79 (.fresh 80 (.fresh 81 (.fresh 82 (.fresh 83 (.fresh 84 (.fresh 85 (.fresh 86 (.fresh 87 (.fresh 88 (.fresh 89 (.fresh 90 (.fresh 91 (.fresh 92 (.fresh 93 (.fresh 94 (.fresh 95 (.fresh 96 (.fresh 97 (.fresh 98 (.fresh 99 (.fresh 100 (.hyp 2 78 (.need (.cmp .leq (.lit (0)) (.var 97)) (.br (.cmp .lss (.var 100) (.var 97))
 (.need (.cmp .leq (.lit (0)) (.var 100)) (.need (.cmp .lss (.var 100) (.dlen (.var 99))) (.back 2 78 ⟨1000, [(1017, (.r 95)), (1021, (.t (.dput (.var 99) (.var 100) 0 (.rcons (.vint .u8 (.arith .xor .u8 (.icell (.var 99) (.var 100) 0) (.lit (255)))) .rnil)))), (1015, (.t (.var 93))), (1016, (.t (.var 94))), (1014, (.t (.var 92))), (1013, (.t (.var 91))), (1012, (.t (.var 90))), (1011, (.t (.var 89))), (1010, (.r 88)), (1008, (.t (.var 86))), (1009, (.t (.var 87))), (1007, (.t (.var 85))), (1006, (.t (.var 84))), (1005, (.t (.var 83))), (1004, (.t (.var 82))), (1003, (.r 81)), (1022, (.t (.arith .add .i64 (.var 100) (.lit (1))))), (1020, (.t (.var 98))), (1019, (.t (.var 97))), (1018, (.r 96)), (1002, (.t (.var 80))), (1001, (.r 79)), (1000, (.r 78))], [((.var 1020), (.var 98)), ((.lit (0)), (.lit (0))), ((.lit (0)), (.lit (0))), ((.lit (0)), (.lit (0))), ((.var 7), (.var 7)), ((.var 6), (.var 6)), ((.lit (0)), (.lit (0))), ((.var 2), (.var 2)), ((.var 1), (.var 1)), ((.lit (0)), (.lit (0)))], [], []⟩)))
 (.pack [.arr 96 5 [CK.int .u8] (.var 99) (.var 98), .abs 95 2] 101 (.back 1 34 ⟨1000, [(1017, (.r 101)), (1015, (.t (.var 93))), (1016, (.t (.var 94))), (1014, (.t (.var 92))), (1013, (.t (.var 91))), (1012, (.t (.var 90))), (1011, (.t (.var 89))), (1010, (.r 88)), (1008, (.t (.var 86))), (1009, (.t (.var 87))), (1007, (.t (.var 85))), (1006, (.t (.var 84))), (1005, (.t (.var 83))), (1004, (.t (.var 82))), (1003, (.r 81)), (1002, (.t (.arith .add .i64 (.var 80) (.lit (1))))), (1001, (.r 79)), (1000, (.r 78))], [((.lit (0)), (.lit (0))), ((.lit (0)), (.lit (0))), ((.var 7), (.var 7)), ((.var 6), (.var 6)), ((.lit (0)), (.lit (0))), ((.var 2), (.var 2)), ((.var 1), (.var 1)), ((.lit (0)), (.lit (0)))], [], []⟩))))))))))))))))))))))))))))))))) .top)) .top))) .top)) .top))) .top)) .top))) .top)) .top))))))))) .top)) .top))))))))) .top))))) (.both (.fresh 64 (.both (.view (.vcell (.var 8) (.var 36) 3) [CK.int .u8] [51, 10] 65 (.know (.cmp .leq (.dlen (.var 50)) (.var 49)) (.pre 3 ⟨0, [(15, (.t (.var 66))), (14, (.t (.var 67))), (7, (.t (.var 49))), (6, (.t (.var 50))), (13, (.t (.var 66))), (12, (.t (.dlen (.var 67)))), (11, (.r 65)), (10, (.t (.icell (.var 8) (.var 36) 2))), (9, (.t (.icell (.var 8) (.var 36) 1))), (8, (.t (.icell (.var 8) (.var 36) 0))), (5, (.t (.var 48))), (4, (.t (.var 47))), (3, (.t (.var 46))), (2, (.t (.var 45))), (1, (.r 44))], [((.lit (0)), (.lit (0)))], [], []⟩ (.both (.fresh 68 (.fresh 69 (.fresh 70 (.fresh 71 (.fresh 72 (.post 3 0 ⟨0, [(15, (.t (.var 66))), (14, (.t (.var 67))), (7, (.t (.var 49))), (6, (.t (.var 50))), (13, (.t (.var 66))), (12, (.t (.dlen (.var 67)))), (11, (.r 65)), (10, (.t (.icell (.var 8) (.var 36) 2))), (9, (.t (.icell (.var 8) (.var 36) 1))), (8, (.t (.icell (.var 8) (.var 36) 0))), (5, (.t (.var 48))), (4, (.t (.var 47))), (3, (.t (.var 46))), (2, (.t (.var 45))), (1, (.r 44))], [((.lit (0)), (.lit (0)))], [], []⟩ 68 (.both (.br (.cmp .neq (.var 55) (.var 68))
 (.both (.both (.both (.both (.stuck 7 0 0) .top) .top) .top) .top)
 (.need (.cmp .leq (.lit (0)) (.var 57)) (.need (.cmp .leq (.var 57) (.dlen (.var 59))) (.br (.not (.c2 .veq (.c1 .vbytes (.dtake (.var 59) (.var 57))) (.c1 .vbytes .dnil)))
 (.both (.both (.both (.both (.stuck 7 0 0) .top) .top) .top) .top)
 (.need (.cmp .leq (.lit (0)) (.var 70)) (.both (.pre 4 ⟨0, [(5, (.t (.var 63))), (4, (.t (.var 62))), (3, (.t (.var 61))), (2, (.t (.var 60))), (1, (.r 37)), (0, (.r 34))], [((.lit (0)), (.lit (0)))], [], []⟩ (.both (.post 4 0 ⟨0, [(5, (.t (.var 63))), (4, (.t (.var 62))), (3, (.t (.var 61))), (2, (.t (.var 60))), (1, (.r 37)), (0, (.r 34))], [((.lit (0)), (.lit (0)))], [], []⟩ 73 (.br (.cmp .neq (.var 61) (.var 70))
 (.both (.both (.both (.stuck 7 0 0) .top) .top) .top)
 (.both (.pre 5 ⟨0, [(5, (.t (.var 63))), (4, (.t (.var 62))), (3, (.t (.var 61))), (2, (.t (.var 60))), (1, (.r 37)), (0, (.r 34))], [((.lit (0)), (.lit (0)))], [], []⟩ (.both (.post 5 0 ⟨0, [(5, (.t (.var 63))), (4, (.t (.var 62))), (3, (.t (.var 61))), (2, (.t (.var 60))), (1, (.r 37)), (0, (.r 34))], [((.lit (0)), (.lit (0)))], [], []⟩ 73 (.br (.cmp .neq (.var 63) (.var 72))
 (.both (.both (.stuck 7 0 0) .top) .top)
 (.both (.pre 6 ⟨0, [(5, (.t (.var 63))), (4, (.t (.var 62))), (3, (.t (.var 61))), (2, (.t (.var 60))), (1, (.r 37)), (0, (.r 34))], [((.lit (0)), (.lit (0)))], [], []⟩ (.both (.fresh 73 (.post 6 0 ⟨0, [(5, (.t (.var 63))), (4, (.t (.var 62))), (3, (.t (.var 61))), (2, (.t (.var 60))), (1, (.r 37)), (0, (.r 34))], [((.lit (0)), (.lit (0)))], [], []⟩ 73 (.both (.pre 7 ⟨0, [(5, (.t (.var 72))), (4, (.t (.var 71))), (3, (.t (.var 70))), (2, (.t (.var 69))), (1, (.r 44))], [], [], []⟩ (.both (.fresh 74 (.post 7 0 ⟨0, [(5, (.t (.var 72))), (4, (.t (.var 71))), (3, (.t (.var 70))), (2, (.t (.var 69))), (1, (.r 44))], [], [], []⟩ 74 (.br (.cmp .neq (.var 73) (.var 74))
 (.stuck 7 0 0)
 (.pack [.cells 64 88 [(.vslice 44 (.var 69) (.var 70) (.var 71) 1), (.vint .i64 (.var 72))], .abs 51 2] 75 (.inv 2 76 ⟨1000, [(1017, (.r 75)), (1021, (.t (.var 59))), (1015, (.t (.var 49))), (1016, (.t (.var 50))), (1014, (.t (.var 72))), (1013, (.t (.var 71))), (1012, (.t (.var 70))), (1011, (.t (.var 69))), (1010, (.r 44)), (1008, (.t (.var 42))), (1009, (.t (.var 43))), (1007, (.t (.var 63))), (1006, (.t (.var 62))), (1005, (.t (.var 61))), (1004, (.t (.var 60))), (1003, (.r 37)), (1022, (.t (.lit (0)))), (1020, (.t (.var 58))), (1019, (.t (.var 57))), (1018, (.r 56)), (1002, (.t (.var 36))), (1001, (.r 35)), (1000, (.r 34))], [((.var 1020), (.var 58)), ((.lit (0)), (.lit (0))), ((.lit (0)), (.lit (0))), ((.lit (0)), (.lit (0))), ((.var 7), (.var 7)), ((.var 6), (.var 6)), ((.lit (0)), (.lit (0))), ((.var 2), (.var 2)), ((.var 1), (.var 1)), ((.lit (0)), (.lit (0)))], [], []⟩ (.fresh 76 (.fresh 77 (.fresh 78 (.fresh 79 (.fresh 80 (.fresh 81 (.fresh 82 (.fresh 83 (.fresh 84 (.fresh 85 (.fresh 86 (.fresh 87 (.fresh 88 (.fresh 89 (.fresh 90 (.fresh 91 (.fresh 92 (.fresh 93 (.fresh 94 (.fresh 95 (.fresh 96 (.fresh 97 (.fresh 98 (.hyp 2 76 (.need (.cmp .leq (.lit (0)) (.var 95)) (.br (.cmp .lss (.var 98) (.var 95))
 (.need (.cmp .leq (.lit (0)) (.var 98)) (.need (.cmp .lss (.var 98) (.dlen (.var 97))) (.back 2 76 ⟨1000, [(1017, (.r 93)), (1021, (.t (.dput (.var 97) (.var 98) 0 (.rcons (.vint .u8 (.arith .xor .u8 (.icell (.var 97) (.var 98) 0) (.lit (255)))) .rnil)))), (1015, (.t (.var 91))), (1016, (.t (.var 92))), (1014, (.t (.var 90))), (1013, (.t (.var 89))), (1012, (.t (.var 88))), (1011, (.t (.var 87))), (1010, (.r 86)), (1008, (.t (.var 84))), (1009, (.t (.var 85))), (1007, (.t (.var 83))), (1006, (.t (.var 82))), (1005, (.t (.var 81))), (1004, (.t (.var 80))), (1003, (.r 79)), (1022, (.t (.arith .add .i64 (.var 98) (.lit (1))))), (1020, (.t (.var 96))), (1019, (.t (.var 95))), (1018, (.r 94)), (1002, (.t (.var 78))), (1001, (.r 77)), (1000, (.r 76))], [((.var 1020), (.var 96)), ((.lit (0)), (.lit (0))), ((.lit (0)), (.lit (0))), ((.lit (0)), (.lit (0))), ((.var 7), (.var 7)), ((.var 6), (.var 6)), ((.lit (0)), (.lit (0))), ((.var 2), (.var 2)), ((.var 1), (.var 1)), ((.lit (0)), (.lit (0)))], [], []⟩)))
 (.pack [.arr 94 5 [CK.int .u8] (.var 97) (.var 96), .abs 93 2] 99 (.back 1 34 ⟨1000, [(1017, (.r 99)), (1015, (.t (.var 91))), (1016, (.t (.var 92))), (1014, (.t (.var 90))), (1013, (.t (.var 89))), (1012, (.t (.var 88))), (1011, (.t (.var 87))), (1010, (.r 86)), (1008, (.t (.var 84))), (1009, (.t (.var 85))), (1007, (.t (.var 83))), (1006, (.t (.var 82))), (1005, (.t (.var 81))), (1004, (.t (.var 80))), (1003, (.r 79)), (1002, (.t (.arith .add .i64 (.var 78) (.lit (1))))), (1001, (.r 77)), (1000, (.r 76))], [((.lit (0)), (.lit (0))), ((.lit (0)), (.lit (0))), ((.var 7), (.var 7)), ((.var 6), (.var 6)), ((.lit (0)), (.lit (0))), ((.var 2), (.var 2)), ((.var 1), (.var 1)), ((.lit (0)), (.lit (0)))], [], []⟩))))))))))))))))))))))))))))))))) .top)) .top))) .top)) .top))) .top)) .top))) .top)) .top)))))) .top))))))) (.both (.fresh 68 (.fresh 69 (.fresh 70 (.fresh 71 (.fresh 72 (.fresh 73 (.fresh 74 (.post 3 1 ⟨0, [(15, (.t (.var 66))), (14, (.t (.var 67))), (7, (.t (.var 49))), (6, (.t (.var 50))), (13, (.t (.var 66))), (12, (.t (.dlen (.var 67)))), (11, (.r 65)), (10, (.t (.icell (.var 8) (.var 36) 2))), (9, (.t (.icell (.var 8) (.var 36) 1))), (8, (.t (.icell (.var 8) (.var 36) 0))), (5, (.t (.var 48))), (4, (.t (.var 47))), (3, (.t (.var 46))), (2, (.t (.var 45))), (1, (.r 44))], [((.lit (0)), (.lit (0)))], [], []⟩ 68 (.both (.br (.cmp .neq (.var 55) (.lit (0)))
 (.both (.both (.both (.both (.stuck 7 0 0) .top) .top) .top) .top)
 (.need (.cmp .leq (.lit (0)) (.var 57)) (.need (.cmp .leq (.var 57) (.dlen (.var 59))) (.need (.cmp .leq (.lit (0)) (.var 68)) (.need (.cmp .leq (.lit (0)) (.var 69)) (.need (.cmp .leq (.plus (.var 68) (.var 69)) (.dlen (.var 50))) (.br (.not (.c2 .veq (.c1 .vbytes (.dtake (.var 59) (.var 57))) (.c1 .vbytes (.dtake (.ddrop (.var 50) (.var 68)) (.var 69)))))
 (.both (.both (.both (.both (.stuck 7 0 0) .top) .top) .top) .top)
 (.need (.cmp .leq (.lit (0)) (.var 72)) (.both (.pre 4 ⟨0, [(5, (.t (.var 63))), (4, (.t (.var 62))), (3, (.t (.var 61))), (2, (.t (.var 60))), (1, (.r 37)), (0, (.r 34))], [((.lit (0)), (.lit (0)))], [], []⟩ (.both (.post 4 0 ⟨0, [(5, (.t (.var 63))), (4, (.t (.var 62))), (3, (.t (.var 61))), (2, (.t (.var 60))), (1, (.r 37)), (0, (.r 34))], [((.lit (0)), (.lit (0)))], [], []⟩ 75 (.br (.cmp .neq (.var 61) (.var 72))
 (.both (.both (.both (.stuck 7 0 0) .top) .top) .top)
 (.both (.pre 5 ⟨0, [(5, (.t (.var 63))), (4, (.t (.var 62))), (3, (.t (.var 61))), (2, (.t (.var 60))), (1, (.r 37)), (0, (.r 34))], [((.lit (0)), (.lit (0)))], [], []⟩ (.both (.post 5 0 ⟨0, [(5, (.t (.var 63))), (4, (.t (.var 62))), (3, (.t (.var 61))), (2, (.t (.var 60))), (1, (.r 37)), (0, (.r 34))], [((.lit (0)), (.lit (0)))], [], []⟩ 75 (.br (.cmp .neq (.var 63) (.var 74))
 (.both (.both (.stuck 7 0 0) .top) .top)
 (.both (.pre 6 ⟨0, [(5, (.t (.var 63))), (4, (.t (.var 62))), (3, (.t (.var 61))), (2, (.t (.var 60))), (1, (.r 37)), (0, (.r 34))], [((.lit (0)), (.lit (0)))], [], []⟩ (.both (.fresh 75 (.post 6 0 ⟨0, [(5, (.t (.var 63))), (4, (.t (.var 62))), (3, (.t (.var 61))), (2, (.t (.var 60))), (1, (.r 37)), (0, (.r 34))], [((.lit (0)), (.lit (0)))], [], []⟩ 75 (.both (.pre 7 ⟨0, [(5, (.t (.var 74))), (4, (.t (.var 73))), (3, (.t (.var 72))), (2, (.t (.var 71))), (1, (.r 44))], [], [], []⟩ (.both (.fresh 76 (.post 7 0 ⟨0, [(5, (.t (.var 74))), (4, (.t (.var 73))), (3, (.t (.var 72))), (2, (.t (.var 71))), (1, (.r 44))], [], [], []⟩ 76 (.br (.cmp .neq (.var 75) (.var 76))
 (.stuck 7 0 0)
 (.pack [.cells 64 88 [(.vslice 44 (.var 71) (.var 72) (.var 73) 1), (.vint .i64 (.var 74))], .abs 51 2] 77 (.inv 2 78 ⟨1000, [(1017, (.r 77)), (1021, (.t (.var 59))), (1015, (.t (.var 49))), (1016, (.t (.var 50))), (1014, (.t (.var 74))), (1013, (.t (.var 73))), (1012, (.t (.var 72))), (1011, (.t (.var 71))), (1010, (.r 44)), (1008, (.t (.var 42))), (1009, (.t (.var 43))), (1007, (.t (.var 63))), (1006, (.t (.var 62))), (1005, (.t (.var 61))), (1004, (.t (.var 60))), (1003, (.r 37)), (1022, (.t (.lit (0)))), (1020, (.t (.var 58))), (1019, (.t (.var 57))), (1018, (.r 56)), (1002, (.t (.var 36))), (1001, (.r 35)), (1000, (.r 34))], [((.var 1020), (.var 58)), ((.lit (0)), (.lit (0))), ((.lit (0)), (.lit (0))), ((.lit (0)), (.lit (0))), ((.var 7), (.var 7)), ((.var 6), (.var 6)), ((.lit (0)), (.lit (0))), ((.var 2), (.var 2)), ((.var 1), (.var 1)), ((.lit (0)), (.lit (0)))], [], []⟩ (.fresh 78 (.fresh 79 (.fresh 80 (.fresh 81 (.fresh 82 (.fresh 83 (.fresh 84 (.fresh 85 (.fresh 86 (.fresh 87 (.fresh 88 (.fresh 89 (.fresh 90 (.fresh 91 (.fresh 92 (.fresh 93 (.fresh 94 (.fresh 95 (.fresh 96 (.fresh 97 (.fresh 98 (.fresh 99 (.fresh 100 (.hyp 2 78 (.need (.cmp .leq (.lit (0)) (.var 97)) (.br (.cmp .lss (.var 100) (.var 97))
 (.need (.cmp .leq (.lit (0)) (.var 100)) (.need (.cmp .lss (.var 100) (.dlen (.var 99))) (.back 2 78 ⟨1000, [(1017, (.r 95)), (1021, (.t (.dput (.var 99) (.var 100) 0 (.rcons (.vint .u8 (.arith .xor .u8 (.icell (.var 99) (.var 100) 0) (.lit (255)))) .rnil)))), (1015, (.t (.var 93))), (1016, (.t (.var 94))), (1014, (.t (.var 92))), (1013, (.t (.var 91))), (1012, (.t (.var 90))), (1011, (.t (.var 89))), (1010, (.r 88)), (1008, (.t (.var 86))), (1009, (.t (.var 87))), (1007, (.t (.var 85))), (1006, (.t (.var 84))), (1005, (.t (.var 83))), (1004, (.t (.var 82))), (1003, (.r 81)), (1022, (.t (.arith .add .i64 (.var 100) (.lit (1))))), (1020, (.t (.var 98))), (1019, (.t (.var 97))), (1018, (.r 96)), (1002, (.t (.var 80))), (1001, (.r 79)), (1000, (.r 78))], [((.var 1020), (.var 98)), ((.lit (0)), (.lit (0))), ((.lit (0)), (.lit (0))), ((.lit (0)), (.lit (0))), ((.var 7), (.var 7)), ((.var 6), (.var 6)), ((.lit (0)), (.lit (0))), ((.var 2), (.var 2)), ((.var 1), (.var 1)), ((.lit (0)), (.lit (0)))], [], []⟩)))
 (.pack [.arr 96 5 [CK.int .u8] (.var 99) (.var 98), .abs 95 2] 101 (.back 1 34 ⟨1000, [(1017, (.r 101)), (1015, (.t (.var 93))), (1016, (.t (.var 94))), (1014, (.t (.var 92))), (1013, (.t (.var 91))), (1012, (.t (.var 90))), (1011, (.t (.var 89))), (1010, (.r 88)), (1008, (.t (.var 86))), (1009, (.t (.var 87))), (1007, (.t (.var 85))), (1006, (.t (.var 84))), (1005, (.t (.var 83))), (1004, (.t (.var 82))), (1003, (.r 81)), (1002, (.t (.arith .add .i64 (.var 80) (.lit (1))))), (1001, (.r 79)), (1000, (.r 78))], [((.lit (0)), (.lit (0))), ((.lit (0)), (.lit (0))), ((.var 7), (.var 7)), ((.var 6), (.var 6)), ((.lit (0)), (.lit (0))), ((.var 2), (.var 2)), ((.var 1), (.var 1)), ((.lit (0)), (.lit (0)))], [], []⟩))))))))))))))))))))))))))))))))) .top)) .top))) .top)) .top))) .top)) .top))) .top)) .top))))))))) .top))))))))) .top))))) .top)) .top)))))))))))) .top))))))
 (.need (.cmp .leq (.lit (0)) (.var 46)) (.both (.know (.cmp .leq (.dlen (.var 43)) (.var 42)) (.pre 4 ⟨0, [(5, (.t (.var 41))), (4, (.t (.var 40))), (3, (.t (.var 39))), (2, (.t (.var 38))), (1, (.r 37)), (0, (.r 34))], [((.lit (0)), (.lit (0)))], [], []⟩ (.both (.post 4 0 ⟨0, [(5, (.t (.var 41))), (4, (.t (.var 40))), (3, (.t (.var 39))), (2, (.t (.var 38))), (1, (.r 37)), (0, (.r 34))], [((.lit (0)), (.lit (0)))], [], []⟩ 52 (.br (.cmp .eql (.var 39) (.var 46))
 (.both (.pre 0 ⟨0, [(1, (.t (.var 12))), (0, (.r 11))], [((.lit (1)), (.lit (1)))], [], []⟩ (.both (.post 0 0 ⟨0, [(1, (.t (.var 12))), (0, (.r 11))], [((.lit (1)), (.lit (1)))], [], []⟩ 52 (.ret 0 ⟨13, [], [], [((.bl true), (.bl true))], []⟩)) .top)) .top)
 (.both (.stuck 7 0 0) .top))) .top))) .top)))))))))))))))))))))))))))))))))))))))))))))) .top)))))))))))
theorem o_lawReads_eq : treeOf ⟨Tryd.prog, lawReadsC, [knownC, newReaderC, readOpC, readRC, restC, errC, endC, endRC], [lawReadsI, lawReadsJ, lawReadsK]⟩ 100000 Tryd.f14 = o_lawReads := by kernel_rfl
theorem lawReads_of (hd : ∀ c ∈ ([knownC, newReaderC, readOpC, readRC, restC, errC, endC, endRC] : List Ctr), c.ok Tryd.prog) (h : ∀ ρ : Env, ρ.good → (lawReadsC).pre ρ → o_lawReads.den ⟨Tryd.prog, lawReadsC, [knownC, newReaderC, readOpC, readRC, restC, errC, endC, endRC], [lawReadsI, lawReadsJ, lawReadsK]⟩ ρ) : (lawReadsC).ok Tryd.prog :=
  ok_of_tree Tryd.func14 (fun a w => Tryd.call14 a w) hd 100000 (fun ρ hg hp => by rw [o_lawReads_eq]; exact h ρ hg hp)
end Go.Proofs

set_option linter.unusedSimpArgs false
set_option linter.unusedVariables false
namespace Go.Proofs
open Go Go.Eng
set_option maxRecDepth 20000
/-! ### Stretches of bytes -/
theorem sg_len {o l c : Int} {d : Rows'} (h : rOk o l c d) : (segB d o l).length = l.toNat := by
  obtain ⟨h0, h1, h2, h3, _, _⟩ := h
  rw [segB, List.length_take, List.length_drop, bI_len]; omega
theorem sg_take {o l n : Int} {d : Rows'} (h0 : 0 ≤ n) (h : n ≤ l) : (segB d o l).take n.toNat = segB d o n := by
  rw [segB, segB, List.take_take, Nat.min_eq_left (by omega)]
theorem sg_drop {o l c n : Int} {d : Rows'} (hr : rOk o l c d) (h0 : 0 ≤ n) (h : n ≤ l) : (segB d o l).drop n.toNat = segB d (if c = n then o else o + n) (l - n) := by
  obtain ⟨a0, a1, a2, a3, _, _⟩ := hr
  by_cases e : c = n
  · rw [if_pos e, List.drop_of_length_le (by rw [segB, List.length_take, List.length_drop, bI_len]; omega)]
    rw [segB, show (l - n).toNat = 0 by omega]; rfl
  · rw [if_neg e, segB, segB, List.drop_take, List.drop_drop]
    rw [show (l - n).toNat = l.toNat - n.toNat by omega, show (o + n).toNat = o.toNat + n.toNat by omega]
theorem rOk_take {o l c n : Int} {d : Rows'} (hr : rOk o l c d) (h0 : 0 ≤ n) (h : n ≤ l) : rOk o n c d := by
  obtain ⟨a0, a1, a2, a3, a4, a5⟩ := hr
  exact ⟨a0, h0, by omega, by omega, a4, a5⟩
theorem rOk_drop {o l c n : Int} {d : Rows'} (hr : rOk o l c d) (h0 : 0 ≤ n) (h : n ≤ l) : rOk (if c = n then o else o + n) (l - n) (c - n) d := by
  obtain ⟨a0, a1, a2, a3, a4, a5⟩ := hr
  refine ⟨?_, by omega, by omega, ?_, a4, a5⟩ <;> split <;> omega
theorem sg_snoc {o j : Int} {d : Rows'} (h0 : 0 ≤ o) (j0 : 0 ≤ j) (h : o + j < d.length) : segB d o (j + 1) = segB d o j ++ [cellI d (o + j) 0] := by
  have hg := bI_get (d := d) (i := o + j) (by omega) h
  rw [segB, segB, show (j + 1).toNat = j.toNat + 1 by omega, List.take_add_one, List.getElem?_drop, show o.toNat + j.toNat = (o + j).toNat by omega, hg]
  rfl
theorem sg_allM {o l : Int} {d : Rows'} (h : allB d) : allM (segB d o l) := fun x hx => allB_list h x (List.drop_subset _ _ (List.take_subset _ _ hx))
theorem val_step {o l c j : Int} {d : Rows'} (hr : rOk o l c d) (h8 : l ≤ 8) (j0 : 0 ≤ j) (hj : j < l) : arithOf .or .u64 (arithOf .shl .u64 (valL (segB d o j)) 8) (IntKind.u64.wrap (cellI d (o + j) 0)) = valL (segB d o (arithOf .add .i64 j 1)) := by
  have hr' := hr
  obtain ⟨a0, a1, a2, a3, a4, a5⟩ := hr'
  have hl := sg_len (rOk_take hr j0 (by omega))
  have hM := sg_allM (o := o) (l := j) a4
  obtain ⟨v0, v1⟩ := valL_range j.toNat hl hM
  have hv : valL (segB d o j) < 72057594037927936 := Int.lt_of_lt_of_le v1 (by
    have e : ((256 : Int) ^ j.toNat) = ((256 ^ j.toNat : Nat) : Int) := (Int.natCast_pow 256 _).symm
    rw [e]
    exact Int.ofNat_le.2 (Nat.pow_le_pow_right (n := 256) (j := 7) (by decide) (by omega)))
  have hs := sg_snoc (o := o) (j := j) (d := d) a0 j0 (by omega)
  have hx : cellI d (o + j) 0 ∈ segB d o (j + 1) := by rw [hs]; simp
  obtain ⟨x0, x1⟩ := sg_allM a4 _ hx
  rw [Go.Proofs.add64 (by omega) (by omega), hs, valL_snoc, wrap64u, Int.emod_eq_of_lt x0 (by omega), shl_or64 v0 hv x0 x1]
theorem val_zero {o : Int} {d : Rows'} : valL (segB d o 0) = 0 := by simp [segB, valL]
/-! ### What is read -/
theorem rd_err {m : List Int} {e n : Int} (h : e ≠ 0) : rdTake m e n = (none, m, e) := by rw [rdTake, if_pos h]
theorem rd_neg {m : List Int} {n : Int} (h : n < 0) : rdTake m 0 n = (none, m, 2) := by rw [rdTake, if_neg (by decide), if_pos h]
theorem rd_short {m : List Int} {n : Int} (h0 : 0 ≤ n) (h : (m.length : Int) < n) : rdTake m 0 n = (none, m, 4) := by rw [rdTake, if_neg (by decide), if_neg (by omega), if_pos h]
theorem rd_some {m : List Int} {n : Int} (h0 : 0 ≤ n) (h : n ≤ m.length) : rdTake m 0 n = (some (m.take n.toNat), m.drop n.toNat, 0) := by rw [rdTake, if_neg (by decide), if_neg (by omega), if_neg (by omega)]
theorem take_ok : takeC.ok Tryd.prog := take_of (by simp) fun ρ hg hp => by
  obtain ⟨⟨hr, e0, e1⟩, hn⟩ := hp
  simp [o_take, takeC, rdCells, rM, rPre, rNow, rPost]
  have hl := sg_len hr
  have hr' := hr
  obtain ⟨a0, a1, a2, a3, a4, a5⟩ := hr'
  refine ⟨fun h => ⟨rd_err h, by omega, e1⟩, fun h => ⟨fun hneg => by rw [h, rd_neg hneg], fun hpos => ⟨a1, fun hs => by rw [h, rd_short hpos (by omega)], fun hs => ⟨a0, by omega, hpos, by omega, hs, a2, h.symm, rOk_take hr hpos hs, rOk_drop hr hpos hs, ?_⟩⟩⟩⟩
  rw [h, rd_some hpos (by omega), sg_take hpos hs, sg_drop hr hpos hs]
  rfl
theorem rNum_ok : rNumC.ok Tryd.prog := rNum_of (by simp [take_ok]) fun ρ hg hp => by
  obtain ⟨⟨hr, e0, e1⟩, n0, n8⟩ := hp
  simp [o_rNum, rNumC, rNumN, rNumI, takeC, rdCells, rM, rPre, rNow, rPost]
  have hw : (((ρ 8).i.toNat : Nat) : Int) = (ρ 8).i := by omega
  refine ⟨⟨⟨hr, e0, e1⟩, by unfold i64P; omega⟩, fun u _ hu u0 u1 v _ j _ hv hj => ⟨by omega, fun _ => ?_⟩, fun a _ b _ c _ l _ f _ hra hrc hu => ⟨n0, ⟨n0, val_zero.symm⟩, fun v _ j _ j0 j1 hv => ⟨fun hlt => ?_, fun hge => ?_⟩⟩⟩
  · rw [rdNum, hw, hu]
    exact ⟨hv, hr, rfl, rfl, by omega, u1⟩
  · obtain ⟨a0, a1, a2, a3, a4, a5⟩ := hra
    rw [hv, val_step ⟨a0, a1, a2, a3, a4, a5⟩ n8 j0 hlt]
    have m1 : arithOf .add .i64 j.i 1 = j.i + 1 := by rw [Go.Proofs.add64 (by omega) (by omega)]
    rw [m1]
    exact ⟨j0, a0, by omega, by omega, ⟨by omega, by omega, rfl⟩, by omega⟩
  · have : j.i = (ρ 8).i := by omega
    rw [rdNum, hw, hu]
    exact ⟨by rw [hv, this]; rfl, hrc, rfl, rfl⟩
theorem rdNum_range {m : List Int} {e : Int} {w : Nat} (hM : allM m) : 0 ≤ (rdNum m e w).1 ∧ (rdNum m e w).1 < 256 ^ w := by
  have h0 : (0 : Int) < 256 ^ w := Int.pow_pos (by decide)
  unfold rdNum
  show 0 ≤ valL _ ∧ valL _ < _
  unfold rdTake
  split
  · exact ⟨Int.le_of_eq rfl, h0⟩
  · split
    · exact ⟨Int.le_of_eq rfl, h0⟩
    · split
      · exact ⟨Int.le_of_eq rfl, h0⟩
      · exact valL_range w (by simp; omega) (fun x hx => hM x (List.take_subset _ _ hx))
theorem rU8_ok : rU8C.ok Tryd.prog := rU8_of (by simp [rNum_ok]) fun ρ hg hp => by
  obtain ⟨hr, e0, e1⟩ := hp
  simp [o_rU8, rU8C, rNumFn, rNumC, rdCells, rM, rPre, rNow, rPost]
  refine ⟨⟨hr, e0, e1⟩, fun v _ _ _ _ _ _ _ f _ hv h1 h2 h3 h4 h5 => ⟨?_, h1, h2, h3, h4, h5⟩⟩
  obtain ⟨v0, v1⟩ := rdNum_range (m := segB (ρ 6).d (ρ 2).i (ρ 3).i) (e := (ρ 5).i) (w := 1) (sg_allM hr.2.2.2.2.1)
  have v1 : _ < (256 : Int) := v1
  rw [hv, wrap8]; omega
theorem rU16_ok : rU16C.ok Tryd.prog := rU16_of (by simp [rNum_ok]) fun ρ hg hp => by
  obtain ⟨hr, e0, e1⟩ := hp
  simp [o_rU16, rU16C, rNumFn, rNumC, rdCells, rM, rPre, rNow, rPost]
  refine ⟨⟨hr, e0, e1⟩, fun v _ _ _ _ _ _ _ f _ hv h1 h2 h3 h4 h5 => ⟨?_, h1, h2, h3, h4, h5⟩⟩
  obtain ⟨v0, v1⟩ := rdNum_range (m := segB (ρ 6).d (ρ 2).i (ρ 3).i) (e := (ρ 5).i) (w := 2) (sg_allM hr.2.2.2.2.1)
  have v1 : _ < (65536 : Int) := v1
  rw [hv, wrap16u]; omega
theorem rU32_ok : rU32C.ok Tryd.prog := rU32_of (by simp [rNum_ok]) fun ρ hg hp => by
  obtain ⟨hr, e0, e1⟩ := hp
  simp [o_rU32, rU32C, rNumFn, rNumC, rdCells, rM, rPre, rNow, rPost]
  refine ⟨⟨hr, e0, e1⟩, fun v _ _ _ _ _ _ _ f _ hv h1 h2 h3 h4 h5 => ⟨?_, h1, h2, h3, h4, h5⟩⟩
  obtain ⟨v0, v1⟩ := rdNum_range (m := segB (ρ 6).d (ρ 2).i (ρ 3).i) (e := (ρ 5).i) (w := 4) (sg_allM hr.2.2.2.2.1)
  have v1 : _ < (4294967296 : Int) := v1
  rw [hv, wrap32u]; omega
theorem rU64_ok : rU64C.ok Tryd.prog := rU64_of (by simp [rNum_ok]) fun ρ hg hp => by
  obtain ⟨hr, e0, e1⟩ := hp
  simp [o_rU64, rU64C, rNumFn, rNumC, rdCells, rM, rPre, rNow, rPost]
  exact ⟨hr, e0, e1⟩
theorem cloneO_ok : cloneOC.ok Tryd.prog := cloneO_of (by simp) fun ρ hg hp => by
  have hr : rOk (ρ 1).i (ρ 2).i (ρ 3).i (ρ 4).d := hp
  simp [o_cloneO, cloneOC]
  obtain ⟨a0, a1, a2, a3, a4, a5⟩ := hr
  refine ⟨fun h0 h1 => ?_, fun _ => ⟨a0, a1, a3, by omega, by omega, allB_sub a4, by simp [segB, bI]⟩⟩
  have hl : (ρ 4).d.length = 0 := by rw [h0]; rfl
  exact ⟨by omega, by omega, fun r hr => (by cases hr), by rw [h0]; simp [segB, bI]⟩
theorem cloneN_ok : cloneNC.ok Tryd.prog := cloneN_of (by simp) fun ρ hg hp => by
  simp [o_cloneN, cloneNC]
theorem rawR_ok : rawRC.ok Tryd.prog := rawR_of (by simp [take_ok, cloneN_ok, cloneO_ok]) fun ρ hg hp => by
  obtain ⟨⟨hr, e0, e1⟩, hn⟩ := hp
  simp [o_rawR, rawRC, takeC, cloneNC, cloneOC, rdCells, rM, rPre, rNow, rPost, rRet, rRetHp]
  refine ⟨⟨⟨hr, e0, e1⟩, hn⟩, fun u _ hu u0 u1 => ?_, fun a _ b _ c _ l _ f _ hra hrc hu => ⟨hra, fun d _ hd hB hbI => ?_⟩⟩
  · rw [rdRaw, hu]
    exact ⟨fun r hr => (by cases hr), rfl, hr, rfl, rfl, by omega, u1⟩
  · rw [rdRaw, hu]
    exact ⟨by have := hra.2.1; omega, hB, hbI, hrc, rfl, rfl⟩
theorem rdNum_short {m : List Int} {w : Nat} (h : m.length < w) : rdNum m 0 w = (0, [], m, 4) := by rw [rdNum, rd_short (by omega) (by omega)]; rfl
theorem rdNum_some {m : List Int} {w : Nat} (h : w ≤ m.length) : rdNum m 0 w = (valL (m.take w), [], m.drop w, 0) := by rw [rdNum, rd_some (by omega) (by omega), Int.toNat_natCast]; rfl
theorem rdText_err {m : List Int} {e : Int} (h : e ≠ 0) : rdText m e = (0, [], m, e) := by rw [rdText, if_pos h]
theorem rdText_two {m : List Int} (h : m.length < 2) : rdText m 0 = (0, [], m, 4) := by rw [rdText, if_neg (by decide), if_pos h]
theorem rdText_short {m : List Int} (h : ¬ m.length < 2) (h2 : ((m.drop 2).length : Int) < valL (m.take 2)) : rdText m 0 = (0, [], m, 4) := by rw [rdText, if_neg (by decide), if_neg h, if_pos h2]
theorem rdText_some {m : List Int} (h : ¬ m.length < 2) (h2 : ¬ ((m.drop 2).length : Int) < valL (m.take 2)) : rdText m 0 = (0, (m.drop 2).take (valL (m.take 2)).toNat, (m.drop 2).drop (valL (m.take 2)).toNat, 0) := by rw [rdText, if_neg (by decide), if_neg h, if_neg h2]
theorem val2 {m : List Int} (hM : allM m) (h : ¬ m.length < 2) : 0 ≤ valL (m.take 2) ∧ valL (m.take 2) < 65536 := by
  obtain ⟨v0, v1⟩ := valL_range 2 (l := m.take 2) (by rw [List.length_take]; omega) (fun x hx => hM x (List.take_subset _ _ hx))
  exact ⟨v0, v1⟩
theorem textR_ok : textRC.ok Tryd.prog := textR_of (by simp [take_ok, rNum_ok, cloneN_ok, cloneO_ok]) fun ρ hg hp => by
  obtain ⟨hr, e0, e1⟩ := hp
  simp [o_textR, textRC, takeC, rNumC, cloneNC, cloneOC, rdCells, rM, rPre, rNow, rPost, rRet, rRetHp]
  have hM := sg_allM (o := (ρ 2).i) (l := (ρ 3).i) hr.2.2.2.2.1
  generalize hm : segB (ρ 6).d (ρ 2).i (ρ 3).i = m at hM ⊢
  refine ⟨fun h => ?_, fun h => ⟨⟨hr, e0, e1⟩, fun v _ a _ l _ c _ f _ hv hra hsa hf f0 f1 => ?_⟩⟩
  · rw [rdText_err h]
    exact ⟨fun r hr => (by cases hr), rfl, hr, rfl, rfl, e0, e1⟩
  · rw [h] at hv hsa hf ⊢
    by_cases h2 : m.length < 2
    · rw [rdNum_short h2] at hv hsa hf
      simp only at hv hsa hf
      have hw : IntKind.i64.wrap v.i = 0 := by rw [hv]; rfl
      rw [hsa, hf, hw, rdText_two h2]
      refine ⟨⟨⟨hra, by decide, by decide⟩, by unfold i64P; decide⟩, fun u _ hu u0 u1 => ?_, fun a2 _ b2 _ c2 _ l2 _ f2 _ _ _ hu => ?_⟩
      · rw [rd_err (by decide)] at hu
        simp only [Prod.mk.injEq, true_and] at hu
        refine ⟨fun _ => ⟨fun r hr => (by cases hr), rfl, hr, rfl, by rw [← hu], by omega, u1⟩, fun h0 => by omega⟩
      · rw [rd_err (by decide)] at hu
        simp at hu
    · obtain ⟨w0, w1⟩ := val2 hM h2
      rw [rdNum_some (by omega)] at hv hsa hf
      simp only at hv hsa hf
      have hw : IntKind.i64.wrap v.i = valL (m.take 2) := by rw [hv, Go.Proofs.wrap64 (by omega) (by omega)]
      rw [hsa, hf, hw]
      refine ⟨⟨⟨hra, by decide, by decide⟩, by unfold i64P; omega⟩, fun u _ hu u0 u1 => ?_, fun a2 _ b2 _ c2 _ l2 _ f2 _ hr2 hr3 hu => ?_⟩
      · by_cases h3 : ((m.drop 2).length : Int) < valL (m.take 2)
        · rw [rd_short w0 h3] at hu
          simp only [Prod.mk.injEq, true_and] at hu
          rw [rdText_short h2 h3]
          refine ⟨fun _ => ⟨fun r hr => (by cases hr), rfl, hr, rfl, by rw [← hu], by omega, u1⟩, fun h0 => by omega⟩
        · rw [rd_some w0 (by omega)] at hu
          simp at hu
      · by_cases h3 : ((m.drop 2).length : Int) < valL (m.take 2)
        · rw [rd_short w0 h3] at hu
          simp at hu
        · rw [rd_some w0 (by omega)] at hu
          simp only [Prod.mk.injEq, Option.some.injEq, and_true] at hu
          rw [rdText_some h2 h3, hu.1, hu.2]
          exact ⟨hr2, fun d _ hd hB hbI => ⟨by omega, hB, hbI, hr3, rfl, rfl⟩⟩
theorem op_num {m : List Int} {e k n : Int} (h1 : 1 ≤ k) (h4 : k ≤ 4) : rdOp m e k n = rdNum m e (2 ^ (k.toNat - 1)) := by rw [rdOp, if_pos ⟨h1, h4⟩]
theorem op_raw {m : List Int} {e n : Int} : rdOp m e 5 n = rdRaw m e n := by simp [rdOp]
theorem op_text {m : List Int} {e n : Int} : rdOp m e 6 n = rdText m e := by simp [rdOp]
theorem op_other {m : List Int} {e k n : Int} (h1 : ¬ (1 ≤ k ∧ k ≤ 4)) (h5 : k ≠ 5) (h6 : k ≠ 6) : rdOp m e k n = (0, [], m, e) := by rw [rdOp, if_neg h1, if_neg h5, if_neg h6]
theorem op_err {m : List Int} {e k n : Int} (h : e ≠ 0) : rdOp m e k n = (0, [], m, e) := by
  unfold rdOp
  split
  · rw [rdNum, rd_err h]; rfl
  · split
    · rw [rdRaw, rd_err h]; rfl
    · split
      · exact rdText_err h
      · rfl
theorem readOp_ok : readOpC.ok Tryd.prog := readOp_of (by simp [rU8_ok, rU16_ok, rU32_ok, rU64_ok, rawR_ok, textR_ok]) fun ρ hg hp => by
  obtain ⟨⟨hr, e0, e1⟩, hk, hn⟩ := hp
  simp [o_readOp, readOpC, rU8C, rU16C, rU32C, rU64C, rNumFn, rawRC, textRC, rdCells, rM, rPre, rNow, rPost, rRet, rRetHp, opV]
  have hM := sg_allM (o := (ρ 2).i) (l := (ρ 3).i) hr.2.2.2.2.1
  generalize segB (ρ 6).d (ρ 2).i (ρ 3).i = m at hM ⊢
  have hP : rOk (ρ 2).i (ρ 3).i (ρ 4).i (ρ 6).d ∧ 0 ≤ (ρ 5).i ∧ (ρ 5).i < 1000 := ⟨hr, e0, e1⟩
  have num : ∀ w : Nat, w ≤ 8 → IntKind.u64.wrap (rdNum m (ρ 5).i w).1 = (rdNum m (ρ 5).i w).1 := fun w h8 => by
    obtain ⟨v0, v1⟩ := rdNum_range (e := (ρ 5).i) (w := w) hM
    have : (256 : Int) ^ w ≤ 18446744073709551616 := by
      have e : ((256 : Int) ^ w) = ((256 ^ w : Nat) : Int) := (Int.natCast_pow 256 _).symm
      rw [e]
      exact Int.ofNat_le.2 (Nat.pow_le_pow_right (n := 256) (j := 8) (by decide) h8)
    rw [wrap64u]; omega
  refine ⟨fun h => ⟨hP, fun v _ _ _ _ _ _ _ f _ hv h1 h2 h3 h4 h5 => ?_⟩, fun k1 => ⟨fun h => ⟨hP, fun v _ _ _ _ _ _ _ f _ hv h1 h2 h3 h4 h5 => ?_⟩, fun k2 => ⟨fun h => ⟨hP, fun v _ _ _ _ _ _ _ f _ hv h1 h2 h3 h4 h5 => ?_⟩, fun k3 => ⟨fun h => ⟨hP, fun v _ _ _ _ _ _ _ f _ hv h1 h2 h3 h4 h5 => ?_⟩, fun k4 => ⟨fun h => ⟨⟨hP, hn⟩, ?_⟩, fun k5 => ⟨fun h => ⟨hP, ?_⟩, fun k6 => ?_⟩⟩⟩⟩⟩⟩
  · rw [h, op_num (by decide) (by decide)]
    exact ⟨by rw [hv]; exact num 1 (by decide), fun r hr => (by cases hr), rfl, h1, h2, h3, h4, h5⟩
  · rw [h, op_num (by decide) (by decide)]
    exact ⟨by rw [hv]; exact num 2 (by decide), fun r hr => (by cases hr), rfl, h1, h2, h3, h4, h5⟩
  · rw [h, op_num (by decide) (by decide)]
    exact ⟨by rw [hv]; exact num 4 (by decide), fun r hr => (by cases hr), rfl, h1, h2, h3, h4, h5⟩
  · rw [h, op_num (by decide) (by decide)]
    exact ⟨hv, fun r hr => (by cases hr), rfl, h1, h2, h3, h4, h5⟩
  · rw [h, op_raw]
    intros
    refine ⟨rfl, ?_⟩
    simp_all
  · rw [h, op_text]
    have h0 : (rdText m (ρ 5).i).1 = 0 := by
      unfold rdText
      split
      · rfl
      · split
        · rfl
        · split <;> rfl
    intros
    refine ⟨h0.symm, ?_⟩
    simp_all
  · rw [op_other (by omega) k5 k6]
    exact ⟨rfl, fun r hr => (by cases hr), rfl, hr, rfl, rfl, e0, e1⟩
theorem newReader_ok : newReaderC.ok Tryd.prog := newReader_of (by simp [cloneB_ok]) fun ρ hg hp => by
  simp [o_newReader, newReaderC, cloneBC]
  exact hp
theorem rest_ok : restC.ok Tryd.prog := rest_of (by simp) fun ρ hg hp => by
  have hp : 0 ≤ (ρ 3).i := hp
  simp [o_rest, restC]
  exact hp
theorem err_ok : errC.ok Tryd.prog := err_of (by simp) fun ρ hg hp => by
  simp [o_err, errC]
theorem endD_ok : endC.ok Tryd.prog := endD_of (by simp [err_ok]) fun ρ hg hp => by
  have hp : 0 ≤ (ρ 3).i := hp
  simp [o_endD, endC, errC, rdCells]
  refine ⟨fun h => by rw [endE, if_pos h], fun h => ⟨hp, fun h2 => by rw [endE, if_neg (by omega), if_pos h2], fun h2 => by rw [endE, if_neg (by omega), if_neg (by omega)]⟩⟩
theorem value_ok : valueC.ok Tryd.prog := value_of (by simp) fun ρ hg hp => by
  obtain ⟨hr, h8⟩ := hp
  simp [o_value, valueC, valueI]
  have hr' := hr
  obtain ⟨a0, a1, a2, a3, a4, a5⟩ := hr'
  refine ⟨⟨a1, val_zero.symm⟩, fun v _ j _ j0 j1 hv => ⟨a1, fun hlt => ?_, fun hge => ?_⟩⟩
  · rw [hv, val_step hr h8 j0 hlt]
    have m1 : arithOf .add .i64 j.i 1 = j.i + 1 := by rw [Go.Proofs.add64 (by omega) (by omega)]
    rw [m1]
    exact ⟨j0, a0, by omega, by omega, ⟨by omega, by omega, rfl⟩, by omega⟩
  · have : j.i = (ρ 2).i := by omega
    rw [hv, this]
theorem endR_ok : endRC.ok Tryd.prog := endR_of (by simp) fun ρ hg hp => by
  have hp : 0 ≤ (ρ 3).i := hp
  simp [o_endR, endRC, inV]
  refine ⟨fun h => ⟨hp, fun h2 => by rw [endE, if_neg (by omega), if_pos h2], fun h2 => by rw [endE, if_neg (by omega), if_neg (by omega), h]⟩, fun h => by rw [endE, if_pos h]⟩
end Go.Proofs

set_option linter.unusedSimpArgs false
set_option linter.unusedVariables false
namespace Go.Proofs
open Go Go.Eng
set_option maxRecDepth 20000
theorem readR_ok : readRC.ok Tryd.prog := readR_of (by simp [width_ok, value_ok]) fun ρ hg hp => by
  obtain ⟨⟨hr, e0, e1⟩, hk, hn⟩ := hp
  simp [o_readR, readRC, widthC, valueC, inV, opV, rM, rPre, rNow]
  have hM := sg_allM (o := (ρ 2).i) (l := (ρ 3).i) hr.2.2.2.2.1
  have hL := sg_len hr
  generalize hm : segB (ρ 6).d (ρ 2).i (ρ 3).i = m at hM hL ⊢
  have hr' := hr
  obtain ⟨a0, a1, a2, a3, a4, a5⟩ := hr'
  unfold i64P at hn
  refine ⟨fun h => ?_, fun h0 => ?_⟩
  · rw [op_err h]; exact ⟨rfl, rfl, hr, rfl, rfl, e0, e1⟩
  rw [h0]
  refine ⟨fun h => ?_, fun h1 => ⟨fun h => ?_, fun h6 => ⟨hk, fun w _ hw => ⟨fun k5 => ⟨fun k6 => by exfalso; omega, fun _ => ?_⟩, fun k5 => ⟨fun k6 => ?_, fun k6 => ?_⟩⟩⟩⟩⟩
  · rw [op_other (by omega) (by omega) (by omega)]; exact ⟨rfl, rfl, hr, rfl, rfl, by omega, by omega⟩
  · rw [op_other (by omega) (by omega) (by omega)]; exact ⟨rfl, rfl, hr, rfl, rfl, by omega, by omega⟩
  · rw [k5, op_raw, rdRaw]
    have m1 : arithOf .sub .i64 (ρ 3).i 0 = (ρ 3).i := by rw [Go.Proofs.sub64 (by omega) (by omega)]; omega
    have m2 : arithOf .add .i64 0 (ρ 10).i = (ρ 10).i := by rw [Go.Proofs.add64 (by omega) (by omega)]; omega
    rw [m1, m2]
    refine ⟨fun h => ?_, fun hpos => ⟨a1, fun h => ?_, fun hs => ⟨a0, by omega, hpos, by omega, hs, a2, fun h4 => by exfalso; omega, fun _ => ?_⟩⟩⟩
    · rw [rd_neg h]; exact ⟨rfl, rfl, hr, rfl, rfl⟩
    · rw [rd_short hpos (by omega)]; exact ⟨rfl, rfl, hr, rfl, rfl⟩
    · rw [rd_some hpos (by omega), ← hm, sg_take hpos hs, sg_drop hr hpos hs]
      exact ⟨rfl, rOk_take hr hpos hs, rfl, rOk_drop hr hpos hs, rfl, rfl⟩
  · rw [k6, op_text]
    refine ⟨a1, fun h => ?_, fun h2 => ⟨a0, by omega, by omega, rOk_take hr (by decide) h2, fun v _ hv => ?_⟩⟩
    · rw [rdText_two (by omega)]; exact ⟨rfl, rfl, hr, rfl, rfl⟩
    · have e2 : segB (ρ 6).d (ρ 2).i 2 = m.take 2 := by rw [← hm]; exact (sg_take (n := 2) (by decide) h2).symm
      have hnl : ¬ m.length < 2 := by omega
      obtain ⟨w0, w1⟩ := val2 hM hnl
      rw [e2] at hv
      have hwv : IntKind.i64.wrap v.i = valL (m.take 2) := by rw [hv, Go.Proofs.wrap64 (by omega) (by omega)]
      have m1 : arithOf .sub .i64 (ρ 3).i 2 = (ρ 3).i - 2 := by rw [Go.Proofs.sub64 (by omega) (by omega)]
      have m2 : arithOf .add .i64 2 (valL (m.take 2)) = 2 + valL (m.take 2) := by rw [Go.Proofs.add64 (by omega) (by omega)]
      rw [hwv, m1, m2]
      have hdl : (m.drop 2).length = m.length - 2 := List.length_drop
      refine ⟨fun h => by exfalso; omega, fun _ => ⟨fun h => ?_, fun hs => ⟨by omega, by omega, by omega, by omega, a2, fun h4 => by exfalso; omega, fun _ => ?_⟩⟩⟩
      · rw [rdText_short hnl (by omega)]; exact ⟨rfl, rfl, hr, rfl, rfl⟩
      · rw [rdText_some hnl (by omega)]
        generalize hV : valL (m.take 2) = V at w0 w1 hs ⊢
        have d1 : m.drop 2 = segB (ρ 6).d (if (ρ 4).i = 2 then (ρ 2).i else (ρ 2).i + 2) ((ρ 3).i - 2) := by rw [← hm]; exact sg_drop (n := 2) hr (by decide) h2
        have d2 : (m.drop 2).drop V.toNat = segB (ρ 6).d (if (ρ 4).i = 2 + V then (ρ 2).i else (ρ 2).i + (2 + V)) ((ρ 3).i - (2 + V)) := by
          rw [List.drop_drop, ← sg_drop hr (by omega) (by omega), hm]
          congr 1
          omega
        have hr2 := rOk_drop (n := 2) hr (by decide) h2
        rw [d2, d1, sg_take w0 hs, show 2 + V - 2 = V by omega]
        exact ⟨rfl, rOk_take hr2 w0 hs, rfl, rOk_drop hr (by omega) (by omega), rfl, rfl⟩
  · have h14 : 1 ≤ (ρ 8).i ∧ (ρ 8).i ≤ 4 := by omega
    rw [if_pos h14] at hw
    have hw8 : w.i = ((2 ^ ((ρ 8).i.toNat - 1) : Nat) : Int) ∧ 1 ≤ w.i ∧ w.i ≤ 8 := by
      have h : (ρ 8).i = 1 ∨ (ρ 8).i = 2 ∨ (ρ 8).i = 3 ∨ (ρ 8).i = 4 := by omega
      rcases h with h | h | h | h <;> rw [h] at hw ⊢ <;> rw [hw] <;> decide
    obtain ⟨W, hW⟩ : ∃ W : Nat, 2 ^ ((ρ 8).i.toNat - 1) = W := ⟨_, rfl⟩
    rw [op_num h14.1 h14.2, hW]
    rw [hW] at hw8
    have m1 : arithOf .sub .i64 (ρ 3).i 0 = (ρ 3).i := by rw [Go.Proofs.sub64 (by omega) (by omega)]; omega
    have m2 : arithOf .add .i64 0 w.i = w.i := by rw [Go.Proofs.add64 (by omega) (by omega)]; omega
    rw [m1, m2]
    have hpos : 0 ≤ w.i := by omega
    refine ⟨fun h => by exfalso; omega, fun _ => ⟨a1, fun h => ?_, fun hs => ⟨a0, by omega, hpos, by omega, hs, a2, fun _ => ⟨⟨rOk_take hr hpos hs, by omega⟩, fun v _ hv => ?_⟩, fun h4 => by exfalso; omega⟩⟩⟩
    · rw [rdNum_short (by omega)]; exact ⟨rfl, rfl, hr, rfl, rfl⟩
    · rw [rdNum_some (by omega), ← hm, show W = w.i.toNat by omega, sg_take hpos hs, sg_drop hr hpos hs]
      exact ⟨hv.symm, rfl, rOk_drop hr hpos hs, rfl, rfl⟩
/-! ### The law -/
theorem seg_bI {o l : Int} {d : Rows'} : bI (List.take l.toNat (List.drop o.toNat d)) = segB d o l := by simp [segB, bI, List.map_take, List.map_drop]
theorem sg_same {o l c o' l' c' : Int} {d d' : Rows'} (h : rOk o l c d) (h' : rOk o' l' c' d') (e : segB d o l = segB d' o' l') : l = l' := by
  have h1 := congrArg List.length e
  rw [sg_len h, sg_len h'] at h1
  have := h.2.1
  have := h'.2.1
  omega
theorem rdOp_len {m : List Int} {e k n : Int} : (rdOp m e k n).2.1.length ≤ m.length := by
  unfold rdOp rdNum rdRaw rdText rdTake
  repeat' split
  all_goals simp [List.length_take]
  all_goals omega
set_option maxHeartbeats 1600000 in
theorem lawReads_ok (hk : knownC.ok Tryd.prog) : lawReadsC.ok Tryd.prog := lawReads_of (by simp [hk, newReader_ok, readOp_ok, readR_ok, rest_ok, err_ok, endD_ok, endR_ok]) fun ρ hg hp => by
  obtain ⟨⟨hb, hb1, hB⟩, ⟨hl, hl1, hop⟩, hGr, hGd⟩ := hp
  simp only [Nat.reduceAdd] at hb hb1 hB hl hl1 hop
  simp (config := { maxSteps := 4000000 }) [o_lawReads, lawReadsC, lawReadsI, lawReadsJ, lawReadsK, lrIn, lrHp, lrEnv, inV, opV, knownC, newReaderC, readOpC, readRC, restC, errC, endC, endRC, rPre, rNow, rM, rdCells, lawTrue, gOk, opsHp, opsS]
  have ht : List.take (ρ 1).i.toNat (ρ 3).d = (ρ 3).d := List.take_of_length_le (by omega)
  rw [ht]
  refine ⟨by omega, fun _ => ⟨hGr, hGd⟩, fun hb2 => ⟨by omega, fun _ => ⟨hGr, hGd⟩, fun h200 => fun _ _ => ⟨by omega, by omega, fun _ _ _ _ => ⟨⟨by omega, by omega, by omega⟩, fun _ _ _ _ _ _ d6 _ h6 => ⟨⟨hb2, h200, by omega, by omega, by omega, by rw [h6], by rw [h6], by rw [h6]; exact hB⟩, fun _ _ l8 _ c9 _ d10 _ _ _ i12 _ _ _ c14 _ d15 _ _ _ p0 p1 p2 p3 p4 p5 p6 => ⟨by omega, fun hlt => ?_, fun hge _ _ _ _ c18 _ _ _ _ _ _ => ⟨?_, ?_⟩⟩⟩⟩⟩⟩⟩
  · have m1 : arithOf .add .i64 i12.i 1 = i12.i + 1 := by rw [Go.Proofs.add64 (by omega) (by omega)]
    rw [m1, putD_len]
    exact ⟨by omega, by omega, ⟨hb2, h200, by omega, by omega, by omega, by omega, p4, p5, p6⟩, by omega⟩
  · exact ⟨by omega, h200, ⟨by omega, fun hc => ⟨by omega, by omega, by omega, by omega, p6, by omega⟩⟩, ⟨by omega, fun hc => ⟨by omega, by omega, by omega, by omega, hB, by omega⟩⟩, by rw [segB, segB, p5]⟩
  intro _ _ _ _ i _ _ _ o1 _ l1 _ c1 _ e1 _ cp1 _ d1 _ _ _ o2 _ l2 _ c2 _ e2 _ cp2 _ d2 _ _ _ i0 i1 _ hin hq hll hsg hee e0 e3
  refine ⟨fun hlt => ?_, fun hge => ⟨hq.1, fun hc => ⟨hin.1, fun _ => ⟨hGr, hGd⟩, hll⟩⟩⟩
  obtain ⟨I, hI⟩ : ∃ I : Nat, i.i = I := ⟨i.i.toNat, by omega⟩
  obtain ⟨x, k1, x1, l1', hr, hxB, hox⟩ := op_at hop (j := I) (by omega)
  rw [← hI] at k1 x1 l1' hr
  refine ⟨i0, by omega, x, .inr hr, fun _ _ _ _ c1le => ⟨⟨⟨hin.2 c1le, by omega, by omega⟩, k1, l1'⟩, fun v _ _ _ xl _ _ _ xd _ o3 _ l3 _ c3 _ er1 _ h39 h41 hBx hx hr1 hs1 he1 e10 e11 => ?_⟩⟩
  have hG : rdOp (segB d1.d o1.i l1.i) e1.i (cellI (ρ 8).d i.i 0) (cellI (ρ 8).d i.i 2) = rdOp (segB d2.d o2.i l2.i) e2.i (cellI (ρ 8).d i.i 0) (cellI (ρ 8).d i.i 2) := by rw [hsg, hee]
  have hxt : List.take xl.i.toNat xd.d = xd.d := List.take_of_length_le (by omega)
  have hxl : xl.i ≤ 100000000000000 := by
    have h1 := rdOp_len (m := segB d1.d o1.i l1.i) (e := e1.i) (k := cellI (ρ 8).d i.i 0) (n := cellI (ρ 8).d i.i 2)
    have h2 := congrArg List.length hx
    rw [bI_len] at h2
    have h3 := sg_len (hin.2 c1le)
    obtain ⟨q0, q1, q2, q3, q4, q5⟩ := hin.2 c1le
    omega
  refine ⟨?_, ?_⟩
  · exact ⟨x, .inr hr, fun _ _ _ _ c2le => ⟨⟨⟨hq.2 c2le, by omega, by omega⟩, k1, l1'⟩, fun v2 _ o2 _ l2 _ c2 _ er2 _ hv hx2 hr2 hs2 he2 e20 e21 _ _ => by
      have hll := sg_same hr1 hr2 (by rw [hs1, hs2, hG])
      have hee : er1.i = er2.i := by rw [he1, he2, hG]
      exact ⟨by rw [h39, hG, hv], fun _ => ⟨by omega, by omega, by rw [bytesOf_bI, bytesOf_bI, hxt, hx, hG, hx2]; rfl, fun _ => ⟨hr2.2.1, hr1.2.1, hll, fun _ => ⟨hee, fun _ => ⟨hr1.2.1, fun e54 _ h54 => ⟨hr2.2.1, fun e55 _ h55 => ⟨by rw [h54, h55, hll, hee], fun _ _ _ _ => ⟨⟨⟨i0, by omega, h200, ⟨hr1.2.1, fun _ => hr1⟩, ⟨hr2.2.1, fun _ => hr2⟩, hll, by rw [hs1, hs2, hG], hee, e10, e11⟩, hlt, h41, hxl, by omega⟩, fun _ _ _ _ ii _ _ _ _ _ _ _ _ _ _ _ _ _ _ _ _ _ _ _ _ _ _ _ _ _ _ _ _ _ _ _ _ _ xn _ _ _ xd _ j _ a0 a1 a2 a3 a4 a5 a6 a7 a8 a9 b0 b1 b2 b3 j0 j1 => ⟨by omega, fun hj => by
      have m1 : arithOf .add .i64 j.i 1 = j.i + 1 := by rw [Go.Proofs.add64 (by omega) (by omega)]
      rw [m1, putD_len]
      exact ⟨j0, by omega, ⟨⟨a0, a1, a2, a3, a4, a5, a6, a7, a8, a9⟩, b0, b1, b2, b3, by omega, by omega⟩, by omega⟩, fun hj _ _ _ => by
      have m1 : arithOf .add .i64 ii.i 1 = ii.i + 1 := by rw [Go.Proofs.add64 (by omega) (by omega)]
      rw [m1]
      exact ⟨⟨by omega, by omega, h200, a3, a4, a5, a6, a7, a8, a9⟩, by omega⟩⟩⟩⟩⟩⟩⟩⟩⟩⟩, fun ox _ lx _ cx _ o2 _ l2 _ c2 _ er2 _ hv hrx hx2 hr2 hs2 he2 e20 e21 _ _ => by
      have hll := sg_same hr1 hr2 (by rw [hs1, hs2, hG])
      have hee : er1.i = er2.i := by rw [he1, he2, hG]
      exact ⟨by rw [h39, hG, hv], fun _ => ⟨by omega, by omega, hrx.1, hrx.2.1, hrx.2.2.2.1, by rw [bytesOf_bI, bytesOf_bI, hxt, seg_bI, hx, hG, hx2], fun _ => ⟨hr2.2.1, hr1.2.1, hll, fun _ => ⟨hee, fun _ => ⟨hr1.2.1, fun e54 _ h54 => ⟨hr2.2.1, fun e55 _ h55 => ⟨by rw [h54, h55, hll, hee], fun _ _ _ _ => ⟨⟨⟨i0, by omega, h200, ⟨hr1.2.1, fun _ => hr1⟩, ⟨hr2.2.1, fun _ => hr2⟩, hll, by rw [hs1, hs2, hG], hee, e10, e11⟩, hlt, h41, hxl, by omega⟩, fun _ _ _ _ ii _ _ _ _ _ _ _ _ _ _ _ _ _ _ _ _ _ _ _ _ _ _ _ _ _ _ _ _ _ _ _ _ _ xn _ _ _ xd _ j _ a0 a1 a2 a3 a4 a5 a6 a7 a8 a9 b0 b1 b2 b3 j0 j1 => ⟨by omega, fun hj => by
      have m1 : arithOf .add .i64 j.i 1 = j.i + 1 := by rw [Go.Proofs.add64 (by omega) (by omega)]
      rw [m1, putD_len]
      exact ⟨j0, by omega, ⟨⟨a0, a1, a2, a3, a4, a5, a6, a7, a8, a9⟩, b0, b1, b2, b3, by omega, by omega⟩, by omega⟩, fun hj _ _ _ => by
      have m1 : arithOf .add .i64 ii.i 1 = ii.i + 1 := by rw [Go.Proofs.add64 (by omega) (by omega)]
      rw [m1]
      exact ⟨⟨by omega, by omega, h200, a3, a4, a5, a6, a7, a8, a9⟩, by omega⟩⟩⟩⟩⟩⟩⟩⟩⟩⟩⟩⟩
  · exact fun _ _ => ⟨x, .inr hr, fun _ _ _ _ c2le => ⟨⟨⟨hq.2 c2le, by omega, by omega⟩, k1, l1'⟩, fun v2 _ o2 _ l2 _ c2 _ er2 _ hv hx2 hr2 hs2 he2 e20 e21 => by
      have hll := sg_same hr1 hr2 (by rw [hs1, hs2, hG])
      have hee : er1.i = er2.i := by rw [he1, he2, hG]
      exact ⟨by rw [h39, hG, hv], fun _ => ⟨by omega, by omega, by rw [bytesOf_bI, bytesOf_bI, hxt, hx, hG, hx2]; rfl, fun _ => ⟨hr2.2.1, hr1.2.1, hll, fun _ => ⟨hee, fun _ => ⟨hr1.2.1, fun e54 _ h54 => ⟨hr2.2.1, fun e55 _ h55 => ⟨by rw [h54, h55, hll, hee], fun _ _ _ _ => ⟨⟨⟨i0, by omega, h200, ⟨hr1.2.1, fun _ => hr1⟩, ⟨hr2.2.1, fun _ => hr2⟩, hll, by rw [hs1, hs2, hG], hee, e10, e11⟩, hlt, h41, hxl, by omega⟩, fun _ _ _ _ ii _ _ _ _ _ _ _ _ _ _ _ _ _ _ _ _ _ _ _ _ _ _ _ _ _ _ _ _ _ _ _ _ _ xn _ _ _ xd _ j _ a0 a1 a2 a3 a4 a5 a6 a7 a8 a9 b0 b1 b2 b3 j0 j1 => ⟨by omega, fun hj => by
      have m1 : arithOf .add .i64 j.i 1 = j.i + 1 := by rw [Go.Proofs.add64 (by omega) (by omega)]
      rw [m1, putD_len]
      exact ⟨j0, by omega, ⟨⟨a0, a1, a2, a3, a4, a5, a6, a7, a8, a9⟩, b0, b1, b2, b3, by omega, by omega⟩, by omega⟩, fun hj _ _ _ => by
      have m1 : arithOf .add .i64 ii.i 1 = ii.i + 1 := by rw [Go.Proofs.add64 (by omega) (by omega)]
      rw [m1]
      exact ⟨⟨by omega, by omega, h200, a3, a4, a5, a6, a7, a8, a9⟩, by omega⟩⟩⟩⟩⟩⟩⟩⟩⟩⟩, fun ox _ lx _ cx _ o2 _ l2 _ c2 _ er2 _ hv hrx hx2 hr2 hs2 he2 e20 e21 => by
      have hll := sg_same hr1 hr2 (by rw [hs1, hs2, hG])
      have hee : er1.i = er2.i := by rw [he1, he2, hG]
      exact ⟨by rw [h39, hG, hv], fun _ => ⟨by omega, by omega, hrx.1, hrx.2.1, hrx.2.2.2.1, by rw [bytesOf_bI, bytesOf_bI, hxt, seg_bI, hx, hG, hx2], fun _ => ⟨hr2.2.1, hr1.2.1, hll, fun _ => ⟨hee, fun _ => ⟨hr1.2.1, fun e54 _ h54 => ⟨hr2.2.1, fun e55 _ h55 => ⟨by rw [h54, h55, hll, hee], fun _ _ _ _ => ⟨⟨⟨i0, by omega, h200, ⟨hr1.2.1, fun _ => hr1⟩, ⟨hr2.2.1, fun _ => hr2⟩, hll, by rw [hs1, hs2, hG], hee, e10, e11⟩, hlt, h41, hxl, by omega⟩, fun _ _ _ _ ii _ _ _ _ _ _ _ _ _ _ _ _ _ _ _ _ _ _ _ _ _ _ _ _ _ _ _ _ _ _ _ _ _ xn _ _ _ xd _ j _ a0 a1 a2 a3 a4 a5 a6 a7 a8 a9 b0 b1 b2 b3 j0 j1 => ⟨by omega, fun hj => by
      have m1 : arithOf .add .i64 j.i 1 = j.i + 1 := by rw [Go.Proofs.add64 (by omega) (by omega)]
      rw [m1, putD_len]
      exact ⟨j0, by omega, ⟨⟨a0, a1, a2, a3, a4, a5, a6, a7, a8, a9⟩, b0, b1, b2, b3, by omega, by omega⟩, by omega⟩, fun hj _ _ _ => by
      have m1 : arithOf .add .i64 ii.i 1 = ii.i + 1 := by rw [Go.Proofs.add64 (by omega) (by omega)]
      rw [m1]
      exact ⟨⟨by omega, by omega, h200, a3, a4, a5, a6, a7, a8, a9⟩, by omega⟩⟩⟩⟩⟩⟩⟩⟩⟩⟩⟩⟩
end Go.Proofs

set_option linter.unusedSimpArgs false
set_option linter.unusedVariables false
namespace Go.Eng
open Go Go.ChangeShapes Go.WideShapes Go.ChangeAt Go.RowKit

/-- Of what was there nothing has turned. -/
structure Grew (W w' : World) : Prop where
  os : w'.os = W.os
  out : w'.output = W.output
  blk : ∀ (b : Nat) (o : Obj), W.heap[b]? = some o → w'.heap[b]? = some o

theorem Grew.block {W w' : World} (h : Grew W w') {i : Nat} (hi : i < W.heap.size) : w'.heap[i]? = W.heap[i]? := by
  rw [Array.getElem?_eq_getElem hi]; exact h.blk i _ (Array.getElem?_eq_getElem hi)

theorem Grew.kept {W w' : World} (h : Grew W w') (may : MemPlace → Prop) : W.keptBut w' may := by
  refine ⟨h.os, h.out, fun i hi => ?_⟩
  rw [h.block hi, Array.getElem?_eq_getElem hi]
  cases W.heap[i] <;> simp

theorem Grew.trodAll {H : Type} {enc : TypeId × Value → H} {P : Program} {W W' : World} (hg : Grew W W') (hl : laidOutB P = true) {sp : Nat → Bool} : ∀ {ts : List TypeId} {vs : List Value} {ds : List (DataW H)} {ps : List MemPlace},
    (∀ t ∈ ts, P.readableRec t = true ∧ t < P.types.size) → DataW.TrodAll enc P W 0 (fun _ => true) true ts vs ds ps → (∀ p ∈ ps, p.block < W.heap.size) → (∀ p ∈ ps, sp p.block = true) →
    DataW.TrodAll enc P W' 0 sp true ts vs ds ps
  | [], [], [], _, _, h, _, _ => h
  | _ :: _, _ :: _, _ :: _, _, hT, ⟨p, q, h1, h2, e⟩, hlt, hs => by
    subst e
    refine ⟨p, q, ?_, Grew.trodAll hg hl (fun t ht => hT t (List.mem_cons_of_mem _ ht)) h2 (fun x hx => hlt x (List.mem_append_right _ hx)) (fun x hx => hs x (List.mem_append_right _ hx)), rfl⟩
    have hr := hT _ (List.mem_cons_self ..)
    refine WideElems.Trod_stays hl hr.1 hr.2 h1 (fun x hx => ?_) (fun x hx => hs x (List.mem_append_left _ hx))
    have hb := hg.block (hlt x (List.mem_append_left _ hx))
    cases x with
    | cell b o => exact World.cell?_of_block (w := W) hb
    | map b => exact hb

/-- The call's contract, at the whole memory as its frame. -/
theorem law_calls {P : Program} {c : Ctr} (hok : c.ok P) (hheap : c.heap = []) (halts : ∀ al ∈ c.alts, al.ret = .one (.vbool (.bl true))) {ρ : Env} (hg : ρ.good) (W : World)
    (hro : ∀ x ∈ c.ro, x.roden ρ (fun b => W.heap[b]?)) (hpre : c.pre ρ) :
    Calls P c.fn (c.args.map (SV.den ρ)).toArray W fun e W' => e = .returned (.bool true) ∧ Grew W W' := by
  have h := hok.2 ρ W ⟨fun b => W.heap[b]?, W.os, W.output⟩ Hp.emp hg (Hp.disj_emp _)
    ⟨fun b o hb => by simpa [Hp.union, Hp.emp] using hb, rfl, rfl⟩ (by rw [hheap]; trivial) hro hpre
  refine h.mono fun e w' hq => ?_
  obtain ⟨ai, al, ρ', hal, _, _, rfl, _, hO, _, _, hsub, hwi⟩ := hq
  refine ⟨by rw [halts al (List.mem_of_getElem? hal)]; rfl, ⟨hwi.1, hwi.2, fun b o hb => hsub b o ?_⟩⟩
  simp [Hp.union, hb]

theorem law_post {H : Type} {enc : TypeId × Value → H} {P : Program} {f : Func} {s : ChangeSpec} {W W' : World} {args : Array Value} {ds gs : List (DataW H)} {before : List MemPlace} {bt : TypeId}
    (hl : laidOutB P = true) (hT : ∀ t ∈ f.params.toList, P.readableRec t = true ∧ t < P.types.size) (hvars : s.vars = []) (hrt : f.resultTypes = #[bt]) (hbt : P.underlying bt = some .bool)
    (hfn : ∀ ds' : List (DataW H), ds'.length = f.params.size → s.fn H ds' = { results := [.lit (.bool true)], args := ds' })
    (hW : DataW.Whole enc P f.params.toList s.vars false W args.toList ds gs before) (hg : Grew W W') : s.post enc P f false true false false W args (.bool true) W' := by
  have hlt := hW.lt
  have hW0 := hW
  obtain ⟨p, q, hA, hV, hpq, hz, hn⟩ := hW
  rw [hvars] at hV
  obtain ⟨rfl, rfl⟩ := trodVars_none hV
  have hlen : ds.length = f.params.size := by
    have : ∀ {ts : List TypeId} {vs : List Value} {ds : List (DataW H)} {ps : List MemPlace}, DataW.TrodAll enc P W 0 (fun _ => true) true ts vs ds ps → ds.length = ts.length := by
      intro ts
      induction ts with
      | nil => intro vs ds ps h; cases vs <;> cases ds <;> simp_all [DataW.TrodAll]
      | cons t ts ih =>
        intro vs ds ps h
        cases vs <;> cases ds <;> simp_all [DataW.TrodAll]
        obtain ⟨p, q, _, h2, _⟩ := h
        exact ih h2
    simpa using this hA
  have hlt' : ∀ x ∈ p, x.block < W.heap.size := fun x hx => hlt x (by rw [hpq]; exact List.mem_append_left _ hx)
  refine ⟨ds, [], before, [], p, [], hW0, ?_, ?_, ?_, hg.kept _, fun h => by cases h⟩
  · rw [List.append_nil, hfn ds hlen, hrt]
    exact ⟨[], [], ⟨1, by simp [DataW.trod, hbt, Value.cells]⟩, rfl, rfl⟩
  · rw [List.append_nil, hfn ds hlen]
    exact hg.trodAll hl hT hA hlt' (fun x hx => by simpa using hlt' x hx)
  · rw [List.append_nil, hfn ds hlen, hvars]
    rfl

/-- What is asked of a law's call. -/
theorem law_call {H : Type} {enc : TypeId × Value → H} {P : Program} {f : Func} {s : ChangeSpec} {c : Ctr} {W : World} {args : Array Value} {ds gs : List (DataW H)} {before : List MemPlace} {bt : TypeId} {ρ : Env}
    (hok : c.ok P) (hheap : c.heap = []) (halts : ∀ al ∈ c.alts, al.ret = .one (.vbool (.bl true)))
    (hl : laidOutB P = true) (hT : ∀ t ∈ f.params.toList, P.readableRec t = true ∧ t < P.types.size) (hvars : s.vars = []) (hrt : f.resultTypes = #[bt]) (hbt : P.underlying bt = some .bool)
    (hfn : ∀ ds' : List (DataW H), ds'.length = f.params.size → s.fn H ds' = { results := [.lit (.bool true)], args := ds' })
    (hW : DataW.Whole enc P f.params.toList s.vars false W args.toList ds gs before)
    (hg : ρ.good) (hargs : args = (c.args.map (SV.den ρ)).toArray) (hro : ∀ x ∈ c.ro, x.roden ρ (fun b => W.heap[b]?)) (hpre : c.pre ρ) :
    Calls P c.fn args W fun e W' => ∃ v, e = .returned v ∧ s.post enc P f false true false false W args v W' := by
  rw [hargs]
  refine (law_calls hok hheap halts hg W hro hpre).mono fun e W' ⟨he, hgr⟩ => ⟨_, he, ?_⟩
  rw [← hargs]
  exact law_post hl hT hvars hrt hbt hfn hW hgr
end Go.Eng
