/- Texts ZV, ZW, ZX, DS, DT, BT, BU, BV, BW, BX, BY, CA, CB, CC, CD, CE, CF, CG, CH. -/
import Derived.Test.YtelcnkclppkicaaDoorG6
import Derived.Test.YtelcnkclppkicaaDoorProg
import Derived.Test.YtelcnkclppkicaaDoorG8
import Derived.Test.YtelcnkclppkicaaDoorG5
import Derived.Test.YtelcnkclppkicaaDoorG7
set_option linter.unusedSimpArgs false
set_option linter.unusedVariables false
set_option maxRecDepth 100000
namespace Go.Proofs
open Go Go.Eng

def o_encode31 : Out := (.br (.and (.cmp .eql (.dlen (.var 1)) (.lit (0))) (.isnil 0))
 (.ret 0 ⟨9, [(10, (.t (.var 1))), (9, (.t (.lit (1))))], [((.lit (1)), (.lit (1)))], [], []⟩)
 (.pre 0 ⟨0, [(1, (.t (.var 3))), (0, (.t (.var 2)))], [], [], []⟩ (.both (.fresh 9 (.post 0 0 ⟨0, [(1, (.t (.var 3))), (0, (.t (.var 2)))], [], [], []⟩ 9 (.br (.not (.var 9))
 (.ret 0 ⟨9, [(10, (.t (.var 1))), (9, (.t (.lit (2))))], [((.lit (1)), (.lit (1)))], [], []⟩)
 (.need (.cmp .leq (.lit (0)) (.var 5)) (.br (.cmp .gtr (.var 5) (.lit (8192)))
 (.ret 0 ⟨9, [(10, (.t (.var 1))), (9, (.t (.lit (3))))], [((.lit (1)), (.lit (1)))], [], []⟩)
 (.pre 1 ⟨0, [(1, (.t (.var 5))), (0, (.t (.var 2)))], [], [], []⟩ (.both (.fresh 10 (.fresh 11 (.post 1 0 ⟨0, [(1, (.t (.var 5))), (0, (.t (.var 2)))], [], [], []⟩ 10 (.need (.cmp .leq (.lit (0)) (.arith .mul .i64 (.var 2) (.var 10))) (.need (.cmp .leq (.tims (.lit (1)) (.arith .mul .i64 (.var 2) (.var 10))) (.lit (281474976710656))) (.fresh 12 (.need (.cmp .leq (.arith .mul .i64 (.var 2) (.var 10)) (.dlen (.drep (.arith .mul .i64 (.var 2) (.var 10)) (.rcons (.vint .u8 (.lit (0))) .rnil)))) (.need (.cmp .leq (.var 5) (.dlen (.var 7))) (.fresh 13 (.pre 2 ⟨0, [(1, (.t (.var 1))), (3, (.t (.var 3))), (2, (.t (.var 2))), (0, (.r 0))], [((.lit (1)), (.lit (1))), ((.lit (0)), (.lit (0)))], [], []⟩ (.both (.fresh 14 (.fresh 15 (.fresh 16 (.fresh 17 (.fresh 18 (.fresh 19 (.post 2 0 ⟨0, [(1, (.t (.var 1))), (3, (.t (.var 3))), (2, (.t (.var 2))), (0, (.r 0))], [((.lit (1)), (.lit (1))), ((.lit (0)), (.lit (0)))], [], []⟩ 14 (.fresh 20 (.need (.cmp .leq (.lit (0)) (.var 3)) (.need (.cmp .leq (.tims (.lit (32)) (.var 3)) (.lit (281474976710656))) (.fresh 21 (.inv 0 22 ⟨1000, [(1015, (.r 19)), (1014, (.t (.drep (.var 3) (.rcons (.vint .i64 (.lit (0))) (.rcons .vnils .rnil))))), (1013, (.t (.c3 .dsplice (.drep (.arith .mul .i64 (.var 2) (.var 10)) (.rcons (.vint .u8 (.lit (0))) .rnil)) (.lit (0)) (.dtake (.dtake (.var 7) (.var 5)) (.imin (.arith .mul .i64 (.var 2) (.var 10)) (.var 5)))))), (1012, (.t (.var 18))), (1011, (.t (.var 16))), (1010, (.t (.var 15))), (1009, (.r 14)), (1008, (.t (.var 17))), (1007, (.t (.lit (0)))), (1006, (.t (.var 3))), (1005, (.r 21)), (1004, (.r 20)), (1003, (.t (.arith .mul .i64 (.var 2) (.var 10)))), (1002, (.t (.arith .mul .i64 (.var 2) (.var 10)))), (1001, (.r 12)), (1000, (.t (.var 10)))], [((.var 1006), (.var 3)), ((.var 1003), (.arith .mul .i64 (.var 2) (.var 10))), ((.var 1011), (.var 16)), ((.lit (0)), (.lit (0))), ((.var 2), (.var 2)), ((.var 3), (.var 3)), ((.lit (1)), (.lit (1))), ((.var 3), (.var 3)), ((.var 3), (.var 3)), ((.lit (0)), (.lit (0))), ((.lit (0)), (.lit (0))), ((.lit (0)), (.lit (0)))], [], []⟩ (.fresh 22 (.fresh 23 (.fresh 24 (.fresh 25 (.fresh 26 (.fresh 27 (.fresh 28 (.fresh 29 (.fresh 30 (.fresh 31 (.fresh 32 (.fresh 33 (.fresh 34 (.fresh 35 (.fresh 36 (.fresh 37 (.hyp 0 22 (.br (.cmp .lss (.var 29) (.var 3))
 (.need (.cmp .leq (.lit (0)) (.var 22)) (.need (.cmp .leq (.tims (.lit (1)) (.var 22)) (.lit (281474976710656))) (.fresh 38 (.pre 3 ⟨0, [(6, (.t (.var 33))), (5, (.t (.var 34))), (7, (.t (.var 29))), (4, (.t (.var 33))), (3, (.t (.var 32))), (2, (.r 31)), (1, (.t (.var 2))), (0, (.t (.var 3)))], [((.lit (0)), (.lit (0)))], [], []⟩ (.both (.fresh 39 (.fresh 40 (.fresh 41 (.post 3 0 ⟨0, [(6, (.t (.var 33))), (5, (.t (.var 34))), (7, (.t (.var 29))), (4, (.t (.var 33))), (3, (.t (.var 32))), (2, (.r 31)), (1, (.t (.var 2))), (0, (.t (.var 3)))], [((.lit (0)), (.lit (0)))], [], []⟩ 39 (.need (.cmp .leq (.lit (0)) (.var 40)) (.inv 1 42 ⟨1000, [(1015, (.r 37)), (1018, (.t (.drep (.var 22) (.rcons (.vint .u8 (.lit (0))) .rnil)))), (1014, (.t (.var 36))), (1013, (.t (.var 35))), (1012, (.t (.var 34))), (1011, (.t (.var 33))), (1010, (.t (.var 32))), (1008, (.t (.var 30))), (1022, (.t (.lit (0)))), (1021, (.t (.var 41))), (1020, (.t (.var 40))), (1019, (.t (.var 39))), (1009, (.r 31)), (1017, (.t (.var 22))), (1016, (.r 38)), (1007, (.t (.var 29))), (1006, (.t (.var 28))), (1005, (.r 27)), (1004, (.r 26)), (1003, (.t (.var 25))), (1002, (.t (.var 24))), (1001, (.r 23)), (1000, (.t (.var 22)))], [((.var 1017), (.var 22)), ((.var 1006), (.var 28)), ((.var 1003), (.var 25)), ((.var 1011), (.var 33)), ((.lit (0)), (.lit (0))), ((.var 2), (.var 2)), ((.var 3), (.var 3)), ((.lit (1)), (.lit (1))), ((.var 1020), (.var 40)), ((.var 1000), (.var 22)), ((.lit (0)), (.lit (0))), ((.var 1007), (.var 29)), ((.var 3), (.var 3)), ((.var 3), (.var 3)), ((.lit (0)), (.lit (0))), ((.lit (0)), (.lit (0))), ((.lit (0)), (.lit (0))), ((.lit (0)), (.lit (0)))], [], []⟩ (.fresh 42 (.fresh 43 (.fresh 44 (.fresh 45 (.fresh 46 (.fresh 47 (.fresh 48 (.fresh 49 (.fresh 50 (.fresh 51 (.fresh 52 (.fresh 53 (.fresh 54 (.fresh 55 (.fresh 56 (.fresh 57 (.fresh 58 (.fresh 59 (.fresh 60 (.fresh 61 (.fresh 62 (.fresh 63 (.fresh 64 (.hyp 1 42 (.br (.cmp .lss (.var 64) (.var 62))
 (.need (.cmp .leq (.lit (0)) (.var 64)) (.need (.cmp .leq (.lit (0)) (.var 61)) (.need (.cmp .leq (.lit (0)) (.plus (.var 61) (.var 64))) (.need (.cmp .lss (.plus (.var 61) (.var 64)) (.dlen (.var 54))) (.know (.cmp .leq (.dlen (.var 55)) (.var 45)) (.need (.cmp .leq (.lit (0)) (.var 44)) (.need (.cmp .leq (.lit (0)) (.var 45)) (.need (.cmp .leq (.lit (0)) (.arith .mul .i64 (.var 64) (.var 42))) (.need (.cmp .leq (.arith .mul .i64 (.var 64) (.var 42)) (.arith .mul .i64 (.arith .add .i64 (.var 64) (.lit (1))) (.var 42))) (.need (.cmp .leq (.arith .mul .i64 (.arith .add .i64 (.var 64) (.lit (1))) (.var 42)) (.var 45)) (.pre 4 ⟨0, [(13, (.t (.var 45))), (12, (.t (.var 55))), (7, (.t (.var 59))), (6, (.t (.var 60))), (1, (.t (.var 50))), (14, (.t (.icell (.var 54) (.plus (.var 61) (.var 64)) 0))), (11, (.t (.minus (.var 45) (.arith .mul .i64 (.var 64) (.var 42))))), (10, (.t (.minus (.arith .mul .i64 (.arith .add .i64 (.var 64) (.lit (1))) (.var 42)) (.arith .mul .i64 (.var 64) (.var 42))))), (9, (.t (.ife (.var 45) (.arith .mul .i64 (.var 64) (.var 42)) (.lit (0)) (.arith .mul .i64 (.var 64) (.var 42))))), (8, (.r 43)), (5, (.t (.var 59))), (4, (.t (.var 42))), (3, (.t (.lit (0)))), (2, (.r 58)), (0, (.r 0))], [((.lit (1)), (.lit (1))), ((.lit (0)), (.lit (0)))], [], []⟩ (.both (.fresh 65 (.fresh 66 (.post 4 0 ⟨0, [(13, (.t (.var 45))), (12, (.t (.var 55))), (7, (.t (.var 59))), (6, (.t (.var 60))), (1, (.t (.var 50))), (14, (.t (.icell (.var 54) (.plus (.var 61) (.var 64)) 0))), (11, (.t (.minus (.var 45) (.arith .mul .i64 (.var 64) (.var 42))))), (10, (.t (.minus (.arith .mul .i64 (.arith .add .i64 (.var 64) (.lit (1))) (.var 42)) (.arith .mul .i64 (.var 64) (.var 42))))), (9, (.t (.ife (.var 45) (.arith .mul .i64 (.var 64) (.var 42)) (.lit (0)) (.arith .mul .i64 (.var 64) (.var 42))))), (8, (.r 43)), (5, (.t (.var 59))), (4, (.t (.var 42))), (3, (.t (.lit (0)))), (2, (.r 58)), (0, (.r 0))], [((.lit (1)), (.lit (1))), ((.lit (0)), (.lit (0)))], [], []⟩ 65 (.back 1 42 ⟨1000, [(1015, (.r 57)), (1018, (.t (.var 66))), (1014, (.t (.var 56))), (1013, (.t (.var 55))), (1012, (.t (.var 54))), (1011, (.t (.var 53))), (1010, (.t (.var 52))), (1008, (.t (.var 65))), (1022, (.t (.arith .add .i64 (.var 64) (.lit (1))))), (1021, (.t (.var 63))), (1020, (.t (.var 62))), (1019, (.t (.var 61))), (1009, (.r 51)), (1017, (.t (.var 59))), (1016, (.r 58)), (1007, (.t (.var 49))), (1006, (.t (.var 48))), (1005, (.r 47)), (1004, (.r 46)), (1003, (.t (.var 45))), (1002, (.t (.var 44))), (1001, (.r 43)), (1000, (.t (.var 42)))], [((.var 1017), (.var 59)), ((.var 1006), (.var 48)), ((.var 1003), (.var 45)), ((.var 1011), (.var 53)), ((.lit (0)), (.lit (0))), ((.var 2), (.var 2)), ((.var 3), (.var 3)), ((.lit (1)), (.lit (1))), ((.var 1020), (.var 62)), ((.var 1000), (.var 42)), ((.lit (0)), (.lit (0))), ((.var 1007), (.var 49)), ((.var 3), (.var 3)), ((.var 3), (.var 3)), ((.lit (0)), (.lit (0))), ((.lit (0)), (.lit (0))), ((.lit (0)), (.lit (0))), ((.lit (0)), (.lit (0)))], [], []⟩)))) .top))))))))))))
 (.need (.cmp .leq (.lit (0)) (.var 49)) (.need (.cmp .lss (.var 49) (.var 3)) (.need (.cmp .lss (.var 49) (.dlen (.var 56))) (.pack [.arr 58 5 [CK.int .u8] (.var 60) (.var 59), .abs 57 2] 65 (.back 0 22 ⟨1000, [(1015, (.r 65)), (1014, (.t (.dput (.var 56) (.var 49) 0 (.rcons (.vint .i64 (.var 49)) (.rcons (.vslice 58 (.lit (0)) (.var 42) (.var 59) 1) .rnil))))), (1013, (.t (.var 55))), (1012, (.t (.var 54))), (1011, (.t (.var 53))), (1010, (.t (.var 52))), (1009, (.r 51)), (1008, (.t (.var 50))), (1007, (.t (.arith .add .i64 (.var 49) (.lit (1))))), (1006, (.t (.var 48))), (1005, (.r 47)), (1004, (.r 46)), (1003, (.t (.var 45))), (1002, (.t (.var 44))), (1001, (.r 43)), (1000, (.t (.var 42)))], [((.var 1006), (.var 48)), ((.var 1003), (.var 45)), ((.var 1011), (.var 53)), ((.lit (0)), (.lit (0))), ((.var 2), (.var 2)), ((.var 3), (.var 3)), ((.lit (1)), (.lit (1))), ((.var 3), (.var 3)), ((.var 3), (.var 3)), ((.lit (0)), (.lit (0))), ((.lit (0)), (.lit (0))), ((.lit (0)), (.lit (0))), ((.lit (0)), (.lit (0)))], [], []⟩)))))))))))))))))))))))))))))))))))) .top)))))
 (.pack [.cells 26 160 [(.vint .i64 (.var 3)), (.vint .i64 (.var 2)), (.vslice 31 (.lit (0)) (.var 32) (.var 33) 1)], .arr 31 5 [CK.int .u8] (.var 34) (.var 33), .arr 23 5 [CK.int .u8] (.var 35) (.var 25), .abs 37 2] 38 (.ret 1 ⟨9, [(13, (.r 38)), (12, (.t (.var 36))), (11, (.t (.var 30))), (10, (.t (.var 28))), (9, (.r 27))], [((.var 10), (.var 28)), ((.lit (1)), (.lit (1))), ((.lit (0)), (.lit (0))), ((.var 3), (.var 3)), ((.lit (0)), (.lit (0)))], [], []⟩)))))))))))))))))))))))))))))))) .top))))))))))) .top))))))) .top)))
theorem o_encode31_eq : treeOf ⟨Tryd.prog, encode31C, [sizes74C, piece26C, genGC, row75C, addToC], [encode31I, encode31J]⟩ 100000 Tryd.f72 = o_encode31 := by kernel_rfl
theorem encode31_of (hd : ∀ c ∈ ([sizes74C, piece26C, genGC, row75C, addToC] : List Ctr), c.ok Tryd.prog) (h : ∀ ρ : Env, ρ.good → (encode31C).pre ρ → o_encode31.den ⟨Tryd.prog, encode31C, [sizes74C, piece26C, genGC, row75C, addToC], [encode31I, encode31J]⟩ ρ) : (encode31C).ok Tryd.prog :=
  ok_of_tree Tryd.func72 (fun a w => Tryd.call72 a w) hd 100000 (fun ρ hg hp => by rw [o_encode31_eq]; exact h ρ hg hp)
end Go.Proofs

set_option linter.unusedSimpArgs false
set_option linter.unusedVariables false
namespace Go.Proofs
open Go Go.Eng

theorem genG_ok : genGC.ok Tryd.prog := Ctr.ok_less gen35_ok rfl rfl rfl rfl rfl (fun _ h => h.1) fun ρ ρ' ai al hp hag hal hpost => by
  match ai, hal with
  | 0, hal =>
    exfalso
    obtain rfl := Option.some.inj hal
    obtain ⟨_, h2⟩ : _ ∧ (sizesB ((ρ'.upto 5) 2).i ((ρ'.upto 5) 3).i = true → (topE ((ρ'.upto 5) 2).i.toNat ((ρ'.upto 5) 3).i.toNat).2.2 < ((ρ'.upto 5) 2).i.toNat) := hpost
    have e2 : (ρ'.upto 5) 2 = ρ 2 := by rw [Env.upto, if_pos (by omega)]; exact hag 2 (by decide)
    have e3 : (ρ'.upto 5) 3 = ρ 3 := by rw [Env.upto, if_pos (by omega)]; exact hag 3 (by decide)
    rw [e2, e3] at h2
    obtain ⟨_, p2, p3⟩ := hp
    have := h2 p2
    omega
  | 1, hal => exact ⟨0, hal⟩
  | n + 2, hal => cases hal
/-! ### Pieces' lengths -/
theorem pieceLen_ge {k n : Nat} (hk : 0 < k) : n ≤ k * pieceLen k n := by
  unfold pieceLen
  have h1 := Nat.div_add_mod (n + k - 1) k
  have h2 := Nat.mod_lt (n + k - 1) hk
  omega
theorem pieceLen_lt {k n : Nat} (hk : 0 < k) : k * pieceLen k n < n + k := by
  unfold pieceLen
  have h1 := Nat.div_add_mod (n + k - 1) k
  omega
theorem pieceLen_le {k n : Nat} (hk : 0 < k) : pieceLen k n ≤ n := by
  have h := pieceLen_lt (n := n) hk
  by_cases h2 : pieceLen k n ≤ n
  · exact h2
  · have h3 : k * (n + 1) ≤ k * pieceLen k n := Nat.mul_le_mul_left k (by omega)
    rw [Nat.mul_add, Nat.mul_one] at h3
    have h4 : n * 1 ≤ k * n := by rw [Nat.mul_comm k n]; exact Nat.mul_le_mul_left n hk
    omega
theorem pieceLen_tdiv {k : Int} {n : Nat} (hk : 1 ≤ k) : ((n : Int) + k - 1).tdiv k = (pieceLen k.toNat n : Nat) := by
  rw [Int.tdiv_eq_ediv_of_nonneg (by omega), pieceLen, Int.natCast_ediv]
  congr 1 <;> omega
/-! ### Rows spliced -/
theorem bI_splice {d x : Rows'} (h : x.length ≤ d.length) : bI (spliceD d 0 x) = bI x ++ (bI d).drop x.length := by
  simp [spliceD, bI, List.map_drop]
theorem allB_splice {d x : Rows'} (hd : allB d) (hx : allB x) : allB (spliceD d 0 x) := fun r hr => by
  unfold spliceD at hr
  rcases List.mem_append.1 hr with hr | hr
  · rcases List.mem_append.1 hr with hr | hr
    · simp at hr
    · exact hx r hr
  · exact hd r (List.mem_of_mem_drop hr)
theorem encW_init {k total len lg cg : Int} {f dg data D : Rows'} (hf : fieldD f) (hs : sizesB k total = true) (h1 : len ≤ 8192) (h2 : len = data.length) (hB : allB data) (hM : fullM total k lg cg dg) (hG : bI dg = genL k.toNat total.toNat) (hD : D = List.replicate total.toNat [.int .i64 0, .slice none 0 0]) :
    encW k total len (pieceLen k.toNat data.length : Nat) (k * (pieceLen k.toNat data.length : Nat)) (k * (pieceLen k.toNat data.length : Nat)) lg cg 0 f dg (spliceD (List.replicate (k * (pieceLen k.toNat data.length : Nat)).toNat [.int .u8 0]) 0 data) D data := by
  obtain ⟨k1, k2, k3⟩ := sizesB_iff.1 hs
  have hge := pieceLen_ge (k := k.toNat) (n := data.length) (by omega)
  have hle := pieceLen_le (k := k.toNat) (n := data.length) (by omega)
  have hc : (k * (pieceLen k.toNat data.length : Nat)).toNat = k.toNat * pieceLen k.toNat data.length := by rw [Int.toNat_mul (by omega) (by omega)]; simp
  have hc0 : 0 ≤ k * (pieceLen k.toNat data.length : Nat) := Int.mul_nonneg (by omega) (by omega)
  refine ⟨hf, hs, h1, h2, hB, rfl, by omega, rfl, ?_, allB_splice allB_rep hB, ?_, hM, hG, by rw [hD, List.length_replicate], fun row hr => by rw [hD] at hr; rw [List.eq_of_mem_replicate hr]; rfl, by omega, by omega⟩
  · rw [spliceD_len (by rw [List.length_replicate]; omega), List.length_replicate]; omega
  · rw [bI_splice (by rw [List.length_replicate]; omega), bI_rep, hc, fullL, bI_len, List.drop_replicate]; simp
theorem encW_next {k total len l lf cf lg cg i : Int} {f dg df D data : Rows'} {v w : Value} (h : encW k total len l lf cf lg cg i f dg df D data) (hi : i < total) : encW k total len l lf cf lg cg (i + 1) f dg df (putD D i 0 [v, w]) data := by
  obtain ⟨a1, a2, a3, a4, a5, a6, a7, a8, a9, a10, a11, a12, a13, a14, a17, a15, a16⟩ := h
  refine ⟨a1, a2, a3, a4, a5, a6, a7, a8, a9, a10, a11, a12, a13, by rw [putD_len]; exact a14, fun row hr => ?_, by omega, by omega⟩
  unfold putD at hr
  rcases List.mem_or_eq_of_mem_set hr with hr | rfl
  · exact a17 row hr
  · have hl : i.toNat < D.length := by omega
    have := a17 _ (List.getElem_mem hl)
    rw [List.getElem?_eq_getElem hl, Option.getD_some, splice_length (by rw [this]; simp), this]
theorem encW_f {k total len l lf cf lg cg i : Int} {f f' dg df D data : Rows'} (h : encW k total len l lf cf lg cg i f dg df D data) (hf : fieldD f') : encW k total len l lf cf lg cg i f' dg df D data := ⟨hf, h.2⟩
theorem encAt_mono {h h' : Hp} {D : Rows'} {n : Nat} {f : Nat → List Int} (he : encAt h D n f) (hl : Hp.le h h') : encAt h' D n f := fun j hj => by
  obtain ⟨v, d, e1, e2, e3⟩ := he j hj
  exact ⟨v, d, e1, Rd_mono e2 hl, e3⟩
theorem encAt_next {h h' : Hp} {D : Rows'} {i : Int} {f : Nat → List Int} {v : Value} {d : Rows'} (he : encAt h D i.toNat f) (hl : Hp.le h h') (h0 : 0 ≤ i) (hi : i.toNat < D.length) (hc : (D[i.toNat]?.getD []).length = 2) (hr : Rd h' kB v d) (hd : bI d = f i.toNat) (hB : allB d) :
    encAt h' (putD D i 0 [.int .i64 i, v]) (i.toNat + 1) f := fun j hj => by
  by_cases hji : j = i.toNat
  · subst hji
    refine ⟨v, d, ?_, hr, hd, hB⟩
    have hs : splice (D[i.toNat]?.getD []) 0 [.int .i64 i, v] = [.int .i64 i, v] := by
      simp only [splice, List.take_zero, List.nil_append]
      rw [List.drop_eq_nil_of_le (by rw [hc]; exact Nat.le_refl _), List.append_nil]
    rw [putD, List.getElem?_set_self hi, hs, Int.toNat_of_nonneg h0]
  · obtain ⟨v', d', e1, e2, e3⟩ := he j (by omega)
    exact ⟨v', d', by rw [putD, List.getElem?_set_ne (by omega)]; exact e1, Rd_mono e2 hl, e3⟩
set_option maxRecDepth 20000 in
set_option pp.deepTerms true in
set_option pp.maxSteps 1000000 in
theorem encode31_ok : encode31C.ok Tryd.prog := encode31_of (by simp [sizes74_ok, piece26_ok, genG_ok, row75_ok, addTo_ok]) fun ρ hg hp => by
  obtain ⟨hf, hl, hB, hrk⟩ := hp
  have hne := (fieldD_ne hf).1
  simp (config := { maxSteps := 4000000 }) [o_encode31, encode31C, encode31I, encode31J, sizes74C, piece26C, genGC, gen35C, row75C, addToC]
  refine ⟨fun h => (hne h).elim, fun _ v _ hv => ⟨fun hb => ⟨hf, by rw [← hv]; exact hb⟩, fun hb => ?_⟩⟩
  have hsz : sizesB (ρ 2).i (ρ 3).i = true := by rw [← hv]; exact hb
  obtain ⟨k1, k2, k3⟩ := sizesB_iff.1 hsz
  refine ⟨by omega, fun h => ⟨hf, hsz, h⟩, fun hle l _ e _ _ hpl => ?_⟩
  have hnb : ¬ pieceBad (ρ 2).i (ρ 5).i := by unfold pieceBad; omega
  obtain ⟨hpl1, _⟩ := hpl hnb
  rw [hl, pieceLen_tdiv k1] at hpl1
  have hge := pieceLen_ge (k := (ρ 2).i.toNat) (n := (ρ 7).d.length) (by omega)
  have hlt := pieceLen_lt (k := (ρ 2).i.toNat) (n := (ρ 7).d.length) (by omega)
  have hkl : (ρ 2).i * l.i = (((ρ 2).i.toNat * pieceLen (ρ 2).i.toNat (ρ 7).d.length : Nat) : Int) := by rw [hpl1, Int.natCast_mul, Int.toNat_of_nonneg (by omega)]
  rw [mul64 (by omega) (by omega)]
  have hmax : max ((ρ 2).i * l.i) 0 = (ρ 2).i * l.i := by omega
  refine ⟨by omega, by omega, fun u3 _ => ⟨by omega, by omega, fun u4 _ => ⟨⟨hf, hsz, hrk hsz⟩, fun u5 _ lg _ cg _ f1 _ dg _ ab _ hf1 _ hM _ hG u11 _ => ⟨by omega, by omega, fun u12 _ => ⟨⟨?_, fun j hj => by omega⟩, ?_⟩⟩⟩⟩⟩
  · have htake : (((ρ 7).d.take (ρ 5).i.toNat).take (if (ρ 5).i < (ρ 2).i * l.i then (ρ 5).i else (ρ 2).i * l.i).toNat) = (ρ 7).d := by
      rw [List.take_of_length_le (l := (ρ 7).d) (by omega), List.take_of_length_le (by split <;> omega)]
    rw [htake, hpl1]
    exact encW_init hf1 hsz hle hl hB hM hG rfl
  intro l2 _ u14 _ lf _ cf _ u17 _ u18 _ u19 _ i _ f2 _ u22 _ lg2 _ cg2 _ dg2 _ df2 _ D2 _ ab2 _ hW hE
  refine ⟨fun hi => ?_, fun hi u29 _ hst => ?_⟩
  · have hW' := hW
    obtain ⟨a1, a2, a3, a4, a5, a6, a7, a8, a9, a10, a11, a12, a13, a14, a17, a15, a16⟩ := hW'
    refine ⟨by omega, by omega, fun u29 _ => ⟨⟨a15, hi, a12.1⟩, fun o _ n _ c _ ho hn hc => ⟨by omega, ⟨hW, hE, hi, ho, hn, by omega, allB_rep, ?_⟩, ?_⟩⟩⟩
    · rw [bI_rep]; rfl
    intro l3 _ u34 _ lf3 _ cf3 _ u37 _ u38 _ u39 _ i3 _ f3 _ u42 _ lg3 _ cg3 _ dg3 _ df3 _ D3 _ ab3 _ rp _ cp _ pd _ o3 _ n3 _ c3 _ j _ hW3 hE3 hii hi3 ho3 hn3 j0 j1 hpl hpB hp3
    have hW3' := hW3
    obtain ⟨b1, b2, b3, b4, b5, b6, b7, b8, b9, b10, b11, b12, b13, b14, b17, b15, b16⟩ := hW3'
    obtain ⟨⟨m1, m2, m3, m4, m5, m6, m7, m8⟩, m9⟩ := b12
    have hl0 : 0 ≤ l3.i := by omega
    refine ⟨fun hj => ?_, fun hj => ?_⟩
    · have hjk : j.i < (ρ 2).i := by omega
      have hbo := mul_bound (x := i3.i) (y := (ρ 2).i) b15 (show i3.i ≤ 255 by omega) (by omega) (show (ρ 2).i ≤ 255 by omega)
      have hbj := mul_bound (x := j.i) (y := l3.i) j0 (show j.i ≤ 255 by omega) hl0 b7
      have hltG : i3.i * (ρ 2).i + j.i < (ρ 3).i * (ρ 2).i := by
        have := Int.mul_le_mul_of_nonneg_right (show i3.i + 1 ≤ (ρ 3).i by omega) (show 0 ≤ (ρ 2).i by omega)
        rw [Int.add_mul, Int.one_mul] at this; omega
      have he : (j.i + 1) * l3.i = j.i * l3.i + l3.i := by rw [Int.add_mul, Int.one_mul]
      have hltF : j.i * l3.i + l3.i ≤ (ρ 2).i * l3.i := by
        have := Int.mul_le_mul_of_nonneg_right (show j.i + 1 ≤ (ρ 2).i by omega) hl0
        omega
      have hcell := allB_get m8 (i := o3.i + j.i) (by omega) (by omega)
      rw [add64 (by omega) (by omega), mul64 (by omega) (by omega), mul64 (by omega) (by omega), he]
      refine ⟨j0, by omega, by omega, by omega, fun hcap => ⟨by omega, by omega, hbj.1, by omega, by omega, ⟨b1, ⟨by omega, hl0, by omega, by unfold Go.Eng.big; omega⟩, ⟨by split <;> omega, by omega, by split <;> omega, by unfold Go.Eng.big; omega⟩, by omega, hpB, b10, hcell⟩, fun f4 _ d4 _ hf4 hl4 hB4 he4 => ?_⟩⟩
      refine ⟨⟨encW_f hW3 hf4, hE3, hii, hi3, ho3, hn3, by omega, by omega, by omega, hB4, ?_⟩, by omega⟩
      have hsg : seg (bI df3.d) (if cf3.i = j.i * l3.i then 0 else j.i * l3.i).toNat (j.i * l3.i + l3.i - j.i * l3.i).toNat = seg (bI df3.d) (j.i.toNat * l3.i.toNat) l3.i.toNat := by
        rw [show j.i * l3.i + l3.i - j.i * l3.i = l3.i by omega]
        split
        · have : l3.i.toNat = 0 := by omega
          rw [this]; simp [seg]
        · rw [Int.toNat_mul j0 hl0]
      have hgd : (bI dg3.d).getD (i3.i.toNat * (ρ 2).i.toNat + j.i.toNat) 0 = cellI dg3.d (o3.i + j.i) 0 := by
        have := bI_get (d := dg3.d) (i := o3.i + j.i) (by omega) (by omega)
        rw [show (o3.i + j.i).toNat = i3.i.toNat * (ρ 2).i.toNat + j.i.toNat by rw [ho3, Int.toNat_add hbo.1 j0, Int.toNat_mul b15 (by omega)]] at this
        rw [List.getD_eq_getElem?_getD, this]; rfl
      rw [he4, hp3, hsg, show (j.i + 1).toNat = j.i.toNat + 1 by omega, pieceN, hgd]
    · have hjk : j.i = (ρ 2).i := by omega
      refine ⟨b15, hi3, by omega, fun u56 _ hst => ?_⟩
      rw [add64 (by omega) (by omega)]
      refine ⟨⟨encW_next hW3 hi3, ?_⟩, by omega⟩
      obtain ⟨ha, la, da⟩ := star_mem hst (List.mem_cons_self ..)
      obtain ⟨hb, lb, db⟩ := star_mem_abs hst (n := 57) (t := 2) (by simp)
      have hr := arr_Rd (n := l3.i.toNat) (k := cp.i.toNat) da la (by simp; omega) (by simp)
      have hr : Rd u56.h kB (.slice (addrOf rp.r 0) l3.i.toNat cp.i.toNat) pd.d := by simpa [kB] using hr
      have hdl : i3.i.toNat < D3.d.length := by omega
      rw [show (i3.i + 1).toNat = i3.i.toNat + 1 by omega]
      refine encAt_next hE3 (Hp.le_trans (by simpa using db) lb) b15 hdl (by rw [List.getElem?_eq_getElem hdl]; exact b17 _ (List.getElem_mem hdl)) hr ?_ hpB
      rw [hp3, encP, hjk, b13, b11, bI_len]
      rw [show l3.i.toNat = pieceLen (ρ 2).i.toNat (ρ 7).d.length by omega]
  · obtain ⟨a1, a2, a3, a4, a5, a6, a7, a8, a9, a10, a11, a12, a13, a14, a17, a15, a16⟩ := hW
    obtain ⟨hb, lb, db⟩ := star_mem_abs hst (n := 37) (t := 2) (by simp)
    refine ⟨a1, hsz, hle, a14, ?_⟩
    rw [show i.i.toNat = (ρ 3).i.toNat by omega] at hE
    exact encAt_mono hE (Hp.le_trans (by simpa using db) lb)
end Go.Proofs

set_option linter.unusedSimpArgs false
set_option linter.unusedVariables false
namespace Go.Proofs
open Go Go.Eng

end Go.Proofs

set_option linter.unusedSimpArgs false
set_option linter.unusedVariables false
namespace Go.Proofs
open Go Go.Eng
theorem sizes3_ok : sizes3C.ok Tryd.prog := sizes3_of (by simp) fun ρ hg hp => by
  simp [o_sizes3, sizes3C]
  refine ⟨fun h1 => ⟨fun h2 => ⟨fun h3 => ?_, fun h3 => ?_⟩, fun h2 => ?_⟩, fun h1 => ?_⟩
  · simp [sizes3, h1, h2, h3, cmpOf]
  · simp [sizes3]; omega
  · simp [sizes3]; omega
  · simp [sizes3]; omega
set_option maxRecDepth 20000 in
theorem checkM_ok : checkMC.ok Tryd.prog := checkM_of (by simp [sizes3_ok]) fun ρ hg hp => by
  have hp : 0 ≤ (ρ 6).i := hp
  simp [o_checkM, checkMC, sizes3C, manOk, manV, manT, cellsT]
  refine fun u _ hu => ⟨fun h hs => by (rw [hu, hs] at h; cases h), fun h => ⟨fun a _ b => by omega, fun a => ⟨fun b _ _ c => by omega, fun b => ⟨hp, fun c _ _ _ => c, fun c => ⟨by rw [← hu, h], a, b, c⟩⟩⟩⟩⟩
theorem shr8 {x : Int} : arithOf .shr .i64 x 8 = x.fdiv 256 := rfl
set_option maxRecDepth 20000 in
theorem pieceDg_ok : pieceDgC.ok Tryd.prog := pieceDg_of (by simp [newHash_ok, write_ok, sum_ok]) fun ρ hg hp => by
  obtain ⟨o0, l0, lc, l1, hle, hB, hGr, hGd⟩ := hp
  simp (config := { maxSteps := 2000000 }) [o_pieceDg, pieceDgC, newHashC, writeC, sumC, gOk]
  have hseg : segB [[.int .u8 (IntKind.u8.wrap (arithOf .shr .i64 (ρ 0).i 8))], [.int .u8 (IntKind.u8.wrap (ρ 0).i)]] 0 2 = pieceIn (ρ 0).i := by
    rw [shr8, wrap8, wrap8]; rfl
  refine fun h _ hh => ⟨⟨⟨[], hh, by decide⟩, ?_, hGr, hGd⟩, fun g _ hg1 => ?_⟩
  · intro row hr
    simp at hr
    rcases hr with rfl | rfl
    · simp [rowI, vInt, wrap8]; omega
    · simp [rowI, vInt, wrap8]; omega
  · rw [hseg] at hg1
    have h1 := hg1 [] hh
    refine ⟨⟨⟨_, h1, by simp [pieceIn]⟩, o0, l0, lc, by omega, hle, hB, hGr, hGd⟩, fun k _ hk => ⟨⟨⟨_, hk _ h1, ?_⟩, hGr, hGd⟩, fun d _ hd => ?_⟩⟩
    · have : (segB (ρ 5).d (ρ 2).i (ρ 3).i).length ≤ (ρ 3).i.toNat := by simp [segB]; omega
      simp [pieceIn]; omega
    · exact (show rowL _ 32 = rowL d.d 32 from rfl).trans (hd _ (hk _ h1))
theorem wThen_ok {lim : Int} {b : Bool} {x m s : List Int} (h : (b, x) = wThen lim false m s) (hf : (m.length : Int) + s.length ≤ lim) : b = false ∧ x = m ++ s := by
  rw [wThen_fits (by simp [wFull]; omega)] at h
  simpa using h
theorem wrap16 {x : Int} : IntKind.u16.wrap x = x % 65536 := by simp [IntKind.wrap, IntKind.bits, IntKind.signed]
theorem row_dgs {d : Rows'} {i : Nat} (h : i < d.length) : rowL [dgCells (cellI d i)] 32 = rowB d[i] := by
  refine List.map_congr_left fun j hj => ?_
  rw [dgCells_get (List.mem_range.1 hj)]
  simp [cellI, cellV, rowI, h]
theorem dgs_take {d : Rows'} {i : Nat} (h : i < d.length) : ((dgs d).take (i + 1)).flatten = ((dgs d).take i).flatten ++ rowB d[i] := by
  rw [List.take_add_one, List.getElem?_eq_getElem (by simpa [dgs] using h)]
  simp [dgs]
set_option maxRecDepth 20000 in
set_option maxHeartbeats 800000 in
theorem encMan_ok : encManC.ok Tryd.prog := encMan_of (by simp [checkM_ok, newWriter_ok, u8_ok, u16_ok, rawM_ok, raw32_ok, bytes_ok]) fun ρ hg hp => by
  obtain ⟨l0, hl, ho, hd⟩ := hp
  simp (config := { maxSteps := 2000000 }) [o_encMan, encManC, encManI, checkMC, newWriterC, u8C, u16C, numFn, rawMC, raw32C, bytesC, wHeap, wCells, wPost]
  refine ⟨l0, fun e _ he => ⟨fun hne => ?_, fun hz lim _ hlim => ?_⟩⟩
  · by_cases h : manOk (ρ 0).i (ρ 1).i (ρ 2).i (ρ 3).i (ρ 6).i = true
    · rw [if_pos h] at he; exact absurd he hne
    · rw [if_neg h] at he; exact ⟨he.symm, by simpa using h⟩
  · have hok : manOk (ρ 0).i (ρ 1).i (ρ 2).i (ρ 3).i (ρ 6).i = true := by
      by_cases h : manOk (ρ 0).i (ρ 1).i (ρ 2).i (ρ 3).i (ρ 6).i = true
      · exact h
      · rw [if_neg h] at he; omega
    have hb := hok
    simp [manOk, sizes3] at hb
    obtain ⟨⟨b1, b2, b3, b4⟩, b5, b6, b7⟩ := hb
    have hl2 : lim.i = 39 + 32 * (ρ 2).i := by
      rw [hlim, mul64 (by omega) (by omega), add64 (by omega) (by omega)]; omega
    clear hlim
    simp only [wrap8, wrap16]
    have hman : List.drop 4 (rowL [([.int .i64 (ρ 0).i, .int .i64 (ρ 1).i, .int .i64 (ρ 2).i, .int .i64 (ρ 3).i] ++ (dgCells (cellX (ρ 4).d) ++ [.slice (addrOf (ρ 5).r 0) (ρ 6).i.toNat (ρ 7).i.toNat]) : List Value)] 36) = rowL (ρ 4).d 32 := rfl
    have hone : oneRow [([.int .i64 (ρ 0).i, .int .i64 (ρ 1).i, .int .i64 (ρ 2).i, .int .i64 (ρ 3).i] ++ (dgCells (cellX (ρ 4).d) ++ [.slice (addrOf (ρ 5).r 0) (ρ 6).i.toNat (ρ 7).i.toNat]) : List Value)] 37 := ⟨_, rfl, by simp [dgCells]⟩
    have hlen : ∀ {l n c : Int} {d : Rows'}, wOk l n c d → n = ((bI d).length : Int) := fun h => by rw [bI_len]; exact h.2.2.1
    refine ⟨⟨by omega, by omega, rfl, by omega, by intro r hr; cases hr⟩, fun f1 _ n1 _ c1 _ d1 _ w1 g1 => ?_⟩
    obtain ⟨y1, x1⟩ := wThen_ok g1 (by rw [hl2]; simp [bI, beL_len]; omega)
    have L1 : (bI d1.d).length = 2 := by rw [x1]; simp [bI, beL_len]
    have q1 := hlen w1
    refine ⟨⟨w1, by omega, by omega, by omega⟩, fun f2 _ n2 _ c2 _ d2 _ w2 g2 => ?_⟩
    rw [y1] at g2
    obtain ⟨y2, x2⟩ := wThen_ok g2 (by rw [hl2, L1, beL_len]; omega)
    have L2 : (bI d2.d).length = 3 := by rw [x2, List.length_append, L1, beL_len]
    have q2 := hlen w2
    refine ⟨⟨w2, by omega, by omega, by omega⟩, fun f3 _ n3 _ c3 _ d3 _ w3 g3 => ?_⟩
    rw [y2] at g3
    obtain ⟨y3, x3⟩ := wThen_ok g3 (by rw [hl2, L2, beL_len]; omega)
    have L3 : (bI d3.d).length = 4 := by rw [x3, List.length_append, L2, beL_len]
    have q3 := hlen w3
    refine ⟨⟨w3, by omega, by omega, by omega⟩, fun f4 _ n4 _ c4 _ d4 _ w4 g4 => ?_⟩
    rw [y3] at g4
    obtain ⟨y4, x4⟩ := wThen_ok g4 (by rw [hl2, L3, beL_len]; omega)
    have L4 : (bI d4.d).length = 5 := by rw [x4, List.length_append, L3, beL_len]
    have q4 := hlen w4
    refine ⟨⟨w4, by omega, by omega, by omega⟩, fun f5 _ n5 _ c5 _ d5 _ w5 g5 => ?_⟩
    rw [y4] at g5
    obtain ⟨y5, x5⟩ := wThen_ok g5 (by rw [hl2, L4, beL_len]; omega)
    have L5 : (bI d5.d).length = 7 := by rw [x5, List.length_append, L4, beL_len]
    have q5 := hlen w5
    refine ⟨⟨w5, by omega, hone, ?_⟩, fun f6 _ n6 _ c6 _ d6 _ w6 g6 => ?_⟩
    · have := hman
      exact this ▸ ho
    have g6' : (f6.b, bI d6.d) = wThen lim.i f5.b (bI d5.d) (rowL (ρ 4).d 32) := g6
    rw [y5] at g6'
    obtain ⟨y6, x6⟩ := wThen_ok g6' (by rw [hl2, L5, rowL_len]; omega)
    have hhead : bI d6.d = manHead (ρ 0).i (ρ 1).i (ρ 2).i (ρ 3).i (rowL (ρ 4).d 32) := by
      rw [x6, x5, x4, x3, x2, x1]
      simp [manHead, bI, List.append_assoc]
    refine ⟨l0, ⟨hok, l0, hl2, y6, w6, hhead⟩, fun lim2 _ f _ n _ c _ d _ t _ _ t0 t1 z1 z2 z3 z4 => ⟨fun hlt => ?_, fun hge => ?_⟩⟩
    · obtain ⟨T, hT⟩ : ∃ T : Nat, t.i = T := ⟨t.i.toNat, by omega⟩
      have m1 : arithOf .add .i64 t.i 1 = ((T + 1 : Nat) : Int) := by rw [add64 (by omega) (by omega)]; omega
      have hTl : T < (ρ 8).d.length := by omega
      have hrow := row_dgs hTl
      have hnl : n.i = 39 + 32 * t.i := by
        have h1 := hlen z3
        rw [z4, List.length_append] at h1
        have h2 : ∀ (k : Nat), k ≤ (ρ 8).d.length → ((dgs (ρ 8).d).take k).flatten.length = 32 * k := fun k => by
          induction k with
          | zero => intro _; simp
          | succ k ih => intro hk; rw [dgs_take (by omega), List.length_append, ih (by omega)]; simp [rowB]; omega
        rw [h2 _ (by omega)] at h1
        have h3 : (manHead (ρ 0).i (ρ 1).i (ρ 2).i (ρ 3).i (rowL (ρ 4).d 32)).length = 39 := by simp [manHead, beL_len, rowL_len]
        omega
      rw [hT] at z4 hnl ⊢
      rw [← hT, m1, hT]
      refine ⟨by omega, by omega, ⟨z3, by omega, ⟨_, rfl, rfl⟩, ?_⟩, fun f7 _ n7 _ c7 _ d7 _ w7 g7 => ?_⟩
      · have h1 : allM (rowB (ρ 8).d[T]) := (hd _ (List.getElem_mem hTl)).2
        rw [← hrow] at h1
        exact h1
      · have g7' : (f7.b, bI d7.d) = wThen lim2.i f.b (bI d.d) (rowL [dgCells (cellI (ρ 8).d T)] 32) := g7
        rw [z2, hrow] at g7'
        have hbl : (rowB (ρ 8).d[T]).length = 32 := by simp [rowB]
        obtain ⟨y7, x7⟩ := wThen_ok g7' (by rw [← hlen z3, hbl]; omega)
        refine ⟨⟨hok, by omega, by omega, z1, y7, w7, ?_⟩, by omega⟩
        rw [x7, z4]
        simp only [Int.toNat_natCast]
        rw [dgs_take hTl, List.append_assoc]
    · have ht : t.i.toNat = (ρ 8).d.length := by omega
      rw [ht] at z4
      rw [List.take_of_length_le (by simp [dgs])] at z4
      refine ⟨⟨z3, ?_⟩, z2, fun e _ _ he => ⟨hok, by rw [he]; exact z3.2.2.1, by rw [he]; exact z3.2.2.2.2, by rw [he]; exact z4⟩⟩
      have := z3.2.2.2.1
      omega
end Go.Proofs

set_option linter.unusedSimpArgs false
set_option linter.unusedVariables false
namespace Go.Proofs
open Go Go.Eng
theorem sha_allM (m : List Int) : allM (sha m) := fun x hx => by
  obtain ⟨j, _, rfl⟩ := List.mem_map.1 hx
  omega
theorem sha_hex : hexL (sha [97, 98, 99]) = [98, 97, 55, 56, 49, 54, 98, 102, 56, 102, 48, 49, 99, 102, 101, 97, 52, 49, 52, 49, 52, 48, 100, 101, 53, 100, 97, 101, 50, 50, 50, 51, 98, 48, 48, 51, 54, 49, 97, 51, 57, 54, 49, 55, 55, 97, 57, 99, 98, 52, 49, 48, 102, 102, 54, 49, 102, 50, 48, 48, 49, 53, 97, 100] := by
  rw [sha_abc]; decide +kernel
theorem crc_known : ofW (crcF [49, 50, 51, 52, 53, 54, 55, 56, 57]) = 3808858755 := by decide +kernel
set_option maxRecDepth 100000 in
theorem top23 : (topE 2 3).2.2 = 2 := by kernel_rfl
theorem head23 : ∀ o : List Int, manHead 2 3 3 2 o = [77, 1, 2, 3, 3, 0, 2] ++ o := fun o => by
  have h1 : beL 19713 2 = [77, 1] := by decide
  have h2 : beL (2 % 256) 1 = [2] := by decide
  have h3 : beL (3 % 256) 1 = [3] := by decide
  have h4 : beL (2 % 65536) 2 = [0, 2] := by decide
  rw [manHead, h1, h2, h3, h4]; rfl
theorem madeAt_len {f : Nat → List Int} {n : Nat} : (madeAt f n).length = n := by simp [madeAt]
theorem bytesOf_bI {d : Rows'} : bytesOf d = (bI d).map fun x => UInt8.ofNat x.toNat := by simp [bytesOf, bI, rowI]
theorem pieceN_len {g full : List Int} {k l i : Nat} : ∀ j, (pieceN g full k l i j).length = l
  | 0 => by simp [pieceN]
  | j + 1 => by rw [pieceN, addToL_len, pieceN_len j]
theorem encP_len {k total : Nat} {data : List Int} {i : Nat} : (encP k total data i).length = pieceLen k data.length := pieceN_len k
theorem dgs_snoc {d : Rows'} {r : List Value} : dgs (d ++ [r]) = dgs d ++ [rowB r] := by simp [dgs]
theorem madeAt_snoc {f : Nat → List Int} {n : Nat} : madeAt f (n + 1) = madeAt f n ++ [sha (pieceIn n ++ f n)] := by simp [madeAt, List.range_succ]
theorem rowB_dg {d : Rows'} : rowB (dgCells (cellX d)) = rowL d 32 := rfl
set_option maxRecDepth 20000 in
set_option maxHeartbeats 1600000 in
theorem make_ok : makeC.ok Tryd.prog := make_of (by simp [sizes3_ok, encode31_ok, sha256_ok, pieceDg_ok]) fun ρ hg hp => by
  obtain ⟨hf, hl, hlc, hB, ⟨hGr, hGd⟩, htop⟩ := hp
  simp (config := { maxSteps := 2000000 }) [o_make, makeC, makeI, sizes3C, encode31C, sha256C, pieceDgC, gOk, bytesIn]
  have hnn := fieldD_ne hf
  refine fun u _ => ⟨fun h => absurd h hnn.1, fun _ b _ hb => ⟨fun hz => ⟨hf, by rw [← hb]; exact hz⟩, fun hz => ?_⟩⟩
  rw [hz] at hb
  have hs3 := hb.symm
  have hs3' := hs3
  simp [sizes3] at hs3'
  obtain ⟨b1, b2, b3, b4⟩ := hs3'
  have hsB : sizesB (ρ 2).i (ρ 4).i = true := by simp [sizesB]; omega
  have hsz : sizesB (ρ 2).i (ρ 4).i = false → False := fun h => by rw [hsB] at h; cases h
  refine ⟨⟨hf, hl, hB, htop⟩, fun e _ f _ hf2 he => ⟨fun hne => ⟨hf2, ?_⟩, fun hz2 => ?_⟩, fun _ _ _ _ f _ P _ ab _ hf2 _ hle hPl hE => ⟨by omega, ⟨⟨by omega, hlc, by omega, by omega, hB⟩, hGr, hGd⟩, fun o _ ho _ _ => ⟨by omega, ⟨hf2, hs3, hle, by omega, hPl, hE, ?_, ?_, ?_⟩, fun _ _ _ _ _ _ o2 _ _ _ t _ _ _ Ds _ P2 _ _ _ f2 _ ab2 _ hf3 _ _ t0 t1 hPl2 hE2 ho2 hDl hDo hDm => ⟨fun hlt => ?_, fun hge => ?_⟩⟩⟩⟩
  · rcases he with ⟨h, _⟩ | ⟨_, h1, h2⟩
    · exact (hsz h).elim
    · exact .inr ⟨hs3, h1, h2⟩
  · rcases he with ⟨h, _⟩ | ⟨_, h1, h2⟩
    · exact (hsz h).elim
    · omega
  · rw [segB_all hl] at ho
    exact ho
  · intro r hr; cases hr
  · rfl
  · obtain ⟨T, hT⟩ : ∃ T : Nat, t.i = T := ⟨t.i.toNat, by omega⟩
    have m1 : arithOf .add .i64 t.i 1 = ((T + 1 : Nat) : Int) := by rw [add64 (by omega) (by omega)]; omega
    obtain ⟨v, d, e1, e2, e3, e4⟩ := hE2 T (by omega)
    have hcv : cellV P2.d t.i 1 = v := by rw [hT]; simp [cellV, e1]
    have hci : cellI P2.d t.i 0 = (T : Int) := by rw [hT]; simp [cellI, cellV, e1, vInt]
    rw [m1, hcv, hci]
    have hdl : d.length ≤ (ρ 8).d.length := by
      have h1 := congrArg List.length e3
      rw [bI_len, encP_len, bI_len] at h1
      have := pieceLen_le (k := (ρ 2).i.toNat) (n := (ρ 8).d.length) (by omega)
      omega
    refine ⟨by omega, by omega, fun _ _ => ⟨d, e2, fun r0 _ c1 _ hv hcl => ⟨⟨hcl, by omega, e4, hGr, hGd⟩, fun g _ hg2 _ _ => ⟨by omega, by omega, fun _ _ _ _ ab3 _ hst => ⟨by omega, ⟨hf3, hs3, hle, by omega, by omega, hPl2, ?_, ho2, by omega, ?_, ?_⟩, by omega⟩⟩⟩⟩⟩
    · obtain ⟨hb2, lb, db⟩ := star_mem_abs hst (n := 32) (t := 2) (by simp)
      exact encAt_mono hE2 (Hp.le_trans (by simpa using db) lb)
    · intro r hr
      rcases List.mem_append.1 hr with hr | hr
      · exact hDo r hr
      · obtain rfl := List.mem_singleton.1 hr
        refine ⟨rfl, ?_⟩
        have : allM (rowL g.d 32) := by rw [hg2]; exact sha_allM _
        exact this
    · have hh : dgs (Ds.d ++ [dgCells (cellX g.d)]) = madeAt (encP (ρ 2).i.toNat (ρ 4).i.toNat (bI (ρ 8).d)) (T + 1) := by
        rw [dgs_snoc, rowB_dg, hg2, segB_all rfl, e3, hDm, hT, Int.toNat_natCast, madeAt_snoc]
      exact hh
  · have ht : t.i = (ρ 4).i := by omega
    refine fun ab3 _ hst => ⟨by omega, hf3, hs3, hle, hPl2, ?_, ho2, hDo, by rw [hDm, ht]⟩
    obtain ⟨hb2, lb, db⟩ := star_mem_abs hst (n := 32) (t := 2) (by simp)
    exact encAt_mono hE2 (Hp.le_trans (by simpa using db) lb)
set_option maxRecDepth 20000 in
theorem known_ok : knownC.ok Tryd.prog := known_of (by simp [sha256_ok, hex_ok, crc_ok, newField_ok, make_ok, encMan_ok]) fun ρ hg hp => by
  obtain ⟨hGr, hGd⟩ := hp
  simp (config := { maxSteps := 2000000 }) [o_known, vStr_mk, knownC, newFieldC, sha256C, hexC, crcC, makeC, encManC, gOk, bytesIn]
  have b3 : allB [[Value.int .u8 97], [Value.int .u8 98], [Value.int .u8 99]] := by
    intro row hr; simp at hr; rcases hr with rfl | rfl | rfl <;> decide
  have b9 : allB [[Value.int .u8 49], [Value.int .u8 50], [Value.int .u8 51], [Value.int .u8 52], [Value.int .u8 53], [Value.int .u8 54], [Value.int .u8 55], [Value.int .u8 56], [Value.int .u8 57]] := by
    intro row hr; simp at hr; rcases hr with rfl | rfl | rfl | rfl | rfl | rfl | rfl | rfl | rfl <;> decide
  have b2 : allB [[Value.int .u8 97], [Value.int .u8 98]] := by
    intro row hr; simp at hr; rcases hr with rfl | rfl <;> decide
  refine ⟨⟨b3, hGr, hGd⟩, fun d _ hd => ⟨?_, fun s _ hs => ?_⟩⟩
  · have : allM (rowL d.d 32) := by rw [hd]; exact sha_allM _
    exact this
  · have hs' : vStr s.v = hexL (rowL d.d 32) := hs
    have hd' : rowL d.d 32 = sha [97, 98, 99] := hd
    rw [hd', sha_hex] at hs'
    refine ⟨hs', fun _ => ⟨b9, fun c _ hc => ?_⟩⟩
    have hc' : c.i = 3808858755 := hc.trans crc_known
    refine ⟨hc', fun _ F _ hF => ⟨⟨.inl hF, b2, ⟨hGr, hGd⟩, fun _ => top23⟩, fun _ _ _ _ _ h => absurd h (by decide), fun o _ f _ Ds _ P _ ab _ hf hsz hPl hE ho hdo hdg => ?_⟩⟩
    have hDl : Ds.d.length = 3 := by
      have := congrArg List.length hdg
      rw [madeAt_len] at this; simpa [dgs] using this
    have hoM : allM (rowL o.d 32) := by rw [ho]; exact sha_allM _
    refine ⟨⟨by omega, hoM, hdo⟩, by decide, fun n _ cp _ b _ _ hn hb hbI => ?_⟩
    have hbI' : bI b.d = manHead 2 3 3 2 (rowL o.d 32) ++ (dgs Ds.d).flatten := hbI
    have hfl : (dgs Ds.d).flatten.length = 96 := by
      rw [hdg]; simp [madeAt, List.range_succ, sha_len]
    have hbl : b.d.length = 135 := by
      have := congrArg List.length hbI'
      rw [bI_len, head23] at this
      simp [rowL_len, hfl] at this
      exact this
    refine ⟨by omega, fun _ hcp => ⟨by omega, by omega, by omega, ?_⟩, by omega⟩
    have h7 : bI (List.take 7 b.d) = [77, 1, 2, 3, 3, 0, 2] := by
      rw [bI, List.map_take, ← bI, hbI', head23]; rfl
    rw [bytesOf_bI, h7]; rfl
end Go.Proofs

set_option linter.unusedSimpArgs false
set_option linter.unusedVariables false
namespace Go.Proofs
open Go Go.Eng
set_option maxRecDepth 20000
end Go.Proofs

set_option linter.unusedSimpArgs false
set_option linter.unusedVariables false
namespace Go.Eng
open Go Go.Proofs
/-! ### What is read: the bytes, what is left, the error -/
def rdTake (m : List Int) (e n : Int) : Option (List Int) × List Int × Int := if e ≠ 0 then (none, m, e) else if n < 0 then (none, m, 2) else if (m.length : Int) < n then (none, m, 4) else (some (m.take n.toNat), m.drop n.toNat, 0)
def rdNum (m : List Int) (e : Int) (w : Nat) : Int × List Int × List Int × Int := (valL ((rdTake m e w).1.getD []), [], (rdTake m e w).2)
/-! ### Readers -/
def rdStr : Nat := 146
def rdA : SV := .one (.vptr 0 (.lit 0) 2 0)
def rdCells (r o l c e : Nat) : SH := .cells 0 rdStr [.vslice r (.var o) (.var l) (.var c) 1, .vint .i64 (.var e)]
/-- What a Reader has left: a stretch of bytes. -/
def rOk (o l c : Int) (d : Rows') : Prop := 0 ≤ o ∧ 0 ≤ l ∧ l ≤ c ∧ o + l ≤ d.length ∧ allB d ∧ (d.length : Int) ≤ 100000000000000
def rPre (ρ : Env) : Prop := rOk (ρ 2).i (ρ 3).i (ρ 4).i (ρ 6).d ∧ 0 ≤ (ρ 5).i ∧ (ρ 5).i < 1000
def rM (ρ : Env) : List Int := segB (ρ 6).d (ρ 2).i (ρ 3).i
/-- After a call: the state at variables n .. n + 3. -/
def rNow (ρ : Env) (n : Nat) (x : List Int × Int) : Prop := rOk (ρ n).i (ρ (n + 1)).i (ρ (n + 2)).i (ρ 6).d ∧ segB (ρ 6).d (ρ n).i (ρ (n + 1)).i = x.1 ∧ (ρ (n + 3)).i = x.2 ∧ 0 ≤ (ρ (n + 3)).i ∧ (ρ (n + 3)).i < 1000
def takeC : Ctr := { fn := 119, nv := 9, args := [rdA, iv .i64 (.var 8)], heap := [rdCells 1 2 3 4 5], ro := [bHp 1 6 7], pre := fun ρ => rPre ρ ∧ i64P (ρ 8).i, alts := [
  { k := 1, ret := .one .vnils, heap := [.cells 0 rdStr [.vslice 1 (.var 2) (.var 3) (.var 4) 1, .vint .i64 (.var 9)]], post := fun ρ => rdTake (rM ρ) (ρ 5).i (ρ 8).i = (none, rM ρ, (ρ 9).i) ∧ 0 < (ρ 9).i ∧ (ρ 9).i < 1000 },
  { k := 5, ret := .one (.vslice 1 (.var 9) (.var 8) (.var 10) 1), heap := [.cells 0 rdStr [.vslice 1 (.var 11) (.var 12) (.var 13) 1, .vint .i64 (.lit 0)]], post := fun ρ => rOk (ρ 9).i (ρ 8).i (ρ 10).i (ρ 6).d ∧ rOk (ρ 11).i (ρ 12).i (ρ 13).i (ρ 6).d ∧ rdTake (rM ρ) (ρ 5).i (ρ 8).i = (some (segB (ρ 6).d (ρ 9).i (ρ 8).i), segB (ρ 6).d (ρ 11).i (ρ 12).i, 0) }] }
def rNumC : Ctr := { fn := 118, nv := 9, args := [rdA, iv .i64 (.var 8)], heap := [rdCells 1 2 3 4 5], ro := [bHp 1 6 7], pre := fun ρ => rPre ρ ∧ 0 ≤ (ρ 8).i ∧ (ρ 8).i ≤ 8, alts := [
  { k := 5, ret := u64v 9, heap := [rdCells 1 10 11 12 13], post := fun ρ => (ρ 9).i = (rdNum (rM ρ) (ρ 5).i (ρ 8).i.toNat).1 ∧ rNow ρ 10 (rdNum (rM ρ) (ρ 5).i (ρ 8).i.toNat).2.2 }] }
/-- Nothing was taken; bytes were taken. -/
def rNumN : Inv := { key := 3, nv := 2, env := [(5, u64v 1000), (10, .one .vnils), (11, iv .i64 (.lit 0)), (12, iv .i64 (.var 1001))], heap := [.cells 0 rdStr [.vslice 1 (.var 2) (.var 3) (.var 4) 1, .vint .i64 (.var 9)]], inv := (fun ρ => (ρ 1000).i = 0 ∧ (ρ 1001).i = 0), mu := fun _ => 0 }
def rNumI : Inv := { key := 3, nv := 2, env := [(5, u64v 1000), (10, .one (.vslice 1 (.var 9) (.var 8) (.var 10) 1)), (11, iv .i64 (.var 8)), (12, iv .i64 (.var 1001))], heap := [.cells 0 rdStr [.vslice 1 (.var 11) (.var 12) (.var 13) 1, .vint .i64 (.lit 0)]], inv := (fun ρ => 0 ≤ (ρ 1001).i ∧ (ρ 1001).i ≤ (ρ 8).i ∧ (ρ 1000).i = valL (segB (ρ 6).d (ρ 9).i (ρ 1001).i)), mu := (fun ρ => ((ρ 8).i - (ρ 1001).i).toNat) }
def rNumFn (fn : Nat) (k : IntKind) (n : Nat) : Ctr := { fn := fn, nv := 8, args := [rdA], heap := [rdCells 1 2 3 4 5], ro := [bHp 1 6 7], pre := rPre, alts := [
  { k := 5, ret := .one (.vint k (.var 8)), heap := [rdCells 1 9 10 11 12], post := fun ρ => (ρ 8).i = (rdNum (rM ρ) (ρ 5).i n).1 ∧ rNow ρ 9 (rdNum (rM ρ) (ρ 5).i n).2.2 }] }
def rU8C : Ctr := rNumFn 90 .u8 1
def rU16C : Ctr := rNumFn 91 .u16 2
def rPost (ρ : Env) (x : Int × List Int × List Int × Int) : Prop := (ρ 10).i = (ρ 12).d.length ∧ allB (ρ 12).d ∧ bI (ρ 12).d = x.2.1 ∧ rNow ρ 13 x.2.2
def newReaderC : Ctr := { fn := 58, nv := 5, args := [.one (.vslice 0 (.lit 0) (.var 1) (.var 2) 1)], heap := [], ro := [bHp 0 3 4], pre := fun ρ => 0 ≤ (ρ 1).i ∧ (ρ 1).i = (ρ 3).d.length ∧ (ρ 1).i ≤ 140737488355328, alts := [
  { k := 4, ret := .one (.vptr 5 (.lit 0) 2 0), heap := [.cells 5 rdStr [.vslice 6 (.lit 0) (.var 1) (.var 7) 1, .vint .i64 (.lit 0)], bHp 6 8 7], post := fun ρ => (ρ 8).d = (ρ 3).d }] }
def errC : Ctr := { fn := 62, nv := 8, args := [rdA], heap := [], ro := [rdCells 1 2 3 4 5], pre := fun _ => True, alts := [{ k := 0, ret := iv .i64 (.var 5), heap := [], post := fun _ => True }] }
def endE (l e : Int) : Int := if e ≠ 0 then e else if 0 < l then 5 else 0
def endC : Ctr := { fn := 63, nv := 8, args := [rdA], heap := [], ro := [rdCells 1 2 3 4 5], pre := fun ρ => 0 ≤ (ρ 3).i, alts := [{ k := 1, ret := iv .i64 (.var 8), heap := [], post := fun ρ => (ρ 8).i = endE (ρ 3).i (ρ 5).i }] }
/-! ### The document's Readers -/
def inV (r o l c e : Nat) : List T := [.vslice r (.var o) (.var l) (.var c) 1, .vint .i64 (.var e)]
/-! ### The law -/
/-- A stretch of bytes in a block of a known bound. -/
def rIn (o l c cap : Int) (d : Rows') : Prop := 0 ≤ l ∧ ((d.length : Int) ≤ cap → rOk o l c d)
end Go.Eng

set_option linter.unusedSimpArgs false
set_option linter.unusedVariables false
set_option maxRecDepth 100000
namespace Go.Proofs
open Go Go.Eng

def o_take : Out := (.br (.cmp .neq (.var 5) (.lit (0)))
 (.ret 0 ⟨9, [(9, (.t (.var 5)))], [((.var 4), (.var 4)), ((.var 3), (.var 3)), ((.var 2), (.var 2))], [], []⟩)
 (.br (.cmp .lss (.var 8) (.lit (0)))
 (.ret 0 ⟨9, [(9, (.t (.lit (2))))], [((.var 4), (.var 4)), ((.var 3), (.var 3)), ((.var 2), (.var 2))], [], []⟩)
 (.need (.cmp .leq (.lit (0)) (.var 3)) (.br (.cmp .gtr (.var 8) (.var 3))
 (.ret 0 ⟨9, [(9, (.t (.lit (4))))], [((.var 4), (.var 4)), ((.var 3), (.var 3)), ((.var 2), (.var 2))], [], []⟩)
 (.need (.cmp .leq (.lit (0)) (.var 2)) (.need (.cmp .leq (.lit (0)) (.var 4)) (.need (.cmp .leq (.lit (0)) (.var 8)) (.need (.cmp .leq (.var 8) (.var 4)) (.need (.cmp .leq (.var 8) (.var 3)) (.need (.cmp .leq (.var 3) (.var 4)) (.need (.cmp .eql (.lit (0)) (.var 5)) (.ret 1 ⟨9, [(13, (.t (.minus (.var 4) (.var 8)))), (12, (.t (.minus (.var 3) (.var 8)))), (11, (.t (.ife (.var 4) (.var 8) (.var 2) (.plus (.var 2) (.var 8))))), (10, (.t (.var 4))), (9, (.t (.var 2)))], [((.lit (0)), (.var 5)), ((.var 8), (.var 8))], [], []⟩))))))))))))
theorem o_take_eq : treeOf ⟨Tryd.prog, takeC, [], []⟩ 100000 Tryd.f119 = o_take := by kernel_rfl
theorem take_of (hd : ∀ c ∈ ([] : List Ctr), c.ok Tryd.prog) (h : ∀ ρ : Env, ρ.good → (takeC).pre ρ → o_take.den ⟨Tryd.prog, takeC, [], []⟩ ρ) : (takeC).ok Tryd.prog :=
  ok_of_tree Tryd.func119 (fun a w => Tryd.call119 a w) hd 100000 (fun ρ hg hp => by rw [o_take_eq]; exact h ρ hg hp)
def o_rNum : Out := (.pre 0 ⟨0, [(7, (.t (.var 7))), (6, (.t (.var 6))), (5, (.t (.var 5))), (4, (.t (.var 4))), (3, (.t (.var 3))), (2, (.t (.var 2))), (1, (.r 1)), (8, (.t (.var 8))), (0, (.r 0))], [((.lit (0)), (.lit (0)))], [], []⟩ (.both (.fresh 9 (.post 0 0 ⟨0, [(7, (.t (.var 7))), (6, (.t (.var 6))), (5, (.t (.var 5))), (4, (.t (.var 4))), (3, (.t (.var 3))), (2, (.t (.var 2))), (1, (.r 1)), (8, (.t (.var 8))), (0, (.r 0))], [((.lit (0)), (.lit (0)))], [], []⟩ 9 (.inv 0 10 ⟨1000, [(1001, (.t (.lit (0)))), (1000, (.t (.lit (0))))], [((.var 9), (.var 9)), ((.var 4), (.var 4)), ((.var 3), (.var 3)), ((.var 2), (.var 2)), ((.lit (0)), (.lit (0)))], [], []⟩ (.fresh 10 (.fresh 11 (.hyp 0 10 (.br (.cmp .lss (.var 11) (.lit (0)))
 (.stuck 15 0 0)
 (.ret 0 ⟨9, [(13, (.t (.var 9))), (12, (.t (.var 4))), (11, (.t (.var 3))), (10, (.t (.var 2))), (9, (.t (.var 10)))], [], [], []⟩)))))))) (.both (.fresh 9 (.fresh 10 (.fresh 11 (.fresh 12 (.fresh 13 (.post 0 1 ⟨0, [(7, (.t (.var 7))), (6, (.t (.var 6))), (5, (.t (.var 5))), (4, (.t (.var 4))), (3, (.t (.var 3))), (2, (.t (.var 2))), (1, (.r 1)), (8, (.t (.var 8))), (0, (.r 0))], [((.lit (0)), (.lit (0)))], [], []⟩ 9 (.need (.cmp .leq (.lit (0)) (.var 8)) (.inv 1 14 ⟨1000, [(1001, (.t (.lit (0)))), (1000, (.t (.lit (0))))], [((.lit (0)), (.lit (0))), ((.var 13), (.var 13)), ((.var 12), (.var 12)), ((.var 11), (.var 11)), ((.var 8), (.var 8)), ((.var 10), (.var 10)), ((.var 8), (.var 8)), ((.var 9), (.var 9))], [], []⟩ (.fresh 14 (.fresh 15 (.hyp 1 14 (.br (.cmp .lss (.var 15) (.var 8))
 (.need (.cmp .leq (.lit (0)) (.var 15)) (.need (.cmp .leq (.lit (0)) (.var 9)) (.need (.cmp .leq (.lit (0)) (.plus (.var 9) (.var 15))) (.need (.cmp .lss (.plus (.var 9) (.var 15)) (.dlen (.var 6))) (.back 1 14 ⟨1000, [(1001, (.t (.arith .add .i64 (.var 15) (.lit (1))))), (1000, (.t (.arith .or .u64 (.arith .shl .u64 (.var 14) (.lit (8))) (.conv .u64 (.icell (.var 6) (.plus (.var 9) (.var 15)) 0)))))], [((.lit (0)), (.lit (0))), ((.var 13), (.var 13)), ((.var 12), (.var 12)), ((.var 11), (.var 11)), ((.var 8), (.var 8)), ((.var 10), (.var 10)), ((.var 8), (.var 8)), ((.var 9), (.var 9))], [], []⟩)))))
 (.ret 0 ⟨9, [(13, (.t (.lit (0)))), (12, (.t (.var 13))), (11, (.t (.var 12))), (10, (.t (.var 11))), (9, (.t (.var 14)))], [], [], []⟩))))))))))))) .top)))
theorem o_rNum_eq : treeOf ⟨Tryd.prog, rNumC, [takeC], [rNumN, rNumI]⟩ 100000 Tryd.f118 = o_rNum := by kernel_rfl
theorem rNum_of (hd : ∀ c ∈ ([takeC] : List Ctr), c.ok Tryd.prog) (h : ∀ ρ : Env, ρ.good → (rNumC).pre ρ → o_rNum.den ⟨Tryd.prog, rNumC, [takeC], [rNumN, rNumI]⟩ ρ) : (rNumC).ok Tryd.prog :=
  ok_of_tree Tryd.func118 (fun a w => Tryd.call118 a w) hd 100000 (fun ρ hg hp => by rw [o_rNum_eq]; exact h ρ hg hp)
def o_rU8 : Out := (.pre 0 ⟨0, [(7, (.t (.var 7))), (6, (.t (.var 6))), (5, (.t (.var 5))), (4, (.t (.var 4))), (3, (.t (.var 3))), (2, (.t (.var 2))), (1, (.r 1)), (8, (.t (.lit (1)))), (0, (.r 0))], [((.lit (0)), (.lit (0)))], [], []⟩ (.both (.fresh 8 (.fresh 9 (.fresh 10 (.fresh 11 (.fresh 12 (.post 0 0 ⟨0, [(7, (.t (.var 7))), (6, (.t (.var 6))), (5, (.t (.var 5))), (4, (.t (.var 4))), (3, (.t (.var 3))), (2, (.t (.var 2))), (1, (.r 1)), (8, (.t (.lit (1)))), (0, (.r 0))], [((.lit (0)), (.lit (0)))], [], []⟩ 8 (.ret 0 ⟨8, [(12, (.t (.var 12))), (11, (.t (.var 11))), (10, (.t (.var 10))), (9, (.t (.var 9))), (8, (.t (.conv .u8 (.var 8))))], [], [], []⟩))))))) .top))
theorem o_rU8_eq : treeOf ⟨Tryd.prog, rU8C, [rNumC], []⟩ 100000 Tryd.f90 = o_rU8 := by kernel_rfl
theorem rU8_of (hd : ∀ c ∈ ([rNumC] : List Ctr), c.ok Tryd.prog) (h : ∀ ρ : Env, ρ.good → (rU8C).pre ρ → o_rU8.den ⟨Tryd.prog, rU8C, [rNumC], []⟩ ρ) : (rU8C).ok Tryd.prog :=
  ok_of_tree Tryd.func90 (fun a w => Tryd.call90 a w) hd 100000 (fun ρ hg hp => by rw [o_rU8_eq]; exact h ρ hg hp)
def o_rU16 : Out := (.pre 0 ⟨0, [(7, (.t (.var 7))), (6, (.t (.var 6))), (5, (.t (.var 5))), (4, (.t (.var 4))), (3, (.t (.var 3))), (2, (.t (.var 2))), (1, (.r 1)), (8, (.t (.lit (2)))), (0, (.r 0))], [((.lit (0)), (.lit (0)))], [], []⟩ (.both (.fresh 8 (.fresh 9 (.fresh 10 (.fresh 11 (.fresh 12 (.post 0 0 ⟨0, [(7, (.t (.var 7))), (6, (.t (.var 6))), (5, (.t (.var 5))), (4, (.t (.var 4))), (3, (.t (.var 3))), (2, (.t (.var 2))), (1, (.r 1)), (8, (.t (.lit (2)))), (0, (.r 0))], [((.lit (0)), (.lit (0)))], [], []⟩ 8 (.ret 0 ⟨8, [(12, (.t (.var 12))), (11, (.t (.var 11))), (10, (.t (.var 10))), (9, (.t (.var 9))), (8, (.t (.conv .u16 (.var 8))))], [], [], []⟩))))))) .top))
theorem o_rU16_eq : treeOf ⟨Tryd.prog, rU16C, [rNumC], []⟩ 100000 Tryd.f91 = o_rU16 := by kernel_rfl
theorem rU16_of (hd : ∀ c ∈ ([rNumC] : List Ctr), c.ok Tryd.prog) (h : ∀ ρ : Env, ρ.good → (rU16C).pre ρ → o_rU16.den ⟨Tryd.prog, rU16C, [rNumC], []⟩ ρ) : (rU16C).ok Tryd.prog :=
  ok_of_tree Tryd.func91 (fun a w => Tryd.call91 a w) hd 100000 (fun ρ hg hp => by rw [o_rU16_eq]; exact h ρ hg hp)
def o_newReader : Out := (.pre 0 ⟨0, [(4, (.t (.var 4))), (3, (.t (.var 3))), (2, (.t (.var 2))), (1, (.t (.var 1))), (0, (.r 0))], [((.lit (0)), (.lit (0)))], [], []⟩ (.both (.fresh 5 (.fresh 6 (.fresh 7 (.post 0 0 ⟨0, [(4, (.t (.var 4))), (3, (.t (.var 3))), (2, (.t (.var 2))), (1, (.t (.var 1))), (0, (.r 0))], [((.lit (0)), (.lit (0)))], [], []⟩ 5 (.fresh 8 (.ret 0 ⟨5, [(8, (.t (.var 7))), (7, (.t (.var 6))), (6, (.r 5)), (5, (.r 8))], [((.var 7), (.var 6)), ((.lit (0)), (.lit (0))), ((.var 1), (.var 1)), ((.lit (0)), (.lit (0)))], [], []⟩)))))) .top))
theorem o_newReader_eq : treeOf ⟨Tryd.prog, newReaderC, [cloneBC], []⟩ 100000 Tryd.f58 = o_newReader := by kernel_rfl
theorem newReader_of (hd : ∀ c ∈ ([cloneBC] : List Ctr), c.ok Tryd.prog) (h : ∀ ρ : Env, ρ.good → (newReaderC).pre ρ → o_newReader.den ⟨Tryd.prog, newReaderC, [cloneBC], []⟩ ρ) : (newReaderC).ok Tryd.prog :=
  ok_of_tree Tryd.func58 (fun a w => Tryd.call58 a w) hd 100000 (fun ρ hg hp => by rw [o_newReader_eq]; exact h ρ hg hp)
def o_err : Out := (.ret 0 ⟨8, [], [((.var 5), (.var 5))], [], []⟩)
theorem o_err_eq : treeOf ⟨Tryd.prog, errC, [], []⟩ 100000 Tryd.f62 = o_err := by kernel_rfl
theorem err_of (hd : ∀ c ∈ ([] : List Ctr), c.ok Tryd.prog) (h : ∀ ρ : Env, ρ.good → (errC).pre ρ → o_err.den ⟨Tryd.prog, errC, [], []⟩ ρ) : (errC).ok Tryd.prog :=
  ok_of_tree Tryd.func62 (fun a w => Tryd.call62 a w) hd 100000 (fun ρ hg hp => by rw [o_err_eq]; exact h ρ hg hp)
def o_endD : Out := (.pre 0 ⟨0, [(5, (.t (.var 5))), (4, (.t (.var 4))), (3, (.t (.var 3))), (2, (.t (.var 2))), (1, (.r 1)), (0, (.r 0))], [((.lit (0)), (.lit (0)))], [], []⟩ (.both (.post 0 0 ⟨0, [(5, (.t (.var 5))), (4, (.t (.var 4))), (3, (.t (.var 3))), (2, (.t (.var 2))), (1, (.r 1)), (0, (.r 0))], [((.lit (0)), (.lit (0)))], [], []⟩ 8 (.br (.cmp .neq (.var 5) (.lit (0)))
 (.ret 0 ⟨8, [(8, (.t (.var 5)))], [], [], []⟩)
 (.need (.cmp .leq (.lit (0)) (.var 3)) (.br (.cmp .gtr (.var 3) (.lit (0)))
 (.ret 0 ⟨8, [(8, (.t (.lit (5))))], [], [], []⟩)
 (.ret 0 ⟨8, [(8, (.t (.lit (0))))], [], [], []⟩))))) .top))
theorem o_endD_eq : treeOf ⟨Tryd.prog, endC, [errC], []⟩ 100000 Tryd.f63 = o_endD := by kernel_rfl
theorem endD_of (hd : ∀ c ∈ ([errC] : List Ctr), c.ok Tryd.prog) (h : ∀ ρ : Env, ρ.good → (endC).pre ρ → o_endD.den ⟨Tryd.prog, endC, [errC], []⟩ ρ) : (endC).ok Tryd.prog :=
  ok_of_tree Tryd.func63 (fun a w => Tryd.call63 a w) hd 100000 (fun ρ hg hp => by rw [o_endD_eq]; exact h ρ hg hp)
end Go.Proofs

set_option linter.unusedSimpArgs false
set_option linter.unusedVariables false
namespace Go.Proofs
open Go Go.Eng
set_option maxRecDepth 20000
/-! ### Stretches of bytes -/
theorem sg_len {o l c : Int} {d : Rows'} (h : rOk o l c d) : (segB d o l).length = l.toNat := by
  obtain ⟨h0, h1, h2, h3, _, _⟩ := h
  rw [segB, List.length_take, List.length_drop, bI_len]; omega
theorem sg_take {o l n : Int} {d : Rows'} (h0 : 0 ≤ n) (h : n ≤ l) : (segB d o l).take n.toNat = segB d o n := by
  rw [segB, segB, List.take_take, Nat.min_eq_left (by omega)]
theorem sg_drop {o l c n : Int} {d : Rows'} (hr : rOk o l c d) (h0 : 0 ≤ n) (h : n ≤ l) : (segB d o l).drop n.toNat = segB d (if c = n then o else o + n) (l - n) := by
  obtain ⟨a0, a1, a2, a3, _, _⟩ := hr
  by_cases e : c = n
  · rw [if_pos e, List.drop_of_length_le (by rw [segB, List.length_take, List.length_drop, bI_len]; omega)]
    rw [segB, show (l - n).toNat = 0 by omega]; rfl
  · rw [if_neg e, segB, segB, List.drop_take, List.drop_drop]
    rw [show (l - n).toNat = l.toNat - n.toNat by omega, show (o + n).toNat = o.toNat + n.toNat by omega]
theorem rOk_take {o l c n : Int} {d : Rows'} (hr : rOk o l c d) (h0 : 0 ≤ n) (h : n ≤ l) : rOk o n c d := by
  obtain ⟨a0, a1, a2, a3, a4, a5⟩ := hr
  exact ⟨a0, h0, by omega, by omega, a4, a5⟩
theorem rOk_drop {o l c n : Int} {d : Rows'} (hr : rOk o l c d) (h0 : 0 ≤ n) (h : n ≤ l) : rOk (if c = n then o else o + n) (l - n) (c - n) d := by
  obtain ⟨a0, a1, a2, a3, a4, a5⟩ := hr
  refine ⟨?_, by omega, by omega, ?_, a4, a5⟩ <;> split <;> omega
theorem sg_snoc {o j : Int} {d : Rows'} (h0 : 0 ≤ o) (j0 : 0 ≤ j) (h : o + j < d.length) : segB d o (j + 1) = segB d o j ++ [cellI d (o + j) 0] := by
  have hg := bI_get (d := d) (i := o + j) (by omega) h
  rw [segB, segB, show (j + 1).toNat = j.toNat + 1 by omega, List.take_add_one, List.getElem?_drop, show o.toNat + j.toNat = (o + j).toNat by omega, hg]
  rfl
theorem sg_allM {o l : Int} {d : Rows'} (h : allB d) : allM (segB d o l) := fun x hx => allB_list h x (List.drop_subset _ _ (List.take_subset _ _ hx))
theorem val_step {o l c j : Int} {d : Rows'} (hr : rOk o l c d) (h8 : l ≤ 8) (j0 : 0 ≤ j) (hj : j < l) : arithOf .or .u64 (arithOf .shl .u64 (valL (segB d o j)) 8) (IntKind.u64.wrap (cellI d (o + j) 0)) = valL (segB d o (arithOf .add .i64 j 1)) := by
  have hr' := hr
  obtain ⟨a0, a1, a2, a3, a4, a5⟩ := hr'
  have hl := sg_len (rOk_take hr j0 (by omega))
  have hM := sg_allM (o := o) (l := j) a4
  obtain ⟨v0, v1⟩ := valL_range j.toNat hl hM
  have hv : valL (segB d o j) < 72057594037927936 := Int.lt_of_lt_of_le v1 (by
    have e : ((256 : Int) ^ j.toNat) = ((256 ^ j.toNat : Nat) : Int) := (Int.natCast_pow 256 _).symm
    rw [e]
    exact Int.ofNat_le.2 (Nat.pow_le_pow_right (n := 256) (j := 7) (by decide) (by omega)))
  have hs := sg_snoc (o := o) (j := j) (d := d) a0 j0 (by omega)
  have hx : cellI d (o + j) 0 ∈ segB d o (j + 1) := by rw [hs]; simp
  obtain ⟨x0, x1⟩ := sg_allM a4 _ hx
  rw [Go.Proofs.add64 (by omega) (by omega), hs, valL_snoc, wrap64u, Int.emod_eq_of_lt x0 (by omega), shl_or64 v0 hv x0 x1]
theorem val_zero {o : Int} {d : Rows'} : valL (segB d o 0) = 0 := by simp [segB, valL]
/-! ### What is read -/
theorem rd_err {m : List Int} {e n : Int} (h : e ≠ 0) : rdTake m e n = (none, m, e) := by rw [rdTake, if_pos h]
theorem rd_neg {m : List Int} {n : Int} (h : n < 0) : rdTake m 0 n = (none, m, 2) := by rw [rdTake, if_neg (by decide), if_pos h]
theorem rd_short {m : List Int} {n : Int} (h0 : 0 ≤ n) (h : (m.length : Int) < n) : rdTake m 0 n = (none, m, 4) := by rw [rdTake, if_neg (by decide), if_neg (by omega), if_pos h]
theorem rd_some {m : List Int} {n : Int} (h0 : 0 ≤ n) (h : n ≤ m.length) : rdTake m 0 n = (some (m.take n.toNat), m.drop n.toNat, 0) := by rw [rdTake, if_neg (by decide), if_neg (by omega), if_neg (by omega)]
theorem take_ok : takeC.ok Tryd.prog := take_of (by simp) fun ρ hg hp => by
  obtain ⟨⟨hr, e0, e1⟩, hn⟩ := hp
  simp [o_take, takeC, rdCells, rM, rPre, rNow, rPost]
  have hl := sg_len hr
  have hr' := hr
  obtain ⟨a0, a1, a2, a3, a4, a5⟩ := hr'
  refine ⟨fun h => ⟨rd_err h, by omega, e1⟩, fun h => ⟨fun hneg => by rw [h, rd_neg hneg], fun hpos => ⟨a1, fun hs => by rw [h, rd_short hpos (by omega)], fun hs => ⟨a0, by omega, hpos, by omega, hs, a2, h.symm, rOk_take hr hpos hs, rOk_drop hr hpos hs, ?_⟩⟩⟩⟩
  rw [h, rd_some hpos (by omega), sg_take hpos hs, sg_drop hr hpos hs]
  rfl
theorem rNum_ok : rNumC.ok Tryd.prog := rNum_of (by simp [take_ok]) fun ρ hg hp => by
  obtain ⟨⟨hr, e0, e1⟩, n0, n8⟩ := hp
  simp [o_rNum, rNumC, rNumN, rNumI, takeC, rdCells, rM, rPre, rNow, rPost]
  have hw : (((ρ 8).i.toNat : Nat) : Int) = (ρ 8).i := by omega
  refine ⟨⟨⟨hr, e0, e1⟩, by unfold i64P; omega⟩, fun u _ hu u0 u1 v _ j _ hv hj => ⟨by omega, fun _ => ?_⟩, fun a _ b _ c _ l _ f _ hra hrc hu => ⟨n0, ⟨n0, val_zero.symm⟩, fun v _ j _ j0 j1 hv => ⟨fun hlt => ?_, fun hge => ?_⟩⟩⟩
  · rw [rdNum, hw, hu]
    exact ⟨hv, hr, rfl, rfl, by omega, u1⟩
  · obtain ⟨a0, a1, a2, a3, a4, a5⟩ := hra
    rw [hv, val_step ⟨a0, a1, a2, a3, a4, a5⟩ n8 j0 hlt]
    have m1 : arithOf .add .i64 j.i 1 = j.i + 1 := by rw [Go.Proofs.add64 (by omega) (by omega)]
    rw [m1]
    exact ⟨j0, a0, by omega, by omega, ⟨by omega, by omega, rfl⟩, by omega⟩
  · have : j.i = (ρ 8).i := by omega
    rw [rdNum, hw, hu]
    exact ⟨by rw [hv, this]; rfl, hrc, rfl, rfl⟩
theorem rdNum_range {m : List Int} {e : Int} {w : Nat} (hM : allM m) : 0 ≤ (rdNum m e w).1 ∧ (rdNum m e w).1 < 256 ^ w := by
  have h0 : (0 : Int) < 256 ^ w := Int.pow_pos (by decide)
  unfold rdNum
  show 0 ≤ valL _ ∧ valL _ < _
  unfold rdTake
  split
  · exact ⟨Int.le_of_eq rfl, h0⟩
  · split
    · exact ⟨Int.le_of_eq rfl, h0⟩
    · split
      · exact ⟨Int.le_of_eq rfl, h0⟩
      · exact valL_range w (by simp; omega) (fun x hx => hM x (List.take_subset _ _ hx))
theorem rU8_ok : rU8C.ok Tryd.prog := rU8_of (by simp [rNum_ok]) fun ρ hg hp => by
  obtain ⟨hr, e0, e1⟩ := hp
  simp [o_rU8, rU8C, rNumFn, rNumC, rdCells, rM, rPre, rNow, rPost]
  refine ⟨⟨hr, e0, e1⟩, fun v _ _ _ _ _ _ _ f _ hv h1 h2 h3 h4 h5 => ⟨?_, h1, h2, h3, h4, h5⟩⟩
  obtain ⟨v0, v1⟩ := rdNum_range (m := segB (ρ 6).d (ρ 2).i (ρ 3).i) (e := (ρ 5).i) (w := 1) (sg_allM hr.2.2.2.2.1)
  have v1 : _ < (256 : Int) := v1
  rw [hv, wrap8]; omega
theorem rU16_ok : rU16C.ok Tryd.prog := rU16_of (by simp [rNum_ok]) fun ρ hg hp => by
  obtain ⟨hr, e0, e1⟩ := hp
  simp [o_rU16, rU16C, rNumFn, rNumC, rdCells, rM, rPre, rNow, rPost]
  refine ⟨⟨hr, e0, e1⟩, fun v _ _ _ _ _ _ _ f _ hv h1 h2 h3 h4 h5 => ⟨?_, h1, h2, h3, h4, h5⟩⟩
  obtain ⟨v0, v1⟩ := rdNum_range (m := segB (ρ 6).d (ρ 2).i (ρ 3).i) (e := (ρ 5).i) (w := 2) (sg_allM hr.2.2.2.2.1)
  have v1 : _ < (65536 : Int) := v1
  rw [hv, wrap16u]; omega
theorem rdNum_short {m : List Int} {w : Nat} (h : m.length < w) : rdNum m 0 w = (0, [], m, 4) := by rw [rdNum, rd_short (by omega) (by omega)]; rfl
theorem rdNum_some {m : List Int} {w : Nat} (h : w ≤ m.length) : rdNum m 0 w = (valL (m.take w), [], m.drop w, 0) := by rw [rdNum, rd_some (by omega) (by omega), Int.toNat_natCast]; rfl
theorem newReader_ok : newReaderC.ok Tryd.prog := newReader_of (by simp [cloneB_ok]) fun ρ hg hp => by
  simp [o_newReader, newReaderC, cloneBC]
  exact hp
theorem err_ok : errC.ok Tryd.prog := err_of (by simp) fun ρ hg hp => by
  simp [o_err, errC]
theorem endD_ok : endC.ok Tryd.prog := endD_of (by simp [err_ok]) fun ρ hg hp => by
  have hp : 0 ≤ (ρ 3).i := hp
  simp [o_endD, endC, errC, rdCells]
  refine ⟨fun h => by rw [endE, if_pos h], fun h => ⟨hp, fun h2 => by rw [endE, if_neg (by omega), if_pos h2], fun h2 => by rw [endE, if_neg (by omega), if_neg (by omega)]⟩⟩
end Go.Proofs

set_option linter.unusedSimpArgs false
set_option linter.unusedVariables false
namespace Go.Proofs
open Go Go.Eng
set_option maxRecDepth 20000
/-! ### The law -/
theorem seg_bI {o l : Int} {d : Rows'} : bI (List.take l.toNat (List.drop o.toNat d)) = segB d o l := by simp [segB, bI, List.map_take, List.map_drop]
end Go.Proofs

set_option linter.unusedSimpArgs false
set_option linter.unusedVariables false
namespace Go.Eng
open Go Go.Proofs
end Go.Eng

set_option linter.unusedSimpArgs false
set_option linter.unusedVariables false
set_option maxRecDepth 100000
namespace Go.Proofs
open Go Go.Eng

end Go.Proofs

set_option linter.unusedSimpArgs false
set_option linter.unusedVariables false
namespace Go.Proofs
open Go Go.Eng
set_option maxRecDepth 20000
/-! ### One call -/
/-! ### All calls -/
/-! ### Masks -/
end Go.Proofs

set_option linter.unusedSimpArgs false
set_option linter.unusedVariables false
namespace Go.Eng
open Go Go.Proofs
/-! ### Short names for cells in trees -/
@[simp] def o8 : T := .vint .u8 (.lit 0)
@[simp] def x8 (k v : Nat) : T := .vint .u8 (.c2 (.xint k) (.var v) (.lit 0))
@[simp] def i8 (v e k : Nat) : T := .vint .u8 (.icell (.var v) (.var e) k)
@[simp] def r8 (v : Nat) : T := (.rcons (x8 0 v) (.rcons (x8 1 v) (.rcons (x8 2 v) (.rcons (x8 3 v) (.rcons (x8 4 v) (.rcons (x8 5 v) (.rcons (x8 6 v) (.rcons (x8 7 v) (.rcons (x8 8 v) (.rcons (x8 9 v) (.rcons (x8 10 v) (.rcons (x8 11 v) (.rcons (x8 12 v) (.rcons (x8 13 v) (.rcons (x8 14 v) (.rcons (x8 15 v) (.rcons (x8 16 v) (.rcons (x8 17 v) (.rcons (x8 18 v) (.rcons (x8 19 v) (.rcons (x8 20 v) (.rcons (x8 21 v) (.rcons (x8 22 v) (.rcons (x8 23 v) (.rcons (x8 24 v) (.rcons (x8 25 v) (.rcons (x8 26 v) (.rcons (x8 27 v) (.rcons (x8 28 v) (.rcons (x8 29 v) (.rcons (x8 30 v) (.rcons (x8 31 v) .rnil))))))))))))))))))))))))))))))))
@[simp] def q8 (k v : Nat) : T := .vint .u8 (.c2 (.xint k) (r8 v) (.lit 0))
@[simp] def s8 (v : Nat) : T := (.rcons (q8 0 v) (.rcons (q8 1 v) (.rcons (q8 2 v) (.rcons (q8 3 v) (.rcons (q8 4 v) (.rcons (q8 5 v) (.rcons (q8 6 v) (.rcons (q8 7 v) (.rcons (q8 8 v) (.rcons (q8 9 v) (.rcons (q8 10 v) (.rcons (q8 11 v) (.rcons (q8 12 v) (.rcons (q8 13 v) (.rcons (q8 14 v) (.rcons (q8 15 v) (.rcons (q8 16 v) (.rcons (q8 17 v) (.rcons (q8 18 v) (.rcons (q8 19 v) (.rcons (q8 20 v) (.rcons (q8 21 v) (.rcons (q8 22 v) (.rcons (q8 23 v) (.rcons (q8 24 v) (.rcons (q8 25 v) (.rcons (q8 26 v) (.rcons (q8 27 v) (.rcons (q8 28 v) (.rcons (q8 29 v) (.rcons (q8 30 v) (.rcons (q8 31 v) .rnil))))))))))))))))))))))))))))))))
@[simp] def z8 : T := (.rcons o8 (.rcons o8 (.rcons o8 (.rcons o8 (.rcons o8 (.rcons o8 (.rcons o8 (.rcons o8 (.rcons o8 (.rcons o8 (.rcons o8 (.rcons o8 (.rcons o8 (.rcons o8 (.rcons o8 (.rcons o8 (.rcons o8 (.rcons o8 (.rcons o8 (.rcons o8 (.rcons o8 (.rcons o8 (.rcons o8 (.rcons o8 (.rcons o8 (.rcons o8 (.rcons o8 (.rcons o8 (.rcons o8 (.rcons o8 (.rcons o8 (.rcons o8 .rnil))))))))))))))))))))))))))))))))
/-! ### What bytes mean -/
def at0 (m : List Int) (j : Nat) : Int := m.getD j 0
def chunk (m : List Int) (j : Nat) : List Int := (m.drop (39 + 32 * j)).take 32
def decS (m : List Int) : Int := at0 m 5 * 256 + at0 m 6
def decE (m : List Int) : Int := if m.length < 7 then 4 else if at0 m 0 ≠ 77 ∨ at0 m 1 ≠ 1 then 5 else if sizes3 (at0 m 2) (at0 m 3) (at0 m 4) = false ∨ 8192 < decS m then 2 else if (m.length : Int) < 39 + 32 * at0 m 4 then 4 else if 39 + 32 * at0 m 4 < (m.length : Int) then 5 else 0
/-- The first n digests. -/
def decP (m : List Int) (n : Int) (l : Int) (D : Rows') : Prop := l = D.length ∧ l = n ∧ dgsOk D ∧ dgs D = (List.range n.toNat).map (chunk m)
def decH (m : List Int) (k n t s : Int) : Prop := k = at0 m 2 ∧ n = at0 m 3 ∧ t = at0 m 4 ∧ s = decS m
def decO (m : List Int) (O : Rows') : Prop := rowL O 32 = (m.drop 7).take 32
/-! ### Readers -/
def rDgC : Ctr := { fn := 97, nv := 8, args := [rdA], heap := [rdCells 1 2 3 4 5], ro := [bHp 1 6 7], pre := rPre, alts := [
  { k := 5, ret := dgV 8, heap := [rdCells 1 9 10 11 12], post := fun ρ => rowL (ρ 8).d 32 = (rdTake (rM ρ) (ρ 5).i 32).1.getD (List.replicate 32 0) ∧ rNow ρ 9 (rdTake (rM ρ) (ρ 5).i 32).2 }] }
/-! ### Manifests -/
def decAlts : List Alt := [
  { k := 1, ret := .tup [manZV, eRet (.var 5)], heap := [], post := fun ρ => (ρ 5).i = decE (bI (ρ 3).d) ∧ (ρ 5).i ≠ 0 },
  { k := 9, ret := .tup [(true, manT 5 6 7 8 9 10 11 12), eRet (.lit 0)], heap := [dgsHp 10 13 12], post := fun ρ => decE (bI (ρ 3).d) = 0 ∧ decH (bI (ρ 3).d) (ρ 5).i (ρ 6).i (ρ 7).i (ρ 8).i ∧ decO (bI (ρ 3).d) (ρ 9).d ∧ decP (bI (ρ 3).d) (at0 (bI (ρ 3).d) 4) (ρ 11).i (ρ 13).d }]
def decPre (ρ : Env) : Prop := (ρ 1).i = (ρ 3).d.length ∧ (ρ 1).i ≤ 1000000 ∧ allB (ρ 3).d
def decMC : Ctr := { fn := 65, nv := 5, ip := [(1005, 8)], args := [bS 0], heap := [], ro := [bSHp 0], pre := decPre, alts := decAlts }
/-- 1001 .. 1010 the manifest, 1011 .. 1018 the Reader, 1019 the number. -/
def decMI : Inv := { key := 13, nv := 20, env := [(2, .one (.vptr 1000 (.lit 0) 37 0)), (4, .one (.vptr 1011 (.lit 0) 2 0)), (6, .one (.vptr 1001 (.lit 0) 37 0)), (53, iv .i64 (.var 1004)), (54, iv .i64 (.var 1019))], heap := [manZ 1000, .cells 1001 27 (manT 1002 1003 1004 1005 1006 1007 1008 1009), dgsHp 1007 1010 1009, .cells 1011 rdStr (inV 1012 1013 1014 1015 1016), bHp 1012 1017 1018], inv := (fun ρ => decH (bI (ρ 3).d) (ρ 1002).i (ρ 1003).i (ρ 1004).i (ρ 1005).i ∧ sizes3 (ρ 1002).i (ρ 1003).i (ρ 1004).i = true ∧ (ρ 1005).i ≤ 8192 ∧ 7 ≤ (ρ 3).d.length ∧ at0 (bI (ρ 3).d) 0 = 77 ∧ at0 (bI (ρ 3).d) 1 = 1 ∧ 0 ≤ (ρ 1019).i ∧ (ρ 1019).i ≤ (ρ 1004).i ∧ (ρ 1008).i = (ρ 1010).d.length ∧ (ρ 1008).i = (ρ 1019).i ∧ rIn (ρ 1013).i (ρ 1014).i (ρ 1015).i (ρ 1018).i (ρ 1017).d ∧ (((ρ 1016).i = 0 ∧ 39 + 32 * (ρ 1019).i ≤ (ρ 3).d.length ∧ segB (ρ 1017).d (ρ 1013).i (ρ 1014).i = (bI (ρ 3).d).drop (39 + 32 * (ρ 1019).i).toNat ∧ decO (bI (ρ 3).d) (ρ 1006).d ∧ decP (bI (ρ 3).d) (ρ 1019).i (ρ 1008).i (ρ 1010).d) ∨ ((ρ 1016).i = 4 ∧ ((ρ 3).d.length : Int) < 39 + 32 * (ρ 1004).i))), mu := (fun ρ => ((ρ 1004).i - (ρ 1019).i).toNat) }
/-- Two manifests are one. -/
def sameC : Ctr := { fn := 26, nv := 20, args := [manV, .agg (manT 8 9 10 11 12 13 14 15)], heap := [], ro := [dgsHp 5 16 17, dgsHp 13 18 19], pre := fun ρ => (ρ 6).i = (ρ 16).d.length ∧ (ρ 14).i = (ρ 18).d.length ∧ (ρ 6).i ≤ 4503599627370496, alts := [
  { k := 1, ret := .one (.vbool (.var 20)), heap := [], post := fun ρ => (ρ 0).i = (ρ 8).i → (ρ 1).i = (ρ 9).i → (ρ 2).i = (ρ 10).i → (ρ 3).i = (ρ 11).i → rowL (ρ 4).d 32 = rowL (ρ 12).d 32 → dgs (ρ 16).d = dgs (ρ 18).d → (ρ 20).b = true }] }
def sameI : Inv := { key := 4, nv := 3, env := [(2, .one (.vptr 1000 (.lit 0) 37 0)), (3, .one (.vptr 1001 (.lit 0) 37 0)), (5, iv .i64 (.var 1002))], heap := [.cells 1000 27 (manT 0 1 2 3 4 5 6 7), .cells 1001 27 (manT 8 9 10 11 12 13 14 15)], inv := (fun ρ => (ρ 6).i = (ρ 14).i ∧ 0 ≤ (ρ 1002).i ∧ (ρ 1002).i ≤ (ρ 6).i), mu := (fun ρ => ((ρ 6).i - (ρ 1002).i).toNat) }
end Go.Eng

set_option linter.unusedSimpArgs false
set_option linter.unusedVariables false
set_option maxRecDepth 100000
namespace Go.Proofs
open Go Go.Eng

def o_rDg : Out := (.fresh 8 (.fresh 9 (.both (.pre 0 ⟨0, [(7, (.t (.var 7))), (6, (.t (.var 6))), (5, (.t (.var 5))), (4, (.t (.var 4))), (3, (.t (.var 3))), (2, (.t (.var 2))), (1, (.r 1)), (8, (.t (.lit (32)))), (0, (.r 0))], [((.lit (0)), (.lit (0)))], [], []⟩ (.both (.fresh 10 (.post 0 0 ⟨0, [(7, (.t (.var 7))), (6, (.t (.var 6))), (5, (.t (.var 5))), (4, (.t (.var 4))), (3, (.t (.var 3))), (2, (.t (.var 2))), (1, (.r 1)), (8, (.t (.lit (32)))), (0, (.r 0))], [((.lit (0)), (.lit (0)))], [], []⟩ 10 (.both (.fresh 11 (.ret 0 ⟨8, [(12, (.t (.var 10))), (11, (.t (.var 4))), (10, (.t (.var 3))), (9, (.t (.var 2))), (8, (.t (.rcons (.vint .u8 (.icell (.c3 .xcopy z8 (.lit (0)) (.dtake .dnil (.imin (.lit (32)) (.lit (0))))) (.lit (0)) 0)) (.rcons (.vint .u8 (.icell (.c3 .xcopy z8 (.lit (0)) (.dtake .dnil (.imin (.lit (32)) (.lit (0))))) (.lit (0)) 1)) (.rcons (.vint .u8 (.icell (.c3 .xcopy z8 (.lit (0)) (.dtake .dnil (.imin (.lit (32)) (.lit (0))))) (.lit (0)) 2)) (.rcons (.vint .u8 (.icell (.c3 .xcopy z8 (.lit (0)) (.dtake .dnil (.imin (.lit (32)) (.lit (0))))) (.lit (0)) 3)) (.rcons (.vint .u8 (.icell (.c3 .xcopy z8 (.lit (0)) (.dtake .dnil (.imin (.lit (32)) (.lit (0))))) (.lit (0)) 4)) (.rcons (.vint .u8 (.icell (.c3 .xcopy z8 (.lit (0)) (.dtake .dnil (.imin (.lit (32)) (.lit (0))))) (.lit (0)) 5)) (.rcons (.vint .u8 (.icell (.c3 .xcopy z8 (.lit (0)) (.dtake .dnil (.imin (.lit (32)) (.lit (0))))) (.lit (0)) 6)) (.rcons (.vint .u8 (.icell (.c3 .xcopy z8 (.lit (0)) (.dtake .dnil (.imin (.lit (32)) (.lit (0))))) (.lit (0)) 7)) (.rcons (.vint .u8 (.icell (.c3 .xcopy z8 (.lit (0)) (.dtake .dnil (.imin (.lit (32)) (.lit (0))))) (.lit (0)) 8)) (.rcons (.vint .u8 (.icell (.c3 .xcopy z8 (.lit (0)) (.dtake .dnil (.imin (.lit (32)) (.lit (0))))) (.lit (0)) 9)) (.rcons (.vint .u8 (.icell (.c3 .xcopy z8 (.lit (0)) (.dtake .dnil (.imin (.lit (32)) (.lit (0))))) (.lit (0)) 10)) (.rcons (.vint .u8 (.icell (.c3 .xcopy z8 (.lit (0)) (.dtake .dnil (.imin (.lit (32)) (.lit (0))))) (.lit (0)) 11)) (.rcons (.vint .u8 (.icell (.c3 .xcopy z8 (.lit (0)) (.dtake .dnil (.imin (.lit (32)) (.lit (0))))) (.lit (0)) 12)) (.rcons (.vint .u8 (.icell (.c3 .xcopy z8 (.lit (0)) (.dtake .dnil (.imin (.lit (32)) (.lit (0))))) (.lit (0)) 13)) (.rcons (.vint .u8 (.icell (.c3 .xcopy z8 (.lit (0)) (.dtake .dnil (.imin (.lit (32)) (.lit (0))))) (.lit (0)) 14)) (.rcons (.vint .u8 (.icell (.c3 .xcopy z8 (.lit (0)) (.dtake .dnil (.imin (.lit (32)) (.lit (0))))) (.lit (0)) 15)) (.rcons (.vint .u8 (.icell (.c3 .xcopy z8 (.lit (0)) (.dtake .dnil (.imin (.lit (32)) (.lit (0))))) (.lit (0)) 16)) (.rcons (.vint .u8 (.icell (.c3 .xcopy z8 (.lit (0)) (.dtake .dnil (.imin (.lit (32)) (.lit (0))))) (.lit (0)) 17)) (.rcons (.vint .u8 (.icell (.c3 .xcopy z8 (.lit (0)) (.dtake .dnil (.imin (.lit (32)) (.lit (0))))) (.lit (0)) 18)) (.rcons (.vint .u8 (.icell (.c3 .xcopy z8 (.lit (0)) (.dtake .dnil (.imin (.lit (32)) (.lit (0))))) (.lit (0)) 19)) (.rcons (.vint .u8 (.icell (.c3 .xcopy z8 (.lit (0)) (.dtake .dnil (.imin (.lit (32)) (.lit (0))))) (.lit (0)) 20)) (.rcons (.vint .u8 (.icell (.c3 .xcopy z8 (.lit (0)) (.dtake .dnil (.imin (.lit (32)) (.lit (0))))) (.lit (0)) 21)) (.rcons (.vint .u8 (.icell (.c3 .xcopy z8 (.lit (0)) (.dtake .dnil (.imin (.lit (32)) (.lit (0))))) (.lit (0)) 22)) (.rcons (.vint .u8 (.icell (.c3 .xcopy z8 (.lit (0)) (.dtake .dnil (.imin (.lit (32)) (.lit (0))))) (.lit (0)) 23)) (.rcons (.vint .u8 (.icell (.c3 .xcopy z8 (.lit (0)) (.dtake .dnil (.imin (.lit (32)) (.lit (0))))) (.lit (0)) 24)) (.rcons (.vint .u8 (.icell (.c3 .xcopy z8 (.lit (0)) (.dtake .dnil (.imin (.lit (32)) (.lit (0))))) (.lit (0)) 25)) (.rcons (.vint .u8 (.icell (.c3 .xcopy z8 (.lit (0)) (.dtake .dnil (.imin (.lit (32)) (.lit (0))))) (.lit (0)) 26)) (.rcons (.vint .u8 (.icell (.c3 .xcopy z8 (.lit (0)) (.dtake .dnil (.imin (.lit (32)) (.lit (0))))) (.lit (0)) 27)) (.rcons (.vint .u8 (.icell (.c3 .xcopy z8 (.lit (0)) (.dtake .dnil (.imin (.lit (32)) (.lit (0))))) (.lit (0)) 28)) (.rcons (.vint .u8 (.icell (.c3 .xcopy z8 (.lit (0)) (.dtake .dnil (.imin (.lit (32)) (.lit (0))))) (.lit (0)) 29)) (.rcons (.vint .u8 (.icell (.c3 .xcopy z8 (.lit (0)) (.dtake .dnil (.imin (.lit (32)) (.lit (0))))) (.lit (0)) 30)) (.rcons (.vint .u8 (.icell (.c3 .xcopy z8 (.lit (0)) (.dtake .dnil (.imin (.lit (32)) (.lit (0))))) (.lit (0)) 31)) .rnil))))))))))))))))))))))))))))))))))], [], [], []⟩)) .top))) (.both (.fresh 10 (.fresh 11 (.fresh 12 (.fresh 13 (.fresh 14 (.post 0 1 ⟨0, [(7, (.t (.var 7))), (6, (.t (.var 6))), (5, (.t (.var 5))), (4, (.t (.var 4))), (3, (.t (.var 3))), (2, (.t (.var 2))), (1, (.r 1)), (8, (.t (.lit (32)))), (0, (.r 0))], [((.lit (0)), (.lit (0)))], [], []⟩ 10 (.both (.need (.cmp .leq (.lit (0)) (.var 10)) (.need (.cmp .leq (.plus (.var 10) (.lit (32))) (.dlen (.var 6))) (.fresh 15 (.ret 0 ⟨8, [(12, (.t (.lit (0)))), (11, (.t (.var 14))), (10, (.t (.var 13))), (9, (.t (.var 12))), (8, (.t (.rcons (.vint .u8 (.icell (.c3 .xcopy z8 (.lit (0)) (.dtake (.ddrop (.var 6) (.var 10)) (.lit (32)))) (.lit (0)) 0)) (.rcons (.vint .u8 (.icell (.c3 .xcopy z8 (.lit (0)) (.dtake (.ddrop (.var 6) (.var 10)) (.lit (32)))) (.lit (0)) 1)) (.rcons (.vint .u8 (.icell (.c3 .xcopy z8 (.lit (0)) (.dtake (.ddrop (.var 6) (.var 10)) (.lit (32)))) (.lit (0)) 2)) (.rcons (.vint .u8 (.icell (.c3 .xcopy z8 (.lit (0)) (.dtake (.ddrop (.var 6) (.var 10)) (.lit (32)))) (.lit (0)) 3)) (.rcons (.vint .u8 (.icell (.c3 .xcopy z8 (.lit (0)) (.dtake (.ddrop (.var 6) (.var 10)) (.lit (32)))) (.lit (0)) 4)) (.rcons (.vint .u8 (.icell (.c3 .xcopy z8 (.lit (0)) (.dtake (.ddrop (.var 6) (.var 10)) (.lit (32)))) (.lit (0)) 5)) (.rcons (.vint .u8 (.icell (.c3 .xcopy z8 (.lit (0)) (.dtake (.ddrop (.var 6) (.var 10)) (.lit (32)))) (.lit (0)) 6)) (.rcons (.vint .u8 (.icell (.c3 .xcopy z8 (.lit (0)) (.dtake (.ddrop (.var 6) (.var 10)) (.lit (32)))) (.lit (0)) 7)) (.rcons (.vint .u8 (.icell (.c3 .xcopy z8 (.lit (0)) (.dtake (.ddrop (.var 6) (.var 10)) (.lit (32)))) (.lit (0)) 8)) (.rcons (.vint .u8 (.icell (.c3 .xcopy z8 (.lit (0)) (.dtake (.ddrop (.var 6) (.var 10)) (.lit (32)))) (.lit (0)) 9)) (.rcons (.vint .u8 (.icell (.c3 .xcopy z8 (.lit (0)) (.dtake (.ddrop (.var 6) (.var 10)) (.lit (32)))) (.lit (0)) 10)) (.rcons (.vint .u8 (.icell (.c3 .xcopy z8 (.lit (0)) (.dtake (.ddrop (.var 6) (.var 10)) (.lit (32)))) (.lit (0)) 11)) (.rcons (.vint .u8 (.icell (.c3 .xcopy z8 (.lit (0)) (.dtake (.ddrop (.var 6) (.var 10)) (.lit (32)))) (.lit (0)) 12)) (.rcons (.vint .u8 (.icell (.c3 .xcopy z8 (.lit (0)) (.dtake (.ddrop (.var 6) (.var 10)) (.lit (32)))) (.lit (0)) 13)) (.rcons (.vint .u8 (.icell (.c3 .xcopy z8 (.lit (0)) (.dtake (.ddrop (.var 6) (.var 10)) (.lit (32)))) (.lit (0)) 14)) (.rcons (.vint .u8 (.icell (.c3 .xcopy z8 (.lit (0)) (.dtake (.ddrop (.var 6) (.var 10)) (.lit (32)))) (.lit (0)) 15)) (.rcons (.vint .u8 (.icell (.c3 .xcopy z8 (.lit (0)) (.dtake (.ddrop (.var 6) (.var 10)) (.lit (32)))) (.lit (0)) 16)) (.rcons (.vint .u8 (.icell (.c3 .xcopy z8 (.lit (0)) (.dtake (.ddrop (.var 6) (.var 10)) (.lit (32)))) (.lit (0)) 17)) (.rcons (.vint .u8 (.icell (.c3 .xcopy z8 (.lit (0)) (.dtake (.ddrop (.var 6) (.var 10)) (.lit (32)))) (.lit (0)) 18)) (.rcons (.vint .u8 (.icell (.c3 .xcopy z8 (.lit (0)) (.dtake (.ddrop (.var 6) (.var 10)) (.lit (32)))) (.lit (0)) 19)) (.rcons (.vint .u8 (.icell (.c3 .xcopy z8 (.lit (0)) (.dtake (.ddrop (.var 6) (.var 10)) (.lit (32)))) (.lit (0)) 20)) (.rcons (.vint .u8 (.icell (.c3 .xcopy z8 (.lit (0)) (.dtake (.ddrop (.var 6) (.var 10)) (.lit (32)))) (.lit (0)) 21)) (.rcons (.vint .u8 (.icell (.c3 .xcopy z8 (.lit (0)) (.dtake (.ddrop (.var 6) (.var 10)) (.lit (32)))) (.lit (0)) 22)) (.rcons (.vint .u8 (.icell (.c3 .xcopy z8 (.lit (0)) (.dtake (.ddrop (.var 6) (.var 10)) (.lit (32)))) (.lit (0)) 23)) (.rcons (.vint .u8 (.icell (.c3 .xcopy z8 (.lit (0)) (.dtake (.ddrop (.var 6) (.var 10)) (.lit (32)))) (.lit (0)) 24)) (.rcons (.vint .u8 (.icell (.c3 .xcopy z8 (.lit (0)) (.dtake (.ddrop (.var 6) (.var 10)) (.lit (32)))) (.lit (0)) 25)) (.rcons (.vint .u8 (.icell (.c3 .xcopy z8 (.lit (0)) (.dtake (.ddrop (.var 6) (.var 10)) (.lit (32)))) (.lit (0)) 26)) (.rcons (.vint .u8 (.icell (.c3 .xcopy z8 (.lit (0)) (.dtake (.ddrop (.var 6) (.var 10)) (.lit (32)))) (.lit (0)) 27)) (.rcons (.vint .u8 (.icell (.c3 .xcopy z8 (.lit (0)) (.dtake (.ddrop (.var 6) (.var 10)) (.lit (32)))) (.lit (0)) 28)) (.rcons (.vint .u8 (.icell (.c3 .xcopy z8 (.lit (0)) (.dtake (.ddrop (.var 6) (.var 10)) (.lit (32)))) (.lit (0)) 29)) (.rcons (.vint .u8 (.icell (.c3 .xcopy z8 (.lit (0)) (.dtake (.ddrop (.var 6) (.var 10)) (.lit (32)))) (.lit (0)) 30)) (.rcons (.vint .u8 (.icell (.c3 .xcopy z8 (.lit (0)) (.dtake (.ddrop (.var 6) (.var 10)) (.lit (32)))) (.lit (0)) 31)) .rnil))))))))))))))))))))))))))))))))))], [], [], []⟩)))) .top))))))) .top))) .top)))
theorem o_rDg_eq : treeOf ⟨Tryd.prog, rDgC, [takeC], []⟩ 100000 Tryd.f97 = o_rDg := by kernel_rfl
theorem rDg_of (hd : ∀ c ∈ ([takeC] : List Ctr), c.ok Tryd.prog) (h : ∀ ρ : Env, ρ.good → (rDgC).pre ρ → o_rDg.den ⟨Tryd.prog, rDgC, [takeC], []⟩ ρ) : (rDgC).ok Tryd.prog :=
  ok_of_tree Tryd.func97 (fun a w => Tryd.call97 a w) hd 100000 (fun ρ hg hp => by rw [o_rDg_eq]; exact h ρ hg hp)
def o_decM : Out := (.fresh 5 (.pre 0 ⟨0, [(4, (.t (.var 4))), (3, (.t (.var 3))), (2, (.t (.var 2))), (1, (.t (.var 1))), (0, (.r 0))], [((.lit (0)), (.lit (0)))], [], []⟩ (.both (.fresh 6 (.fresh 7 (.fresh 8 (.fresh 9 (.post 0 0 ⟨0, [(4, (.t (.var 4))), (3, (.t (.var 3))), (2, (.t (.var 2))), (1, (.t (.var 1))), (0, (.r 0))], [((.lit (0)), (.lit (0)))], [], []⟩ 6 (.know (.cmp .leq (.dlen (.var 9)) (.var 8)) (.pre 2 ⟨0, [(7, (.t (.var 8))), (6, (.t (.var 9))), (5, (.t (.lit (0)))), (4, (.t (.var 8))), (3, (.t (.var 1))), (2, (.t (.lit (0)))), (1, (.r 7)), (0, (.r 6))], [((.lit (0)), (.lit (0)))], [], []⟩ (.both (.fresh 10 (.fresh 11 (.fresh 12 (.fresh 13 (.fresh 14 (.post 2 0 ⟨0, [(7, (.t (.var 8))), (6, (.t (.var 9))), (5, (.t (.lit (0)))), (4, (.t (.var 8))), (3, (.t (.var 1))), (2, (.t (.lit (0)))), (1, (.r 7)), (0, (.r 6))], [((.lit (0)), (.lit (0)))], [], []⟩ 10 (.pre 1 ⟨0, [(7, (.t (.var 8))), (6, (.t (.var 9))), (5, (.t (.var 14))), (4, (.t (.var 13))), (3, (.t (.var 12))), (2, (.t (.var 11))), (1, (.r 7)), (0, (.r 6))], [((.lit (0)), (.lit (0)))], [], []⟩ (.both (.fresh 15 (.fresh 16 (.fresh 17 (.fresh 18 (.fresh 19 (.post 1 0 ⟨0, [(7, (.t (.var 8))), (6, (.t (.var 9))), (5, (.t (.var 14))), (4, (.t (.var 13))), (3, (.t (.var 12))), (2, (.t (.var 11))), (1, (.r 7)), (0, (.r 6))], [((.lit (0)), (.lit (0)))], [], []⟩ 15 (.pre 1 ⟨0, [(7, (.t (.var 8))), (6, (.t (.var 9))), (5, (.t (.var 19))), (4, (.t (.var 18))), (3, (.t (.var 17))), (2, (.t (.var 16))), (1, (.r 7)), (0, (.r 6))], [((.lit (0)), (.lit (0)))], [], []⟩ (.both (.fresh 20 (.fresh 21 (.fresh 22 (.fresh 23 (.fresh 24 (.post 1 0 ⟨0, [(7, (.t (.var 8))), (6, (.t (.var 9))), (5, (.t (.var 19))), (4, (.t (.var 18))), (3, (.t (.var 17))), (2, (.t (.var 16))), (1, (.r 7)), (0, (.r 6))], [((.lit (0)), (.lit (0)))], [], []⟩ 20 (.pre 1 ⟨0, [(7, (.t (.var 8))), (6, (.t (.var 9))), (5, (.t (.var 24))), (4, (.t (.var 23))), (3, (.t (.var 22))), (2, (.t (.var 21))), (1, (.r 7)), (0, (.r 6))], [((.lit (0)), (.lit (0)))], [], []⟩ (.both (.fresh 25 (.fresh 26 (.fresh 27 (.fresh 28 (.fresh 29 (.post 1 0 ⟨0, [(7, (.t (.var 8))), (6, (.t (.var 9))), (5, (.t (.var 24))), (4, (.t (.var 23))), (3, (.t (.var 22))), (2, (.t (.var 21))), (1, (.r 7)), (0, (.r 6))], [((.lit (0)), (.lit (0)))], [], []⟩ 25 (.pre 2 ⟨0, [(7, (.t (.var 8))), (6, (.t (.var 9))), (5, (.t (.var 29))), (4, (.t (.var 28))), (3, (.t (.var 27))), (2, (.t (.var 26))), (1, (.r 7)), (0, (.r 6))], [((.lit (0)), (.lit (0)))], [], []⟩ (.both (.fresh 30 (.fresh 31 (.fresh 32 (.fresh 33 (.fresh 34 (.post 2 0 ⟨0, [(7, (.t (.var 8))), (6, (.t (.var 9))), (5, (.t (.var 29))), (4, (.t (.var 28))), (3, (.t (.var 27))), (2, (.t (.var 26))), (1, (.r 7)), (0, (.r 6))], [((.lit (0)), (.lit (0)))], [], []⟩ 30 (.fresh 35 (.pre 3 ⟨0, [(5, (.t (.var 34))), (4, (.t (.var 33))), (3, (.t (.var 32))), (2, (.t (.var 31))), (1, (.r 7)), (0, (.r 6))], [((.lit (0)), (.lit (0)))], [], []⟩ (.both (.post 3 0 ⟨0, [(5, (.t (.var 34))), (4, (.t (.var 33))), (3, (.t (.var 32))), (2, (.t (.var 31))), (1, (.r 7)), (0, (.r 6))], [((.lit (0)), (.lit (0)))], [], []⟩ 36 (.br (.cmp .neq (.var 34) (.lit (0)))
 (.ret 0 ⟨5, [(5, (.t (.var 34)))], [((.lit (0)), (.lit (0))), ((.lit (0)), (.lit (0))), ((.lit (0)), (.lit (0))), ((.lit (0)), (.lit (0))), ((.lit (0)), (.lit (0))), ((.lit (0)), (.lit (0))), ((.lit (0)), (.lit (0))), ((.lit (0)), (.lit (0))), ((.lit (0)), (.lit (0))), ((.lit (0)), (.lit (0))), ((.lit (0)), (.lit (0))), ((.lit (0)), (.lit (0))), ((.lit (0)), (.lit (0))), ((.lit (0)), (.lit (0))), ((.lit (0)), (.lit (0))), ((.lit (0)), (.lit (0))), ((.lit (0)), (.lit (0))), ((.lit (0)), (.lit (0))), ((.lit (0)), (.lit (0))), ((.lit (0)), (.lit (0))), ((.lit (0)), (.lit (0))), ((.lit (0)), (.lit (0))), ((.lit (0)), (.lit (0))), ((.lit (0)), (.lit (0))), ((.lit (0)), (.lit (0))), ((.lit (0)), (.lit (0))), ((.lit (0)), (.lit (0))), ((.lit (0)), (.lit (0))), ((.lit (0)), (.lit (0))), ((.lit (0)), (.lit (0))), ((.lit (0)), (.lit (0))), ((.lit (0)), (.lit (0))), ((.lit (0)), (.lit (0))), ((.lit (0)), (.lit (0))), ((.lit (0)), (.lit (0))), ((.lit (0)), (.lit (0)))], [], []⟩)
 (.br (.cmp .neq (.var 10) (.lit (19713)))
 (.ret 0 ⟨5, [(5, (.t (.lit (5))))], [((.lit (0)), (.lit (0))), ((.lit (0)), (.lit (0))), ((.lit (0)), (.lit (0))), ((.lit (0)), (.lit (0))), ((.lit (0)), (.lit (0))), ((.lit (0)), (.lit (0))), ((.lit (0)), (.lit (0))), ((.lit (0)), (.lit (0))), ((.lit (0)), (.lit (0))), ((.lit (0)), (.lit (0))), ((.lit (0)), (.lit (0))), ((.lit (0)), (.lit (0))), ((.lit (0)), (.lit (0))), ((.lit (0)), (.lit (0))), ((.lit (0)), (.lit (0))), ((.lit (0)), (.lit (0))), ((.lit (0)), (.lit (0))), ((.lit (0)), (.lit (0))), ((.lit (0)), (.lit (0))), ((.lit (0)), (.lit (0))), ((.lit (0)), (.lit (0))), ((.lit (0)), (.lit (0))), ((.lit (0)), (.lit (0))), ((.lit (0)), (.lit (0))), ((.lit (0)), (.lit (0))), ((.lit (0)), (.lit (0))), ((.lit (0)), (.lit (0))), ((.lit (0)), (.lit (0))), ((.lit (0)), (.lit (0))), ((.lit (0)), (.lit (0))), ((.lit (0)), (.lit (0))), ((.lit (0)), (.lit (0))), ((.lit (0)), (.lit (0))), ((.lit (0)), (.lit (0))), ((.lit (0)), (.lit (0))), ((.lit (0)), (.lit (0)))], [], []⟩)
 (.pre 4 ⟨0, [(2, (.t (.conv .i64 (.var 25)))), (1, (.t (.conv .i64 (.var 20)))), (0, (.t (.conv .i64 (.var 15))))], [], [], []⟩ (.both (.fresh 36 (.post 4 0 ⟨0, [(2, (.t (.conv .i64 (.var 25)))), (1, (.t (.conv .i64 (.var 20)))), (0, (.t (.conv .i64 (.var 15))))], [], [], []⟩ 36 (.br (.not (.var 36))
 (.ret 0 ⟨5, [(5, (.t (.lit (2))))], [((.lit (0)), (.lit (0))), ((.lit (0)), (.lit (0))), ((.lit (0)), (.lit (0))), ((.lit (0)), (.lit (0))), ((.lit (0)), (.lit (0))), ((.lit (0)), (.lit (0))), ((.lit (0)), (.lit (0))), ((.lit (0)), (.lit (0))), ((.lit (0)), (.lit (0))), ((.lit (0)), (.lit (0))), ((.lit (0)), (.lit (0))), ((.lit (0)), (.lit (0))), ((.lit (0)), (.lit (0))), ((.lit (0)), (.lit (0))), ((.lit (0)), (.lit (0))), ((.lit (0)), (.lit (0))), ((.lit (0)), (.lit (0))), ((.lit (0)), (.lit (0))), ((.lit (0)), (.lit (0))), ((.lit (0)), (.lit (0))), ((.lit (0)), (.lit (0))), ((.lit (0)), (.lit (0))), ((.lit (0)), (.lit (0))), ((.lit (0)), (.lit (0))), ((.lit (0)), (.lit (0))), ((.lit (0)), (.lit (0))), ((.lit (0)), (.lit (0))), ((.lit (0)), (.lit (0))), ((.lit (0)), (.lit (0))), ((.lit (0)), (.lit (0))), ((.lit (0)), (.lit (0))), ((.lit (0)), (.lit (0))), ((.lit (0)), (.lit (0))), ((.lit (0)), (.lit (0))), ((.lit (0)), (.lit (0))), ((.lit (0)), (.lit (0)))], [], []⟩)
 (.br (.cmp .gtr (.conv .i64 (.var 30)) (.lit (8192)))
 (.ret 0 ⟨5, [(5, (.t (.lit (2))))], [((.lit (0)), (.lit (0))), ((.lit (0)), (.lit (0))), ((.lit (0)), (.lit (0))), ((.lit (0)), (.lit (0))), ((.lit (0)), (.lit (0))), ((.lit (0)), (.lit (0))), ((.lit (0)), (.lit (0))), ((.lit (0)), (.lit (0))), ((.lit (0)), (.lit (0))), ((.lit (0)), (.lit (0))), ((.lit (0)), (.lit (0))), ((.lit (0)), (.lit (0))), ((.lit (0)), (.lit (0))), ((.lit (0)), (.lit (0))), ((.lit (0)), (.lit (0))), ((.lit (0)), (.lit (0))), ((.lit (0)), (.lit (0))), ((.lit (0)), (.lit (0))), ((.lit (0)), (.lit (0))), ((.lit (0)), (.lit (0))), ((.lit (0)), (.lit (0))), ((.lit (0)), (.lit (0))), ((.lit (0)), (.lit (0))), ((.lit (0)), (.lit (0))), ((.lit (0)), (.lit (0))), ((.lit (0)), (.lit (0))), ((.lit (0)), (.lit (0))), ((.lit (0)), (.lit (0))), ((.lit (0)), (.lit (0))), ((.lit (0)), (.lit (0))), ((.lit (0)), (.lit (0))), ((.lit (0)), (.lit (0))), ((.lit (0)), (.lit (0))), ((.lit (0)), (.lit (0))), ((.lit (0)), (.lit (0))), ((.lit (0)), (.lit (0)))], [], []⟩)
 (.pre 5 ⟨0, [(7, (.t (.var 8))), (6, (.t (.var 9))), (5, (.t (.var 34))), (4, (.t (.var 33))), (3, (.t (.var 32))), (2, (.t (.var 31))), (1, (.r 7)), (0, (.r 6))], [((.lit (0)), (.lit (0)))], [], []⟩ (.both (.fresh 37 (.fresh 38 (.fresh 39 (.fresh 40 (.fresh 41 (.post 5 0 ⟨0, [(7, (.t (.var 8))), (6, (.t (.var 9))), (5, (.t (.var 34))), (4, (.t (.var 33))), (3, (.t (.var 32))), (2, (.t (.var 31))), (1, (.r 7)), (0, (.r 6))], [((.lit (0)), (.lit (0)))], [], []⟩ 37 (.inv 0 42 ⟨1000, [(1018, (.t (.var 8))), (1017, (.t (.var 9))), (1016, (.t (.var 41))), (1015, (.t (.var 40))), (1014, (.t (.var 39))), (1013, (.t (.var 38))), (1012, (.r 7)), (1010, (.t .dnil)), (1009, (.t (.lit (0)))), (1008, (.t (.lit (0)))), (1007, .nil), (1005, (.t (.conv .i64 (.var 30)))), (1003, (.t (.conv .i64 (.var 20)))), (1002, (.t (.conv .i64 (.var 15)))), (1006, (.t (r8 37))), (1019, (.t (.lit (0)))), (1004, (.t (.conv .i64 (.var 25)))), (1001, (.r 35)), (1011, (.r 6)), (1000, (.r 5))], [((.var 1009), (.lit (0))), ((.lit (0)), (.lit (0))), ((.var 1004), (.conv .i64 (.var 25))), ((.lit (0)), (.lit (0))), ((.lit (0)), (.lit (0))), ((.lit (0)), (.lit (0))), ((.lit (0)), (.lit (0))), ((.lit (0)), (.lit (0))), ((.lit (0)), (.lit (0))), ((.lit (0)), (.lit (0))), ((.lit (0)), (.lit (0))), ((.lit (0)), (.lit (0))), ((.lit (0)), (.lit (0))), ((.lit (0)), (.lit (0))), ((.lit (0)), (.lit (0))), ((.lit (0)), (.lit (0))), ((.lit (0)), (.lit (0))), ((.lit (0)), (.lit (0))), ((.lit (0)), (.lit (0))), ((.lit (0)), (.lit (0))), ((.lit (0)), (.lit (0))), ((.lit (0)), (.lit (0))), ((.lit (0)), (.lit (0))), ((.lit (0)), (.lit (0))), ((.lit (0)), (.lit (0))), ((.lit (0)), (.lit (0))), ((.lit (0)), (.lit (0))), ((.lit (0)), (.lit (0))), ((.lit (0)), (.lit (0))), ((.lit (0)), (.lit (0))), ((.lit (0)), (.lit (0))), ((.lit (0)), (.lit (0))), ((.lit (0)), (.lit (0))), ((.lit (0)), (.lit (0))), ((.lit (0)), (.lit (0))), ((.lit (0)), (.lit (0))), ((.lit (0)), (.lit (0))), ((.lit (0)), (.lit (0))), ((.lit (0)), (.lit (0))), ((.lit (0)), (.lit (0)))], [], []⟩ (.fresh 42 (.fresh 43 (.fresh 44 (.fresh 45 (.fresh 46 (.fresh 47 (.fresh 48 (.fresh 49 (.fresh 50 (.fresh 51 (.fresh 52 (.fresh 53 (.fresh 54 (.fresh 55 (.fresh 56 (.fresh 57 (.fresh 58 (.fresh 59 (.fresh 60 (.fresh 61 (.hyp 0 42 (.br (.cmp .lss (.var 61) (.var 46))
 (.both (.know (.cmp .leq (.dlen (.var 59)) (.var 60)) (.pre 5 ⟨0, [(7, (.t (.var 60))), (6, (.t (.var 59))), (5, (.t (.var 58))), (4, (.t (.var 57))), (3, (.t (.var 56))), (2, (.t (.var 55))), (1, (.r 54)), (0, (.r 53))], [((.lit (0)), (.lit (0)))], [], []⟩ (.both (.fresh 62 (.fresh 63 (.fresh 64 (.fresh 65 (.fresh 66 (.post 5 0 ⟨0, [(7, (.t (.var 60))), (6, (.t (.var 59))), (5, (.t (.var 58))), (4, (.t (.var 57))), (3, (.t (.var 56))), (2, (.t (.var 55))), (1, (.r 54)), (0, (.r 53))], [((.lit (0)), (.lit (0)))], [], []⟩ 62 (.both (.fresh 67 (.both (.need (.cmp .eql (.var 50) (.dlen (.var 52))) (.need (.cmp .leq (.tims (.lit (32)) (.plus (.var 50) (.lit (1)))) (.lit (140737488355328))) (.fresh 68 (.fresh 69 (.both (.both (.back 0 42 ⟨1000, [(1018, (.t (.var 60))), (1017, (.t (.var 59))), (1016, (.t (.var 66))), (1015, (.t (.var 65))), (1014, (.t (.var 64))), (1013, (.t (.var 63))), (1012, (.r 54)), (1010, (.t (.dapp (.var 52) (r8 62)))), (1009, (.t (.var 69))), (1008, (.t (.plus (.var 50) (.lit (1))))), (1007, (.r 68)), (1005, (.t (.var 47))), (1003, (.t (.var 45))), (1002, (.t (.var 44))), (1006, (.t (r8 48))), (1019, (.t (.arith .add .i64 (.var 61) (.lit (1))))), (1004, (.t (.var 46))), (1001, (.r 43)), (1011, (.r 53)), (1000, (.r 42))], [((.var 1009), (.var 69)), ((.lit (0)), (.lit (0))), ((.var 1004), (.var 46)), ((.lit (0)), (.lit (0))), ((.lit (0)), (.lit (0))), ((.lit (0)), (.lit (0))), ((.lit (0)), (.lit (0))), ((.lit (0)), (.lit (0))), ((.lit (0)), (.lit (0))), ((.lit (0)), (.lit (0))), ((.lit (0)), (.lit (0))), ((.lit (0)), (.lit (0))), ((.lit (0)), (.lit (0))), ((.lit (0)), (.lit (0))), ((.lit (0)), (.lit (0))), ((.lit (0)), (.lit (0))), ((.lit (0)), (.lit (0))), ((.lit (0)), (.lit (0))), ((.lit (0)), (.lit (0))), ((.lit (0)), (.lit (0))), ((.lit (0)), (.lit (0))), ((.lit (0)), (.lit (0))), ((.lit (0)), (.lit (0))), ((.lit (0)), (.lit (0))), ((.lit (0)), (.lit (0))), ((.lit (0)), (.lit (0))), ((.lit (0)), (.lit (0))), ((.lit (0)), (.lit (0))), ((.lit (0)), (.lit (0))), ((.lit (0)), (.lit (0))), ((.lit (0)), (.lit (0))), ((.lit (0)), (.lit (0))), ((.lit (0)), (.lit (0))), ((.lit (0)), (.lit (0))), ((.lit (0)), (.lit (0))), ((.lit (0)), (.lit (0))), ((.lit (0)), (.lit (0))), ((.lit (0)), (.lit (0))), ((.lit (0)), (.lit (0))), ((.lit (0)), (.lit (0))), ((.lit (0)), (.lit (0))), ((.lit (0)), (.lit (0)))], [], []⟩) .top) .top))))) .top)) .top))))))) .top))) .top)
 (.know (.cmp .leq (.dlen (.var 59)) (.var 60)) (.pre 6 ⟨0, [(5, (.t (.var 58))), (4, (.t (.var 57))), (3, (.t (.var 56))), (2, (.t (.var 55))), (1, (.r 54)), (0, (.r 53))], [((.lit (0)), (.lit (0)))], [], []⟩ (.both (.fresh 62 (.post 6 0 ⟨0, [(5, (.t (.var 58))), (4, (.t (.var 57))), (3, (.t (.var 56))), (2, (.t (.var 55))), (1, (.r 54)), (0, (.r 53))], [((.lit (0)), (.lit (0)))], [], []⟩ 62 (.br (.cmp .neq (.var 62) (.lit (0)))
 (.ret 0 ⟨5, [(5, (.t (.var 62)))], [((.lit (0)), (.lit (0))), ((.lit (0)), (.lit (0))), ((.lit (0)), (.lit (0))), ((.lit (0)), (.lit (0))), ((.lit (0)), (.lit (0))), ((.lit (0)), (.lit (0))), ((.lit (0)), (.lit (0))), ((.lit (0)), (.lit (0))), ((.lit (0)), (.lit (0))), ((.lit (0)), (.lit (0))), ((.lit (0)), (.lit (0))), ((.lit (0)), (.lit (0))), ((.lit (0)), (.lit (0))), ((.lit (0)), (.lit (0))), ((.lit (0)), (.lit (0))), ((.lit (0)), (.lit (0))), ((.lit (0)), (.lit (0))), ((.lit (0)), (.lit (0))), ((.lit (0)), (.lit (0))), ((.lit (0)), (.lit (0))), ((.lit (0)), (.lit (0))), ((.lit (0)), (.lit (0))), ((.lit (0)), (.lit (0))), ((.lit (0)), (.lit (0))), ((.lit (0)), (.lit (0))), ((.lit (0)), (.lit (0))), ((.lit (0)), (.lit (0))), ((.lit (0)), (.lit (0))), ((.lit (0)), (.lit (0))), ((.lit (0)), (.lit (0))), ((.lit (0)), (.lit (0))), ((.lit (0)), (.lit (0))), ((.lit (0)), (.lit (0))), ((.lit (0)), (.lit (0))), ((.lit (0)), (.lit (0))), ((.lit (0)), (.lit (0)))], [], []⟩)
 (.ret 1 ⟨5, [(13, (.t (.var 52))), (12, (.t (.var 51))), (11, (.t (.var 50))), (10, (.r 49)), (8, (.t (.var 47))), (7, (.t (.var 46))), (6, (.t (.var 45))), (5, (.t (.var 44))), (9, (.t (r8 48)))], [((.var 12), (.var 51)), ((.lit (0)), (.lit (0))), ((.lit (0)), (.lit (0)))], [], []⟩)))) .top)))))))))))))))))))))))))))))))) .top)))))) .top))))) .top))))))))) .top)))))))) .top)))))))) .top)))))))) .top)))))))) .top)))))))) .top)))
theorem o_decM_eq : treeOf ⟨Tryd.prog, decMC, [newReaderC, rU8C, rU16C, errC, sizes3C, rDgC, endC], [decMI]⟩ 100000 Tryd.f65 = o_decM := by kernel_rfl
theorem decM_of (hd : ∀ c ∈ ([newReaderC, rU8C, rU16C, errC, sizes3C, rDgC, endC] : List Ctr), c.ok Tryd.prog) (h : ∀ ρ : Env, ρ.good → (decMC).pre ρ → o_decM.den ⟨Tryd.prog, decMC, [newReaderC, rU8C, rU16C, errC, sizes3C, rDgC, endC], [decMI]⟩ ρ) : (decMC).ok Tryd.prog :=
  ok_of_tree Tryd.func65 (fun a w => Tryd.call65 a w) hd 100000 (fun ρ hg hp => by rw [o_decM_eq]; exact h ρ hg hp)
def o_same : Out := (.fresh 20 (.fresh 21 (.br (.cmp .neq (.var 0) (.var 8))
 (.ret 0 ⟨20, [(20, (.t (.bl false)))], [], [], []⟩)
 (.br (.cmp .neq (.var 1) (.var 9))
 (.ret 0 ⟨20, [(20, (.t (.bl false)))], [], [], []⟩)
 (.br (.cmp .neq (.var 2) (.var 10))
 (.ret 0 ⟨20, [(20, (.t (.bl false)))], [], [], []⟩)
 (.br (.cmp .neq (.var 3) (.var 11))
 (.ret 0 ⟨20, [(20, (.t (.bl false)))], [], [], []⟩)
 (.br (.not (.c2 .req (r8 4) (r8 12)))
 (.ret 0 ⟨20, [(20, (.t (.bl false)))], [], [], []⟩)
 (.need (.cmp .leq (.lit (0)) (.var 6)) (.need (.cmp .leq (.lit (0)) (.var 14)) (.br (.cmp .neq (.var 6) (.var 14))
 (.ret 0 ⟨20, [(20, (.t (.bl false)))], [], [], []⟩)
 (.inv 0 22 ⟨1000, [(1002, (.t (.lit (0)))), (1001, (.r 21)), (1000, (.r 20))], [((.var 15), (.var 15)), ((.var 14), (.var 14)), ((.lit (0)), (.lit (0))), ((.c2 (.xint 31) (.var 12) (.lit (0))), (.c2 (.xint 31) (.var 12) (.lit (0)))), ((.c2 (.xint 30) (.var 12) (.lit (0))), (.c2 (.xint 30) (.var 12) (.lit (0)))), ((.c2 (.xint 29) (.var 12) (.lit (0))), (.c2 (.xint 29) (.var 12) (.lit (0)))), ((.c2 (.xint 28) (.var 12) (.lit (0))), (.c2 (.xint 28) (.var 12) (.lit (0)))), ((.c2 (.xint 27) (.var 12) (.lit (0))), (.c2 (.xint 27) (.var 12) (.lit (0)))), ((.c2 (.xint 26) (.var 12) (.lit (0))), (.c2 (.xint 26) (.var 12) (.lit (0)))), ((.c2 (.xint 25) (.var 12) (.lit (0))), (.c2 (.xint 25) (.var 12) (.lit (0)))), ((.c2 (.xint 24) (.var 12) (.lit (0))), (.c2 (.xint 24) (.var 12) (.lit (0)))), ((.c2 (.xint 23) (.var 12) (.lit (0))), (.c2 (.xint 23) (.var 12) (.lit (0)))), ((.c2 (.xint 22) (.var 12) (.lit (0))), (.c2 (.xint 22) (.var 12) (.lit (0)))), ((.c2 (.xint 21) (.var 12) (.lit (0))), (.c2 (.xint 21) (.var 12) (.lit (0)))), ((.c2 (.xint 20) (.var 12) (.lit (0))), (.c2 (.xint 20) (.var 12) (.lit (0)))), ((.c2 (.xint 19) (.var 12) (.lit (0))), (.c2 (.xint 19) (.var 12) (.lit (0)))), ((.c2 (.xint 18) (.var 12) (.lit (0))), (.c2 (.xint 18) (.var 12) (.lit (0)))), ((.c2 (.xint 17) (.var 12) (.lit (0))), (.c2 (.xint 17) (.var 12) (.lit (0)))), ((.c2 (.xint 16) (.var 12) (.lit (0))), (.c2 (.xint 16) (.var 12) (.lit (0)))), ((.c2 (.xint 15) (.var 12) (.lit (0))), (.c2 (.xint 15) (.var 12) (.lit (0)))), ((.c2 (.xint 14) (.var 12) (.lit (0))), (.c2 (.xint 14) (.var 12) (.lit (0)))), ((.c2 (.xint 13) (.var 12) (.lit (0))), (.c2 (.xint 13) (.var 12) (.lit (0)))), ((.c2 (.xint 12) (.var 12) (.lit (0))), (.c2 (.xint 12) (.var 12) (.lit (0)))), ((.c2 (.xint 11) (.var 12) (.lit (0))), (.c2 (.xint 11) (.var 12) (.lit (0)))), ((.c2 (.xint 10) (.var 12) (.lit (0))), (.c2 (.xint 10) (.var 12) (.lit (0)))), ((.c2 (.xint 9) (.var 12) (.lit (0))), (.c2 (.xint 9) (.var 12) (.lit (0)))), ((.c2 (.xint 8) (.var 12) (.lit (0))), (.c2 (.xint 8) (.var 12) (.lit (0)))), ((.c2 (.xint 7) (.var 12) (.lit (0))), (.c2 (.xint 7) (.var 12) (.lit (0)))), ((.c2 (.xint 6) (.var 12) (.lit (0))), (.c2 (.xint 6) (.var 12) (.lit (0)))), ((.c2 (.xint 5) (.var 12) (.lit (0))), (.c2 (.xint 5) (.var 12) (.lit (0)))), ((.c2 (.xint 4) (.var 12) (.lit (0))), (.c2 (.xint 4) (.var 12) (.lit (0)))), ((.c2 (.xint 3) (.var 12) (.lit (0))), (.c2 (.xint 3) (.var 12) (.lit (0)))), ((.c2 (.xint 2) (.var 12) (.lit (0))), (.c2 (.xint 2) (.var 12) (.lit (0)))), ((.c2 (.xint 1) (.var 12) (.lit (0))), (.c2 (.xint 1) (.var 12) (.lit (0)))), ((.c2 (.xint 0) (.var 12) (.lit (0))), (.c2 (.xint 0) (.var 12) (.lit (0)))), ((.var 11), (.var 11)), ((.var 10), (.var 10)), ((.var 9), (.var 9)), ((.var 8), (.var 8)), ((.var 7), (.var 7)), ((.var 6), (.var 6)), ((.lit (0)), (.lit (0))), ((.c2 (.xint 31) (.var 4) (.lit (0))), (.c2 (.xint 31) (.var 4) (.lit (0)))), ((.c2 (.xint 30) (.var 4) (.lit (0))), (.c2 (.xint 30) (.var 4) (.lit (0)))), ((.c2 (.xint 29) (.var 4) (.lit (0))), (.c2 (.xint 29) (.var 4) (.lit (0)))), ((.c2 (.xint 28) (.var 4) (.lit (0))), (.c2 (.xint 28) (.var 4) (.lit (0)))), ((.c2 (.xint 27) (.var 4) (.lit (0))), (.c2 (.xint 27) (.var 4) (.lit (0)))), ((.c2 (.xint 26) (.var 4) (.lit (0))), (.c2 (.xint 26) (.var 4) (.lit (0)))), ((.c2 (.xint 25) (.var 4) (.lit (0))), (.c2 (.xint 25) (.var 4) (.lit (0)))), ((.c2 (.xint 24) (.var 4) (.lit (0))), (.c2 (.xint 24) (.var 4) (.lit (0)))), ((.c2 (.xint 23) (.var 4) (.lit (0))), (.c2 (.xint 23) (.var 4) (.lit (0)))), ((.c2 (.xint 22) (.var 4) (.lit (0))), (.c2 (.xint 22) (.var 4) (.lit (0)))), ((.c2 (.xint 21) (.var 4) (.lit (0))), (.c2 (.xint 21) (.var 4) (.lit (0)))), ((.c2 (.xint 20) (.var 4) (.lit (0))), (.c2 (.xint 20) (.var 4) (.lit (0)))), ((.c2 (.xint 19) (.var 4) (.lit (0))), (.c2 (.xint 19) (.var 4) (.lit (0)))), ((.c2 (.xint 18) (.var 4) (.lit (0))), (.c2 (.xint 18) (.var 4) (.lit (0)))), ((.c2 (.xint 17) (.var 4) (.lit (0))), (.c2 (.xint 17) (.var 4) (.lit (0)))), ((.c2 (.xint 16) (.var 4) (.lit (0))), (.c2 (.xint 16) (.var 4) (.lit (0)))), ((.c2 (.xint 15) (.var 4) (.lit (0))), (.c2 (.xint 15) (.var 4) (.lit (0)))), ((.c2 (.xint 14) (.var 4) (.lit (0))), (.c2 (.xint 14) (.var 4) (.lit (0)))), ((.c2 (.xint 13) (.var 4) (.lit (0))), (.c2 (.xint 13) (.var 4) (.lit (0)))), ((.c2 (.xint 12) (.var 4) (.lit (0))), (.c2 (.xint 12) (.var 4) (.lit (0)))), ((.c2 (.xint 11) (.var 4) (.lit (0))), (.c2 (.xint 11) (.var 4) (.lit (0)))), ((.c2 (.xint 10) (.var 4) (.lit (0))), (.c2 (.xint 10) (.var 4) (.lit (0)))), ((.c2 (.xint 9) (.var 4) (.lit (0))), (.c2 (.xint 9) (.var 4) (.lit (0)))), ((.c2 (.xint 8) (.var 4) (.lit (0))), (.c2 (.xint 8) (.var 4) (.lit (0)))), ((.c2 (.xint 7) (.var 4) (.lit (0))), (.c2 (.xint 7) (.var 4) (.lit (0)))), ((.c2 (.xint 6) (.var 4) (.lit (0))), (.c2 (.xint 6) (.var 4) (.lit (0)))), ((.c2 (.xint 5) (.var 4) (.lit (0))), (.c2 (.xint 5) (.var 4) (.lit (0)))), ((.c2 (.xint 4) (.var 4) (.lit (0))), (.c2 (.xint 4) (.var 4) (.lit (0)))), ((.c2 (.xint 3) (.var 4) (.lit (0))), (.c2 (.xint 3) (.var 4) (.lit (0)))), ((.c2 (.xint 2) (.var 4) (.lit (0))), (.c2 (.xint 2) (.var 4) (.lit (0)))), ((.c2 (.xint 1) (.var 4) (.lit (0))), (.c2 (.xint 1) (.var 4) (.lit (0)))), ((.c2 (.xint 0) (.var 4) (.lit (0))), (.c2 (.xint 0) (.var 4) (.lit (0)))), ((.var 3), (.var 3)), ((.var 2), (.var 2)), ((.var 1), (.var 1)), ((.var 0), (.var 0))], [], []⟩ (.fresh 22 (.fresh 23 (.fresh 24 (.hyp 0 22 (.br (.cmp .lss (.var 24) (.var 6))
 (.need (.cmp .leq (.lit (0)) (.var 24)) (.need (.cmp .lss (.var 24) (.dlen (.var 16))) (.need (.cmp .lss (.var 24) (.var 14)) (.need (.cmp .lss (.var 24) (.dlen (.var 18))) (.br (.not (.c2 .req (.rcons (i8 16 24 0) (.rcons (i8 16 24 1) (.rcons (i8 16 24 2) (.rcons (i8 16 24 3) (.rcons (i8 16 24 4) (.rcons (i8 16 24 5) (.rcons (i8 16 24 6) (.rcons (i8 16 24 7) (.rcons (i8 16 24 8) (.rcons (i8 16 24 9) (.rcons (i8 16 24 10) (.rcons (i8 16 24 11) (.rcons (i8 16 24 12) (.rcons (i8 16 24 13) (.rcons (i8 16 24 14) (.rcons (i8 16 24 15) (.rcons (i8 16 24 16) (.rcons (i8 16 24 17) (.rcons (i8 16 24 18) (.rcons (i8 16 24 19) (.rcons (i8 16 24 20) (.rcons (i8 16 24 21) (.rcons (i8 16 24 22) (.rcons (i8 16 24 23) (.rcons (i8 16 24 24) (.rcons (i8 16 24 25) (.rcons (i8 16 24 26) (.rcons (i8 16 24 27) (.rcons (i8 16 24 28) (.rcons (i8 16 24 29) (.rcons (i8 16 24 30) (.rcons (i8 16 24 31) .rnil)))))))))))))))))))))))))))))))) (.rcons (i8 18 24 0) (.rcons (i8 18 24 1) (.rcons (i8 18 24 2) (.rcons (i8 18 24 3) (.rcons (i8 18 24 4) (.rcons (i8 18 24 5) (.rcons (i8 18 24 6) (.rcons (i8 18 24 7) (.rcons (i8 18 24 8) (.rcons (i8 18 24 9) (.rcons (i8 18 24 10) (.rcons (i8 18 24 11) (.rcons (i8 18 24 12) (.rcons (i8 18 24 13) (.rcons (i8 18 24 14) (.rcons (i8 18 24 15) (.rcons (i8 18 24 16) (.rcons (i8 18 24 17) (.rcons (i8 18 24 18) (.rcons (i8 18 24 19) (.rcons (i8 18 24 20) (.rcons (i8 18 24 21) (.rcons (i8 18 24 22) (.rcons (i8 18 24 23) (.rcons (i8 18 24 24) (.rcons (i8 18 24 25) (.rcons (i8 18 24 26) (.rcons (i8 18 24 27) (.rcons (i8 18 24 28) (.rcons (i8 18 24 29) (.rcons (i8 18 24 30) (.rcons (i8 18 24 31) .rnil))))))))))))))))))))))))))))))))))
 (.ret 0 ⟨20, [(20, (.t (.bl false)))], [], [], []⟩)
 (.back 0 22 ⟨1000, [(1002, (.t (.arith .add .i64 (.var 24) (.lit (1))))), (1001, (.r 23)), (1000, (.r 22))], [((.var 15), (.var 15)), ((.var 14), (.var 14)), ((.lit (0)), (.lit (0))), ((.c2 (.xint 31) (.var 12) (.lit (0))), (.c2 (.xint 31) (.var 12) (.lit (0)))), ((.c2 (.xint 30) (.var 12) (.lit (0))), (.c2 (.xint 30) (.var 12) (.lit (0)))), ((.c2 (.xint 29) (.var 12) (.lit (0))), (.c2 (.xint 29) (.var 12) (.lit (0)))), ((.c2 (.xint 28) (.var 12) (.lit (0))), (.c2 (.xint 28) (.var 12) (.lit (0)))), ((.c2 (.xint 27) (.var 12) (.lit (0))), (.c2 (.xint 27) (.var 12) (.lit (0)))), ((.c2 (.xint 26) (.var 12) (.lit (0))), (.c2 (.xint 26) (.var 12) (.lit (0)))), ((.c2 (.xint 25) (.var 12) (.lit (0))), (.c2 (.xint 25) (.var 12) (.lit (0)))), ((.c2 (.xint 24) (.var 12) (.lit (0))), (.c2 (.xint 24) (.var 12) (.lit (0)))), ((.c2 (.xint 23) (.var 12) (.lit (0))), (.c2 (.xint 23) (.var 12) (.lit (0)))), ((.c2 (.xint 22) (.var 12) (.lit (0))), (.c2 (.xint 22) (.var 12) (.lit (0)))), ((.c2 (.xint 21) (.var 12) (.lit (0))), (.c2 (.xint 21) (.var 12) (.lit (0)))), ((.c2 (.xint 20) (.var 12) (.lit (0))), (.c2 (.xint 20) (.var 12) (.lit (0)))), ((.c2 (.xint 19) (.var 12) (.lit (0))), (.c2 (.xint 19) (.var 12) (.lit (0)))), ((.c2 (.xint 18) (.var 12) (.lit (0))), (.c2 (.xint 18) (.var 12) (.lit (0)))), ((.c2 (.xint 17) (.var 12) (.lit (0))), (.c2 (.xint 17) (.var 12) (.lit (0)))), ((.c2 (.xint 16) (.var 12) (.lit (0))), (.c2 (.xint 16) (.var 12) (.lit (0)))), ((.c2 (.xint 15) (.var 12) (.lit (0))), (.c2 (.xint 15) (.var 12) (.lit (0)))), ((.c2 (.xint 14) (.var 12) (.lit (0))), (.c2 (.xint 14) (.var 12) (.lit (0)))), ((.c2 (.xint 13) (.var 12) (.lit (0))), (.c2 (.xint 13) (.var 12) (.lit (0)))), ((.c2 (.xint 12) (.var 12) (.lit (0))), (.c2 (.xint 12) (.var 12) (.lit (0)))), ((.c2 (.xint 11) (.var 12) (.lit (0))), (.c2 (.xint 11) (.var 12) (.lit (0)))), ((.c2 (.xint 10) (.var 12) (.lit (0))), (.c2 (.xint 10) (.var 12) (.lit (0)))), ((.c2 (.xint 9) (.var 12) (.lit (0))), (.c2 (.xint 9) (.var 12) (.lit (0)))), ((.c2 (.xint 8) (.var 12) (.lit (0))), (.c2 (.xint 8) (.var 12) (.lit (0)))), ((.c2 (.xint 7) (.var 12) (.lit (0))), (.c2 (.xint 7) (.var 12) (.lit (0)))), ((.c2 (.xint 6) (.var 12) (.lit (0))), (.c2 (.xint 6) (.var 12) (.lit (0)))), ((.c2 (.xint 5) (.var 12) (.lit (0))), (.c2 (.xint 5) (.var 12) (.lit (0)))), ((.c2 (.xint 4) (.var 12) (.lit (0))), (.c2 (.xint 4) (.var 12) (.lit (0)))), ((.c2 (.xint 3) (.var 12) (.lit (0))), (.c2 (.xint 3) (.var 12) (.lit (0)))), ((.c2 (.xint 2) (.var 12) (.lit (0))), (.c2 (.xint 2) (.var 12) (.lit (0)))), ((.c2 (.xint 1) (.var 12) (.lit (0))), (.c2 (.xint 1) (.var 12) (.lit (0)))), ((.c2 (.xint 0) (.var 12) (.lit (0))), (.c2 (.xint 0) (.var 12) (.lit (0)))), ((.var 11), (.var 11)), ((.var 10), (.var 10)), ((.var 9), (.var 9)), ((.var 8), (.var 8)), ((.var 7), (.var 7)), ((.var 6), (.var 6)), ((.lit (0)), (.lit (0))), ((.c2 (.xint 31) (.var 4) (.lit (0))), (.c2 (.xint 31) (.var 4) (.lit (0)))), ((.c2 (.xint 30) (.var 4) (.lit (0))), (.c2 (.xint 30) (.var 4) (.lit (0)))), ((.c2 (.xint 29) (.var 4) (.lit (0))), (.c2 (.xint 29) (.var 4) (.lit (0)))), ((.c2 (.xint 28) (.var 4) (.lit (0))), (.c2 (.xint 28) (.var 4) (.lit (0)))), ((.c2 (.xint 27) (.var 4) (.lit (0))), (.c2 (.xint 27) (.var 4) (.lit (0)))), ((.c2 (.xint 26) (.var 4) (.lit (0))), (.c2 (.xint 26) (.var 4) (.lit (0)))), ((.c2 (.xint 25) (.var 4) (.lit (0))), (.c2 (.xint 25) (.var 4) (.lit (0)))), ((.c2 (.xint 24) (.var 4) (.lit (0))), (.c2 (.xint 24) (.var 4) (.lit (0)))), ((.c2 (.xint 23) (.var 4) (.lit (0))), (.c2 (.xint 23) (.var 4) (.lit (0)))), ((.c2 (.xint 22) (.var 4) (.lit (0))), (.c2 (.xint 22) (.var 4) (.lit (0)))), ((.c2 (.xint 21) (.var 4) (.lit (0))), (.c2 (.xint 21) (.var 4) (.lit (0)))), ((.c2 (.xint 20) (.var 4) (.lit (0))), (.c2 (.xint 20) (.var 4) (.lit (0)))), ((.c2 (.xint 19) (.var 4) (.lit (0))), (.c2 (.xint 19) (.var 4) (.lit (0)))), ((.c2 (.xint 18) (.var 4) (.lit (0))), (.c2 (.xint 18) (.var 4) (.lit (0)))), ((.c2 (.xint 17) (.var 4) (.lit (0))), (.c2 (.xint 17) (.var 4) (.lit (0)))), ((.c2 (.xint 16) (.var 4) (.lit (0))), (.c2 (.xint 16) (.var 4) (.lit (0)))), ((.c2 (.xint 15) (.var 4) (.lit (0))), (.c2 (.xint 15) (.var 4) (.lit (0)))), ((.c2 (.xint 14) (.var 4) (.lit (0))), (.c2 (.xint 14) (.var 4) (.lit (0)))), ((.c2 (.xint 13) (.var 4) (.lit (0))), (.c2 (.xint 13) (.var 4) (.lit (0)))), ((.c2 (.xint 12) (.var 4) (.lit (0))), (.c2 (.xint 12) (.var 4) (.lit (0)))), ((.c2 (.xint 11) (.var 4) (.lit (0))), (.c2 (.xint 11) (.var 4) (.lit (0)))), ((.c2 (.xint 10) (.var 4) (.lit (0))), (.c2 (.xint 10) (.var 4) (.lit (0)))), ((.c2 (.xint 9) (.var 4) (.lit (0))), (.c2 (.xint 9) (.var 4) (.lit (0)))), ((.c2 (.xint 8) (.var 4) (.lit (0))), (.c2 (.xint 8) (.var 4) (.lit (0)))), ((.c2 (.xint 7) (.var 4) (.lit (0))), (.c2 (.xint 7) (.var 4) (.lit (0)))), ((.c2 (.xint 6) (.var 4) (.lit (0))), (.c2 (.xint 6) (.var 4) (.lit (0)))), ((.c2 (.xint 5) (.var 4) (.lit (0))), (.c2 (.xint 5) (.var 4) (.lit (0)))), ((.c2 (.xint 4) (.var 4) (.lit (0))), (.c2 (.xint 4) (.var 4) (.lit (0)))), ((.c2 (.xint 3) (.var 4) (.lit (0))), (.c2 (.xint 3) (.var 4) (.lit (0)))), ((.c2 (.xint 2) (.var 4) (.lit (0))), (.c2 (.xint 2) (.var 4) (.lit (0)))), ((.c2 (.xint 1) (.var 4) (.lit (0))), (.c2 (.xint 1) (.var 4) (.lit (0)))), ((.c2 (.xint 0) (.var 4) (.lit (0))), (.c2 (.xint 0) (.var 4) (.lit (0)))), ((.var 3), (.var 3)), ((.var 2), (.var 2)), ((.var 1), (.var 1)), ((.var 0), (.var 0)), ((.lit (0)), (.lit (0))), ((.lit (0)), (.lit (0)))], [], []⟩))))))
 (.ret 0 ⟨20, [(20, (.t (.bl true)))], [], [], []⟩)))))))))))))))))
theorem o_same_eq : treeOf ⟨Tryd.prog, sameC, [], [sameI]⟩ 100000 Tryd.f26 = o_same := by kernel_rfl
theorem same_of (hd : ∀ c ∈ ([] : List Ctr), c.ok Tryd.prog) (h : ∀ ρ : Env, ρ.good → (sameC).pre ρ → o_same.den ⟨Tryd.prog, sameC, [], [sameI]⟩ ρ) : (sameC).ok Tryd.prog :=
  ok_of_tree Tryd.func26 (fun a w => Tryd.call26 a w) hd 100000 (fun ρ hg hp => by rw [o_same_eq]; exact h ρ hg hp)
end Go.Proofs

set_option linter.unusedSimpArgs false
set_option linter.unusedVariables false
namespace Go.Proofs
open Go Go.Eng
set_option maxRecDepth 20000
theorem copy32 {x : Rows'} (h : x.length = 32) : rowL [dgCells (cellI (xcopyD [dgCells fun _ => 0] 0 x) 0)] 32 = bI x := by
  rw [rowL_cells]
  have h0 : oneRow [dgCells fun _ => 0] 32 := ⟨_, rfl, by simp [dgCells]⟩
  exact rowL_eq (by rw [bI_len, h]) fun j hj => by
    have := cellX_xcopy_in (s := x) (o := 0) h0 (by omega) (j := j) (by omega)
    rw [Nat.zero_add] at this
    rw [this, List.getD_eq_getElem?_getD]
theorem copy0 : rowL [dgCells (cellI (xcopyD [dgCells fun _ => 0] 0 []) 0)] 32 = List.replicate 32 0 := by
  rw [rowL_cells]
  have h0 : oneRow [dgCells fun _ => 0] 32 := ⟨_, rfl, by simp [dgCells]⟩
  exact (rowL_congr fun j hj => cellX_xcopy_out (s := []) (o := 0) h0 (by decide) (.inr (Nat.zero_le _))).trans rowL_zero
theorem rDg_ok : rDgC.ok Tryd.prog := rDg_of (by simp [take_ok]) fun ρ hg hp => by
  obtain ⟨hr, e0, e1⟩ := hp
  simp (config := { maxSteps := 2000000 }) [o_rDg, rDgC, takeC, rPre, rNow, rM, rdCells]
  refine ⟨⟨⟨hr, e0, e1⟩, by decide, by decide⟩, fun u _ hu hu0 hu1 => ?_, fun o _ c _ o2 _ l2 _ c2 _ hx hr2 ht => ?_⟩
  · rw [hu]
    exact ⟨copy0, hr, rfl, rfl, by omega, hu1⟩
  · rw [ht]
    have hl : (List.take 32 (List.drop o.i.toNat (ρ 6).d)).length = 32 := by
      obtain ⟨a0, a1, a2, a3, a4, a5⟩ := hx
      rw [List.length_take, List.length_drop]; omega
    exact ⟨hx.1, hx.2.2.2.1, (copy32 hl).trans (seg_bI (l := 32)), hr2, rfl, rfl⟩
theorem dgs_len {D : Rows'} : (dgs D).length = D.length := by simp [dgs]
theorem dgs_cell {D D' : Rows'} (h : dgs D = dgs D') {i : Nat} (h1 : i < D.length) (h2 : i < D'.length) {j : Nat} (hj : j < 32) : cellI D i j = cellI D' i j := by
  have e : rowB D[i] = rowB D'[i] := by
    have := congrArg (fun l => l[i]?) h
    simpa [dgs, h1, h2] using this
  rw [← row_dgs h1, ← row_dgs h2] at e
  have := rowL_eq32 e j hj
  rwa [dgCells_get hj, dgCells_get hj] at this
theorem same_ok : sameC.ok Tryd.prog := same_of (by simp) fun ρ hg hp => by
  obtain ⟨h6, h14, h7⟩ := hp
  simp (config := { maxSteps := 2000000 }) [o_same, sameC, sameI, manV, manT, cellsT]
  refine ⟨fun h e => absurd e h, fun _ => ⟨fun h _ e => absurd e h, fun _ => ⟨fun h _ _ e => absurd e h, fun _ => ⟨fun h _ _ _ e => absurd e h, fun _ => ⟨fun hor _ _ _ _ hr => ?_, ?_⟩⟩⟩⟩⟩
  · have hc := rowL_eq32 hr
    simp [hc] at hor
  · intros
    refine ⟨by omega, by omega, fun h _ _ _ _ _ hd => ?_, fun hll => ⟨⟨hll, by omega⟩, fun u _ _ u0 u1 hlt => ⟨u0, by omega, by omega, by omega, fun hor _ _ _ _ _ hd => ?_, ?_⟩⟩⟩
    · have := congrArg List.length hd
      rw [dgs_len, dgs_len] at this
      omega
    · obtain ⟨I, hI⟩ : ∃ I : Nat, u.i = I := ⟨u.i.toNat, by omega⟩
      have hc : ∀ j, j < 32 → cellI (ρ 16).d I j = cellI (ρ 18).d I j := fun j hj => dgs_cell hd (by omega) (by omega) hj
      rw [hI] at hor
      simp [hc] at hor
    · intros
      have m2 : arithOf .add .i64 u.i 1 = u.i + 1 := by rw [Go.Proofs.add64 (by omega) (by omega)]
      rw [m2]
      exact ⟨⟨hll, by omega, by omega⟩, by omega⟩
/-! ### What bytes mean -/
theorem at0_get {d : Rows'} {j : Nat} (hB : allB d) (h : j < d.length) : cellI d j 0 = at0 (bI d) j ∧ 0 ≤ at0 (bI d) j ∧ at0 (bI d) j < 256 := by
  have hg := bI_get (d := d) (i := (j : Int)) (by omega) (by omega)
  rw [Int.toNat_natCast] at hg
  have e : at0 (bI d) j = cellI d j 0 := by rw [at0, List.getD_eq_getElem?_getD, hg]; rfl
  have := allB_list hB (at0 (bI d) j) (by rw [e]; exact List.mem_of_getElem? hg)
  exact ⟨e.symm, this⟩
theorem rowB_dgf {f : Nat → Int} : rowB (dgCells f) = (List.range 32).map f := List.map_congr_left fun j hj => dgCells_get (f := f) (List.mem_range.1 hj)
theorem decP_snoc {d X D : Rows'} {i l : Int} (hB : allB d) (h : decP (bI d) i l D) (hi : 0 ≤ i) (hx : rowL X 32 = chunk (bI d) i.toNat) : decP (bI d) (i + 1) (l + 1) (D ++ [dgCells (cellX X)]) := by
  obtain ⟨h1, h2, h3, h4⟩ := h
  have e : rowB (dgCells (cellX X)) = chunk (bI d) i.toNat := by rw [rowB_dgf]; exact hx
  refine ⟨by rw [List.length_append, List.length_singleton]; omega, by omega, fun row hr => ?_, ?_⟩
  · rcases List.mem_append.1 hr with hr | hr
    · exact h3 row hr
    · rw [List.mem_singleton.1 hr, e]
      exact ⟨by simp [dgCells], fun x hx => allB_list hB x (List.drop_subset _ _ (List.take_subset _ _ hx))⟩
  · rw [show (i + 1).toNat = i.toNat + 1 by omega, List.range_succ, List.map_append, ← h4, dgs, List.map_append]
    show _ ++ [rowB _] = _ ++ [chunk _ _]
    rw [e]; rfl
theorem decP_nil {m : List Int} : decP m 0 0 [] := ⟨rfl, rfl, fun r hr => (by cases hr), rfl⟩
end Go.Proofs

set_option linter.unusedSimpArgs false
set_option linter.unusedVariables false
namespace Go.Proofs
open Go Go.Eng
set_option maxRecDepth 20000
/-! ### The head -/
def short (m : List Int) (e : Int) (n : Nat) : Prop := e = 4 ∨ (e = 0 ∧ m.length < n)
theorem short_step {m : List Int} {e : Int} {w n : Nat} (h : short m e (n + w)) : short (rdNum m e w).2.2.1 (rdNum m e w).2.2.2 n := by
  rcases h with h | ⟨h, hl⟩
  · rw [h, rdNum, rd_err (by decide)]; exact .inl rfl
  · rw [h]
    by_cases hw : m.length < w
    · rw [rdNum_short hw]; exact .inl rfl
    · rw [rdNum_some (by omega)]
      exact .inr ⟨rfl, by rw [List.length_drop]; omega⟩
theorem val_one {m : List Int} {j : Nat} (h : j < m.length) : valL ((m.drop j).take 1) = at0 m j := by
  rw [List.drop_eq_getElem_cons h, at0, List.getD_eq_getElem?_getD, List.getElem?_eq_getElem h]
  show 0 * 256 + m[j] = m[j]
  omega
theorem val_two {m : List Int} {j : Nat} (h : j + 1 < m.length) : valL ((m.drop j).take 2) = at0 m j * 256 + at0 m (j + 1) := by
  have h0 : j < m.length := by omega
  rw [List.drop_eq_getElem_cons h0, List.drop_eq_getElem_cons h, at0, at0, List.getD_eq_getElem?_getD, List.getElem?_eq_getElem h0, List.getD_eq_getElem?_getD, List.getElem?_eq_getElem h]
  show (0 * 256 + m[j]) * 256 + m[j + 1] = m[j] * 256 + m[j + 1]
  omega
theorem decE_head {m : List Int} (h7 : 7 ≤ m.length) (h0 : at0 m 0 = 77) (h1 : at0 m 1 = 1) (hs : sizes3 (at0 m 2) (at0 m 3) (at0 m 4) = true) (hz : decS m ≤ 8192) : decE m = if (m.length : Int) < 39 + 32 * at0 m 4 then 4 else if 39 + 32 * at0 m 4 < (m.length : Int) then 5 else 0 := by
  rw [decE, if_neg (by omega), if_neg (fun h => h.elim (fun h => h h0) (fun h => h h1)), if_neg (fun h => h.elim (fun h => by rw [hs] at h; cases h) (fun h => by omega))]
theorem sizes3_t {k n t : Int} (h : sizes3 k n t = true) : 1 ≤ t ∧ t ≤ 255 := by
  have := of_decide_eq_true h
  omega
set_option maxHeartbeats 1600000 in
theorem decM_ok : decMC.ok Tryd.prog := decM_of (by simp [newReader_ok, rU8_ok, rU16_ok, err_ok, sizes3_ok, rDg_ok, endD_ok]) fun ρ hg hp => by
  obtain ⟨hl, hb1, hB⟩ := hp
  simp (config := { maxSteps := 4000000 }) [o_decM, decMC, decMI, decAlts, newReaderC, rU8C, rU16C, rNumFn, errC, sizes3C, rDgC, endC, rPre, rNow, rM, rdCells, inV, manT, cellsT]
  have hML : (bI (ρ 3).d).length = (ρ 3).d.length := bI_len
  refine ⟨⟨by omega, hl, by omega⟩, fun cu _ du _ hdu hcap => ⟨?_, ?_⟩⟩
  · rw [hdu] at hcap ⊢
    exact ⟨by omega, by omega, by omega, by omega, hB, by omega⟩
  have hM : segB du.d 0 (ρ 1).i = bI (ρ 3).d := by rw [hdu]; exact segB_all hl
  rw [hM]
  intro v _ o1 _ l1 _ c1 _ e1 _ hv hr1 hs1 he1 x1 y1
  refine ⟨⟨hr1, x1, y1⟩, fun k _ o2 _ l2 _ c2 _ e2 _ hk hr2 hs2 he2 x2 y2 => ⟨⟨hr2, x2, y2⟩, fun n _ o3 _ l3 _ c3 _ e3 _ hn hr3 hs3 he3 x3 y3 => ⟨⟨hr3, x3, y3⟩, fun t _ o4 _ l4 _ c4 _ e4 _ ht hr4 hs4 he4 x4 y4 => ⟨⟨hr4, x4, y4⟩, fun s _ o5 _ l5 _ c5 _ e5 _ hs hr5 hs5 he5 x5 y5 => ?_⟩⟩⟩⟩
  by_cases h7 : (bI (ρ 3).d).length < 7
  · have s1 : short (segB du.d o1.i l1.i) e1.i 5 := by rw [hs1, he1]; exact short_step (n := 5) (.inr ⟨rfl, h7⟩)
    have s2 : short (segB du.d o2.i l2.i) e2.i 4 := by rw [hs2, he2]; exact short_step (n := 4) s1
    have s3 : short (segB du.d o3.i l3.i) e3.i 3 := by rw [hs3, he3]; exact short_step (n := 3) s2
    have s4 : short (segB du.d o4.i l4.i) e4.i 2 := by rw [hs4, he4]; exact short_step (n := 2) s3
    have s5 : short (segB du.d o5.i l5.i) e5.i 0 := by rw [hs5, he5]; exact short_step (n := 0) s4
    have h4 : e5.i = 4 := s5.elim id fun h => by have := h.2; omega
    exact ⟨fun _ => ⟨by rw [h4, decE, if_pos h7], by omega⟩, fun h => by exfalso; omega⟩
  generalize hMM : bI (ρ 3).d = M at *
  have a0 : ∀ j, j < 7 → 0 ≤ at0 M j ∧ at0 M j < 256 := fun j hj => by
    have := (at0_get (d := (ρ 3).d) (j := j) hB (by omega)).2
    rwa [hMM] at this
  rw [rdNum_some (by omega)] at hv hs1 he1
  simp only at hv hs1 he1
  rw [hs1, he1, rdNum_some (by rw [List.length_drop]; omega), List.drop_drop] at hk hs2 he2
  simp only [Nat.reduceAdd] at hk hs2 he2
  rw [hs2, he2, rdNum_some (by rw [List.length_drop]; omega), List.drop_drop] at hn hs3 he3
  simp only [Nat.reduceAdd] at hn hs3 he3
  rw [hs3, he3, rdNum_some (by rw [List.length_drop]; omega), List.drop_drop] at ht hs4 he4
  simp only [Nat.reduceAdd] at ht hs4 he4
  rw [hs4, he4, rdNum_some (by rw [List.length_drop]; omega), List.drop_drop] at hs hs5 he5
  simp only [Nat.reduceAdd] at hs hs5 he5
  have W : ∀ {x : Int}, 0 ≤ x → x < 65536 → IntKind.i64.wrap x = x := fun a b => Go.Proofs.wrap64 (by omega) (by omega)
  have v2 : v.i = at0 M 0 * 256 + at0 M 1 := hv.trans (val_two (m := M) (j := 0) (by omega))
  have k1 : k.i = at0 M 2 := hk.trans (val_one (by omega))
  have n1 : n.i = at0 M 3 := hn.trans (val_one (by omega))
  have t1 : t.i = at0 M 4 := ht.trans (val_one (by omega))
  have s1 : s.i = decS M := hs.trans (val_two (by omega))
  have hS : decS M = at0 M 5 * 256 + at0 M 6 := rfl
  obtain ⟨p0, q0⟩ := a0 0 (by decide)
  obtain ⟨p1, q1⟩ := a0 1 (by decide)
  obtain ⟨p2, q2⟩ := a0 2 (by decide)
  obtain ⟨p3, q3⟩ := a0 3 (by decide)
  obtain ⟨p4, q4⟩ := a0 4 (by decide)
  obtain ⟨p5, q5⟩ := a0 5 (by decide)
  obtain ⟨p6, q6⟩ := a0 6 (by decide)
  rw [v2, k1, n1, t1, s1, W p2 (by omega), W p3 (by omega), W p4 (by omega), W (x := decS M) (by omega) (by omega)]
  refine ⟨fun h => by exfalso; omega, fun _ => ⟨fun h => ?_, fun hver => ?_⟩⟩
  · have hne : at0 M 0 ≠ 77 ∨ at0 M 1 ≠ 1 := by omega
    rw [decE, if_neg h7, if_pos hne]
  have hh0 : at0 M 0 = 77 := by omega
  have hh1 : at0 M 1 = 1 := by omega
  have n1 : ¬ (at0 M 0 ≠ 77 ∨ at0 M 1 ≠ 1) := fun h => h.elim (fun h => h hh0) (fun h => h hh1)
  refine fun z _ hz => ⟨fun hf => by rw [decE, if_neg h7, if_neg n1, if_pos (.inl (by rw [← hz]; exact hf))], fun hzt => ⟨fun hbig => by rw [decE, if_neg h7, if_neg n1, if_pos (.inr hbig)], fun hle => ⟨⟨hr5, x5, y5⟩, fun O _ o6 _ l6 _ c6 _ e6 _ hO hr6 hs6 he6 x6 y6 => ⟨⟨⟨rfl, rfl, rfl, rfl⟩, by rw [← hz]; exact hzt, hle, by omega, hh0, hh1, p4, ⟨hr6.2.1, fun _ => hr6⟩, ?_⟩, ?_⟩⟩⟩⟩
  · rw [hz] at hzt
    obtain ⟨tl, tu⟩ := sizes3_t hzt
    rw [hs5, he5] at hO hs6 he6
    by_cases h39 : M.length < 39
    · rw [rd_short (by decide) (by rw [List.length_drop]; omega)] at he6
      exact .inr ⟨he6, by omega⟩
    · rw [rd_some (by decide) (by rw [List.length_drop]; omega)] at hO hs6 he6
      exact .inl ⟨he6, by omega, by rw [hs6]; show List.drop (32 : Int).toNat (List.drop 7 M) = _; rw [List.drop_drop]; rfl, hO, decP_nil⟩
  intro K _ N _ T _ Z _ OO _ L _ D _ o _ l _ c _ e _ dd _ cp _ i _ dH hsz hz8 hl7 _ _ i0 i1 hLD hLi hin hst
  obtain ⟨tl, tu⟩ := sizes3_t hsz
  refine ⟨fun hlt hc => ⟨⟨hin.2 hc, by omega, by omega⟩, fun X _ o' _ l' _ c' _ e' _ hX hr hs' he' x' y' => ?_⟩, fun hge hc => ⟨hin.1, fun u _ hu => ?_⟩⟩
  · have m1 : arithOf .add .i64 i.i 1 = i.i + 1 := by rw [Go.Proofs.add64 (by omega) (by omega)]
    rw [m1]
    refine ⟨hLD, by omega, ⟨dH, hsz, hz8, hl7, hh0, hh1, by omega, by omega, hLD, by omega, ⟨hr.2.1, fun _ => hr⟩, ?_⟩, by omega⟩
    rcases hst with ⟨he, hle', hseg, dO, dP⟩ | ⟨he, hsh⟩
    · rw [hseg, he] at hX hs' he'
      by_cases h39 : (M.length : Int) < 39 + 32 * (i.i + 1)
      · rw [rd_short (by decide) (by rw [List.length_drop]; omega)] at he'
        exact .inr ⟨he', by omega⟩
      · rw [rd_some (by decide) (by rw [List.length_drop]; omega)] at hX hs' he'
        refine .inl ⟨he', by omega, ?_, dO, ?_⟩
        · rw [hs']
          show List.drop (32 : Int).toNat (List.drop _ M) = _
          rw [List.drop_drop]
          congr 1
          omega
        · rw [← hMM] at dP hX ⊢
          refine decP_snoc hB dP i0 (hX.trans ?_)
          show List.take (32 : Int).toNat (List.drop _ _) = _
          rw [chunk, show (39 + 32 * i.i).toNat = 39 + 32 * i.i.toNat by omega]
          rfl
    · rw [he, rd_err (by decide)] at he'
      exact .inr ⟨he', hsh⟩
  · have hT : T.i = at0 M 4 := dH.2.2.1
    have hiT : i.i = T.i := by omega
    have hE := decE_head (m := M) (by omega) hh0 hh1 (by rw [← dH.1, ← dH.2.1, ← hT]; exact hsz) (by rw [← dH.2.2.2]; exact hz8)
    rcases hst with ⟨he, hle', hseg, dO, dP⟩ | ⟨he, hsh⟩
    · have hlen := congrArg List.length hseg
      rw [sg_len (hin.2 hc), List.length_drop] at hlen
      have hl0 := (hin.2 hc).2.1
      rw [he, endE, if_neg (by decide)] at hu
      by_cases hpos : 0 < l.i
      · rw [if_pos hpos] at hu
        rw [if_neg (by omega), if_pos (by omega)] at hE
        exact ⟨fun _ => ⟨by omega, by omega⟩, fun h => by exfalso; omega⟩
      · rw [if_neg hpos] at hu
        rw [if_neg (by omega), if_neg (by omega)] at hE
        exact ⟨fun h => by exfalso; omega, fun _ => ⟨hE, dH, dO, by rw [← hT, ← hiT]; exact dP⟩⟩
    · rw [he, endE, if_pos (by decide)] at hu
      rw [if_pos (by omega)] at hE
      exact ⟨fun _ => ⟨by omega, by omega⟩, fun h => by exfalso; omega⟩
end Go.Proofs

set_option linter.unusedSimpArgs false
set_option linter.unusedVariables false
namespace Go.Eng
open Go Go.Proofs
/-- A manifest argument: variables r .. r + 9. -/
def manIn (ρ : Env) (r : Nat) : Prop := i64P (ρ r).i ∧ i64P (ρ (r + 1)).i ∧ i64P (ρ (r + 2)).i ∧ i64P (ρ (r + 3)).i ∧ allM (rowL (ρ (r + 4)).d 32) ∧ (ρ (r + 6)).i = (ρ (r + 8)).d.length ∧ (ρ (r + 6)).i ≤ 4398046510976 ∧ dgsOk (ρ (r + 8)).d
def ownC : Ctr := { fn := 35, nv := 10, args := [manV], heap := [], ro := [dgsHp 5 8 9], pre := fun ρ => (ρ 6).i = (ρ 8).d.length ∧ (ρ 6).i ≤ 4398046510976, alts := [
  { k := 3, ret := .agg (manT 0 1 2 3 4 10 6 11), heap := [dgsHp 10 12 11], post := fun ρ => (ρ 12).d = (ρ 8).d }] }
def lawManifestBackC : Ctr := { fn := 16, nv := 17, ip := [gIp 15], args := [manV, bS 10], heap := [], ro := [dgsHp 5 8 9, bSHp 10, gHp 15 16], pre := fun ρ => manIn ρ 0 ∧ bSIn ρ 10 ∧ gOk ρ 15 16 gR, alts := [lawTrue] }
/-! ### The document's bytes and ids -/
end Go.Eng

set_option linter.unusedSimpArgs false
set_option linter.unusedVariables false
set_option maxRecDepth 100000
namespace Go.Proofs
open Go Go.Eng

def o_own : Out := (.fresh 10 (.fresh 11 (.fresh 12 (.need (.cmp .leq (.lit (0)) (.var 6)) (.need (.cmp .leq (.var 6) (.dlen (.var 8))) (.need (.cmp .leq (.tims (.lit (32)) (.var 6)) (.lit (140737488355328))) (.fresh 13 (.fresh 14 (.ret 0 ⟨10, [(12, (.t (.dtake (.var 8) (.var 6)))), (11, (.t (.var 14))), (10, (.r 13))], [((.var 11), (.var 14)), ((.var 6), (.var 6)), ((.lit (0)), (.lit (0))), ((.c2 (.xint 31) (.var 4) (.lit (0))), (.c2 (.xint 31) (.var 4) (.lit (0)))), ((.c2 (.xint 30) (.var 4) (.lit (0))), (.c2 (.xint 30) (.var 4) (.lit (0)))), ((.c2 (.xint 29) (.var 4) (.lit (0))), (.c2 (.xint 29) (.var 4) (.lit (0)))), ((.c2 (.xint 28) (.var 4) (.lit (0))), (.c2 (.xint 28) (.var 4) (.lit (0)))), ((.c2 (.xint 27) (.var 4) (.lit (0))), (.c2 (.xint 27) (.var 4) (.lit (0)))), ((.c2 (.xint 26) (.var 4) (.lit (0))), (.c2 (.xint 26) (.var 4) (.lit (0)))), ((.c2 (.xint 25) (.var 4) (.lit (0))), (.c2 (.xint 25) (.var 4) (.lit (0)))), ((.c2 (.xint 24) (.var 4) (.lit (0))), (.c2 (.xint 24) (.var 4) (.lit (0)))), ((.c2 (.xint 23) (.var 4) (.lit (0))), (.c2 (.xint 23) (.var 4) (.lit (0)))), ((.c2 (.xint 22) (.var 4) (.lit (0))), (.c2 (.xint 22) (.var 4) (.lit (0)))), ((.c2 (.xint 21) (.var 4) (.lit (0))), (.c2 (.xint 21) (.var 4) (.lit (0)))), ((.c2 (.xint 20) (.var 4) (.lit (0))), (.c2 (.xint 20) (.var 4) (.lit (0)))), ((.c2 (.xint 19) (.var 4) (.lit (0))), (.c2 (.xint 19) (.var 4) (.lit (0)))), ((.c2 (.xint 18) (.var 4) (.lit (0))), (.c2 (.xint 18) (.var 4) (.lit (0)))), ((.c2 (.xint 17) (.var 4) (.lit (0))), (.c2 (.xint 17) (.var 4) (.lit (0)))), ((.c2 (.xint 16) (.var 4) (.lit (0))), (.c2 (.xint 16) (.var 4) (.lit (0)))), ((.c2 (.xint 15) (.var 4) (.lit (0))), (.c2 (.xint 15) (.var 4) (.lit (0)))), ((.c2 (.xint 14) (.var 4) (.lit (0))), (.c2 (.xint 14) (.var 4) (.lit (0)))), ((.c2 (.xint 13) (.var 4) (.lit (0))), (.c2 (.xint 13) (.var 4) (.lit (0)))), ((.c2 (.xint 12) (.var 4) (.lit (0))), (.c2 (.xint 12) (.var 4) (.lit (0)))), ((.c2 (.xint 11) (.var 4) (.lit (0))), (.c2 (.xint 11) (.var 4) (.lit (0)))), ((.c2 (.xint 10) (.var 4) (.lit (0))), (.c2 (.xint 10) (.var 4) (.lit (0)))), ((.c2 (.xint 9) (.var 4) (.lit (0))), (.c2 (.xint 9) (.var 4) (.lit (0)))), ((.c2 (.xint 8) (.var 4) (.lit (0))), (.c2 (.xint 8) (.var 4) (.lit (0)))), ((.c2 (.xint 7) (.var 4) (.lit (0))), (.c2 (.xint 7) (.var 4) (.lit (0)))), ((.c2 (.xint 6) (.var 4) (.lit (0))), (.c2 (.xint 6) (.var 4) (.lit (0)))), ((.c2 (.xint 5) (.var 4) (.lit (0))), (.c2 (.xint 5) (.var 4) (.lit (0)))), ((.c2 (.xint 4) (.var 4) (.lit (0))), (.c2 (.xint 4) (.var 4) (.lit (0)))), ((.c2 (.xint 3) (.var 4) (.lit (0))), (.c2 (.xint 3) (.var 4) (.lit (0)))), ((.c2 (.xint 2) (.var 4) (.lit (0))), (.c2 (.xint 2) (.var 4) (.lit (0)))), ((.c2 (.xint 1) (.var 4) (.lit (0))), (.c2 (.xint 1) (.var 4) (.lit (0)))), ((.c2 (.xint 0) (.var 4) (.lit (0))), (.c2 (.xint 0) (.var 4) (.lit (0)))), ((.var 3), (.var 3)), ((.var 2), (.var 2)), ((.var 1), (.var 1)), ((.var 0), (.var 0))], [], []⟩)))))))))
theorem o_own_eq : treeOf ⟨Tryd.prog, ownC, [], []⟩ 100000 Tryd.f35 = o_own := by kernel_rfl
theorem own_of (hd : ∀ c ∈ ([] : List Ctr), c.ok Tryd.prog) (h : ∀ ρ : Env, ρ.good → (ownC).pre ρ → o_own.den ⟨Tryd.prog, ownC, [], []⟩ ρ) : (ownC).ok Tryd.prog :=
  ok_of_tree Tryd.func35 (fun a w => Tryd.call35 a w) hd 100000 (fun ρ hg hp => by rw [o_own_eq]; exact h ρ hg hp)
def o_lawManifestBack : Out := (.fresh 17 (.need (.cmp .leq (.lit (0)) (.var 6)) (.br (.cmp .gtr (.var 6) (.lit (400)))
 (.pre 0 ⟨0, [(1, (.t (.var 16))), (0, (.r 15))], [((.lit (1)), (.lit (1)))], [], []⟩ (.both (.post 0 0 ⟨0, [(1, (.t (.var 16))), (0, (.r 15))], [((.lit (1)), (.lit (1)))], [], []⟩ 18 (.ret 0 ⟨17, [], [], [((.bl true), (.bl true))], []⟩)) .top))
 (.need (.cmp .leq (.lit (0)) (.var 11)) (.br (.cmp .gtr (.var 11) (.lit (20000)))
 (.pre 0 ⟨0, [(1, (.t (.var 16))), (0, (.r 15))], [((.lit (1)), (.lit (1)))], [], []⟩ (.both (.post 0 0 ⟨0, [(1, (.t (.var 16))), (0, (.r 15))], [((.lit (1)), (.lit (1)))], [], []⟩ 18 (.ret 0 ⟨17, [], [], [((.bl true), (.bl true))], []⟩)) .top))
 (.pre 1 ⟨0, [(9, (.t (.var 9))), (8, (.t (.var 8))), (7, (.t (.var 7))), (6, (.t (.var 6))), (5, (.r 5)), (3, (.t (.var 3))), (2, (.t (.var 2))), (1, (.t (.var 1))), (0, (.t (.var 0))), (4, (.t (r8 4)))], [((.lit (0)), (.lit (0)))], [], []⟩ (.both (.fresh 18 (.fresh 19 (.fresh 20 (.post 1 0 ⟨0, [(9, (.t (.var 9))), (8, (.t (.var 8))), (7, (.t (.var 7))), (6, (.t (.var 6))), (5, (.r 5)), (3, (.t (.var 3))), (2, (.t (.var 2))), (1, (.t (.var 1))), (0, (.t (.var 0))), (4, (.t (r8 4)))], [((.lit (0)), (.lit (0)))], [], []⟩ 18 (.pre 2 ⟨0, [(9, (.t (.var 19))), (8, (.t (.var 20))), (7, (.t (.var 19))), (6, (.t (.var 6))), (5, (.r 18)), (3, (.t (.var 3))), (2, (.t (.var 2))), (1, (.t (.var 1))), (0, (.t (.var 0))), (4, (.t (s8 4)))], [((.lit (0)), (.lit (0)))], [], []⟩ (.both (.fresh 21 (.post 2 0 ⟨0, [(9, (.t (.var 19))), (8, (.t (.var 20))), (7, (.t (.var 19))), (6, (.t (.var 6))), (5, (.r 18)), (3, (.t (.var 3))), (2, (.t (.var 2))), (1, (.t (.var 1))), (0, (.t (.var 0))), (4, (.t (s8 4)))], [((.lit (0)), (.lit (0)))], [], []⟩ 21 (.br (.cmp .eql (.var 21) (.lit (0)))
 (.pre 1 ⟨0, [(9, (.t (.var 9))), (8, (.t (.var 8))), (7, (.t (.var 7))), (6, (.t (.var 6))), (5, (.r 5)), (3, (.t (.var 3))), (2, (.t (.var 2))), (1, (.t (.var 1))), (0, (.t (.var 0))), (4, (.t (r8 4)))], [((.lit (0)), (.lit (0)))], [], []⟩ (.both (.fresh 22 (.fresh 23 (.fresh 24 (.post 1 0 ⟨0, [(9, (.t (.var 9))), (8, (.t (.var 8))), (7, (.t (.var 7))), (6, (.t (.var 6))), (5, (.r 5)), (3, (.t (.var 3))), (2, (.t (.var 2))), (1, (.t (.var 1))), (0, (.t (.var 0))), (4, (.t (r8 4)))], [((.lit (0)), (.lit (0)))], [], []⟩ 22 (.pre 3 ⟨0, [(9, (.t (.var 23))), (8, (.t (.var 24))), (7, (.t (.var 23))), (6, (.t (.var 6))), (5, (.r 22)), (3, (.t (.var 3))), (2, (.t (.var 2))), (1, (.t (.var 1))), (0, (.t (.var 0))), (4, (.t (s8 4)))], [((.lit (0)), (.lit (0)))], [], []⟩ (.both (.post 3 0 ⟨0, [(9, (.t (.var 23))), (8, (.t (.var 24))), (7, (.t (.var 23))), (6, (.t (.var 6))), (5, (.r 22)), (3, (.t (.var 3))), (2, (.t (.var 2))), (1, (.t (.var 1))), (0, (.t (.var 0))), (4, (.t (s8 4)))], [((.lit (0)), (.lit (0)))], [], []⟩ 25 (.pre 4 ⟨0, [(4, (.t (.lit (0)))), (3, (.t .dnil)), (2, (.t (.lit (0)))), (1, (.t (.lit (0)))), (0, .nil)], [((.lit (0)), (.lit (0)))], [], []⟩ (.both (.fresh 25 (.post 4 0 ⟨0, [(4, (.t (.lit (0)))), (3, (.t .dnil)), (2, (.t (.lit (0)))), (1, (.t (.lit (0)))), (0, .nil)], [((.lit (0)), (.lit (0)))], [], []⟩ 25 (.fresh 26 (.stuck 7 0 0)))) (.both (.fresh 25 (.fresh 26 (.fresh 27 (.fresh 28 (.fresh 29 (.fresh 30 (.fresh 31 (.fresh 32 (.fresh 33 (.post 4 1 ⟨0, [(4, (.t (.lit (0)))), (3, (.t .dnil)), (2, (.t (.lit (0)))), (1, (.t (.lit (0)))), (0, .nil)], [((.lit (0)), (.lit (0)))], [], []⟩ 25 (.fresh 34 (.stuck 7 0 0)))))))))))) .top)))) (.both (.fresh 25 (.fresh 26 (.fresh 27 (.fresh 28 (.post 3 1 ⟨0, [(9, (.t (.var 23))), (8, (.t (.var 24))), (7, (.t (.var 23))), (6, (.t (.var 6))), (5, (.r 22)), (3, (.t (.var 3))), (2, (.t (.var 2))), (1, (.t (.var 1))), (0, (.t (.var 0))), (4, (.t (s8 4)))], [((.lit (0)), (.lit (0)))], [], []⟩ 25 (.pre 4 ⟨0, [(4, (.t (.var 27))), (3, (.t (.var 28))), (2, (.t (.var 27))), (1, (.t (.var 26))), (0, (.r 25))], [((.lit (0)), (.lit (0)))], [], []⟩ (.both (.fresh 29 (.post 4 0 ⟨0, [(4, (.t (.var 27))), (3, (.t (.var 28))), (2, (.t (.var 27))), (1, (.t (.var 26))), (0, (.r 25))], [((.lit (0)), (.lit (0)))], [], []⟩ 29 (.fresh 30 (.br (.cmp .neq (.var 29) (.lit (0)))
 (.stuck 7 0 0)
 (.pre 5 ⟨0, [(19, (.t (.lit (0)))), (18, (.t .dnil)), (17, (.t (.var 9))), (16, (.t (.var 8))), (15, (.t (.lit (0)))), (14, (.t (.lit (0)))), (13, .nil), (11, (.t (.lit (0)))), (10, (.t (.lit (0)))), (9, (.t (.lit (0)))), (8, (.t (.lit (0)))), (12, (.t z8)), (7, (.t (.var 7))), (6, (.t (.var 6))), (5, (.r 5)), (3, (.t (.var 3))), (2, (.t (.var 2))), (1, (.t (.var 1))), (0, (.t (.var 0))), (4, (.t (r8 4)))], [((.lit (0)), (.lit (0))), ((.lit (0)), (.lit (0)))], [], []⟩ (.both (.fresh 31 (.post 5 0 ⟨0, [(19, (.t (.lit (0)))), (18, (.t .dnil)), (17, (.t (.var 9))), (16, (.t (.var 8))), (15, (.t (.lit (0)))), (14, (.t (.lit (0)))), (13, .nil), (11, (.t (.lit (0)))), (10, (.t (.lit (0)))), (9, (.t (.lit (0)))), (8, (.t (.lit (0)))), (12, (.t z8)), (7, (.t (.var 7))), (6, (.t (.var 6))), (5, (.r 5)), (3, (.t (.var 3))), (2, (.t (.var 2))), (1, (.t (.var 1))), (0, (.t (.var 0))), (4, (.t (r8 4)))], [((.lit (0)), (.lit (0))), ((.lit (0)), (.lit (0)))], [], []⟩ 31 (.br (.not (.var 31))
 (.stuck 7 0 0)
 (.fresh 32 (.need (.cmp .leq (.var 11) (.dlen (.var 13))) (.need (.cmp .leq (.tims (.lit (1)) (.var 11)) (.lit (140737488355328))) (.fresh 33 (.fresh 34 (.pre 4 ⟨0, [(4, (.t (.var 34))), (3, (.t (.dtake (.var 13) (.var 11)))), (2, (.t (.var 34))), (1, (.t (.var 11))), (0, (.r 33))], [((.lit (0)), (.lit (0)))], [], []⟩ (.both (.fresh 35 (.post 4 0 ⟨0, [(4, (.t (.var 34))), (3, (.t (.dtake (.var 13) (.var 11)))), (2, (.t (.var 34))), (1, (.t (.var 11))), (0, (.r 33))], [((.lit (0)), (.lit (0)))], [], []⟩ 35 (.fresh 36 (.br (.cmp .neq (.var 35) (.lit (0)))
 (.pre 0 ⟨0, [(1, (.t (.var 16))), (0, (.r 15))], [((.lit (1)), (.lit (1)))], [], []⟩ (.both (.post 0 0 ⟨0, [(1, (.t (.var 16))), (0, (.r 15))], [((.lit (1)), (.lit (1)))], [], []⟩ 37 (.ret 0 ⟨17, [], [], [((.bl true), (.bl true))], []⟩)) .top))
 (.pre 3 ⟨0, [(9, (.t (.lit (0)))), (8, (.t .dnil)), (7, (.t (.lit (0)))), (6, (.t (.lit (0)))), (5, .nil), (3, (.t (.lit (0)))), (2, (.t (.lit (0)))), (1, (.t (.lit (0)))), (0, (.t (.lit (0)))), (4, (.t z8))], [((.lit (0)), (.lit (0)))], [], []⟩ (.both (.post 3 0 ⟨0, [(9, (.t (.lit (0)))), (8, (.t .dnil)), (7, (.t (.lit (0)))), (6, (.t (.lit (0)))), (5, .nil), (3, (.t (.lit (0)))), (2, (.t (.lit (0)))), (1, (.t (.lit (0)))), (0, (.t (.lit (0)))), (4, (.t z8))], [((.lit (0)), (.lit (0)))], [], []⟩ 37 (.pre 2 ⟨0, [(9, (.t (.lit (0)))), (8, (.t .dnil)), (7, (.t (.lit (0)))), (6, (.t (.lit (0)))), (5, .nil), (3, (.t (.lit (0)))), (2, (.t (.lit (0)))), (1, (.t (.lit (0)))), (0, (.t (.lit (0)))), (4, (.t z8))], [((.lit (0)), (.lit (0)))], [], []⟩ (.both (.fresh 37 (.post 2 0 ⟨0, [(9, (.t (.lit (0)))), (8, (.t .dnil)), (7, (.t (.lit (0)))), (6, (.t (.lit (0)))), (5, .nil), (3, (.t (.lit (0)))), (2, (.t (.lit (0)))), (1, (.t (.lit (0)))), (0, (.t (.lit (0)))), (4, (.t z8))], [((.lit (0)), (.lit (0)))], [], []⟩ 37 (.br (.cmp .eql (.var 37) (.lit (0)))
 (.stuck 7 0 0)
 (.stuck 7 0 0)))) .top))) (.both (.fresh 37 (.fresh 38 (.fresh 39 (.fresh 40 (.post 3 1 ⟨0, [(9, (.t (.lit (0)))), (8, (.t .dnil)), (7, (.t (.lit (0)))), (6, (.t (.lit (0)))), (5, .nil), (3, (.t (.lit (0)))), (2, (.t (.lit (0)))), (1, (.t (.lit (0)))), (0, (.t (.lit (0)))), (4, (.t z8))], [((.lit (0)), (.lit (0)))], [], []⟩ 37 (.pre 2 ⟨0, [(9, (.t (.lit (0)))), (8, (.t .dnil)), (7, (.t (.lit (0)))), (6, (.t (.lit (0)))), (5, .nil), (3, (.t (.lit (0)))), (2, (.t (.lit (0)))), (1, (.t (.lit (0)))), (0, (.t (.lit (0)))), (4, (.t z8))], [((.lit (0)), (.lit (0)))], [], []⟩ (.both (.fresh 41 (.post 2 0 ⟨0, [(9, (.t (.lit (0)))), (8, (.t .dnil)), (7, (.t (.lit (0)))), (6, (.t (.lit (0)))), (5, .nil), (3, (.t (.lit (0)))), (2, (.t (.lit (0)))), (1, (.t (.lit (0)))), (0, (.t (.lit (0)))), (4, (.t z8))], [((.lit (0)), (.lit (0)))], [], []⟩ 41 (.br (.cmp .eql (.var 41) (.lit (0)))
 (.need (.cmp .leq (.lit (0)) (.var 38)) (.need (.cmp .leq (.var 38) (.dlen (.var 40))) (.br (.c2 .veq (.c1 .vbytes (.dtake (.var 40) (.var 38))) (.c1 .vbytes (.dtake (.var 13) (.var 11))))
 (.pre 0 ⟨0, [(1, (.t (.var 16))), (0, (.r 15))], [((.lit (1)), (.lit (1)))], [], []⟩ (.both (.post 0 0 ⟨0, [(1, (.t (.var 16))), (0, (.r 15))], [((.lit (1)), (.lit (1)))], [], []⟩ 42 (.ret 0 ⟨17, [], [], [((.bl true), (.bl true))], []⟩)) .top))
 (.stuck 7 0 0))))
 (.stuck 7 0 0)))) .top))))))) .top))))))) (.both (.fresh 35 (.fresh 36 (.fresh 37 (.fresh 38 (.fresh 39 (.fresh 40 (.fresh 41 (.fresh 42 (.fresh 43 (.post 4 1 ⟨0, [(4, (.t (.var 34))), (3, (.t (.dtake (.var 13) (.var 11)))), (2, (.t (.var 34))), (1, (.t (.var 11))), (0, (.r 33))], [((.lit (0)), (.lit (0)))], [], []⟩ 35 (.fresh 44 (.pre 3 ⟨0, [(9, (.t (.var 42))), (8, (.t (.var 43))), (7, (.t (.var 42))), (6, (.t (.var 41))), (5, (.r 40)), (3, (.t (.var 38))), (2, (.t (.var 37))), (1, (.t (.var 36))), (0, (.t (.var 35))), (4, (.t (r8 39)))], [((.lit (0)), (.lit (0)))], [], []⟩ (.both (.post 3 0 ⟨0, [(9, (.t (.var 42))), (8, (.t (.var 43))), (7, (.t (.var 42))), (6, (.t (.var 41))), (5, (.r 40)), (3, (.t (.var 38))), (2, (.t (.var 37))), (1, (.t (.var 36))), (0, (.t (.var 35))), (4, (.t (r8 39)))], [((.lit (0)), (.lit (0)))], [], []⟩ 45 (.pre 2 ⟨0, [(9, (.t (.var 42))), (8, (.t (.var 43))), (7, (.t (.var 42))), (6, (.t (.var 41))), (5, (.r 40)), (3, (.t (.var 38))), (2, (.t (.var 37))), (1, (.t (.var 36))), (0, (.t (.var 35))), (4, (.t (r8 39)))], [((.lit (0)), (.lit (0)))], [], []⟩ (.both (.fresh 45 (.post 2 0 ⟨0, [(9, (.t (.var 42))), (8, (.t (.var 43))), (7, (.t (.var 42))), (6, (.t (.var 41))), (5, (.r 40)), (3, (.t (.var 38))), (2, (.t (.var 37))), (1, (.t (.var 36))), (0, (.t (.var 35))), (4, (.t (r8 39)))], [((.lit (0)), (.lit (0)))], [], []⟩ 45 (.br (.cmp .eql (.var 45) (.lit (0)))
 (.stuck 7 0 0)
 (.stuck 7 0 0)))) .top))) (.both (.fresh 45 (.fresh 46 (.fresh 47 (.fresh 48 (.post 3 1 ⟨0, [(9, (.t (.var 42))), (8, (.t (.var 43))), (7, (.t (.var 42))), (6, (.t (.var 41))), (5, (.r 40)), (3, (.t (.var 38))), (2, (.t (.var 37))), (1, (.t (.var 36))), (0, (.t (.var 35))), (4, (.t (r8 39)))], [((.lit (0)), (.lit (0)))], [], []⟩ 45 (.pre 2 ⟨0, [(9, (.t (.var 42))), (8, (.t (.var 43))), (7, (.t (.var 42))), (6, (.t (.var 41))), (5, (.r 40)), (3, (.t (.var 38))), (2, (.t (.var 37))), (1, (.t (.var 36))), (0, (.t (.var 35))), (4, (.t (r8 39)))], [((.lit (0)), (.lit (0)))], [], []⟩ (.both (.fresh 49 (.post 2 0 ⟨0, [(9, (.t (.var 42))), (8, (.t (.var 43))), (7, (.t (.var 42))), (6, (.t (.var 41))), (5, (.r 40)), (3, (.t (.var 38))), (2, (.t (.var 37))), (1, (.t (.var 36))), (0, (.t (.var 35))), (4, (.t (r8 39)))], [((.lit (0)), (.lit (0)))], [], []⟩ 49 (.br (.cmp .eql (.var 49) (.lit (0)))
 (.need (.cmp .leq (.lit (0)) (.var 46)) (.need (.cmp .leq (.var 46) (.dlen (.var 48))) (.br (.c2 .veq (.c1 .vbytes (.dtake (.var 48) (.var 46))) (.c1 .vbytes (.dtake (.var 13) (.var 11))))
 (.pre 0 ⟨0, [(1, (.t (.var 16))), (0, (.r 15))], [((.lit (1)), (.lit (1)))], [], []⟩ (.both (.post 0 0 ⟨0, [(1, (.t (.var 16))), (0, (.r 15))], [((.lit (1)), (.lit (1)))], [], []⟩ 50 (.ret 0 ⟨17, [], [], [((.bl true), (.bl true))], []⟩)) .top))
 (.stuck 7 0 0))))
 (.stuck 7 0 0)))) .top))))))) .top)))))))))))))) .top))))))))))) .top)))))) (.both (.fresh 29 (.fresh 30 (.fresh 31 (.fresh 32 (.fresh 33 (.fresh 34 (.fresh 35 (.fresh 36 (.fresh 37 (.post 4 1 ⟨0, [(4, (.t (.var 27))), (3, (.t (.var 28))), (2, (.t (.var 27))), (1, (.t (.var 26))), (0, (.r 25))], [((.lit (0)), (.lit (0)))], [], []⟩ 29 (.fresh 38 (.pre 5 ⟨0, [(19, (.t (.var 36))), (18, (.t (.var 37))), (17, (.t (.var 9))), (16, (.t (.var 8))), (15, (.t (.var 36))), (14, (.t (.var 35))), (13, (.r 34)), (11, (.t (.var 32))), (10, (.t (.var 31))), (9, (.t (.var 30))), (8, (.t (.var 29))), (12, (.t (r8 33))), (7, (.t (.var 7))), (6, (.t (.var 6))), (5, (.r 5)), (3, (.t (.var 3))), (2, (.t (.var 2))), (1, (.t (.var 1))), (0, (.t (.var 0))), (4, (.t (r8 4)))], [((.lit (0)), (.lit (0))), ((.lit (0)), (.lit (0)))], [], []⟩ (.both (.fresh 39 (.post 5 0 ⟨0, [(19, (.t (.var 36))), (18, (.t (.var 37))), (17, (.t (.var 9))), (16, (.t (.var 8))), (15, (.t (.var 36))), (14, (.t (.var 35))), (13, (.r 34)), (11, (.t (.var 32))), (10, (.t (.var 31))), (9, (.t (.var 30))), (8, (.t (.var 29))), (12, (.t (r8 33))), (7, (.t (.var 7))), (6, (.t (.var 6))), (5, (.r 5)), (3, (.t (.var 3))), (2, (.t (.var 2))), (1, (.t (.var 1))), (0, (.t (.var 0))), (4, (.t (r8 4)))], [((.lit (0)), (.lit (0))), ((.lit (0)), (.lit (0)))], [], []⟩ 39 (.br (.not (.var 39))
 (.stuck 7 0 0)
 (.fresh 40 (.need (.cmp .leq (.var 11) (.dlen (.var 13))) (.need (.cmp .leq (.tims (.lit (1)) (.var 11)) (.lit (140737488355328))) (.fresh 41 (.fresh 42 (.pre 4 ⟨0, [(4, (.t (.var 42))), (3, (.t (.dtake (.var 13) (.var 11)))), (2, (.t (.var 42))), (1, (.t (.var 11))), (0, (.r 41))], [((.lit (0)), (.lit (0)))], [], []⟩ (.both (.fresh 43 (.post 4 0 ⟨0, [(4, (.t (.var 42))), (3, (.t (.dtake (.var 13) (.var 11)))), (2, (.t (.var 42))), (1, (.t (.var 11))), (0, (.r 41))], [((.lit (0)), (.lit (0)))], [], []⟩ 43 (.fresh 44 (.br (.cmp .neq (.var 43) (.lit (0)))
 (.pre 0 ⟨0, [(1, (.t (.var 16))), (0, (.r 15))], [((.lit (1)), (.lit (1)))], [], []⟩ (.both (.post 0 0 ⟨0, [(1, (.t (.var 16))), (0, (.r 15))], [((.lit (1)), (.lit (1)))], [], []⟩ 45 (.ret 0 ⟨17, [], [], [((.bl true), (.bl true))], []⟩)) .top))
 (.pre 3 ⟨0, [(9, (.t (.lit (0)))), (8, (.t .dnil)), (7, (.t (.lit (0)))), (6, (.t (.lit (0)))), (5, .nil), (3, (.t (.lit (0)))), (2, (.t (.lit (0)))), (1, (.t (.lit (0)))), (0, (.t (.lit (0)))), (4, (.t z8))], [((.lit (0)), (.lit (0)))], [], []⟩ (.both (.post 3 0 ⟨0, [(9, (.t (.lit (0)))), (8, (.t .dnil)), (7, (.t (.lit (0)))), (6, (.t (.lit (0)))), (5, .nil), (3, (.t (.lit (0)))), (2, (.t (.lit (0)))), (1, (.t (.lit (0)))), (0, (.t (.lit (0)))), (4, (.t z8))], [((.lit (0)), (.lit (0)))], [], []⟩ 45 (.pre 2 ⟨0, [(9, (.t (.lit (0)))), (8, (.t .dnil)), (7, (.t (.lit (0)))), (6, (.t (.lit (0)))), (5, .nil), (3, (.t (.lit (0)))), (2, (.t (.lit (0)))), (1, (.t (.lit (0)))), (0, (.t (.lit (0)))), (4, (.t z8))], [((.lit (0)), (.lit (0)))], [], []⟩ (.both (.fresh 45 (.post 2 0 ⟨0, [(9, (.t (.lit (0)))), (8, (.t .dnil)), (7, (.t (.lit (0)))), (6, (.t (.lit (0)))), (5, .nil), (3, (.t (.lit (0)))), (2, (.t (.lit (0)))), (1, (.t (.lit (0)))), (0, (.t (.lit (0)))), (4, (.t z8))], [((.lit (0)), (.lit (0)))], [], []⟩ 45 (.br (.cmp .eql (.var 45) (.lit (0)))
 (.stuck 7 0 0)
 (.stuck 7 0 0)))) .top))) (.both (.fresh 45 (.fresh 46 (.fresh 47 (.fresh 48 (.post 3 1 ⟨0, [(9, (.t (.lit (0)))), (8, (.t .dnil)), (7, (.t (.lit (0)))), (6, (.t (.lit (0)))), (5, .nil), (3, (.t (.lit (0)))), (2, (.t (.lit (0)))), (1, (.t (.lit (0)))), (0, (.t (.lit (0)))), (4, (.t z8))], [((.lit (0)), (.lit (0)))], [], []⟩ 45 (.pre 2 ⟨0, [(9, (.t (.lit (0)))), (8, (.t .dnil)), (7, (.t (.lit (0)))), (6, (.t (.lit (0)))), (5, .nil), (3, (.t (.lit (0)))), (2, (.t (.lit (0)))), (1, (.t (.lit (0)))), (0, (.t (.lit (0)))), (4, (.t z8))], [((.lit (0)), (.lit (0)))], [], []⟩ (.both (.fresh 49 (.post 2 0 ⟨0, [(9, (.t (.lit (0)))), (8, (.t .dnil)), (7, (.t (.lit (0)))), (6, (.t (.lit (0)))), (5, .nil), (3, (.t (.lit (0)))), (2, (.t (.lit (0)))), (1, (.t (.lit (0)))), (0, (.t (.lit (0)))), (4, (.t z8))], [((.lit (0)), (.lit (0)))], [], []⟩ 49 (.br (.cmp .eql (.var 49) (.lit (0)))
 (.need (.cmp .leq (.lit (0)) (.var 46)) (.need (.cmp .leq (.var 46) (.dlen (.var 48))) (.br (.c2 .veq (.c1 .vbytes (.dtake (.var 48) (.var 46))) (.c1 .vbytes (.dtake (.var 13) (.var 11))))
 (.pre 0 ⟨0, [(1, (.t (.var 16))), (0, (.r 15))], [((.lit (1)), (.lit (1)))], [], []⟩ (.both (.post 0 0 ⟨0, [(1, (.t (.var 16))), (0, (.r 15))], [((.lit (1)), (.lit (1)))], [], []⟩ 50 (.ret 0 ⟨17, [], [], [((.bl true), (.bl true))], []⟩)) .top))
 (.stuck 7 0 0))))
 (.stuck 7 0 0)))) .top))))))) .top))))))) (.both (.fresh 43 (.fresh 44 (.fresh 45 (.fresh 46 (.fresh 47 (.fresh 48 (.fresh 49 (.fresh 50 (.fresh 51 (.post 4 1 ⟨0, [(4, (.t (.var 42))), (3, (.t (.dtake (.var 13) (.var 11)))), (2, (.t (.var 42))), (1, (.t (.var 11))), (0, (.r 41))], [((.lit (0)), (.lit (0)))], [], []⟩ 43 (.fresh 52 (.pre 3 ⟨0, [(9, (.t (.var 50))), (8, (.t (.var 51))), (7, (.t (.var 50))), (6, (.t (.var 49))), (5, (.r 48)), (3, (.t (.var 46))), (2, (.t (.var 45))), (1, (.t (.var 44))), (0, (.t (.var 43))), (4, (.t (r8 47)))], [((.lit (0)), (.lit (0)))], [], []⟩ (.both (.post 3 0 ⟨0, [(9, (.t (.var 50))), (8, (.t (.var 51))), (7, (.t (.var 50))), (6, (.t (.var 49))), (5, (.r 48)), (3, (.t (.var 46))), (2, (.t (.var 45))), (1, (.t (.var 44))), (0, (.t (.var 43))), (4, (.t (r8 47)))], [((.lit (0)), (.lit (0)))], [], []⟩ 53 (.pre 2 ⟨0, [(9, (.t (.var 50))), (8, (.t (.var 51))), (7, (.t (.var 50))), (6, (.t (.var 49))), (5, (.r 48)), (3, (.t (.var 46))), (2, (.t (.var 45))), (1, (.t (.var 44))), (0, (.t (.var 43))), (4, (.t (r8 47)))], [((.lit (0)), (.lit (0)))], [], []⟩ (.both (.fresh 53 (.post 2 0 ⟨0, [(9, (.t (.var 50))), (8, (.t (.var 51))), (7, (.t (.var 50))), (6, (.t (.var 49))), (5, (.r 48)), (3, (.t (.var 46))), (2, (.t (.var 45))), (1, (.t (.var 44))), (0, (.t (.var 43))), (4, (.t (r8 47)))], [((.lit (0)), (.lit (0)))], [], []⟩ 53 (.br (.cmp .eql (.var 53) (.lit (0)))
 (.stuck 7 0 0)
 (.stuck 7 0 0)))) .top))) (.both (.fresh 53 (.fresh 54 (.fresh 55 (.fresh 56 (.post 3 1 ⟨0, [(9, (.t (.var 50))), (8, (.t (.var 51))), (7, (.t (.var 50))), (6, (.t (.var 49))), (5, (.r 48)), (3, (.t (.var 46))), (2, (.t (.var 45))), (1, (.t (.var 44))), (0, (.t (.var 43))), (4, (.t (r8 47)))], [((.lit (0)), (.lit (0)))], [], []⟩ 53 (.pre 2 ⟨0, [(9, (.t (.var 50))), (8, (.t (.var 51))), (7, (.t (.var 50))), (6, (.t (.var 49))), (5, (.r 48)), (3, (.t (.var 46))), (2, (.t (.var 45))), (1, (.t (.var 44))), (0, (.t (.var 43))), (4, (.t (r8 47)))], [((.lit (0)), (.lit (0)))], [], []⟩ (.both (.fresh 57 (.post 2 0 ⟨0, [(9, (.t (.var 50))), (8, (.t (.var 51))), (7, (.t (.var 50))), (6, (.t (.var 49))), (5, (.r 48)), (3, (.t (.var 46))), (2, (.t (.var 45))), (1, (.t (.var 44))), (0, (.t (.var 43))), (4, (.t (r8 47)))], [((.lit (0)), (.lit (0)))], [], []⟩ 57 (.br (.cmp .eql (.var 57) (.lit (0)))
 (.need (.cmp .leq (.lit (0)) (.var 54)) (.need (.cmp .leq (.var 54) (.dlen (.var 56))) (.br (.c2 .veq (.c1 .vbytes (.dtake (.var 56) (.var 54))) (.c1 .vbytes (.dtake (.var 13) (.var 11))))
 (.pre 0 ⟨0, [(1, (.t (.var 16))), (0, (.r 15))], [((.lit (1)), (.lit (1)))], [], []⟩ (.both (.post 0 0 ⟨0, [(1, (.t (.var 16))), (0, (.r 15))], [((.lit (1)), (.lit (1)))], [], []⟩ 58 (.ret 0 ⟨17, [], [], [((.bl true), (.bl true))], []⟩)) .top))
 (.stuck 7 0 0))))
 (.stuck 7 0 0)))) .top))))))) .top)))))))))))))) .top))))))))))) .top))))))))))))) .top)))))))) .top))))))) .top))
 (.fresh 22 (.need (.cmp .leq (.var 11) (.dlen (.var 13))) (.need (.cmp .leq (.tims (.lit (1)) (.var 11)) (.lit (140737488355328))) (.fresh 23 (.fresh 24 (.pre 4 ⟨0, [(4, (.t (.var 24))), (3, (.t (.dtake (.var 13) (.var 11)))), (2, (.t (.var 24))), (1, (.t (.var 11))), (0, (.r 23))], [((.lit (0)), (.lit (0)))], [], []⟩ (.both (.fresh 25 (.post 4 0 ⟨0, [(4, (.t (.var 24))), (3, (.t (.dtake (.var 13) (.var 11)))), (2, (.t (.var 24))), (1, (.t (.var 11))), (0, (.r 23))], [((.lit (0)), (.lit (0)))], [], []⟩ 25 (.fresh 26 (.br (.cmp .neq (.var 25) (.lit (0)))
 (.pre 0 ⟨0, [(1, (.t (.var 16))), (0, (.r 15))], [((.lit (1)), (.lit (1)))], [], []⟩ (.both (.post 0 0 ⟨0, [(1, (.t (.var 16))), (0, (.r 15))], [((.lit (1)), (.lit (1)))], [], []⟩ 27 (.ret 0 ⟨17, [], [], [((.bl true), (.bl true))], []⟩)) .top))
 (.pre 3 ⟨0, [(9, (.t (.lit (0)))), (8, (.t .dnil)), (7, (.t (.lit (0)))), (6, (.t (.lit (0)))), (5, .nil), (3, (.t (.lit (0)))), (2, (.t (.lit (0)))), (1, (.t (.lit (0)))), (0, (.t (.lit (0)))), (4, (.t z8))], [((.lit (0)), (.lit (0)))], [], []⟩ (.both (.post 3 0 ⟨0, [(9, (.t (.lit (0)))), (8, (.t .dnil)), (7, (.t (.lit (0)))), (6, (.t (.lit (0)))), (5, .nil), (3, (.t (.lit (0)))), (2, (.t (.lit (0)))), (1, (.t (.lit (0)))), (0, (.t (.lit (0)))), (4, (.t z8))], [((.lit (0)), (.lit (0)))], [], []⟩ 27 (.pre 2 ⟨0, [(9, (.t (.lit (0)))), (8, (.t .dnil)), (7, (.t (.lit (0)))), (6, (.t (.lit (0)))), (5, .nil), (3, (.t (.lit (0)))), (2, (.t (.lit (0)))), (1, (.t (.lit (0)))), (0, (.t (.lit (0)))), (4, (.t z8))], [((.lit (0)), (.lit (0)))], [], []⟩ (.both (.fresh 27 (.post 2 0 ⟨0, [(9, (.t (.lit (0)))), (8, (.t .dnil)), (7, (.t (.lit (0)))), (6, (.t (.lit (0)))), (5, .nil), (3, (.t (.lit (0)))), (2, (.t (.lit (0)))), (1, (.t (.lit (0)))), (0, (.t (.lit (0)))), (4, (.t z8))], [((.lit (0)), (.lit (0)))], [], []⟩ 27 (.br (.cmp .eql (.var 27) (.lit (0)))
 (.stuck 7 0 0)
 (.stuck 7 0 0)))) .top))) (.both (.fresh 27 (.fresh 28 (.fresh 29 (.fresh 30 (.post 3 1 ⟨0, [(9, (.t (.lit (0)))), (8, (.t .dnil)), (7, (.t (.lit (0)))), (6, (.t (.lit (0)))), (5, .nil), (3, (.t (.lit (0)))), (2, (.t (.lit (0)))), (1, (.t (.lit (0)))), (0, (.t (.lit (0)))), (4, (.t z8))], [((.lit (0)), (.lit (0)))], [], []⟩ 27 (.pre 2 ⟨0, [(9, (.t (.lit (0)))), (8, (.t .dnil)), (7, (.t (.lit (0)))), (6, (.t (.lit (0)))), (5, .nil), (3, (.t (.lit (0)))), (2, (.t (.lit (0)))), (1, (.t (.lit (0)))), (0, (.t (.lit (0)))), (4, (.t z8))], [((.lit (0)), (.lit (0)))], [], []⟩ (.both (.fresh 31 (.post 2 0 ⟨0, [(9, (.t (.lit (0)))), (8, (.t .dnil)), (7, (.t (.lit (0)))), (6, (.t (.lit (0)))), (5, .nil), (3, (.t (.lit (0)))), (2, (.t (.lit (0)))), (1, (.t (.lit (0)))), (0, (.t (.lit (0)))), (4, (.t z8))], [((.lit (0)), (.lit (0)))], [], []⟩ 31 (.br (.cmp .eql (.var 31) (.lit (0)))
 (.need (.cmp .leq (.lit (0)) (.var 28)) (.need (.cmp .leq (.var 28) (.dlen (.var 30))) (.br (.c2 .veq (.c1 .vbytes (.dtake (.var 30) (.var 28))) (.c1 .vbytes (.dtake (.var 13) (.var 11))))
 (.pre 0 ⟨0, [(1, (.t (.var 16))), (0, (.r 15))], [((.lit (1)), (.lit (1)))], [], []⟩ (.both (.post 0 0 ⟨0, [(1, (.t (.var 16))), (0, (.r 15))], [((.lit (1)), (.lit (1)))], [], []⟩ 32 (.ret 0 ⟨17, [], [], [((.bl true), (.bl true))], []⟩)) .top))
 (.stuck 7 0 0))))
 (.stuck 7 0 0)))) .top))))))) .top))))))) (.both (.fresh 25 (.fresh 26 (.fresh 27 (.fresh 28 (.fresh 29 (.fresh 30 (.fresh 31 (.fresh 32 (.fresh 33 (.post 4 1 ⟨0, [(4, (.t (.var 24))), (3, (.t (.dtake (.var 13) (.var 11)))), (2, (.t (.var 24))), (1, (.t (.var 11))), (0, (.r 23))], [((.lit (0)), (.lit (0)))], [], []⟩ 25 (.fresh 34 (.pre 3 ⟨0, [(9, (.t (.var 32))), (8, (.t (.var 33))), (7, (.t (.var 32))), (6, (.t (.var 31))), (5, (.r 30)), (3, (.t (.var 28))), (2, (.t (.var 27))), (1, (.t (.var 26))), (0, (.t (.var 25))), (4, (.t (r8 29)))], [((.lit (0)), (.lit (0)))], [], []⟩ (.both (.post 3 0 ⟨0, [(9, (.t (.var 32))), (8, (.t (.var 33))), (7, (.t (.var 32))), (6, (.t (.var 31))), (5, (.r 30)), (3, (.t (.var 28))), (2, (.t (.var 27))), (1, (.t (.var 26))), (0, (.t (.var 25))), (4, (.t (r8 29)))], [((.lit (0)), (.lit (0)))], [], []⟩ 35 (.pre 2 ⟨0, [(9, (.t (.var 32))), (8, (.t (.var 33))), (7, (.t (.var 32))), (6, (.t (.var 31))), (5, (.r 30)), (3, (.t (.var 28))), (2, (.t (.var 27))), (1, (.t (.var 26))), (0, (.t (.var 25))), (4, (.t (r8 29)))], [((.lit (0)), (.lit (0)))], [], []⟩ (.both (.fresh 35 (.post 2 0 ⟨0, [(9, (.t (.var 32))), (8, (.t (.var 33))), (7, (.t (.var 32))), (6, (.t (.var 31))), (5, (.r 30)), (3, (.t (.var 28))), (2, (.t (.var 27))), (1, (.t (.var 26))), (0, (.t (.var 25))), (4, (.t (r8 29)))], [((.lit (0)), (.lit (0)))], [], []⟩ 35 (.br (.cmp .eql (.var 35) (.lit (0)))
 (.stuck 7 0 0)
 (.stuck 7 0 0)))) .top))) (.both (.fresh 35 (.fresh 36 (.fresh 37 (.fresh 38 (.post 3 1 ⟨0, [(9, (.t (.var 32))), (8, (.t (.var 33))), (7, (.t (.var 32))), (6, (.t (.var 31))), (5, (.r 30)), (3, (.t (.var 28))), (2, (.t (.var 27))), (1, (.t (.var 26))), (0, (.t (.var 25))), (4, (.t (r8 29)))], [((.lit (0)), (.lit (0)))], [], []⟩ 35 (.pre 2 ⟨0, [(9, (.t (.var 32))), (8, (.t (.var 33))), (7, (.t (.var 32))), (6, (.t (.var 31))), (5, (.r 30)), (3, (.t (.var 28))), (2, (.t (.var 27))), (1, (.t (.var 26))), (0, (.t (.var 25))), (4, (.t (r8 29)))], [((.lit (0)), (.lit (0)))], [], []⟩ (.both (.fresh 39 (.post 2 0 ⟨0, [(9, (.t (.var 32))), (8, (.t (.var 33))), (7, (.t (.var 32))), (6, (.t (.var 31))), (5, (.r 30)), (3, (.t (.var 28))), (2, (.t (.var 27))), (1, (.t (.var 26))), (0, (.t (.var 25))), (4, (.t (r8 29)))], [((.lit (0)), (.lit (0)))], [], []⟩ 39 (.br (.cmp .eql (.var 39) (.lit (0)))
 (.need (.cmp .leq (.lit (0)) (.var 36)) (.need (.cmp .leq (.var 36) (.dlen (.var 38))) (.br (.c2 .veq (.c1 .vbytes (.dtake (.var 38) (.var 36))) (.c1 .vbytes (.dtake (.var 13) (.var 11))))
 (.pre 0 ⟨0, [(1, (.t (.var 16))), (0, (.r 15))], [((.lit (1)), (.lit (1)))], [], []⟩ (.both (.post 0 0 ⟨0, [(1, (.t (.var 16))), (0, (.r 15))], [((.lit (1)), (.lit (1)))], [], []⟩ 40 (.ret 0 ⟨17, [], [], [((.bl true), (.bl true))], []⟩)) .top))
 (.stuck 7 0 0))))
 (.stuck 7 0 0)))) .top))))))) .top)))))))))))))) .top))))))))))) .top)))))) .top)))))))
theorem o_lawManifestBack_eq : treeOf ⟨Tryd.prog, lawManifestBackC, [knownC, ownC, checkMC, encManC, decMC, sameC], []⟩ 100000 Tryd.f16 = o_lawManifestBack := by kernel_rfl
theorem lawManifestBack_of (hd : ∀ c ∈ ([knownC, ownC, checkMC, encManC, decMC, sameC] : List Ctr), c.ok Tryd.prog) (h : ∀ ρ : Env, ρ.good → (lawManifestBackC).pre ρ → o_lawManifestBack.den ⟨Tryd.prog, lawManifestBackC, [knownC, ownC, checkMC, encManC, decMC, sameC], []⟩ ρ) : (lawManifestBackC).ok Tryd.prog :=
  ok_of_tree Tryd.func16 (fun a w => Tryd.call16 a w) hd 100000 (fun ρ hg hp => by rw [o_lawManifestBack_eq]; exact h ρ hg hp)
end Go.Proofs
