/- Texts DQ, DN, DR, DV, DW, BJ, BL, BM, BN, BO, BQ, BR, BS. -/
import Derived.Test.YtelcnkclppkicaaDoorG6
import Derived.Test.YtelcnkclppkicaaDoorProg
import Derived.Test.YtelcnkclppkicaaDoorG5
set_option linter.unusedSimpArgs false
set_option linter.unusedVariables false
namespace Go.Proofs
open Go Go.Eng
set_option maxRecDepth 20000 in
set_option pp.deepTerms true in
set_option pp.maxSteps 1000000 in
theorem crc_ok : crcC.ok Tryd.prog := crc_of (by simp) fun ρ hg hp => by
  obtain ⟨o0, l0, l1, hle, hB⟩ := hp
  simp (config := { maxSteps := 2000000 }) [o_crc, crcC, crcI, crcJ, crcK]
  refine ⟨⟨⟨_, rfl, rfl⟩, fun j hj => absurd hj (by omega)⟩, fun d _ i _ i0 i1 hd => ⟨fun hlt => ⟨⟨i0, hlt, hd, ?_⟩, fun e _ k _ c _ t _ t0 t1 k0 k1 he hc hk => ⟨fun hlt2 => ?_, fun hge2 => ?_⟩⟩, fun hge => ⟨l0, ⟨l0, ?_, ?_⟩, fun e _ c _ t _ t0 t1 he hc => ⟨fun hlt => ?_, fun hge => ?_⟩⟩⟩⟩
  · rw [wrap32]; rfl
  · obtain ⟨T, hT⟩ : ∃ T : Nat, t.i = T := ⟨t.i.toNat, by omega⟩
    have m1 : arithOf .add .i64 t.i 1 = ((T + 1 : Nat) : Int) := by rw [add64 (by omega) (by omega)]; omega
    rw [hc, m1, crc_bit, hT]
    simp only [Int.toNat_natCast]
    exact ⟨⟨by omega, by omega, k0, k1, he, rfl, hk⟩, by omega⟩
  · obtain ⟨K, hK⟩ : ∃ K : Nat, k.i = K := ⟨k.i.toNat, by omega⟩
    have m1 : arithOf .add .i64 k.i 1 = ((K + 1 : Nat) : Int) := by rw [add64 (by omega) (by omega)]; omega
    have h4 : t.i = 4 := by omega
    rw [m1]
    rw [hK] at he hc ⊢
    rw [h4] at hc
    simp only [Int.toNat_natCast] at he ⊢
    have e1 := oneRow_len he.1
    refine ⟨by omega, by omega, by omega, ⟨by omega, by omega, ⟨oneRow_putX he.1, fun j hj => ?_⟩⟩, by omega⟩
    by_cases ej : j = K
    · rw [ej, cellX_putX he.1 (by omega), hc]; rfl
    · rw [cellX_putX_ne ej, he.2 j (by omega)]
  · have : i.i = 16 := by omega
    rw [this] at hd; exact hd
  · simp [segB, crcL]; rfl
  · obtain ⟨T, hT⟩ : ∃ T : Nat, t.i = T := ⟨t.i.toNat, by omega⟩
    obtain ⟨O, hO⟩ : ∃ O : Nat, (ρ 1).i = O := ⟨(ρ 1).i.toNat, by omega⟩
    have m1 : arithOf .add .i64 t.i 1 = ((T + 1 : Nat) : Int) := by rw [add64 (by omega) (by omega)]; omega
    rw [m1, hT, hO, hc]
    have hx : arithOf .xor .u32 (ofW (crcL 4294967295#32 (segB (ρ 4).d O T))) (IntKind.u32.wrap (cellI (ρ 4).d ((O : Int) + T) 0)) = ofW (crcL 4294967295#32 (segB (ρ 4).d O T) ^^^ toW (cellI (ρ 4).d ((O : Int) + T) 0)) := by
      rw [xor32, toW_ofW, wrap32, toW_ofW]
    rw [hT, hO, hx, crc_byte he]
    have e1 := oneRow_len he.1
    refine ⟨by omega, by omega, by omega, by omega, (and15_range _).1, (and15_range _).2, by omega, (and15_range _).1, (and15_range _).2, ⟨by omega, by omega, he, ?_⟩, by omega⟩
    rw [← segB_more (n := 1) (by omega), crcL_app]
    have hg := bI_get (d := (ρ 4).d) (i := (O : Int) + T) (by omega) (by omega)
    have h1 : bI (List.take 1 (List.drop (O + T) (ρ 4).d)) = [cellI (ρ 4).d ((O : Int) + T) 0] := by
      rw [bI, List.map_take, List.map_drop, ← bI]
      rw [show ((O : Int) + T).toNat = O + T by omega] at hg
      obtain ⟨hlt3, hg2⟩ := List.getElem?_eq_some_iff.1 hg
      rw [List.drop_eq_getElem_cons hlt3, hg2]; rfl
    rw [h1]
    rfl
  · have : t.i = (ρ 2).i := by omega
    rw [hc, this, xor32, toW_ofW, crcF]
    refine congrArg ofW ?_
    apply BitVec.eq_of_getLsbD_eq
    intro j hj
    have h1 : ∀ i : Nat, i < 32 → (toW 4294967295).getLsbD i = true := by decide
    rw [BitVec.getLsbD_xor, BitVec.getLsbD_not, h1 j hj]
    simp [hj]
set_option maxRecDepth 20000 in
set_option pp.deepTerms true in
set_option pp.maxSteps 1000000 in
theorem hex_ok : hexC.ok Tryd.prog := hex_of (by simp) fun ρ hg hp => by
  have hp : allM (rowL (ρ 0).d 32) := hp
  simp (config := { maxSteps := 2000000 }) [o_hex, hexC, hexI, vStr_mk]
  have hrow : ∀ j, j < 32 → cellX [dgCells (cellX (ρ 0).d)] j = cellX (ρ 0).d j := fun j hj => dgCells_get hj
  refine ⟨rfl, fun l _ d _ t _ t0 t1 hl hd => ⟨fun hlt => ?_, fun hge => ?_⟩⟩
  · obtain ⟨T, hT⟩ : ∃ T : Nat, t.i = T := ⟨t.i.toNat, by omega⟩
    have m1 : arithOf .add .i64 t.i 1 = ((T + 1 : Nat) : Int) := by rw [add64 (by omega) (by omega)]; omega
    rw [m1]
    rw [hT] at hd ⊢
    simp only [Int.toNat_natCast] at hd ⊢
    have hx := hrow T (by omega)
    have hm : cellX (ρ 0).d T ∈ rowL (ρ 0).d 32 := List.mem_map.2 ⟨T, List.mem_range.2 (by omega), rfl⟩
    obtain ⟨q1, q2, q3, q4, q5, q6⟩ := hex_num (hp _ hm).1 (hp _ hm).2
    have hdl : d.d.length = 2 * T := by
      rw [← bytesOf_len, hd, hexL_len, List.length_take, rowL_len]; omega
    rw [← hx] at q1 q2 q3 q4 q5 q6
    refine ⟨by omega, q1, q2, q3, q4, hl, by omega, ⟨by omega, by omega, hl, ?_⟩, by omega⟩
    have hb : bytesOf (d.d ++ [[.int .u8 ((hexT[(arithOf .shr .u8 (cellX [dgCells (cellX (ρ 0).d)] T) 4).toNat]?.getD 0).toNat : Int)], [.int .u8 ((hexT[(arithOf .and .u8 (cellX [dgCells (cellX (ρ 0).d)] T) 15).toNat]?.getD 0).toNat : Int)]]) = hexL (List.take (T + 1) (rowL (ρ 0).d 32)) := by
      rw [bytesOf_two, hd, hexL_snoc (by rw [rowL_len]; omega), q5, q6, hx]
      have : (rowL (ρ 0).d 32)[T]?.getD 0 = cellX (ρ 0).d T := by
        have := rowL_get (d := (ρ 0).d) (n := 32) (j := T) (by omega)
        rw [List.getD_eq_getElem?_getD] at this; exact this
      rw [this]; rfl
    exact hb
  · refine ⟨by omega, by omega, ?_⟩
    have : t.i = 32 := by omega
    rw [List.take_of_length_le (by omega)]
    show bytesOf d.d = _
    rw [hd, this, List.take_of_length_le (by rw [rowL_len]; decide)]
end Go.Proofs

set_option linter.unusedSimpArgs false
set_option linter.unusedVariables false
set_option maxRecDepth 100000
namespace Go.Proofs
open Go Go.Eng

def o_room : Out := (.br (.var 2)
 (.ret 0 ⟨8, [(9, (.t (.var 2))), (8, (.t (.bl false)))], [((.var 5), (.var 5)), ((.var 5), (.var 5)), ((.var 4), (.var 4)), ((.lit (0)), (.lit (0))), ((.var 1), (.var 1))], [], [((.var 6), (.var 6))]⟩)
 (.need (.cmp .leq (.lit (0)) (.var 4)) (.both (.ret 0 ⟨8, [(9, (.t (.cmp .gtr (.var 7) (.arith .sub .i64 (.var 1) (.var 4))))), (8, (.t (.not (.cmp .gtr (.var 7) (.arith .sub .i64 (.var 1) (.var 4))))))], [((.var 5), (.var 5)), ((.var 5), (.var 5)), ((.var 4), (.var 4)), ((.lit (0)), (.lit (0))), ((.var 1), (.var 1))], [], [((.var 6), (.var 6))]⟩) .top)))
theorem o_room_eq : treeOf ⟨Tryd.prog, roomC, [], []⟩ 100000 Tryd.f113 = o_room := by kernel_rfl
theorem room_of (hd : ∀ c ∈ ([] : List Ctr), c.ok Tryd.prog) (h : ∀ ρ : Env, ρ.good → (roomC).pre ρ → o_room.den ⟨Tryd.prog, roomC, [], []⟩ ρ) : (roomC).ok Tryd.prog :=
  ok_of_tree Tryd.func113 (fun a w => Tryd.call113 a w) hd 100000 (fun ρ hg hp => by rw [o_room_eq]; exact h ρ hg hp)
def o_number : Out := (.pre 0 ⟨0, [(6, (.t (.var 6))), (5, (.t (.var 5))), (4, (.t (.var 4))), (3, (.r 3)), (2, (.t (.var 2))), (1, (.t (.var 1))), (7, (.t (.var 8))), (0, (.r 0))], [((.var 5), (.var 5)), ((.lit (0)), (.lit (0))), ((.lit (0)), (.lit (0)))], [], []⟩ (.both (.fresh 9 (.fresh 10 (.post 0 0 ⟨0, [(6, (.t (.var 6))), (5, (.t (.var 5))), (4, (.t (.var 4))), (3, (.r 3)), (2, (.t (.var 2))), (1, (.t (.var 1))), (7, (.t (.var 8))), (0, (.r 0))], [((.var 5), (.var 5)), ((.lit (0)), (.lit (0))), ((.lit (0)), (.lit (0)))], [], []⟩ 9 (.br (.var 9)
 (.need (.beq (.bl false) (.var 10)) (.inv 0 11 ⟨1000, [(1003, (.t (.var 6))), (1002, (.t (.var 5))), (1001, (.t (.var 4))), (1000, (.r 3)), (1004, (.t (.arith .sub .i64 (.var 8) (.lit (1)))))], [((.var 1002), (.var 5)), ((.lit (0)), (.lit (0))), ((.var 1), (.var 1)), ((.var 8), (.var 8)), ((.var 7), (.var 7)), ((.lit (0)), (.lit (0)))], [((.bl false), (.var 10))], []⟩ (.fresh 11 (.fresh 12 (.fresh 13 (.fresh 14 (.fresh 15 (.hyp 0 11 (.br (.cmp .geq (.var 15) (.lit (0)))
 (.need (.cmp .geq (.arith .mul .i64 (.lit (8)) (.var 15)) (.lit (0))) (.both (.fresh 16 (.both (.need (.cmp .eql (.var 12) (.dlen (.var 14))) (.need (.cmp .leq (.tims (.lit (1)) (.plus (.var 12) (.lit (1)))) (.lit (140737488355328))) (.fresh 17 (.fresh 18 (.both (.both (.both (.back 0 11 ⟨1000, [(1003, (.t (.dapp (.var 14) (.rcons (.vint .u8 (.conv .u8 (.arith .shr .u64 (.var 7) (.arith .mul .i64 (.lit (8)) (.var 15))))) .rnil)))), (1002, (.t (.var 18))), (1001, (.t (.plus (.var 12) (.lit (1))))), (1000, (.r 17)), (1004, (.t (.arith .sub .i64 (.var 15) (.lit (1)))))], [((.var 1002), (.var 18)), ((.lit (0)), (.lit (0))), ((.var 1), (.var 1)), ((.var 8), (.var 8)), ((.var 7), (.var 7)), ((.lit (0)), (.lit (0)))], [((.bl false), (.bl false))], []⟩) .top) .top) .top))))) .top)) .top))
 (.ret 0 ⟨9, [(13, (.t (.var 14))), (12, (.t (.var 13))), (11, (.t (.var 12))), (10, (.r 11)), (9, (.t (.bl false)))], [((.var 12), (.var 13)), ((.lit (0)), (.lit (0))), ((.var 1), (.var 1))], [], []⟩))))))))))
 (.ret 0 ⟨9, [(13, (.t (.var 6))), (12, (.t (.var 5))), (11, (.t (.var 4))), (10, (.r 3)), (9, (.t (.var 10)))], [((.var 12), (.var 5)), ((.lit (0)), (.lit (0))), ((.var 1), (.var 1))], [], []⟩))))) .top))
theorem o_number_eq : treeOf ⟨Tryd.prog, numberC, [roomC], [numberI]⟩ 100000 Tryd.f112 = o_number := by kernel_rfl
theorem number_of (hd : ∀ c ∈ ([roomC] : List Ctr), c.ok Tryd.prog) (h : ∀ ρ : Env, ρ.good → (numberC).pre ρ → o_number.den ⟨Tryd.prog, numberC, [roomC], [numberI]⟩ ρ) : (numberC).ok Tryd.prog :=
  ok_of_tree Tryd.func112 (fun a w => Tryd.call112 a w) hd 100000 (fun ρ hg hp => by rw [o_number_eq]; exact h ρ hg hp)
def o_u8 : Out := (.pre 0 ⟨0, [(6, (.t (.var 6))), (5, (.t (.var 5))), (4, (.t (.var 4))), (3, (.r 3)), (2, (.t (.var 2))), (1, (.t (.var 1))), (8, (.t (.lit (1)))), (7, (.t (.conv .u64 (.var 7)))), (0, (.r 0))], [((.var 5), (.var 5)), ((.lit (0)), (.lit (0))), ((.lit (0)), (.lit (0)))], [], []⟩ (.both (.fresh 8 (.fresh 9 (.fresh 10 (.fresh 11 (.fresh 12 (.post 0 0 ⟨0, [(6, (.t (.var 6))), (5, (.t (.var 5))), (4, (.t (.var 4))), (3, (.r 3)), (2, (.t (.var 2))), (1, (.t (.var 1))), (8, (.t (.lit (1)))), (7, (.t (.conv .u64 (.var 7)))), (0, (.r 0))], [((.var 5), (.var 5)), ((.lit (0)), (.lit (0))), ((.lit (0)), (.lit (0)))], [], []⟩ 8 (.ret 0 ⟨8, [(12, (.t (.var 12))), (11, (.t (.var 11))), (10, (.t (.var 10))), (9, (.r 9)), (8, (.t (.var 8)))], [((.var 11), (.var 11)), ((.lit (0)), (.lit (0))), ((.var 1), (.var 1))], [], []⟩))))))) .top))
theorem o_u8_eq : treeOf ⟨Tryd.prog, u8C, [numberC], []⟩ 100000 Tryd.f76 = o_u8 := by kernel_rfl
theorem u8_of (hd : ∀ c ∈ ([numberC] : List Ctr), c.ok Tryd.prog) (h : ∀ ρ : Env, ρ.good → (u8C).pre ρ → o_u8.den ⟨Tryd.prog, u8C, [numberC], []⟩ ρ) : (u8C).ok Tryd.prog :=
  ok_of_tree Tryd.func76 (fun a w => Tryd.call76 a w) hd 100000 (fun ρ hg hp => by rw [o_u8_eq]; exact h ρ hg hp)
def o_u16 : Out := (.pre 0 ⟨0, [(6, (.t (.var 6))), (5, (.t (.var 5))), (4, (.t (.var 4))), (3, (.r 3)), (2, (.t (.var 2))), (1, (.t (.var 1))), (8, (.t (.lit (2)))), (7, (.t (.conv .u64 (.var 7)))), (0, (.r 0))], [((.var 5), (.var 5)), ((.lit (0)), (.lit (0))), ((.lit (0)), (.lit (0)))], [], []⟩ (.both (.fresh 8 (.fresh 9 (.fresh 10 (.fresh 11 (.fresh 12 (.post 0 0 ⟨0, [(6, (.t (.var 6))), (5, (.t (.var 5))), (4, (.t (.var 4))), (3, (.r 3)), (2, (.t (.var 2))), (1, (.t (.var 1))), (8, (.t (.lit (2)))), (7, (.t (.conv .u64 (.var 7)))), (0, (.r 0))], [((.var 5), (.var 5)), ((.lit (0)), (.lit (0))), ((.lit (0)), (.lit (0)))], [], []⟩ 8 (.ret 0 ⟨8, [(12, (.t (.var 12))), (11, (.t (.var 11))), (10, (.t (.var 10))), (9, (.r 9)), (8, (.t (.var 8)))], [((.var 11), (.var 11)), ((.lit (0)), (.lit (0))), ((.var 1), (.var 1))], [], []⟩))))))) .top))
theorem o_u16_eq : treeOf ⟨Tryd.prog, u16C, [numberC], []⟩ 100000 Tryd.f75 = o_u16 := by kernel_rfl
theorem u16_of (hd : ∀ c ∈ ([numberC] : List Ctr), c.ok Tryd.prog) (h : ∀ ρ : Env, ρ.good → (u16C).pre ρ → o_u16.den ⟨Tryd.prog, u16C, [numberC], []⟩ ρ) : (u16C).ok Tryd.prog :=
  ok_of_tree Tryd.func75 (fun a w => Tryd.call75 a w) hd 100000 (fun ρ hg hp => by rw [o_u16_eq]; exact h ρ hg hp)
def o_u32 : Out := (.pre 0 ⟨0, [(6, (.t (.var 6))), (5, (.t (.var 5))), (4, (.t (.var 4))), (3, (.r 3)), (2, (.t (.var 2))), (1, (.t (.var 1))), (8, (.t (.lit (4)))), (7, (.t (.conv .u64 (.var 7)))), (0, (.r 0))], [((.var 5), (.var 5)), ((.lit (0)), (.lit (0))), ((.lit (0)), (.lit (0)))], [], []⟩ (.both (.fresh 8 (.fresh 9 (.fresh 10 (.fresh 11 (.fresh 12 (.post 0 0 ⟨0, [(6, (.t (.var 6))), (5, (.t (.var 5))), (4, (.t (.var 4))), (3, (.r 3)), (2, (.t (.var 2))), (1, (.t (.var 1))), (8, (.t (.lit (4)))), (7, (.t (.conv .u64 (.var 7)))), (0, (.r 0))], [((.var 5), (.var 5)), ((.lit (0)), (.lit (0))), ((.lit (0)), (.lit (0)))], [], []⟩ 8 (.ret 0 ⟨8, [(12, (.t (.var 12))), (11, (.t (.var 11))), (10, (.t (.var 10))), (9, (.r 9)), (8, (.t (.var 8)))], [((.var 11), (.var 11)), ((.lit (0)), (.lit (0))), ((.var 1), (.var 1))], [], []⟩))))))) .top))
theorem o_u32_eq : treeOf ⟨Tryd.prog, u32C, [numberC], []⟩ 100000 Tryd.f83 = o_u32 := by kernel_rfl
theorem u32_of (hd : ∀ c ∈ ([numberC] : List Ctr), c.ok Tryd.prog) (h : ∀ ρ : Env, ρ.good → (u32C).pre ρ → o_u32.den ⟨Tryd.prog, u32C, [numberC], []⟩ ρ) : (u32C).ok Tryd.prog :=
  ok_of_tree Tryd.func83 (fun a w => Tryd.call83 a w) hd 100000 (fun ρ hg hp => by rw [o_u32_eq]; exact h ρ hg hp)
def o_u64 : Out := (.pre 0 ⟨0, [(6, (.t (.var 6))), (5, (.t (.var 5))), (4, (.t (.var 4))), (3, (.r 3)), (2, (.t (.var 2))), (1, (.t (.var 1))), (8, (.t (.lit (8)))), (7, (.t (.var 7))), (0, (.r 0))], [((.var 5), (.var 5)), ((.lit (0)), (.lit (0))), ((.lit (0)), (.lit (0)))], [], []⟩ (.both (.fresh 8 (.fresh 9 (.fresh 10 (.fresh 11 (.fresh 12 (.post 0 0 ⟨0, [(6, (.t (.var 6))), (5, (.t (.var 5))), (4, (.t (.var 4))), (3, (.r 3)), (2, (.t (.var 2))), (1, (.t (.var 1))), (8, (.t (.lit (8)))), (7, (.t (.var 7))), (0, (.r 0))], [((.var 5), (.var 5)), ((.lit (0)), (.lit (0))), ((.lit (0)), (.lit (0)))], [], []⟩ 8 (.ret 0 ⟨8, [(12, (.t (.var 12))), (11, (.t (.var 11))), (10, (.t (.var 10))), (9, (.r 9)), (8, (.t (.var 8)))], [((.var 11), (.var 11)), ((.lit (0)), (.lit (0))), ((.var 1), (.var 1))], [], []⟩))))))) .top))
theorem o_u64_eq : treeOf ⟨Tryd.prog, u64C, [numberC], []⟩ 100000 Tryd.f84 = o_u64 := by kernel_rfl
theorem u64_of (hd : ∀ c ∈ ([numberC] : List Ctr), c.ok Tryd.prog) (h : ∀ ρ : Env, ρ.good → (u64C).pre ρ → o_u64.den ⟨Tryd.prog, u64C, [numberC], []⟩ ρ) : (u64C).ok Tryd.prog :=
  ok_of_tree Tryd.func84 (fun a w => Tryd.call84 a w) hd 100000 (fun ρ hg hp => by rw [o_u64_eq]; exact h ρ hg hp)
def o_newWriter : Out := (.fresh 1 (.ret 0 ⟨1, [(2, (.t (.imax (.lit (0)) (.var 0)))), (1, (.r 1))], [], [((.bl false), (.bl false))], []⟩))
theorem o_newWriter_eq : treeOf ⟨Tryd.prog, newWriterC, [], []⟩ 100000 Tryd.f49 = o_newWriter := by kernel_rfl
theorem newWriter_of (hd : ∀ c ∈ ([] : List Ctr), c.ok Tryd.prog) (h : ∀ ρ : Env, ρ.good → (newWriterC).pre ρ → o_newWriter.den ⟨Tryd.prog, newWriterC, [], []⟩ ρ) : (newWriterC).ok Tryd.prog :=
  ok_of_tree Tryd.func49 (fun a w => Tryd.call49 a w) hd 100000 (fun ρ hg hp => by rw [o_newWriter_eq]; exact h ρ hg hp)
def o_raw : Out := (.need (.cmp .leq (.lit (0)) (.var 9)) (.pre 0 ⟨0, [(6, (.t (.var 6))), (5, (.t (.var 5))), (4, (.t (.var 4))), (3, (.r 3)), (2, (.t (.var 2))), (1, (.t (.var 1))), (7, (.t (.var 9))), (0, (.r 0))], [((.var 5), (.var 5)), ((.lit (0)), (.lit (0))), ((.lit (0)), (.lit (0)))], [], []⟩ (.both (.fresh 13 (.fresh 14 (.post 0 0 ⟨0, [(6, (.t (.var 6))), (5, (.t (.var 5))), (4, (.t (.var 4))), (3, (.r 3)), (2, (.t (.var 2))), (1, (.t (.var 1))), (7, (.t (.var 9))), (0, (.r 0))], [((.var 5), (.var 5)), ((.lit (0)), (.lit (0))), ((.lit (0)), (.lit (0)))], [], []⟩ 13 (.br (.var 13)
 (.need (.cmp .eql (.var 4) (.dlen (.var 6))) (.need (.cmp .leq (.lit (0)) (.var 8)) (.need (.cmp .leq (.plus (.var 8) (.var 9)) (.dlen (.var 11))) (.need (.cmp .leq (.tims (.lit (1)) (.plus (.var 4) (.var 9))) (.lit (140737488355328))) (.fresh 15 (.fresh 16 (.ret 0 ⟨13, [(17, (.t (.dapp (.var 6) (.dtake (.ddrop (.var 11) (.var 8)) (.var 9))))), (16, (.t (.var 16))), (15, (.t (.plus (.var 4) (.var 9)))), (14, (.r 15)), (13, (.t (.var 14)))], [((.var 16), (.var 16)), ((.lit (0)), (.lit (0))), ((.var 1), (.var 1))], [], []⟩)))))))
 (.ret 0 ⟨13, [(17, (.t (.var 6))), (16, (.t (.var 5))), (15, (.t (.var 4))), (14, (.r 3)), (13, (.t (.var 14)))], [((.var 16), (.var 5)), ((.lit (0)), (.lit (0))), ((.var 1), (.var 1))], [], []⟩))))) .top)))
theorem o_raw_eq : treeOf ⟨Tryd.prog, rawC, [roomC], []⟩ 100000 Tryd.f77 = o_raw := by kernel_rfl
theorem raw_of (hd : ∀ c ∈ ([roomC] : List Ctr), c.ok Tryd.prog) (h : ∀ ρ : Env, ρ.good → (rawC).pre ρ → o_raw.den ⟨Tryd.prog, rawC, [roomC], []⟩ ρ) : (rawC).ok Tryd.prog :=
  ok_of_tree Tryd.func77 (fun a w => Tryd.call77 a w) hd 100000 (fun ρ hg hp => by rw [o_raw_eq]; exact h ρ hg hp)
def o_raw32 : Out := (.pre 0 ⟨0, [(6, (.t (.var 6))), (5, (.t (.var 5))), (4, (.t (.var 4))), (3, (.r 3)), (2, (.t (.var 2))), (1, (.t (.var 1))), (7, (.t (.lit (32)))), (0, (.r 0))], [((.var 5), (.var 5)), ((.lit (0)), (.lit (0))), ((.lit (0)), (.lit (0)))], [], []⟩ (.both (.fresh 9 (.fresh 10 (.post 0 0 ⟨0, [(6, (.t (.var 6))), (5, (.t (.var 5))), (4, (.t (.var 4))), (3, (.r 3)), (2, (.t (.var 2))), (1, (.t (.var 1))), (7, (.t (.lit (32)))), (0, (.r 0))], [((.var 5), (.var 5)), ((.lit (0)), (.lit (0))), ((.lit (0)), (.lit (0)))], [], []⟩ 9 (.br (.var 9)
 (.need (.cmp .eql (.var 4) (.dlen (.var 6))) (.need (.cmp .lss (.lit (0)) (.dlen (.var 8))) (.need (.cmp .leq (.tims (.lit (1)) (.plus (.var 4) (.lit (32)))) (.lit (140737488355328))) (.fresh 11 (.fresh 12 (.ret 0 ⟨9, [(13, (.t (.dapp (.var 6) (.c3 .xrows (.var 8) (.lit (0)) (.lit (32)))))), (12, (.t (.var 12))), (11, (.t (.plus (.var 4) (.lit (32))))), (10, (.r 11)), (9, (.t (.var 10)))], [((.var 12), (.var 12)), ((.lit (0)), (.lit (0))), ((.var 1), (.var 1))], [], []⟩))))))
 (.ret 0 ⟨9, [(13, (.t (.var 6))), (12, (.t (.var 5))), (11, (.t (.var 4))), (10, (.r 3)), (9, (.t (.var 10)))], [((.var 12), (.var 5)), ((.lit (0)), (.lit (0))), ((.var 1), (.var 1))], [], []⟩))))) .top))
theorem o_raw32_eq : treeOf ⟨Tryd.prog, raw32C, [roomC], []⟩ 100000 Tryd.f77 = o_raw32 := by kernel_rfl
theorem raw32_of (hd : ∀ c ∈ ([roomC] : List Ctr), c.ok Tryd.prog) (h : ∀ ρ : Env, ρ.good → (raw32C).pre ρ → o_raw32.den ⟨Tryd.prog, raw32C, [roomC], []⟩ ρ) : (raw32C).ok Tryd.prog :=
  ok_of_tree Tryd.func77 (fun a w => Tryd.call77 a w) hd 100000 (fun ρ hg hp => by rw [o_raw32_eq]; exact h ρ hg hp)
def o_rawM : Out := (.pre 0 ⟨0, [(6, (.t (.var 6))), (5, (.t (.var 5))), (4, (.t (.var 4))), (3, (.r 3)), (2, (.t (.var 2))), (1, (.t (.var 1))), (7, (.t (.lit (32)))), (0, (.r 0))], [((.var 5), (.var 5)), ((.lit (0)), (.lit (0))), ((.lit (0)), (.lit (0)))], [], []⟩ (.both (.fresh 9 (.fresh 10 (.post 0 0 ⟨0, [(6, (.t (.var 6))), (5, (.t (.var 5))), (4, (.t (.var 4))), (3, (.r 3)), (2, (.t (.var 2))), (1, (.t (.var 1))), (7, (.t (.lit (32)))), (0, (.r 0))], [((.var 5), (.var 5)), ((.lit (0)), (.lit (0))), ((.lit (0)), (.lit (0)))], [], []⟩ 9 (.br (.var 9)
 (.need (.cmp .eql (.var 4) (.dlen (.var 6))) (.need (.cmp .lss (.lit (0)) (.dlen (.var 8))) (.need (.cmp .leq (.tims (.lit (1)) (.plus (.var 4) (.lit (32)))) (.lit (140737488355328))) (.fresh 11 (.fresh 12 (.ret 0 ⟨9, [(13, (.t (.dapp (.var 6) (.c3 .xrows (.var 8) (.lit (4)) (.lit (32)))))), (12, (.t (.var 12))), (11, (.t (.plus (.var 4) (.lit (32))))), (10, (.r 11)), (9, (.t (.var 10)))], [((.var 12), (.var 12)), ((.lit (0)), (.lit (0))), ((.var 1), (.var 1))], [], []⟩))))))
 (.ret 0 ⟨9, [(13, (.t (.var 6))), (12, (.t (.var 5))), (11, (.t (.var 4))), (10, (.r 3)), (9, (.t (.var 10)))], [((.var 12), (.var 5)), ((.lit (0)), (.lit (0))), ((.var 1), (.var 1))], [], []⟩))))) .top))
theorem o_rawM_eq : treeOf ⟨Tryd.prog, rawMC, [roomC], []⟩ 100000 Tryd.f77 = o_rawM := by kernel_rfl
theorem rawM_of (hd : ∀ c ∈ ([roomC] : List Ctr), c.ok Tryd.prog) (h : ∀ ρ : Env, ρ.good → (rawMC).pre ρ → o_rawM.den ⟨Tryd.prog, rawMC, [roomC], []⟩ ρ) : (rawMC).ok Tryd.prog :=
  ok_of_tree Tryd.func77 (fun a w => Tryd.call77 a w) hd 100000 (fun ρ hg hp => by rw [o_rawM_eq]; exact h ρ hg hp)
def o_cloneB : Out := (.br (.and (.cmp .eql (.dlen (.var 3)) (.lit (0))) (.isnil 0))
 (.need (.cmp .eql (.var 1) (.lit (0))) (.ret 0 ⟨5, [(7, (.t .dnil)), (6, (.t (.lit (0)))), (5, .nil)], [((.var 6), (.lit (0))), ((.var 1), (.lit (0))), ((.lit (0)), (.lit (0)))], [], []⟩))
 (.fresh 5 (.need (.cmp .leq (.lit (0)) (.var 1)) (.need (.cmp .leq (.var 1) (.dlen (.var 3))) (.need (.cmp .leq (.tims (.lit (1)) (.var 1)) (.lit (140737488355328))) (.fresh 6 (.fresh 7 (.ret 0 ⟨5, [(7, (.t (.dtake (.var 3) (.var 1)))), (6, (.t (.var 7))), (5, (.r 6))], [((.var 6), (.var 7)), ((.var 1), (.var 1)), ((.lit (0)), (.lit (0)))], [], []⟩))))))))
theorem o_cloneB_eq : treeOf ⟨Tryd.prog, cloneBC, [], []⟩ 100000 Tryd.f88 = o_cloneB := by kernel_rfl
theorem cloneB_of (hd : ∀ c ∈ ([] : List Ctr), c.ok Tryd.prog) (h : ∀ ρ : Env, ρ.good → (cloneBC).pre ρ → o_cloneB.den ⟨Tryd.prog, cloneBC, [], []⟩ ρ) : (cloneBC).ok Tryd.prog :=
  ok_of_tree Tryd.func88 (fun a w => Tryd.call88 a w) hd 100000 (fun ρ hg hp => by rw [o_cloneB_eq]; exact h ρ hg hp)
def o_bytes : Out := (.br (.var 2)
 (.ret 0 ⟨7, [], [((.lit (3)), (.lit (3)))], [], []⟩)
 (.pre 0 ⟨0, [(4, (.t (.var 5))), (3, (.t (.var 6))), (2, (.t (.var 5))), (1, (.t (.var 4))), (0, (.r 3))], [((.lit (0)), (.lit (0)))], [], []⟩ (.both (.fresh 7 (.fresh 8 (.fresh 9 (.post 0 0 ⟨0, [(4, (.t (.var 5))), (3, (.t (.var 6))), (2, (.t (.var 5))), (1, (.t (.var 4))), (0, (.r 3))], [((.lit (0)), (.lit (0)))], [], []⟩ 7 (.ret 1 ⟨7, [(9, (.t (.var 9))), (8, (.t (.var 8))), (7, (.r 7))], [((.var 8), (.var 8)), ((.lit (0)), (.lit (0))), ((.var 4), (.var 4)), ((.lit (0)), (.lit (0)))], [], []⟩))))) .top)))
theorem o_bytes_eq : treeOf ⟨Tryd.prog, bytesC, [cloneBC], []⟩ 100000 Tryd.f52 = o_bytes := by kernel_rfl
theorem bytes_of (hd : ∀ c ∈ ([cloneBC] : List Ctr), c.ok Tryd.prog) (h : ∀ ρ : Env, ρ.good → (bytesC).pre ρ → o_bytes.den ⟨Tryd.prog, bytesC, [cloneBC], []⟩ ρ) : (bytesC).ok Tryd.prog :=
  ok_of_tree Tryd.func52 (fun a w => Tryd.call52 a w) hd 100000 (fun ρ hg hp => by rw [o_bytes_eq]; exact h ρ hg hp)
end Go.Proofs

set_option linter.unusedSimpArgs false
set_option linter.unusedVariables false
namespace Go.Proofs
open Go Go.Eng
theorem wFull_eq {lim : Int} {f : Bool} {m : List Int} {k : Int} : wFull lim f m k = true ↔ f = true ∨ lim - m.length < k := by simp [wFull]
theorem wThen_full {lim : Int} {f : Bool} {m s : List Int} (h : wFull lim f m s.length = true) : wThen lim f m s = (true, m) := by rw [wThen, if_pos h]
theorem wThen_fits {lim : Int} {f : Bool} {m s : List Int} (h : ¬ wFull lim f m s.length = true) : wThen lim f m s = (false, m ++ s) := by rw [wThen, if_neg h]
theorem room_ok : roomC.ok Tryd.prog := room_of (by simp) fun ρ hg hp => by
  obtain ⟨⟨w0, w1, w2, w3, w5⟩, k0, k1⟩ := hp
  simp [o_room, roomC, wHeap, wCells, wFull]
  refine ⟨fun h => ⟨fun _ => h, h⟩, fun h => ⟨by omega, ?_⟩⟩
  rw [sub64 (by omega) (by omega), h, bI_len, ← w2]
  simp [cmpOf]
theorem newWriter_ok : newWriterC.ok Tryd.prog := newWriter_of (by simp) fun ρ hg hp => by
  simp [o_newWriter, newWriterC]
  omega
theorem cloneB_ok : cloneBC.ok Tryd.prog := cloneB_of (by simp) fun ρ hg hp => by
  obtain ⟨h0, h1, h2⟩ := hp
  simp [o_cloneB, cloneBC]
  refine ⟨fun h _ => ⟨by rw [h] at h1; simpa using h1, h⟩, fun _ => ⟨h0, by omega, h2, ?_⟩⟩
  rw [List.take_of_length_le (by omega)]
theorem bytes_ok : bytesC.ok Tryd.prog := bytes_of (by simp [cloneB_ok]) fun ρ hg hp => by
  obtain ⟨⟨w0, w1, w2, w3, w5⟩, hq⟩ := hp
  simp [o_bytes, bytesC, cloneBC, wHeap, wCells]
  exact fun hf => ⟨⟨by omega, w2, hq⟩, fun d _ hd => ⟨hf, hd⟩⟩
theorem bI_app {a b : Rows'} : bI (a ++ b) = bI a ++ bI b := by simp [bI]
theorem allB_app {a b : Rows'} (h : allB a) (h' : allB b) : allB (a ++ b) := fun r hr => (List.mem_append.1 hr).elim (h r) (h' r)
theorem w_fits {lim n c k : Int} {f : Bool} {d x : Rows'} {s : List Int} (hw : wOk lim n c d) (h : wFull lim f (bI d) k = false) (hx : bI x = s) (hB : allB x) (hk : (x.length : Int) = k) (c2 : Int) : wOk lim (n + k) c2 (d ++ x) ∧ (false, bI (d ++ x)) = wThen lim f (bI d) s := by
  obtain ⟨w0, w1, w2, w3, w5⟩ := hw
  have hs : (s.length : Int) = k := by rw [← hx, bI_len, hk]
  have hd : (bI d).length = d.length := bI_len
  refine ⟨⟨w0, w1, by rw [List.length_append]; omega, ?_, allB_app w5 hB⟩, ?_⟩
  · simp [wFull] at h; omega
  · rw [wThen_fits (by rw [hs, h]; decide), bI_app, hx]
theorem w_full {lim k : Int} {f : Bool} {d : Rows'} {s : List Int} (h : wFull lim f (bI d) k = true) (hk : (s.length : Int) = k) : (true, bI d) = wThen lim f (bI d) s := by rw [wThen_full (by rw [hk, h])]
theorem raw_ok : rawC.ok Tryd.prog := raw_of (by simp [room_ok]) fun ρ hg hp => by
  obtain ⟨hw, o0, l0, lc, q, hle, hB⟩ := hp
  simp [o_raw, rawC, roomC, wHeap, wCells, wPost]
  have w2 := hw.2.2.1
  have hsl : (segB (ρ 11).d (ρ 8).i (ρ 9).i).length = (ρ 9).i.toNat := by simp [segB, bI_len]; omega
  refine ⟨l0, ⟨hw, l0, by omega⟩, fun u _ f _ hf hu => ⟨fun h => ?_, fun h => ⟨hw, ?_⟩⟩⟩
  · have hff : f.b = false := by rw [h] at hu; simpa using hu.symm
    rw [hff] at hf ⊢
    refine ⟨w2, o0, hle, q, fun c _ => w_fits hw hf.symm (by simp [segB, bI]) (allB_sub hB) (by simp; omega) _⟩
  · have hff : f.b = true := by rw [h] at hu; simpa using hu.symm
    rw [hff] at hf ⊢
    exact w_full hf.symm (by omega)
theorem raw32_ok : raw32C.ok Tryd.prog := raw32_of (by simp [room_ok]) fun ρ hg hp => by
  obtain ⟨hw, q, hr, hB⟩ := hp
  simp [o_raw32, raw32C, roomC, wHeap, wCells, wPost]
  have w2 := hw.2.2.1
  refine ⟨hw, fun u _ f _ hf hu => ⟨fun h => ?_, fun h => ⟨hw, ?_⟩⟩⟩
  · have hff : f.b = false := by rw [h] at hu; simpa using hu.symm
    rw [hff] at hf ⊢
    have hx : bI (xrowsD (ρ 8).d 0 32) = rowL (ρ 8).d 32 := by rw [xrows_bI hr, List.drop_zero, List.take_of_length_le (by rw [rowL_len]; decide)]
    refine ⟨w2, by rw [oneRow_len hr]; decide, q, fun c _ => w_fits hw hf.symm hx (xrows_allB hr hB) (by rw [xrows_len hr (by omega)]; rfl) _⟩
  · have hff : f.b = true := by rw [h] at hu; simpa using hu.symm
    rw [hff] at hf ⊢
    exact w_full hf.symm (by rw [rowL_len]; rfl)
theorem rawM_ok : rawMC.ok Tryd.prog := rawM_of (by simp [room_ok]) fun ρ hg hp => by
  obtain ⟨hw, q, hr, hB⟩ := hp
  simp [o_rawM, rawMC, roomC, wHeap, wCells, wPost]
  have w2 := hw.2.2.1
  have hlen : ((rowL (ρ 8).d 36).drop 4).length = 32 := by rw [List.length_drop, rowL_len]
  refine ⟨hw, fun u _ f _ hf hu => ⟨fun h => ?_, fun h => ⟨hw, ?_⟩⟩⟩
  · have hff : f.b = false := by rw [h] at hu; simpa using hu.symm
    rw [hff] at hf ⊢
    have h36 : (rowL (ρ 8).d 37).take 36 = rowL (ρ 8).d 36 := by
      rw [rowL, rowL, ← List.map_take]; rfl
    have hx : bI (xrowsD (ρ 8).d 4 32) = (rowL (ρ 8).d 36).drop 4 := by
      rw [xrows_bI hr, ← h36, List.drop_take]
    have hBx : allB (xrowsD (ρ 8).d 4 32) := fun row hrow => by
      have h2 : rowI row 0 ∈ bI (xrowsD (ρ 8).d 4 32) := List.mem_map.2 ⟨row, hrow, rfl⟩
      rw [hx] at h2; exact hB _ h2
    refine ⟨w2, by rw [oneRow_len hr]; decide, q, fun c _ => w_fits hw hf.symm hx hBx (by rw [xrows_len hr (by omega)]; rfl) _⟩
  · have hff : f.b = true := by rw [h] at hu; simpa using hu.symm
    rw [hff] at hf ⊢
    exact w_full hf.symm (by rw [hlen]; rfl)
theorem beL_take {v : Int} {n k : Nat} (h : k < n) : (beL v n).take (k + 1) = (beL v n).take k ++ [(v.fdiv (2 ^ (8 * (n - 1 - k)))) % 256] := by
  rw [List.take_add_one, List.getElem?_eq_getElem (by rw [beL_len]; exact h)]
  simp [beL]
theorem number_ok : numberC.ok Tryd.prog := number_of (by simp [room_ok]) fun ρ hg hp => by
  obtain ⟨hw, q, k0, k1, v0, v1⟩ := hp
  simp [o_number, numberC, numberI, roomC, wHeap, wCells, wPost]
  have w2 := hw.2.2.1
  have hsub : arithOf .sub .i64 (ρ 8).i 1 = (ρ 8).i - 1 := sub64 (by omega) (by omega)
  obtain ⟨N, hN⟩ : ∃ N : Nat, (ρ 8).i = N := ⟨(ρ 8).i.toNat, by omega⟩
  have hbl : ((beL (ρ 7).i (ρ 8).i.toNat).length : Int) = (ρ 8).i := by rw [beL_len]; omega
  rw [hsub]
  refine ⟨⟨hw, k0, by omega⟩, fun u _ f _ hf hu => ⟨fun h => ?_, fun h => ⟨hw, ?_⟩⟩⟩
  · have hff : f.b = false := by rw [h] at hu; simpa using hu.symm
    rw [hff] at hf
    have hfit : (ρ 2).b = false ∧ (ρ 8).i ≤ (ρ 1).i - (ρ 4).i := by
      have := hf.symm
      have hd : (bI (ρ 6).d).length = (ρ 6).d.length := bI_len
      simp [wFull] at this
      exact ⟨this.1, by omega⟩
    refine ⟨hff, ⟨by omega, by omega, w2, hfit.1, hfit.2, hw.2.2.2.2, .inl (by omega)⟩, fun l _ c _ d _ t _ t0 t1 hl _ _ hB hd => ⟨fun hge => ?_, fun hlt => ?_⟩⟩
    · obtain ⟨T, hT⟩ : ∃ T : Nat, t.i = T := ⟨t.i.toNat, by omega⟩
      have m1 : arithOf .mul .i64 8 t.i = ((8 * T : Nat) : Int) := by rw [mul64 (by omega) (by omega)]; omega
      have m2 : arithOf .sub .i64 t.i 1 = t.i - 1 := sub64 (by omega) (by omega)
      have hdl : d.d.length = (ρ 6).d.length + (N - 1 - T) := by
        have := congrArg List.length hd
        rw [bI_len, List.length_append, bI_len, List.length_take, beL_len] at this
        omega
      rw [m1, m2, shr_u64 (by omega), wrap8]
      refine ⟨by omega, hl, by omega, ⟨by omega, by omega, hl, hfit.1, hfit.2, allB_app hB ?_, ?_⟩, by omega⟩
      · intro row hrow
        obtain rfl := List.mem_singleton.1 hrow
        simp [rowI, vInt]; omega
      · rw [bI_app, hd, List.append_assoc, show ((ρ 8).i - 1 - (t.i - 1)).toNat = (N - 1 - T) + 1 by omega, show ((ρ 8).i - 1 - t.i).toNat = N - 1 - T by omega, show (ρ 8).i.toNat = N by omega, beL_take (by omega), show N - 1 - (N - 1 - T) = T by omega]
        rfl
    · have ht : t.i = -1 := by omega
      have hx : bI d.d = bI (ρ 6).d ++ beL (ρ 7).i (ρ 8).i.toNat := by
        rw [hd, ht, List.take_of_length_le (by rw [beL_len]; omega)]
      have hdl : (d.d.length : Int) = (ρ 6).d.length + (ρ 8).i := by
        have := congrArg List.length hx
        rw [bI_len, List.length_append, bI_len, beL_len] at this
        omega
      obtain ⟨w0, w1, _, w3, w5⟩ := hw
      refine ⟨⟨w0, w1, hl, by omega, hB⟩, ?_⟩
      rw [wThen_fits (by rw [hbl, ← hf]; decide), hx]
  · have hff : f.b = true := by rw [h] at hu; simpa using hu.symm
    rw [hff] at hf ⊢
    exact w_full hf.symm hbl
theorem u8_ok : u8C.ok Tryd.prog := u8_of (by simp [number_ok]) fun ρ hg hp => by
  obtain ⟨hw, q, v0, v1⟩ := hp
  simp [o_u8, u8C, numFn, numberC, wHeap, wCells, wPost]
  have hv : IntKind.u64.wrap (ρ 7).i = (ρ 7).i := by simp [IntKind.wrap, IntKind.bits, IntKind.signed]; omega
  rw [hv]
  exact ⟨⟨hw, q, v0, by omega⟩, fun _ _ _ _ _ _ _ _ h1 h2 => ⟨h1, h2⟩⟩
theorem u16_ok : u16C.ok Tryd.prog := u16_of (by simp [number_ok]) fun ρ hg hp => by
  obtain ⟨hw, q, v0, v1⟩ := hp
  simp [o_u16, u16C, numFn, numberC, wHeap, wCells, wPost]
  have hv : IntKind.u64.wrap (ρ 7).i = (ρ 7).i := by simp [IntKind.wrap, IntKind.bits, IntKind.signed]; omega
  rw [hv]
  exact ⟨⟨hw, q, v0, by omega⟩, fun _ _ _ _ _ _ _ _ h1 h2 => ⟨h1, h2⟩⟩
end Go.Proofs

set_option linter.unusedSimpArgs false
set_option linter.unusedVariables false
set_option maxRecDepth 100000
namespace Go.Proofs
open Go Go.Eng

end Go.Proofs

set_option linter.unusedSimpArgs false
set_option linter.unusedVariables false
namespace Go.Proofs
open Go Go.Eng
theorem segB_all {d : Rows'} {l : Int} (h : l = d.length) : segB d 0 l = bI d := by
  rw [segB, h, Int.toNat_natCast, Int.toNat_zero, List.drop_zero, List.take_of_length_le (by rw [bI_len]; omega)]
theorem segB_take {d : Rows'} {l : Int} (h : l = d.length) : segB (List.take l.toNat d) 0 l = bI d := by
  rw [List.take_of_length_le (by omega)]
  simp only [segB, Int.toNat_zero, List.drop_zero]
  rw [List.take_of_length_le]
  simp only [bI, List.length_map]; omega
theorem allB_tk {d : Rows'} {n : Nat} (h : allB d) : allB (d.take n) := fun r hr => h r (List.take_subset _ _ hr)
end Go.Proofs

set_option linter.unusedSimpArgs false
set_option linter.unusedVariables false
namespace Go.Proofs
open Go Go.Eng
set_option maxRecDepth 20000
end Go.Proofs

set_option linter.unusedSimpArgs false
set_option linter.unusedVariables false
namespace Go.Eng
open Go Go.Proofs
/-! ### Primes -/
/-! ### Constants -/
/-! ### One block -/
/-! ### A message -/
end Go.Eng

set_option linter.unusedSimpArgs false
set_option linter.unusedVariables false
set_option maxRecDepth 100000
namespace Go.Proofs
open Go Go.Eng

end Go.Proofs

set_option linter.unusedSimpArgs false
set_option linter.unusedVariables false
namespace Go.Proofs
open Go Go.Eng
set_option maxRecDepth 20000
/-! ### Numbers of 64 bits -/
theorem mulN {x y : Nat} (h : x * y < 18446744073709551616) : arithOf .mul .u64 (x : Int) (y : Int) = ((x * y : Nat) : Int) := by
  show IntKind.u64.wrap ((x : Int) * (y : Int)) = _
  rw [wrap64u, ← Int.natCast_mul]; omega
/-! ### Primes -/
/-! ### Constants -/
def wCells (f : Nat → Int) (n : Nat) : List Value := (List.range n).map fun j => .int .u32 (f j)
/-! ### CRC-32C bit by bit -/
end Go.Proofs

set_option linter.unusedSimpArgs false
set_option linter.unusedVariables false
namespace Go.Proofs
open Go Go.Eng
set_option maxRecDepth 20000
end Go.Proofs

set_option linter.unusedSimpArgs false
set_option linter.unusedVariables false
namespace Go.Proofs
open Go Go.Eng
set_option maxRecDepth 20000
theorem wrapN {x : Nat} (h : x < 18446744073709551616) : IntKind.u64.wrap (x : Int) = (x : Int) := by rw [wrap64u]; omega
theorem mul8 {x : Nat} (h : x < 1000000000000000) : arithOf .mul .u64 8 (x : Int) = ((8 * x : Nat) : Int) := mulN (x := 8) (by omega)
end Go.Proofs

set_option linter.unusedSimpArgs false
set_option linter.unusedVariables false
set_option maxRecDepth 100000
namespace Go.Proofs
open Go Go.Eng

def o_text : Out := (.need (.cmp .leq (.lit (0)) (.var 9)) (.br (.cmp .gtr (.var 9) (.lit (65535)))
 (.ret 0 ⟨13, [(17, (.t (.var 6))), (16, (.t (.var 5))), (15, (.t (.var 4))), (14, (.r 3)), (13, (.t (.bl true)))], [((.var 16), (.var 5)), ((.lit (0)), (.lit (0))), ((.var 1), (.var 1))], [], []⟩)
 (.pre 0 ⟨0, [(6, (.t (.var 6))), (5, (.t (.var 5))), (4, (.t (.var 4))), (3, (.r 3)), (2, (.t (.var 2))), (1, (.t (.var 1))), (7, (.t (.arith .add .i64 (.var 9) (.lit (2))))), (0, (.r 0))], [((.var 5), (.var 5)), ((.lit (0)), (.lit (0))), ((.lit (0)), (.lit (0)))], [], []⟩ (.both (.fresh 13 (.fresh 14 (.post 0 0 ⟨0, [(6, (.t (.var 6))), (5, (.t (.var 5))), (4, (.t (.var 4))), (3, (.r 3)), (2, (.t (.var 2))), (1, (.t (.var 1))), (7, (.t (.arith .add .i64 (.var 9) (.lit (2))))), (0, (.r 0))], [((.var 5), (.var 5)), ((.lit (0)), (.lit (0))), ((.lit (0)), (.lit (0)))], [], []⟩ 13 (.br (.var 13)
 (.fresh 15 (.need (.cmp .eql (.var 4) (.dlen (.var 6))) (.need (.cmp .leq (.tims (.lit (1)) (.plus (.var 4) (.lit (2)))) (.lit (140737488355328))) (.fresh 16 (.fresh 17 (.need (.cmp .eql (.plus (.var 4) (.lit (2))) (.dlen (.dapp (.var 6) (.dapp (.rcons (.vint .u8 (.conv .u8 (.arith .shr .i64 (.var 9) (.lit (8))))) .rnil) (.rcons (.vint .u8 (.conv .u8 (.var 9))) .rnil))))) (.need (.cmp .leq (.lit (0)) (.var 8)) (.need (.cmp .leq (.plus (.var 8) (.var 9)) (.dlen (.var 11))) (.need (.cmp .leq (.tims (.lit (1)) (.plus (.plus (.var 4) (.lit (2))) (.var 9))) (.lit (140737488355328))) (.fresh 18 (.fresh 19 (.ret 0 ⟨13, [(17, (.t (.dapp (.dapp (.var 6) (.dapp (.rcons (.vint .u8 (.conv .u8 (.arith .shr .i64 (.var 9) (.lit (8))))) .rnil) (.rcons (.vint .u8 (.conv .u8 (.var 9))) .rnil))) (.dtake (.ddrop (.var 11) (.var 8)) (.var 9))))), (16, (.t (.var 19))), (15, (.t (.plus (.plus (.var 4) (.lit (2))) (.var 9)))), (14, (.r 18)), (13, (.t (.var 14)))], [((.var 16), (.var 19)), ((.lit (0)), (.lit (0))), ((.var 1), (.var 1))], [], []⟩))))))))))))
 (.ret 0 ⟨13, [(17, (.t (.var 6))), (16, (.t (.var 5))), (15, (.t (.var 4))), (14, (.r 3)), (13, (.t (.var 14)))], [((.var 16), (.var 5)), ((.lit (0)), (.lit (0))), ((.var 1), (.var 1))], [], []⟩))))) .top))))
theorem o_text_eq : treeOf ⟨Tryd.prog, textC, [roomC], []⟩ 100000 Tryd.f85 = o_text := by kernel_rfl
theorem text_of (hd : ∀ c ∈ ([roomC] : List Ctr), c.ok Tryd.prog) (h : ∀ ρ : Env, ρ.good → (textC).pre ρ → o_text.den ⟨Tryd.prog, textC, [roomC], []⟩ ρ) : (textC).ok Tryd.prog :=
  ok_of_tree Tryd.func85 (fun a w => Tryd.call85 a w) hd 100000 (fun ρ hg hp => by rw [o_text_eq]; exact h ρ hg hp)
def o_lenW : Out := (.need (.cmp .leq (.lit (0)) (.var 4)) (.ret 0 ⟨7, [], [((.var 4), (.var 4))], [], []⟩))
theorem o_lenW_eq : treeOf ⟨Tryd.prog, lenWC, [], []⟩ 100000 Tryd.f53 = o_lenW := by kernel_rfl
theorem lenW_of (hd : ∀ c ∈ ([] : List Ctr), c.ok Tryd.prog) (h : ∀ ρ : Env, ρ.good → (lenWC).pre ρ → o_lenW.den ⟨Tryd.prog, lenWC, [], []⟩ ρ) : (lenWC).ok Tryd.prog :=
  ok_of_tree Tryd.func53 (fun a w => Tryd.call53 a w) hd 100000 (fun ρ hg hp => by rw [o_lenW_eq]; exact h ρ hg hp)
def o_numberR : Out := (.fresh 2 (.inv 0 3 ⟨1000, [(1003, (.t .dnil)), (1004, (.t (.arith .sub .i64 (.var 1) (.lit (1))))), (1002, (.t (.lit (0)))), (1001, (.t (.lit (0)))), (1000, (.r 2))], [((.var 1002), (.lit (0))), ((.lit (0)), (.lit (0))), ((.var 1), (.var 1)), ((.var 0), (.var 0))], [], []⟩ (.fresh 3 (.fresh 4 (.fresh 5 (.fresh 6 (.fresh 7 (.hyp 0 3 (.br (.cmp .geq (.var 7) (.lit (0)))
 (.need (.cmp .geq (.arith .mul .u64 (.lit (8)) (.conv .u64 (.var 7))) (.lit (0))) (.fresh 8 (.need (.cmp .eql (.var 4) (.dlen (.var 6))) (.need (.cmp .leq (.tims (.lit (1)) (.plus (.var 4) (.lit (1)))) (.lit (140737488355328))) (.fresh 9 (.fresh 10 (.back 0 3 ⟨1000, [(1003, (.t (.dapp (.var 6) (.rcons (.vint .u8 (.conv .u8 (.arith .shr .u64 (.var 0) (.arith .mul .u64 (.lit (8)) (.conv .u64 (.var 7)))))) .rnil)))), (1004, (.t (.arith .sub .i64 (.var 7) (.lit (1))))), (1002, (.t (.var 10))), (1001, (.t (.plus (.var 4) (.lit (1))))), (1000, (.r 9))], [((.var 1002), (.var 10)), ((.lit (0)), (.lit (0))), ((.var 1), (.var 1)), ((.var 0), (.var 0))], [], []⟩)))))))
 (.ret 0 ⟨2, [(5, (.t (.var 6))), (4, (.t (.var 5))), (3, (.t (.var 4))), (2, (.r 3))], [((.var 4), (.var 5)), ((.lit (0)), (.lit (0)))], [], []⟩))))))))))
theorem o_numberR_eq : treeOf ⟨Tryd.prog, numberRC, [], [numberRI]⟩ 100000 Tryd.f87 = o_numberR := by kernel_rfl
theorem numberR_of (hd : ∀ c ∈ ([] : List Ctr), c.ok Tryd.prog) (h : ∀ ρ : Env, ρ.good → (numberRC).pre ρ → o_numberR.den ⟨Tryd.prog, numberRC, [], [numberRI]⟩ ρ) : (numberRC).ok Tryd.prog :=
  ok_of_tree Tryd.func87 (fun a w => Tryd.call87 a w) hd 100000 (fun ρ hg hp => by rw [o_numberR_eq]; exact h ρ hg hp)
def o_width : Out := (.br (.cmp .geq (.var 0) (.lit (1)))
 (.br (.cmp .leq (.var 0) (.lit (4)))
 (.need (.cmp .geq (.conv .u64 (.arith .sub .i64 (.var 0) (.lit (1)))) (.lit (0))) (.ret 0 ⟨1, [(1, (.t (.arith .shl .i64 (.lit (1)) (.conv .u64 (.arith .sub .i64 (.var 0) (.lit (1)))))))], [], [], []⟩))
 (.ret 0 ⟨1, [(1, (.t (.lit (0))))], [], [], []⟩))
 (.ret 0 ⟨1, [(1, (.t (.lit (0))))], [], [], []⟩))
theorem o_width_eq : treeOf ⟨Tryd.prog, widthC, [], []⟩ 100000 Tryd.f86 = o_width := by kernel_rfl
theorem width_of (hd : ∀ c ∈ ([] : List Ctr), c.ok Tryd.prog) (h : ∀ ρ : Env, ρ.good → (widthC).pre ρ → o_width.den ⟨Tryd.prog, widthC, [], []⟩ ρ) : (widthC).ok Tryd.prog :=
  ok_of_tree Tryd.func86 (fun a w => Tryd.call86 a w) hd 100000 (fun ρ hg hp => by rw [o_width_eq]; exact h ρ hg hp)
def o_writeOp : Out := (.fresh 15 (.br (.cmp .eql (.var 7) (.lit (1)))
 (.pre 0 ⟨0, [(6, (.t (.var 6))), (5, (.t (.var 5))), (4, (.t (.var 4))), (3, (.r 3)), (2, (.t (.var 2))), (1, (.t (.var 1))), (7, (.t (.conv .u8 (.var 8)))), (0, (.r 0))], [((.var 5), (.var 5)), ((.lit (0)), (.lit (0))), ((.lit (0)), (.lit (0)))], [], []⟩ (.both (.fresh 16 (.fresh 17 (.fresh 18 (.fresh 19 (.fresh 20 (.post 0 0 ⟨0, [(6, (.t (.var 6))), (5, (.t (.var 5))), (4, (.t (.var 4))), (3, (.r 3)), (2, (.t (.var 2))), (1, (.t (.var 1))), (7, (.t (.conv .u8 (.var 8)))), (0, (.r 0))], [((.var 5), (.var 5)), ((.lit (0)), (.lit (0))), ((.lit (0)), (.lit (0)))], [], []⟩ 16 (.ret 0 ⟨15, [(19, (.t (.var 20))), (18, (.t (.var 19))), (17, (.t (.var 18))), (16, (.r 17)), (15, (.t (.var 16)))], [((.var 18), (.var 19)), ((.lit (0)), (.lit (0))), ((.var 1), (.var 1))], [], []⟩))))))) .top))
 (.br (.cmp .eql (.var 7) (.lit (2)))
 (.pre 1 ⟨0, [(6, (.t (.var 6))), (5, (.t (.var 5))), (4, (.t (.var 4))), (3, (.r 3)), (2, (.t (.var 2))), (1, (.t (.var 1))), (7, (.t (.conv .u16 (.var 8)))), (0, (.r 0))], [((.var 5), (.var 5)), ((.lit (0)), (.lit (0))), ((.lit (0)), (.lit (0)))], [], []⟩ (.both (.fresh 16 (.fresh 17 (.fresh 18 (.fresh 19 (.fresh 20 (.post 1 0 ⟨0, [(6, (.t (.var 6))), (5, (.t (.var 5))), (4, (.t (.var 4))), (3, (.r 3)), (2, (.t (.var 2))), (1, (.t (.var 1))), (7, (.t (.conv .u16 (.var 8)))), (0, (.r 0))], [((.var 5), (.var 5)), ((.lit (0)), (.lit (0))), ((.lit (0)), (.lit (0)))], [], []⟩ 16 (.ret 0 ⟨15, [(19, (.t (.var 20))), (18, (.t (.var 19))), (17, (.t (.var 18))), (16, (.r 17)), (15, (.t (.var 16)))], [((.var 18), (.var 19)), ((.lit (0)), (.lit (0))), ((.var 1), (.var 1))], [], []⟩))))))) .top))
 (.br (.cmp .eql (.var 7) (.lit (3)))
 (.pre 2 ⟨0, [(6, (.t (.var 6))), (5, (.t (.var 5))), (4, (.t (.var 4))), (3, (.r 3)), (2, (.t (.var 2))), (1, (.t (.var 1))), (7, (.t (.conv .u32 (.var 8)))), (0, (.r 0))], [((.var 5), (.var 5)), ((.lit (0)), (.lit (0))), ((.lit (0)), (.lit (0)))], [], []⟩ (.both (.fresh 16 (.fresh 17 (.fresh 18 (.fresh 19 (.fresh 20 (.post 2 0 ⟨0, [(6, (.t (.var 6))), (5, (.t (.var 5))), (4, (.t (.var 4))), (3, (.r 3)), (2, (.t (.var 2))), (1, (.t (.var 1))), (7, (.t (.conv .u32 (.var 8)))), (0, (.r 0))], [((.var 5), (.var 5)), ((.lit (0)), (.lit (0))), ((.lit (0)), (.lit (0)))], [], []⟩ 16 (.ret 0 ⟨15, [(19, (.t (.var 20))), (18, (.t (.var 19))), (17, (.t (.var 18))), (16, (.r 17)), (15, (.t (.var 16)))], [((.var 18), (.var 19)), ((.lit (0)), (.lit (0))), ((.var 1), (.var 1))], [], []⟩))))))) .top))
 (.br (.cmp .eql (.var 7) (.lit (4)))
 (.pre 3 ⟨0, [(6, (.t (.var 6))), (5, (.t (.var 5))), (4, (.t (.var 4))), (3, (.r 3)), (2, (.t (.var 2))), (1, (.t (.var 1))), (7, (.t (.var 8))), (0, (.r 0))], [((.var 5), (.var 5)), ((.lit (0)), (.lit (0))), ((.lit (0)), (.lit (0)))], [], []⟩ (.both (.fresh 16 (.fresh 17 (.fresh 18 (.fresh 19 (.fresh 20 (.post 3 0 ⟨0, [(6, (.t (.var 6))), (5, (.t (.var 5))), (4, (.t (.var 4))), (3, (.r 3)), (2, (.t (.var 2))), (1, (.t (.var 1))), (7, (.t (.var 8))), (0, (.r 0))], [((.var 5), (.var 5)), ((.lit (0)), (.lit (0))), ((.lit (0)), (.lit (0)))], [], []⟩ 16 (.ret 0 ⟨15, [(19, (.t (.var 20))), (18, (.t (.var 19))), (17, (.t (.var 18))), (16, (.r 17)), (15, (.t (.var 16)))], [((.var 18), (.var 19)), ((.lit (0)), (.lit (0))), ((.var 1), (.var 1))], [], []⟩))))))) .top))
 (.br (.cmp .eql (.var 7) (.lit (5)))
 (.fresh 16 (.need (.cmp .leq (.lit (0)) (.var 11)) (.need (.cmp .leq (.var 11) (.dlen (.var 13))) (.need (.cmp .leq (.tims (.lit (1)) (.var 11)) (.lit (140737488355328))) (.fresh 17 (.fresh 18 (.know (.cmp .leq (.dlen (.dtake (.var 13) (.var 11))) (.var 18)) (.pre 4 ⟨0, [(12, (.t (.var 18))), (11, (.t (.dtake (.var 13) (.var 11)))), (6, (.t (.var 6))), (5, (.t (.var 5))), (4, (.t (.var 4))), (3, (.r 3)), (2, (.t (.var 2))), (1, (.t (.var 1))), (10, (.t (.var 18))), (9, (.t (.var 11))), (8, (.t (.lit (0)))), (7, (.r 17)), (0, (.r 0))], [((.var 5), (.var 5)), ((.lit (0)), (.lit (0))), ((.lit (0)), (.lit (0)))], [], []⟩ (.both (.fresh 19 (.fresh 20 (.fresh 21 (.fresh 22 (.fresh 23 (.post 4 0 ⟨0, [(12, (.t (.var 18))), (11, (.t (.dtake (.var 13) (.var 11)))), (6, (.t (.var 6))), (5, (.t (.var 5))), (4, (.t (.var 4))), (3, (.r 3)), (2, (.t (.var 2))), (1, (.t (.var 1))), (10, (.t (.var 18))), (9, (.t (.var 11))), (8, (.t (.lit (0)))), (7, (.r 17)), (0, (.r 0))], [((.var 5), (.var 5)), ((.lit (0)), (.lit (0))), ((.lit (0)), (.lit (0)))], [], []⟩ 19 (.ret 0 ⟨15, [(19, (.t (.var 23))), (18, (.t (.var 22))), (17, (.t (.var 21))), (16, (.r 20)), (15, (.t (.var 19)))], [((.var 18), (.var 22)), ((.lit (0)), (.lit (0))), ((.var 1), (.var 1))], [], []⟩))))))) .top)))))))))
 (.br (.cmp .eql (.var 7) (.lit (6)))
 (.fresh 16 (.need (.cmp .leq (.lit (0)) (.var 11)) (.need (.cmp .leq (.var 11) (.dlen (.var 13))) (.need (.cmp .leq (.tims (.lit (1)) (.var 11)) (.lit (140737488355328))) (.fresh 17 (.fresh 18 (.know (.cmp .leq (.dlen (.dtake (.var 13) (.var 11))) (.var 18)) (.pre 5 ⟨0, [(12, (.t (.var 18))), (11, (.t (.dtake (.var 13) (.var 11)))), (6, (.t (.var 6))), (5, (.t (.var 5))), (4, (.t (.var 4))), (3, (.r 3)), (2, (.t (.var 2))), (1, (.t (.var 1))), (10, (.t (.var 18))), (9, (.t (.var 11))), (8, (.t (.lit (0)))), (7, (.r 17)), (0, (.r 0))], [((.var 5), (.var 5)), ((.lit (0)), (.lit (0))), ((.lit (0)), (.lit (0)))], [], []⟩ (.both (.fresh 19 (.fresh 20 (.fresh 21 (.fresh 22 (.fresh 23 (.post 5 0 ⟨0, [(12, (.t (.var 18))), (11, (.t (.dtake (.var 13) (.var 11)))), (6, (.t (.var 6))), (5, (.t (.var 5))), (4, (.t (.var 4))), (3, (.r 3)), (2, (.t (.var 2))), (1, (.t (.var 1))), (10, (.t (.var 18))), (9, (.t (.var 11))), (8, (.t (.lit (0)))), (7, (.r 17)), (0, (.r 0))], [((.var 5), (.var 5)), ((.lit (0)), (.lit (0))), ((.lit (0)), (.lit (0)))], [], []⟩ 19 (.ret 0 ⟨15, [(19, (.t (.var 23))), (18, (.t (.var 22))), (17, (.t (.var 21))), (16, (.r 20)), (15, (.t (.var 19)))], [((.var 18), (.var 22)), ((.lit (0)), (.lit (0))), ((.var 1), (.var 1))], [], []⟩))))))) .top)))))))))
 (.ret 0 ⟨15, [(19, (.t (.var 6))), (18, (.t (.var 5))), (17, (.t (.var 4))), (16, (.r 3)), (15, (.t (.var 2)))], [((.var 18), (.var 5)), ((.lit (0)), (.lit (0))), ((.var 1), (.var 1))], [], []⟩))))))))
theorem o_writeOp_eq : treeOf ⟨Tryd.prog, writeOpC, [u8C, u16C, u32C, u64C, rawC, textC], []⟩ 100000 Tryd.f50 = o_writeOp := by kernel_rfl
theorem writeOp_of (hd : ∀ c ∈ ([u8C, u16C, u32C, u64C, rawC, textC] : List Ctr), c.ok Tryd.prog) (h : ∀ ρ : Env, ρ.good → (writeOpC).pre ρ → o_writeOp.den ⟨Tryd.prog, writeOpC, [u8C, u16C, u32C, u64C, rawC, textC], []⟩ ρ) : (writeOpC).ok Tryd.prog :=
  ok_of_tree Tryd.func50 (fun a w => Tryd.call50 a w) hd 100000 (fun ρ hg hp => by rw [o_writeOp_eq]; exact h ρ hg hp)
def o_wrote : Out := (.fresh 15 (.fresh 16 (.fresh 17 (.fresh 18 (.pre 0 ⟨0, [(0, (.t (.var 7)))], [], [], []⟩ (.both (.fresh 19 (.post 0 0 ⟨0, [(0, (.t (.var 7)))], [], [], []⟩ 19 (.br (.cmp .gtr (.var 19) (.lit (0)))
 (.pre 1 ⟨0, [(1, (.t (.var 19))), (0, (.t (.var 8)))], [], [], []⟩ (.both (.fresh 20 (.fresh 21 (.fresh 22 (.fresh 23 (.post 1 0 ⟨0, [(1, (.t (.var 19))), (0, (.t (.var 8)))], [], [], []⟩ 20 (.br (.cmp .lss (.var 0) (.lit (0)))
 (.br (.var 1)
 (.ret 0 ⟨15, [(19, (.t (.var 5))), (18, (.t (.var 4))), (17, (.t (.var 3))), (16, (.r 2)), (15, (.t (.bl true)))], [((.var 18), (.var 4)), ((.lit (0)), (.lit (0))), ((.var 0), (.var 0))], [], []⟩)
 (.need (.cmp .leq (.lit (0)) (.var 3)) (.need (.cmp .leq (.lit (0)) (.var 21)) (.br (.cmp .gtr (.arith .add .i64 (.var 3) (.var 21)) (.lit (0)))
 (.ret 0 ⟨15, [(19, (.t (.var 5))), (18, (.t (.var 4))), (17, (.t (.var 3))), (16, (.r 2)), (15, (.t (.bl true)))], [((.var 18), (.var 4)), ((.lit (0)), (.lit (0))), ((.var 0), (.var 0))], [], []⟩)
 (.fresh 24 (.need (.cmp .leq (.var 3) (.dlen (.var 5))) (.need (.cmp .leq (.tims (.lit (1)) (.var 3)) (.lit (140737488355328))) (.fresh 25 (.fresh 26 (.need (.cmp .eql (.var 3) (.dlen (.dtake (.var 5) (.var 3)))) (.need (.cmp .leq (.var 21) (.dlen (.var 23))) (.need (.cmp .leq (.tims (.lit (1)) (.plus (.var 3) (.var 21))) (.lit (140737488355328))) (.fresh 27 (.fresh 28 (.ret 0 ⟨15, [(19, (.t (.dapp (.dtake (.var 5) (.var 3)) (.dtake (.var 23) (.var 21))))), (18, (.t (.var 28))), (17, (.t (.plus (.var 3) (.var 21)))), (16, (.r 27)), (15, (.t (.var 1)))], [((.var 18), (.var 28)), ((.lit (0)), (.lit (0))), ((.var 0), (.var 0))], [], []⟩)))))))))))))))
 (.br (.var 1)
 (.ret 0 ⟨15, [(19, (.t (.var 5))), (18, (.t (.var 4))), (17, (.t (.var 3))), (16, (.r 2)), (15, (.t (.bl true)))], [((.var 18), (.var 4)), ((.lit (0)), (.lit (0))), ((.var 0), (.var 0))], [], []⟩)
 (.need (.cmp .leq (.lit (0)) (.var 3)) (.need (.cmp .leq (.lit (0)) (.var 21)) (.br (.cmp .gtr (.arith .add .i64 (.var 3) (.var 21)) (.var 0))
 (.ret 0 ⟨15, [(19, (.t (.var 5))), (18, (.t (.var 4))), (17, (.t (.var 3))), (16, (.r 2)), (15, (.t (.bl true)))], [((.var 18), (.var 4)), ((.lit (0)), (.lit (0))), ((.var 0), (.var 0))], [], []⟩)
 (.fresh 24 (.need (.cmp .leq (.var 3) (.dlen (.var 5))) (.need (.cmp .leq (.tims (.lit (1)) (.var 3)) (.lit (140737488355328))) (.fresh 25 (.fresh 26 (.need (.cmp .eql (.var 3) (.dlen (.dtake (.var 5) (.var 3)))) (.need (.cmp .leq (.var 21) (.dlen (.var 23))) (.need (.cmp .leq (.tims (.lit (1)) (.plus (.var 3) (.var 21))) (.lit (140737488355328))) (.fresh 27 (.fresh 28 (.ret 0 ⟨15, [(19, (.t (.dapp (.dtake (.var 5) (.var 3)) (.dtake (.var 23) (.var 21))))), (18, (.t (.var 28))), (17, (.t (.plus (.var 3) (.var 21)))), (16, (.r 27)), (15, (.t (.var 1)))], [((.var 18), (.var 28)), ((.lit (0)), (.lit (0))), ((.var 0), (.var 0))], [], []⟩))))))))))))))))))))) .top))
 (.br (.cmp .eql (.var 7) (.lit (5)))
 (.br (.cmp .lss (.var 0) (.lit (0)))
 (.br (.var 1)
 (.ret 0 ⟨15, [(19, (.t (.var 5))), (18, (.t (.var 4))), (17, (.t (.var 3))), (16, (.r 2)), (15, (.t (.bl true)))], [((.var 18), (.var 4)), ((.lit (0)), (.lit (0))), ((.var 0), (.var 0))], [], []⟩)
 (.need (.cmp .leq (.lit (0)) (.var 3)) (.need (.cmp .leq (.lit (0)) (.var 11)) (.br (.cmp .gtr (.arith .add .i64 (.var 3) (.var 11)) (.lit (0)))
 (.ret 0 ⟨15, [(19, (.t (.var 5))), (18, (.t (.var 4))), (17, (.t (.var 3))), (16, (.r 2)), (15, (.t (.bl true)))], [((.var 18), (.var 4)), ((.lit (0)), (.lit (0))), ((.var 0), (.var 0))], [], []⟩)
 (.fresh 20 (.need (.cmp .leq (.var 3) (.dlen (.var 5))) (.need (.cmp .leq (.tims (.lit (1)) (.var 3)) (.lit (140737488355328))) (.fresh 21 (.fresh 22 (.need (.cmp .eql (.var 3) (.dlen (.dtake (.var 5) (.var 3)))) (.need (.cmp .leq (.var 11) (.dlen (.var 13))) (.need (.cmp .leq (.tims (.lit (1)) (.plus (.var 3) (.var 11))) (.lit (140737488355328))) (.fresh 23 (.fresh 24 (.ret 0 ⟨15, [(19, (.t (.dapp (.dtake (.var 5) (.var 3)) (.dtake (.var 13) (.var 11))))), (18, (.t (.var 24))), (17, (.t (.plus (.var 3) (.var 11)))), (16, (.r 23)), (15, (.t (.var 1)))], [((.var 18), (.var 24)), ((.lit (0)), (.lit (0))), ((.var 0), (.var 0))], [], []⟩)))))))))))))))
 (.br (.var 1)
 (.ret 0 ⟨15, [(19, (.t (.var 5))), (18, (.t (.var 4))), (17, (.t (.var 3))), (16, (.r 2)), (15, (.t (.bl true)))], [((.var 18), (.var 4)), ((.lit (0)), (.lit (0))), ((.var 0), (.var 0))], [], []⟩)
 (.need (.cmp .leq (.lit (0)) (.var 3)) (.need (.cmp .leq (.lit (0)) (.var 11)) (.br (.cmp .gtr (.arith .add .i64 (.var 3) (.var 11)) (.var 0))
 (.ret 0 ⟨15, [(19, (.t (.var 5))), (18, (.t (.var 4))), (17, (.t (.var 3))), (16, (.r 2)), (15, (.t (.bl true)))], [((.var 18), (.var 4)), ((.lit (0)), (.lit (0))), ((.var 0), (.var 0))], [], []⟩)
 (.fresh 20 (.need (.cmp .leq (.var 3) (.dlen (.var 5))) (.need (.cmp .leq (.tims (.lit (1)) (.var 3)) (.lit (140737488355328))) (.fresh 21 (.fresh 22 (.need (.cmp .eql (.var 3) (.dlen (.dtake (.var 5) (.var 3)))) (.need (.cmp .leq (.var 11) (.dlen (.var 13))) (.need (.cmp .leq (.tims (.lit (1)) (.plus (.var 3) (.var 11))) (.lit (140737488355328))) (.fresh 23 (.fresh 24 (.ret 0 ⟨15, [(19, (.t (.dapp (.dtake (.var 5) (.var 3)) (.dtake (.var 13) (.var 11))))), (18, (.t (.var 24))), (17, (.t (.plus (.var 3) (.var 11)))), (16, (.r 23)), (15, (.t (.var 1)))], [((.var 18), (.var 24)), ((.lit (0)), (.lit (0))), ((.var 0), (.var 0))], [], []⟩))))))))))))))))
 (.br (.cmp .eql (.var 7) (.lit (6)))
 (.need (.cmp .leq (.lit (0)) (.var 11)) (.br (.cmp .gtr (.var 11) (.lit (65535)))
 (.both (.pre 1 ⟨0, [(1, (.t (.lit (2)))), (0, (.t (.conv .u64 (.var 11))))], [], [], []⟩ (.both (.fresh 20 (.fresh 21 (.fresh 22 (.fresh 23 (.post 1 0 ⟨0, [(1, (.t (.lit (2)))), (0, (.t (.conv .u64 (.var 11))))], [], [], []⟩ 20 (.both (.need (.cmp .eql (.var 21) (.dlen (.var 23))) (.need (.cmp .leq (.var 11) (.dlen (.var 13))) (.need (.cmp .leq (.tims (.lit (1)) (.plus (.var 21) (.var 11))) (.lit (140737488355328))) (.fresh 24 (.fresh 25 (.both (.br (.cmp .lss (.var 0) (.lit (0)))
 (.ret 0 ⟨15, [(19, (.t (.var 5))), (18, (.t (.var 4))), (17, (.t (.var 3))), (16, (.r 2)), (15, (.t (.bl true)))], [((.var 18), (.var 4)), ((.lit (0)), (.lit (0))), ((.var 0), (.var 0))], [], []⟩)
 (.ret 0 ⟨15, [(19, (.t (.var 5))), (18, (.t (.var 4))), (17, (.t (.var 3))), (16, (.r 2)), (15, (.t (.bl true)))], [((.var 18), (.var 4)), ((.lit (0)), (.lit (0))), ((.var 0), (.var 0))], [], []⟩)) .top)))))) .top)))))) .top)) .top)
 (.both (.pre 1 ⟨0, [(1, (.t (.lit (2)))), (0, (.t (.conv .u64 (.var 11))))], [], [], []⟩ (.both (.fresh 20 (.fresh 21 (.fresh 22 (.fresh 23 (.post 1 0 ⟨0, [(1, (.t (.lit (2)))), (0, (.t (.conv .u64 (.var 11))))], [], [], []⟩ 20 (.both (.need (.cmp .eql (.var 21) (.dlen (.var 23))) (.need (.cmp .leq (.var 11) (.dlen (.var 13))) (.need (.cmp .leq (.tims (.lit (1)) (.plus (.var 21) (.var 11))) (.lit (140737488355328))) (.fresh 24 (.fresh 25 (.both (.br (.cmp .lss (.var 0) (.lit (0)))
 (.br (.var 1)
 (.ret 0 ⟨15, [(19, (.t (.var 5))), (18, (.t (.var 4))), (17, (.t (.var 3))), (16, (.r 2)), (15, (.t (.bl true)))], [((.var 18), (.var 4)), ((.lit (0)), (.lit (0))), ((.var 0), (.var 0))], [], []⟩)
 (.need (.cmp .leq (.lit (0)) (.var 3)) (.need (.cmp .leq (.lit (0)) (.plus (.var 21) (.var 11))) (.br (.cmp .gtr (.arith .add .i64 (.var 3) (.plus (.var 21) (.var 11))) (.lit (0)))
 (.ret 0 ⟨15, [(19, (.t (.var 5))), (18, (.t (.var 4))), (17, (.t (.var 3))), (16, (.r 2)), (15, (.t (.bl true)))], [((.var 18), (.var 4)), ((.lit (0)), (.lit (0))), ((.var 0), (.var 0))], [], []⟩)
 (.fresh 26 (.need (.cmp .leq (.var 3) (.dlen (.var 5))) (.need (.cmp .leq (.tims (.lit (1)) (.var 3)) (.lit (140737488355328))) (.fresh 27 (.fresh 28 (.need (.cmp .eql (.var 3) (.dlen (.dtake (.var 5) (.var 3)))) (.need (.cmp .leq (.plus (.var 21) (.var 11)) (.dlen (.dapp (.var 23) (.dtake (.var 13) (.var 11))))) (.need (.cmp .leq (.tims (.lit (1)) (.plus (.var 3) (.plus (.var 21) (.var 11)))) (.lit (140737488355328))) (.fresh 29 (.fresh 30 (.ret 0 ⟨15, [(19, (.t (.dapp (.dtake (.var 5) (.var 3)) (.dtake (.dapp (.var 23) (.dtake (.var 13) (.var 11))) (.plus (.var 21) (.var 11)))))), (18, (.t (.var 30))), (17, (.t (.plus (.var 3) (.plus (.var 21) (.var 11))))), (16, (.r 29)), (15, (.t (.var 1)))], [((.var 18), (.var 30)), ((.lit (0)), (.lit (0))), ((.var 0), (.var 0))], [], []⟩)))))))))))))))
 (.br (.var 1)
 (.ret 0 ⟨15, [(19, (.t (.var 5))), (18, (.t (.var 4))), (17, (.t (.var 3))), (16, (.r 2)), (15, (.t (.bl true)))], [((.var 18), (.var 4)), ((.lit (0)), (.lit (0))), ((.var 0), (.var 0))], [], []⟩)
 (.need (.cmp .leq (.lit (0)) (.var 3)) (.need (.cmp .leq (.lit (0)) (.plus (.var 21) (.var 11))) (.br (.cmp .gtr (.arith .add .i64 (.var 3) (.plus (.var 21) (.var 11))) (.var 0))
 (.ret 0 ⟨15, [(19, (.t (.var 5))), (18, (.t (.var 4))), (17, (.t (.var 3))), (16, (.r 2)), (15, (.t (.bl true)))], [((.var 18), (.var 4)), ((.lit (0)), (.lit (0))), ((.var 0), (.var 0))], [], []⟩)
 (.fresh 26 (.need (.cmp .leq (.var 3) (.dlen (.var 5))) (.need (.cmp .leq (.tims (.lit (1)) (.var 3)) (.lit (140737488355328))) (.fresh 27 (.fresh 28 (.need (.cmp .eql (.var 3) (.dlen (.dtake (.var 5) (.var 3)))) (.need (.cmp .leq (.plus (.var 21) (.var 11)) (.dlen (.dapp (.var 23) (.dtake (.var 13) (.var 11))))) (.need (.cmp .leq (.tims (.lit (1)) (.plus (.var 3) (.plus (.var 21) (.var 11)))) (.lit (140737488355328))) (.fresh 29 (.fresh 30 (.ret 0 ⟨15, [(19, (.t (.dapp (.dtake (.var 5) (.var 3)) (.dtake (.dapp (.var 23) (.dtake (.var 13) (.var 11))) (.plus (.var 21) (.var 11)))))), (18, (.t (.var 30))), (17, (.t (.plus (.var 3) (.plus (.var 21) (.var 11))))), (16, (.r 29)), (15, (.t (.var 1)))], [((.var 18), (.var 30)), ((.lit (0)), (.lit (0))), ((.var 0), (.var 0))], [], []⟩)))))))))))))))) .top)))))) .top)))))) .top)) .top)))
 (.ret 0 ⟨15, [(19, (.t (.var 5))), (18, (.t (.var 4))), (17, (.t (.var 3))), (16, (.r 2)), (15, (.t (.var 1)))], [((.var 18), (.var 4)), ((.lit (0)), (.lit (0))), ((.var 0), (.var 0))], [], []⟩)))))) .top))))))
theorem o_wrote_eq : treeOf ⟨Tryd.prog, wroteC, [widthC, numberRC], []⟩ 100000 Tryd.f51 = o_wrote := by kernel_rfl
theorem wrote_of (hd : ∀ c ∈ ([widthC, numberRC] : List Ctr), c.ok Tryd.prog) (h : ∀ ρ : Env, ρ.good → (wroteC).pre ρ → o_wrote.den ⟨Tryd.prog, wroteC, [widthC, numberRC], []⟩ ρ) : (wroteC).ok Tryd.prog :=
  ok_of_tree Tryd.func51 (fun a w => Tryd.call51 a w) hd 100000 (fun ρ hg hp => by rw [o_wrote_eq]; exact h ρ hg hp)
def o_bytesJ : Out := (.br (.var 2)
 (.ret 0 ⟨7, [(11, (.t .dnil)), (10, (.t (.lit (3)))), (9, (.t (.lit (0)))), (8, (.t (.lit (0)))), (7, .nil)], [((.var 9), (.lit (0))), ((.lit (0)), (.lit (0)))], [], []⟩)
 (.pre 0 ⟨0, [(4, (.t (.var 5))), (3, (.t (.var 6))), (2, (.t (.var 5))), (1, (.t (.var 4))), (0, (.r 3))], [((.lit (0)), (.lit (0)))], [], []⟩ (.both (.fresh 7 (.fresh 8 (.fresh 9 (.post 0 0 ⟨0, [(4, (.t (.var 5))), (3, (.t (.var 6))), (2, (.t (.var 5))), (1, (.t (.var 4))), (0, (.r 3))], [((.lit (0)), (.lit (0)))], [], []⟩ 7 (.ret 0 ⟨7, [(11, (.t (.var 9))), (10, (.t (.lit (0)))), (9, (.t (.var 8))), (8, (.t (.var 4))), (7, (.r 7))], [((.var 9), (.var 8)), ((.lit (0)), (.lit (0)))], [], []⟩))))) .top)))
theorem o_bytesJ_eq : treeOf ⟨Tryd.prog, bytesJC, [cloneBC], []⟩ 100000 Tryd.f52 = o_bytesJ := by kernel_rfl
theorem bytesJ_of (hd : ∀ c ∈ ([cloneBC] : List Ctr), c.ok Tryd.prog) (h : ∀ ρ : Env, ρ.good → (bytesJC).pre ρ → o_bytesJ.den ⟨Tryd.prog, bytesJC, [cloneBC], []⟩ ρ) : (bytesJC).ok Tryd.prog :=
  ok_of_tree Tryd.func52 (fun a w => Tryd.call52 a w) hd 100000 (fun ρ hg hp => by rw [o_bytesJ_eq]; exact h ρ hg hp)
def o_heavy : Out := (.need (.cmp .leq (.lit (0)) (.var 1)) (.br (.cmp .gtr (.var 1) (.lit (200)))
 (.ret 0 ⟨6, [(6, (.t (.bl true)))], [], [], []⟩)
 (.inv 0 6 ⟨1000, [(1001, (.t (.lit (0)))), (1000, (.t (.lit (0))))], [((.var 2), (.var 2)), ((.var 1), (.var 1)), ((.lit (0)), (.lit (0)))], [], []⟩ (.fresh 6 (.fresh 7 (.hyp 0 6 (.br (.cmp .lss (.var 7) (.var 1))
 (.need (.cmp .leq (.lit (0)) (.var 7)) (.need (.cmp .lss (.var 7) (.dlen (.var 3))) (.view (.vcell (.var 3) (.var 7) 3) [CK.int .u8] [5] 8 (.br (.cmp .gtr (.dlen (.var 10)) (.lit (70000)))
 (.ret 0 ⟨6, [(6, (.t (.bl true)))], [], [], []⟩)
 (.br (.cmp .gtr (.var 6) (.lit (200000)))
 (.ret 0 ⟨6, [(6, (.t (.bl true)))], [], [], []⟩)
 (.view (.vcell (.var 3) (.var 7) 3) [CK.int .u8] [5] 11 (.back 0 6 ⟨1000, [(1001, (.t (.arith .add .i64 (.var 7) (.lit (1))))), (1000, (.t (.arith .add .i64 (.var 6) (.dlen (.var 13)))))], [((.var 2), (.var 2)), ((.var 1), (.var 1)), ((.lit (0)), (.lit (0)))], [], []⟩)))))))
 (.ret 0 ⟨6, [(6, (.t (.cmp .gtr (.var 6) (.lit (200000)))))], [], [], []⟩))))))))
theorem o_heavy_eq : treeOf ⟨Tryd.prog, heavyC, [], [heavyI]⟩ 100000 Tryd.f48 = o_heavy := by kernel_rfl
theorem heavy_of (hd : ∀ c ∈ ([] : List Ctr), c.ok Tryd.prog) (h : ∀ ρ : Env, ρ.good → (heavyC).pre ρ → o_heavy.den ⟨Tryd.prog, heavyC, [], [heavyI]⟩ ρ) : (heavyC).ok Tryd.prog :=
  ok_of_tree Tryd.func48 (fun a w => Tryd.call48 a w) hd 100000 (fun ρ hg hp => by rw [o_heavy_eq]; exact h ρ hg hp)
def o_lawWrites : Out := (.pre 1 ⟨0, [(5, (.r 6)), (4, (.t (.var 5))), (3, (.t (.var 4))), (2, (.t (.var 3))), (1, (.t (.var 2))), (0, (.r 1))], [((.lit (0)), (.lit (0)))], [], []⟩ (.both (.fresh 9 (.post 1 0 ⟨0, [(5, (.r 6)), (4, (.t (.var 5))), (3, (.t (.var 4))), (2, (.t (.var 3))), (1, (.t (.var 2))), (0, (.r 1))], [((.lit (0)), (.lit (0)))], [], []⟩ 9 (.br (.var 9)
 (.pre 0 ⟨0, [(1, (.t (.var 8))), (0, (.r 7))], [((.lit (1)), (.lit (1)))], [], []⟩ (.both (.post 0 0 ⟨0, [(1, (.t (.var 8))), (0, (.r 7))], [((.lit (1)), (.lit (1)))], [], []⟩ 10 (.ret 0 ⟨9, [], [], [((.bl true), (.bl true))], []⟩)) .top))
 (.pre 2 ⟨0, [(0, (.t (.var 0)))], [], [], []⟩ (.both (.fresh 10 (.fresh 11 (.fresh 12 (.fresh 13 (.post 2 0 ⟨0, [(0, (.t (.var 0)))], [], [], []⟩ 10 (.fresh 14 (.pack [] 15 (.inv 0 16 ⟨1000, [(1013, (.r 15)), (1011, (.t .dnil)), (1010, (.t (.lit (0)))), (1009, (.t (.lit (0)))), (1008, .nil), (1014, (.t (.bl false))), (1006, (.t .dnil)), (1005, (.t (.lit (0)))), (1004, (.t (.lit (0)))), (1003, .nil), (1002, (.t (.bl false))), (1001, (.t (.var 11))), (1012, (.t (.lit (0)))), (1007, (.r 14)), (1000, (.r 10))], [((.var 1010), (.lit (0))), ((.lit (0)), (.lit (0))), ((.var 0), (.var 0)), ((.var 1005), (.lit (0))), ((.lit (0)), (.lit (0))), ((.lit (0)), (.lit (0))), ((.var 3), (.var 3)), ((.var 2), (.var 2)), ((.lit (0)), (.lit (0))), ((.var 0), (.var 0))], [], []⟩ (.fresh 16 (.fresh 17 (.fresh 18 (.fresh 19 (.fresh 20 (.fresh 21 (.fresh 22 (.fresh 23 (.fresh 24 (.fresh 25 (.fresh 26 (.fresh 27 (.fresh 28 (.fresh 29 (.fresh 30 (.hyp 0 16 (.need (.cmp .leq (.lit (0)) (.var 2)) (.br (.cmp .lss (.var 28) (.var 2))
 (.need (.cmp .leq (.lit (0)) (.var 28)) (.need (.cmp .lss (.var 28) (.dlen (.var 4))) (.view (.vcell (.var 4) (.var 28) 3) [CK.int .u8] [29, 6] 31 (.pre 3 ⟨0, [(14, (.t (.var 32))), (13, (.t (.var 33))), (6, (.t (.var 22))), (5, (.t (.var 21))), (4, (.t (.var 20))), (3, (.r 19)), (2, (.t (.var 18))), (1, (.t (.var 17))), (12, (.t (.var 32))), (11, (.t (.dlen (.var 33)))), (10, (.r 31)), (9, (.t (.icell (.var 4) (.var 28) 2))), (8, (.t (.icell (.var 4) (.var 28) 1))), (7, (.t (.icell (.var 4) (.var 28) 0))), (0, (.r 16))], [((.var 5), (.var 21)), ((.lit (0)), (.lit (0))), ((.lit (0)), (.lit (0))), ((.lit (0)), (.lit (0)))], [], []⟩ (.both (.fresh 34 (.fresh 35 (.fresh 36 (.fresh 37 (.fresh 38 (.post 3 0 ⟨0, [(14, (.t (.var 32))), (13, (.t (.var 33))), (6, (.t (.var 22))), (5, (.t (.var 21))), (4, (.t (.var 20))), (3, (.r 19)), (2, (.t (.var 18))), (1, (.t (.var 17))), (12, (.t (.var 32))), (11, (.t (.dlen (.var 33)))), (10, (.r 31)), (9, (.t (.icell (.var 4) (.var 28) 2))), (8, (.t (.icell (.var 4) (.var 28) 1))), (7, (.t (.icell (.var 4) (.var 28) 0))), (0, (.r 16))], [((.var 5), (.var 21)), ((.lit (0)), (.lit (0))), ((.lit (0)), (.lit (0))), ((.lit (0)), (.lit (0)))], [], []⟩ 34 (.both (.view (.vcell (.var 4) (.var 28) 3) [CK.int .u8] [29, 6] 39 (.pre 4 ⟨0, [(14, (.t (.var 40))), (13, (.t (.var 41))), (5, (.t (.var 27))), (12, (.t (.var 40))), (11, (.t (.dlen (.var 41)))), (10, (.r 39)), (9, (.t (.icell (.var 4) (.var 28) 2))), (8, (.t (.icell (.var 4) (.var 28) 1))), (7, (.t (.icell (.var 4) (.var 28) 0))), (4, (.t (.var 26))), (3, (.t (.var 25))), (2, (.r 24)), (1, (.t (.var 30))), (0, (.t (.var 0)))], [((.var 4), (.var 26)), ((.lit (0)), (.lit (0))), ((.lit (0)), (.lit (0)))], [], []⟩ (.both (.fresh 42 (.fresh 43 (.fresh 44 (.fresh 45 (.fresh 46 (.post 4 0 ⟨0, [(14, (.t (.var 40))), (13, (.t (.var 41))), (5, (.t (.var 27))), (12, (.t (.var 40))), (11, (.t (.dlen (.var 41)))), (10, (.r 39)), (9, (.t (.icell (.var 4) (.var 28) 2))), (8, (.t (.icell (.var 4) (.var 28) 1))), (7, (.t (.icell (.var 4) (.var 28) 0))), (4, (.t (.var 26))), (3, (.t (.var 25))), (2, (.r 24)), (1, (.t (.var 30))), (0, (.t (.var 0)))], [((.var 4), (.var 26)), ((.lit (0)), (.lit (0))), ((.lit (0)), (.lit (0)))], [], []⟩ 42 (.both (.pre 5 ⟨0, [(6, (.t (.var 38))), (5, (.t (.var 37))), (4, (.t (.var 36))), (3, (.r 35)), (2, (.t (.var 34))), (1, (.t (.var 17))), (0, (.r 16))], [((.var 5), (.var 37)), ((.lit (0)), (.lit (0))), ((.lit (0)), (.lit (0)))], [], []⟩ (.both (.fresh 47 (.fresh 48 (.fresh 49 (.fresh 50 (.fresh 51 (.post 5 0 ⟨0, [(6, (.t (.var 38))), (5, (.t (.var 37))), (4, (.t (.var 36))), (3, (.r 35)), (2, (.t (.var 34))), (1, (.t (.var 17))), (0, (.r 16))], [((.var 5), (.var 37)), ((.lit (0)), (.lit (0))), ((.lit (0)), (.lit (0)))], [], []⟩ 47 (.need (.cmp .leq (.lit (0)) (.var 44)) (.both (.pre 6 ⟨0, [(6, (.t (.var 38))), (5, (.t (.var 37))), (4, (.t (.var 36))), (3, (.r 35)), (2, (.t (.var 34))), (1, (.t (.var 17))), (0, (.r 16))], [((.var 5), (.var 37)), ((.lit (0)), (.lit (0))), ((.lit (0)), (.lit (0)))], [], []⟩ (.both (.post 6 0 ⟨0, [(6, (.t (.var 38))), (5, (.t (.var 37))), (4, (.t (.var 36))), (3, (.r 35)), (2, (.t (.var 34))), (1, (.t (.var 17))), (0, (.r 16))], [((.var 5), (.var 37)), ((.lit (0)), (.lit (0))), ((.lit (0)), (.lit (0)))], [], []⟩ 52 (.br (.cmp .neq (.var 36) (.var 44))
 (.stuck 7 0 0)
 (.br (.beq (.cmp .eql (.var 50) (.lit (0))) (.var 42))
 (.stuck 7 0 0)
 (.br (.var 42)
 (.br (.cmp .neq (.var 50) (.lit (3)))
 (.stuck 7 0 0)
 (.inv 1 52 ⟨1000, [(1013, (.r 29)), (1018, (.t (.var 51))), (1011, (.t (.var 46))), (1010, (.t (.var 45))), (1009, (.t (.var 44))), (1008, (.r 43)), (1014, (.t (.var 42))), (1006, (.t (.var 38))), (1005, (.t (.var 37))), (1004, (.t (.var 36))), (1003, (.r 35)), (1002, (.t (.var 34))), (1001, (.t (.var 17))), (1019, (.t (.lit (0)))), (1017, (.t (.var 49))), (1016, (.t (.var 48))), (1015, (.r 47)), (1012, (.t (.var 28))), (1007, (.r 23)), (1000, (.r 16))], [((.var 1017), (.var 49)), ((.var 1010), (.var 45)), ((.lit (0)), (.lit (0))), ((.var 0), (.var 0)), ((.var 1005), (.var 37)), ((.lit (0)), (.lit (0))), ((.lit (0)), (.lit (0))), ((.lit (0)), (.lit (0))), ((.lit (0)), (.lit (0))), ((.var 3), (.var 3)), ((.var 2), (.var 2)), ((.lit (0)), (.lit (0))), ((.var 0), (.var 0))], [], []⟩ (.fresh 52 (.fresh 53 (.fresh 54 (.fresh 55 (.fresh 56 (.fresh 57 (.fresh 58 (.fresh 59 (.fresh 60 (.fresh 61 (.fresh 62 (.fresh 63 (.fresh 64 (.fresh 65 (.fresh 66 (.fresh 67 (.fresh 68 (.fresh 69 (.fresh 70 (.fresh 71 (.hyp 1 52 (.need (.cmp .leq (.lit (0)) (.var 68)) (.br (.cmp .lss (.var 71) (.var 68))
 (.need (.cmp .leq (.lit (0)) (.var 71)) (.need (.cmp .lss (.var 71) (.dlen (.var 70))) (.back 1 52 ⟨1000, [(1013, (.r 65)), (1018, (.t (.dput (.var 70) (.var 71) 0 (.rcons (.vint .u8 (.arith .xor .u8 (.icell (.var 70) (.var 71) 0) (.lit (255)))) .rnil)))), (1011, (.t (.var 63))), (1010, (.t (.var 62))), (1009, (.t (.var 61))), (1008, (.r 60)), (1014, (.t (.var 66))), (1006, (.t (.var 58))), (1005, (.t (.var 57))), (1004, (.t (.var 56))), (1003, (.r 55)), (1002, (.t (.var 54))), (1001, (.t (.var 53))), (1019, (.t (.arith .add .i64 (.var 71) (.lit (1))))), (1017, (.t (.var 69))), (1016, (.t (.var 68))), (1015, (.r 67)), (1012, (.t (.var 64))), (1007, (.r 59)), (1000, (.r 52))], [((.var 1017), (.var 69)), ((.var 1010), (.var 62)), ((.lit (0)), (.lit (0))), ((.var 0), (.var 0)), ((.var 1005), (.var 57)), ((.lit (0)), (.lit (0))), ((.lit (0)), (.lit (0))), ((.lit (0)), (.lit (0))), ((.lit (0)), (.lit (0))), ((.var 3), (.var 3)), ((.var 2), (.var 2)), ((.lit (0)), (.lit (0))), ((.var 0), (.var 0))], [], []⟩)))
 (.pack [.arr 67 5 [CK.int .u8] (.var 70) (.var 69), .abs 65 2] 72 (.back 0 16 ⟨1000, [(1013, (.r 72)), (1011, (.t (.var 63))), (1010, (.t (.var 62))), (1009, (.t (.var 61))), (1008, (.r 60)), (1014, (.t (.var 66))), (1006, (.t (.var 58))), (1005, (.t (.var 57))), (1004, (.t (.var 56))), (1003, (.r 55)), (1002, (.t (.var 54))), (1001, (.t (.var 53))), (1012, (.t (.arith .add .i64 (.var 64) (.lit (1))))), (1007, (.r 59)), (1000, (.r 52))], [((.var 1010), (.var 62)), ((.lit (0)), (.lit (0))), ((.var 0), (.var 0)), ((.var 1005), (.var 57)), ((.lit (0)), (.lit (0))), ((.lit (0)), (.lit (0))), ((.lit (0)), (.lit (0))), ((.var 3), (.var 3)), ((.var 2), (.var 2)), ((.lit (0)), (.lit (0))), ((.var 0), (.var 0))], [], []⟩)))))))))))))))))))))))))))
 (.need (.cmp .leq (.lit (0)) (.var 48)) (.need (.cmp .leq (.var 48) (.dlen (.var 51))) (.need (.cmp .leq (.var 44) (.dlen (.var 46))) (.br (.not (.c2 .veq (.c1 .vbytes (.dtake (.var 51) (.var 48))) (.c1 .vbytes (.dtake (.var 46) (.var 44)))))
 (.stuck 7 0 0)
 (.inv 1 52 ⟨1000, [(1013, (.r 29)), (1018, (.t (.var 51))), (1011, (.t (.var 46))), (1010, (.t (.var 45))), (1009, (.t (.var 44))), (1008, (.r 43)), (1014, (.t (.var 42))), (1006, (.t (.var 38))), (1005, (.t (.var 37))), (1004, (.t (.var 36))), (1003, (.r 35)), (1002, (.t (.var 34))), (1001, (.t (.var 17))), (1019, (.t (.lit (0)))), (1017, (.t (.var 49))), (1016, (.t (.var 48))), (1015, (.r 47)), (1012, (.t (.var 28))), (1007, (.r 23)), (1000, (.r 16))], [((.var 1017), (.var 49)), ((.var 1010), (.var 45)), ((.lit (0)), (.lit (0))), ((.var 0), (.var 0)), ((.var 1005), (.var 37)), ((.lit (0)), (.lit (0))), ((.lit (0)), (.lit (0))), ((.lit (0)), (.lit (0))), ((.lit (0)), (.lit (0))), ((.var 3), (.var 3)), ((.var 2), (.var 2)), ((.lit (0)), (.lit (0))), ((.var 0), (.var 0))], [], []⟩ (.fresh 52 (.fresh 53 (.fresh 54 (.fresh 55 (.fresh 56 (.fresh 57 (.fresh 58 (.fresh 59 (.fresh 60 (.fresh 61 (.fresh 62 (.fresh 63 (.fresh 64 (.fresh 65 (.fresh 66 (.fresh 67 (.fresh 68 (.fresh 69 (.fresh 70 (.fresh 71 (.hyp 1 52 (.need (.cmp .leq (.lit (0)) (.var 68)) (.br (.cmp .lss (.var 71) (.var 68))
 (.need (.cmp .leq (.lit (0)) (.var 71)) (.need (.cmp .lss (.var 71) (.dlen (.var 70))) (.back 1 52 ⟨1000, [(1013, (.r 65)), (1018, (.t (.dput (.var 70) (.var 71) 0 (.rcons (.vint .u8 (.arith .xor .u8 (.icell (.var 70) (.var 71) 0) (.lit (255)))) .rnil)))), (1011, (.t (.var 63))), (1010, (.t (.var 62))), (1009, (.t (.var 61))), (1008, (.r 60)), (1014, (.t (.var 66))), (1006, (.t (.var 58))), (1005, (.t (.var 57))), (1004, (.t (.var 56))), (1003, (.r 55)), (1002, (.t (.var 54))), (1001, (.t (.var 53))), (1019, (.t (.arith .add .i64 (.var 71) (.lit (1))))), (1017, (.t (.var 69))), (1016, (.t (.var 68))), (1015, (.r 67)), (1012, (.t (.var 64))), (1007, (.r 59)), (1000, (.r 52))], [((.var 1017), (.var 69)), ((.var 1010), (.var 62)), ((.lit (0)), (.lit (0))), ((.var 0), (.var 0)), ((.var 1005), (.var 57)), ((.lit (0)), (.lit (0))), ((.lit (0)), (.lit (0))), ((.lit (0)), (.lit (0))), ((.lit (0)), (.lit (0))), ((.var 3), (.var 3)), ((.var 2), (.var 2)), ((.lit (0)), (.lit (0))), ((.var 0), (.var 0))], [], []⟩)))
 (.pack [.arr 67 5 [CK.int .u8] (.var 70) (.var 69), .abs 65 2] 72 (.back 0 16 ⟨1000, [(1013, (.r 72)), (1011, (.t (.var 63))), (1010, (.t (.var 62))), (1009, (.t (.var 61))), (1008, (.r 60)), (1014, (.t (.var 66))), (1006, (.t (.var 58))), (1005, (.t (.var 57))), (1004, (.t (.var 56))), (1003, (.r 55)), (1002, (.t (.var 54))), (1001, (.t (.var 53))), (1012, (.t (.arith .add .i64 (.var 64) (.lit (1))))), (1007, (.r 59)), (1000, (.r 52))], [((.var 1010), (.var 62)), ((.lit (0)), (.lit (0))), ((.var 0), (.var 0)), ((.var 1005), (.var 57)), ((.lit (0)), (.lit (0))), ((.lit (0)), (.lit (0))), ((.lit (0)), (.lit (0))), ((.var 3), (.var 3)), ((.var 2), (.var 2)), ((.lit (0)), (.lit (0))), ((.var 0), (.var 0))], [], []⟩)))))))))))))))))))))))))))))))))) .top)) .top)))))))) .top)) .top))))))) .top))) .top))))))) .top)))))
 (.pre 0 ⟨0, [(1, (.t (.var 8))), (0, (.r 7))], [((.lit (1)), (.lit (1)))], [], []⟩ (.both (.post 0 0 ⟨0, [(1, (.t (.var 8))), (0, (.r 7))], [((.lit (1)), (.lit (1)))], [], []⟩ 31 (.ret 0 ⟨9, [], [], [((.bl true), (.bl true))], []⟩)) .top)))))))))))))))))))))))))))) .top))))) .top))
theorem o_lawWrites_eq : treeOf ⟨Tryd.prog, lawWritesC, [knownC, heavyC, newWriterC, writeOpC, wroteC, bytesJC, lenWC], [lawWritesI, lawWritesJ]⟩ 100000 Tryd.f11 = o_lawWrites := by kernel_rfl
theorem lawWrites_of (hd : ∀ c ∈ ([knownC, heavyC, newWriterC, writeOpC, wroteC, bytesJC, lenWC] : List Ctr), c.ok Tryd.prog) (h : ∀ ρ : Env, ρ.good → (lawWritesC).pre ρ → o_lawWrites.den ⟨Tryd.prog, lawWritesC, [knownC, heavyC, newWriterC, writeOpC, wroteC, bytesJC, lenWC], [lawWritesI, lawWritesJ]⟩ ρ) : (lawWritesC).ok Tryd.prog :=
  ok_of_tree Tryd.func11 (fun a w => Tryd.call11 a w) hd 100000 (fun ρ hg hp => by rw [o_lawWrites_eq]; exact h ρ hg hp)
end Go.Proofs

set_option linter.unusedSimpArgs false
set_option linter.unusedVariables false
namespace Go.Proofs
open Go Go.Eng
set_option maxRecDepth 20000
theorem u32_ok : u32C.ok Tryd.prog := u32_of (by simp [number_ok]) fun ρ hg hp => by
  obtain ⟨hw, q, v0, v1⟩ := hp
  have v1 : (ρ 7).i < 4294967296 := v1
  simp [o_u32, u32C, numFn, numberC, wHeap, wCells, wPost]
  have hv : IntKind.u64.wrap (ρ 7).i = (ρ 7).i := by rw [wrap64u]; omega
  rw [hv]
  exact ⟨⟨hw, q, v0, by omega⟩, fun _ _ _ _ _ _ _ _ h1 h2 => ⟨h1, h2⟩⟩
theorem u64_ok : u64C.ok Tryd.prog := u64_of (by simp [number_ok]) fun ρ hg hp => by
  obtain ⟨hw, q, v0, v1⟩ := hp
  have v1 : (ρ 7).i < 18446744073709551616 := v1
  simp [o_u64, u64C, numFn, numberC, wHeap, wCells, wPost]
  exact ⟨hw, q, v0, by omega⟩
theorem w8_range (x : Int) : 0 ≤ IntKind.u8.wrap x ∧ IntKind.u8.wrap x < 256 := by rw [wrap8]; omega
theorem be2 {v : Int} (h0 : 0 ≤ v) (h1 : v < 9223372036854775808) : [IntKind.u8.wrap (arithOf .shr .i64 v 8), IntKind.u8.wrap v] = beL v 2 := by
  have e : beL v 2 = [v.fdiv 256 % 256, v.fdiv 1 % 256] := rfl
  have e1 : arithOf .shr .i64 v 8 = v.fdiv 256 := rfl
  rw [e, e1, wrap8, wrap8, Int.fdiv_one]
theorem text_ok : textC.ok Tryd.prog := text_of (by simp [room_ok]) fun ρ hg hp => by
  obtain ⟨hw, o0, l0, lc, q, hle, hB⟩ := hp
  simp [o_text, textC, roomC, wHeap, wCells, wPost]
  have w2 := hw.2.2.1
  have hsl : (segB (ρ 11).d (ρ 8).i (ρ 9).i).length = (ρ 9).i.toNat := by simp [segB, bI_len]; omega
  have hbl : (beL (ρ 9).i 2).length = 2 := beL_len
  refine ⟨l0, fun h => ⟨hw, ?_⟩, fun h => ?_⟩
  · rw [wThen_full]
    simp [wFull, h]
  · have m1 : arithOf .add .i64 (ρ 9).i 2 = (ρ 9).i + 2 := by rw [Go.Proofs.add64 (by omega) (by omega)]
    have hd : decide (65535 < (ρ 9).i) = false := decide_eq_false (by omega)
    rw [m1, hd, Bool.or_false]
    refine ⟨⟨hw, by omega, by omega⟩, fun u _ f _ hf hu => ⟨fun hut => ?_, fun hut => ⟨hw, ?_⟩⟩⟩
    · have hff : f.b = false := by rw [hut] at hu; simpa using hu.symm
      rw [hff] at hf ⊢
      refine ⟨w2, by omega, w2, o0, hle, by omega, fun c _ => ?_⟩
      have hx : bI ([.int .u8 (IntKind.u8.wrap (arithOf .shr .i64 (ρ 9).i 8))] :: [.int .u8 (IntKind.u8.wrap (ρ 9).i)] :: List.take (ρ 9).i.toNat (List.drop (ρ 8).i.toNat (ρ 11).d)) = beL (ρ 9).i 2 ++ segB (ρ 11).d (ρ 8).i (ρ 9).i := by
        rw [← be2 l0 (by omega)]
        simp [bI, rowI, vInt, segB]
      have := w_fits (c2 := c.i) hw hf.symm hx (fun r hr => by
        rcases List.mem_cons.1 hr with rfl | hr
        · exact w8_range _
        · rcases List.mem_cons.1 hr with rfl | hr
          · exact w8_range _
          · exact allB_sub hB r hr) (by simp; omega)
      rw [show (ρ 4).i + 2 + (ρ 9).i = (ρ 4).i + ((ρ 9).i + 2) by omega]
      exact this
    · have hff : f.b = true := by rw [hut] at hu; simpa using hu.symm
      rw [hff] at hf ⊢
      exact w_full hf.symm (by rw [List.length_append, hsl, hbl]; omega)
theorem be_next {v i : Int} {N I : Nat} (hI : I < N) (hN : N ≤ 8) : List.take (N - 1 - I) (beL v N) ++ [IntKind.u8.wrap (arithOf .shr .u64 v (arithOf .mul .u64 8 (IntKind.u64.wrap (I : Int))))] = List.take (N - I) (beL v N) := by
  have hg := beL_get (v := v) (n := N) (j := N - 1 - I) (by omega)
  rw [show N - 1 - (N - 1 - I) = I by omega] at hg
  rw [wrapN (by omega), mul8 (by omega), shr_u64 (by omega), wrap8, ← hg, show N - I = (N - 1 - I) + 1 by omega, List.take_add_one, List.getElem?_eq_getElem (by rw [beL_len]; omega)]
  rfl
theorem numberR_ok : numberRC.ok Tryd.prog := numberR_of (by simp) fun ρ hg hp => by
  obtain ⟨⟨v0, v1⟩, n0, n1⟩ := hp
  simp [o_numberR, numberRC, numberRI]
  obtain ⟨N, hN⟩ : ∃ N : Nat, (ρ 1).i = N := ⟨(ρ 1).i.toNat, by omega⟩
  have m0 : arithOf .sub .i64 (ρ 1).i 1 = (ρ 1).i - 1 := by rw [Go.Proofs.sub64 (by omega) (by omega)]
  rw [m0]
  refine ⟨⟨by omega, by omega, n1, fun r hr => (by cases hr), ?_⟩, fun l _ d _ i _ i0 i1 _ hl hB hd => ⟨fun hi => ?_, fun hi => ⟨hl, hB, ?_⟩⟩⟩
  · rw [show ((ρ 1).i - 1 - ((ρ 1).i - 1)).toNat = 0 by omega]; rfl
  · obtain ⟨I, hI⟩ : ∃ I : Nat, i.i = I := ⟨i.i.toNat, by omega⟩
    have m1 : arithOf .sub .i64 i.i 1 = i.i - 1 := by rw [Go.Proofs.sub64 (by omega) (by omega)]
    have hdl : d.d.length ≤ 8 := by
      have := congrArg List.length hd
      rw [bI_len, List.length_take, beL_len] at this; omega
    have hmul : 0 ≤ arithOf .mul .u64 8 (IntKind.u64.wrap i.i) := by rw [hI, wrapN (by omega), mul8 (by omega)]; omega
    rw [m1]
    refine ⟨hmul, hl, by omega, ⟨by omega, by omega, n1, hl, allB_app hB fun r hr => ?_, ?_⟩, by omega⟩
    · obtain rfl := List.mem_singleton.1 hr
      exact w8_range _
    · have := be_next (v := (ρ 0).i) (i := i.i) (N := N) (I := I) (by omega) (by omega)
      rw [bI_app, hd, hN, hI, Int.toNat_natCast, show ((N : Int) - 1 - (I : Int)).toNat = N - 1 - I by omega, show ((N : Int) - 1 - ((I : Int) - 1)).toNat = N - I by omega, ← this]
      rfl
  · rw [hd, List.take_of_length_le (by rw [beL_len]; omega)]
theorem width_ok : widthC.ok Tryd.prog := width_of (by simp) fun ρ hg hp => by
  simp [o_width, widthC]
  refine ⟨fun h1 => ⟨fun h4 => ?_, fun h4 _ _ => by omega⟩, fun h1 _ _ => by omega⟩
  have h : (ρ 0).i = 1 ∨ (ρ 0).i = 2 ∨ (ρ 0).i = 3 ∨ (ρ 0).i = 4 := by omega
  rcases h with h | h | h | h <;> rw [h] <;> decide +kernel
theorem beL_w1 {v : Int} : beL (v % 256) 1 = beL v 1 := by simp [beL, List.range_succ]
theorem beL_w2 {v : Int} : beL (v % 65536) 2 = beL v 2 := by
  have e : ∀ v : Int, beL v 2 = [v.fdiv 256 % 256, v.fdiv 1 % 256] := fun v => rfl
  have f : ∀ v : Int, beL v 2 = [v / 256 % 256, v % 256] := fun v => by
    rw [e, Int.fdiv_eq_ediv_of_nonneg _ (by decide), Int.fdiv_one]
  rw [f, f, show v % 65536 / 256 % 256 = v / 256 % 256 by omega, show v % 65536 % 256 = v % 256 by omega]
theorem beL_w4 {v : Int} : beL (v % 4294967296) 4 = beL v 4 := by
  have e : ∀ v : Int, beL v 4 = [v.fdiv 16777216 % 256, v.fdiv 65536 % 256, v.fdiv 256 % 256, v.fdiv 1 % 256] := fun v => rfl
  have f : ∀ v : Int, beL v 4 = [v / 16777216 % 256, v / 65536 % 256, v / 256 % 256, v % 256] := fun v => by
    rw [e, Int.fdiv_eq_ediv_of_nonneg _ (by decide), Int.fdiv_eq_ediv_of_nonneg _ (by decide), Int.fdiv_eq_ediv_of_nonneg _ (by decide), Int.fdiv_one]
  rw [f, f, show v % 4294967296 / 16777216 % 256 = v / 16777216 % 256 by omega, show v % 4294967296 / 65536 % 256 = v / 65536 % 256 by omega, show v % 4294967296 / 256 % 256 = v / 256 % 256 by omega, show v % 4294967296 % 256 = v % 256 by omega]
theorem wrap16u {x : Int} : IntKind.u16.wrap x = x % 65536 := by simp [IntKind.wrap, IntKind.bits, IntKind.signed]
theorem wrap32u {x : Int} : IntKind.u32.wrap x = x % 4294967296 := by simp [IntKind.wrap, IntKind.bits, IntKind.signed]
theorem wrote_some {lim : Int} {f : Bool} {m b s : List Int} {k v : Int} (h : opAdd k v b = some s) : wrote lim f m k v b = wThen lim (f || opLong k b) m s := by rw [wrote, h]
theorem wrote_none {lim : Int} {f : Bool} {m b : List Int} {k v : Int} (h : opAdd k v b = none) : wrote lim f m k v b = (f, m) := by rw [wrote, h]
theorem opAdd_num {k v : Int} {b : List Int} (h1 : 1 ≤ k) (h4 : k ≤ 4) : opAdd k v b = some (beL v (2 ^ (k.toNat - 1))) := by rw [opAdd, if_pos ⟨h1, h4⟩]
theorem opAdd_raw {v : Int} {b : List Int} : opAdd 5 v b = some b := by simp [opAdd]
theorem opAdd_text {v : Int} {b : List Int} : opAdd 6 v b = some (beL b.length 2 ++ b) := by simp [opAdd]
theorem opAdd_other {k v : Int} {b : List Int} (h1 : ¬ (1 ≤ k ∧ k ≤ 4)) (h5 : k ≠ 5) (h6 : k ≠ 6) : opAdd k v b = none := by rw [opAdd, if_neg h1, if_neg h5, if_neg h6]
theorem opLong_no {k : Int} {b : List Int} (h : k ≠ 6) : opLong k b = false := decide_eq_false fun e => h e.1
theorem writeOp_ok : writeOpC.ok Tryd.prog := writeOp_of (by simp [u8_ok, u16_ok, u32_ok, u64_ok, raw_ok, text_ok]) fun ρ hg hp => by
  obtain ⟨hw, hk, ⟨v0, v1⟩, hl, hl1, hq, hB⟩ := hp
  simp [o_writeOp, writeOpC, u8C, u16C, u32C, u64C, numFn, rawC, textC, wHeap, wCells, wPost]
  have num : ∀ n : Nat, (ρ 7).i = n → 1 ≤ n → n ≤ 4 → wrote (ρ 1).i (ρ 2).b (bI (ρ 6).d) (ρ 7).i (ρ 8).i (bI (ρ 13).d) = wThen (ρ 1).i (ρ 2).b (bI (ρ 6).d) (beL (ρ 8).i (2 ^ (n - 1))) := fun n hn h1 h4 => by
    rw [wrote_some (opAdd_num (by omega) (by omega)), opLong_no (by omega), Bool.or_false, hn, Int.toNat_natCast]
  have hbl : (bI (ρ 13).d).length = (ρ 13).d.length := bI_len
  have ht : List.take (ρ 11).i.toNat (ρ 13).d = (ρ 13).d := List.take_of_length_le (by omega)
  refine ⟨fun h => ⟨⟨hw, by omega, by rw [wrap8]; omega, by rw [wrap8]; omega⟩, fun f _ _ _ _ _ d _ h1 h2 => ⟨h1, ?_⟩⟩, fun h1 => ⟨fun h => ⟨⟨hw, by omega, by rw [wrap16u]; omega, by rw [wrap16u]; omega⟩, fun f _ _ _ _ _ d _ h1 h2 => ⟨h1, ?_⟩⟩, fun h2 => ⟨fun h => ⟨⟨hw, by omega, by rw [wrap32u]; omega, by rw [wrap32u]; omega⟩, fun f _ _ _ _ _ d _ h1 h2 => ⟨h1, ?_⟩⟩, fun h3 => ⟨fun h => ⟨⟨hw, by omega, v0, v1⟩, fun f _ _ _ _ _ d _ h1 h2 => ⟨h1, ?_⟩⟩, fun h4 => ⟨fun h => ⟨by omega, by omega, by omega, fun c _ hc => ⟨⟨hw, by omega, by omega, by omega, by omega, allB_tk hB⟩, fun f _ _ _ _ _ d _ h1 h2 => ⟨h1, ?_⟩⟩⟩, fun h5 => ⟨fun h => ⟨by omega, by omega, by omega, fun c _ hc => ⟨⟨hw, by omega, by omega, by omega, by omega, allB_tk hB⟩, fun f _ _ _ _ _ d _ h1 h2 => ⟨h1, ?_⟩⟩⟩, fun h6 => ⟨hw, ?_⟩⟩⟩⟩⟩⟩⟩
  · rw [h2, num 1 h (by omega) (by omega), wrap8, beL_w1]
  · rw [h2, num 2 h (by omega) (by omega), wrap16u, beL_w2]
  · rw [h2, num 3 h (by omega) (by omega), wrap32u, beL_w4]
  · rw [h2, num 4 h (by omega) (by omega)]
  · rw [h2, h, wrote_some opAdd_raw, opLong_no (by omega), Bool.or_false, segB_take hl]
  · rw [h2, h, wrote_some opAdd_text, segB_take hl, hbl, ← hl]
    refine congrArg (fun b => wThen (ρ 1).i ((ρ 2).b || b) (bI (ρ 6).d) (beL (ρ 11).i 2 ++ bI (ρ 13).d)) ?_
    rw [opLong, hbl]
    exact decide_eq_decide.2 ⟨fun h => ⟨rfl, by omega⟩, fun h => by have := h.2; omega⟩
  · rw [wrote_none (opAdd_other (by omega) h5 h6)]
theorem wrote_full {lim : Int} {f : Bool} {m b s : List Int} {k v : Int} (h : opAdd k v b = some s) (hf : f = true ∨ opLong k b = true ∨ lim - m.length < s.length) : (true, m) = wrote lim f m k v b := by
  rw [wrote_some h, wThen_full]
  rw [wFull_eq]
  rcases hf with h | h | h
  · exact .inl (by rw [h]; rfl)
  · exact .inl (by rw [h]; simp)
  · exact .inr h
theorem wrote_fits {lim : Int} {f : Bool} {m b s : List Int} {k v : Int} (h : opAdd k v b = some s) (hf : f = false) (hl : opLong k b = false) (hs : (m.length : Int) + s.length ≤ lim) : (f, m ++ s) = wrote lim f m k v b := by
  rw [wrote_some h, wThen_fits, hf]
  rw [wFull_eq, hf, hl]
  rintro (h | h)
  · cases h
  · omega
theorem heavy_ok : heavyC.ok Tryd.prog := heavy_of (by simp) fun ρ hg hp => by
  obtain ⟨hl, hl1, hop⟩ := hp
  simp only [Nat.zero_add] at hl hl1 hop
  simp [o_heavy, heavyC, heavyI, opsHp, opsS]
  refine ⟨by omega, fun h200 => ⟨⟨h200, by omega, by simp [opSum], fun j hj => absurd hj (by omega)⟩, fun s _ i _ _ i0 i1 hs hs1 hj => ⟨fun hlt => ?_, fun hge hs2 => ⟨h200, ?_, fun j hj2 => hj j (by omega)⟩⟩⟩⟩
  · obtain ⟨I, hI⟩ : ∃ I : Nat, i.i = I := ⟨i.i.toNat, by omega⟩
    obtain ⟨d, _, _, _, hr, hb, ho⟩ := op_at hop (j := I) (by omega)
    have hol : (opB (ρ 5).h (ρ 3).d I).length = d.length := by rw [ho, bI_len]
    rw [hI] at hs hj ⊢
    refine ⟨by omega, by omega, d, hr, fun h7 hs2 => ⟨d, hr, ?_⟩⟩
    rw [Go.Proofs.add64 (by omega) (by omega), Go.Proofs.add64 (by omega) (by omega), show ((I : Int) + 1).toNat = I + 1 by omega, opSum_succ, hol]
    rw [Int.toNat_natCast] at hs
    refine ⟨⟨h200, by omega, by omega, by omega, by omega, fun j hj2 => ?_⟩, by omega⟩
    by_cases e : j = I
    · rw [e, hol]; omega
    · exact hj j (by omega)
  · have : i.i.toNat = (ρ 3).d.length := by omega
    rw [this] at hs; omega
theorem bytesJ_ok : bytesJC.ok Tryd.prog := bytesJ_of (by simp [cloneB_ok]) fun ρ hg hp => by
  obtain ⟨⟨w0, w1, w2, w3, w5⟩, hq⟩ := hp
  simp [o_bytesJ, bytesJC, bytesC, cloneBC, wHeap, wCells]
  exact fun hf => ⟨⟨by omega, w2, hq⟩, fun d _ hd => ⟨hf, hd⟩⟩
theorem lenW_ok : lenWC.ok Tryd.prog := lenW_of (by simp) fun ρ hg hp => by
  have hp : 0 ≤ (ρ 4).i := hp
  simp [o_lenW, lenWC]
  exact hp
end Go.Proofs
