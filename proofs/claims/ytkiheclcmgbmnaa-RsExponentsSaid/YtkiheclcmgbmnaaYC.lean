/- Laws about the field: proofs. -/
import Derived.Test.YtkiheclcmgbmnaaYB
import Derived.Test.YtkiheclcmgbmnaaYF
import Derived.Test.YtkiheclcmgbmnaaZX
set_option linter.unusedSimpArgs false
set_option linter.unusedVariables false
namespace Go.Proofs
open Go Go.Eng

/-! ### Sizes -/
theorem ceil_eq {k n c : Int} (hk : 1 ≤ k) (h0 : 0 ≤ c) (h1 : n ≤ k * c) (h2 : c = 0 ∨ k * (c - 1) < n) (hn : 0 ≤ n) : c = (n + k - 1).tdiv k := by
  rw [Int.tdiv_eq_ediv_of_nonneg (by omega)]
  symm
  rw [Int.ediv_eq_iff_of_pos (by omega)]
  rw [Int.mul_sub, Int.mul_one] at h2
  rw [Int.mul_comm] at h1
  rcases h2 with rfl | h2
  · omega
  · rw [Int.mul_comm] at h2; omega
theorem len27_ok : len27C.ok Try.prog := len27_of (by simp) fun ρ hg hp => by
  simp [o_len27, len27C, len27I, piece26C]
  have hpb : pieceBad (ρ 0).i (ρ 1).i ↔ (ρ 0).i < 1 ∨ 255 < (ρ 0).i ∨ (ρ 1).i < 0 ∨ 8192 < (ρ 1).i := Iff.rfl
  refine ⟨fun h => hpb.2 (by omega), fun h1 => ⟨fun h => hpb.2 (by omega), fun h2 => ⟨fun h => hpb.2 (by omega), fun h3 => ⟨fun h => hpb.2 (by omega), fun h4 => ⟨⟨?_, h3⟩, fun u _ hnb u0 u1 u2 => ⟨fun h => ?_, fun h => ⟨fun hb => (hnb hb).elim, fun _ => ?_⟩⟩⟩⟩⟩⟩⟩
  · rw [hpb]; omega
  · have hb := mul_bound (x := (ρ 0).i) (y := u.i) (by omega) h2 u0 (show u.i ≤ 8192 by omega)
    rw [mul64 (by omega) (by omega)] at h
    have hlt : u.i < (ρ 1).i := by
      have := Int.mul_le_mul_of_nonneg_right h1 u0
      omega
    rw [add64 (by omega) (by omega)]
    refine ⟨⟨hnb, by omega, by omega, .inr ?_⟩, by omega⟩
    rw [show u.i + 1 - 1 = u.i by omega]; exact h
  · have hb := mul_bound (x := (ρ 0).i) (y := u.i) (by omega) h2 u0 (show u.i ≤ 8192 by omega)
    rw [mul64 (by omega) (by omega)] at h
    exact ceil_eq h1 u0 h u2 h3
theorem lawSizes_ok : lawSizesC.ok Try.prog := lawSizes_of (by simp [piece26_ok, len27_ok, known_ok]) fun ρ hg hp => by
  simp [o_lawSizes, lawSizesC, lawIs, lawRet, len27C, piece26C, knownC]
  intro u _ v _ h1 h2 u' _ v' _ h3 h4
  by_cases hb : pieceBad (ρ 0).i (ρ 1).i
  · rw [(h1 hb).1, (h1 hb).2, (h3 hb).1, (h3 hb).2]; simp
  · rw [(h2 hb).1, (h2 hb).2, (h4 hb).1, (h4 hb).2]; simp

/-! ### Products bit by bit -/
theorem twice_eq' : ∀ i : Fin 256, (if arithOf .and .u8 (i.val : Int) 128 = 0 then arithOf .shl .u8 (i.val : Int) 1 else arithOf .xor .u8 (arithOf .shl .u8 (i.val : Int) 1) 29) = ofF (xt (toF (i.val : Int))) := by decide +kernel
theorem bit_eq' : ∀ b : Fin 256, ∀ i : Fin 8, toF ((b.val % 2 ^ (i.val + 1) : Nat) : Int) = if arithOf .and .u8 (b.val : Int) (arithOf .shl .u8 1 (i.val : Int)) = 0 then toF ((b.val % 2 ^ i.val : Nat) : Int) else toF ((b.val % 2 ^ i.val : Nat) : Int) ^^^ expF i.val := by decide +kernel
theorem twice_eq {x : Int} (h : isB x) : (if arithOf .and .u8 x 128 = 0 then arithOf .shl .u8 x 1 else arithOf .xor .u8 (arithOf .shl .u8 x 1) 29) = ofF (xt (toF x)) := by
  have := twice_eq' ⟨x.toNat, by have := h.2; have := h.1; omega⟩
  simp only [Int.toNat_of_nonneg h.1] at this
  exact this
theorem expF_succ {n : Nat} : expF (n + 1) = fmul (expF n) 2 := by
  have : (2 : F) = expF 1 := by decide
  rw [this, fmul_exp]
theorem timesN_eq {a b : Int} (ha : isB a) (hb : isB b) : ∀ i : Nat, i ≤ 8 → timesN a b i = (ofF (fmul (toF a) (expF i)), ofF (fmul (toF a) (toF ((b.toNat % 2 ^ i : Nat) : Int))))
  | 0, _ => by
    rw [timesN, expF_zero, fmul_one, ofF_toF ha, Nat.pow_zero, Nat.mod_one]
    rw [show toF ((0 : Nat) : Int) = 0 by rfl, fmul_zero]; rfl
  | i + 1, hi => by
    rw [timesN, timesN_eq ha hb i (by omega), timesStep]
    simp only
    rw [twice_eq ofF_isB, toF_ofF, ← fmul_two, fmul_assoc, ← expF_succ]
    have h := bit_eq' ⟨b.toNat, by have := hb.2; have := hb.1; omega⟩ ⟨i, by omega⟩
    simp only [Int.toNat_of_nonneg hb.1] at h
    rw [h]
    split
    · rfl
    · rw [xor_fmul]
      congr 1
      have := xorB_F (x := ofF (fmul (toF a) (toF ((b.toNat % 2 ^ i : Nat) : Int)))) (y := ofF (fmul (toF a) (expF i)))
      rw [toF_ofF, toF_ofF] at this
      exact this
theorem timesN_mulF {a b : Int} (ha : isB a) (hb : isB b) : (timesN a b 8).2 = mulF a b := by
  rw [timesN_eq ha hb 8 (Nat.le_refl _), mulF_F ha hb]
  simp only
  congr 2
  obtain ⟨h0, h1⟩ := hb
  congr 1
  omega
theorem times53_ok : times53C.ok Try.prog := times53_of (by simp) fun ρ hg hp => by
  obtain ⟨ha, hb⟩ := hp
  simp [o_times53, times53C, times53I]
  refine ⟨rfl, fun x _ y _ i _ i0 i1 he => ⟨fun hi => ?_, fun hi => ?_⟩⟩
  · have hw : IntKind.u64.wrap i.i = i.i := by simp [IntKind.wrap, IntKind.bits, IntKind.signed]; omega
    rw [hw, add64 (by omega) (by omega), show (i.i + 1).toNat = i.i.toNat + 1 by omega, timesN, ← he, timesStep]
    simp only [Int.toNat_of_nonneg i0]
    refine ⟨i0, fun h1 => ⟨fun h2 => ⟨⟨by omega, by omega, ?_⟩, by omega⟩, fun h2 => ⟨⟨by omega, by omega, ?_⟩, by omega⟩⟩, fun h1 => ⟨fun h2 => ⟨⟨by omega, by omega, ?_⟩, by omega⟩, fun h2 => ⟨⟨by omega, by omega, ?_⟩, by omega⟩⟩⟩ <;> simp [h1, h2]
  · rw [← timesN_mulF ha hb, show (8 : Nat) = i.i.toNat by omega, ← he]
theorem fmul_eq_one {x y : F} (h : fmul x y = 1) : y = finv x := by
  by_cases hx : x = 0
  · rw [hx, zero_fmul] at h; exact absurd h (by decide)
  · have h1 : fmul (finv x) (fmul x y) = finv x := by rw [h, fmul_one]
    rw [← fmul_assoc, fmul_comm (x := finv x), fmul_finv hx, one_fmul] at h1
    exact h1
theorem over54_ok : over54C.ok Try.prog := over54_of (by simp [times53_ok]) fun ρ hg hp => by
  have ha : isB (ρ 0).i := hp
  simp [o_over54, over54C, over54I, times53C]
  have hw : ∀ x : Int, 0 ≤ x → x < 256 → IntKind.u8.wrap x = x := fun x h0 h1 => by simp [IntKind.wrap, IntKind.bits, IntKind.signed]; omega
  refine ⟨fun j h0 h1 => by omega, fun i _ i0 i1 hn => ⟨fun hi => ?_, fun hi => ?_⟩⟩
  · rw [hw _ (by omega) hi, add64 (by omega) (by omega)]
    have hb : isB i.i := ⟨by omega, hi⟩
    refine ⟨⟨ha, hb⟩, fun m _ hm => ⟨fun h1 => ?_, fun h1 => ⟨⟨by omega, by omega, fun j j0 j1 => ?_⟩, by omega⟩⟩⟩
    · refine toF_inj hb (invF_isB ha) ?_
      rw [toF_invF ha]
      refine fmul_eq_one ?_
      rw [← toF_mulF ha hb, ← hm, h1]; rfl
    · by_cases hj : j = i.i
      · rw [hj, ← hm]; exact h1
      · exact hn j j0 (by omega)
  · by_cases h0 : (ρ 0).i = 0
    · rw [h0]; rfl
    · have hx : toF (ρ 0).i ≠ 0 := fun h => h0 ((toF_eq_zero ha).1 h)
      have hi1 : 1 ≤ invF (ρ 0).i := by
        have hz := invF_isB ha
        have : invF (ρ 0).i ≠ 0 := fun h => finv_ne hx (by rw [← toF_invF ha, h]; rfl)
        have := hz.1
        omega
      refine (hn (invF (ρ 0).i) hi1 (by have := (invF_isB ha).2; omega) ?_).elim
      rw [mulF_F ha (invF_isB ha), toF_invF ha, fmul_finv hx]; rfl
theorem fpow_mod {x : F} (hx : x ≠ 0) {n : Nat} : fpow x (n % 255) = fpow x n := by
  obtain ⟨a, _, rfl⟩ := exists_exp hx
  rw [fpow_exp, fpow_exp]
  refine expF_congr ?_
  rw [Nat.mul_mod, Nat.mod_mod, ← Nat.mul_mod]
theorem powF_isB {a e : Int} (ha : isB a) (he : e < 9223372036854775808) : isB (powF a e) := by rw [powF_F ha he]; exact ofF_isB
theorem power38_ok : power38C.ok Try.prog := power38_of (by simp [times53_ok]) fun ρ hg hp => by
  obtain ⟨ha, he⟩ := hp
  simp [o_power38, power38C, power38I, times53C]
  refine ⟨fun h => by rw [powF, if_pos h], fun h0 => ⟨fun h => by rw [powF, if_neg (by omega), if_pos h], fun hz => ?_⟩⟩
  have hx : toF (ρ 0).i ≠ 0 := fun h => hz ((toF_eq_zero ha).1 h)
  have hr : (ρ 1).i.tmod 255 = (ρ 1).i % 255 := Int.tmod_eq_emod_of_nonneg (by omega)
  have hrem : arithOf .rem .i64 (ρ 1).i 255 = (ρ 1).i.tmod 255 := rfl
  rw [hrem, hr]
  refine ⟨⟨h0, hz, by omega, by rw [powF, if_pos (by omega)]⟩, fun p _ i _ _ _ i0 i1 hp => ⟨fun hi => ?_, fun hi => ?_⟩⟩
  · have hpB : isB p.i := by rw [hp]; exact powF_isB ha (by omega)
    rw [add64 (by omega) (by omega)]
    refine ⟨⟨hpB, ha⟩, fun q _ hq => ⟨⟨h0, hz, by omega, by omega, ?_⟩, by omega⟩⟩
    rw [hq, mulF_F hpB ha, hp, powF_F ha (by omega), powF_F ha (by omega), toF_ofF, show (i.i + 1).toNat = i.i.toNat + 1 by omega, fpow]
  · have : i.i = (ρ 1).i % 255 := by omega
    rw [hp, powF_F ha (by omega), powF_F ha he, this, ← fpow_mod hx (n := (ρ 1).i.toNat)]
    congr 2
    omega
theorem lawMultiplies_ok : lawMultipliesC.ok Try.prog := lawMultiplies_of (by simp [newField_ok, inv51_ok, div52_ok, add34_ok, mul_ok, times53_ok, over54_ok, known_ok]) fun ρ hg hp => by
  obtain ⟨ha, hb⟩ := hp
  simp [o_lawMultiplies, lawMultipliesC, lawIs, lawRet, newFieldC, inv51C, div52C, add34C, mulC, times53C, over54C, knownC]
  have hq : ∀ {u : U} {v : U}, u.i = mulF (ρ 0).i (invF (ρ 1).i) → byteP (ρ 1).i ∧ ∀ (w : U), w.good → w.i = invF (ρ 1).i → (byteP (ρ 0).i ∧ byteP w.i) ∧ ∀ (z : U), z.good → z.i = mulF (ρ 0).i w.i → u.i = z.i :=
    fun hu => ⟨hb, fun w _ hw => ⟨⟨ha, by rw [hw]; exact invF_isB hb⟩, fun z _ hz => by rw [hu, hz, hw]⟩⟩
  refine fun f _ hf => ⟨⟨.inl hf, ha⟩, fun u _ u1 _ f2 _ hf2 hu hu1 => ⟨⟨hf2, ha.1, ha.2, hb⟩, fun u3 _ u4 _ f5 _ hf5 hu3 hu4 => ⟨⟨hf5, ha.1, ha.2, hb⟩, fun u6 _ f7 _ hf7 hu6 => ⟨⟨ha, hb⟩, fun u8 _ hu8 => ⟨by rw [hu6, hu8], fun _ => ⟨ha, fun u9 _ hu9 => ⟨by rw [hu, hu9], fun _ => ⟨?_, fun _ => ⟨?_, fun _ => ⟨fun h0 => ⟨fun h1 => hq (v := u) hu3, fun h1 => ⟨fun _ => hq (v := u) hu3, ?_⟩⟩, fun h0 => ⟨fun _ => ⟨fun h1 => hq (v := u) hu3, fun h1 => ⟨fun _ => hq (v := u) hu3, ?_⟩⟩, ?_⟩⟩⟩⟩⟩⟩⟩⟩⟩⟩⟩
  · rw [hu1]; by_cases h : (ρ 0).i = 0 <;> simp [cmpOf, h]
  · rw [hu4]; by_cases h : (ρ 1).i = 0 <;> simp [cmpOf, h]
  · rw [hu4, if_pos h1]
  · rw [hu4, if_pos h1]
  · rw [hu1, if_pos h0]
theorem lawField_ok : lawFieldC.ok Try.prog := lawField_of (by simp [newField_ok, div52_ok, add34_ok, mul_ok, known_ok]) fun ρ hg hp => by
  obtain ⟨ha, hb, hc⟩ := hp
  simp [o_lawField, lawFieldC, lawIs, lawRet, newFieldC, div52C, add34C, mulC, knownC]
  have hx1 : mulF (ρ 0).i 1 = (ρ 0).i := by
    refine toF_inj (mulF_isB ha ⟨by omega, by omega⟩) ha ?_
    rw [toF_mulF ha ⟨by omega, by omega⟩, show toF 1 = 1 by rfl, fmul_one]
  refine fun f _ hf => ⟨⟨.inl hf, ha.1, ha.2, hb⟩, fun u _ f1 _ hf1 hu => ⟨⟨hf1, hb.1, hb.2, ha⟩, fun u2 _ f3 _ hf3 hu2 => ⟨?_, fun _ => ⟨⟨hf3, ha.1, ha.2, hb⟩, fun v _ f4 _ hf4 hv => ⟨⟨hf4, ?_, ?_, hc⟩, fun u5 _ f6 _ hf6 hu5 => ⟨⟨hf6, hb.1, hb.2, hc⟩, fun w _ f7 _ hf7 hw => ⟨⟨hf7, ha.1, ha.2, ?_, ?_⟩, fun u8 _ f9 _ hf9 hu8 => ⟨?_, fun _ => ⟨⟨hf9, ha⟩, fun u10 _ f10 _ hf10 hu10 => ⟨by rw [hu10, hx1], fun _ => ⟨⟨hf10, ha⟩, fun u11 _ f11 _ hf11 hu11 => ⟨by rw [hu11, mulF_zero'], fun _ => ⟨⟨hf11, ha.1, ha.2, xorB_isB⟩, fun u12 _ f12 _ hf12 hu12 => ⟨⟨hf12, ha.1, ha.2, hb⟩, fun u13 _ f14 _ hf14 hu13 => ⟨⟨hf14, ha.1, ha.2, hc⟩, fun u15 _ f16 _ hf16 hu15 => ⟨?_, fun _ h1 => ⟨⟨hf16, ha.1, ha.2, hb⟩, fun q _ f17 _ hf17 hq => ⟨⟨hf17, ?_, ?_, hb⟩, fun u18 _ u19 _ f20 _ hf20 hu18 hu19 => ⟨fun _ => ⟨fun _ h0 => ⟨⟨hf20, ha.1, ha.2, hb⟩, fun z _ f21 _ hf21 hz => ?_⟩, ?_⟩, ?_⟩⟩⟩⟩⟩⟩⟩⟩⟩⟩⟩⟩⟩⟩⟩⟩⟩⟩⟩
  · rw [hu, hu2, mulF_F ha hb, mulF_F hb ha, fmul_comm]
  · rw [hv]; exact (mulF_isB ha hb).1
  · rw [hv]; exact (mulF_isB ha hb).2
  · rw [hw]; exact (mulF_isB hb hc).1
  · rw [hw]; exact (mulF_isB hb hc).2
  · rw [hu5, hu8, hv, hw, mulF_F (mulF_isB ha hb) hc, mulF_F ha (mulF_isB hb hc), toF_mulF ha hb, toF_mulF hb hc, fmul_assoc]
  · rw [hu12, hu13, hu15]
    show mulF _ (xorB _ _) = xorB _ _
    rw [mulF_F ha xorB_isB, toF_xorB, xor_fmul, xorB_F, toF_mulF ha hb, toF_mulF ha hc]
  · rw [hq]; exact (mulF_isB ha hb).1
  · rw [hq]; exact (mulF_isB ha hb).2
  · have hx : toF (ρ 0).i ≠ 0 := fun h => h0 ((toF_eq_zero ha).1 h)
    have hy : toF (ρ 1).i ≠ 0 := fun h => h1 ((toF_eq_zero hb).1 h)
    rw [hz]
    intro h
    refine fmul_ne_zero hx hy ?_
    rw [← toF_mulF ha hb, h]; rfl
  · have hy : toF (ρ 1).i ≠ 0 := fun h => h1 ((toF_eq_zero hb).1 h)
    rw [hu18, hq]
    refine toF_inj (mulF_isB (mulF_isB ha hb) (invF_isB hb)) ha ?_
    rw [toF_mulF (mulF_isB ha hb) (invF_isB hb), toF_mulF ha hb, toF_invF hb, fmul_assoc, fmul_finv hy, fmul_one]
  · rw [hu19, if_neg h1]
theorem lawPowers_ok : lawPowersC.ok Try.prog := lawPowers_of (by simp [newField_ok, pow37_ok, power38_ok, known_ok]) fun ρ hg hp => by
  obtain ⟨ha, he⟩ := hp
  simp [o_lawPowers, lawPowersC, lawIs, lawRet, newFieldC, pow37C, power38C, knownC]
  refine fun f _ hf => ⟨⟨.inl hf, ha.1, ha.2, he⟩, fun u _ f2 _ _ hu => ⟨⟨ha, he⟩, fun v _ hv => by rw [hu, hv]⟩⟩
theorem pow2 {j : Int} (h : 0 ≤ j) (h2 : j < 9223372036854775808 := by omega) : powF 2 j = ofF (expF j.toNat) := by
  rw [powF_F ⟨by omega, by omega⟩ h2, show toF 2 = expF 1 by decide, fpow_exp, Nat.one_mul]
theorem lawExponents_ok : lawExponentsC.ok Try.prog := lawExponents_of (by simp [newField_ok, pow37_ok, mul_ok, known_ok]) fun ρ hg hp => by
  obtain ⟨ha, m0, m1, n0, n1⟩ := hp
  simp [o_lawExponents, lawExponentsC, lawExponentsI, lawIs, lawRet, newFieldC, pow37C, mulC, knownC]
  have hw : ∀ x : Int, 0 ≤ x → x < 65536 → IntKind.i64.wrap x = x := fun x h0 h1 => wrap64 (by omega) (by omega)
  rw [hw _ m0 m1, hw _ n0 n1, add64 (by omega) (by omega)]
  refine fun f _ hf => ⟨⟨.inl hf, ha.1, ha.2, by omega⟩, fun u _ f1 _ hf1 hu => ⟨⟨hf1, ha.1, ha.2, by omega⟩, fun u2 _ f3 _ hf3 hu2 => ⟨⟨hf3, ha.1, ha.2, by omega⟩, fun u4 _ f5 _ hf5 hu4 => ⟨⟨hf5, ?_⟩, fun u6 _ f7 _ hf7 hu6 => ⟨?_, fun _ => ⟨⟨hf7, fun j h0 h1 => by omega⟩, fun f8 _ i _ hfd i0 i1 hn => ⟨fun hi => ⟨⟨hfd, by omega⟩, fun v _ f9 _ hf9 hv => ⟨fun h => ?_, fun h => ?_⟩⟩, fun hi => ?_⟩⟩⟩⟩⟩⟩⟩
  · rw [hu2, hu4]
    have h1 := powF_isB (e := (ρ 1).i) ha (by omega)
    have h2 := powF_isB (e := (ρ 2).i) ha (by omega)
    exact ⟨h1.1, h1.2, h2⟩
  · rw [hu, hu6, hu2, hu4, mulF_F (powF_isB ha (by omega)) (powF_isB ha (by omega)), powF_F ha (by omega), powF_F ha (by omega), powF_F ha (by omega), toF_ofF, toF_ofF, ← fpow_add, Int.toNat_add m0 n0]
  · rw [← h, hv, pow2 i0]
    intro h0
    exact expF_ne (ofF_inj (h0.trans ofF_zero.symm))
  · rw [add64 (by omega) (by omega)]
    refine ⟨⟨hf9, by omega, by omega, fun j j0 j1 => ?_⟩, by omega⟩
    by_cases hj : j = i.i
    · rw [hj, ← hv]; exact h
    · exact hn j j0 (by omega)
  · by_cases h0 : (ρ 0).i = 0
    · exact h0
    · have hx : toF (ρ 0).i ≠ 0 := fun h => h0 ((toF_eq_zero ha).1 h)
      have hl := logF_lt (x := toF (ρ 0).i)
      refine (hn (logF (toF (ρ 0).i) : Nat) (by omega) (by omega) ?_).elim
      rw [pow2 (by omega), Int.toNat_natCast, exp_logF hx, ofF_toF ha]
theorem horner_isB {x : Int} (hx : isB x) : ∀ {l : List Int}, (∀ y ∈ l, isB y) → isB (hornerL x l)
  | [], _ => ⟨by simp [hornerL], by simp [hornerL]⟩
  | _ :: _, _ => xorB_isB
theorem eval60_ok : eval60C.ok Try.prog := eval60_of (by simp [mul_ok]) fun ρ hg hp => by
  obtain ⟨hf, l0, l1, l2, hB, hx⟩ := hp
  simp [o_eval60, eval60C, eval60I, mulC]
  have hne := (fieldD_ne hf).1
  have hlb : (bI (ρ 5).d).length = (ρ 3).i.toNat := by rw [bI_len]; omega
  unfold Go.Eng.big at l1
  refine ⟨fun h => (hne h).elim, fun _ => ⟨l0, ?_⟩⟩
  rw [sub64 (by omega) (by omega)]
  refine ⟨⟨hf, by omega, by omega, ?_⟩, fun v _ i _ f _ hfd i0 i1 hv => ⟨fun hi => ?_, fun hi => ?_⟩⟩
  · rw [List.drop_eq_nil_of_le (by rw [hlb]; omega)]; rfl
  · have hB' := allB_list hB
    have hvB : isB v.i := by rw [hv]; exact horner_isB hx (fun x h => hB' x (List.mem_of_mem_drop h))
    rw [sub64 (by omega) (by omega)]
    refine ⟨hi, i1, by omega, ⟨hfd, hvB.1, hvB.2, hx⟩, fun m _ f2 _ hf2 hm => ⟨⟨hf2, by omega, by omega, ?_⟩, by omega⟩⟩
    have hget := bI_get (d := (ρ 5).d) (i := i.i) hi (by omega)
    obtain ⟨hlt, hge⟩ := List.getElem?_eq_some_iff.1 hget
    rw [show (i.i - 1 + 1).toNat = i.i.toNat by omega, List.drop_eq_getElem_cons hlt, hge, hornerL, hm, hv, show (i.i + 1).toNat = i.i.toNat + 1 by omega]
    rfl
  · refine ⟨hfd, ?_⟩
    rw [hv, show (i.i + 1).toNat = 0 by omega, List.drop_zero]
theorem at61_ok : at61C.ok Try.prog := at61_of (by simp [times53_ok]) fun ρ hg hp => by
  obtain ⟨l0, l1, l2, hB, hx⟩ := hp
  simp [o_at61, at61C, at61I, times53C]
  have hlb : (bI (ρ 3).d).length = (ρ 1).i.toNat := by rw [bI_len]; omega
  have hB' := allB_list hB
  have hH : ∀ n, isB (hornerL (ρ 5).i ((bI (ρ 3).d).drop n)) := fun n => horner_isB hx fun x h => hB' x (List.mem_of_mem_drop h)
  unfold Go.Eng.big at l1
  refine ⟨⟨by unfold byteP; omega, by unfold byteP; omega, l0, ?_⟩, fun a _ p _ i _ ha hp i0 i1 he => ⟨l0, fun hi => ?_, fun hi => ?_⟩⟩
  · have h0 := hH 0
    rw [List.drop_zero] at h0
    refine toF_inj h0 xorB_isB ?_
    rw [toF_xorB, toF_mulF ⟨by omega, by omega⟩ h0, toF_zero, show toF 1 = 1 by rfl, one_fmul]; simp
  · have hcell := allB_get hB (i := i.i) i0 (by omega)
    rw [add64 (by omega) (by omega)]
    refine ⟨i0, by omega, ⟨hcell, hp⟩, fun m _ hm => ⟨⟨hp, hx⟩, fun q _ hq => ⟨⟨xorB_isB, by rw [hq]; exact mulF_isB hp hx, by omega, by omega, ?_⟩, by omega⟩⟩⟩
    rw [he]
    have hget := bI_get (d := (ρ 3).d) (i := i.i) i0 (by omega)
    obtain ⟨hlt, hge⟩ := List.getElem?_eq_some_iff.1 hget
    rw [List.drop_eq_getElem_cons hlt, hge, hornerL, show (i.i + 1).toNat = i.i.toNat + 1 by omega, hm, hq]
    have h1 := hH (i.i.toNat + 1)
    refine toF_inj xorB_isB xorB_isB ?_
    show toF (xorB a.i _) = toF (xorB (xorB a.i _) _)
    rw [toF_xorB, toF_xorB, toF_xorB, toF_mulF hp xorB_isB, toF_xorB, toF_mulF h1 hx, toF_mulF hcell hp, toF_mulF (mulF_isB hp hx) h1, toF_mulF hp hx, xor_fmul, BitVec.xor_assoc]
    congr 1
    rw [BitVec.xor_comm, fmul_comm (x := toF (cellI _ _ _))]
    congr 1
    rw [fmul_comm (x := toF (hornerL _ _)), ← fmul_assoc]
  · rw [he, show i.i.toNat = (bI (ρ 3).d).length by omega, List.drop_length, hornerL, mulF_zero']
    exact (xorB_zero ha.1 ha.2).symm
theorem lawEvaluates_ok : lawEvaluatesC.ok Try.prog := lawEvaluates_of (by simp [newField_ok, eval60_ok, at61_ok, known_ok]) fun ρ hg hp => by
  obtain ⟨l0, l1, l2, hB, hx⟩ := hp
  simp [o_lawEvaluates, lawEvaluatesC, lawIs, lawRet, newFieldC, eval60C, at61C, knownC]
  refine ⟨l0, fun hle f _ hf => ⟨by omega, by omega, ⟨.inl hf, l0, by unfold Go.Eng.big; omega, by omega, allB_take hB, hx⟩, fun u _ f2 _ _ hu => ⟨⟨l0, by unfold Go.Eng.big; omega, l2, hB, hx⟩, fun v _ hv => ?_⟩⟩⟩
  rw [hu, hv, List.take_of_length_le (by omega)]
end Go.Proofs
