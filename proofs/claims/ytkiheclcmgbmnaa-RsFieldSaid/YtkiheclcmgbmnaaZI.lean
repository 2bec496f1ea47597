/- Identities, powers of the row numbers, products: proofs. -/
import Derived.Test.YtkiheclcmgbmnaaZH
import Derived.Test.YtkiheclcmgbmnaaZD
set_option linter.unusedSimpArgs false
set_option linter.unusedVariables false
namespace Go.Proofs
open Go Go.Eng

/-! ### Plainly -/
theorem fillTo_len {f : Nat → Int} {len n : Nat} : (fillTo f len n).length = len := by simp [fillTo]
theorem fillTo_zero {f : Nat → Int} {len : Nat} : fillTo f len 0 = List.replicate len 0 := by
  apply List.ext_getElem?
  intro j
  by_cases hj : j < len
  · simp [fillTo, List.getElem?_replicate, hj]
  · simp [fillTo, List.getElem?_replicate, hj]
theorem fillTo_step {f : Nat → Int} {len n : Nat} (h : n < len) : fillTo f len (n + 1) = (fillTo f len n).set n (f n) := by
  apply List.ext_getElem?
  intro j
  rw [List.getElem?_set]
  by_cases hj : j < len
  · by_cases hn : n = j
    · subst hn; rw [if_pos rfl, if_pos (by rw [fillTo_len]; exact h)]; simp [fillTo, h]
    · rw [if_neg hn]
      simp only [fillTo, List.getElem?_map, List.getElem?_range hj, Option.map_some, Option.some.injEq]
      by_cases h1 : j < n
      · rw [if_pos (by omega), if_pos h1]
      · rw [if_neg (by omega), if_neg h1]
  · by_cases hn : n = j
    · omega
    · rw [if_neg hn]; simp [fillTo, hj]
theorem identTo_len {n m : Nat} : (identTo n m).length = n * n := by simp [identTo]
theorem identTo_zero {n : Nat} : identTo n 0 = List.replicate (n * n) 0 := by
  apply List.ext_getElem?
  intro j
  by_cases hj : j < n * n
  · simp [identTo, List.getElem?_replicate, hj]
  · simp [identTo, List.getElem?_replicate, hj]
theorem div_row {i n l : Nat} (h : l < n) : (i * n + l) / n = i ∧ (i * n + l) % n = l := by
  have hn : 0 < n := by omega
  refine ⟨?_, ?_⟩
  · rw [Nat.mul_comm, Nat.mul_add_div hn, Nat.div_eq_of_lt h, Nat.add_zero]
  · rw [Nat.mul_comm, Nat.mul_add_mod, Nat.mod_eq_of_lt h]
theorem row_lt {i r n l : Nat} (hi : i < r) (hl : l < n) : i * n + l < r * n := by
  have := Nat.mul_le_mul_right n (show i + 1 ≤ r by omega)
  rw [Nat.add_mul] at this; omega
theorem identTo_step {n m : Nat} (h : m < n) : identTo n (m + 1) = (identTo n m).set (m * n + m) 1 := by
  have hlt := row_lt h h
  obtain ⟨hd, hm⟩ := div_row (i := m) h
  apply List.ext_getElem?
  intro j
  rw [List.getElem?_set]
  by_cases hj : j < n * n
  · simp only [identTo, List.getElem?_map, List.getElem?_range hj, Option.map_some, List.length_map, List.length_range]
    by_cases hn : m * n + m = j
    · subst hn
      rw [if_pos rfl, if_pos hlt, hd, hm, if_pos ⟨rfl, by omega⟩]
    · rw [if_neg hn]
      congr 1
      by_cases h1 : j / n = j % n ∧ j / n < m
      · rw [if_pos h1, if_pos ⟨h1.1, by omega⟩]
      · rw [if_neg h1, if_neg]
        rintro ⟨e1, e2⟩
        have : j / n = m := by
          rcases Nat.lt_or_ge (j / n) m with h | h
          · exact (h1 ⟨e1, h⟩).elim
          · omega
        have hdm := Nat.div_add_mod j n
        rw [← e1, this, Nat.mul_comm] at hdm
        exact hn hdm
  · rw [if_neg (by omega)]; simp [identTo, hj]
theorem seg_take {l : List Int} {L o n : Nat} (h : o + n ≤ L) : seg (l.take L) o n = seg l o n := by
  apply List.ext_getElem?
  intro j
  rw [seg_get, seg_get]
  by_cases hj : j < n
  · rw [if_pos hj, if_pos hj, List.getElem?_take, if_pos (by omega)]
  · rw [if_neg hj, if_neg hj]
theorem prodN_step {a b : List Int} {ra ca cb i l : Nat} (h : l < ca) : prodN a b ra ca cb (i * ca + l + 1) = addToL (prodN a b ra ca cb (i * ca + l)) (i * cb) (seg b (l * cb) cb) (a.getD (i * ca + l) 0) := by
  obtain ⟨hd, hm⟩ := div_row (i := i) h
  rw [prodN, hd, hm]
theorem matOk_put {r c l cap : Int} {d : Rows'} {e : Int} {k : IntKind} {z : Int} (h : matOk r c l cap d) (h0 : 0 ≤ z) (h1 : z < 256) : matOk r c l cap (putD d e 0 [.int k z]) := by
  obtain ⟨a1, a2, a3, a4, a5, a6, a7, a8⟩ := h
  exact ⟨a1, a2, a3, a4, a5, a6, by rw [putD_len]; exact a7, allB_put a8 h0 h1⟩
theorem powF_range {a e : Int} (a0 : 0 ≤ a) (a1 : a < 256) : 0 ≤ powF a e ∧ powF a e < 256 := by
  unfold powF
  split
  · omega
  · split
    · omega
    · obtain ⟨l0, l1⟩ := logT_range a0 a1
      have hr0 : 0 ≤ e.tmod 255 := Int.tmod_nonneg _ (by omega)
      have hb : 0 ≤ logT a.toNat * e.tmod 255 := Int.mul_nonneg l0 hr0
      have h3 : 0 ≤ (logT a.toNat * e.tmod 255).tmod 255 := Int.tmod_nonneg _ hb
      have h4 : (logT a.toNat * e.tmod 255).tmod 255 < 255 := Int.tmod_lt_of_pos _ (by omega)
      have := expT_range (i := ((logT a.toNat * e.tmod 255).tmod 255).toNat) (by omega)
      omega
/-! ### The walks -/
theorem ident40_ok : ident40C.ok Try.prog := ident40_of (by simp [zero82_ok]) fun ρ hg hp => by
  simp [o_ident40, ident40C, ident40I, zero82C]
  refine ⟨fun h => .inl h, fun h1 => ⟨fun h => .inr h, fun h2 => ⟨⟨by omega, h2, by omega, h2⟩, fun l _ cp _ d _ hl hc hd => ⟨⟨h1, h2, by omega, ?_⟩, fun i _ l' _ c' _ d' _ _ _ i0 i1 hM hL hB => ⟨fun hi => ?_, fun hi => ?_⟩⟩⟩⟩⟩
  · have hb := mul_bound (x := (ρ 0).i) (y := (ρ 0).i) (by omega) h2 (by omega) h2
    refine ⟨⟨by omega, h2, by omega, h2, hl, by omega, by rw [hd, List.length_replicate]; omega, by rw [hd]; exact allB_rep⟩, by rw [hd, List.length_replicate]; omega, ?_⟩
    rw [hd, bI_rep, identTo_zero, hl, Int.toNat_mul (by omega) (by omega)]
  · have hM' := hM
    obtain ⟨a1, a2, a3, a4, a5, a6, a7, a8⟩ := hM
    have hb := mul_bound (x := i.i) (y := (ρ 0).i) i0 (show i.i ≤ 255 by omega) (by omega) h2
    have hlt : i.i * (ρ 0).i + i.i < (ρ 0).i * (ρ 0).i := by
      have := Int.mul_le_mul_of_nonneg_right (show i.i + 1 ≤ (ρ 0).i by omega) (show 0 ≤ (ρ 0).i by omega)
      rw [Int.add_mul, Int.one_mul] at this; omega
    rw [mul64 (by omega) (by omega), add64 (by omega) (by omega), add64 (by omega) (by omega)]
    refine ⟨by omega, by omega, by omega, ⟨h1, h2, by omega, by omega, matOk_put hM' (by decide) (by decide), by rw [putD_len]; exact hL, ?_⟩, by omega⟩
    rw [bI_put, hB, show (i.i + 1).toNat = i.i.toNat + 1 by omega, identTo_step (by omega)]
    congr 1
    rw [Int.toNat_add hb.1 i0, Int.toNat_mul i0 (by omega)]
  · have : i.i = (ρ 0).i := by omega
    rw [this] at hB
    exact ⟨h1, h2, hM, hL, hB⟩
theorem vander45_ok : vander45C.ok Try.prog := vander45_of (by simp [zero82_ok, pow37_ok]) fun ρ hg hp => by
  have hf : fieldD (ρ 1).d := hp
  simp [o_vander45, vander45C, vander45I, vander45J, vandInv, zero82C, pow37C]
  have hne := (fieldD_ne hf).1
  refine ⟨fun h => (hne h).elim, fun _ => ⟨fun h => ⟨hf, .inl h⟩, fun r1 => ⟨fun h => ⟨hf, .inr (.inl h)⟩, fun r2 => ⟨fun h => ⟨hf, .inr (.inr (.inl h))⟩, fun c1 => ⟨fun h => ⟨hf, .inr (.inr (.inr h))⟩, fun c2 => ?_⟩⟩⟩⟩⟩
  have hnb : ¬ vanderBad (ρ 2).i (ρ 3).i := by unfold vanderBad; omega
  have hb := mul_bound (x := (ρ 2).i) (y := (ρ 3).i) (by omega) r2 (by omega) c2
  refine ⟨⟨by omega, r2, by omega, c2⟩, fun l _ cp _ d _ hl hc hd => ⟨⟨by omega, hnb, hf, ?_⟩, fun i _ l' _ c' _ d' _ fd _ i0 i1 _ hfd hM hL hB => ⟨fun hi => ⟨⟨i0, hi, by omega, hnb, hfd, hM, hL, hB⟩, fun i' _ l2 _ cp2 _ d2 _ fd2 _ j _ i0' i1' j0 j1 _ hfd2 hM2 hL2 hB2 hii => ⟨fun hj => ?_, fun hj => ?_⟩⟩, fun hi => ?_⟩⟩⟩
  · refine ⟨⟨by omega, r2, by omega, c2, hl, by omega, by rw [hd, List.length_replicate]; omega, by rw [hd]; exact allB_rep⟩, by rw [hd, List.length_replicate]; omega, ?_⟩
    rw [hd, bI_rep, fillTo_zero, hl, Int.toNat_mul (by omega) (by omega)]
  · have hw : IntKind.u8.wrap i'.i = i'.i := by simp [IntKind.wrap, IntKind.bits, IntKind.signed]; omega
    rw [hw]
    have hM2' := hM2
    obtain ⟨a1, a2, a3, a4, a5, a6, a7, a8⟩ := hM2
    have hb2 := mul_bound (x := i'.i) (y := (ρ 3).i) i0' (show i'.i ≤ 255 by omega) (by omega) c2
    have hlt : i'.i * (ρ 3).i + j.i < (ρ 2).i * (ρ 3).i := by
      have := Int.mul_le_mul_of_nonneg_right (show i'.i + 1 ≤ (ρ 2).i by omega) (show 0 ≤ (ρ 3).i by omega)
      rw [Int.add_mul, Int.one_mul] at this; omega
    refine ⟨⟨hfd2, i0', by omega, by omega⟩, fun p _ fd3 _ hf3 hpw => ?_⟩
    rw [mul64 (by omega) (by omega), add64 (by omega) (by omega), add64 (by omega) (by omega)]
    have hpr := powF_range (e := j.i) i0' (show i'.i < 256 by omega)
    refine ⟨by omega, by omega, by omega, ⟨i0', i1', by omega, by omega, ⟨hnb, hf3, matOk_put hM2' (by rw [hpw]; exact hpr.1) (by rw [hpw]; exact hpr.2), by rw [putD_len]; exact hL2, ?_⟩, hii⟩, by omega⟩
    have ht : (i'.i * (ρ 3).i + j.i).toNat = i'.i.toNat * (ρ 3).i.toNat + j.i.toNat := by rw [Int.toNat_add hb2.1 j0, Int.toNat_mul i0' (by omega)]
    rw [bI_put, hB2, show (i'.i * (ρ 3).i + (j.i + 1)).toNat = (i'.i * (ρ 3).i + j.i).toNat + 1 by omega, fillTo_step (by rw [← Int.toNat_mul (by omega) (by omega)]; omega)]
    congr 1
    obtain ⟨e1, e2⟩ := div_row (i := i'.i.toNat) (n := (ρ 3).i.toNat) (l := j.i.toNat) (by omega)
    rw [ht, vanderF, e1, e2, hpw, Int.toNat_of_nonneg i0', Int.toNat_of_nonneg j0]
  · have hj' : j.i = (ρ 3).i := by omega
    rw [add64 (by omega) (by omega)]
    rw [hj', show i'.i * (ρ 3).i + (ρ 3).i = (i'.i + 1) * (ρ 3).i by rw [Int.add_mul, Int.one_mul]] at hB2
    exact ⟨⟨by omega, by omega, hnb, hfd2, hM2, hL2, hB2⟩, by omega⟩
  · have : i.i = (ρ 2).i := by omega
    rw [this, Int.toNat_mul (by omega) (by omega)] at hB
    exact ⟨hfd, hnb, hM, hL, hB⟩
theorem prod49_ok : prod49C.ok Try.prog := prod49_of (by simp [valid36_ok, zero82_ok, row75_ok, addTo_ok]) fun ρ hg hp => by
  obtain ⟨hf, la0, la1, la2, hBa, lb0, lb1, lb2, hBb⟩ := hp
  have hne := (fieldD_ne hf).1
  simp [o_prod49, prod49C, prod49I, prod49J, prodInv, valid36C, zero82C, row75C, addToC]
  refine ⟨fun h => (hne h).elim, fun _ => ⟨la0, fun v1 _ hv1 => ⟨fun hb => ⟨hf, fun h => ?_⟩, fun hb => ⟨lb0, fun v2 _ hv2 => ⟨fun hb2 => ⟨hf, fun _ h => ?_⟩, fun hb2 => ?_⟩⟩⟩⟩⟩
  · have := hv1.2 h
    rw [hb] at this; cases this
  · have := hv2.2 h
    rw [hb2] at this; cases this
  have vA : validM (ρ 2).i (ρ 3).i (ρ 5).i := hv1.1 hb
  have vB : validM (ρ 9).i (ρ 10).i (ρ 12).i := hv2.1 hb2
  refine ⟨fun h => ⟨hf, vA, vB, h⟩, fun hcr => ?_⟩
  obtain ⟨ra1, ra2, ca1, ca2, hla⟩ := vA
  obtain ⟨rb1, rb2, cb1, cb2, hlb⟩ := vB
  have mA : matOk (ρ 2).i (ρ 3).i (ρ 5).i (ρ 6).i (ρ 7).d := ⟨by omega, ra2, by omega, ca2, hla, la1, la2, hBa⟩
  have mB : matOk (ρ 9).i (ρ 10).i (ρ 12).i (ρ 13).i (ρ 14).d := ⟨by omega, rb2, by omega, cb2, hlb, lb1, lb2, hBb⟩
  have hbA := mul_bound (x := (ρ 2).i) (y := (ρ 3).i) (by omega) ra2 (by omega) ca2
  have hbP := mul_bound (x := (ρ 2).i) (y := (ρ 10).i) (by omega) ra2 (by omega) cb2
  refine ⟨⟨by omega, ra2, by omega, cb2⟩, fun l _ cp _ d _ hl hc hd => ⟨⟨by omega, hv1.1 hb, hv2.1 hb2, hcr, hf, ?_⟩, fun i _ l' _ c' _ d' _ fd _ i0 i1 _ _ _ hfd hM hL hB => ⟨fun hi => ⟨⟨i0, hi, mA⟩, fun o1 _ n1 _ k1 _ ho1 hn1 hk1 => ⟨by omega, ⟨i0, hi, by omega, ho1, hn1, hv1.1 hb, hv2.1 hb2, hcr, hfd, hM, hL, hB⟩, ?_⟩⟩, fun hi => ?_⟩⟩⟩
  · refine ⟨⟨by omega, ra2, by omega, cb2, hl, by omega, by rw [hd, List.length_replicate]; omega, by rw [hd]; exact allB_rep⟩, by rw [hd, List.length_replicate]; omega, ?_⟩
    rw [hd, bI_rep, prodN, hl, Int.toNat_mul (by omega) (by omega)]
  · intro i' _ l2 _ cp2 _ d2 _ fd2 _ j _ o2 _ n2 _ i0' i1' j0 j1 ho2 hn2 _ _ _ hfd2 hM2 hL2 hB2 hii
    refine ⟨fun hj => ?_, fun hj => ?_⟩
    · have hjc : j.i < (ρ 3).i := by omega
      have hbi := mul_bound (x := i'.i) (y := (ρ 3).i) i0' (show i'.i ≤ 255 by omega) (by omega) ca2
      have hbo := mul_bound (x := i'.i) (y := (ρ 10).i) i0' (show i'.i ≤ 255 by omega) (by omega) cb2
      have hbj := mul_bound (x := j.i) (y := (ρ 10).i) j0 (show j.i ≤ 255 by omega) (by omega) cb2
      have hltA : i'.i * (ρ 3).i + j.i < (ρ 2).i * (ρ 3).i := by
        have := Int.mul_le_mul_of_nonneg_right (show i'.i + 1 ≤ (ρ 2).i by omega) (show 0 ≤ (ρ 3).i by omega)
        rw [Int.add_mul, Int.one_mul] at this; omega
      have hltP : i'.i * (ρ 10).i + (ρ 10).i ≤ (ρ 2).i * (ρ 10).i := by
        have := Int.mul_le_mul_of_nonneg_right (show i'.i + 1 ≤ (ρ 2).i by omega) (show 0 ≤ (ρ 10).i by omega)
        rw [Int.add_mul, Int.one_mul] at this; omega
      have hltB : j.i * (ρ 10).i + (ρ 10).i ≤ (ρ 9).i * (ρ 10).i := by
        have := Int.mul_le_mul_of_nonneg_right (show j.i + 1 ≤ (ρ 9).i by omega) (show 0 ≤ (ρ 10).i by omega)
        rw [Int.add_mul, Int.one_mul] at this; omega
      have hM2' := hM2
      obtain ⟨a1, a2, a3, a4, a5, a6, a7, a8⟩ := hM2
      have hcell := allB_get hBa (i := i'.i * (ρ 3).i + j.i) (by omega) (by omega)
      rw [ho2]
      refine ⟨j0, by omega, by omega, by omega, ⟨i0', i1', hM2'⟩, fun o3 _ n3 _ k3 _ ho3 hn3 hk3 => ⟨⟨j0, by omega, mB⟩, fun o4 _ n4 _ k4 _ ho4 hn4 hk4 => ⟨⟨hfd2, ⟨by omega, by omega, by omega, by unfold Go.Eng.big; omega⟩, ⟨by omega, by omega, by omega, by unfold Go.Eng.big; omega⟩, by omega, a8, hBb, hcell⟩, fun fd5 _ d5 _ hf5 hl5 hB5 he5 => ?_⟩⟩⟩
      rw [add64 (by omega) (by omega)]
      refine ⟨⟨i0', i1', by omega, by omega, rfl, hn2, ⟨hv1.1 hb, hv2.1 hb2, hcr, hf5, ⟨a1, a2, a3, a4, a5, a6, by omega, hB5⟩, by omega, ?_⟩, hii⟩, by omega⟩
      have ht : (i'.i * (ρ 3).i + j.i).toNat = i'.i.toNat * (ρ 3).i.toNat + j.i.toNat := by rw [Int.toNat_add hbi.1 j0, Int.toNat_mul i0' (by omega)]
      have hget := bI_get (d := (ρ 7).d) (i := i'.i * (ρ 3).i + j.i) (by omega) (by omega)
      rw [he5, hB2, show (i'.i * (ρ 3).i + (j.i + 1)).toNat = (i'.i * (ρ 3).i + j.i).toNat + 1 by omega, ht, prodN_step (by omega)]
      have e1 : o3.i.toNat = i'.i.toNat * (ρ 10).i.toNat := by rw [ho3, Int.toNat_mul i0' (by omega)]
      have e2 : o4.i.toNat = j.i.toNat * (ρ 10).i.toNat := by rw [ho4, Int.toNat_mul j0 (by omega)]
      have e3 : ((bI (ρ 7).d).take (ρ 5).i.toNat).getD (i'.i.toNat * (ρ 3).i.toNat + j.i.toNat) 0 = cellI (ρ 7).d (i'.i * (ρ 3).i + j.i) 0 := by
        rw [List.getD_eq_getElem?_getD, List.getElem?_take, if_pos (by rw [← ht]; omega), ← ht, hget]; rfl
      rw [e3, e1, e2, hn4, seg_take (by rw [← e2]; omega)]
    · have hj' : j.i = (ρ 3).i := by omega
      rw [add64 (by omega) (by omega)]
      rw [hj', show i'.i * (ρ 3).i + (ρ 3).i = (i'.i + 1) * (ρ 3).i by rw [Int.add_mul, Int.one_mul]] at hB2
      exact ⟨⟨by omega, by omega, hv1.1 hb, hv2.1 hb2, hcr, hfd2, hM2, hL2, hB2⟩, by omega⟩
  · have : i.i = (ρ 2).i := by omega
    rw [this, Int.toNat_mul (by omega) (by omega)] at hB
    exact ⟨hfd, hv1.1 hb, hv2.1 hb2, hcr, hM, hL, hB⟩
end Go.Proofs
