/- Rows and matrices over the field: proofs. -/
import Derived.Test.YtkiheclcmgbmnaaZC
import Derived.Test.YtkiheclcmgbmnaaZR
import Derived.Test.YtkiheclcmgbmnaaZF
set_option linter.unusedSimpArgs false
set_option linter.unusedVariables false
namespace Go.Proofs
open Go Go.Eng
theorem sizes74_ok : sizes74C.ok Try.prog := sizes74_of (by simp) fun ρ hg hp => by
  simp [o_sizes74, sizes74C]
  refine ⟨fun h1 => ⟨fun h2 => ?_, fun h2 => ?_⟩, fun h1 => ?_⟩
  · simp [sizesB, h1, h2, cmpOf]
  · simp [sizesB]; omega
  · simp [sizesB]; omega
theorem piece26_ok : piece26C.ok Try.prog := piece26_of (by simp) fun ρ hg hp => by
  simp [o_piece26, piece26C]
  unfold pieceBad
  refine ⟨fun h => by omega, fun h1 => ⟨fun h => by omega, fun h2 => ⟨fun h => by omega, fun h3 => ⟨fun h => by omega, fun h4 => ⟨by omega, by omega, fun _ => ?_⟩⟩⟩⟩⟩
  rw [add64 (by omega) (by omega), sub64 (by omega) (by omega)]
  have hq : 0 ≤ ((ρ 1).i + (ρ 0).i - 1).tdiv (ρ 0).i ∧ ((ρ 1).i + (ρ 0).i - 1).tdiv (ρ 0).i ≤ 10000 := by
    rw [Int.tdiv_eq_ediv_of_nonneg (by omega)]
    refine ⟨Int.ediv_nonneg (by omega) (by omega), ?_⟩
    have := Int.ediv_le_self (a := (ρ 1).i + (ρ 0).i - 1) (ρ 0).i (by omega)
    omega
  exact wrap64 (by omega) (by omega)
theorem zero82_ok : zero82C.ok Try.prog := zero82_of (by simp) fun ρ hg hp => by
  obtain ⟨h1, h2, h3, h4⟩ := hp
  simp [o_zero82, zero82C]
  have hb := mul_bound h1 h2 h3 h4
  rw [mul64 (by omega) (by omega)]
  omega
theorem row75_ok : row75C.ok Try.prog := row75_of (by simp) fun ρ hg hp => by
  obtain ⟨r0, r1, a0, a1, c0, c1, hl, hc, hd, hB⟩ := hp
  simp [o_row75, row75C]
  have hb := mul_bound (x := (ρ 7).i) (y := (ρ 1).i) r0 (show (ρ 7).i ≤ 255 by omega) c0 c1
  have hb2 := mul_bound (x := (ρ 7).i + 1) (y := (ρ 1).i) (by omega) (show (ρ 7).i + 1 ≤ 255 by omega) c0 c1
  have he : ((ρ 7).i + 1) * (ρ 1).i = (ρ 7).i * (ρ 1).i + (ρ 1).i := by rw [Int.add_mul, Int.one_mul]
  have hle : ((ρ 7).i + 1) * (ρ 1).i ≤ (ρ 0).i * (ρ 1).i := Int.mul_le_mul_of_nonneg_right (by omega) c0
  rw [add64 (by omega) (by omega), mul64 (by omega) (by omega), mul64 (by omega) (by omega)]
  refine ⟨by omega, by omega, hb.1, by omega, by omega, ?_, by omega⟩
  split
  · have : (ρ 1).i = 0 := by omega
    rw [this, Int.mul_zero]
  · rfl
theorem valid36_ok : valid36C.ok Try.prog := valid36_of (by simp) fun ρ hg hp => by
  have hp : 0 ≤ (ρ 3).i := hp
  simp [o_valid36, valid36C]
  refine ⟨fun h1 => ⟨fun h2 => ⟨fun h3 => ⟨fun h4 => ⟨by omega, ?_⟩, fun _ => by omega⟩, fun _ => by omega⟩, fun _ => by omega⟩, fun _ => by omega⟩
  have hb := mul_bound (x := (ρ 0).i) (y := (ρ 1).i) (by omega) h2 (by omega) h4
  rw [mul64 (by omega) (by omega)]
  omega
theorem clone84_ok : clone84C.ok Try.prog := clone84_of (by simp) fun ρ hg hp => by
  obtain ⟨h0, h1, h2⟩ := hp
  simp [o_clone84, clone84C]
  unfold Go.Eng.big at h2
  exact ⟨by omega, by omega, by omega⟩
theorem addTo_ok : addToC.ok Try.prog := addTo_of (by simp [mul_ok]) fun ρ hg hp => by
  obtain ⟨hf, ⟨o0, o1, o2, o3⟩, ⟨s0, s1, s2, s3⟩, hle, hB, hB2, c0, c1⟩ := hp
  unfold Go.Eng.big at o3 s3
  simp [o_addTo, addToC, addToI, mulC]
  refine ⟨fun hc => ⟨hf, hB, ?_⟩, fun hc => ⟨s1, ⟨s1, hf, hB, ?_⟩, fun i _ fd _ dd _ i0 i1 hfd hl hBd hd => ⟨fun hi => ?_, fun hi => ?_⟩⟩⟩
  · rw [hc, addToL_zero (allB_list hB)]
  · rw [show seg (bI (ρ 12).d) (ρ 9).i.toNat 0 = [] by simp [seg], addToL_nil]
  · have hcell := allB_get hB2 (i := (ρ 9).i + i.i) (by omega) (by omega)
    refine ⟨i0, s0, by omega, by omega, by omega, o0, by omega, by omega, ⟨hfd, c0, c1, hcell⟩, fun m _ fd2 _ hf2 hm => ?_⟩
    rw [add64 (by omega) (by omega)]
    have hy := bI_get (d := (ρ 12).d) (i := (ρ 9).i + i.i) (by omega) (by omega)
    rw [show ((ρ 9).i + i.i).toNat = (ρ 9).i.toNat + i.i.toNat by omega] at hy
    have hz := bI_get (d := dd.d) (i := (ρ 3).i + i.i) (by omega) (by omega)
    rw [show ((ρ 3).i + i.i).toNat = (ρ 3).i.toNat + i.i.toNat by omega, hd, addToL_out (by right; rw [seg_len (by rw [bI_len]; omega)]; omega)] at hz
    refine ⟨⟨by omega, by omega, hf2, by rw [putD_len, hl], allB_put hBd xorB_range.1 xorB_range.2, ?_⟩, by omega⟩
    rw [bI_put, hd, hm, show (i.i + 1).toNat = i.i.toNat + 1 by omega, addToL_step hz hy, show ((ρ 3).i + i.i).toNat = (ρ 3).i.toNat + i.i.toNat by omega]
    rfl
  · have : i.i = (ρ 10).i := by omega
    rw [this] at hd
    exact ⟨hfd, hl, hBd, hd⟩
theorem addToS_ok : addToS.ok Try.prog := addToSame_of (by simp [mul_ok]) fun ρ hg hp => by
  obtain ⟨hf, ⟨o0, o1, o2, o3⟩, ⟨s0, s1, s2, s3⟩, hle, hdis, hB, c0, c1⟩ := hp
  unfold Go.Eng.big at o3 s3
  simp [o_addToSame, addToS, addToSI, mulC]
  refine ⟨fun hc => ⟨hf, hB, ?_⟩, fun hc => ⟨s1, ⟨s1, hf, hB, ?_⟩, fun i _ fd _ dd _ i0 i1 hfd hl hBd hd => ⟨fun hi => ?_, fun hi => ?_⟩⟩⟩
  · rw [hc, addToL_zero (allB_list hB)]
  · rw [show seg (bI (ρ 6).d) (ρ 8).i.toNat 0 = [] by simp [seg], addToL_nil]
  · have hcell := allB_get hBd (i := (ρ 8).i + i.i) (by omega) (by omega)
    have hsl : (seg (bI (ρ 6).d) (ρ 8).i.toNat i.i.toNat).length = i.i.toNat := seg_len (by rw [bI_len]; omega)
    have hy := bI_get (d := dd.d) (i := (ρ 8).i + i.i) (by omega) (by omega)
    rw [show ((ρ 8).i + i.i).toNat = (ρ 8).i.toNat + i.i.toNat by omega, hd, addToL_out (by rw [hsl]; omega)] at hy
    have hz := bI_get (d := dd.d) (i := (ρ 3).i + i.i) (by omega) (by omega)
    rw [show ((ρ 3).i + i.i).toNat = (ρ 3).i.toNat + i.i.toNat by omega, hd, addToL_out (by rw [hsl]; omega)] at hz
    refine ⟨i0, s0, by omega, by omega, by omega, o0, by omega, by omega, ⟨hfd, c0, c1, hcell⟩, fun m _ fd2 _ hf2 hm => ?_⟩
    rw [add64 (by omega) (by omega)]
    refine ⟨⟨by omega, by omega, hf2, by rw [putD_len, hl], allB_put hBd xorB_range.1 xorB_range.2, ?_⟩, by omega⟩
    rw [bI_put, hd, hm, show (i.i + 1).toNat = i.i.toNat + 1 by omega, addToL_step hz hy, show ((ρ 3).i + i.i).toNat = (ρ 3).i.toNat + i.i.toNat by omega]
    rfl
  · have : i.i = (ρ 9).i := by omega
    rw [this] at hd
    exact ⟨hfd, hl, hBd, hd⟩
theorem scale_ok : scaleC.ok Try.prog := scale_of (by simp [mul_ok]) fun ρ hg hp => by
  obtain ⟨hf, ⟨o0, o1, o2, o3⟩, hB, c0, c1⟩ := hp
  unfold Go.Eng.big at o3
  simp [o_scale, scaleC, scaleI, mulC]
  refine ⟨o1, ⟨o1, hf, hB, ?_⟩, fun i _ fd _ dd _ i0 i1 hfd hl hBd hd => ⟨fun hi => ?_, fun hi => ?_⟩⟩
  · rw [scaleL_zero]
  · have hcell := allB_get hBd (i := (ρ 3).i + i.i) (by omega) (by omega)
    refine ⟨i0, o0, by omega, by omega, ⟨hfd, hcell.1, hcell.2, c0, c1⟩, fun m _ fd2 _ hf2 hm => ?_⟩
    rw [add64 (by omega) (by omega)]
    have hz := bI_get (d := dd.d) (i := (ρ 3).i + i.i) (by omega) (by omega)
    rw [show ((ρ 3).i + i.i).toNat = (ρ 3).i.toNat + i.i.toNat by omega, hd, scaleL_out (by omega)] at hz
    have hmr := mulF_range hcell.1 hcell.2 c0 c1
    refine ⟨⟨by omega, by omega, hf2, by rw [putD_len, hl], allB_put hBd (by rw [hm]; exact hmr.1) (by rw [hm]; exact hmr.2), ?_⟩, by omega⟩
    rw [bI_put, hd, hm, show (i.i + 1).toNat = i.i.toNat + 1 by omega, scaleL_step hz, show ((ρ 3).i + i.i).toNat = (ρ 3).i.toNat + i.i.toNat by omega]
  · have : i.i = (ρ 4).i := by omega
    rw [this] at hd
    exact ⟨hfd, hl, hBd, hd⟩
theorem inv51_ok : inv51C.ok Try.prog := inv51_of (by simp [once_ok]) fun ρ hg hp => by
  obtain ⟨hf, a0, a1⟩ := hp
  obtain ⟨hne, hpos⟩ := fieldD_ne hf
  simp [o_inv51, inv51C, onceC]
  refine ⟨fun h => (hne h).elim, fun _ => ⟨fun h => ⟨hf, by rw [invF, if_pos h], h⟩, fun h => ⟨hpos, hf, fun u _ hu => ?_⟩⟩⟩
  rw [hu]
  obtain ⟨l0, l1⟩ := logT_range a0 a1
  have e1 : cellX doneD ((ρ 2).i.toNat + 513) = logT (ρ 2).i.toNat := rfl
  rw [e1, sub64 (by omega) (by omega)]
  exact ⟨(fieldD_ne (.inr rfl)).2, a0, a1, by omega, by omega, .inr rfl, by rw [invF, if_neg h]; rfl, h⟩
theorem pow37_ok : pow37C.ok Try.prog := pow37_of (by simp [once_ok]) fun ρ hg hp => by
  obtain ⟨hf, a0, a1, e1⟩ := hp
  obtain ⟨hne, hpos⟩ := fieldD_ne hf
  simp [o_pow37, pow37C, onceC]
  refine ⟨fun h => (hne h).elim, fun _ => ⟨fun h => ⟨hf, by rw [powF, if_pos h]⟩, fun he => ⟨fun h => ⟨hf, by rw [powF, if_neg (by omega), if_pos h]⟩, fun h => ⟨hpos, hf, fun u _ hu => ?_⟩⟩⟩⟩
  rw [hu]
  obtain ⟨l0, l1⟩ := logT_range a0 a1
  have e1 : cellX doneD ((ρ 2).i.toNat + 513) = logT (ρ 2).i.toNat := rfl
  have hr : arithOf .rem .i64 (ρ 3).i 255 = (ρ 3).i.tmod 255 := rfl
  have hr0 : 0 ≤ (ρ 3).i.tmod 255 := Int.tmod_nonneg _ (by omega)
  have hr1 : (ρ 3).i.tmod 255 < 255 := Int.tmod_lt_of_pos _ (by omega)
  have hb := mul_bound l0 (show logT (ρ 2).i.toNat ≤ 255 by omega) hr0 (show (ρ 3).i.tmod 255 ≤ 255 by omega)
  rw [e1, hr, mul64 (by omega) (by omega)]
  have hr2 : arithOf .rem .i64 (logT (ρ 2).i.toNat * (ρ 3).i.tmod 255) 255 = (logT (ρ 2).i.toNat * (ρ 3).i.tmod 255).tmod 255 := rfl
  have hr3 : 0 ≤ (logT (ρ 2).i.toNat * (ρ 3).i.tmod 255).tmod 255 := Int.tmod_nonneg _ hb.1
  have hr4 : (logT (ρ 2).i.toNat * (ρ 3).i.tmod 255).tmod 255 < 255 := Int.tmod_lt_of_pos _ (by omega)
  rw [hr2]
  refine ⟨(fieldD_ne (.inr rfl)).2, a0, a1, hr3, by omega, .inr rfl, ?_⟩
  rw [powF, if_neg (by omega), if_neg h]; rfl
end Go.Proofs
