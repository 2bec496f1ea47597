/- Inverses undo: proof. -/
import Derived.Test.YtkiheclcmgbmnaaYZ
import Derived.Test.YtkiheclcmgbmnaaGG
set_option linter.unusedSimpArgs false
set_option linter.unusedVariables false
namespace Go.Proofs
open Go Go.Eng
theorem same59_ok : same59C.ok Try.prog := same59_of (by simp) fun ρ hg hp => by
  obtain ⟨a0, a1, a2, b0, b1, b2⟩ := hp
  simp [o_same59, same59C, same44C]
  refine ⟨fun h1 => ⟨fun h2 => ⟨a0, a1, b0, b1, ?_⟩, fun h2 h => h2 h.2.1⟩, fun h1 h => h1 h.1⟩
  rw [str_eq, str_eq, bytesOf_inj (allB_take a2) (allB_take b2), bI_take, bI_take]
  exact ⟨fun h => ⟨h1, h2, h⟩, fun h => h.2.2⟩
set_option maxRecDepth 100000 in
theorem lawInverseUndoes_ok : lawInverseUndoesC.ok Try.prog := lawInverseUndoes_of (by simp [large48_ok, own42_ok, valid36_ok, newField_ok, rankG_ok, invM_ok, identG_ok, prodG_ok, same59_ok, known_ok]) fun ρ hg hp => by
  obtain ⟨a0, a1, a2, a3, a4⟩ := hp
  simp (config := { maxSteps := 40000000 }) [o_lawInverseUndoes, lawInverseUndoesC, lawIs, lawRet, large48C, own42C, cloneKC, clone84C, valid36C, newFieldC, rankGC, rank57C, invMC, inverse55C, identGC, ident40C, prodGC, prod49C, same59C, same44C, knownC]
  refine ⟨a0, fun s1 _ hs1 hb1 => ?_⟩
  have m1 : ¬ (60 < (ρ 0).i ∨ 60 < (ρ 1).i ∨ 3600 < (ρ 3).i) := fun h => by have := hs1.2 h; rw [hb1] at this; cases this
  have hown : 0 ≤ (ρ 3).i ∧ (ρ 3).i ≤ ((ρ 5).d.length : Int) ∧ (ρ 3).i ≤ Go.Eng.big := ⟨a0, by omega, by unfold Go.Eng.big; omega⟩
  have hte : (ρ 5).d.take (ρ 3).i.toNat = (ρ 5).d := List.take_of_length_le (by omega)
  have hbe : (bI (ρ 5).d).take (ρ 3).i.toNat = bI (ρ 5).d := List.take_of_length_le (by rw [bI_len]; omega)
  rw [hte]
  refine ⟨hown, fun c1 _ d1 _ hd1 hc1 => ⟨a0, fun v _ hv hvb hsq f0 _ hf0 => ⟨hown, fun c2 _ d2 _ hd2 hc2 => ?_⟩⟩⟩
  have vA : validM (ρ 0).i (ρ 1).i (ρ 3).i := hv.1 hvb
  have vA' := vA
  obtain ⟨r1, r2, q1, q2, hl⟩ := vA'
  rw [hd2] at hc2
  rw [hd2, hbe]
  refine ⟨⟨⟨.inl hf0, a0, by omega, by omega, a3⟩, vA⟩, fun rk _ f1 _ hf1 _ hrk => ⟨hown, fun c3 _ d3 _ hd3 hc3 => ?_⟩⟩
  rw [hd3] at hc3
  rw [hd3, hbe]
  refine ⟨⟨⟨hf1, a0, by omega, by omega, a3⟩, vA, hsq⟩, fun ir _ ic _ il _ icap _ ie _ f2 _ di _ hf2 hI => ?_⟩
  have hnn : (bI (ρ 5).d).length = (ρ 0).i.toNat * (ρ 0).i.toNat := by
    rw [bI_len, ← Int.toNat_mul (by omega) (by omega)]
    rw [← hsq] at hl
    omega
  have hbb : bytesL (bI (ρ 5).d) := allB_list a3
  rw [← hsq, rank_inv] at hrk
  have hrl : (invE (bI (ρ 5).d) (ρ 0).i.toNat).2.2 ≤ (ρ 0).i.toNat := (inv_ech hnn hbb).2.le
  refine ⟨by omega, fun _ => ⟨by omega, fun _ => ⟨fun hlt => ?_, fun hge => ?_⟩⟩⟩
  · rcases hI with ⟨_, h⟩ | ⟨h, _⟩
    · exact h
    · omega
  obtain ⟨hrn, he, hr0, hc0, ⟨hM, hL⟩, hinv⟩ : _ ∧ _ ∧ _ ∧ _ ∧ fullM _ _ _ _ _ ∧ _ := by
    rcases hI with ⟨h, _⟩ | h
    · omega
    · exact h
  obtain ⟨i1, i2, i3, i4, i5, i6, i7, i8⟩ := hM
  obtain ⟨u1, u2⟩ := undoes (by omega) hnn hbb hrn
  have hti : di.d.take il.i.toNat = di.d := List.take_of_length_le (by omega)
  have hbd := mul_bound (x := (ρ 0).i) (y := (ρ 0).i) (by omega) r2 (by omega) r2
  have hown2 : 0 ≤ il.i ∧ il.i ≤ (di.d.length : Int) ∧ il.i ≤ Go.Eng.big := ⟨by omega, by omega, by unfold Go.Eng.big; omega⟩
  have hbi : (bI di.d).take il.i.toNat = bI di.d := List.take_of_length_le (by rw [bI_len]; omega)
  have vI : validM ir.i ic.i il.i := ⟨by omega, by omega, by omega, by omega, by rw [hr0, hc0]; exact i5⟩
  rw [hti]
  refine ⟨⟨r1, r2⟩, fun ul _ uc _ ud _ _ _ hU hUL hUE => ⟨hown, fun c4 _ d4 _ hd4 hc4 => ⟨hown2, fun c5 _ d5 _ hd5 hc5 => ?_⟩⟩⟩
  rw [hd4] at hc4; rw [hd5] at hc5
  rw [hd4, hd5, hbe, hbi]
  refine ⟨⟨⟨hf2, a0, by omega, by omega, a3, by omega, by omega, by omega, i8⟩, vA, vI, by omega⟩, fun al _ ac _ f3 _ ad _ hf3 _ _ _ hA hAL hAE => ⟨hown2, fun c6 _ d6 _ hd6 hc6 => ⟨hown, fun c7 _ d7 _ hd7 hc7 => ?_⟩⟩⟩
  rw [hd6] at hc6; rw [hd7] at hc7
  rw [hd6, hd7, hbe, hbi]
  refine ⟨⟨⟨hf3, by omega, by omega, by omega, i8, a0, by omega, by omega, a3⟩, vI, vA, hc0⟩, fun bl _ bc _ f4 _ bd _ hf4 _ _ _ hB hBL hBE => ⟨fun _ => ⟨by omega, fun w1 _ hw1 => ⟨fun _ => ⟨?_, fun w2 _ hw2 => ⟨fun _ => ⟨?_, fun w3 _ hw3 => hw3.2 ?_⟩, hw2.2 ?_⟩⟩, hw1.2 ⟨r1, r2, r1, r2, hU.2.2.2.2.1⟩⟩⟩, he⟩⟩
  · exact ⟨by omega, by omega, hA.2.2.2.2.2.2.2, by omega, by omega, hU.2.2.2.2.2.2.2⟩
  · exact ⟨by omega, by omega, hB.2.2.2.2.2.2.2, by omega, by omega, hU.2.2.2.2.2.2.2⟩
  · refine ⟨hr0, hsq.symm, ?_⟩
    rw [List.take_of_length_le (by rw [bI_len]; omega), List.take_of_length_le (by rw [bI_len]; omega), hBE, hUE, hinv, hr0, hc0, ← hsq, u2]
  · refine ⟨rfl, hc0, ?_⟩
    rw [List.take_of_length_le (by rw [bI_len]; omega), List.take_of_length_le (by rw [bI_len]; omega), hAE, hUE, hinv, hc0, ← hsq, u1]
end Go.Proofs
