/- Products are those of the document. -/
import Derived.Test.YtkiheclcmgbmnaaYH
import Derived.Test.YtkiheclcmgbmnaaGF
set_option linter.unusedSimpArgs false
set_option linter.unusedVariables false
namespace Go.Proofs
open Go Go.Eng

set_option maxRecDepth 100000 in
set_option maxHeartbeats 4000000 in
theorem lawProducts_ok : lawProductsC.ok Try.prog := lawProducts_of (by simp [large48_ok, newField_ok, own42_ok, prod49_ok, mul50_ok, same44_ok, known_ok]) fun ρ hg hp => by
  obtain ⟨⟨a0, a1, a2, a3, a4⟩, b0, b1, b2, b3, b4⟩ := hp
  simp (config := { maxSteps := 40000000 }) [o_lawProducts, lawProductsC, lawIs, lawRet, large48C, newFieldC, own42C, cloneKC, clone84C, prod49C, mul50C, same44C, knownC]
  refine ⟨a0, fun s1 _ hs1 hb1 => ⟨b0, fun s2 _ hs2 hb2 f _ hf => ?_⟩⟩
  have n1 : ¬ (60 < (ρ 0).i ∨ 60 < (ρ 1).i ∨ 3600 < (ρ 3).i) := fun h => by have := hs1.2 h; rw [hb1] at this; cases this
  have n2 : ¬ (60 < (ρ 7).i ∨ 60 < (ρ 8).i ∨ 3600 < (ρ 10).i) := fun h => by have := hs2.2 h; rw [hb2] at this; cases this
  refine ⟨⟨a0, by omega, by unfold Go.Eng.big; omega⟩, fun c1 _ d1 _ hd1 hc1 => ⟨⟨b0, by omega, by unfold Go.Eng.big; omega⟩, fun c2 _ d2 _ hd2 hc2 => ?_⟩⟩
  have e1 : d1.d = (ρ 5).d := by rw [hd1, List.take_of_length_le (by omega)]
  have e2 : d2.d = (ρ 12).d := by rw [hd2, List.take_of_length_le (by omega)]
  rw [e1, e2]
  rw [e1] at hc1
  rw [e2] at hc2
  have hpre : 0 ≤ (ρ 3).i ∧ (ρ 3).i ≤ (ρ 5).d.length ∧ allB (ρ 5).d ∧ 0 ≤ (ρ 10).i ∧ (ρ 10).i ≤ (ρ 12).d.length ∧ allB (ρ 12).d := ⟨a0, by omega, a3, b0, by omega, b3⟩
  have hnil : allB [] ∧ ∀ (u : U), u.good → (u.b = true ↔ sameMP 0 0 0 0 0 0 [] []) → u.b = true := ⟨fun r hr => (by cases hr), fun u _ hu => hu.2 ⟨rfl, rfl, rfl⟩⟩
  refine ⟨⟨.inl hf, a0, by omega, by omega, a3, b0, by omega, by omega, b3⟩, ?_, ?_, ?_⟩
  · intro _ _ _ hno
    exact ⟨hpre, fun _ => hnil, fun h1 h2 => (hno h1 h2).elim, fun _ _ _ _ _ _ h1 h2 => (hno h1 h2).elim⟩
  · intro _ _ _ h1 h2 h3
    exact ⟨hpre, ⟨h1, h2⟩, fun _ _ _ => hnil, fun _ _ _ _ _ _ _ _ h => (h3 h).elim⟩
  · intro l _ cp _ _ _ d _ _ h1 h2 h3 hM hL hd
    refine ⟨hpre, ⟨h1, h2⟩, fun _ _ => h3, fun l' _ cp' _ d' _ _ _ _ hM' hL' hd' => ⟨⟨?_, by omega, hM.2.2.2.2.2.2.2, ?_, by omega, hM'.2.2.2.2.2.2.2⟩, fun w _ hw => hw.2 ⟨rfl, rfl, ?_⟩⟩⟩
    · omega
    · omega
    · rw [hd, hd', show l.i = l'.i by rw [hM.2.2.2.2.1, hM'.2.2.2.2.1]]
end Go.Proofs
