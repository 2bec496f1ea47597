/- What is known. -/
import Derived.Test.YtkiheclcmgbmnaaZW
set_option linter.unusedSimpArgs false
set_option linter.unusedVariables false
namespace Go.Proofs
open Go Go.Eng

set_option maxRecDepth 100000 in
theorem known_nums : (mulF 2 128, powF 2 8, invF 2, (topE 2 3).2.2, encP 2 3 [16, 32, 48] 2) = (29, 29, 142, 2, [80, 96]) := by kernel_rfl
set_option maxRecDepth 20000 in
set_option pp.deepTerms true in
set_option pp.maxSteps 1000000 in
theorem known_ok : knownC.ok Try.prog := known_of (by simp [newField_ok, mul_ok, add34_ok, pow37_ok, inv51_ok, encode31_ok]) fun ρ hg hp => by
  obtain ⟨n1, n2, n3, n4, n5⟩ : mulF 2 128 = 29 ∧ powF 2 8 = 29 ∧ invF 2 = 142 ∧ (topE 2 3).2.2 = 2 ∧ encP 2 3 [16, 32, 48] 2 = [80, 96] := by
    have := known_nums
    simp only [Prod.mk.injEq] at this
    exact this
  simp (config := { maxSteps := 4000000 }) [o_known, knownC, newFieldC, mulC, add34C, pow37C, inv51C, encode31C, lawRet, n1, n2, n3]
  refine fun u0 _ f0 _ hf0 => ⟨fun h => (by rw [hf0] at h; cases h), fun _ => ⟨.inl hf0, fun u1 _ f1 _ hf1 h1 => ⟨h1, fun _ => ⟨rfl, fun _ => ⟨hf1, fun u2 _ f2 _ hf2 h2 => ⟨h2, fun _ => ⟨hf2, fun u3 _ u4 _ f3 _ hf3 h3 h4 => ⟨⟨hf3, ?_, fun _ => n4⟩, ?_, ?_⟩⟩⟩⟩⟩⟩⟩⟩
  · intro row hr
    rcases List.mem_cons.1 hr with rfl | hr
    · decide
    rcases List.mem_cons.1 hr with rfl | hr
    · decide
    rcases List.mem_cons.1 hr with rfl | hr
    · decide
    · cases hr
  · intro _ _ _ _ _ h
    exact absurd h (by decide)
  · intro f4 _ D _ ab _ hf4 _ hl he
    refine ⟨fun _ => ⟨fun _ => ⟨by omega, ?_⟩, h4⟩, h3⟩
    obtain ⟨v, d, e1, e2, e3, e4⟩ := he 2 (by omega)
    rw [show bI [[.int .u8 16], [.int .u8 32], [.int .u8 48]] = [16, 32, 48] by rfl, n5] at e3
    refine ⟨d, by simpa [cellV, e1, kB] using e2, ?_⟩
    have hd : bytesOf d = [80, 96] := by
      have hb : bytesOf d = (bI d).map fun x => UInt8.ofNat x.toNat := by
        simp only [bytesOf, bI, List.map_map]
        refine List.map_congr_left fun r hr => ?_
        rfl
      rw [hb, e3]; rfl
    rw [hd]
end Go.Proofs
