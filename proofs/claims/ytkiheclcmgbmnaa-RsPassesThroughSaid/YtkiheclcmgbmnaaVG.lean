/- Interpolation is that of the document: proof. -/
import Derived.Test.YtkiheclcmgbmnaaVF
import Derived.Test.YtkiheclcmgbmnaaGD
set_option linter.unusedSimpArgs false
set_option linter.unusedVariables false
namespace Go.Proofs
open Go Go.Eng
set_option maxRecDepth 100000
theorem thru_unique {d : Rows'} {a b : List Int} (hd : goodP d) (ha : thruP d a) (hb : thruP d b) (ba : bytesL a) (bb : bytesL b) : a = b :=
  pol_unique hd.2.2 ha.1 hb.1 ba bb fun i hi => by rw [ha.2 i hi, hb.2 i hi]
theorem bad_good {d : Rows'} {e : Int} (h : badP d e) : ¬ goodP d := fun h' => by
  rcases h with ⟨h0, _⟩ | ⟨_, _, h0, _⟩
  · have := h'.1; have := h'.2.1; omega
  · exact h0 h'.2.2
theorem bad_bad {d : Rows'} {e e' : Int} (h : badP d e) (h' : badP d e') : e = e' := by
  rcases h with ⟨h0, h1⟩ | ⟨h0, h1, h2, h3⟩ <;> rcases h' with ⟨k0, k1⟩ | ⟨k0, k1, k2, k3⟩ <;> omega
theorem lawInterpolates_ok : lawInterpolatesC.ok Try.prog := lawInterpolates_of (by simp [newField_ok, interp65_ok, through66_ok, known_ok]) fun ρ hg hp => by
  obtain ⟨a0, a1, a2, a3⟩ := hp
  have hte : (ρ 3).d.take (ρ 1).i.toNat = (ρ 3).d := List.take_of_length_le (by omega)
  simp (config := { maxSteps := 4000000 }) [o_lawInterpolates, lawInterpolatesC, lawIs, lawRet, newFieldC, interp65C, through66C, knownC, hte]
  refine ⟨a0, fun hle u _ hu => ?_⟩
  have hbig : (ρ 1).i ≤ Go.Eng.big := by unfold Go.Eng.big; omega
  refine ⟨by omega, by omega, ⟨.inl hu, a2, a3, hbig⟩, fun e _ f _ hf hbad => ⟨⟨a2, a3, hbig⟩, fun e' _ hb' => bad_bad hbad hb', fun r _ hg _ _ => (bad_good hbad hg).elim⟩,
    fun f _ r _ hf hgood hB hT => ⟨⟨a2, a3, hbig⟩, fun e _ hbad => (bad_good hbad hgood).elim, fun r' _ _ hB' hT' => ?_⟩⟩
  have l1 : r.d.length = (ρ 3).d.length := by have := hT.1; rwa [bI_len] at this
  have l2 : r'.d.length = (ρ 3).d.length := by have := hT'.1; rwa [bI_len] at this
  refine ⟨by omega, by omega, ?_⟩
  rw [List.take_of_length_le (by omega), List.take_of_length_le (by omega), str_eq, str_eq, bytesOf_inj hB hB']
  exact thru_unique hgood hT hT' (allB_list hB) (allB_list hB')
end Go.Proofs
