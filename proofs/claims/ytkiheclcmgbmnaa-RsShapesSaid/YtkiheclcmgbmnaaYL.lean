/- Shapes are those of the document. -/
import Derived.Test.YtkiheclcmgbmnaaYI
import Derived.Test.YtkiheclcmgbmnaaYK
set_option linter.unusedSimpArgs false
set_option linter.unusedVariables false
namespace Go.Proofs
open Go Go.Eng

theorem same_cells {l l' : Int} {d d' : Rows'} {X : List Int} (h1 : l = d.length) (h2 : l' = d'.length) (h3 : bI d = X) (h4 : bI d' = X) : (bI d).take l.toNat = (bI d').take l'.toNat := by
  have h5 : d.length = d'.length := by rw [← bI_len, ← bI_len, h3, h4]
  rw [h3, h4, h1, h2, h5]
theorem matB {r c l cap : Int} {d : Rows'} (h : matOk r c l cap d) : allB d := h.2.2.2.2.2.2.2
theorem fullB {r c l cap : Int} {d : Rows'} (h : fullM r c l cap d) : allB d := matB h.1
theorem fullEq {r c l cap : Int} {d : Rows'} (h : fullM r c l cap d) : l = d.length := h.2
theorem fullGe {r c l cap : Int} {d : Rows'} (h : fullM r c l cap d) : 0 ≤ l := by rw [h.2]; exact Int.natCast_nonneg _
theorem fullLe {r c l cap : Int} {d : Rows'} (h : fullM r c l cap d) : l ≤ d.length := by rw [h.2]; exact Int.le_refl _
theorem vanB {r c : Int} {d : Rows'} (h : ¬ vanderBad r c) (hd : bI d = vanderL r.toNat c.toNat) : allB d := allB_of (by rw [hd]; unfold vanderBad at h; exact vander_bytes (by omega) (by omega))
theorem genB {k t : Int} {d : Rows'} (h : sizesB k t = true) (hd : bI d = genL k.toNat t.toNat) : allB d := by
  obtain ⟨k1, k2, k3⟩ := sizesB_iff.1 h
  exact allB_of (by rw [hd]; exact (gen_facts (by omega) (by omega) (by omega)).2.1)
theorem top_not {k t : Int} (h : sizesB k t = true → (((topE k.toNat t.toNat).2.2 : Nat) : Int) < k) : sizesB k t = false := by
  cases hb : sizesB k t with
  | false => rfl
  | true =>
    obtain ⟨k1, k2, k3⟩ := sizesB_iff.1 hb
    have h1 := h hb
    rw [top_rank (k := k.toNat) (total := t.toNat) (by omega) (by omega)] at h1
    omega
theorem false_of {k t : Int} (h : sizesB k t = true → (((topE k.toNat t.toNat).2.2 : Nat) : Int) < k) (h1 : sizesB k t = true) : False := by rw [top_not h] at h1; cases h1
theorem false_of' {k t : Int} (h : sizesB k t = false) (h1 : sizesB k t = true) : False := by rw [h] at h1; cases h1
set_option maxRecDepth 100000 in
set_option maxHeartbeats 40000000 in
theorem lawShapes_ok : lawShapesC.ok Try.prog := lawShapes_of (by simp [known_ok, newField_ok, ident40_ok, unit41_ok, own42_ok, valid36_ok, good43_ok, same44_ok, vander45_ok, powers46_ok, gen35_ok, basis47_ok]) fun ρ hg hp => by
  obtain ⟨a0, a1, a2, a3, a4⟩ := hp
  simp (config := { maxSteps := 40000000 }) [o_lawShapes, lawShapesC, lawIs, lawRet, newFieldC, ident40C, unit41C, own42C, cloneKC, clone84C, valid36C, good43C, same44C, vander45C, powers46C, gen35C, basis47C, knownC]
  have hbig : (ρ 3).i ≤ 65536 → (ρ 3).i ≤ Go.Eng.big := fun h => by unfold Go.Eng.big; omega
  have hnilB : allB [] := fun r hr => by cases hr
  repeat' (first
    | assumption
    | exact matB (by assumption)
    | exact fullB (by assumption)
    | exact vanB (by assumption) (by assumption)
    | exact genB (by assumption) (by assumption)
    | intro _
    | refine ⟨?_, ?_⟩
    | exact hbig (by assumption)
    | exact .inl (by assumption)
    | exact Bool.eq_iff_iff.2 (Iff.trans (by assumption) (Iff.symm (by assumption)))
    | exact (Iff.mpr (b := sameMP 0 0 0 0 0 0 [] []) (by assumption) ⟨rfl, rfl, rfl⟩)
    | (refine Iff.mpr (b := sameMP _ _ _ _ _ _ _ _) (by assumption) ⟨rfl, rfl, same_cells (by first | assumption | exact fullEq (by assumption)) (by assumption) (by assumption) (by assumption)⟩)
    | exact matB (by assumption)
    | exact fullB (by assumption)
    | exact fullGe (by assumption)
    | exact fullLe (by assumption)
    | exact vanB (by assumption) (by assumption)
    | exact genB (by assumption) (by assumption)
    | exact top_not (by assumption)
    | exact false_of (by assumption) (by assumption)
    | exact false_of' (by assumption) (by assumption)
    | contradiction
    | omega)
end Go.Proofs
