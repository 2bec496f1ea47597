/- A square matrix of full rank has an inverse whose product with it, on either side, is the identity; one of a smaller rank has none: the call returns true. No condition. -/
import Derived.Test.YtkiheclcmgbmnaaRows
import Derived.Test.YtkiheclcmgbmnaaYP
import Derived.Test.YtkiheclcmgbmnaaYQ
import Derived.Test.YtkiheclcmgbmnaaV1
set_option linter.unusedSimpArgs false
set_option linter.unusedVariables false
namespace Go.Proofs.Ytkiheclcmgbmnaa
open Go Go.Eng Go.Proofs Go.ChangeShapes Go.WideShapes Go.ChangeAt Go.RowKit
set_option maxRecDepth 100000 in
theorem inverseundoes_lifted (os : Os) (started : os.Started) (H : Type) (enc : TypeId × Value → H) :
    ReturnsInHanded {} Try.checked os 16 .any (Rows.rsInverseUndoesSpec.pre6 enc Try.prog Try.f16 Rows.rsInverseUndoesRow.domain false) (Rows.rsInverseUndoesSpec.post enc Try.prog Try.f16 false true false false) := by
  refine returnsInHanded_of_change_sized (C := Try.checked) own started (by kernel_rfl) Try.func16
    (ChangeSpec.witness6 (enc := enc) (C := Try.checked) false ⟨#[], #[.agg #[.int .i64 0, .int .i64 0, .slice none 0 0]], []⟩ 8 (by kernel_rfl) (by kernel_rfl) (by kernel_rfl) (by kernel_rfl)) ?_
  intro W base args ds gs before hval0 hW hcnd hsz _
  have hval : ∀ (j : Nat) t v, Try.f16.params[j]? = some t → args[j]? = some v → Value.okWide Try.prog W .any base t v := hval0
  have hW' := hW
  obtain ⟨p, q, hA0, hV, rfl, hfz, hnd⟩ := hW
  have hA : DataW.TrodAll enc Try.prog W 0 (fun _ => true) true Try.f16.params.toList args.toList ds p := hA0
  have hsz' : (DataW.weightsEach Try.prog (Try.f16.params.toList ++ Rows.rsInverseUndoesSpec.plain.varTypes Try.prog) (ds ++ gs)).all (· ≤ reachBytes) = true := hsz
  rw [Try.params16] at hA hval hsz'
  obtain ⟨v0, vs0, d0, ds0, p0, q0, hargs, rfl, rfl, h0, r0⟩ := trodAll_cons hA
  obtain ⟨rfl, rfl, rfl⟩ := trodAll_nil r0
  obtain rfl : args = #[v0] := by cases args; simp_all
  obtain ⟨x0, y0, g0, rows0, c0, e0, wx0, wy0, lc0, b0, a0, m0⟩ := open_matrix (fun _ => rfl) (hval 0 43 v0 rfl rfl) h0 hsz' (j := 0) rfl rfl
  subst e0
  let us : List U := [{ i := x0 }, { i := y0 }, { r := g0 }, { i := rows0.length }, { i := c0 }, { d := rows0 }, {}]
  refine law_call (c := lawInverseUndoesC) (ρ := fun n => us.getD n {}) lawInverseUndoes_ok rfl (by simp [lawInverseUndoesC, lawIs, lawRet]) laidOut (by rw [Try.params16]; intro t ht; simp only [List.mem_cons, List.not_mem_nil, or_false] at ht; subst ht; exact good43) rfl rfl Try.underlying4 (fun ds' h => ?_) hW' ?_ ?_ ?_ ?_
  · rw [Try.params16] at h
    match ds', h with
    | [_], _ => rfl
  · intro n
    match n with
    | 0 | 1 | 2 | 3 | 4 | 6 => simp [us, U.good, Value.oneCell']
    | 5 => exact bytes_good m0
    | n + 7 => simp [us, U.good, Value.oneCell']
  · simp [lawInverseUndoesC, lawIs, iv, mArgA, mArgB, mArg, SV.den, T.den, denVs, O0.den, O1.den, O3.den, us]
  · simp only [lawInverseUndoesC, lawIs, bHp, iHp, List.mem_cons, List.not_mem_nil, or_false]
    intro x hx
    subst hx
    exact m0
  · exact ⟨Int.natCast_nonneg _, b0, rfl, a0, Int.ofNat_le.2 lc0⟩
theorem inverseundoes_over : Rows.rsInverseUndoesRow.holds Try.pinned (OpenSpec.ofChange Rows.rsInverseUndoesSpec) :=
  OpenClaim.holds_of_wide 16 Try.f16 rfl rfl rfl rfl rfl rfl rfl ⟨rfl, rfl, rfl, rfl, rfl⟩ rfl rfl rfl rfl rfl (by kernel_rfl) Try.func16 (facts_of (by kernel_rfl) (by kernel_rfl) (by kernel_rfl) (by kernel_rfl) (by kernel_rfl) (by kernel_rfl) mayEnter_P (lifts_P.trans (by kernel_rfl)) (make_P.trans (by kernel_rfl)) (by kernel_rfl))
    (of_decide_eq_true (by kernel_rfl)) (by unfold Func.isWrapper; first | (rw [if_pos (by decide +kernel)]; kernel_rfl) | (rw [if_neg (by decide +kernel)]; exact ⟨rfl, rfl⟩))
    (fun os started H enc _ => inverseundoes_lifted os started H enc)
theorem inverseundoes_proved : Rows.RsInverseUndoesSaid := inverseundoes_over
#print axioms inverseundoes_proved
end Go.Proofs.Ytkiheclcmgbmnaa
