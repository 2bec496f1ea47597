/- Which matrices are valid, identities, Vandermonde and generator matrices, and the errors, are those of the document: the call returns true. No condition. -/
import Derived.Test.YtkiheclcmgbmnaaRows
import Derived.Test.YtkiheclcmgbmnaaYP
import Derived.Test.YtkiheclcmgbmnaaYQ
import Derived.Test.YtkiheclcmgbmnaaYL
set_option linter.unusedSimpArgs false
set_option linter.unusedVariables false
namespace Go.Proofs.Ytkiheclcmgbmnaa
open Go Go.Eng Go.Proofs Go.ChangeShapes Go.WideShapes Go.ChangeAt Go.RowKit
set_option maxRecDepth 100000 in
theorem shapes_lifted (os : Os) (started : os.Started) (H : Type) (enc : TypeId × Value → H) :
    ReturnsInHanded {} Try.checked os 11 .any (Rows.rsShapesSpec.pre6 enc Try.prog Try.f11 Rows.rsShapesRow.domain false) (Rows.rsShapesSpec.post enc Try.prog Try.f11 false true false false) := by
  refine returnsInHanded_of_change_sized (C := Try.checked) own started (by kernel_rfl) Try.func11
    (ChangeSpec.witness6 (enc := enc) (C := Try.checked) false ⟨#[], #[.agg #[.int .i64 0, .int .i64 0, .slice none 0 0], .int .i64 0, .int .i64 0], []⟩ 8 (by kernel_rfl) (by kernel_rfl) (by kernel_rfl) (by kernel_rfl)) ?_
  intro W base args ds gs before hval0 hW hcnd hsz _
  have hval : ∀ (j : Nat) t v, Try.f11.params[j]? = some t → args[j]? = some v → Value.okWide Try.prog W .any base t v := hval0
  have hW' := hW
  obtain ⟨p, q, hA0, hV, rfl, hfz, hnd⟩ := hW
  have hA : DataW.TrodAll enc Try.prog W 0 (fun _ => true) true Try.f11.params.toList args.toList ds p := hA0
  have hsz' : (DataW.weightsEach Try.prog (Try.f11.params.toList ++ Rows.rsShapesSpec.plain.varTypes Try.prog) (ds ++ gs)).all (· ≤ reachBytes) = true := hsz
  rw [Try.params11] at hA hval hsz'
  obtain ⟨v0, vs0, d0, ds0, p0, q0, hargs, rfl, rfl, h0, r0⟩ := trodAll_cons hA
  obtain ⟨v1, vs1, d1, ds1, p1, q1, rfl, rfl, rfl, h1, r1⟩ := trodAll_cons r0
  obtain ⟨v2, vs2, d2, ds2, p2, q2, rfl, rfl, rfl, h2, r2⟩ := trodAll_cons r1
  obtain ⟨rfl, rfl, rfl⟩ := trodAll_nil r2
  obtain rfl : args = #[v0, v1, v2] := by cases args; simp_all
  obtain ⟨x0, y0, g0, rows0, c0, e0, wx0, wy0, lc0, b0, a0, m0⟩ := open_matrix (fun _ => rfl) (hval 0 43 v0 rfl rfl) h0 hsz' (j := 0) rfl rfl
  subst e0
  obtain ⟨z1, rfl, _, _, w1⟩ := open_int Try.underlying3 (hval 1 3 v1 rfl rfl) h1
  have w1 := wf_i64 w1
  obtain ⟨z2, rfl, _, _, w2⟩ := open_int Try.underlying3 (hval 2 3 v2 rfl rfl) h2
  have w2 := wf_i64 w2
  let us : List U := [{ i := x0 }, { i := y0 }, { r := g0 }, { i := rows0.length }, { i := c0 }, { d := rows0 }, {}, { i := z1 }, { i := z2 }]
  refine law_call (c := lawShapesC) (ρ := fun n => us.getD n {}) lawShapes_ok rfl (by simp [lawShapesC, lawIs, lawRet]) laidOut (by rw [Try.params11]; intro t ht; simp only [List.mem_cons, List.not_mem_nil, or_false] at ht; rcases ht with rfl | rfl | rfl; exact good43; exact good3; exact good3) rfl rfl Try.underlying4 (fun ds' h => ?_) hW' ?_ ?_ ?_ ?_
  · rw [Try.params11] at h
    match ds', h with
    | [_, _, _], _ => rfl
  · intro n
    match n with
    | 0 | 1 | 2 | 3 | 4 | 6 | 7 | 8 => simp [us, U.good, Value.oneCell']
    | 5 => exact bytes_good m0
    | n + 9 => simp [us, U.good, Value.oneCell']
  · simp [lawShapesC, lawIs, iv, mArgA, mArgB, mArg, SV.den, T.den, denVs, O0.den, O1.den, O3.den, us]
  · simp only [lawShapesC, lawIs, bHp, iHp, List.mem_cons, List.not_mem_nil, or_false]
    intro x hx
    subst hx
    exact m0
  · exact ⟨Int.natCast_nonneg _, b0, rfl, a0, Int.ofNat_le.2 lc0⟩
theorem shapes_over : Rows.rsShapesRow.holds Try.pinned (OpenSpec.ofChange Rows.rsShapesSpec) :=
  OpenClaim.holds_of_wide 11 Try.f11 rfl rfl rfl rfl rfl rfl rfl ⟨rfl, rfl, rfl, rfl, rfl⟩ rfl rfl rfl rfl rfl (by kernel_rfl) Try.func11 (facts_of (by kernel_rfl) (by kernel_rfl) (by kernel_rfl) (by kernel_rfl) (by kernel_rfl) (by kernel_rfl) mayEnter_P (lifts_P.trans (by kernel_rfl)) (make_P.trans (by kernel_rfl)) (by kernel_rfl))
    (of_decide_eq_true (by kernel_rfl)) (by unfold Func.isWrapper; first | (rw [if_pos (by decide +kernel)]; kernel_rfl) | (rw [if_neg (by decide +kernel)]; exact ⟨rfl, rfl⟩))
    (fun os started H enc _ => shapes_lifted os started H enc)
theorem shapes_proved : Rows.RsShapesSaid := shapes_over
#print axioms shapes_proved
end Go.Proofs.Ytkiheclcmgbmnaa
