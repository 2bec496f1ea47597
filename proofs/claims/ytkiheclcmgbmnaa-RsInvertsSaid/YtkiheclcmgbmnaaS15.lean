/- The inverse and the rank of any matrix, or the errors, are those of the document: the call returns true. No condition. -/
import Derived.Test.YtkiheclcmgbmnaaRows
import Derived.Test.YtkiheclcmgbmnaaYP
import Derived.Test.YtkiheclcmgbmnaaYQ
import Derived.Test.YtkiheclcmgbmnaaVN
set_option linter.unusedSimpArgs false
set_option linter.unusedVariables false
namespace Go.Proofs.Ytkiheclcmgbmnaa
open Go Go.Eng Go.Proofs Go.ChangeShapes Go.WideShapes Go.ChangeAt Go.RowKit
set_option maxRecDepth 100000 in
theorem inverts_lifted (os : Os) (started : os.Started) (H : Type) (enc : TypeId × Value → H) :
    ReturnsInHanded {} Try.checked os 15 .any (Rows.rsInvertsSpec.pre6 enc Try.prog Try.f15 Rows.rsInvertsRow.domain false) (Rows.rsInvertsSpec.post enc Try.prog Try.f15 false true false false) := by
  refine returnsInHanded_of_change_sized (C := Try.checked) own started (by kernel_rfl) Try.func15
    (ChangeSpec.witness6 (enc := enc) (C := Try.checked) false ⟨#[], #[.agg #[.int .i64 0, .int .i64 0, .slice none 0 0]], []⟩ 8 (by kernel_rfl) (by kernel_rfl) (by kernel_rfl) (by kernel_rfl)) ?_
  intro W base args ds gs before hval0 hW hcnd hsz _
  have hval : ∀ (j : Nat) t v, Try.f15.params[j]? = some t → args[j]? = some v → Value.okWide Try.prog W .any base t v := hval0
  have hW' := hW
  obtain ⟨p, q, hA0, hV, rfl, hfz, hnd⟩ := hW
  have hA : DataW.TrodAll enc Try.prog W 0 (fun _ => true) true Try.f15.params.toList args.toList ds p := hA0
  have hsz' : (DataW.weightsEach Try.prog (Try.f15.params.toList ++ Rows.rsInvertsSpec.plain.varTypes Try.prog) (ds ++ gs)).all (· ≤ reachBytes) = true := hsz
  rw [Try.params15] at hA hval hsz'
  obtain ⟨v0, vs0, d0, ds0, p0, q0, hargs, rfl, rfl, h0, r0⟩ := trodAll_cons hA
  obtain ⟨rfl, rfl, rfl⟩ := trodAll_nil r0
  obtain rfl : args = #[v0] := by cases args; simp_all
  obtain ⟨x0, y0, g0, rows0, c0, e0, wx0, wy0, lc0, b0, a0, m0⟩ := open_matrix (fun _ => rfl) (hval 0 43 v0 rfl rfl) h0 hsz' (j := 0) rfl rfl
  subst e0
  let us : List U := [{ i := x0 }, { i := y0 }, { r := g0 }, { i := rows0.length }, { i := c0 }, { d := rows0 }, {}]
  refine law_call (c := lawInvertsC) (ρ := fun n => us.getD n {}) lawInverts_ok rfl (by simp [lawInvertsC, lawIs, lawRet]) laidOut (by rw [Try.params15]; intro t ht; simp only [List.mem_cons, List.not_mem_nil, or_false] at ht; subst ht; exact good43) rfl rfl Try.underlying4 (fun ds' h => ?_) hW' ?_ ?_ ?_ ?_
  · rw [Try.params15] at h
    match ds', h with
    | [_], _ => rfl
  · intro n
    match n with
    | 0 | 1 | 2 | 3 | 4 | 6 => simp [us, U.good, Value.oneCell']
    | 5 => exact bytes_good m0
    | n + 7 => simp [us, U.good, Value.oneCell']
  · simp [lawInvertsC, lawIs, iv, mArgA, mArgB, mArg, SV.den, T.den, denVs, O0.den, O1.den, O3.den, us]
  · simp only [lawInvertsC, lawIs, bHp, iHp, List.mem_cons, List.not_mem_nil, or_false]
    intro x hx
    subst hx
    exact m0
  · exact ⟨Int.natCast_nonneg _, b0, rfl, a0, Int.ofNat_le.2 lc0⟩
theorem inverts_over : Rows.rsInvertsRow.holds Try.pinned (OpenSpec.ofChange Rows.rsInvertsSpec) :=
  OpenClaim.holds_of_wide 15 Try.f15 rfl rfl rfl rfl rfl rfl rfl ⟨rfl, rfl, rfl, rfl, rfl⟩ rfl rfl rfl rfl rfl (by kernel_rfl) Try.func15 (facts_of (by kernel_rfl) (by kernel_rfl) (by kernel_rfl) (by kernel_rfl) (by kernel_rfl) (by kernel_rfl) mayEnter_P (lifts_P.trans (by kernel_rfl)) (make_P.trans (by kernel_rfl)) (by kernel_rfl))
    (of_decide_eq_true (by kernel_rfl)) (by unfold Func.isWrapper; first | (rw [if_pos (by decide +kernel)]; kernel_rfl) | (rw [if_neg (by decide +kernel)]; exact ⟨rfl, rfl⟩))
    (fun os started H enc _ => inverts_lifted os started H enc)
theorem inverts_proved : Rows.RsInvertsSaid := inverts_over
#print axioms inverts_proved
end Go.Proofs.Ytkiheclcmgbmnaa
