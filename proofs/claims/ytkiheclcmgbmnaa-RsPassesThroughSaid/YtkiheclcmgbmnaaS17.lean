/- The polynomial that Interpolate returns passes through all its points, and a polynomial is returned by interpolating its own values: the call returns true. No condition. -/
import Derived.Test.YtkiheclcmgbmnaaRows
import Derived.Test.YtkiheclcmgbmnaaYO
import Derived.Test.YtkiheclcmgbmnaaYQ
import Derived.Test.YtkiheclcmgbmnaaVK
set_option linter.unusedSimpArgs false
set_option linter.unusedVariables false
namespace Go.Proofs.Ytkiheclcmgbmnaa
open Go Go.Eng Go.Proofs Go.ChangeShapes Go.WideShapes Go.ChangeAt Go.RowKit
set_option maxRecDepth 100000 in
theorem passesthrough_lifted (os : Os) (started : os.Started) (H : Type) (enc : TypeId × Value → H) :
    ReturnsInHanded {} Try.checked os 21 .any (Rows.rsPassesThroughSpec.pre6 enc Try.prog Try.f21 Rows.rsPassesThroughRow.domain false) (Rows.rsPassesThroughSpec.post enc Try.prog Try.f21 false true false false) := by
  refine returnsInHanded_of_change_sized (C := Try.checked) own started (by kernel_rfl) Try.func21
    (ChangeSpec.witness6 (enc := enc) (C := Try.checked) false ⟨#[], #[.slice none 0 0, .int .u8 0], []⟩ 8 (by kernel_rfl) (by kernel_rfl) (by kernel_rfl) (by kernel_rfl)) ?_
  intro W base args ds gs before hval0 hW hcnd hsz _
  have hval : ∀ (j : Nat) t v, Try.f21.params[j]? = some t → args[j]? = some v → Value.okWide Try.prog W .any base t v := hval0
  have hW' := hW
  obtain ⟨p, q, hA0, hV, rfl, hfz, hnd⟩ := hW
  have hA : DataW.TrodAll enc Try.prog W 0 (fun _ => true) true Try.f21.params.toList args.toList ds p := hA0
  have hsz' : (DataW.weightsEach Try.prog (Try.f21.params.toList ++ Rows.rsPassesThroughSpec.plain.varTypes Try.prog) (ds ++ gs)).all (· ≤ reachBytes) = true := hsz
  rw [Try.params21] at hA hval hsz'
  obtain ⟨v0, vs0, d0, ds0, p0, q0, hargs, rfl, rfl, h0, r0⟩ := trodAll_cons hA
  obtain ⟨v1, vs1, d1, ds1, p1, q1, rfl, rfl, rfl, h1, r1⟩ := trodAll_cons r0
  obtain ⟨rfl, rfl, rfl⟩ := trodAll_nil r1
  obtain rfl : args = #[v0, v1] := by cases args; simp_all
  obtain ⟨g0, rows0, c0, e0, lc0, b0, a0, m0⟩ := open_bytes (fun _ => rfl) (hval 0 27 v0 rfl rfl) h0 hsz' (j := 0) rfl rfl
  subst e0
  obtain ⟨z1, rfl, _, _, w1⟩ := open_int Try.underlying5 (hval 1 5 v1 rfl rfl) h1
  have w1 := wf_u8 w1
  let us : List U := [{ r := g0 }, { i := rows0.length }, { i := c0 }, { d := rows0 }, {}, { i := z1 }]
  refine law_call (c := lawPassesC) (ρ := fun n => us.getD n {}) lawPasses_ok rfl (by simp [lawPassesC, lawIs, lawRet]) laidOut (by rw [Try.params21]; intro t ht; simp only [List.mem_cons, List.not_mem_nil, or_false] at ht; rcases ht with rfl | rfl; exact good27; exact good5) rfl rfl Try.underlying4 (fun ds' h => ?_) hW' ?_ ?_ ?_ ?_
  · rw [Try.params21] at h
    match ds', h with
    | [_, _], _ => rfl
  · intro n
    match n with
    | 0 | 1 | 2 | 4 | 5 => simp [us, U.good, Value.oneCell']
    | 3 => exact bytes_good m0
    | n + 6 => simp [us, U.good, Value.oneCell']
  · simp [lawPassesC, lawIs, iv, pSl, SV.den, T.den, denVs, O0.den, O1.den, O3.den, us]
  · simp only [lawPassesC, lawIs, bHp, List.mem_cons, List.not_mem_nil, or_false]
    intro x hx
    subst hx
    exact m0
  · exact ⟨Int.natCast_nonneg _, b0, rfl, a0, w1⟩
theorem passesthrough_over : Rows.rsPassesThroughRow.holds Try.pinned (OpenSpec.ofChange Rows.rsPassesThroughSpec) :=
  OpenClaim.holds_of_wide 21 Try.f21 rfl rfl rfl rfl rfl rfl rfl ⟨rfl, rfl, rfl, rfl, rfl⟩ rfl rfl rfl rfl rfl (by kernel_rfl) Try.func21 (facts_of (by kernel_rfl) (by kernel_rfl) (by kernel_rfl) (by kernel_rfl) (by kernel_rfl) (by kernel_rfl) mayEnter_P (lifts_P.trans (by kernel_rfl)) (make_P.trans (by kernel_rfl)) (by kernel_rfl))
    (of_decide_eq_true (by kernel_rfl)) (by unfold Func.isWrapper; first | (rw [if_pos (by decide +kernel)]; kernel_rfl) | (rw [if_neg (by decide +kernel)]; exact ⟨rfl, rfl⟩))
    (fun os started H enc _ => passesthrough_lifted os started H enc)
theorem passesthrough_proved : Rows.RsPassesThroughSaid := passesthrough_over
#print axioms passesthrough_proved
end Go.Proofs.Ytkiheclcmgbmnaa
