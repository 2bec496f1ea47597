/- The power of a sum of exponents is the product of the powers; every element but 0 is a power of 2: the call returns true. No condition. -/
import Derived.Test.YtkiheclcmgbmnaaRows
import Derived.Test.YtkiheclcmgbmnaaYO
import Derived.Test.YtkiheclcmgbmnaaYQ
import Derived.Test.YtkiheclcmgbmnaaYC
set_option linter.unusedSimpArgs false
set_option linter.unusedVariables false
namespace Go.Proofs.Ytkiheclcmgbmnaa
open Go Go.Eng Go.Proofs Go.ChangeShapes Go.WideShapes Go.ChangeAt Go.RowKit
set_option maxRecDepth 100000 in
theorem exponents_lifted (os : Os) (started : os.Started) (H : Type) (enc : TypeId × Value → H) :
    ReturnsInHanded {} Try.checked os 10 .any (Rows.rsExponentsSpec.pre6 enc Try.prog Try.f10 Rows.rsExponentsRow.domain false) (Rows.rsExponentsSpec.post enc Try.prog Try.f10 false true false false) := by
  refine returnsInHanded_of_change_sized (C := Try.checked) own started (by kernel_rfl) Try.func10
    (ChangeSpec.witness6 (enc := enc) (C := Try.checked) false ⟨#[], #[.int .u8 0, .int .u16 0, .int .u16 0], []⟩ 8 (by kernel_rfl) (by kernel_rfl) (by kernel_rfl) (by kernel_rfl)) ?_
  intro W base args ds gs before hval0 hW hcnd hsz _
  have hval : ∀ (j : Nat) t v, Try.f10.params[j]? = some t → args[j]? = some v → Value.okWide Try.prog W .any base t v := hval0
  have hW' := hW
  obtain ⟨p, q, hA0, hV, rfl, hfz, hnd⟩ := hW
  have hA : DataW.TrodAll enc Try.prog W 0 (fun _ => true) true Try.f10.params.toList args.toList ds p := hA0
  have hsz' : (DataW.weightsEach Try.prog (Try.f10.params.toList ++ Rows.rsExponentsSpec.plain.varTypes Try.prog) (ds ++ gs)).all (· ≤ reachBytes) = true := hsz
  rw [Try.params10] at hA hval hsz'
  obtain ⟨v0, vs0, d0, ds0, p0, q0, hargs, rfl, rfl, h0, r0⟩ := trodAll_cons hA
  obtain ⟨v1, vs1, d1, ds1, p1, q1, rfl, rfl, rfl, h1, r1⟩ := trodAll_cons r0
  obtain ⟨v2, vs2, d2, ds2, p2, q2, rfl, rfl, rfl, h2, r2⟩ := trodAll_cons r1
  obtain ⟨rfl, rfl, rfl⟩ := trodAll_nil r2
  obtain rfl : args = #[v0, v1, v2] := by cases args; simp_all
  obtain ⟨z0, rfl, _, _, w0⟩ := open_int Try.underlying5 (hval 0 5 v0 rfl rfl) h0
  have w0 := wf_u8 w0
  obtain ⟨z1, rfl, _, _, w1⟩ := open_int Try.underlying49 (hval 1 49 v1 rfl rfl) h1
  have w1 := wf_u16 w1
  obtain ⟨z2, rfl, _, _, w2⟩ := open_int Try.underlying49 (hval 2 49 v2 rfl rfl) h2
  have w2 := wf_u16 w2
  let us : List U := [{ i := z0 }, { i := z1 }, { i := z2 }]
  refine law_call (c := lawExponentsC) (ρ := fun n => us.getD n {}) lawExponents_ok rfl (by simp [lawExponentsC, lawIs, lawRet]) laidOut (by rw [Try.params10]; intro t ht; simp only [List.mem_cons, List.not_mem_nil, or_false] at ht; rcases ht with rfl | rfl | rfl; exact good5; exact good49; exact good49) rfl rfl Try.underlying4 (fun ds' h => ?_) hW' ?_ ?_ ?_ ?_
  · rw [Try.params10] at h
    match ds', h with
    | [_, _, _], _ => rfl
  · intro n
    match n with
    | 0 | 1 | 2 => simp [us, U.good, Value.oneCell']
    | n + 3 => simp [us, U.good, Value.oneCell']
  · simp [lawExponentsC, lawIs, iv, mArg, SV.den, T.den, denVs, O0.den, O1.den, O3.den, us]
  · simp [lawExponentsC, lawIs]
  · exact ⟨w0, w1.1, w1.2, w2⟩
theorem exponents_over : Rows.rsExponentsRow.holds Try.pinned (OpenSpec.ofChange Rows.rsExponentsSpec) :=
  OpenClaim.holds_of_wide 10 Try.f10 rfl rfl rfl rfl rfl rfl rfl ⟨rfl, rfl, rfl, rfl, rfl⟩ rfl rfl rfl rfl rfl (by kernel_rfl) Try.func10 (facts_of (by kernel_rfl) (by kernel_rfl) (by kernel_rfl) (by kernel_rfl) (by kernel_rfl) (by kernel_rfl) mayEnter_P (lifts_P.trans (by kernel_rfl)) (make_P.trans (by kernel_rfl)) (by kernel_rfl))
    (of_decide_eq_true (by kernel_rfl)) (by unfold Func.isWrapper; first | (rw [if_pos (by decide +kernel)]; kernel_rfl) | (rw [if_neg (by decide +kernel)]; exact ⟨rfl, rfl⟩))
    (fun os started H enc _ => exponents_lifted os started H enc)
theorem exponents_proved : Rows.RsExponentsSaid := exponents_over
#print axioms exponents_proved
end Go.Proofs.Ytkiheclcmgbmnaa
