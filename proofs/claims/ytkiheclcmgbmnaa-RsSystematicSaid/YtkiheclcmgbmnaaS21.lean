/- The first pieces, one after another, are the object followed by zero bytes, fewer than k of them; all pieces have one length: the call returns true. No condition. -/
import Derived.Test.YtkiheclcmgbmnaaRows
import Derived.Test.YtkiheclcmgbmnaaG11
import Derived.Test.YtkiheclcmgbmnaaG12
set_option linter.unusedSimpArgs false
set_option linter.unusedVariables false
namespace Go.Proofs.Ytkiheclcmgbmnaa
open Go Go.Eng Go.Proofs Go.ChangeShapes Go.WideShapes Go.ChangeAt Go.RowKit
set_option maxRecDepth 100000 in
theorem systematic_lifted (os : Os) (started : os.Started) (H : Type) (enc : TypeId × Value → H) :
    ReturnsInHanded {} Try.checked os 5 .any (Rows.rsSystematicSpec.pre6 enc Try.prog Try.f5 Rows.rsSystematicRow.domain false) (Rows.rsSystematicSpec.post enc Try.prog Try.f5 false true false false) := by
  refine returnsInHanded_of_change_sized (C := Try.checked) own started (by kernel_rfl) Try.func5
    (ChangeSpec.witness6 (enc := enc) (C := Try.checked) false ⟨#[], #[.int .i64 0, .int .i64 0, .slice none 0 0], []⟩ 8 (by kernel_rfl) (by kernel_rfl) (by kernel_rfl) (by kernel_rfl)) ?_
  intro W base args ds gs before hval0 hW hcnd hsz _
  have hval : ∀ (j : Nat) t v, Try.f5.params[j]? = some t → args[j]? = some v → Value.okWide Try.prog W .any base t v := hval0
  have hW' := hW
  obtain ⟨p, q, hA0, hV, rfl, hfz, hnd⟩ := hW
  have hA : DataW.TrodAll enc Try.prog W 0 (fun _ => true) true Try.f5.params.toList args.toList ds p := hA0
  have hsz' : (DataW.weightsEach Try.prog (Try.f5.params.toList ++ Rows.rsSystematicSpec.plain.varTypes Try.prog) (ds ++ gs)).all (· ≤ reachBytes) = true := hsz
  rw [Try.params5] at hA hval hsz'
  obtain ⟨v0, vs0, d0, ds0, p0, q0, hargs, rfl, rfl, h0, r0⟩ := trodAll_cons hA
  obtain ⟨v1, vs1, d1, ds1, p1, q1, rfl, rfl, rfl, h1, r1⟩ := trodAll_cons r0
  obtain ⟨v2, vs2, d2, ds2, p2, q2, rfl, rfl, rfl, h2, r2⟩ := trodAll_cons r1
  obtain ⟨rfl, rfl, rfl⟩ := trodAll_nil r2
  obtain rfl : args = #[v0, v1, v2] := by cases args; simp_all
  obtain ⟨z0, rfl, _, _, w0⟩ := open_int Try.underlying3 (hval 0 3 v0 rfl rfl) h0
  have w0 := wf_i64 w0
  obtain ⟨z1, rfl, _, _, w1⟩ := open_int Try.underlying3 (hval 1 3 v1 rfl rfl) h1
  have w1 := wf_i64 w1
  obtain ⟨g2, rows2, c2, e2, lc2, b2, a2, m2⟩ := open_bytes (fun _ => rfl) (hval 2 27 v2 rfl rfl) h2 hsz' (j := 2) rfl rfl
  subst e2
  let us : List U := [{ i := z0 }, { i := z1 }, { r := g2 }, { i := rows2.length }, { i := c2 }, { d := rows2 }, {}]
  refine law_call (c := lawSystematicC) (ρ := fun n => us.getD n {}) lawSystematic_ok rfl (by simp [lawSystematicC, lawIs, lawRet]) laidOut (by rw [Try.params5]; intro t ht; simp only [List.mem_cons, List.not_mem_nil, or_false] at ht; rcases ht with rfl | rfl | rfl; exact good3; exact good3; exact good27) rfl rfl Try.underlying4 (fun ds' h => ?_) hW' ?_ ?_ ?_ ?_
  · rw [Try.params5] at h
    match ds', h with
    | [_, _, _], _ => rfl
  · intro n
    match n with
    | 0 | 1 | 2 | 3 | 4 | 6 => simp [us, U.good, Value.oneCell']
    | 5 => exact bytes_good m2
    | n + 7 => simp [us, U.good, Value.oneCell']
  · simp [lawSystematicC, lawIs, iv, dataS, SV.den, T.den, denVs, O0.den, O1.den, O3.den, us]
  · simp only [lawSystematicC, lawIs, bHp, List.mem_cons, List.not_mem_nil, or_false]
    intro x hx
    subst hx
    exact m2
  · exact ⟨Int.natCast_nonneg _, b2, rfl, a2, Int.ofNat_le.2 lc2⟩
theorem systematic_over : Rows.rsSystematicRow.holds Try.pinned (OpenSpec.ofChange Rows.rsSystematicSpec) :=
  OpenClaim.holds_of_wide 5 Try.f5 rfl rfl rfl rfl rfl rfl rfl ⟨rfl, rfl, rfl, rfl, rfl⟩ rfl rfl rfl rfl rfl (by kernel_rfl) Try.func5 (facts_of (by kernel_rfl) (by kernel_rfl) (by kernel_rfl) (by kernel_rfl) (by kernel_rfl) (by kernel_rfl) mayEnter_P (lifts_P.trans (by kernel_rfl)) (make_P.trans (by kernel_rfl)) (by kernel_rfl))
    (of_decide_eq_true (by kernel_rfl)) (by unfold Func.isWrapper; first | (rw [if_pos (by decide +kernel)]; kernel_rfl) | (rw [if_neg (by decide +kernel)]; exact ⟨rfl, rfl⟩))
    (fun os started H enc _ => systematic_lifted os started H enc)
theorem systematic_proved : Rows.RsSystematicSaid := systematic_over
#print axioms systematic_proved
end Go.Proofs.Ytkiheclcmgbmnaa
