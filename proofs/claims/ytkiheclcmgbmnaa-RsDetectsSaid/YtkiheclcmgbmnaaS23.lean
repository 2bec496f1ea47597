/- More than k pieces of one encoding are consistent, and are not any more when a byte of one of them is changed: the call returns true. No condition. -/
import Derived.Test.YtkiheclcmgbmnaaRows
import Derived.Test.YtkiheclcmgbmnaaG11
import Derived.Test.YtkiheclcmgbmnaaG12
set_option linter.unusedSimpArgs false
set_option linter.unusedVariables false
namespace Go.Proofs.Ytkiheclcmgbmnaa
open Go Go.Eng Go.Proofs Go.ChangeShapes Go.WideShapes Go.ChangeAt Go.RowKit
set_option maxRecDepth 100000 in
theorem detects_lifted (os : Os) (started : os.Started) (H : Type) (enc : TypeId × Value → H) :
    ReturnsInHanded {} Try.checked os 22 .any (Rows.rsDetectsSpec.pre6 enc Try.prog Try.f22 Rows.rsDetectsRow.domain false) (Rows.rsDetectsSpec.post enc Try.prog Try.f22 false true false false) := by
  refine returnsInHanded_of_change_sized (C := Try.checked) own started (by kernel_rfl) Try.func22
    (ChangeSpec.witness6 (enc := enc) (C := Try.checked) false ⟨#[], #[.agg #[.int .i64 0, .int .i64 0, .int .i64 0, .int .i64 0, .slice none 0 0, .slice none 0 0, .slice none 0 0, .int .i64 0, .int .i64 0, .int .u8 0, .slice none 0 0]], []⟩ 8 (by kernel_rfl) (by kernel_rfl) (by kernel_rfl) (by kernel_rfl)) ?_
  intro W base args ds gs before hval0 hW hcnd hsz _
  have hval : ∀ (j : Nat) t v, Try.f22.params[j]? = some t → args[j]? = some v → Value.okWide Try.prog W .any base t v := hval0
  have hW' := hW
  obtain ⟨p, q, hA0, hV, rfl, hfz, hnd⟩ := hW
  have hA : DataW.TrodAll enc Try.prog W 0 (fun _ => true) true Try.f22.params.toList args.toList ds p := hA0
  have hsz' : (DataW.weightsEach Try.prog (Try.f22.params.toList ++ Rows.rsDetectsSpec.plain.varTypes Try.prog) (ds ++ gs)).all (· ≤ reachBytes) = true := hsz
  rw [Try.params22] at hA hval hsz'
  obtain ⟨v0, vs0, d0, ds0, p0, q0, hargs, rfl, rfl, h0, r0⟩ := trodAll_cons hA
  obtain ⟨rfl, rfl, rfl⟩ := trodAll_nil r0
  obtain rfl : args = #[v0] := by cases args; simp_all
  obtain ⟨xk, xt, xs, xx, xw, xa, xm, r1, r2, r3, r4, d1, d2, d3, d4, c1, c2, c3, c4, e0, ma, mb, mc, md, hcase, hcp⟩ := open_case (fun _ => rfl) (hval 0 39 v0 rfl rfl) h0 hsz' (j := 0) rfl rfl
  subst e0
  let us : List U := [{ i := xk }, { i := xt }, { i := xs }, { i := xx }, { r := r1 }, { i := d1.length }, { i := c1 }, { r := r2 }, { i := d2.length }, { i := c2 }, { r := r3 }, { i := d3.length }, { i := c3 }, { i := xw }, { i := xa }, { i := xm }, { r := r4 }, { i := d4.length }, { i := c4 }, { d := d1 }, {}, { d := d2 }, {}, { d := d3 }, {}, { d := d4 }, {}, { h := fun b => W.heap[b]? }]
  refine law_call (c := lawDetectsC) (ρ := fun n => us.getD n {}) lawDetects_ok rfl (by simp [lawDetectsC, lawIs, lawCase, lawRet]) laidOut (by rw [Try.params22]; intro t ht; simp only [List.mem_cons, List.not_mem_nil, or_false] at ht; subst ht; exact good39) rfl rfl Try.underlying4 (fun ds' h => ?_) hW' ?_ ?_ ?_ ?_
  · rw [Try.params22] at h
    match ds', h with
    | [_], _ => rfl
  · intro n
    match n with
    | 0 | 1 | 2 | 3 | 4 | 5 | 6 | 7 | 8 | 9 | 10 | 11 | 12 | 13 | 14 | 15 | 16 | 17 | 18 | 20 | 22 | 24 | 26 | 27 => simp [us, U.good, Value.oneCell']
    | 19 => exact bytes_good ma
    | 21 => exact bytes_good mb
    | 23 => exact ints_good mc
    | 25 => exact pieces_good md
    | n + 28 => simp [us, U.good, Value.oneCell']
  · simp [lawDetectsC, lawIs, iv, lawCase, caseArg, SV.den, T.den, denVs, O0.den, O1.den, O3.den, us]
  · simp only [lawDetectsC, lawIs, lawCase, caseRo, pcHp, bHp, iHp, List.mem_cons, List.not_mem_nil, or_false]
    intro x hx
    rcases hx with rfl | rfl | rfl | rfl | rfl
    · exact ma
    · exact mb
    · exact mc
    · exact md
    · exact (fun b o h => h)
  · exact hcase
theorem detects_over : Rows.rsDetectsRow.holds Try.pinned (OpenSpec.ofChange Rows.rsDetectsSpec) :=
  OpenClaim.holds_of_wide 22 Try.f22 rfl rfl rfl rfl rfl rfl rfl ⟨rfl, rfl, rfl, rfl, rfl⟩ rfl rfl rfl rfl rfl (by kernel_rfl) Try.func22 (facts_of (by kernel_rfl) (by kernel_rfl) (by kernel_rfl) (by kernel_rfl) (by kernel_rfl) (by kernel_rfl) mayEnter_P (lifts_P.trans (by kernel_rfl)) (make_P.trans (by kernel_rfl)) (by kernel_rfl))
    (of_decide_eq_true (by kernel_rfl)) (by unfold Func.isWrapper; first | (rw [if_pos (by decide +kernel)]; kernel_rfl) | (rw [if_neg (by decide +kernel)]; exact ⟨rfl, rfl⟩))
    (fun os started H enc _ => detects_lifted os started H enc)
theorem detects_proved : Rows.RsDetectsSaid := detects_over
#print axioms detects_proved
end Go.Proofs.Ytkiheclcmgbmnaa
