/- After Leave a machine says once to every live peer that it has left, and then does nothing; a peer that hears of it no longer counts it as live: the call returns true. No condition. -/
import Derived.Test.YtlmkkphojjodhaaRows
import Derived.Test.YtlmkkphojjodhaaCM
import Derived.Test.YtlmkkphojjodhaaSP
set_option linter.unusedSimpArgs false
set_option linter.unusedVariables false
namespace Go.Proofs.Ytlmkkphojjodhaa
open Go Go.Eng Go.Proofs Go.ChangeShapes Go.WideShapes Go.ChangeAt Go.RowKit
theorem good22 : Try.prog.readableRec 22 = true ∧ 22 < Try.prog.types.size := ⟨by kernel_rfl, of_decide_eq_true (by kernel_rfl)⟩
set_option maxRecDepth 100000 in
theorem leaves_lifted (os : Os) (started : os.Started) (H : Type) (enc : TypeId × Value → H) :
    ReturnsInHanded {} Try.checked os 12 .any (Rows.memberLeavesSpec.pre6 enc Try.prog Try.f12 Rows.memberLeavesRow.domain false) (Rows.memberLeavesSpec.post enc Try.prog Try.f12 false true false false) := by
  refine returnsInHanded_of_change_sized (C := Try.checked) own started (by kernel_rfl) Try.func12
    (ChangeSpec.witness6 (enc := enc) (C := Try.checked) false ⟨#[], #[.int .i64 0, .int .i64 0, .int .u64 0], []⟩ 8 (by kernel_rfl) (by kernel_rfl) (by kernel_rfl) (by kernel_rfl)) ?_
  intro W base args ds gs before hval0 hW hcnd hsz _
  have hval : ∀ (j : Nat) t v, Try.f12.params[j]? = some t → args[j]? = some v → Value.okWide Try.prog W .any base t v := hval0
  have hW' := hW
  obtain ⟨p, q, hA0, hV, rfl, hfz, hnd⟩ := hW
  have hA : DataW.TrodAll enc Try.prog W 0 (fun _ => true) true Try.f12.params.toList args.toList ds p := hA0
  have hsz' : (DataW.weightsEach Try.prog (Try.f12.params.toList ++ Rows.memberLeavesSpec.plain.varTypes Try.prog) (ds ++ gs)).all (· ≤ reachBytes) = true := hsz
  rw [Try.params12] at hA hval hsz'
  obtain ⟨v0, vs0, d0, ds0, p0, q0, hargs, rfl, rfl, h0, r0⟩ := trodAll_cons hA
  obtain ⟨v1, vs1, d1, ds1, p1, q1, rfl, rfl, rfl, h1, r1⟩ := trodAll_cons r0
  obtain ⟨v2, vs2, d2, ds2, p2, q2, rfl, rfl, rfl, h2, r2⟩ := trodAll_cons r1
  obtain ⟨rfl, rfl, rfl⟩ := trodAll_nil r2
  obtain rfl : args = #[v0, v1, v2] := by cases args; simp_all
  obtain ⟨z0, rfl, _, _, _⟩ := open_int Try.underlying3 (hval 0 3 v0 rfl rfl) h0
  obtain ⟨z1, rfl, _, _, _⟩ := open_int Try.underlying3 (hval 1 3 v1 rfl rfl) h1
  obtain ⟨z2, rfl, _, _, w2⟩ := open_int Try.underlying22 (hval 2 22 v2 rfl rfl) h2
  have w2 : 0 ≤ z2 ∧ z2 < 18446744073709551616 := by
    have u1 : IntKind.u64.min = 0 := rfl
    have u2 : IntKind.u64.max = 18446744073709551615 := rfl
    simp [Lit.wf, IntKind.wrap, IntKind.bits, IntKind.signed] at w2
    omega
  let us : List U := [{ i := z0 }, { i := z1 }, { i := z2 }]
  refine law_call (c := lawLeavesC) (ρ := fun n => us.getD n {}) lawLeaves_ok rfl (by simp [lawLeavesC, lawWaitsC]) laidOut (by rw [Try.params12]; intro t ht; simp at ht; rcases ht with rfl | rfl; exact good3; exact good22) rfl rfl Try.underlying4 (fun ds' h => ?_) hW' ?_ ?_ ?_ ?_
  · rw [Try.params12] at h
    match ds', h with
    | [_, _, _], _ => rfl
  · intro n
    match n with
    | 0 | 1 | 2 => simp [us, U.good, Value.oneCell']
    | n + 3 => simp [us, U.good, Value.oneCell']
  · simp [lawLeavesC, iv, T.den, O0.den, O1.den, O3.den, us]
  · simp [lawLeavesC]
  · exact ⟨w2.1, w2.2⟩
theorem leaves_over : Rows.memberLeavesRow.holds Try.pinned (OpenSpec.ofChange Rows.memberLeavesSpec) :=
  OpenClaim.holds_of_wide 12 Try.f12 rfl rfl rfl rfl rfl rfl rfl ⟨rfl, rfl, rfl, rfl, rfl⟩ rfl rfl rfl rfl rfl (by kernel_rfl) Try.func12 (by kernel_rfl)
    (of_decide_eq_true (by kernel_rfl)) (by unfold Func.isWrapper; first | (rw [if_pos (by decide +kernel)]; kernel_rfl) | (rw [if_neg (by decide +kernel)]; exact ⟨rfl, rfl⟩))
    (fun os started H enc _ => leaves_lifted os started H enc)
theorem leaves_proved : Rows.MemberLeavesSaid := leaves_over
#print axioms leaves_proved
end Go.Proofs.Ytlmkkphojjodhaa
