/- Merging tables is commutative, associative and idempotent, and the result has no entry older than theirs: for all three tables the call returns true. No condition. -/
import Derived.Test.YtlmkkphojjodhaaRows
import Derived.Test.YtlmkkphojjodhaaCO
import Derived.Test.YtlmkkphojjodhaaTM
set_option linter.unusedSimpArgs false
set_option linter.unusedVariables false
namespace Go.Proofs.Ytlmkkphojjodhaa
open Go Go.Eng Go.Proofs Go.ChangeShapes Go.WideShapes Go.ChangeAt Go.RowKit
set_option maxRecDepth 100000 in
theorem merges_lifted (os : Os) (started : os.Started) (H : Type) (enc : TypeId × Value → H) :
    ReturnsInHanded {} Try.checked os 9 .any (Rows.memberMergesSpec.pre6 enc Try.prog Try.f9 Rows.memberMergesRow.domain false) (Rows.memberMergesSpec.post enc Try.prog Try.f9 false true false false) := by
  refine returnsInHanded_of_change_sized (C := Try.checked) own started (by kernel_rfl) Try.func9
    (ChangeSpec.witness6 (enc := enc) (C := Try.checked) false ⟨#[], #[.slice none 0 0, .slice none 0 0, .slice none 0 0], []⟩ 8 (by kernel_rfl) (by kernel_rfl) (by kernel_rfl) (by kernel_rfl)) ?_
  intro W base args ds gs before hval0 hW hcnd hsz _
  have hval : ∀ (j : Nat) t v, Try.f9.params[j]? = some t → args[j]? = some v → Value.okWide Try.prog W .any base t v := hval0
  have hW' := hW
  obtain ⟨p, q, hA0, hV, rfl, hfz, hnd⟩ := hW
  have hA : DataW.TrodAll enc Try.prog W 0 (fun _ => true) true Try.f9.params.toList args.toList ds p := hA0
  have hsz' : (DataW.weightsEach Try.prog (Try.f9.params.toList ++ Rows.memberMergesSpec.plain.varTypes Try.prog) (ds ++ gs)).all (· ≤ reachBytes) = true := hsz
  rw [Try.params9] at hA hval hsz'
  obtain ⟨v0, vs0, d0, ds0, p0, q0, hargs, rfl, rfl, h0, r0⟩ := trodAll_cons hA
  obtain ⟨v1, vs1, d1, ds1, p1, q1, rfl, rfl, rfl, h1, r1⟩ := trodAll_cons r0
  obtain ⟨v2, vs2, d2, ds2, p2, q2, rfl, rfl, rfl, h2, r2⟩ := trodAll_cons r1
  obtain ⟨rfl, rfl, rfl⟩ := trodAll_nil r2
  obtain rfl : args = #[v0, v1, v2] := by cases args; simp_all
  obtain ⟨g0, rows0, c0, e0, b0, m0⟩ := open_table (hval 0 31 v0 rfl rfl) h0 hsz' (j := 0) rfl rfl
  obtain ⟨g1, rows1, c1, e1, b1, m1⟩ := open_table (hval 1 31 v1 rfl rfl) h1 hsz' (j := 1) rfl rfl
  obtain ⟨g2, rows2, c2, e2, b2, m2⟩ := open_table (hval 2 31 v2 rfl rfl) h2 hsz' (j := 2) rfl rfl
  subst e0 e1 e2
  let us : List U := [{ r := g0 }, { i := rows0.length }, { i := c0 }, { d := rows0 }, {}, { r := g1 }, { i := rows1.length }, { i := c1 }, { d := rows1 }, {}, { r := g2 }, { i := rows2.length }, { i := c2 }, { d := rows2 }, {}]
  refine law_call (c := lawMergesC) (ρ := fun n => us.getD n {}) lawMerges_ok rfl (by simp [lawMergesC, lawWaitsC]) laidOut (by rw [Try.params9]; intro t ht; simp at ht; subst ht; exact good31) rfl rfl Try.underlying4 (fun ds' h => ?_) hW' ?_ ?_ ?_ ?_
  · rw [Try.params9] at h
    match ds', h with
    | [_, _, _], _ => rfl
  · intro n
    match n with
    | 0 | 1 | 2 | 4 | 5 | 6 | 7 | 9 | 10 | 11 | 12 | 14 => simp [us, U.good, Value.oneCell']
    | 3 => exact rows_good m0
    | 8 => exact rows_good m1
    | 13 => exact rows_good m2
    | n + 15 => simp [us, U.good, Value.oneCell']
  · simp [lawMergesC, tArg, T.den, O0.den, O3.den, us]
  · simp only [lawMergesC, tRo, List.mem_cons, List.not_mem_nil, or_false]
    intro x hx
    rcases hx with rfl | rfl | rfl
    · exact m0
    · exact m1
    · exact m2
  · exact ⟨rfl, rfl, rfl, b0, b1, b2⟩
theorem merges_over : Rows.memberMergesRow.holds Try.pinned (OpenSpec.ofChange Rows.memberMergesSpec) :=
  OpenClaim.holds_of_wide 9 Try.f9 rfl rfl rfl rfl rfl rfl rfl ⟨rfl, rfl, rfl, rfl, rfl⟩ rfl rfl rfl rfl rfl (by kernel_rfl) Try.func9 (by kernel_rfl)
    (of_decide_eq_true (by kernel_rfl)) (by unfold Func.isWrapper; first | (rw [if_pos (by decide +kernel)]; kernel_rfl) | (rw [if_neg (by decide +kernel)]; exact ⟨rfl, rfl⟩))
    (fun os started H enc _ => merges_lifted os started H enc)
theorem merges_proved : Rows.MemberMergesSaid := merges_over
#print axioms merges_proved
end Go.Proofs.Ytlmkkphojjodhaa
