/- No entry of a machine's table is ever replaced by an older one, and its own entry changes only by Reincarnate and Leave: the call returns true. No condition. -/
import Derived.Test.YtlmkkphojjodhaaRows
import Derived.Test.YtlmkkphojjodhaaCS
import Derived.Test.YtlmkkphojjodhaaUP
set_option linter.unusedSimpArgs false
set_option linter.unusedVariables false
namespace Go.Proofs.Ytlmkkphojjodhaa
open Go Go.Eng Go.Proofs Go.ChangeShapes Go.WideShapes Go.ChangeAt Go.RowKit
theorem good22 : Try.prog.readableRec 22 = true ∧ 22 < Try.prog.types.size := ⟨by kernel_rfl, of_decide_eq_true (by kernel_rfl)⟩
set_option maxRecDepth 100000 in
theorem grows_lifted (os : Os) (started : os.Started) (H : Type) (enc : TypeId × Value → H) :
    ReturnsInHanded {} Try.checked os 11 .any (Rows.memberGrowsSpec.pre6 enc Try.prog Try.f11 Rows.memberGrowsRow.domain false) (Rows.memberGrowsSpec.post enc Try.prog Try.f11 false true false false) := by
  refine returnsInHanded_of_change_sized (C := Try.checked) own started (by kernel_rfl) Try.func11
    (ChangeSpec.witness6 (enc := enc) (C := Try.checked) false ⟨#[], #[.int .i64 0, .int .i64 0, .slice none 0 0], []⟩ 8 (by kernel_rfl) (by kernel_rfl) (by kernel_rfl) (by kernel_rfl)) ?_
  intro W base args ds gs before hval0 hW hcnd hsz _
  have hval : ∀ (j : Nat) t v, Try.f11.params[j]? = some t → args[j]? = some v → Value.okWide Try.prog W .any base t v := hval0
  have hW' := hW
  obtain ⟨p, q, hA0, hV, rfl, hfz, hnd⟩ := hW
  have hA : DataW.TrodAll enc Try.prog W 0 (fun _ => true) true Try.f11.params.toList args.toList ds p := hA0
  have hsz' : (DataW.weightsEach Try.prog (Try.f11.params.toList ++ Rows.memberGrowsSpec.plain.varTypes Try.prog) (ds ++ gs)).all (· ≤ reachBytes) = true := hsz
  rw [Try.params11] at hA hval hsz'
  obtain ⟨v0, vs0, d0, ds0, p0, q0, hargs, rfl, rfl, h0, r0⟩ := trodAll_cons hA
  obtain ⟨v1, vs1, d1, ds1, p1, q1, rfl, rfl, rfl, h1, r1⟩ := trodAll_cons r0
  obtain ⟨v2, vs2, d2, ds2, p2, q2, rfl, rfl, rfl, h2, r2⟩ := trodAll_cons r1
  obtain ⟨rfl, rfl, rfl⟩ := trodAll_nil r2
  obtain rfl : args = #[v0, v1, v2] := by cases args; simp_all
  obtain ⟨z0, rfl, _, _, _⟩ := open_int Try.underlying3 (hval 0 3 v0 rfl rfl) h0
  obtain ⟨z1, rfl, _, _, _⟩ := open_int Try.underlying3 (hval 1 3 v1 rfl rfl) h1
  obtain ⟨g2, rows2, c2, e2, b2, o2, m2⟩ := open_script (fun _ => rfl) (hval 2 84 v2 rfl rfl) h2 hsz' (j := 2) rfl rfl
  subst e2
  let us : List U := [{ i := z0 }, { i := z1 }, { r := g2 }, { i := rows2.length }, { i := c2 }, { d := rows2 }, { h := fun b => W.heap[b]? }]
  refine law_call (c := lawGrowsC) (ρ := fun n => us.getD n {}) lawGrows_ok rfl (by simp [lawGrowsC, lawWaitsC]) laidOut (by rw [Try.params11]; intro t ht; simp at ht; rcases ht with rfl | rfl; exact good3; exact good84) rfl rfl Try.underlying4 (fun ds' h => ?_) hW' ?_ ?_ ?_ ?_
  · rw [Try.params11] at h
    match ds', h with
    | [_, _, _], _ => rfl
  · intro n
    match n with
    | 0 | 1 | 2 | 3 | 4 | 6 => simp [us, U.good, Value.oneCell']
    | 5 => exact ops_good m2
    | n + 7 => simp [us, U.good, Value.oneCell']
  · simp [lawGrowsC, sArg, iv, T.den, O0.den, O1.den, O3.den, us]
  · simp only [lawGrowsC, sRo, List.mem_cons, List.not_mem_nil, or_false]
    intro x hx
    rcases hx with rfl | rfl
    · exact m2
    · exact fun b o h => h
  · exact ⟨rfl, b2, o2⟩
theorem grows_over : Rows.memberGrowsRow.holds Try.pinned (OpenSpec.ofChange Rows.memberGrowsSpec) :=
  OpenClaim.holds_of_wide 11 Try.f11 rfl rfl rfl rfl rfl rfl rfl ⟨rfl, rfl, rfl, rfl, rfl⟩ rfl rfl rfl rfl rfl (by kernel_rfl) Try.func11 (by kernel_rfl)
    (of_decide_eq_true (by kernel_rfl)) (by unfold Func.isWrapper; first | (rw [if_pos (by decide +kernel)]; kernel_rfl) | (rw [if_neg (by decide +kernel)]; exact ⟨rfl, rfl⟩))
    (fun os started H enc _ => grows_lifted os started H enc)
theorem grows_proved : Rows.MemberGrowsSaid := grows_over
#print axioms grows_proved
end Go.Proofs.Ytlmkkphojjodhaa
