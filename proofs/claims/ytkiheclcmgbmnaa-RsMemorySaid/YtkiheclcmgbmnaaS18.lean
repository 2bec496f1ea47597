/- Results share no memory with one another or with later results: the call returns true. No condition. -/
import Derived.Test.YtkiheclcmgbmnaaRows
import Derived.Test.YtkiheclcmgbmnaaYO
import Derived.Test.YtkiheclcmgbmnaaYQ
import Derived.Test.YtkiheclcmgbmnaaVS
set_option linter.unusedSimpArgs false
set_option linter.unusedVariables false
namespace Go.Proofs.Ytkiheclcmgbmnaa
open Go Go.Eng Go.Proofs Go.ChangeShapes Go.WideShapes Go.ChangeAt Go.RowKit
set_option maxRecDepth 100000 in
theorem memory_lifted (os : Os) (started : os.Started) (H : Type) (enc : TypeId × Value → H) :
    ReturnsInHanded {} Try.checked os 8 .any (Rows.rsMemorySpec.pre6 enc Try.prog Try.f8 Rows.rsMemoryRow.domain false) (Rows.rsMemorySpec.post enc Try.prog Try.f8 false true false false) := by
  refine returnsInHanded_of_change_sized (C := Try.checked) own started (by kernel_rfl) Try.func8
    (ChangeSpec.witness6 (enc := enc) (C := Try.checked) false ⟨#[], #[.int .i64 0, .int .i64 0, .slice none 0 0], []⟩ 8 (by kernel_rfl) (by kernel_rfl) (by kernel_rfl) (by kernel_rfl)) ?_
  intro W base args ds gs before hval0 hW hcnd hsz _
  have hval : ∀ (j : Nat) t v, Try.f8.params[j]? = some t → args[j]? = some v → Value.okWide Try.prog W .any base t v := hval0
  have hW' := hW
  obtain ⟨p, q, hA0, hV, rfl, hfz, hnd⟩ := hW
  have hA : DataW.TrodAll enc Try.prog W 0 (fun _ => true) true Try.f8.params.toList args.toList ds p := hA0
  have hsz' : (DataW.weightsEach Try.prog (Try.f8.params.toList ++ Rows.rsMemorySpec.plain.varTypes Try.prog) (ds ++ gs)).all (· ≤ reachBytes) = true := hsz
  rw [Try.params8] at hA hval hsz'
  obtain ⟨v0, vs0, d0, ds0, p0, q0, hargs, rfl, rfl, h0, r0⟩ := trodAll_cons hA
  obtain ⟨v1, vs1, d1, ds1, p1, q1, rfl, rfl, rfl, h1, r1⟩ := trodAll_cons r0
  obtain ⟨v2, vs2, d2, ds2, p2, q2, rfl, rfl, rfl, h2, r2⟩ := trodAll_cons r1
  obtain ⟨rfl, rfl, rfl⟩ := trodAll_nil r2
  obtain rfl : args = #[v0, v1, v2] := by cases args; simp_all
  obtain ⟨z0, rfl, _, _, w0⟩ := open_int Try.underlying3 (hval 0 3 v0 rfl rfl) h0
  have w0 := wf_i64 w0
  obtain ⟨z1, rfl, _, _, w1⟩ := open_int Try.underlying3 (hval 1 3 v1 rfl rfl) h1
  have w1 := wf_i64 w1
  obtain ⟨g2, rows2, c2, e2, lc2, b2, a2, m2⟩ := open_bytes (fun _ => rfl) (hval 2 27 v2 rfl rfl) h2 hsz' (j := 2) rfl rfl
  subst e2
  let us : List U := [{ i := z0 }, { i := z1 }, { r := g2 }, { i := rows2.length }, { i := c2 }, { d := rows2 }, {}]
  refine law_call (c := lawMemoryC) (ρ := fun n => us.getD n {}) lawMemory_ok rfl (by simp [lawMemoryC, lawIs, lawRet]) laidOut (by rw [Try.params8]; intro t ht; simp only [List.mem_cons, List.not_mem_nil, or_false] at ht; rcases ht with rfl | rfl | rfl; exact good3; exact good3; exact good27) rfl rfl Try.underlying4 (fun ds' h => ?_) hW' ?_ ?_ ?_ ?_
  · rw [Try.params8] at h
    match ds', h with
    | [_, _, _], _ => rfl
  · intro n
    match n with
    | 0 | 1 | 2 | 3 | 4 | 6 => simp [us, U.good, Value.oneCell']
    | 5 => exact bytes_good m2
    | n + 7 => simp [us, U.good, Value.oneCell']
  · simp [lawMemoryC, lawIs, iv, dataS, SV.den, T.den, denVs, O0.den, O1.den, O3.den, us]
  · simp only [lawMemoryC, lawIs, bHp, List.mem_cons, List.not_mem_nil, or_false]
    intro x hx
    subst hx
    exact m2
  · exact ⟨Int.natCast_nonneg _, b2, rfl, a2, Int.ofNat_le.2 lc2⟩
theorem memory_over : Rows.rsMemoryRow.holds Try.pinned (OpenSpec.ofChange Rows.rsMemorySpec) :=
  OpenClaim.holds_of_wide 8 Try.f8 rfl rfl rfl rfl rfl rfl rfl ⟨rfl, rfl, rfl, rfl, rfl⟩ rfl rfl rfl rfl rfl (by kernel_rfl) Try.func8 (facts_of (by kernel_rfl) (by kernel_rfl) (by kernel_rfl) (by kernel_rfl) (by kernel_rfl) (by kernel_rfl) mayEnter_P (lifts_P.trans (by kernel_rfl)) (make_P.trans (by kernel_rfl)) (by kernel_rfl))
    (of_decide_eq_true (by kernel_rfl)) (by unfold Func.isWrapper; first | (rw [if_pos (by decide +kernel)]; kernel_rfl) | (rw [if_neg (by decide +kernel)]; exact ⟨rfl, rfl⟩))
    (fun os started H enc _ => memory_lifted os started H enc)
theorem memory_proved : Rows.RsMemorySaid := memory_over
#print axioms memory_proved
end Go.Proofs.Ytkiheclcmgbmnaa
