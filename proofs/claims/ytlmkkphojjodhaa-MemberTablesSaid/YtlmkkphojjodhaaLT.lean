/- Whether any tables are valid, their Merge or its error, and the live peers, are those of the document: for all two tables the call returns true. No condition. -/
import Derived.Test.YtlmkkphojjodhaaRows
import Derived.Test.YtlmkkphojjodhaaCO
import Derived.Test.YtlmkkphojjodhaaTP
set_option linter.unusedSimpArgs false
set_option linter.unusedVariables false
namespace Go.Proofs.Ytlmkkphojjodhaa
open Go Go.Eng Go.Proofs Go.ChangeShapes Go.WideShapes Go.ChangeAt Go.RowKit
set_option maxRecDepth 100000 in
theorem tables_lifted (os : Os) (started : os.Started) (H : Type) (enc : TypeId × Value → H) :
    ReturnsInHanded {} Try.checked os 8 .any (Rows.memberTablesSpec.pre6 enc Try.prog Try.f8 Rows.memberTablesRow.domain false) (Rows.memberTablesSpec.post enc Try.prog Try.f8 false true false false) := by
  refine returnsInHanded_of_change_sized (C := Try.checked) own started (by kernel_rfl) Try.func8
    (ChangeSpec.witness6 (enc := enc) (C := Try.checked) false ⟨#[], #[.slice none 0 0, .slice none 0 0], []⟩ 8 (by kernel_rfl) (by kernel_rfl) (by kernel_rfl) (by kernel_rfl)) ?_
  intro W base args ds gs before hval0 hW hcnd hsz _
  have hval : ∀ (j : Nat) t v, Try.f8.params[j]? = some t → args[j]? = some v → Value.okWide Try.prog W .any base t v := hval0
  have hW' := hW
  obtain ⟨p, q, hA0, hV, rfl, hfz, hnd⟩ := hW
  have hA : DataW.TrodAll enc Try.prog W 0 (fun _ => true) true Try.f8.params.toList args.toList ds p := hA0
  have hsz' : (DataW.weightsEach Try.prog (Try.f8.params.toList ++ Rows.memberTablesSpec.plain.varTypes Try.prog) (ds ++ gs)).all (· ≤ reachBytes) = true := hsz
  rw [Try.params8] at hA hval hsz'
  obtain ⟨v0, vs0, d0, ds0, p0, q0, hargs, rfl, rfl, h0, r0⟩ := trodAll_cons hA
  obtain ⟨v1, vs1, d1, ds1, p1, q1, rfl, rfl, rfl, h1, r1⟩ := trodAll_cons r0
  obtain ⟨rfl, rfl, rfl⟩ := trodAll_nil r1
  obtain rfl : args = #[v0, v1] := by cases args; simp_all
  obtain ⟨g0, rows0, c0, e0, b0, m0⟩ := open_table (hval 0 31 v0 rfl rfl) h0 hsz' (j := 0) rfl rfl
  obtain ⟨g1, rows1, c1, e1, b1, m1⟩ := open_table (hval 1 31 v1 rfl rfl) h1 hsz' (j := 1) rfl rfl
  subst e0 e1
  let us : List U := [{ r := g0 }, { i := rows0.length }, { i := c0 }, { d := rows0 }, {}, { r := g1 }, { i := rows1.length }, { i := c1 }, { d := rows1 }, {}]
  refine law_call (c := lawTablesC) (ρ := fun n => us.getD n {}) lawTables_ok rfl (by simp [lawTablesC, lawWaitsC]) laidOut (by rw [Try.params8]; intro t ht; simp at ht; subst ht; exact good31) rfl rfl Try.underlying4 (fun ds' h => ?_) hW' ?_ ?_ ?_ ?_
  · rw [Try.params8] at h
    match ds', h with
    | [_, _], _ => rfl
  · intro n
    match n with
    | 0 | 1 | 2 | 4 | 5 | 6 | 7 | 9 => simp [us, U.good, Value.oneCell']
    | 3 => exact rows_good m0
    | 8 => exact rows_good m1
    | n + 10 => simp [us, U.good, Value.oneCell']
  · simp [lawTablesC, tArg, T.den, O0.den, O3.den, us]
  · simp only [lawTablesC, tRo, List.mem_cons, List.not_mem_nil, or_false]
    intro x hx
    rcases hx with rfl | rfl
    · exact m0
    · exact m1
  · exact ⟨rfl, rfl, b0, b1⟩
theorem tables_over : Rows.memberTablesRow.holds Try.pinned (OpenSpec.ofChange Rows.memberTablesSpec) :=
  OpenClaim.holds_of_wide 8 Try.f8 rfl rfl rfl rfl rfl rfl rfl ⟨rfl, rfl, rfl, rfl, rfl⟩ rfl rfl rfl rfl rfl (by kernel_rfl) Try.func8 (by kernel_rfl)
    (of_decide_eq_true (by kernel_rfl)) (by unfold Func.isWrapper; first | (rw [if_pos (by decide +kernel)]; kernel_rfl) | (rw [if_neg (by decide +kernel)]; exact ⟨rfl, rfl⟩))
    (fun os started H enc _ => tables_lifted os started H enc)
theorem tables_proved : Rows.MemberTablesSaid := tables_over
#print axioms tables_proved
end Go.Proofs.Ytlmkkphojjodhaa
