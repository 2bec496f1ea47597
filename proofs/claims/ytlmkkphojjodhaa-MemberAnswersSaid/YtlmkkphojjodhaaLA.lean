/- Every Ping with a valid table is answered by exactly one Ack: the call returns true. No condition. -/
import Derived.Test.YtlmkkphojjodhaaRows
import Derived.Test.YtlmkkphojjodhaaCM
import Derived.Test.YtlmkkphojjodhaaOP
set_option linter.unusedSimpArgs false
set_option linter.unusedVariables false
namespace Go.Proofs.Ytlmkkphojjodhaa
open Go Go.Eng Go.Proofs Go.ChangeShapes Go.WideShapes Go.ChangeAt Go.RowKit
/-- Variables from a list of cells. -/
theorem cellsFrom_den {ρ : Env} {rest : List Value} : ∀ {b : Nat}, (∀ i v, rest[i]? = some v → (ρ (b + i)).v = v) → denVs ρ (cellsFrom b rest.length) = rest := by
  intro b h
  apply List.ext_getElem?
  intro i
  simp only [denVs, cellsFrom, List.map_map, List.getElem?_map]
  by_cases hi : i < rest.length
  · rw [List.getElem?_range hi, List.getElem?_eq_getElem hi]
    simp only [Option.map_some, Function.comp_apply, T.den]
    rw [h i _ (List.getElem?_eq_getElem hi)]
  · rw [List.getElem?_eq_none (by simpa using hi), List.getElem?_eq_none (by omega)]; rfl
set_option maxRecDepth 100000 in
theorem answers_lifted (os : Os) (started : os.Started) (H : Type) (enc : TypeId × Value → H) :
    ReturnsInHanded {} Try.checked os 4 .any (Rows.memberAnswersSpec.pre6 enc Try.prog Try.f4 Rows.memberAnswersRow.domain false) (Rows.memberAnswersSpec.post enc Try.prog Try.f4 false true false false) := by
  refine returnsInHanded_of_change_sized (C := Try.checked) own started (by kernel_rfl) Try.func4
    (ChangeSpec.witness6 (enc := enc) (C := Try.checked) false ⟨#[], #[.int .i64 0, .int .i64 0, .agg (row0 ⟨0, 0, 0, 0, 0, 0⟩).toArray], []⟩ 8 (by kernel_rfl) (by kernel_rfl) (by kernel_rfl) (by kernel_rfl)) ?_
  intro W base args ds gs before hval0 hW hcnd hsz _
  have hval : ∀ (j : Nat) t v, Try.f4.params[j]? = some t → args[j]? = some v → Value.okWide Try.prog W .any base t v := hval0
  have hW' := hW
  obtain ⟨p, q, hA0, hV, rfl, hfz, hnd⟩ := hW
  have hA : DataW.TrodAll enc Try.prog W 0 (fun _ => true) true Try.f4.params.toList args.toList ds p := hA0
  have hsz' : (DataW.weightsEach Try.prog (Try.f4.params.toList ++ Rows.memberAnswersSpec.plain.varTypes Try.prog) (ds ++ gs)).all (· ≤ reachBytes) = true := hsz
  rw [Try.params4] at hA hval hsz'
  obtain ⟨v0, vs0, d0, ds0, p0, q0, hargs, rfl, rfl, h0, r0⟩ := trodAll_cons hA
  obtain ⟨v1, vs1, d1, ds1, p1, q1, rfl, rfl, rfl, h1, r1⟩ := trodAll_cons r0
  obtain ⟨v2, vs2, d2, ds2, p2, q2, rfl, rfl, rfl, h2, r2⟩ := trodAll_cons r1
  obtain ⟨rfl, rfl, rfl⟩ := trodAll_nil r2
  obtain rfl : args = #[v0, v1, v2] := by cases args; simp_all
  obtain ⟨z0, rfl, _, _, _⟩ := open_int Try.underlying3 (hval 0 3 v0 rfl rfl) h0
  obtain ⟨z1, rfl, _, _, _⟩ := open_int Try.underlying3 (hval 1 3 v1 rfl rfl) h1
  obtain ⟨k, f, t, s, o, g, r, rows, cap, rest, e2, hrl, hrest, b2, m2⟩ := open_message (hval 2 43 v2 rfl rfl) h2 hsz' (j := 2) rfl rfl
  subst e2
  let us : List U := ([{ i := z0 }, { i := z1 }, { i := k }, { i := f }, { i := t }, { i := s }, { i := o }, { i := g }, { r := r }, { i := rows.length }, { i := cap }, { d := rows }, {}] : List U) ++ rest.map fun v => ({ v := v } : U)
  have hus : ∀ i v, rest[i]? = some v → us.getD (13 + i) {} = ({ v := v } : U) := fun i v hi => by
    simp only [us, List.getD_eq_getElem?_getD]
    rw [List.getElem?_append_right (by simp)]
    simp [hi]
  refine law_call (c := lawAnswersC) (ρ := fun n => us.getD n {}) lawAnswers_ok rfl (by simp [lawAnswersC, lawWaitsC]) laidOut (by rw [Try.params4]; intro t ht; simp at ht; rcases ht with rfl | rfl; exact good3; exact good43) rfl rfl Try.underlying4 (fun ds' h => ?_) hW' ?_ ?_ ?_ ?_
  · rw [Try.params4] at h
    match ds', h with
    | [_, _, _], _ => rfl
  · intro n
    match n with
    | 0 | 1 | 2 | 3 | 4 | 5 | 6 | 7 | 8 | 9 | 10 | 12 => simp [us, U.good, Value.oneCell']
    | 11 => exact rows_good m2
    | n + 13 =>
      show U.good (us.getD (n + 13) {})
      rw [show n + 13 = 13 + n by omega]
      cases hi : rest[n]? with
      | some v => rw [hus n v hi]; exact ⟨hrest v (List.mem_of_getElem? hi), by simp⟩
      | none =>
        rw [List.getD_eq_getElem?_getD, List.getElem?_eq_none]
        · simp [U.good, Value.oneCell']
        · have := List.getElem?_eq_none_iff.1 hi
          simp [us]; omega
  · have hd := cellsFrom_den (ρ := fun n => us.getD n {}) (rest := rest) (b := 13) (fun i v hi => by show (us.getD (13 + i) {}).v = v; rw [hus i v hi])
    rw [hrl] at hd
    simp only [lawAnswersC, msgCellsV, List.map_cons, List.map_nil, SV.den, iv]
    have happ : ∀ a b : List T, denVs (fun n => us.getD n {}) (a ++ b) = denVs (fun n => us.getD n {}) a ++ denVs (fun n => us.getD n {}) b := fun a b => by simp [denVs]
    rw [happ, hd]
    rfl
  · simp only [lawAnswersC, List.mem_cons, List.not_mem_nil, or_false]
    intro x hx
    subst hx
    exact m2
  · exact ⟨rfl, b2⟩
theorem answers_over : Rows.memberAnswersRow.holds Try.pinned (OpenSpec.ofChange Rows.memberAnswersSpec) :=
  OpenClaim.holds_of_wide 4 Try.f4 rfl rfl rfl rfl rfl rfl rfl ⟨rfl, rfl, rfl, rfl, rfl⟩ rfl rfl rfl rfl rfl (by kernel_rfl) Try.func4 (by kernel_rfl)
    (of_decide_eq_true (by kernel_rfl)) (by unfold Func.isWrapper; first | (rw [if_pos (by decide +kernel)]; kernel_rfl) | (rw [if_neg (by decide +kernel)]; exact ⟨rfl, rfl⟩))
    (fun os started H enc _ => answers_lifted os started H enc)
theorem answers_proved : Rows.MemberAnswersSaid := answers_over
#print axioms answers_proved
end Go.Proofs.Ytlmkkphojjodhaa
