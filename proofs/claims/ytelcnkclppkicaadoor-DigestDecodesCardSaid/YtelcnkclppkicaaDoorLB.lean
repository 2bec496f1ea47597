/- What any bytes mean as a manifest, and the error, are those of the document: the call returns true. No condition. -/
import Derived.Test.YtelcnkclppkicaaDoorRows
import Derived.Test.YtelcnkclppkicaaDoorTie
import Derived.Test.YtelcnkclppkicaaDoorCards
import Derived.Test.YtelcnkclppkicaaDoorL0
import Derived.Test.YtelcnkclppkicaaDoorLR
import Derived.Test.YtelcnkclppkicaaDoorG10
import Derived.Test.YtelcnkclppkicaaDoorG9
set_option linter.unusedSimpArgs false
set_option linter.unusedVariables false
namespace Go.Proofs.YtelcnkclppkicaaDoor
open Go Go.Eng Go.Proofs Go.ChangeShapes Go.WideShapes Go.ChangeAt Go.RowKit
set_option maxRecDepth 100000
theorem decodes_lifted (os : Os) (started : os.Started) (H : Type) (enc : TypeId × Value → H) :
    ReturnsInHanded {} Tryd.checked os 15 .any (fun w args => (Rows.digestDecodesSpec.pre enc Tryd.prog Tryd.f15 Rows.digestDecodesRow.domain false w args ∧ laidMet Tryd.prog Rows.digestDecodesRow.laid w) ∧ sizedMet enc Tryd.prog Tryd.f15 (OpenSpec.ofChange Rows.digestDecodesSpec) false w args)
      (Rows.digestDecodesSpec.post enc Tryd.prog Tryd.f15 false true false false) := by
  refine returnsInHanded_of_change_and (C := Tryd.checked) (X := fun w _ => laidMet Tryd.prog Rows.digestDecodesRow.laid w) (fun _ _ _ hh h => h.of_heap hh) own started (by kernel_rfl) Tryd.func15
    (ChangeSpec.witness_at (enc := enc) (C := Tryd.checked) (os := os) (X := fun w _ => laidMet Tryd.prog Rows.digestDecodesRow.laid w) false (laidWorld os) #[.slice none 0 0] 8 rfl (by kernel_rfl) (by kernel_rfl) (by kernel_rfl) (by kernel_rfl) (by kernel_rfl) (laid_met os _)) ?_
  intro W base args ds gs before hval0 hW _ hsz hL _
  have hval : ∀ (j : Nat) t v, Tryd.f15.params[j]? = some t → args[j]? = some v → Value.okWide Tryd.prog W .any base t v := hval0
  obtain ⟨gc, gty, gfr, gh, gl⟩ := rounds_of_laid hL
  have hW' := hW
  obtain ⟨p, q, hA0, hV, rfl, hfz, hnd⟩ := hW
  have hA : DataW.TrodAll enc Tryd.prog W 0 (fun _ => true) true Tryd.f15.params.toList args.toList ds p := hA0
  have hsz' : (DataW.weightsEach Tryd.prog (Tryd.f15.params.toList ++ Rows.digestDecodesSpec.plain.varTypes Tryd.prog) (ds ++ gs)).all (· ≤ reachBytes) = true := hsz
  rw [Tryd.params15] at hA hval hsz'
  obtain ⟨v0, vs0, d0, ds0, p0, q0, hargs, rfl, rfl, h0, r0⟩ := trodAll_cons hA
  obtain ⟨rfl, rfl, rfl⟩ := trodAll_nil r0
  obtain rfl : args = #[v0] := by cases args; simp_all
  obtain ⟨g0, rows0, c0, e0, lc0, b0, a0, m0⟩ := open_bytes (fun _ => rfl) (hval 0 22 v0 rfl rfl) h0 hsz' (j := 0) rfl rfl
  subst e0
  let us : List U := [{ r := g0 }, { i := rows0.length }, { i := c0 }, { d := rows0 }, {}, { r := some ⟨1, 0, none⟩ }, { d := [roundK.map (Value.int .u32)] }]
  refine law_call (c := lawDecodesC) (ρ := fun n => us.getD n {}) (lawDecodes_ok known_ok) rfl (by simp [lawDecodesC, lawTrue]) laidOut (by rw [Tryd.params15]; intro t ht; simp only [List.mem_cons, List.not_mem_nil, or_false] at ht; subst ht; exact good22) rfl rfl Tryd.underlying4 (fun ds' h => ?_) hW' ?_ ?_ ?_ ?_
  · rw [Tryd.params15] at h
    match ds', h with
    | [_], _ => rfl
  · intro n
    match n with
    | 0 | 1 | 2 | 4 | 5 => simp [us, U.good, Value.oneCell']
    | 3 => exact bytes_good m0
    | 6 => exact rounds_good
    | n + 7 => simp [us, U.good, Value.oneCell']
  · simp [lawDecodesC, bS, iv, SV.den, T.den, denVs, O0.den, O1.den, O3.den, us]
  · simp only [lawDecodesC, bSHp, bHp, List.mem_append, List.mem_cons, List.not_mem_nil, or_false, or_assoc]
    intro x hx
    rcases hx with rfl | rfl
    · exact m0
    · exact rounds_at gh gl rfl rfl
  · exact ⟨⟨rfl, b0, a0⟩, rfl, rfl⟩
theorem decodes_over : Rows.digestDecodesRow.holds Tryd.pinned (OpenSpec.ofChange Rows.digestDecodesSpec) :=
  OpenClaim.holds_of_wide 15 Tryd.f15 rfl rfl rfl rfl rfl rfl rfl ⟨rfl, rfl, rfl, rfl, rfl⟩ rfl rfl rfl rfl rfl (by kernel_rfl) Tryd.func15 (facts_of (by kernel_rfl) (by kernel_rfl) (by kernel_rfl) (by kernel_rfl) (by kernel_rfl) (by kernel_rfl) mayEnter_P (lifts_P.trans (by kernel_rfl)) (make_P.trans (by kernel_rfl)) (by kernel_rfl))
    (of_decide_eq_true (by kernel_rfl)) (by unfold Func.isWrapper; first | (rw [if_pos (by decide +kernel)]; kernel_rfl) | (rw [if_neg (by decide +kernel)]; exact ⟨rfl, rfl⟩))
    (fun os started H enc _ => decodes_lifted os started H enc)
theorem decodes_wf : Rows.digestDecodesRow.wfByText (OpenSpec.ofChange Rows.digestDecodesSpec) = true := by kernel_rfl
theorem decodes_goes : false = Rows.digestDecodesRow.goesBy Tryd.pinned.checked.prog := by kernel_rfl
theorem decodes_proved : Rows.DigestDecodesCardSaid :=
  Claim7.holds_tied_plain_at .later [] [.data] true (true, "8150288177cfe74915bae05b1ce9d1b4f650579f78b4109e5355018fd4f6f47e") false
    decodes_over (fun _ h => by cases h) decodes_wf (fun _ h => by cases h) digestDecodes_row_tie rfl ⟨rfl, rfl⟩ main_P rfl
    (fun f fn hf hfn => by
      obtain rfl : f = 15 := Option.some.inj ((show Tryd.prog.funcNamed "stolon/stolonlaw02.DigestDecodes" = some 15 by kernel_rfl).symm.trans hf) |>.symm
      obtain rfl : fn = Tryd.f15 := (Option.some.inj (Tryd.func15.symm.trans hfn)).symm
      exact ⟨looks_P, fun j t ht => by
        rw [Tryd.params15] at ht
        match j, ht with
        | 0, ht =>
          obtain rfl : 22 = t := by simpa using ht
          exact (show Tryd.prog.wantsStandIn 22 = false by kernel_rfl)
        | j + 1, ht => simp at ht⟩)
    decodes_goes
#print axioms decodes_proved
end Go.Proofs.YtelcnkclppkicaaDoor
