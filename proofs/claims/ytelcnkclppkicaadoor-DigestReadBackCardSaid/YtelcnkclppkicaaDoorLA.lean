/- Whatever calls of a Writer fit, the same calls of a Reader of what it contains return what was written, and nothing is left: the call returns true. No condition. -/
import Derived.Test.YtelcnkclppkicaaDoorRows
import Derived.Test.YtelcnkclppkicaaDoorTie
import Derived.Test.YtelcnkclppkicaaDoorCards
import Derived.Test.YtelcnkclppkicaaDoorLD
import Derived.Test.YtelcnkclppkicaaDoorLR
import Derived.Test.YtelcnkclppkicaaDoorG10
import Derived.Test.YtelcnkclppkicaaDoorG9
set_option linter.unusedSimpArgs false
set_option linter.unusedVariables false
namespace Go.Proofs.YtelcnkclppkicaaDoor
open Go Go.Eng Go.Proofs Go.ChangeShapes Go.WideShapes Go.ChangeAt Go.RowKit
set_option maxRecDepth 100000
theorem readback_lifted (os : Os) (started : os.Started) (H : Type) (enc : TypeId × Value → H) :
    ReturnsInHanded {} Tryd.checked os 17 .any (fun w args => (Rows.digestReadBackSpec.pre enc Tryd.prog Tryd.f17 Rows.digestReadBackRow.domain false w args ∧ laidMet Tryd.prog Rows.digestReadBackRow.laid w) ∧ sizedMet enc Tryd.prog Tryd.f17 (OpenSpec.ofChange Rows.digestReadBackSpec) false w args)
      (Rows.digestReadBackSpec.post enc Tryd.prog Tryd.f17 false true false false) := by
  refine returnsInHanded_of_change_and (C := Tryd.checked) (X := fun w _ => laidMet Tryd.prog Rows.digestReadBackRow.laid w) (fun _ _ _ hh h => h.of_heap hh) own started (by kernel_rfl) Tryd.func17
    (ChangeSpec.witness_at (enc := enc) (C := Tryd.checked) (os := os) (X := fun w _ => laidMet Tryd.prog Rows.digestReadBackRow.laid w) false (laidWorld os) #[.slice none 0 0] 8 rfl (by kernel_rfl) (by kernel_rfl) (by kernel_rfl) (by kernel_rfl) (by kernel_rfl) (laid_met os _)) ?_
  intro W base args ds gs before hval0 hW _ hsz hL _
  have hval : ∀ (j : Nat) t v, Tryd.f17.params[j]? = some t → args[j]? = some v → Value.okWide Tryd.prog W .any base t v := hval0
  obtain ⟨gc, gty, gfr, gh, gl⟩ := rounds_of_laid hL
  have hW' := hW
  obtain ⟨p, q, hA0, hV, rfl, hfz, hnd⟩ := hW
  have hA : DataW.TrodAll enc Tryd.prog W 0 (fun _ => true) true Tryd.f17.params.toList args.toList ds p := hA0
  have hsz' : (DataW.weightsEach Tryd.prog (Tryd.f17.params.toList ++ Rows.digestReadBackSpec.plain.varTypes Tryd.prog) (ds ++ gs)).all (· ≤ reachBytes) = true := hsz
  rw [Tryd.params17] at hA hval hsz'
  obtain ⟨v0, vs0, d0, ds0, p0, q0, hargs, rfl, rfl, h0, r0⟩ := trodAll_cons hA
  obtain ⟨rfl, rfl, rfl⟩ := trodAll_nil r0
  obtain rfl : args = #[v0] := by cases args; simp_all
  obtain ⟨g0, rows0, c0, e0, lc0, b0, a0, m0⟩ := open_ops (fun _ => rfl) (hval 0 68 v0 rfl rfl) h0 hsz' (j := 0) rfl rfl
  subst e0
  let us : List U := [{ r := g0 }, { i := rows0.length }, { i := c0 }, { d := rows0 }, {}, { h := fun b => W.heap[b]? }, { r := some ⟨1, 0, none⟩ }, { d := [roundK.map (Value.int .u32)] }]
  refine law_call (c := lawReadBackC) (ρ := fun n => us.getD n {}) (lawReadBack_ok known_ok) rfl (by simp [lawReadBackC, opsS, opsHp, lawTrue]) laidOut (by rw [Tryd.params17]; intro t ht; simp only [List.mem_cons, List.not_mem_nil, or_false] at ht; subst ht; exact goodOps) rfl rfl Tryd.underlying4 (fun ds' h => ?_) hW' ?_ ?_ ?_ ?_
  · rw [Tryd.params17] at h
    match ds', h with
    | [_], _ => rfl
  · intro n
    match n with
    | 0 | 1 | 2 | 4 | 5 | 6 => simp [us, U.good, Value.oneCell']
    | 3 => exact ops_good m0
    | 7 => exact rounds_good
    | n + 8 => simp [us, U.good, Value.oneCell']
  · simp [lawReadBackC, opsS, opsHp, bS, iv, SV.den, T.den, denVs, O0.den, O1.den, O3.den, us]
  · simp only [lawReadBackC, opsS, opsHp, bSHp, bHp, List.mem_append, List.mem_cons, List.not_mem_nil, or_false, or_assoc]
    intro x hx
    rcases hx with rfl | rfl | rfl
    · exact m0
    · exact (fun b o h => h)
    · exact rounds_at gh gl rfl rfl
  · exact ⟨⟨rfl, b0, a0⟩, rfl, rfl⟩
theorem readback_over : Rows.digestReadBackRow.holds Tryd.pinned (OpenSpec.ofChange Rows.digestReadBackSpec) :=
  OpenClaim.holds_of_wide 17 Tryd.f17 rfl rfl rfl rfl rfl rfl rfl ⟨rfl, rfl, rfl, rfl, rfl⟩ rfl rfl rfl rfl rfl (by kernel_rfl) Tryd.func17 (facts_of (by kernel_rfl) (by kernel_rfl) (by kernel_rfl) (by kernel_rfl) (by kernel_rfl) (by kernel_rfl) mayEnter_P (lifts_P.trans (by kernel_rfl)) (make_P.trans (by kernel_rfl)) (by kernel_rfl))
    (of_decide_eq_true (by kernel_rfl)) (by unfold Func.isWrapper; first | (rw [if_pos (by decide +kernel)]; kernel_rfl) | (rw [if_neg (by decide +kernel)]; exact ⟨rfl, rfl⟩))
    (fun os started H enc _ => readback_lifted os started H enc)
theorem readback_wf : Rows.digestReadBackRow.wfByText (OpenSpec.ofChange Rows.digestReadBackSpec) = true := by kernel_rfl
theorem readback_goes : false = Rows.digestReadBackRow.goesBy Tryd.pinned.checked.prog := by kernel_rfl
theorem readback_proved : Rows.DigestReadBackCardSaid :=
  Claim7.holds_tied_plain_at .later [] [.data] true (true, "8150288177cfe74915bae05b1ce9d1b4f650579f78b4109e5355018fd4f6f47e") false
    readback_over (fun _ h => by cases h) readback_wf (fun _ h => by cases h) digestReadBack_row_tie rfl ⟨rfl, rfl⟩ main_P rfl
    (fun f fn hf hfn => by
      obtain rfl : f = 17 := Option.some.inj ((show Tryd.prog.funcNamed "stolon/stolonlaw02.DigestReadBack" = some 17 by kernel_rfl).symm.trans hf) |>.symm
      obtain rfl : fn = Tryd.f17 := (Option.some.inj (Tryd.func17.symm.trans hfn)).symm
      exact ⟨looks_P, fun j t ht => by
        rw [Tryd.params17] at ht
        match j, ht with
        | 0, ht =>
          obtain rfl : 68 = t := by simpa using ht
          exact (show Tryd.prog.wantsStandIn 68 = false by kernel_rfl)
        | j + 1, ht => simp at ht⟩)
    readback_goes
#print axioms readback_proved
end Go.Proofs.YtelcnkclppkicaaDoor
