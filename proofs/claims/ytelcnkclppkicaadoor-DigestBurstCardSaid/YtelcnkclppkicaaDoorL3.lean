/- A change of a message within four consecutive bytes changes its CRC-32C: the call returns true. No condition. -/
import Derived.Test.YtelcnkclppkicaaDoorRows
import Derived.Test.YtelcnkclppkicaaDoorTie
import Derived.Test.YtelcnkclppkicaaDoorCards
import Derived.Test.YtelcnkclppkicaaDoorLD
import Derived.Test.YtelcnkclppkicaaDoorLR
import Derived.Test.YtelcnkclppkicaaDoorG8
import Derived.Test.YtelcnkclppkicaaDoorG10
set_option linter.unusedSimpArgs false
set_option linter.unusedVariables false
namespace Go.Proofs.YtelcnkclppkicaaDoor
open Go Go.Eng Go.Proofs Go.ChangeShapes Go.WideShapes Go.ChangeAt Go.RowKit
set_option maxRecDepth 100000
theorem burst_lifted (os : Os) (started : os.Started) (H : Type) (enc : TypeId × Value → H) :
    ReturnsInHanded {} Tryd.checked os 5 .any (fun w args => (Rows.digestBurstSpec.pre enc Tryd.prog Tryd.f5 Rows.digestBurstRow.domain false w args ∧ laidMet Tryd.prog Rows.digestBurstRow.laid w) ∧ sizedMet enc Tryd.prog Tryd.f5 (OpenSpec.ofChange Rows.digestBurstSpec) false w args)
      (Rows.digestBurstSpec.post enc Tryd.prog Tryd.f5 false true false false) := by
  refine returnsInHanded_of_change_and (C := Tryd.checked) (X := fun w _ => laidMet Tryd.prog Rows.digestBurstRow.laid w) (fun _ _ _ hh h => h.of_heap hh) own started (by kernel_rfl) Tryd.func5
    (ChangeSpec.witness_at (enc := enc) (C := Tryd.checked) (os := os) (X := fun w _ => laidMet Tryd.prog Rows.digestBurstRow.laid w) false (laidWorld os) #[.slice none 0 0, .int .i64 0, .int .u32 0] 8 rfl (by kernel_rfl) (by kernel_rfl) (by kernel_rfl) (by kernel_rfl) (by kernel_rfl) (laid_met os _)) ?_
  intro W base args ds gs before hval0 hW _ hsz hL _
  have hval : ∀ (j : Nat) t v, Tryd.f5.params[j]? = some t → args[j]? = some v → Value.okWide Tryd.prog W .any base t v := hval0
  obtain ⟨gc, gty, gfr, gh, gl⟩ := rounds_of_laid hL
  have hW' := hW
  obtain ⟨p, q, hA0, hV, rfl, hfz, hnd⟩ := hW
  have hA : DataW.TrodAll enc Tryd.prog W 0 (fun _ => true) true Tryd.f5.params.toList args.toList ds p := hA0
  have hsz' : (DataW.weightsEach Tryd.prog (Tryd.f5.params.toList ++ Rows.digestBurstSpec.plain.varTypes Tryd.prog) (ds ++ gs)).all (· ≤ reachBytes) = true := hsz
  rw [Tryd.params5] at hA hval hsz'
  obtain ⟨v0, vs0, d0, ds0, p0, q0, hargs, rfl, rfl, h0, r0⟩ := trodAll_cons hA
  obtain ⟨v1, vs1, d1, ds1, p1, q1, rfl, rfl, rfl, h1, r1⟩ := trodAll_cons r0
  obtain ⟨v2, vs2, d2, ds2, p2, q2, rfl, rfl, rfl, h2, r2⟩ := trodAll_cons r1
  obtain ⟨rfl, rfl, rfl⟩ := trodAll_nil r2
  obtain rfl : args = #[v0, v1, v2] := by cases args; simp_all
  obtain ⟨g0, rows0, c0, e0, lc0, b0, a0, m0⟩ := open_bytes (fun _ => rfl) (hval 0 22 v0 rfl rfl) h0 hsz' (j := 0) rfl rfl
  subst e0
  obtain ⟨z1, rfl, _, _, w1⟩ := open_int Tryd.underlying3 (hval 1 3 v1 rfl rfl) h1
  have w1 := wf_i64 w1
  obtain ⟨z2, rfl, _, _, w2⟩ := open_int Tryd.underlying46 (hval 2 46 v2 rfl rfl) h2
  have w2 := wf_u32 w2
  let us : List U := [{ r := g0 }, { i := rows0.length }, { i := c0 }, { d := rows0 }, {}, { i := z1 }, { i := z2 }, { r := some ⟨1, 0, none⟩ }, { d := [roundK.map (Value.int .u32)] }]
  refine law_call (c := lawBurstC) (ρ := fun n => us.getD n {}) (lawBurst_ok known_ok) rfl (by simp [lawBurstC, lawTrue]) laidOut (by rw [Tryd.params5]; intro t ht; simp only [List.mem_cons, List.not_mem_nil, or_false] at ht; rcases ht with rfl | rfl | rfl; exact good22; exact good3; exact goodU32) rfl rfl Tryd.underlying4 (fun ds' h => ?_) hW' ?_ ?_ ?_ ?_
  · rw [Tryd.params5] at h
    match ds', h with
    | [_, _, _], _ => rfl
  · intro n
    match n with
    | 0 | 1 | 2 | 4 | 5 | 6 | 7 => simp [us, U.good, Value.oneCell']
    | 3 => exact bytes_good m0
    | 8 => exact rounds_good
    | n + 9 => simp [us, U.good, Value.oneCell']
  · simp [lawBurstC, bS, iv, SV.den, T.den, denVs, O0.den, O1.den, O3.den, us]
  · simp only [lawBurstC, bSHp, bHp, List.mem_append, List.mem_cons, List.not_mem_nil, or_false, or_assoc]
    intro x hx
    rcases hx with rfl | rfl
    · exact m0
    · exact rounds_at gh gl rfl rfl
  · exact ⟨⟨rfl, b0, a0⟩, w1, w2, rfl, rfl⟩
theorem burst_over : Rows.digestBurstRow.holds Tryd.pinned (OpenSpec.ofChange Rows.digestBurstSpec) :=
  OpenClaim.holds_of_wide 5 Tryd.f5 rfl rfl rfl rfl rfl rfl rfl ⟨rfl, rfl, rfl, rfl, rfl⟩ rfl rfl rfl rfl rfl (by kernel_rfl) Tryd.func5 (facts_of (by kernel_rfl) (by kernel_rfl) (by kernel_rfl) (by kernel_rfl) (by kernel_rfl) (by kernel_rfl) mayEnter_P (lifts_P.trans (by kernel_rfl)) (make_P.trans (by kernel_rfl)) (by kernel_rfl))
    (of_decide_eq_true (by kernel_rfl)) (by unfold Func.isWrapper; first | (rw [if_pos (by decide +kernel)]; kernel_rfl) | (rw [if_neg (by decide +kernel)]; exact ⟨rfl, rfl⟩))
    (fun os started H enc _ => burst_lifted os started H enc)
theorem burst_wf : Rows.digestBurstRow.wfByText (OpenSpec.ofChange Rows.digestBurstSpec) = true := by kernel_rfl
theorem burst_goes : false = Rows.digestBurstRow.goesBy Tryd.pinned.checked.prog := by kernel_rfl
theorem burst_proved : Rows.DigestBurstCardSaid :=
  Claim7.holds_tied_plain_at .later [] [.data] true (true, "8150288177cfe74915bae05b1ce9d1b4f650579f78b4109e5355018fd4f6f47e") false
    burst_over (fun _ h => by cases h) burst_wf (fun _ h => by cases h) digestBurst_row_tie rfl ⟨rfl, rfl⟩ main_P rfl
    (fun f fn hf hfn => by
      obtain rfl : f = 5 := Option.some.inj ((show Tryd.prog.funcNamed "stolon/stolonlaw02.DigestBurst" = some 5 by kernel_rfl).symm.trans hf) |>.symm
      obtain rfl : fn = Tryd.f5 := (Option.some.inj (Tryd.func5.symm.trans hfn)).symm
      exact ⟨looks_P, fun j t ht => by
        rw [Tryd.params5] at ht
        match j, ht with
        | 0, ht =>
          obtain rfl : 22 = t := by simpa using ht
          exact (show Tryd.prog.wantsStandIn 22 = false by kernel_rfl)
        | 1, ht =>
          obtain rfl : 3 = t := by simpa using ht
          exact (show Tryd.prog.wantsStandIn 3 = false by kernel_rfl)
        | 2, ht =>
          obtain rfl : 46 = t := by simpa using ht
          exact (show Tryd.prog.wantsStandIn 46 = false by kernel_rfl)
        | j + 3, ht => simp at ht⟩)
    burst_goes
#print axioms burst_proved
end Go.Proofs.YtelcnkclppkicaaDoor
