/- After each of any calls, what a Writer contains, its length and its error are those of the document: the call returns true. No condition. -/
import Derived.Test.YtelcnkclppkicaaDoorRows
import Derived.Test.YtelcnkclppkicaaDoorTie
import Derived.Test.YtelcnkclppkicaaDoorCards
import Derived.Test.YtelcnkclppkicaaDoorLD
import Derived.Test.YtelcnkclppkicaaDoorLR
import Derived.Test.YtelcnkclppkicaaDoorG10
set_option linter.unusedSimpArgs false
set_option linter.unusedVariables false
namespace Go.Proofs.YtelcnkclppkicaaDoor
open Go Go.Eng Go.Proofs Go.ChangeShapes Go.WideShapes Go.ChangeAt Go.RowKit
set_option maxRecDepth 100000
theorem writes_lifted (os : Os) (started : os.Started) (H : Type) (enc : TypeId × Value → H) :
    ReturnsInHanded {} Tryd.checked os 11 .any (fun w args => (Rows.digestWritesSpec.pre enc Tryd.prog Tryd.f11 Rows.digestWritesRow.domain false w args ∧ laidMet Tryd.prog Rows.digestWritesRow.laid w) ∧ sizedMet enc Tryd.prog Tryd.f11 (OpenSpec.ofChange Rows.digestWritesSpec) false w args)
      (Rows.digestWritesSpec.post enc Tryd.prog Tryd.f11 false true false false) := by
  refine returnsInHanded_of_change_and (C := Tryd.checked) (X := fun w _ => laidMet Tryd.prog Rows.digestWritesRow.laid w) (fun _ _ _ hh h => h.of_heap hh) own started (by kernel_rfl) Tryd.func11
    (ChangeSpec.witness_at (enc := enc) (C := Tryd.checked) (os := os) (X := fun w _ => laidMet Tryd.prog Rows.digestWritesRow.laid w) false (laidWorld os) #[.int .i64 0, .slice none 0 0] 8 rfl (by kernel_rfl) (by kernel_rfl) (by kernel_rfl) (by kernel_rfl) (by kernel_rfl) (laid_met os _)) ?_
  intro W base args ds gs before hval0 hW _ hsz hL _
  have hval : ∀ (j : Nat) t v, Tryd.f11.params[j]? = some t → args[j]? = some v → Value.okWide Tryd.prog W .any base t v := hval0
  obtain ⟨gc, gty, gfr, gh, gl⟩ := rounds_of_laid hL
  have hW' := hW
  obtain ⟨p, q, hA0, hV, rfl, hfz, hnd⟩ := hW
  have hA : DataW.TrodAll enc Tryd.prog W 0 (fun _ => true) true Tryd.f11.params.toList args.toList ds p := hA0
  have hsz' : (DataW.weightsEach Tryd.prog (Tryd.f11.params.toList ++ Rows.digestWritesSpec.plain.varTypes Tryd.prog) (ds ++ gs)).all (· ≤ reachBytes) = true := hsz
  rw [Tryd.params11] at hA hval hsz'
  obtain ⟨v0, vs0, d0, ds0, p0, q0, hargs, rfl, rfl, h0, r0⟩ := trodAll_cons hA
  obtain ⟨v1, vs1, d1, ds1, p1, q1, rfl, rfl, rfl, h1, r1⟩ := trodAll_cons r0
  obtain ⟨rfl, rfl, rfl⟩ := trodAll_nil r1
  obtain rfl : args = #[v0, v1] := by cases args; simp_all
  obtain ⟨z0, rfl, _, _, w0⟩ := open_int Tryd.underlying3 (hval 0 3 v0 rfl rfl) h0
  have w0 := wf_i64 w0
  obtain ⟨g1, rows1, c1, e1, lc1, b1, a1, m1⟩ := open_ops (fun _ => rfl) (hval 1 68 v1 rfl rfl) h1 hsz' (j := 1) rfl rfl
  subst e1
  let us : List U := [{ i := z0 }, { r := g1 }, { i := rows1.length }, { i := c1 }, { d := rows1 }, {}, { h := fun b => W.heap[b]? }, { r := some ⟨1, 0, none⟩ }, { d := [roundK.map (Value.int .u32)] }]
  refine law_call (c := lawWritesC) (ρ := fun n => us.getD n {}) (lawWrites_ok known_ok) rfl (by simp [lawWritesC, opsS, opsHp, lawTrue]) laidOut (by rw [Tryd.params11]; intro t ht; simp only [List.mem_cons, List.not_mem_nil, or_false] at ht; rcases ht with rfl | rfl; exact good3; exact goodOps) rfl rfl Tryd.underlying4 (fun ds' h => ?_) hW' ?_ ?_ ?_ ?_
  · rw [Tryd.params11] at h
    match ds', h with
    | [_, _], _ => rfl
  · intro n
    match n with
    | 0 | 1 | 2 | 3 | 5 | 6 | 7 => simp [us, U.good, Value.oneCell']
    | 4 => exact ops_good m1
    | 8 => exact rounds_good
    | n + 9 => simp [us, U.good, Value.oneCell']
  · simp [lawWritesC, opsS, opsHp, bS, iv, SV.den, T.den, denVs, O0.den, O1.den, O3.den, us]
  · simp only [lawWritesC, opsS, opsHp, bSHp, bHp, List.mem_append, List.mem_cons, List.not_mem_nil, or_false, or_assoc]
    intro x hx
    rcases hx with rfl | rfl | rfl
    · exact m1
    · exact (fun b o h => h)
    · exact rounds_at gh gl rfl rfl
  · exact ⟨w0, ⟨rfl, b1, a1⟩, rfl, rfl⟩
theorem writes_over : Rows.digestWritesRow.holds Tryd.pinned (OpenSpec.ofChange Rows.digestWritesSpec) :=
  OpenClaim.holds_of_wide 11 Tryd.f11 rfl rfl rfl rfl rfl rfl rfl ⟨rfl, rfl, rfl, rfl, rfl⟩ rfl rfl rfl rfl rfl (by kernel_rfl) Tryd.func11 (facts_of (by kernel_rfl) (by kernel_rfl) (by kernel_rfl) (by kernel_rfl) (by kernel_rfl) (by kernel_rfl) mayEnter_P (lifts_P.trans (by kernel_rfl)) (make_P.trans (by kernel_rfl)) (by kernel_rfl))
    (of_decide_eq_true (by kernel_rfl)) (by unfold Func.isWrapper; first | (rw [if_pos (by decide +kernel)]; kernel_rfl) | (rw [if_neg (by decide +kernel)]; exact ⟨rfl, rfl⟩))
    (fun os started H enc _ => writes_lifted os started H enc)
theorem writes_wf : Rows.digestWritesRow.wfByText (OpenSpec.ofChange Rows.digestWritesSpec) = true := by kernel_rfl
theorem writes_goes : false = Rows.digestWritesRow.goesBy Tryd.pinned.checked.prog := by kernel_rfl
theorem writes_proved : Rows.DigestWritesCardSaid :=
  Claim7.holds_tied_plain_at .later [] [.data] true (true, "8150288177cfe74915bae05b1ce9d1b4f650579f78b4109e5355018fd4f6f47e") false
    writes_over (fun _ h => by cases h) writes_wf (fun _ h => by cases h) digestWrites_row_tie rfl ⟨rfl, rfl⟩ main_P rfl
    (fun f fn hf hfn => by
      obtain rfl : f = 11 := Option.some.inj ((show Tryd.prog.funcNamed "stolon/stolonlaw02.DigestWrites" = some 11 by kernel_rfl).symm.trans hf) |>.symm
      obtain rfl : fn = Tryd.f11 := (Option.some.inj (Tryd.func11.symm.trans hfn)).symm
      exact ⟨looks_P, fun j t ht => by
        rw [Tryd.params11] at ht
        match j, ht with
        | 0, ht =>
          obtain rfl : 3 = t := by simpa using ht
          exact (show Tryd.prog.wantsStandIn 3 = false by kernel_rfl)
        | 1, ht =>
          obtain rfl : 68 = t := by simpa using ht
          exact (show Tryd.prog.wantsStandIn 68 = false by kernel_rfl)
        | j + 2, ht => simp at ht⟩)
    writes_goes
#print axioms writes_proved
end Go.Proofs.YtelcnkclppkicaaDoor
