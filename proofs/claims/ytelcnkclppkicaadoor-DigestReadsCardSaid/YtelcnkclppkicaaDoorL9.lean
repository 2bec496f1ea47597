/- After each of any calls, what a Reader returns, what is left and its error are those of the document, whatever becomes of the bytes it was made with: the call returns true. No condition. -/
import Derived.Test.YtelcnkclppkicaaDoorRows
import Derived.Test.YtelcnkclppkicaaDoorTie
import Derived.Test.YtelcnkclppkicaaDoorCards
import Derived.Test.YtelcnkclppkicaaDoorLD
import Derived.Test.YtelcnkclppkicaaDoorLR
import Derived.Test.YtelcnkclppkicaaDoorG9
set_option linter.unusedSimpArgs false
set_option linter.unusedVariables false
namespace Go.Proofs.YtelcnkclppkicaaDoor
open Go Go.Eng Go.Proofs Go.ChangeShapes Go.WideShapes Go.ChangeAt Go.RowKit
set_option maxRecDepth 100000
theorem reads_lifted (os : Os) (started : os.Started) (H : Type) (enc : TypeId × Value → H) :
    ReturnsInHanded {} Tryd.checked os 14 .any (fun w args => (Rows.digestReadsSpec.pre enc Tryd.prog Tryd.f14 Rows.digestReadsRow.domain false w args ∧ laidMet Tryd.prog Rows.digestReadsRow.laid w) ∧ sizedMet enc Tryd.prog Tryd.f14 (OpenSpec.ofChange Rows.digestReadsSpec) false w args)
      (Rows.digestReadsSpec.post enc Tryd.prog Tryd.f14 false true false false) := by
  refine returnsInHanded_of_change_and (C := Tryd.checked) (X := fun w _ => laidMet Tryd.prog Rows.digestReadsRow.laid w) (fun _ _ _ hh h => h.of_heap hh) own started (by kernel_rfl) Tryd.func14
    (ChangeSpec.witness_at (enc := enc) (C := Tryd.checked) (os := os) (X := fun w _ => laidMet Tryd.prog Rows.digestReadsRow.laid w) false (laidWorld os) #[.slice none 0 0, .slice none 0 0] 8 rfl (by kernel_rfl) (by kernel_rfl) (by kernel_rfl) (by kernel_rfl) (by kernel_rfl) (laid_met os _)) ?_
  intro W base args ds gs before hval0 hW _ hsz hL _
  have hval : ∀ (j : Nat) t v, Tryd.f14.params[j]? = some t → args[j]? = some v → Value.okWide Tryd.prog W .any base t v := hval0
  obtain ⟨gc, gty, gfr, gh, gl⟩ := rounds_of_laid hL
  have hW' := hW
  obtain ⟨p, q, hA0, hV, rfl, hfz, hnd⟩ := hW
  have hA : DataW.TrodAll enc Tryd.prog W 0 (fun _ => true) true Tryd.f14.params.toList args.toList ds p := hA0
  have hsz' : (DataW.weightsEach Tryd.prog (Tryd.f14.params.toList ++ Rows.digestReadsSpec.plain.varTypes Tryd.prog) (ds ++ gs)).all (· ≤ reachBytes) = true := hsz
  rw [Tryd.params14] at hA hval hsz'
  obtain ⟨v0, vs0, d0, ds0, p0, q0, hargs, rfl, rfl, h0, r0⟩ := trodAll_cons hA
  obtain ⟨v1, vs1, d1, ds1, p1, q1, rfl, rfl, rfl, h1, r1⟩ := trodAll_cons r0
  obtain ⟨rfl, rfl, rfl⟩ := trodAll_nil r1
  obtain rfl : args = #[v0, v1] := by cases args; simp_all
  obtain ⟨g0, rows0, c0, e0, lc0, b0, a0, m0⟩ := open_bytes (fun _ => rfl) (hval 0 22 v0 rfl rfl) h0 hsz' (j := 0) rfl rfl
  subst e0
  obtain ⟨g1, rows1, c1, e1, lc1, b1, a1, m1⟩ := open_ops (fun _ => rfl) (hval 1 68 v1 rfl rfl) h1 hsz' (j := 1) rfl rfl
  subst e1
  let us : List U := [{ r := g0 }, { i := rows0.length }, { i := c0 }, { d := rows0 }, {}, { r := g1 }, { i := rows1.length }, { i := c1 }, { d := rows1 }, {}, { h := fun b => W.heap[b]? }, { r := some ⟨1, 0, none⟩ }, { d := [roundK.map (Value.int .u32)] }]
  refine law_call (c := lawReadsC) (ρ := fun n => us.getD n {}) (lawReads_ok known_ok) rfl (by simp [lawReadsC, opsS, opsHp, lawTrue]) laidOut (by rw [Tryd.params14]; intro t ht; simp only [List.mem_cons, List.not_mem_nil, or_false] at ht; rcases ht with rfl | rfl; exact good22; exact goodOps) rfl rfl Tryd.underlying4 (fun ds' h => ?_) hW' ?_ ?_ ?_ ?_
  · rw [Tryd.params14] at h
    match ds', h with
    | [_, _], _ => rfl
  · intro n
    match n with
    | 0 | 1 | 2 | 4 | 5 | 6 | 7 | 9 | 10 | 11 => simp [us, U.good, Value.oneCell']
    | 3 => exact bytes_good m0
    | 8 => exact ops_good m1
    | 12 => exact rounds_good
    | n + 13 => simp [us, U.good, Value.oneCell']
  · simp [lawReadsC, opsS, opsHp, bS, iv, SV.den, T.den, denVs, O0.den, O1.den, O3.den, us]
  · simp only [lawReadsC, opsS, opsHp, bSHp, bHp, List.mem_append, List.mem_cons, List.not_mem_nil, or_false, or_assoc]
    intro x hx
    rcases hx with rfl | rfl | rfl | rfl
    · exact m0
    · exact m1
    · exact (fun b o h => h)
    · exact rounds_at gh gl rfl rfl
  · exact ⟨⟨rfl, b0, a0⟩, ⟨rfl, b1, a1⟩, rfl, rfl⟩
theorem reads_over : Rows.digestReadsRow.holds Tryd.pinned (OpenSpec.ofChange Rows.digestReadsSpec) :=
  OpenClaim.holds_of_wide 14 Tryd.f14 rfl rfl rfl rfl rfl rfl rfl ⟨rfl, rfl, rfl, rfl, rfl⟩ rfl rfl rfl rfl rfl (by kernel_rfl) Tryd.func14 (facts_of (by kernel_rfl) (by kernel_rfl) (by kernel_rfl) (by kernel_rfl) (by kernel_rfl) (by kernel_rfl) mayEnter_P (lifts_P.trans (by kernel_rfl)) (make_P.trans (by kernel_rfl)) (by kernel_rfl))
    (of_decide_eq_true (by kernel_rfl)) (by unfold Func.isWrapper; first | (rw [if_pos (by decide +kernel)]; kernel_rfl) | (rw [if_neg (by decide +kernel)]; exact ⟨rfl, rfl⟩))
    (fun os started H enc _ => reads_lifted os started H enc)
theorem reads_wf : Rows.digestReadsRow.wfByText (OpenSpec.ofChange Rows.digestReadsSpec) = true := by kernel_rfl
theorem reads_goes : false = Rows.digestReadsRow.goesBy Tryd.pinned.checked.prog := by kernel_rfl
theorem reads_proved : Rows.DigestReadsCardSaid :=
  Claim7.holds_tied_plain_at .later [] [.data] true (true, "8150288177cfe74915bae05b1ce9d1b4f650579f78b4109e5355018fd4f6f47e") false
    reads_over (fun _ h => by cases h) reads_wf (fun _ h => by cases h) digestReads_row_tie rfl ⟨rfl, rfl⟩ main_P rfl
    (fun f fn hf hfn => by
      obtain rfl : f = 14 := Option.some.inj ((show Tryd.prog.funcNamed "stolon/stolonlaw02.DigestReads" = some 14 by kernel_rfl).symm.trans hf) |>.symm
      obtain rfl : fn = Tryd.f14 := (Option.some.inj (Tryd.func14.symm.trans hfn)).symm
      exact ⟨looks_P, fun j t ht => by
        rw [Tryd.params14] at ht
        match j, ht with
        | 0, ht =>
          obtain rfl : 22 = t := by simpa using ht
          exact (show Tryd.prog.wantsStandIn 22 = false by kernel_rfl)
        | 1, ht =>
          obtain rfl : 68 = t := by simpa using ht
          exact (show Tryd.prog.wantsStandIn 68 = false by kernel_rfl)
        | j + 2, ht => simp at ht⟩)
    reads_goes
#print axioms reads_proved
end Go.Proofs.YtelcnkclppkicaaDoor
