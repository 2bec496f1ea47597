/- The digest of any piece, and the result of checking it against any manifest, are those of the document: the call returns true. No condition. -/
import Derived.Test.YtelcnkclppkicaaDoorRows
import Derived.Test.YtelcnkclppkicaaDoorTie
import Derived.Test.YtelcnkclppkicaaDoorCards
import Derived.Test.YtelcnkclppkicaaDoorLD
import Derived.Test.YtelcnkclppkicaaDoorLS
import Derived.Test.YtelcnkclppkicaaDoorG9
import Derived.Test.YtelcnkclppkicaaDoorG8
set_option linter.unusedSimpArgs false
set_option linter.unusedVariables false
namespace Go.Proofs.YtelcnkclppkicaaDoor
open Go Go.Eng Go.Proofs Go.ChangeShapes Go.WideShapes Go.ChangeAt Go.RowKit
set_option maxRecDepth 100000
theorem checks_lifted (os : Os) (started : os.Started) (H : Type) (enc : TypeId × Value → H) :
    ReturnsInHanded {} Tryd.checked os 9 .any (fun w args => (Rows.digestChecksSpec.pre enc Tryd.prog Tryd.f9 Rows.digestChecksRow.domain false w args ∧ laidMet Tryd.prog Rows.digestChecksRow.laid w) ∧ sizedMet enc Tryd.prog Tryd.f9 (OpenSpec.ofChange Rows.digestChecksSpec) false w args)
      (Rows.digestChecksSpec.post enc Tryd.prog Tryd.f9 false true false false) := by
  refine returnsInHanded_of_change_and (C := Tryd.checked) (X := fun w _ => laidMet Tryd.prog Rows.digestChecksRow.laid w) (fun _ _ _ hh h => h.of_heap hh) own started (by kernel_rfl) Tryd.func9
    (ChangeSpec.witness_at (enc := enc) (C := Tryd.checked) (os := os) (X := fun w _ => laidMet Tryd.prog Rows.digestChecksRow.laid w) false (laidWorld2 os) #[.agg #[.int .i64 0, .int .i64 0, .int .i64 0, .int .i64 0, .int .u8 0, .int .u8 0, .int .u8 0, .int .u8 0, .int .u8 0, .int .u8 0, .int .u8 0, .int .u8 0, .int .u8 0, .int .u8 0, .int .u8 0, .int .u8 0, .int .u8 0, .int .u8 0, .int .u8 0, .int .u8 0, .int .u8 0, .int .u8 0, .int .u8 0, .int .u8 0, .int .u8 0, .int .u8 0, .int .u8 0, .int .u8 0, .int .u8 0, .int .u8 0, .int .u8 0, .int .u8 0, .int .u8 0, .int .u8 0, .int .u8 0, .int .u8 0, .slice none 0 0], .agg #[.int .i64 0, .slice none 0 0]] 8 rfl (by kernel_rfl) (by kernel_rfl) (by kernel_rfl) (by kernel_rfl) (by kernel_rfl) (laid_met2 os _)) ?_
  intro W base args ds gs before hval0 hW _ hsz hL _
  have hval : ∀ (j : Nat) t v, Tryd.f9.params[j]? = some t → args[j]? = some v → Value.okWide Tryd.prog W .any base t v := hval0
  obtain ⟨⟨gc0, gty0, gfr0, gh0, gl0⟩, gc, gty, gfr, gh, gl⟩ := rounds_two hL
  have hW' := hW
  obtain ⟨p, q, hA0, hV, rfl, hfz, hnd⟩ := hW
  have hA : DataW.TrodAll enc Tryd.prog W 0 (fun _ => true) true Tryd.f9.params.toList args.toList ds p := hA0
  have hsz' : (DataW.weightsEach Tryd.prog (Tryd.f9.params.toList ++ Rows.digestChecksSpec.plain.varTypes Tryd.prog) (ds ++ gs)).all (· ≤ reachBytes) = true := hsz
  rw [Tryd.params9] at hA hval hsz'
  obtain ⟨v0, vs0, d0, ds0, p0, q0, hargs, rfl, rfl, h0, r0⟩ := trodAll_cons hA
  obtain ⟨v1, vs1, d1, ds1, p1, q1, rfl, rfl, rfl, h1, r1⟩ := trodAll_cons r0
  obtain ⟨rfl, rfl, rfl⟩ := trodAll_nil r1
  obtain rfl : args = #[v0, v1] := by cases args; simp_all
  obtain ⟨x0, y0, z0, s0, row0, g0, rows0, c0, e0, wx0, wy0, wz0, ws0, rl0, rb0, lc0, b0, a0, m0⟩ := open_manifest (fun _ => rfl) (hval 0 27 v0 rfl rfl) h0 hsz' (j := 0) rfl rfl
  subst e0
  obtain ⟨x1, g1, rows1, c1, e1, wx1, lc1, b1, a1, m1⟩ := open_piece (fun _ => rfl) (hval 1 45 v1 rfl rfl) h1 hsz' (j := 1) rfl rfl
  subst e1
  let us : List U := [{ i := x0 }, { i := y0 }, { i := z0 }, { i := s0 }, { d := [row0] }, { r := g0 }, { i := rows0.length }, { i := c0 }, { d := rows0 }, {}, { i := x1 }, { r := g1 }, { i := rows1.length }, { i := c1 }, { d := rows1 }, {}, { r := some ⟨0, 0, none⟩ }, { d := [roundK.map (Value.int .u32)] }, { r := some ⟨1, 0, none⟩ }, { d := [roundK.map (Value.int .u32)] }]
  refine law_call (c := lawChecksC) (ρ := fun n => us.getD n {}) (lawChecks_ok known_ok) rfl (by simp [lawChecksC, manV, manT, pieceArg, pieceHp, lawTrue]) laidOut (by rw [Tryd.params9]; intro t ht; simp only [List.mem_cons, List.not_mem_nil, or_false] at ht; rcases ht with rfl | rfl; exact goodMan; exact goodPc) rfl rfl Tryd.underlying4 (fun ds' h => ?_) hW' ?_ ?_ ?_ ?_
  · rw [Tryd.params9] at h
    match ds', h with
    | [_, _], _ => rfl
  · intro n
    match n with
    | 0 | 1 | 2 | 3 | 5 | 6 | 7 | 9 | 10 | 11 | 12 | 13 | 15 | 16 | 18 => simp [us, U.good, Value.oneCell']
    | 4 => exact digest_good rb0
    | 8 => exact dgs_good m0
    | 14 => exact bytes_good m1
    | 17 => exact rounds_good
    | 19 => exact rounds_good
    | n + 20 => simp [us, U.good, Value.oneCell']
  · simp [lawChecksC, manV, manT, pieceArg, pieceHp, bS, iv, SV.den, T.den, denVs, O0.den, O1.den, O3.den, us]
    exact (den_cells (n := 4) rfl rb0).symm
  · simp only [lawChecksC, manV, manT, pieceArg, pieceHp, bSHp, bHp, dgsHp, List.mem_append, List.mem_cons, List.not_mem_nil, or_false, or_assoc]
    intro x hx
    rcases hx with rfl | rfl | rfl | rfl
    · exact m0
    · exact m1
    · exact rounds_at0 gh0 gl0 rfl rfl
    · exact rounds_at gh gl rfl rfl
  · exact ⟨⟨wx0, wy0, wz0, ws0, row_bytes rb0, rfl, b0, a0⟩, ⟨wx1, rfl, Int.ofNat_le.2 lc1, b1, a1⟩, ⟨rfl, rfl⟩, rfl, rfl⟩
theorem checks_over : Rows.digestChecksRow.holds Tryd.pinned (OpenSpec.ofChange Rows.digestChecksSpec) :=
  OpenClaim.holds_of_wide 9 Tryd.f9 rfl rfl rfl rfl rfl rfl rfl ⟨rfl, rfl, rfl, rfl, rfl⟩ rfl rfl rfl rfl rfl (by kernel_rfl) Tryd.func9 (facts_of (by kernel_rfl) (by kernel_rfl) (by kernel_rfl) (by kernel_rfl) (by kernel_rfl) (by kernel_rfl) mayEnter_P (lifts_P.trans (by kernel_rfl)) (make_P.trans (by kernel_rfl)) (by kernel_rfl))
    (of_decide_eq_true (by kernel_rfl)) (by unfold Func.isWrapper; first | (rw [if_pos (by decide +kernel)]; kernel_rfl) | (rw [if_neg (by decide +kernel)]; exact ⟨rfl, rfl⟩))
    (fun os started H enc _ => checks_lifted os started H enc)
theorem checks_wf : Rows.digestChecksRow.wfByText (OpenSpec.ofChange Rows.digestChecksSpec) = true := by kernel_rfl
theorem checks_goes : false = Rows.digestChecksRow.goesBy Tryd.pinned.checked.prog := by kernel_rfl
theorem checks_proved : Rows.DigestChecksCardSaid :=
  Claim7.holds_tied_plain_at .later [] [.data, .data] true (true, "8150288177cfe74915bae05b1ce9d1b4f650579f78b4109e5355018fd4f6f47e") false
    checks_over (fun _ h => by cases h) checks_wf (fun _ h => by cases h) digestChecks_row_tie rfl ⟨rfl, rfl⟩ main_P rfl
    (fun f fn hf hfn => by
      obtain rfl : f = 9 := Option.some.inj ((show Tryd.prog.funcNamed "stolon/stolonlaw02.DigestChecks" = some 9 by kernel_rfl).symm.trans hf) |>.symm
      obtain rfl : fn = Tryd.f9 := (Option.some.inj (Tryd.func9.symm.trans hfn)).symm
      exact ⟨looks_P, fun j t ht => by
        rw [Tryd.params9] at ht
        match j, ht with
        | 0, ht =>
          obtain rfl : 27 = t := by simpa using ht
          exact (show Tryd.prog.wantsStandIn 27 = false by kernel_rfl)
        | 1, ht =>
          obtain rfl : 45 = t := by simpa using ht
          exact (show Tryd.prog.wantsStandIn 45 = false by kernel_rfl)
        | j + 2, ht => simp at ht⟩)
    checks_goes
#print axioms checks_proved
end Go.Proofs.YtelcnkclppkicaaDoor
