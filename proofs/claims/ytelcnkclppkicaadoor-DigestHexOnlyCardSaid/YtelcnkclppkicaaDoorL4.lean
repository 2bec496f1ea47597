/- A string that ParseHex accepts is the Hex of its digest: the call returns true. No condition. -/
import Derived.Test.YtelcnkclppkicaaDoorRows
import Derived.Test.YtelcnkclppkicaaDoorTie
import Derived.Test.YtelcnkclppkicaaDoorCards
import Derived.Test.YtelcnkclppkicaaDoorLD
import Derived.Test.YtelcnkclppkicaaDoorLR
import Derived.Test.YtelcnkclppkicaaDoorG8
import Derived.Test.YtelcnkclppkicaaDoorG10
set_option linter.unusedSimpArgs false
set_option linter.unusedVariables false
namespace Go.Proofs.YtelcnkclppkicaaDoor
open Go Go.Eng Go.Proofs Go.ChangeShapes Go.WideShapes Go.ChangeAt Go.RowKit
set_option maxRecDepth 100000
theorem hexonly_lifted (os : Os) (started : os.Started) (H : Type) (enc : TypeId × Value → H) :
    ReturnsInHanded {} Tryd.checked os 13 .any (fun w args => (Rows.digestHexOnlySpec.pre enc Tryd.prog Tryd.f13 Rows.digestHexOnlyRow.domain false w args ∧ laidMet Tryd.prog Rows.digestHexOnlyRow.laid w) ∧ sizedMet enc Tryd.prog Tryd.f13 (OpenSpec.ofChange Rows.digestHexOnlySpec) false w args)
      (Rows.digestHexOnlySpec.post enc Tryd.prog Tryd.f13 false true false false) := by
  refine returnsInHanded_of_change_and (C := Tryd.checked) (X := fun w _ => laidMet Tryd.prog Rows.digestHexOnlyRow.laid w) (fun _ _ _ hh h => h.of_heap hh) own started (by kernel_rfl) Tryd.func13
    (ChangeSpec.witness_at (enc := enc) (C := Tryd.checked) (os := os) (X := fun w _ => laidMet Tryd.prog Rows.digestHexOnlyRow.laid w) false (laidWorld os) #[.string ⟨#[]⟩] 8 rfl (by kernel_rfl) (by kernel_rfl) (by kernel_rfl) (by kernel_rfl) (by kernel_rfl) (laid_met os _)) ?_
  intro W base args ds gs before hval0 hW _ hsz hL _
  have hval : ∀ (j : Nat) t v, Tryd.f13.params[j]? = some t → args[j]? = some v → Value.okWide Tryd.prog W .any base t v := hval0
  obtain ⟨gc, gty, gfr, gh, gl⟩ := rounds_of_laid hL
  have hW' := hW
  obtain ⟨p, q, hA0, hV, rfl, hfz, hnd⟩ := hW
  have hA : DataW.TrodAll enc Tryd.prog W 0 (fun _ => true) true Tryd.f13.params.toList args.toList ds p := hA0
  have hsz' : (DataW.weightsEach Tryd.prog (Tryd.f13.params.toList ++ Rows.digestHexOnlySpec.plain.varTypes Tryd.prog) (ds ++ gs)).all (· ≤ reachBytes) = true := hsz
  rw [Tryd.params13] at hA hval hsz'
  obtain ⟨v0, vs0, d0, ds0, p0, q0, hargs, rfl, rfl, h0, r0⟩ := trodAll_cons hA
  obtain ⟨rfl, rfl, rfl⟩ := trodAll_nil r0
  obtain rfl : args = #[v0] := by cases args; simp_all
  obtain ⟨s0, e0⟩ := open_string (hval 0 9 v0 rfl rfl) h0
  subst e0
  let us : List U := [{ v := .string ⟨s0.toArray⟩ }, { r := some ⟨1, 0, none⟩ }, { d := [roundK.map (Value.int .u32)] }]
  refine law_call (c := lawHexOnlyC) (ρ := fun n => us.getD n {}) (lawHexOnly_ok known_ok) rfl (by simp [lawHexOnlyC, strV, lawTrue]) laidOut (by rw [Tryd.params13]; intro t ht; simp only [List.mem_cons, List.not_mem_nil, or_false] at ht; subst ht; exact goodStr) rfl rfl Tryd.underlying4 (fun ds' h => ?_) hW' ?_ ?_ ?_ ?_
  · rw [Tryd.params13] at h
    match ds', h with
    | [_], _ => rfl
  · intro n
    match n with
    | 0 | 1 => simp [us, U.good, Value.oneCell']
    | 2 => exact rounds_good
    | n + 3 => simp [us, U.good, Value.oneCell']
  · simp [lawHexOnlyC, strV, bS, iv, SV.den, T.den, denVs, O0.den, O1.den, O3.den, us, vStr_mk]
  · simp only [lawHexOnlyC, strV, bSHp, bHp, List.mem_append, List.mem_cons, List.not_mem_nil, or_false, or_assoc]
    intro x hx
    subst hx
    exact rounds_at gh gl rfl rfl
  · exact ⟨rfl, rfl⟩
theorem hexonly_over : Rows.digestHexOnlyRow.holds Tryd.pinned (OpenSpec.ofChange Rows.digestHexOnlySpec) :=
  OpenClaim.holds_of_wide 13 Tryd.f13 rfl rfl rfl rfl rfl rfl rfl ⟨rfl, rfl, rfl, rfl, rfl⟩ rfl rfl rfl rfl rfl (by kernel_rfl) Tryd.func13 (facts_of (by kernel_rfl) (by kernel_rfl) (by kernel_rfl) (by kernel_rfl) (by kernel_rfl) (by kernel_rfl) mayEnter_P (lifts_P.trans (by kernel_rfl)) (make_P.trans (by kernel_rfl)) (by kernel_rfl))
    (of_decide_eq_true (by kernel_rfl)) (by unfold Func.isWrapper; first | (rw [if_pos (by decide +kernel)]; kernel_rfl) | (rw [if_neg (by decide +kernel)]; exact ⟨rfl, rfl⟩))
    (fun os started H enc _ => hexonly_lifted os started H enc)
theorem hexonly_wf : Rows.digestHexOnlyRow.wfByText (OpenSpec.ofChange Rows.digestHexOnlySpec) = true := by kernel_rfl
theorem hexonly_goes : false = Rows.digestHexOnlyRow.goesBy Tryd.pinned.checked.prog := by kernel_rfl
theorem hexonly_proved : Rows.DigestHexOnlyCardSaid :=
  Claim7.holds_tied_plain_at .later [] [.data] true (true, "8150288177cfe74915bae05b1ce9d1b4f650579f78b4109e5355018fd4f6f47e") false
    hexonly_over (fun _ h => by cases h) hexonly_wf (fun _ h => by cases h) digestHexOnly_row_tie rfl ⟨rfl, rfl⟩ main_P rfl
    (fun f fn hf hfn => by
      obtain rfl : f = 13 := Option.some.inj ((show Tryd.prog.funcNamed "stolon/stolonlaw02.DigestHexOnly" = some 13 by kernel_rfl).symm.trans hf) |>.symm
      obtain rfl : fn = Tryd.f13 := (Option.some.inj (Tryd.func13.symm.trans hfn)).symm
      exact ⟨looks_P, fun j t ht => by
        rw [Tryd.params13] at ht
        match j, ht with
        | 0, ht =>
          obtain rfl : 9 = t := by simpa using ht
          exact (show Tryd.prog.wantsStandIn 9 = false by kernel_rfl)
        | j + 1, ht => simp at ht⟩)
    hexonly_goes
#print axioms hexonly_proved
end Go.Proofs.YtelcnkclppkicaaDoor
