/- The digits of any digest, and the digest or the error of any string, are those of the document: the call returns true. No condition. -/
import Derived.Test.YtelcnkclppkicaaDoorRows
import Derived.Test.YtelcnkclppkicaaDoorTie
import Derived.Test.YtelcnkclppkicaaDoorCards
import Derived.Test.YtelcnkclppkicaaDoorLD
import Derived.Test.YtelcnkclppkicaaDoorLR
import Derived.Test.YtelcnkclppkicaaDoorG8
import Derived.Test.YtelcnkclppkicaaDoorG10
set_option linter.unusedSimpArgs false
set_option linter.unusedVariables false
namespace Go.Proofs.YtelcnkclppkicaaDoor
open Go Go.Eng Go.Proofs Go.ChangeShapes Go.WideShapes Go.ChangeAt Go.RowKit
set_option maxRecDepth 100000
theorem hex_lifted (os : Os) (started : os.Started) (H : Type) (enc : TypeId × Value → H) :
    ReturnsInHanded {} Tryd.checked os 12 .any (fun w args => (Rows.digestHexSpec.pre enc Tryd.prog Tryd.f12 Rows.digestHexRow.domain false w args ∧ laidMet Tryd.prog Rows.digestHexRow.laid w) ∧ sizedMet enc Tryd.prog Tryd.f12 (OpenSpec.ofChange Rows.digestHexSpec) false w args)
      (Rows.digestHexSpec.post enc Tryd.prog Tryd.f12 false true false false) := by
  refine returnsInHanded_of_change_and (C := Tryd.checked) (X := fun w _ => laidMet Tryd.prog Rows.digestHexRow.laid w) (fun _ _ _ hh h => h.of_heap hh) own started (by kernel_rfl) Tryd.func12
    (ChangeSpec.witness_at (enc := enc) (C := Tryd.checked) (os := os) (X := fun w _ => laidMet Tryd.prog Rows.digestHexRow.laid w) false (laidWorld os) #[.agg #[.int .u8 0, .int .u8 0, .int .u8 0, .int .u8 0, .int .u8 0, .int .u8 0, .int .u8 0, .int .u8 0, .int .u8 0, .int .u8 0, .int .u8 0, .int .u8 0, .int .u8 0, .int .u8 0, .int .u8 0, .int .u8 0, .int .u8 0, .int .u8 0, .int .u8 0, .int .u8 0, .int .u8 0, .int .u8 0, .int .u8 0, .int .u8 0, .int .u8 0, .int .u8 0, .int .u8 0, .int .u8 0, .int .u8 0, .int .u8 0, .int .u8 0, .int .u8 0], .string ⟨#[]⟩] 8 rfl (by kernel_rfl) (by kernel_rfl) (by kernel_rfl) (by kernel_rfl) (by kernel_rfl) (laid_met os _)) ?_
  intro W base args ds gs before hval0 hW _ hsz hL _
  have hval : ∀ (j : Nat) t v, Tryd.f12.params[j]? = some t → args[j]? = some v → Value.okWide Tryd.prog W .any base t v := hval0
  obtain ⟨gc, gty, gfr, gh, gl⟩ := rounds_of_laid hL
  have hW' := hW
  obtain ⟨p, q, hA0, hV, rfl, hfz, hnd⟩ := hW
  have hA : DataW.TrodAll enc Tryd.prog W 0 (fun _ => true) true Tryd.f12.params.toList args.toList ds p := hA0
  have hsz' : (DataW.weightsEach Tryd.prog (Tryd.f12.params.toList ++ Rows.digestHexSpec.plain.varTypes Tryd.prog) (ds ++ gs)).all (· ≤ reachBytes) = true := hsz
  rw [Tryd.params12] at hA hval hsz'
  obtain ⟨v0, vs0, d0, ds0, p0, q0, hargs, rfl, rfl, h0, r0⟩ := trodAll_cons hA
  obtain ⟨v1, vs1, d1, ds1, p1, q1, rfl, rfl, rfl, h1, r1⟩ := trodAll_cons r0
  obtain ⟨rfl, rfl, rfl⟩ := trodAll_nil r1
  obtain rfl : args = #[v0, v1] := by cases args; simp_all
  obtain ⟨row0, e0, rl0, rb0⟩ := open_digest (hval 0 24 v0 rfl rfl) h0
  subst e0
  obtain ⟨s1, e1⟩ := open_string (hval 1 9 v1 rfl rfl) h1
  subst e1
  let us : List U := [{ d := [row0] }, { v := .string ⟨s1.toArray⟩ }, { r := some ⟨1, 0, none⟩ }, { d := [roundK.map (Value.int .u32)] }]
  have hden0 := den_dgV (n := 0) (ρ := fun n => us.getD n {}) (row := row0) rfl rb0
  refine law_call (c := lawHexC) (ρ := fun n => us.getD n {}) (lawHex_ok known_ok) rfl (by simp [lawHexC, strV, lawTrue]) laidOut (by rw [Tryd.params12]; intro t ht; simp only [List.mem_cons, List.not_mem_nil, or_false] at ht; rcases ht with rfl | rfl; exact goodDg; exact goodStr) rfl rfl Tryd.underlying4 (fun ds' h => ?_) hW' ?_ ?_ ?_ ?_
  · rw [Tryd.params12] at h
    match ds', h with
    | [_, _], _ => rfl
  · intro n
    match n with
    | 1 | 2 => simp [us, U.good, Value.oneCell']
    | 0 => exact digest_good rb0
    | 3 => exact rounds_good
    | n + 4 => simp [us, U.good, Value.oneCell']
  · simp only [lawHexC, List.map_cons, List.map_nil, hden0]
    simp [lawHexC, strV, bS, iv, SV.den, T.den, denVs, O0.den, O1.den, O3.den, us, hden0, vStr_mk]
  · simp only [lawHexC, strV, bSHp, bHp, List.mem_append, List.mem_cons, List.not_mem_nil, or_false, or_assoc]
    intro x hx
    subst hx
    exact rounds_at gh gl rfl rfl
  · exact ⟨row_bytes rb0, rfl, rfl⟩
theorem hex_over : Rows.digestHexRow.holds Tryd.pinned (OpenSpec.ofChange Rows.digestHexSpec) :=
  OpenClaim.holds_of_wide 12 Tryd.f12 rfl rfl rfl rfl rfl rfl rfl ⟨rfl, rfl, rfl, rfl, rfl⟩ rfl rfl rfl rfl rfl (by kernel_rfl) Tryd.func12 (facts_of (by kernel_rfl) (by kernel_rfl) (by kernel_rfl) (by kernel_rfl) (by kernel_rfl) (by kernel_rfl) mayEnter_P (lifts_P.trans (by kernel_rfl)) (make_P.trans (by kernel_rfl)) (by kernel_rfl))
    (of_decide_eq_true (by kernel_rfl)) (by unfold Func.isWrapper; first | (rw [if_pos (by decide +kernel)]; kernel_rfl) | (rw [if_neg (by decide +kernel)]; exact ⟨rfl, rfl⟩))
    (fun os started H enc _ => hex_lifted os started H enc)
theorem hex_wf : Rows.digestHexRow.wfByText (OpenSpec.ofChange Rows.digestHexSpec) = true := by kernel_rfl
theorem hex_goes : false = Rows.digestHexRow.goesBy Tryd.pinned.checked.prog := by kernel_rfl
theorem hex_proved : Rows.DigestHexCardSaid :=
  Claim7.holds_tied_plain_at .later [] [.data] true (true, "8150288177cfe74915bae05b1ce9d1b4f650579f78b4109e5355018fd4f6f47e") false
    hex_over (fun _ h => by cases h) hex_wf (fun _ h => by cases h) digestHex_row_tie rfl ⟨rfl, rfl⟩ main_P rfl
    (fun f fn hf hfn => by
      obtain rfl : f = 12 := Option.some.inj ((show Tryd.prog.funcNamed "stolon/stolonlaw02.DigestHex" = some 12 by kernel_rfl).symm.trans hf) |>.symm
      obtain rfl : fn = Tryd.f12 := (Option.some.inj (Tryd.func12.symm.trans hfn)).symm
      exact ⟨looks_P, fun j t ht => by
        rw [Tryd.params12] at ht
        match j, ht with
        | 0, ht =>
          obtain rfl : 24 = t := by simpa using ht
          exact (show Tryd.prog.wantsStandIn 24 = false by kernel_rfl)
        | 1, ht =>
          obtain rfl : 9 = t := by simpa using ht
          exact (show Tryd.prog.wantsStandIn 9 = false by kernel_rfl)
        | j + 2, ht => simp at ht⟩)
    hex_goes
#print axioms hex_proved
end Go.Proofs.YtelcnkclppkicaaDoor
