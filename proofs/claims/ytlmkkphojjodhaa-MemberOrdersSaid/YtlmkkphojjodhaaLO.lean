/- Newer is a strict total order of the entries, and Join returns the newer entry: for all three entries the call returns true. No condition. -/
import Derived.Test.YtlmkkphojjodhaaRows
import Derived.Test.YtlmkkphojjodhaaE13
import Derived.Test.YtlmkkphojjodhaaMU
import Derived.Lib.SmallJoins
set_option linter.unusedSimpArgs false
set_option linter.unusedVariables false
namespace Go.Proofs.Ytlmkkphojjodhaa
open Go Go.Eng Go.Proofs Go.ChangeShapes Go.WideShapes Go.ChangeAt Go.RowKit
theorem own : ownKnob Try.prog.godebug = none := by kernel_rfl
theorem laidOut : laidOutB Try.prog = true := by kernel_rfl
theorem good25 : Try.prog.readableRec 25 = true ∧ 25 < Try.prog.types.size := ⟨by kernel_rfl, of_decide_eq_true (by kernel_rfl)⟩
set_option maxRecDepth 100000 in
theorem open_member {H : Type} {enc : TypeId × Value → H} {W : World} {base : Nat} {b : Nat} {sp : Nat → Bool} {v : Value} {d : DataW H} {p : List MemPlace} (hv : Value.okWide Try.prog W .any b 25 v) (h : DataW.Trod enc Try.prog W base sp true 25 v d p) :
    ∃ i s : Int, v = .agg #[.int .u64 i, .int .u8 s] := by
  obtain ⟨c0, c1, y0, y1, m, rfl, rfl, rfl, hy0, hy1⟩ := Joins.open_agg2 Try.underlying25 (by kernel_rfl) (by kernel_rfl) hv h
  obtain ⟨a, e0, _, _⟩ := DataW.trod_int Try.underlying22 hy0
  obtain ⟨b, e1, _, _⟩ := DataW.trod_int Try.underlying23 hy1
  simp at e0 e1
  subst e0 e1
  exact ⟨a, b, rfl⟩
set_option maxRecDepth 100000 in
theorem orders_lifted (os : Os) (started : os.Started) (H : Type) (enc : TypeId × Value → H) :
    ReturnsInHanded {} Try.checked os 3 .any (Rows.memberOrdersSpec.pre6 enc Try.prog Try.f3 Rows.memberOrdersRow.domain false) (Rows.memberOrdersSpec.post enc Try.prog Try.f3 false true false false) := by
  refine returnsInHanded_of_change (C := Try.checked) own started (by kernel_rfl) Try.func3
    (ChangeSpec.witness6 (enc := enc) (C := Try.checked) false ⟨#[], #[.agg #[.int .u64 0, .int .u8 0], .agg #[.int .u64 0, .int .u8 0], .agg #[.int .u64 0, .int .u8 0]], []⟩ 8 (by kernel_rfl) (by kernel_rfl) (by kernel_rfl) (by kernel_rfl)) ?_
  intro W base args ds gs before hval0 hW hcnd _
  have hval : ∀ (j : Nat) t v, Try.f3.params[j]? = some t → args[j]? = some v → Value.okWide Try.prog W .any base t v := hval0
  have hW' := hW
  obtain ⟨p, q, hA0, hV, rfl, hfz, hnd⟩ := hW
  have hA : DataW.TrodAll enc Try.prog W 0 (fun _ => true) true Try.f3.params.toList args.toList ds p := hA0
  rw [Try.params3] at hA hval
  obtain ⟨v0, vs0, d0, ds0, p0, q0, hargs, rfl, rfl, h0, r0⟩ := trodAll_cons hA
  obtain ⟨v1, vs1, d1, ds1, p1, q1, rfl, rfl, rfl, h1, r1⟩ := trodAll_cons r0
  obtain ⟨v2, vs2, d2, ds2, p2, q2, rfl, rfl, rfl, h2, r2⟩ := trodAll_cons r1
  obtain ⟨rfl, rfl, rfl⟩ := trodAll_nil r2
  obtain rfl : args = #[v0, v1, v2] := by cases args; simp_all
  obtain ⟨a0, b0, rfl⟩ := open_member (hval 0 25 v0 rfl rfl) h0
  obtain ⟨a1, b1, rfl⟩ := open_member (hval 1 25 v1 rfl rfl) h1
  obtain ⟨a2, b2, rfl⟩ := open_member (hval 2 25 v2 rfl rfl) h2
  refine law_call (c := lawOrdersC) (ρ := fun n => { i := ([a0, b0, a1, b1, a2, b2] : List Int).getD n 0 }) lawOrders_ok rfl (by simp [lawOrdersC]) laidOut (by rw [Try.params3]; intro t ht; simp at ht; subst ht; exact good25) rfl rfl Try.underlying4 (fun ds' h => ?_) hW' ?_ ?_ (by simp [lawOrdersC]) (by simp [lawOrdersC])
  · rw [Try.params3] at h
    match ds', h with
    | [_, _, _], _ => rfl
  · intro n; simp [U.good, Value.oneCell']
  · simp [lawOrdersC, mem, denVs, T.den, O1.den]
theorem orders_over : Rows.memberOrdersRow.holds Try.pinned (OpenSpec.ofChange Rows.memberOrdersSpec) :=
  OpenClaim.holds_of_wide 3 Try.f3 rfl rfl rfl rfl rfl rfl rfl ⟨rfl, rfl, rfl, rfl, rfl⟩ rfl rfl rfl rfl rfl (by kernel_rfl) Try.func3 (by kernel_rfl)
    (of_decide_eq_true (by kernel_rfl)) (by unfold Func.isWrapper; first | (rw [if_pos (by decide +kernel)]; kernel_rfl) | (rw [if_neg (by decide +kernel)]; exact ⟨rfl, rfl⟩))
    (fun os started H enc _ => orders_lifted os started H enc)
theorem orders_proved : Rows.MemberOrdersSaid := orders_over
#print axioms orders_proved
end Go.Proofs.Ytlmkkphojjodhaa
