/- The field: building the tables, a new field. -/
import Derived.Test.YtkiheclcmgbmnaaZT
set_option linter.unusedSimpArgs false
set_option linter.unusedVariables false
namespace Go.Proofs
open Go Go.Eng
set_option maxRecDepth 100000 in
theorem newField_ok : newFieldC.ok Try.prog := newField_of (by simp) fun ρ hg hp => by
  simp [o_newField, newFieldC]
  kernel_rfl
theorem nextX_range' : ∀ x : Fin 256, 0 ≤ nextX (x.val : Int) ∧ nextX (x.val : Int) < 256 := by decide +kernel
theorem nextX_range {x : Int} (h0 : 0 ≤ x) (h1 : x < 256) : 0 ≤ nextX x ∧ nextX x < 256 := by
  have := nextX_range' ⟨x.toNat, by omega⟩
  simp only [Int.toNat_of_nonneg h0] at this
  exact this
theorem buildN_range (d : Rows') : ∀ n, 0 ≤ (buildN d n).2 ∧ (buildN d n).2 < 256
  | 0 => by simp [buildN]
  | n + 1 => nextX_range (buildN_range d n).1 (buildN_range d n).2
theorem putX_len {d : Rows'} {i : Nat} {v : Value} : (putX d i v).length = d.length := by cases d <;> simp [putX]
theorem buildN_len (d : Rows') : ∀ n, (buildN d n).1.length = d.length
  | 0 => rfl
  | n + 1 => by simp only [buildN, buildStep, putX_len, buildN_len d n]
theorem build_ok : buildC.ok Try.prog := build_of (by simp) fun ρ hg hp => by
  have hl : (ρ 1).d.length = 1 := hp
  simp [o_build, buildC, buildI]
  refine ⟨rfl, fun x _ i _ d _ i0 i1 hd => ⟨fun hi => ?_, fun hi => ?_⟩⟩
  · obtain ⟨x0, x1⟩ := buildN_range (ρ 1).d i.i.toNat
    have hlen := buildN_len (ρ 1).d i.i.toNat
    rw [← hd] at x0 x1 hlen
    simp only at x0 x1 hlen
    have w1 : arithOf .add .i64 i.i 255 = i.i + 255 := by simp [arithOf, IntKind.wrap, IntKind.bits, IntKind.signed]; omega
    have w2 : arithOf .add .i64 i.i 1 = i.i + 1 := by simp [arithOf, IntKind.wrap, IntKind.bits, IntKind.signed]; omega
    have w3 : arithOf .shl .i64 x.i 1 = 2 * x.i := by simp [arithOf, IntKind.wrap, IntKind.bits, IntKind.signed]; omega
    have w4 : IntKind.u8.wrap x.i = x.i := by simp [IntKind.wrap, IntKind.bits, IntKind.signed]; omega
    have hstep : ∀ y, y = nextX x.i → (putX (putX (putX d.d (i.i.toNat + 3) (.int .u8 x.i)) ((i.i + 255).toNat + 3) (.int .u8 x.i)) (x.i.toNat + 513) (.int .i64 i.i), y) = buildN (ρ 1).d (i.i + 1).toNat := fun y hy => by
      rw [show (i.i + 1).toNat = i.i.toNat + 1 by omega, buildN, ← hd, buildStep, hy]
      simp only
      rw [show (i.i + 255).toNat = i.i.toNat + 255 by omega, Int.toNat_of_nonneg i0]
    rw [w1, w2, w3, w4]
    refine ⟨by omega, i0, by omega, by omega, by omega, x0, x1, fun h => ⟨⟨by omega, by omega, hstep _ ?_⟩, by omega⟩, fun h => ⟨⟨by omega, by omega, hstep _ ?_⟩, by omega⟩⟩
    · rw [nextX, if_pos h]
    · rw [nextX, if_neg (by omega)]
  · have : i.i.toNat = 255 := by omega
    rw [this] at hd
    rw [← hd]
end Go.Proofs
