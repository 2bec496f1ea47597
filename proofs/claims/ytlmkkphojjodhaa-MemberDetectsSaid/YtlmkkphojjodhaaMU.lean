import Derived.Test.YtlmkkphojjodhaaMT
import Derived.Test.YtlmkkphojjodhaaMD
set_option linter.unusedSimpArgs false
set_option linter.unusedVariables false
namespace Go.Proofs
open Go Go.Eng
theorem wrap64_id {x : Int} (h1 : -9223372036854775808 ≤ x) (h2 : x ≤ 9223372036854775807) : IntKind.i64.wrap x = x := by
  simp [IntKind.wrap, IntKind.signed, IntKind.bits]; omega
theorem peers_ok : peersC.ok Try.prog := peers_of (by simp) fun ρ hg hp => by
  simp [o_peers, peersC]; omega
theorem wait_ok : waitC.ok Try.prog := wait_of (by simp) fun ρ hg hp => by
  simp [o_wait, waitC, arithOf, wrap64_id]
  rw [wrap64_id (x := 3 * _) (by omega) (by omega), wrap64_id (by omega) (by omega)]
  omega
theorem refWait_ok : refWaitC.ok Try.prog := refWait_of (by simp [peers_ok]) fun ρ hg hp => by
  simp [o_refWait, refWaitC, waitC, peersC, arithOf]
  intro u hu h
  rw [wrap64_id (x := 3 * _) (by omega) (by omega), wrap64_id (by omega) (by omega), h]
theorem rounds_ok : roundsC.ok Try.prog := rounds_of (by simp) fun ρ hg hp => by
  simp [o_rounds, roundsC, waitC, arithOf]
  rw [wrap64_id (x := 6 * _) (by omega) (by omega), wrap64_id (by omega) (by omega)]
  omega
theorem refRounds_ok : refRoundsC.ok Try.prog := refRounds_of (by simp [peers_ok]) fun ρ hg hp => by
  simp [o_refRounds, refRoundsC, roundsC, waitC, peersC, arithOf]
  intro u hu h
  rw [wrap64_id (x := 6 * _) (by omega) (by omega), wrap64_id (by omega) (by omega), h]
theorem lawWaits_ok : lawWaitsC.ok Try.prog := lawWaits_of (by simp [wait_ok, refWait_ok, rounds_ok, refRounds_ok, known_ok]) fun ρ hg hp => by
  simp [o_lawWaits, lawWaitsC, refWaitC, refRoundsC, roundsC, waitC, peersC, knownC]
  intro u _ h1 u1 _ h2
  refine ⟨fun _ u2 _ h3 u3 _ h4 => ⟨fun _ u4 _ h5 => by omega, by omega⟩, by omega⟩
theorem newer_ok : newerD.ok Try.prog := newer_of (by simp) fun ρ hg hp => by
  simp [o_newer, newerD, newerC]
  refine ⟨fun h => .inl h, fun h => ⟨fun h' => ?_, fun h' => ⟨h, .inl h'⟩⟩⟩
  cases hx : cmpOf BinOp.gtr (ρ 1).i (ρ 3).i <;> cases hy : cmpOf BinOp.gtr (ρ 0).i (ρ 2).i <;> simp_all <;> omega
theorem join_ok : joinD.ok Try.prog := join_of (by simp [newer_ok]) fun ρ hg hp => by
  simp [o_join, joinD, joinC, newerD, newerC, newerB]
theorem lawOrders_ok : lawOrdersC.ok Try.prog := lawOrders_of (by simp [newer_ok, join_ok, known_ok]) fun ρ hg hp => by
  simp [o_lawOrders, lawOrdersC, joinD, joinC, newerD, newerC, knownC, newerB]

  omega
end Go.Proofs
