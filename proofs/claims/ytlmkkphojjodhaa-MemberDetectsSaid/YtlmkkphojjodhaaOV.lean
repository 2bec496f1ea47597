/- Reincarnate, Leave, Challenge, Clock, Live, Probes: what they compute. -/
import Derived.Test.YtlmkkphojjodhaaOU
import Derived.Test.YtlmkkphojjodhaaOP
set_option linter.unusedSimpArgs false
set_option linter.unusedVariables false
namespace Go.Proofs
open Go Go.Eng

theorem challenge50_ok : challenge50C.ok Try.prog := challenge50_of (by simp) fun ρ hg hp => by
  simp [o_challenge50, challenge50C]
theorem clock45_ok : clock45C.ok Try.prog := clock45_of (by simp) fun ρ hg hp => by
  simp [o_clock45, clock45C]
theorem live30_ok : live30C.ok Try.prog := live30_of (by simp [live37_ok]) fun ρ hg hp => by
  obtain ⟨h1, h2⟩ := hp
  simp [o_live30, live30C, live37C]
  exact ⟨h1, h2⟩
theorem clone69_ok : clone69C.ok Try.prog := clone69_of (by simp) fun ρ hg hp => by
  obtain ⟨h1, h2, h3⟩ := hp
  simp [o_clone69, clone69C]
  refine ⟨fun h => ?_, fun _ => ⟨h1, h2, by omega, by omega⟩⟩
  rw [h] at h2 ⊢
  simp at h2 ⊢
  omega
theorem probes31_ok : probes31C.ok Try.prog := probes31_of (by simp [clone69_ok]) fun ρ hg hp => by
  obtain ⟨h1, h2, h3⟩ := hp
  simp [o_probes31, probes31C, clone69C]
  exact ⟨h1, h2, h3⟩
theorem reinc43_ok : reinc43C.ok Try.prog := reinc43_of (by simp [fault64_ok]) fun ρ hg hp => by
  obtain ⟨h1, h2, h3⟩ := hp
  have hst := statAt_tab (d := (ρ 5).d) h2 (by omega)
  have hput := tab_put' (d := (ρ 5).d) (x := (ρ 18).i) (y := 1) h2 (by omega)
  simp [o_reinc43, reinc43C, fault64C, m1, machV, reincM, reincE, hst, hput, putD_len, setTab]
  refine ⟨fun hL => by simp [hL], fun hL => ⟨h2, h3, by omega, fun k => by simp [hL, k], fun k => ⟨fun k' => by simp [hL, k'], fun k' => ⟨by omega, ?_⟩⟩⟩⟩
  simp [hL, Int.not_le.2 k, Int.not_le.2 k']
set_option maxRecDepth 20000 in
theorem leave44_ok : leave44C.ok Try.prog := leave44_of (by simp [fault64_ok, live37_ok, stamp68_ok]) fun ρ hg hp => by
  obtain ⟨⟨h1, h2, h3, h4, h5, h6, h7⟩, h8⟩ := hp
  have hst := statAt_tab (d := (ρ 5).d) h4 (by omega)
  rw [hst] at h8
  have hput := tab_put1 (d := (ρ 5).d) (y := 4) h4 (by omega) h8
  simp [o_leave44, leave44C, leave44I, fault64C, live37C, stamp68C, leaveTab, mOk, hst, hput, putD_len, arithOf]
  generalize hT : (tabOf (ρ 5).d).set (ρ 1).i.toNat (cellI (ρ 5).d (ρ 1).i 0, 4) = T
  have hb16 : (16 : Int) ≤ big := by decide
  intro hL
  refine ⟨h4, h5, by omega, by omega, ⟨h1, by omega⟩, fun _ _ _ _ u2 _ u3 _ k1 k2 k3 => ⟨by omega, ⟨by omega, k2, k3, k1, rfl⟩, ?_⟩⟩
  intro ui _ _ _ un _ _ _ uL _ _ _ um _ _ _ uM _ uT _ g0 g1 g2 g3 g4 g5 g6 g7 g8 g9
  constructor
  · intro hi
    have hc := cellI_ints (d := uL.d) g0 (by omega)
    rw [g6] at hc
    rw [wrapAdd g0 hi (by omega)]
    have hq := plain_snoc (m := leaveMsg (cellI uL.d ui.i 0)) g9
    rw [← take_snoc (by rw [List.getElem?_map, hc]; rfl), ← toNat_succ g0] at hq
    exact ⟨g0, by omega, g7, by omega, ⟨by omega, by omega, g2, g3, g4, g5, g6, g7, by omega, hq⟩, by omega⟩
  · intro hi
    have hlen := congrArg List.length g6
    rw [ints_len] at hlen
    rw [List.take_of_length_le (by rw [List.length_map]; omega)] at g9
    refine ⟨⟨⟨by omega, h2, h3, h4, h5, h6, h7⟩, g7, by omega, ⟨_, g9⟩⟩, fun uD _ uH _ ks uF _ kF => ⟨hL, g4, g5, ?_, ?_⟩⟩
    · have := stamped_len (ks _ g9)
      have := plain_len g9
      omega
    · obtain ⟨hb, lb, db⟩ := star_mem_abs kF (n := 33) (t := 2) (by simp)
      have := stamped_mono (ks _ g9) (Hp.le_trans (by simpa using db) lb)
      rw [g4] at this
      exact this
end Go.Proofs
