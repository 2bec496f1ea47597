/- The document's polynomial through points: proofs. -/
import Derived.Test.YtkiheclcmgbmnaaVA
import Derived.Test.YtkiheclcmgbmnaaVC
set_option linter.unusedSimpArgs false
set_option linter.unusedVariables false
namespace Go.Proofs
open Go Go.Eng
set_option maxRecDepth 100000
theorem by86_ok : by86C.ok Try.prog := by86_of (by simp [times53_ok]) fun ρ hg hp => by
  obtain ⟨a0, a1, a2, a3⟩ := hp
  simp (config := { maxSteps := 4000000 }) [o_by86, by86C, by86I, times53C]
  have e1 : arithOf .add .i64 (ρ 1).i 1 = (ρ 1).i + 1 := add64 (by omega) (by omega)
  rw [e1]
  refine ⟨by omega, by omega, by omega, ⟨rfl, by omega, allB_rep, by omega, fun l => ?_⟩, fun q _ dq _ i _ q0 q1 q2 i0 i1 hq => ⟨fun hi => ?_, fun hi => ⟨q0, q1, q2, ?_⟩⟩⟩
  · rw [pol_rep, if_neg (by omega), if_neg (by omega)]; rfl
  · have e2 : arithOf .add .i64 i.i 1 = i.i + 1 := add64 (by omega) (by omega)
    have hc := allB_get a2 i0 (by omega)
    rw [e2]
    refine ⟨by omega, by omega, by omega, i0, by omega, by omega, by omega, ⟨hc, a3⟩, fun m _ hm => ⟨⟨q0, by rw [putD_len, putD_len]; exact q1, allB_put (allB_put q2 xor_byte.1 xor_byte.2) xor_byte.1 xor_byte.2, by omega, by omega, ?_⟩, by omega⟩⟩
    simp only [ltI] at hq ⊢
    rw [show (i.i + 1).toNat = i.i.toNat + 1 by omega]
    have hp1 : ∀ l, polF (bI (putD dq.d (i.i + 1) 0 [.int .u8 (arithOf .xor .u8 (cellI dq.d (i.i + 1) 0) (cellI (ρ 3).d i.i 0))])) l = if l = i.i.toNat + 1 then polF (bI dq.d) (i.i.toNat + 1) ^^^ polF (bI (ρ 3).d) i.i.toNat else polF (bI dq.d) l := fun l => by
      rw [pol_put (by omega) (by omega), toF_xor, ← pol_cell (by omega) (by omega), ← pol_cell (by omega) (by omega), show (i.i + 1).toNat = i.i.toNat + 1 by omega]
    have hcell : toF (cellI (putD dq.d (i.i + 1) 0 [.int .u8 (arithOf .xor .u8 (cellI dq.d (i.i + 1) 0) (cellI (ρ 3).d i.i 0))]) i.i 0) = polF (bI dq.d) i.i.toNat := by
      rw [← pol_cell i0 (by rw [putD_len]; omega), hp1, if_neg (by omega)]
    have hp2 : ∀ l, polF (bI (putD (putD dq.d (i.i + 1) 0 [.int .u8 (arithOf .xor .u8 (cellI dq.d (i.i + 1) 0) (cellI (ρ 3).d i.i 0))]) i.i 0 [.int .u8 (arithOf .xor .u8 (cellI (putD dq.d (i.i + 1) 0 [.int .u8 (arithOf .xor .u8 (cellI dq.d (i.i + 1) 0) (cellI (ρ 3).d i.i 0))]) i.i 0) m.i)])) l =
        if l = i.i.toNat then polF (bI dq.d) i.i.toNat ^^^ fmul (polF (bI (ρ 3).d) i.i.toNat) (toF (ρ 5).i) else if l = i.i.toNat + 1 then polF (bI dq.d) (i.i.toNat + 1) ^^^ polF (bI (ρ 3).d) i.i.toNat else polF (bI dq.d) l := fun l => by
      rw [pol_put (by omega) (by rw [putD_len]; omega), toF_xor, hcell, hm, toF_mulF hc a3, ← pol_cell i0 (by omega), hp1]
    refine by_step hq ?_ ?_ ?_
    · rw [hp2, if_pos rfl]
    · rw [hp2, if_neg (by omega), if_pos rfl]
    · intro l h1 h2
      rw [hp2, if_neg h1, if_neg h2]
  · simp only [ltI] at hq
    exact by_end (fun l hl => pol_len (by omega)) hq
theorem without87_ok : without87C.ok Try.prog := without87_of (by simp [times53_ok]) fun ρ hg hp => by
  obtain ⟨a0, a1, a2, a3, a4⟩ := hp
  simp (config := { maxSteps := 4000000 }) [o_without87, without87C, without87I, times53C]
  have e1 : arithOf .sub .i64 (ρ 1).i 1 = (ρ 1).i - 1 := sub64 (by omega) (by omega)
  rw [e1]
  refine ⟨by omega, by omega, by omega, ⟨rfl, by omega, allB_rep, by omega, by omega, ⟨by omega, by omega⟩, by rw [pol_rep]; rfl, fun l h1 h2 => by omega⟩, fun q _ dq _ c _ i _ q0 q1 q2 i0 i1 c0 c1 hq => ⟨fun hi => ?_, fun hi => ⟨q0, q1, q2, fun l h1 h2 => hq l (by omega) h2⟩⟩⟩
  have e2 : arithOf .sub .i64 i.i 1 = i.i - 1 := sub64 (by omega) (by omega)
  have hc := allB_get a3 i0 (by omega)
  rw [e2]
  refine ⟨i0, i1, by omega, ⟨c0, a4⟩, fun m _ hm => ⟨by omega, by omega, by omega, ⟨q0, by rw [putD_len]; exact q1, allB_put q2 xor_byte.1 xor_byte.2, by omega, by omega, xor_byte, by rw [pol_put (by omega) (by omega), if_pos rfl], fun l h1 h2 => ?_⟩, by omega⟩⟩
  rw [pol_put (by omega) (by omega), pol_put (by omega) (by omega), if_neg (show ¬ l = (i.i - 1).toNat by omega)]
  by_cases hl : l = i.i.toNat
  · subst hl
    rw [if_pos (by omega), toF_xor, hm, toF_mulF c0 a4, ← pol_cell i0 (by omega), c1, fmul_comm]
  · rw [if_neg (by omega)]
    exact hq l (by omega) h2
set_option maxHeartbeats 4000000 in
theorem through66_ok : through66C.ok Try.prog := through66_of (by simp [times53_ok, by86_ok, without87_ok, at61_ok, over54_ok, times53_ok]) fun ρ hg hp => by
  obtain ⟨a0, a1, a2⟩ := hp
  simp (config := { maxSteps := 4000000 }) [o_through66, through66C, through66A, through66B, through66C2, through66D, through66E, thr, thrD, thrAll, by86C, without87C, at61C, over54C, times53C]
  have hA : ∀ {i : Int}, 0 ≤ i → i < (ρ 1).i → byteP (cellI (ρ 3).d i 0) ∧ byteP (cellI (ρ 3).d i 1) := fun h0 h1 => a1 _ h0 (by omega)
  refine ⟨by omega, fun h => .inl ⟨.inl (by omega), rfl⟩, fun hn0 => ⟨fun h => .inl ⟨.inr (by omega), rfl⟩, fun hn => ?_⟩⟩
  have hn1 : 1 ≤ (ρ 1).i := by omega
  refine ⟨⟨⟨hn1, hn⟩, by omega, fun i j hi => by omega⟩, fun i _ _ _ i0 i1 hd => ⟨fun hi => ⟨⟨⟨hn1, hn⟩, i0, hi, hd, i0, fun j h1 h2 => by omega⟩, fun i' _ j _ _ _ i0' i1' hii hd' j0 j1 hne => ⟨fun hj => ⟨i0', i1', by omega, j0, by omega, by omega, fun he => ?_, fun he => ⟨⟨⟨hn1, hn⟩, i0', i1', hii, hd', ?_⟩, ?_⟩⟩, fun hj => ⟨⟨⟨hn1, hn⟩, ?_⟩, ?_⟩⟩⟩, fun hi => ?_⟩⟩
  · refine .inr ⟨by omega, by omega, fun h => ?_, rfl⟩
    have := h i'.i.toNat j.i.toNat (by omega) (by omega) (by rw [ptX_cell i0', ptX_cell j0, he])
    omega
  · rw [add64 (by omega) (by omega)]
    exact ⟨by omega, by omega, fun j' h1 h2 => by
      by_cases hjj : j' = j.i
      · rw [hjj]; exact he
      · exact hne j' h1 (by omega)⟩
  · rw [add64 (by omega) (by omega)]; omega
  · rw [add64 (by omega) (by omega), show (i'.i + 1).toNat = i'.i.toNat + 1 by omega]
    refine ⟨by omega, by omega, distinct_step hd' fun j' hj' he => hne (j' : Int) (by omega) (by omega) ?_⟩
    rw [ptX_cell i0'] at he
    exact toF_inj (hA i0' i1').1 (hA (by omega) (by omega)).1 he
  · rw [add64 (by omega) (by omega)]; omega
  have hdd : distinct (ρ 3).d.length (ptX (ρ 3).d) := by rwa [show i.i.toNat = (ρ 3).d.length by omega] at hd
  refine ⟨⟨⟨⟨hn1, hn⟩, hdd⟩, by omega, fun r hr => ?_, fun l => pol_one⟩, fun p _ dp _ k _ _ _ _ k0 k1 p0 p1 p2 hp => ⟨fun hk => ⟨k0, by omega, ⟨p1, by omega, p2, (hA k0 hk).1⟩, fun p' _ dp' _ p0' p1' p2' hp' => ⟨⟨⟨⟨hn1, hn⟩, hdd⟩, ?_⟩, ?_⟩⟩, fun hk => ?_⟩⟩
  · simp only [List.mem_singleton] at hr
    subst hr
    exact ⟨by simp [rowI, vInt], by simp [rowI, vInt]⟩
  · rw [add64 (by omega) (by omega), show (k.i + 1).toNat = k.i.toNat + 1 by omega]
    refine ⟨by omega, by omega, by omega, p1', p2', fun l => ?_⟩
    rw [hp', monF, ← ptX_cell k0]
    simp only [byF, hp]
  · rw [add64 (by omega) (by omega)]; omega
  have hpm : ∀ l, polF (bI dp.d) l = monF (ptX (ρ 3).d) (ρ 3).d.length l := fun l => by rw [hp l, show k.i.toNat = (ρ 3).d.length by omega]
  refine ⟨by omega, ⟨⟨⟨⟨hn1, hn⟩, hdd⟩, by omega, p1, p2, hpm⟩, by omega, by omega, allB_rep, lag_zero (by omega)⟩, fun P _ dP _ dS _ i _ _ _ _ P0 P1 P2 hP i0 i1 S0 S1 hS => ⟨fun hi => ?_, fun hi => ⟨⟨by omega, by omega, hdd⟩, S1, lag_end (by omega) hS⟩⟩⟩
  refine ⟨i0, by omega, ⟨by omega, P1, by omega, P2, (hA i0 hi).1⟩, fun Q _ dQ _ Q0 Q1 Q2 hQ => ⟨⟨by omega, by unfold Go.Eng.big; omega, Q1, Q2, (hA i0 hi).1⟩, fun v _ hv => ?_⟩⟩
  have hbQ : bytesL (bI dQ.d) := allB_list Q2
  have hvB : byteP v.i := by rw [hv]; exact horner_isB (hA i0 hi).1 hbQ
  have hpart : partOk (ρ 3).d i.i.toNat (bI dQ.d) := part_ok (p := bI dP.d) (by omega) (by rw [bI_len]; omega) hbQ hP fun l h1 h2 => by
    rw [hQ l h1 (by omega), ptX_cell i0]
  refine ⟨hvB, fun w _ hw => ⟨⟨(hA i0 hi).2, by rw [hw]; exact invF_isB hvB⟩, fun c _ hc => ⟨⟨⟨⟨⟨hn1, hn⟩, hdd⟩, P0, P1, P2, hP⟩, i0, hi, S0, S1, Q1, Q2, hpart, ?_, ?_, by omega, bI dS.d, hS, ?_⟩, ?_⟩⟩⟩
  · rw [hc]; exact mulF_isB (hA i0 hi).2 (by rw [hw]; exact invF_isB hvB)
  · rw [hc, toF_mulF (hA i0 hi).2 (by rw [hw]; exact invF_isB hvB), hw, toF_invF hvB, hv, horner_pol (n := (ρ 3).d.length) (hA i0 hi).1 hbQ (by rw [bI_len]; omega), ptY_cell i0, ptX_cell i0]
  · exact rowTo_zero.symm
  · intro P' _ dP' _ dS' _ i' _ Q' _ dQ' _ c' _ j _ _ _ _ P0' P1' P2' hP' i0' i1' hii S0' S1' Q1' Q2' hpart' c0' c1' j0 j1 l hl hs
    have hbQ' : bytesL (bI dQ'.d) := allB_list Q2'
    have hQl : dQ'.d.length = (ρ 3).d.length := by have := hpart'.1; rwa [bI_len] at this
    refine ⟨fun hj => ?_, fun hj => ⟨⟨⟨⟨⟨hn1, hn⟩, hdd⟩, P0', P1', P2', hP'⟩, ?_⟩, ?_⟩⟩
    · have hcb := allB_get Q2' j0 (by omega)
      refine ⟨j0, by omega, by omega, by omega, ⟨c0', hcb⟩, fun m _ hm => ⟨⟨⟨⟨⟨hn1, hn⟩, hdd⟩, P0', P1', P2', hP'⟩, i0', i1', hii, by rw [putD_len]; exact S0', allB_put S1' xor_byte.1 xor_byte.2, Q1', Q2', hpart', c0', c1', ?_⟩, ?_⟩⟩
      · rw [add64 (by omega) (by omega), show (j.i + 1).toNat = j.i.toNat + 1 by omega]
        refine ⟨by omega, by omega, l, hl, ?_⟩
        have hll : j.i.toNat < l.length := by rw [hl.1]; omega
        rw [bI_put, ← cell_getD j0 (by omega), hs, hm, ← cell_getD j0 (by omega), rowTo_get hll, if_neg (by omega)]
        exact rowTo_step hll
      · rw [add64 (by omega) (by omega)]; omega
    · rw [add64 (by omega) (by omega), show (i'.i + 1).toNat = i'.i.toNat + 1 by omega]
      refine ⟨by omega, by omega, S0', S1', lag_step hdd (by omega) hl hpart' c0' c1' ?_⟩
      rw [hs, show j.i.toNat = (ρ 3).d.length by omega]
      rfl
    · rw [add64 (by omega) (by omega)]; omega
end Go.Proofs
