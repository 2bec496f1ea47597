/- Tick: what it computes. -/
import Derived.Test.YtlmkkphojjodhaaBT
import Derived.Test.YtlmkkphojjodhaaBQ
import Derived.Test.YtlmkkphojjodhaaMU
set_option linter.unusedSimpArgs false
set_option linter.unusedVariables false
namespace Go.Proofs
open Go Go.Eng

set_option maxRecDepth 20000 in
set_option maxHeartbeats 4000000 in
theorem tick29_ok : tick29C.ok Try.prog := tick29_of (by simp [fault64_ok, set65_ok, ask66_ok, next67_ok, stamp68_ok, wait_ok]) fun ρ hg hp => by
  obtain ⟨⟨⟨a1, a2, a3, a4, a5, a6, a7, a8⟩, h2, h3, h4, h5⟩, h8, h9⟩ := hp
  simp only [m0, machV, tab_len, ints_len] at a1 a2 a3 a4 a5 a6 a7 a8
  simp [o_tick29, tick29C, fault64C, set65C, ask66C, waitC, next67C, stamp68C, tick29I, tick29J, arithOf, mOk, m0]
  generalize hM : machV (ρ 1).i (ρ 5).d (ρ 8).d (ρ 9).i (ρ 10).i (ρ 11).i (ρ 13).i (ρ 15).d (ρ 16).i (ρ 17).b = M
  have hbig : (ρ 13).i ≤ big := by unfold big; omega
  have hc1 : IntKind.u64.wrap ((ρ 9).i + 1) = clock1 M := by subst hM; rfl
  intro hL hcap
  refine ⟨h3, by omega, ⟨h3, hc1, by simp [tickPs], by simp [tickPs, plainRows]⟩, ?_⟩
  intro ui _ uk _ uK _ uT _ uS _ ur _ un _ ucap _ uM _ uc _ g0 g1 g2 g3 g4 g5 g6 g7 g8 g9 g10 g11 g12
  have hTI : TI (ρ 1).i uc.i (ρ 18).i (tabOf (ρ 5).d) (intsOf (ρ 8).d) (prbsOf (ρ 15).d) ui.i uk.i uT.d uS.d uK.d uM.d := ⟨g10, g11, g12⟩
  constructor
  · intro hi
    have hget := TI_get hTI g0 (by omega)
    have htb := a8 _ (List.mem_of_getElem? (show ((prbsOf (ρ 15).d).take (ρ 13).i.toNat)[ui.i.toNat]? = some _ by rw [List.getElem?_take, if_pos (by omega)]; exact hget))
    simp only at htb
    have hst := statAt_tab (d := uT.d) (i := cellI uK.d ui.i 1) htb.1 (by omega)
    rw [wrapAdd g0 hi hbig]
    have hal : ∀ d : List (List Value), plainRows d (askL (tabOf uT.d) (ρ 1).i (cellI uK.d ui.i 0) (cellI uK.d ui.i 1) (ρ 18).i) → d.length ≤ 2 := fun d h => by
      have h1 := congrArg List.length h
      have h2 := askL_len (tabOf uT.d) (ρ 1).i (cellI uK.d ui.i 0) (cellI uK.d ui.i 1) (ρ 18).i
      simp only [List.length_map] at h1
      omega
    refine ⟨g0, by omega, fun hage => ⟨htb.1, by omega, by omega, fun hs => ⟨⟨by omega, by omega, htb.1, by omega⟩, fun v1 _ v2 _ k1 k2 k3 k4 => ⟨⟨by omega, by omega, g2, by omega, g4, g5, by omega, by omega, g8, by omega, ?_⟩, by omega⟩⟩, fun hs => ⟨⟨by omega, by omega, g2, by omega, g4, g5, g6, g7, g8, by omega, ?_⟩, by omega⟩⟩, fun hage => ⟨fun hage4 => ⟨fun hask => ⟨⟨⟨by omega, by omega, by omega, by omega, by omega, by omega, by omega⟩, by omega, by omega⟩, fun v1 _ v2 _ k1 k2 => ⟨g8, by omega, by omega, by have := hal _ k2; omega, fun hcap' => ⟨by omega, g2, by omega, ⟨by omega, by omega, by omega, by omega, g4, by rw [putD_len]; exact g5, g6, g7, by omega, by have := hal _ k2; omega, ?_⟩, by omega⟩⟩⟩, fun hask hcap' => ⟨by omega, g2, by omega, ⟨by omega, by omega, by omega, by omega, g4, by rw [putD_len]; exact g5, g6, g7, g8, by omega, ?_⟩, by omega⟩⟩, fun hage4 hcap' => ⟨by omega, g2, by omega, ⟨by omega, by omega, by omega, by omega, g4, by rw [putD_len]; exact g5, g6, g7, g8, by omega, ?_⟩, by omega⟩⟩⟩
    · exact TI_drop hTI g0 (by omega) fun st t1 t2 => by
        unfold tickP ageOf
        rw [if_pos hage, t1, t2, hst, if_pos hs, k1, k2]
    · exact TI_drop hTI g0 (by omega) fun st t1 t2 => by
        unfold tickP ageOf
        rw [if_pos hage, t1, hst, if_neg hs, ← t1, ← t2]
    · rw [show v1.d.take v2.i.toNat = v1.d from List.take_of_length_le (by omega)]
      exact TI_keep hTI g2 g3 (by omega) k2 fun st t1 => by
        unfold tickP ageOf
        rw [if_neg (Int.not_le.2 hage), if_pos (And.intro hage4 hask), t1]
    · have := TI_keep (dN := []) (ns := []) hTI g2 g3 (by omega) rfl (a := cellI uK.d ui.i 0) (b := cellI uK.d ui.i 1) (c := cellI uK.d ui.i 2) (e := cellB uK.d ui.i 3) fun st t1 => by
        unfold tickP ageOf
        rw [if_neg (Int.not_le.2 hage), if_neg (fun h => by have h := h.2; simp only [hask] at h; cases h), List.append_nil]
      rwa [List.append_nil] at this
    · have := TI_keep (dN := []) (ns := []) hTI g2 g3 (by omega) rfl (a := cellI uK.d ui.i 0) (b := cellI uK.d ui.i 1) (c := cellI uK.d ui.i 2) (e := cellB uK.d ui.i 3) fun st t1 => by
        unfold tickP ageOf
        rw [if_neg (Int.not_le.2 hage), if_neg (fun h => absurd h.1 (Int.not_le.2 hage4)), List.append_nil]
      rwa [List.append_nil] at this
  · intro hi
    have hTS : tickTS M (ρ 18).i = tickPs (ρ 1).i uc.i (ρ 18).i (tabOf (ρ 5).d) (intsOf (ρ 8).d) ((prbsOf (ρ 15).d).take ui.i.toNat) := by
      rw [g4, show ui.i.toNat = (ρ 13).i.toNat by omega]; subst hM; rfl
    rw [← hTS] at g10 g11
    have hT1 : (tickTS M (ρ 18).i).tab = tabOf uT.d := by rw [g10]
    have hT2 : (tickTS M (ρ 18).i).since = intsOf uS.d := by rw [g10]
    have hT3 : (tickTS M (ρ 18).i).kept = (prbsOf uK.d).take uk.i.toNat := by rw [g10]
    refine ⟨by omega, fun uw _ kw => ⟨⟨by omega, g4, ?_, g6, g7, g8, by omega, g2, by omega, by omega, hT2.symm, hT3.symm, g11, by rw [hT1, tab_len]; exact g6, ?_⟩, ?_⟩⟩
    · rw [kw, wrapu64_id (by omega) (by omega), waitOf, tab_len, h2]
    · exact DI_zero hT1.symm
    intro vi _ vT _ vk _ vS _ vK _ vr _ vn _ vcap _ vM _ vw _ vc _ q0 q1 q2 q3 q4 q5 q6 q7 q8 q9 q10 q11 q12 q13 q14 q15
    have hDI : DI (tickTS M (ρ 18).i).tab (deadT (ρ 1).i (clock1 M) (waitOf (tabOf (ρ 5).d).length) (tickTS M (ρ 18).i).since (tickTS M (ρ 18).i).tab) vT.d vi.i := q15
    constructor
    · intro hlt
      rw [wrapAdd q0 hlt (by unfold big; omega)]
      have hget := DI_get hDI q0 (by omega)
      have hdg := dead_get (self := (ρ 1).i) (clock := clock1 M) (wait := waitOf (tabOf (ρ 5).d).length) (since := (tickTS M (ρ 18).i).since) hget
      have hct := cellI_tab (d := vT.d) q0 (by omega)
      have hsg : (tickTS M (ρ 18).i).since.getD vi.i.toNat 0 = cellI vS.d vi.i 0 := by rw [← q11, List.getD_eq_getElem?_getD, cellI_ints q0 (by omega)]; rfl
      have hin : ((vi.i.toNat : Nat) : Int) = vi.i := by omega
      refine ⟨q0, by omega, fun hne => ⟨fun hs2 => ⟨by omega, fun hage => ⟨⟨by omega, by omega, q2, q3, by rw [putD_len]; exact q4, q5, q6, q7, q8, q9, q10, q11, q12, q13, q14, ?_⟩, by omega⟩, fun hage => ⟨⟨by omega, by omega, q2, q3, q4, q5, q6, q7, q8, q9, q10, q11, q12, q13, q14, ?_⟩, by omega⟩⟩, fun hs2 => ⟨⟨by omega, by omega, q2, q3, q4, q5, q6, q7, q8, q9, q10, q11, q12, q13, q14, ?_⟩, by omega⟩⟩, fun heq => ⟨⟨by omega, by omega, q2, q3, q4, q5, q6, q7, q8, q9, q10, q11, q12, q13, q14, ?_⟩, by omega⟩⟩
      · refine DI_set hDI q0 (by omega) (by omega) ?_
        rw [hdg, deadE, if_pos]
        simp only [hin, hs2, hsg, ageOf, ← q2, ← q3]
        exact ⟨hne, trivial, hage⟩
      · refine DI_same hDI q0 ?_
        rw [hdg, hct, deadE, if_neg]
        simp only [hin, hs2, hsg, ageOf, ← q2, ← q3]
        rintro ⟨_, _, h⟩; omega
      · refine DI_same hDI q0 ?_
        rw [hdg, hct, deadE, if_neg]
        rintro ⟨_, h, _⟩; exact hs2 h
      · refine DI_same hDI q0 ?_
        rw [hdg, hct, deadE, if_neg]
        rintro ⟨h, _, _⟩; exact h (by omega)
    · intro hge
      have hdt := DI_all hDI (by omega) (by rw [dead_len]; omega)
      have hpl : ∀ p, plainRows (vM.d ++ [row0 ⟨1, 0, p, IntKind.u64.wrap ((ρ 10).i + 1), (ρ 1).i, 0⟩]) ((tickTS M (ρ 18).i).msgs ++ [⟨1, 0, p, IntKind.u64.wrap ((ρ 10).i + 1), (ρ 1).i, 0⟩]) := fun p => plain_snoc q13
      refine ⟨⟨by omega, by omega, by omega, by omega⟩, fun up _ kp _ _ => ⟨by omega, by omega, fun _ _ _ _ _ _ => ⟨q6, by omega, fun _ _ _ _ => ⟨⟨⟨by omega, by omega, by omega, by omega, by omega, ?_, ?_⟩, q6, by unfold big; omega, ?_⟩, fun uD _ uH _ kst uF _ kF => ⟨hL, ?_, ?_, q4, by omega, by omega, by omega, ?_⟩⟩⟩⟩⟩
      · rw [kp]; exact (nextP_range (by omega) (by omega) a6).1
      · rw [kp]; exact (nextP_range (by omega) (by omega) a6).2
      · exact ⟨_, hpl up.i⟩
      · have hTM : tickM M (ρ 18).i = ⟨(ρ 1).i, deadT (ρ 1).i (clock1 M) (waitOf (tabOf (ρ 5).d).length) (tickTS M (ρ 18).i).since (tickTS M (ρ 18).i).tab, (tickTS M (ρ 18).i).since, clock1 M, IntKind.u64.wrap ((ρ 10).i + 1), nextP (tabOf (ρ 5).d).length (ρ 1).i (ρ 11).i, (tickTS M (ρ 18).i).kept ++ [⟨IntKind.u64.wrap ((ρ 10).i + 1), nextP (tabOf (ρ 5).d).length (ρ 1).i (ρ 11).i, clock1 M, false⟩], (ρ 16).i, (ρ 17).b⟩ := by subst hM; rfl
        rw [hTM, ← hdt, ← q11, ← q12, tab_len, ← h2, ← kp, ← q2]
        have hk : ((prbsOf vK.d).take vk.i.toNat).length = vk.i.toNat := by rw [List.length_take, prbs_len]; omega
        unfold machV
        rw [toNat_succ q8]
        congr 1
        simp only [prbsOf, List.map_append, List.map_take, List.map_cons, List.map_nil]
        rw [List.take_of_length_le]
        · rfl
        · rw [List.length_append, List.length_take, List.length_map]; simp; omega
      · have := stamped_len (kst _ (hpl up.i))
        have hq := plain_len q13
        rw [List.length_append] at this; simp only [List.length_cons, List.length_nil] at this; omega
      · have hTM : tickMsgs M (ρ 18).i = (tickTS M (ρ 18).i).msgs ++ [⟨1, 0, up.i, IntKind.u64.wrap ((ρ 10).i + 1), (ρ 1).i, 0⟩] := by
          rw [kp]; subst hM; unfold tickMsgs; simp only [machV, tab_len, h2]
        have hTT : (tickM M (ρ 18).i).tab = tabOf vT.d := by rw [hdt]; subst hM; rfl
        rw [hTM, hTT]
        obtain ⟨hb, lb, db⟩ := star_mem kF (List.mem_cons_self ..)
        have hl : Hp.le uH.h hb := by simpa [SH.den] using db
        exact stamped_mono (kst _ (hpl up.i)) (Hp.le_trans hl lb)
end Go.Proofs
