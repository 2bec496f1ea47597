/- Receive: what it computes. -/
import Derived.Test.YtlmkkphojjodhaaNP
set_option linter.unusedSimpArgs false
set_option linter.unusedVariables false
namespace Go.Proofs
open Go Go.Eng

set_option maxRecDepth 20000 in
set_option maxHeartbeats 4000000 in
theorem recv58_ok : recv58C.ok Try.prog := recv58_of (by simp [fault64_ok, accepts81_ok, join_ok, newer_ok, set65_ok, delete82_ok, stamp68_ok]) fun ρ hg hp => by
  obtain ⟨⟨⟨a1, a2, a3, a4, a5, a6, a7, a8⟩, h2, h3, h4, h5⟩, h8, h9⟩ := hp
  simp only [m0, machV, tab_len, ints_len] at a1 a2 a3 a4 a5 a6 a7 a8
  simp [o_recv58, recv58C, recv58I, fault64C, accepts81C, joinD, joinC, newerD, newerC, set65C, delete82C, stamp68C, arithOf, mOk, m0, msgV]
  generalize hM : machV (ρ 1).i (ρ 5).d (ρ 8).d (ρ 9).i (ρ 10).i (ρ 11).i (ρ 13).i (ρ 15).d (ρ 16).i (ρ 17).b = M
  generalize hG : (⟨(ρ 18).i, (ρ 19).i, (ρ 20).i, (ρ 21).i, (ρ 22).i, (ρ 23).i⟩ : Msg) = G
  have hbig : (16 : Int) ≤ big := by decide
  have hbig2 : (1000000 : Int) ≤ big := by decide
  have hM1 : M.left = (ρ 17).b := by subst hM; rfl
  have hM2 : M.self = (ρ 1).i := by subst hM; rfl
  have hM3 : (M.tab.length : Int) = (ρ 3).i := by subst hM; simp only [machV, tab_len]; omega
  intro _ _
  refine ⟨fun hL => ?_, fun hL => ⟨⟨by omega, h8, h9⟩, fun ub _ kb => ⟨fun hb => ?_, fun hb => ?_⟩⟩⟩
  · have hE : recvE M G (tabOf (ρ 27).d) = 30 := by rw [recvE, hM1, if_pos hL]
    exact ⟨hE.symm, by rw [recvAns, hE]; simp, by rw [recvS, hE]; simp, h3, h4⟩
  · have hE : recvE M G (tabOf (ρ 27).d) = 2 := by rw [recvE, hM1, if_neg (by simp [hL]), hM2, hM3, ← kb, hb]; simp
    exact ⟨hE.symm, by rw [recvAns, hE]; simp, by rw [recvS, hE]; simp, h3, h4⟩
  rw [hb] at kb
  have kb' := kb
  have hE : recvE M G (tabOf (ρ 27).d) = 0 := by rw [recvE, hM1, if_neg (by simp [hL]), hM2, hM3, ← kb]; simp
  have hSM : recvS M G (tabOf (ρ 27).d) = recvM M G (tabOf (ρ 27).d) := by rw [recvS, if_pos hE]
  have hAn : recvAns M G (tabOf (ρ 27).d) = if forMe (ρ 1).i G = false then [recvMsg (ρ 1).i G] else [] := by rw [recvAns, hE, hM2]; simp
  rw [hE, hSM, hAn]
  have hlt : ((tabOf (ρ 27).d).length : Int) = (ρ 3).i := by
    have := kb'.symm; simp only [acceptsP, Bool.and_eq_true, decide_eq_true_eq] at this; exact this.1.2
  rw [tab_len] at hlt
  refine ⟨by omega, ⟨by omega, fun j hj => by omega, fun j hj => by omega, fun hj => by omega⟩, ?_⟩
  intro ux _ ui _ uy _ uT _ uS _ uc _ g0 g1 g2 g3 g4 g5 g6
  have m4 : mixed (tabOf (ρ 5).d) (recvTab (ρ 1).i (tabOf (ρ 5).d) (tabOf (ρ 27).d)) (tabOf uT.d) ui.i := g4
  have m5 : mixed (intsOf (ρ 8).d) (recvSince (ρ 1).i (ρ 9).i (tabOf (ρ 5).d) (intsOf (ρ 8).d) (tabOf (ρ 27).d)) (intsOf uS.d) ui.i := g5
  constructor
  · intro hi
    rw [wrapAdd g0 hi h9]
    have hx : (tabOf uT.d)[ui.i.toNat]? = some (cellI uT.d ui.i 0, cellI uT.d ui.i 1) := cellI_tab g0 (by omega)
    have hx' := (mixed_get m4 g0).symm.trans hx
    have hy : (tabOf (ρ 27).d)[ui.i.toNat]? = some (cellI (ρ 27).d ui.i 0, cellI (ρ 27).d ui.i 1) := cellI_tab g0 (by omega)
    have hrt := recvTab_get (self := (ρ 1).i) hx' hy
    rw [Int.toNat_of_nonneg g0] at hrt
    have hchal : ui.i ≠ (ρ 1).i → uc.i = if (ρ 1).i < ui.i + 1 then recvChal (ρ 1).i (tabOf (ρ 5).d) (tabOf (ρ 27).d) (ρ 16).i else (ρ 16).i := fun hne => by
      rw [g6]
      by_cases hc : (ρ 1).i < ui.i
      · rw [if_pos hc, if_pos (by omega)]
      · rw [if_neg hc, if_neg (by omega)]
    have step : ∀ (z : Ent) (v1 v2 : U), ui.i ≠ (ρ 1).i → joinE (cellI uT.d ui.i 0, cellI uT.d ui.i 1) (cellI (ρ 27).d ui.i 0, cellI (ρ 27).d ui.i 1) = z → tabOf v1.d = setTab (tabOf uT.d) ui.i z → intsOf v2.d = setSince (tabOf uT.d) (intsOf uS.d) (ρ 9).i ui.i z → mixed (tabOf (ρ 5).d) (recvTab (ρ 1).i (tabOf (ρ 5).d) (tabOf (ρ 27).d)) (tabOf v1.d) (ui.i + 1) ∧ mixed (intsOf (ρ 8).d) (recvSince (ρ 1).i (ρ 9).i (tabOf (ρ 5).d) (intsOf (ρ 8).d) (tabOf (ρ 27).d)) (intsOf v2.d) (ui.i + 1) := fun z v1 v2 hne hz k1 k2 => by
      rw [if_neg hne, hz] at hrt
      rw [k1, k2, setTab, ← hz]
      rw [← hz] at hrt
      exact ⟨mixed_set m4 g0 (by rw [tab_len]; omega) hrt, setSince_mixed m5 hx hx' hy g0 hne (by rw [ints_len]; omega) (by rw [ints_len]; omega)⟩
    refine ⟨g0, by omega, fun hne => ⟨by omega, by omega, fun hnw => ⟨⟨by omega, by omega, g0, by omega⟩, fun v1 _ v2 _ k1 k2 k3 k4 => ?_⟩, fun hnw => ⟨⟨by omega, by omega, g0, by omega⟩, fun v1 _ v2 _ k1 k2 k3 k4 => ?_⟩⟩, fun heq => ⟨by omega, by omega, fun hnw => ?_, fun hnw1 hnw2 => ?_⟩⟩
    · obtain ⟨s1, s2⟩ := step _ v1 v2 hne (by simp only [joinE, newerE, hnw, if_true]) k1 k2
      exact ⟨⟨by omega, by omega, by omega, by omega, s1, s2, hchal hne⟩, by omega⟩
    · obtain ⟨s1, s2⟩ := step _ v1 v2 hne (by simp only [joinE, newerE, hnw]; simp) k1 k2
      exact ⟨⟨by omega, by omega, by omega, by omega, s1, s2, hchal hne⟩, by omega⟩
    all_goals
      have s1 := mixed_same m4 g0 (by rw [hrt, if_pos heq, hx'])
      have s2 : mixed (intsOf (ρ 8).d) (recvSince (ρ 1).i (ρ 9).i (tabOf (ρ 5).d) (intsOf (ρ 8).d) (tabOf (ρ 27).d)) (intsOf uS.d) (ui.i + 1) := mixed_same m5 g0 (by
        have hsg : (intsOf (ρ 8).d)[ui.i.toNat]? = some _ := List.getElem?_eq_getElem (by rw [ints_len]; omega)
        rw [recvSince_get hx' hy hsg, if_neg (fun h => h.1 (by omega)), hsg])
      have e1 := entAt_get hx'
      have e2 := entAt_get hy
      rw [show ui.i.toNat = (ρ 1).i.toNat by omega] at e1 e2
    · have hnw' : newerE (cellI (ρ 27).d ui.i 0, cellI (ρ 27).d ui.i 1) (cellI uT.d ui.i 0, cellI uT.d ui.i 1) = true := by
        simp only [newerE, newerB, Bool.or_eq_true, decide_eq_true_eq, Bool.and_eq_true, beq_iff_eq]; omega
      refine ⟨⟨by omega, by omega, g2, g3, s1, s2, ?_⟩, by omega⟩
      rw [if_pos (show (ρ 1).i < ui.i + 1 by omega), g6, if_neg (show ¬ (ρ 1).i < ui.i by omega)]
      simp only [recvChal, e1, e2, hnw', if_true]
      omega
    · have hnw' : newerE (cellI (ρ 27).d ui.i 0, cellI (ρ 27).d ui.i 1) (cellI uT.d ui.i 0, cellI uT.d ui.i 1) = false := by
        rw [Bool.eq_false_iff]
        simp only [newerE, newerB, ne_eq, Bool.or_eq_true, decide_eq_true_eq, Bool.and_eq_true, beq_iff_eq]; omega
      refine ⟨⟨by omega, by omega, g2, g3, s1, s2, ?_⟩, by omega⟩
      rw [if_pos (show (ρ 1).i < ui.i + 1 by omega), g6, if_neg (show ¬ (ρ 1).i < ui.i by omega)]
      simp [recvChal, e1, e2, hnw']
  · intro hge
    have hT := mixed_all m4 (by rw [tab_len]; omega) (by rw [recvTab_len, tab_len]; omega)
    have hS := mixed_all m5 (by rw [ints_len]; omega) (by rw [recvSince_len, ints_len]; omega)
    have hC : uc.i = recvChal (ρ 1).i (tabOf (ρ 5).d) (tabOf (ρ 27).d) (ρ 16).i := by rw [g6, if_pos (by omega)]
    have hRM : ∀ (np : Int) (dP : List (List Value)), (prbsOf dP).take np.toNat = (if forMe (ρ 1).i G then ((prbsOf (ρ 15).d).take (ρ 13).i.toNat).filter (fun p => !(p.seq == G.seq)) else (prbsOf (ρ 15).d).take (ρ 13).i.toNat) → machV (ρ 1).i uT.d uS.d (ρ 9).i (ρ 10).i (ρ 11).i np dP uc.i (ρ 17).b = recvM M G (tabOf (ρ 27).d) := fun np dP h => by
      subst hM
      unfold machV recvM
      simp only [hT, hS, hC, h]
    have hTT : (recvM M G (tabOf (ρ 27).d)).tab = tabOf uT.d := by rw [hT]; subst hM; rfl
    have hst : ∀ (g : Msg) (h : Hp) (d : List (List Value)), recvMsg (ρ 1).i G = g → (∀ ms : List Msg, plainRows [row0 g] ms → stamped h ms (ρ 1).i (tabOf uT.d) ms.length d) → ∀ h', Hp.le h h' → stamped h' [recvMsg (ρ 1).i G] (ρ 1).i (recvM M G (tabOf (ρ 27).d)).tab 1 d := fun g h d hg hs h' hl => by
      rw [hg, hTT]; exact stamped_mono (hs [g] rfl) hl
    have hle : ∀ {ρ' : Env} {l : List SH} {H h : Hp}, star ρ' (SH.abs 149 2 :: l) H → (ρ' 149).h = h → Hp.le h H := fun hs he => by
      obtain ⟨hb, lb, db⟩ := star_mem hs (List.mem_cons_self ..)
      subst he
      exact Hp.le_trans (by simpa [SH.den] using db) lb
    have hok : ((ρ 3).i = uT.d.length ∧ 2 ≤ (ρ 3).i ∧ (ρ 3).i ≤ 16 ∧ 0 ≤ (ρ 1).i ∧ (ρ 1).i < (ρ 3).i ∧ 0 ≤ (ρ 11).i ∧ (ρ 11).i < (ρ 3).i) := ⟨by omega, by omega, by omega, by omega, by omega, by omega, by omega⟩
    intro uz _
    refine ⟨fun k3 => ⟨fun kt => ?_, fun kt => ?_⟩, fun k3 => ⟨fun k2 => ⟨fun ko => ?_, fun ko => ?_⟩, fun k2 => ?_⟩⟩
    · have hfm : forMe (ρ 1).i G = false := by subst hG; simp [forMe, *]
      intro _ _
      refine ⟨⟨hok, by omega, [⟨1, 0, (ρ 23).i, (ρ 21).i, (ρ 19).i, 0⟩], rfl⟩, fun uD _ uH _ ks uF _ kF => ⟨rfl, by rw [if_pos hfm], hRM _ _ ?_, hst ⟨1, 0, (ρ 23).i, (ρ 21).i, (ρ 19).i, 0⟩ _ _ ?_ ks _ (hle kF ?_)⟩⟩
      · subst hG; simp [forMe, k3]
      · subst hG; simp [recvMsg, k3, kt]
      · simp
    · have hfm : forMe (ρ 1).i G = false := by subst hG; simp [forMe, *]
      intro _ _
      refine ⟨⟨hok, by omega, [⟨2, 0, (ρ 19).i, (ρ 21).i, (ρ 19).i, 0⟩], rfl⟩, fun uD _ uH _ ks uF _ kF => ⟨rfl, by rw [if_pos hfm], hRM _ _ ?_, hst ⟨2, 0, (ρ 19).i, (ρ 21).i, (ρ 19).i, 0⟩ _ _ ?_ ks _ (hle kF ?_)⟩⟩
      · subst hG; simp [forMe, k3]
      · subst hG; simp [recvMsg, k3, kt]
      · simp
    · have hfm : forMe (ρ 1).i G = true := by subst hG; simp [forMe, *]
      refine ⟨⟨h4, h3, by omega⟩, fun un _ uP _ q1 q2 q3 q4 => ⟨rfl, by rw [if_neg (by simp [hfm])], hRM _ _ ?_, q1, q2, q3⟩⟩
      · subst hG; simp only [forMe, k2, ko, q4]; simp [seqIs]
    · have hfm : forMe (ρ 1).i G = false := by subst hG; simp [forMe, *]
      intro _ _
      refine ⟨⟨hok, by omega, [⟨2, 0, (ρ 22).i, (ρ 21).i, (ρ 22).i, 0⟩], rfl⟩, fun uD _ uH _ ks uF _ kF => ⟨rfl, by rw [if_pos hfm], hRM _ _ ?_, hst ⟨2, 0, (ρ 22).i, (ρ 21).i, (ρ 22).i, 0⟩ _ _ ?_ ks _ (hle kF ?_)⟩⟩
      · subst hG; simp [forMe, ko]
      · subst hG; simp [recvMsg, k2]
      · simp
    · have hfm : forMe (ρ 1).i G = false := by subst hG; simp [forMe, *]
      intro _ _
      refine ⟨⟨hok, by omega, [⟨2, 0, (ρ 19).i, (ρ 21).i, (ρ 22).i, 0⟩], rfl⟩, fun uD _ uH _ ks uF _ kF => ⟨rfl, by rw [if_pos hfm], hRM _ _ ?_, hst ⟨2, 0, (ρ 19).i, (ρ 21).i, (ρ 22).i, 0⟩ _ _ ?_ ks _ (hle kF ?_)⟩⟩
      · subst hG; simp [forMe, k2]
      · subst hG; simp [recvMsg, k2, k3]
      · simp
set_option maxRecDepth 20000 in
theorem receive23_ok : receive23C.ok Try.prog := receive23_of (by simp [own21_ok, recv58_ok]) fun ρ hg hp => by
  obtain ⟨h1, h2, h3⟩ := hp
  have h0 : (ρ 13).i ≤ (ρ 15).d.length := h1.2.2.2.1
  simp only [mPre, m0] at h1
  simp [o_receive23, receive23C, receive23I, receive23J, recv58C, own21C, arithOf, m0, msgV, mPre]
  generalize hM : machV (ρ 1).i (ρ 5).d (ρ 8).d (ρ 9).i (ρ 10).i (ρ 11).i (ρ 13).i (ρ 15).d (ρ 16).i (ρ 17).b = M at h1 ⊢
  generalize hG : (⟨(ρ 18).i, (ρ 19).i, (ρ 20).i, (ρ 21).i, (ρ 22).i, (ρ 23).i⟩ : Msg) = G
  intro _ _
  refine ⟨⟨h2, h3⟩, fun u1 _ u2 _ u3 _ hd => ?_⟩
  rw [hd]
  refine ⟨⟨h1, h2, h3⟩, fun v1 _ v2 _ v3 _ v4 _ v5 _ v6 _ k1 k2 k3 k4 k5 k6 => ⟨⟨by omega, by omega, k1, k2, k3, k4, k5, k6⟩, ?_⟩, fun v1 _ v2 _ v3 _ v4 _ v5 _ v6 _ v7 _ k1 k2 k3 k4 => ⟨⟨by omega, by omega, k1, k2, k3, k4⟩, ?_⟩⟩
  · intro ui _ ux _ ue _ uc _ un _ ut _ us _ up _ g0 g1 g2 g3 g4 g5 g6 g7 g8
    refine ⟨by omega, fun hi => ⟨g0, by omega, ?_⟩, fun hi => ⟨g3, g4, g5, g6, g7, g8⟩⟩
    rw [wrapAdd g0 hi h3]
    exact ⟨⟨by omega, by omega, by rw [putD_len]; exact g2, g3, g4, g5, g6, g7, g8⟩, by omega⟩
  · intro _ _ ui _ _ _ ux _ _ _ _ _ _ _ uc _ ut _ us _ ud _ uh _ g0 g1 g2 g3 g4 g5 g6
    refine ⟨by omega, fun hi => ⟨g0, by omega, ?_⟩, fun hi uF _ kF => ⟨g3, g4, g5, ?_⟩⟩
    · rw [wrapAdd g0 hi h3]
      exact ⟨⟨by omega, by omega, by rw [putD_len]; exact g2, g3, g4, g5, g6⟩, by omega⟩
    · obtain ⟨hb, lb, db⟩ := star_mem kF (List.mem_cons_of_mem _ (List.mem_cons_of_mem _ (List.mem_cons_self ..)))
      have hl : Hp.le uh.h hb := by simpa [SH.den] using db
      exact stamped_mono g6 (Hp.le_trans hl lb)
end Go.Proofs
