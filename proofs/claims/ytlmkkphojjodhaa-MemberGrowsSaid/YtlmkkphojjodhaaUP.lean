/- The law Grows: it returns true. -/
import Derived.Test.YtlmkkphojjodhaaUT
import Derived.Test.YtlmkkphojjodhaaUQ
set_option linter.unusedSimpArgs false
set_option linter.unusedVariables false
namespace Go.Proofs
open Go Go.Eng

theorem cell00 {k : IntKind} {z : Int} {l : List Value} {r : Rows'} : cellI ((.int k z :: l) :: r) 0 0 = z := rfl
theorem cellV_row {d : Rows'} {i : Int} {row : List Value} {c : Nat} (h : d[i.toNat]? = some row) : cellV d i c = row[c]?.getD .nilFunc := by
  simp [cellV, List.getD_eq_getElem?_getD, h]
theorem heavy42_ok : heavy42C.ok Try.prog := heavy42_of (by simp) fun ρ hg hp => by
  obtain ⟨h1, h2, h3⟩ := hp
  simp [o_heavy42, heavy42C, heavy42I]
  have hbig : (150 : Int) < big := by decide
  refine ⟨by omega, fun h0 => ⟨⟨by omega, h0⟩, fun u _ a0 a1 a2 => ⟨fun hl => ⟨a0, by omega, ?_⟩, fun _ => a2⟩⟩⟩
  have hrow := List.getElem?_eq_getElem (show u.i.toNat < (ρ 3).d.length by omega)
  obtain ⟨⟨t, ht, _⟩, _⟩ := h3 _ (List.mem_of_getElem? hrow)
  refine ⟨t, by rw [cellV_row hrow]; exact ht, fun _ => ?_⟩
  rw [show arithOf .add .i64 u.i 1 = IntKind.i64.wrap (u.i + 1) from rfl, wrapi_id (by omega) (by omega)]
  omega
theorem cellI_get {d : Rows'} {j : Int} (h0 : 0 ≤ j) (h1 : j < d.length) : (tabOf d)[j.toNat]? = some (cellI d j 0, cellI d j 1) := cellI_tab h0 (by omega)
/-- The entries of one round. -/
theorem GRow.round {me n k i0 i j : Int} {m : Mach} {dT dS dP : Rows'} {np : Int} {dB box dN : Rows'} (h : GRow me n k i0 i j m dT dS dP np dB box dN) (hm : m.tab = tabOf dT) :
    (j < n → 0 ≤ j ∧ j < dB.length ∧ j < dN.length ∧ (cellI dB j 0 ≤ cellI dN j 0 ∧ (cellI dB j 0 = cellI dN j 0 → cellI dB j 1 ≤ cellI dN j 1)) ∧
      (cellI dB j 0 ≤ cellI dN j 0 → (cellI dB j 0 = cellI dN j 0 → cellI dB j 1 ≤ cellI dN j 1) →
        (j = me → 0 < box.length ∧ (cellI box 0 0 ≤ 2 → (cellI dN j 0 = cellI dB j 0 ∧ cellI dN j 1 = cellI dB j 1) ∧
          (cellI dN j 0 = cellI dB j 0 → cellI dN j 1 = cellI dB j 1 → GRow me n k i0 i (IntKind.i64.wrap (j + 1)) m dT dS dP np dB box dN ∧ max (n - IntKind.i64.wrap (j + 1)) 0 < n - j)) ∧
          (2 < cellI box 0 0 → GRow me n k i0 i (IntKind.i64.wrap (j + 1)) m dT dS dP np dB box dN ∧ max (n - IntKind.i64.wrap (j + 1)) 0 < n - j)) ∧
        (¬ j = me → GRow me n k i0 i (IntKind.i64.wrap (j + 1)) m dT dS dP np dB box dN ∧ max (n - IntKind.i64.wrap (j + 1)) 0 < n - j))) ∧
    (n ≤ j → GOut n k (IntKind.i64.wrap (i + 1)) m dT dS dP np dN ∧ max (k - IntKind.i64.wrap (i + 1)) 0 < k - i0) := by
  obtain ⟨a1, a2, a3, a4, a5, a6, a7, a8, a9, a10, a11, a12⟩ := h
  have hn := a4.2.1.2.1
  have hn' := a4.1.1
  rw [hm, tab_len] at hn
  refine ⟨fun hj => ?_, fun hj => ?_⟩
  · have hw : IntKind.i64.wrap (j + 1) = j + 1 := wrapi_id (by omega) (by omega)
    rw [hw]
    have hnext : GRow me n k i0 i (j + 1) m dT dS dP np dB box dN ∧ max (n - (j + 1)) 0 < n - j := ⟨⟨a1, a2, a3, a4, a5, a6, a7, a8, a9, by omega, by omega, a12⟩, by omega⟩
    have hB := cellI_get (d := dB) a10 (by omega)
    have hN := cellI_get (d := dN) a10 (by omega)
    obtain ⟨s1, s2⟩ := a8 _ _ _ hB hN
    rw [newerE_def] at s1
    refine ⟨a10, by omega, by omega, ⟨by simp only at s1; omega, fun _ => by simp only at s1; omega⟩, fun _ _ => ⟨fun hme => ⟨by omega, fun hk => ⟨?_, fun _ _ => hnext⟩, fun _ => hnext⟩, fun _ => hnext⟩⟩
    have := s2 (by omega) hk
    simpa using this
  · have hw : IntKind.i64.wrap (i + 1) = i + 1 := wrapi_id (by omega) (by omega)
    rw [hw]
    exact ⟨⟨by omega, by omega, a3, a4, a6, a7⟩, by omega⟩
/-- Behind a call. -/
theorem GRow.start {me n k i z : Int} {m m' : Mach} {dT dS dP dT' dS' dP' dB dN : Rows'} {np np' : Int} {l : List Value} (h : GOut n k i m dT dS dP np dB) (hi : i < k) (hG : GM n (i + 1) m' dT' dS' dP' np') (hs : GrStep me z m.tab m'.tab)
    (hm : m.tab = tabOf dT) (hm' : m'.tab = tabOf dT') (hN : dN = dT') (hn : 0 ≤ n) : GRow me n k i i 0 m' dT' dS' dP' np' dB [.int .i64 z :: l] dN := by
  obtain ⟨a1, a2, a3, a4, a5, a6⟩ := h
  subst hN
  refine ⟨a1, hi, a3, hG, a5, hG.1.1, rfl, ?_, rfl, by omega, hn, rfl⟩
  rw [cell00, a6, ← hm, ← hm']
  exact hs
theorem newM_wf' {me n inc : Int} (h2 : 2 ≤ n) (h16 : n ≤ 16) (hs : 0 ≤ me) (hs' : me < n) : machWf (newM me n inc) := by
  refine ⟨?_, ?_, ?_, hs, ?_, hs, ?_, fun p hp => by simp [newM] at hp⟩ <;> simp [newM] <;> omega
theorem GM.make {n i : Int} {m : Mach} {dT dS dP : Rows'} {np : Int} (hT : (dT.length : Int) = n) (hm : m.tab = tabOf dT) (hs : m.since = intsOf dS) (h0 : 0 ≤ np) (h1 : np ≤ dP.length) (h2 : np ≤ i) (hW : GW m) : GM n i m dT dS dP np := by
  have hl := hW.1.2.2.1
  rw [hm, hs, ints_len, tab_len] at hl
  exact ⟨⟨hT, by omega, h0, h1, h2⟩, hW⟩
theorem recvS_len {m : Mach} {g : Msg} {t : List Ent} : (recvS m g t).tab.length = m.tab.length := by
  rcases recvS_cases m g t with e | e <;> rw [e]
  exact recvTab_len
theorem reinc_mach {me : Int} {dT dS dT' dP : Rows'} {c q p np ch ch' v : Int} {lf : Bool} (h1 : tabOf dT' = (reincM (machV me dT [] c q p 0 [] ch lf) v).tab) (h2 : ch' = (reincM (machV me dT [] c q p 0 [] ch lf) v).chal) :
    machV me dT' dS c q p np dP ch' lf = reincM (machV me dT dS c q p np dP ch lf) v := by
  have he : reincE (machV me dT [] c q p 0 [] ch lf) v = reincE (machV me dT dS c q p np dP ch lf) v := rfl
  unfold reincM at h1 h2 ⊢
  rw [he] at h1 h2
  by_cases h0 : reincE (machV me dT dS c q p np dP ch lf) v = 0
  · rw [if_pos h0] at h1 h2 ⊢
    simp only [machV] at h1 h2 ⊢
    rw [h1, h2]
  · rw [if_neg h0] at h1 h2 ⊢
    simp only [machV] at h1 h2 ⊢
    rw [h1, h2]
set_option maxRecDepth 20000 in
set_option maxHeartbeats 4000000 in
theorem lawGrows_ok : lawGrowsC.ok Try.prog := lawGrows_of (by simp [known_ok, heavy42_ok, newA_ok, table28_ok, tick29_ok, receive23_ok, reinc43_ok, leave44_ok, newer_ok]) fun ρ hg hp => by
  obtain ⟨h1, h2, h3⟩ := hp
  simp (config := { maxSteps := 4000000 }) [o_lawGrows, lawGrowsC, lawGrowsI, lawGrowsJ, knownC, heavy42C, newAC, new22C, table28C, tick29C, receive23C, recv58C, reinc43C, leave44C, newerD, newerC, lawWaitsC, arithOf, mPre, m0, m1, mOk, msgV, lMG]
  have hbig : (1000000 : Int) < big := by decide
  refine ⟨⟨h1, h2, h3⟩, fun ub _ kb hb n2 n16 s0 s1 => ⟨?_, fun vT _ vS _ vN _ vP _ _ kM kT kS kN => ⟨⟨by omega, by omega, by omega⟩, fun vB _ eB => ⟨?_, ?_⟩⟩⟩⟩
  · simp [newBad]; omega
  · rw [kM]
    have hW : GW (newM (ρ 0).i (ρ 1).i 1) := ⟨newM_wf' n2 n16 s0 s1, by simp [newM], (1, 1), by rw [newM_get s0 (by simp only [newM]; omega)]; simp [newM]; omega, by simp, by simp⟩
    exact ⟨by omega, by omega, kb hb, ⟨⟨kT, kS, by omega, by omega, by omega⟩, hW⟩, by rw [eB]; exact kT, by rw [eB]⟩
  intro c _ q _ p _ np _ ch _ T _ S _ P _ lf _ B _ i _ h
  have h' := h
  obtain ⟨a1, a2, a3, ⟨⟨b1, b2, b3, b4, b5⟩, hW⟩, a5, a6⟩ := h'
  have hMt : (machV (ρ 0).i T.d S.d c.i q.i p.i np.i P.d ch.i lf.b).tab = tabOf T.d := rfl
  have hMs : (machV (ρ 0).i T.d S.d c.i q.i p.i np.i P.d ch.i lf.b).since = intsOf S.d := rfl
  have hMe : (machV (ρ 0).i T.d S.d c.i q.i p.i np.i P.d ch.i lf.b).self = (ρ 0).i := rfl
  have hMl : (machV (ρ 0).i T.d S.d c.i q.i p.i np.i P.d ch.i lf.b).left = lf.b := rfl
  refine ⟨by omega, fun hi => ⟨a1, by omega, ?_⟩⟩
  have hrow := List.getElem?_eq_getElem (show i.i.toNat < (ρ 5).d.length by omega)
  obtain ⟨⟨tR, hR, hRb⟩, hv⟩ := h3 _ (List.mem_of_getElem? hrow)
  have same : GM (ρ 1).i (i.i + 1) (machV (ρ 0).i T.d S.d c.i q.i p.i np.i P.d ch.i lf.b) T.d S.d P.d np.i := ⟨⟨b1, b2, b3, b4, by omega⟩, hW⟩
  refine ⟨fun hk => ⟨⟨⟨hW.1, by omega, b3, b4, by omega⟩, ?_⟩, fun hl => ⟨⟨by omega, by omega, by omega⟩, fun x _ hx => ⟨by omega, GRow.start h hi same GrStep.refl rfl rfl hx (by omega), ?_⟩⟩, ?_⟩, fun hk1 => ⟨fun hk => ⟨tR, ?_, ⟨⟨hW.1, by omega, b3, b4, by omega⟩, hRb⟩, ?_, ?_⟩, fun hk2 => ⟨fun hk => ⟨⟨by omega, s0, s1⟩, ?_⟩, fun hk3 => ⟨fun hk => ⟨⟨⟨by omega, n2, n16, s0, s1, ?_, ?_⟩, ?_⟩, fun hl => ⟨⟨by omega, by omega, by omega⟩, fun x _ hx => ⟨by omega, GRow.start h hi same GrStep.refl rfl rfl hx (by omega), ?_⟩⟩, ?_⟩, fun hk4 => ⟨⟨by omega, by omega, by omega⟩, fun x _ hx => ⟨by omega, GRow.start h hi same GrStep.refl rfl rfl hx (by omega), ?_⟩⟩⟩⟩⟩⟩
  · have e : cellI (ρ 5).d i.i 1 = rowI (ρ 5).d[i.i.toNat] 1 := by rw [cellI, cellV_row hrow]; rfl
    rw [e]; exact hv
  · intros; exact GRow.round (by assumption) rfl
  · intro l _ c' _ q' _ p' _ np' _ T' _ S' _ P' _ D _ H _ hl kM kl kT k0 k1 k2 kst
    have hW' := GW.tick (cellI (ρ 5).d i.i 1) hW
    have hst : GrStep (machV (ρ 0).i T.d S.d c.i q.i p.i np.i P.d ch.i lf.b).self (cellI (ρ 5).d i.i 0) _ _ := tickM_step (draw := cellI (ρ 5).d i.i 1) hW.1 hW.2.1
    rw [← kM] at hW' hst
    exact ⟨⟨by omega, by omega, by omega⟩, fun x _ hx => ⟨by omega, GRow.start h hi (GM.make (by omega) rfl rfl k0 k1 (by omega) hW') hst rfl rfl hx (by omega), by intros; exact GRow.round (by assumption) rfl⟩⟩
  · rw [cellV_row hrow]; exact hR
  · intro e _ ch' _ np' _ T' _ S' _ P' _ kE kA kM k0 k1 k2
    generalize hG : (⟨cellI (ρ 5).d i.i 2, cellI (ρ 5).d i.i 3, cellI (ρ 5).d i.i 4, cellI (ρ 5).d i.i 5, cellI (ρ 5).d i.i 6, cellI (ρ 5).d i.i 7⟩ : Msg) = G at kM
    have hW' := GW.recv (g := G) (t := tabOf tR) hW
    have hst : GrStep (machV (ρ 0).i T.d S.d c.i q.i p.i np.i P.d ch.i lf.b).self (cellI (ρ 5).d i.i 0) _ _ := recvS_step (g := G) (t := tabOf tR)
    have hln := recvS_len (m := machV (ρ 0).i T.d S.d c.i q.i p.i np.i P.d ch.i lf.b) (g := G) (t := tabOf tR)
    rw [← kM] at hW' hst hln
    simp only [machV, tab_len] at hln
    exact ⟨⟨by omega, by omega, by omega⟩, fun x _ hx => ⟨by omega, GRow.start h hi (GM.make (by omega) rfl rfl k0 k1 (by omega) hW') hst rfl rfl hx (by omega), by intros; exact GRow.round (by assumption) rfl⟩⟩
  · intro l _ H _ T' _ S' _ ch' _ kE kA kM kst
    generalize hG : (⟨cellI (ρ 5).d i.i 2, cellI (ρ 5).d i.i 3, cellI (ρ 5).d i.i 4, cellI (ρ 5).d i.i 5, cellI (ρ 5).d i.i 6, cellI (ρ 5).d i.i 7⟩ : Msg) = G at kM
    have hW' := GW.recv (g := G) (t := tabOf tR) hW
    have hst : GrStep (machV (ρ 0).i T.d S.d c.i q.i p.i np.i P.d ch.i lf.b).self (cellI (ρ 5).d i.i 0) _ _ := recvS_step (g := G) (t := tabOf tR)
    have hln := recvS_len (m := machV (ρ 0).i T.d S.d c.i q.i p.i np.i P.d ch.i lf.b) (g := G) (t := tabOf tR)
    rw [← kM] at hW' hst hln
    simp only [machV, tab_len] at hln
    exact ⟨⟨by omega, by omega, by omega⟩, fun x _ hx => ⟨by omega, GRow.start h hi (GM.make (by omega) rfl rfl b3 b4 (by omega) hW') hst rfl rfl hx (by omega), by intros; exact GRow.round (by assumption) rfl⟩⟩
  · intro e _ T' _ ch' _ kE kT kC kl
    have kM := reinc_mach (dS := S.d) (dP := P.d) (np := np.i) kT kC
    have hW' := GW.reinc (inc := cellI (ρ 5).d i.i 1) hW
    have hst : GrStep (machV (ρ 0).i T.d S.d c.i q.i p.i np.i P.d ch.i lf.b).self (cellI (ρ 5).d i.i 0) _ _ := reincM_step (inc := cellI (ρ 5).d i.i 1) hW.1 (by omega)
    rw [← kM] at hW' hst
    exact ⟨⟨by omega, by omega, by omega⟩, fun x _ hx => ⟨by omega, GRow.start h hi (GM.make (by omega) rfl rfl b3 b4 (by omega) hW') hst rfl rfl hx (by omega), by intros; exact GRow.round (by assumption) rfl⟩⟩
  · exact hW.1.2.2.2.2.2.1
  · have := hW.1.2.2.2.2.2.2.1
    simp only [machV, tab_len] at this
    omega
  · obtain ⟨z, hz, z1, z2⟩ := hW.2.2
    have hz' : (tabOf T.d)[(ρ 0).i.toNat]? = some z := hz
    simp only [statAt, List.getD_eq_getElem?_getD, hz', Option.getD_some]
    omega
  · intros; exact GRow.round (by assumption) rfl
  · intro l _ T' _ D _ H _ hl kT kl _ _
    have kM : machV (ρ 0).i T'.d S.d c.i q.i p.i np.i P.d ch.i true = leaveM (machV (ρ 0).i T.d S.d c.i q.i p.i np.i P.d ch.i lf.b) := by
      rw [leaveM, hMl, if_neg (by simp [hl])]
      simp only [machV]
      rw [kT]
    have hW' := GW.leave hW
    have hst : GrStep (machV (ρ 0).i T.d S.d c.i q.i p.i np.i P.d ch.i lf.b).self (cellI (ρ 5).d i.i 0) _ _ := leaveM_step hW (by omega)
    rw [← kM] at hW' hst
    exact ⟨⟨by omega, by omega, by omega⟩, fun x _ hx => ⟨by omega, GRow.start h hi (GM.make (by omega) rfl rfl b3 b4 (by omega) hW') hst rfl rfl hx (by omega), by intros; exact GRow.round (by assumption) rfl⟩⟩
  · intros; exact GRow.round (by assumption) rfl
end Go.Proofs
