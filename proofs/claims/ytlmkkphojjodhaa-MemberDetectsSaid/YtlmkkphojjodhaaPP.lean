/- The law Refutes: it returns true. -/
import Derived.Test.YtlmkkphojjodhaaPT
import Derived.Test.YtlmkkphojjodhaaOV
set_option linter.unusedSimpArgs false
set_option linter.unusedVariables false
namespace Go.Proofs
open Go Go.Eng

theorem validT_all {t : List Ent} (h : validT t = true) {i : Nat} {x : Ent} (hx : t[i]? = some x) : validE x = true := by
  simp only [validT, okAll, Bool.and_eq_true] at h
  exact List.all_eq_true.1 h.2 _ (List.mem_of_getElem? hx)
theorem validT_of {t : List Ent} (h1 : 1 ≤ t.length) (h2 : t.length ≤ 16) (h : ∀ (i : Nat) (x : Ent), t[i]? = some x → validE x = true) : validT t = true := by
  simp only [validT, okAll, Bool.and_eq_true, decide_eq_true_eq, List.all_eq_true]
  refine ⟨⟨h1, h2⟩, fun x hx => ?_⟩
  obtain ⟨i, hi⟩ := List.getElem?_of_mem hx
  exact h i x hi
theorem joinE_valid {x y : Ent} (hx : validE x = true) (hy : validE y = true) : validE (joinE x y) = true := by
  unfold joinE; split <;> assumption
theorem newM_get {self n inc : Int} (h0 : 0 ≤ self) {i : Nat} (hi : i < n.toNat) : (newM self n inc).tab[i]? = some (if (i : Int) = self then (inc, 1) else (0, 0)) := by
  simp only [newM, List.getElem?_set, List.length_replicate, List.getElem?_replicate]
  by_cases hj : (i : Int) = self
  · have : self.toNat = i := by omega
    simp [this, hi, hj]
  · rw [if_neg (by omega), if_pos hi, if_neg hj]
theorem newM_len {self n inc : Int} : (newM self n inc).tab.length = n.toNat := by simp [newM]
/-- What a new machine's table becomes behind a valid table. -/
theorem recv_new_get {self n inc : Int} {t : List Ent} (h0 : 0 ≤ self) (ht : (t.length : Int) = n) {i : Nat} (hi : i < n.toNat) : ∃ y, t[i]? = some y ∧ (recvTab self (newM self n inc).tab t)[i]? = some (if (i : Int) = self then (inc, 1) else joinE (0, 0) y) := by
  have hy : t[i]? = some t[i] := List.getElem?_eq_getElem (by omega)
  refine ⟨_, hy, ?_⟩
  rw [recvTab_get (newM_get h0 hi) hy]
  split <;> rfl
theorem recv_new_valid {self n inc : Int} {t : List Ent} (h0 : 0 ≤ self) (hi : self < n) (ht : (t.length : Int) = n) (hv : validT t = true) (hinc : inc ≠ 0) (x : Ent) (hx : validE x = true) : validT ((recvTab self (newM self n inc).tab t).set self.toNat x) = true := by
  have hv' := hv
  simp only [validT, Bool.and_eq_true, decide_eq_true_eq] at hv'
  refine validT_of (by rw [List.length_set, recvTab_len, newM_len]; omega) (by rw [List.length_set, recvTab_len, newM_len]; omega) fun j y hy => ?_
  rw [List.getElem?_set] at hy
  split at hy
  · split at hy
    · simp only [Option.some.injEq] at hy; subst hy; exact hx
    · cases hy
  · have hj : j < n.toNat := by
      have := (List.getElem?_eq_some_iff.1 hy).1
      rwa [recvTab_len, newM_len] at this
    obtain ⟨z, hz, hr⟩ := recv_new_get (inc := inc) h0 ht hj
    rw [hr] at hy
    simp only [Option.some.injEq] at hy; subst hy
    split
    · simp [validE]; omega
    · exact joinE_valid (by decide) (validT_all hv hz)
set_option maxRecDepth 20000 in
set_option maxHeartbeats 4000000 in
theorem lawRefutes_ok : lawRefutesC.ok Try.prog := lawRefutes_of (by simp [known_ok, own21_ok, valid20_ok, new22_ok, receive23_ok, newer_ok, challenge50_ok, reinc43_ok, table28_ok, merge32_ok]) fun ρ hg hp => by
  obtain ⟨h1, h2⟩ := hp
  simp [o_lawRefutes, lawRefutesC, knownC, own21C, valid20C, contains59C, index84C, new22C, receive23C, recv58C, newerD, newerC, challenge50C, reinc43C, table28C, merge32C, lawWaitsC, arithOf, mPre, m0, m1, msgV]
  have hb16 : (16 : Int) ≤ big := by decide
  refine ⟨by omega, fun h3 h4 => ⟨⟨h1, h2⟩, fun ud _ hd => ?_⟩⟩
  rw [hd]
  refine ⟨⟨h1, h2⟩, fun ue _ ke kb f1 f2 f3 f4 f5 => ⟨f1, f2, by omega, fun f6 => ?_⟩⟩
  have hv : validT (tabOf (ρ 5).d) = true := by rw [← ke, kb]
  have hnb : newBad (ρ 0).i (ρ 3).i 3 = false := by
    rw [Bool.eq_false_iff]; simp [newBad]; omega
  refine ⟨hnb, fun vT _ vS _ vn _ vP _ _ q1 q2 q3 q4 => ?_⟩
  rw [q1]
  generalize hG : (⟨2, (ρ 1).i, (ρ 0).i, 0, (ρ 0).i, 0⟩ : Msg) = G
  generalize hN : newM (ρ 0).i (ρ 3).i 3 = N
  have hself : N.self = (ρ 0).i := by subst hN; rfl
  have hlen : N.tab.length = (ρ 3).i.toNat := by subst hN; simp [newM]
  have hchal : N.chal = 0 := by subst hN; rfl
  have hE : recvE N G (tabOf (ρ 5).d) = 0 := by
    rw [recvE, if_neg (by subst hN; simp [newM]), if_pos]
    rw [hself, hlen]
    subst hG
    simp only [acceptsP, peerP, hv, tab_len, Bool.and_eq_true, Bool.not_eq_true', decide_eq_true_eq, beq_iff_eq, beq_eq_false_iff_ne, ne_eq]
    simp
    omega
  have hfm : forMe N.self G = true := by subst hG; simp [forMe, hself]
  have hA : recvAns N G (tabOf (ρ 5).d) = [] := by rw [recvAns, if_neg (by simp [hfm])]
  have hS : recvS N G (tabOf (ρ 5).d) = recvM N G (tabOf (ρ 5).d) := by rw [recvS, if_pos hE]
  rw [hE, hA, hS]
  refine ⟨⟨⟨⟨by rw [hlen]; omega, by rw [hlen]; omega, by subst hN; simp [newM], by rw [hself]; exact f1, by rw [hself, hlen]; omega, by subst hN; exact f1, by rw [hlen]; subst hN; show (ρ 0).i < _; omega, by subst hN; simp [newM]⟩, by omega, by omega, by omega, by omega⟩, h1, h2⟩, ?_, ?_⟩
  · intro we _ wc _ wn _ wT _ wS _ wP _ e1 _ e3 e4 e5 e6
    have hT : tabOf wT.d = recvTab (ρ 0).i N.tab (tabOf (ρ 5).d) := by
      have := congrArg Mach.tab e3
      rw [← hself]; exact this
    have hC : wc.i = recvChal (ρ 0).i N.tab (tabOf (ρ 5).d) 0 := by
      have := congrArg Mach.chal e3
      rw [← hself, ← hchal]; exact this
    have hwl : wT.d.length = (ρ 3).i.toNat := by rw [← tab_len, hT, recvTab_len, hlen]
    have hx : (tabOf (ρ 5).d)[(ρ 0).i.toNat]? = some (cellI (ρ 5).d (ρ 0).i 0, cellI (ρ 5).d (ρ 0).i 1) := cellI_tab f1 (by omega)
    have hNg : N.tab[(ρ 0).i.toNat]? = some (3, 1) := by
      subst hN
      rw [newM_get f1 (by omega), if_pos (by omega)]
    have hsT : statAt (tabOf wT.d) (ρ 0).i = (3, 1) := by
      rw [hT]
      simp only [statAt, List.getD_eq_getElem?_getD]
      rw [recvTab_get hNg hx, if_pos (by omega)]; rfl
    have hC' : wc.i = if 3 < cellI (ρ 5).d (ρ 0).i 0 ∨ cellI (ρ 5).d (ρ 0).i 0 = 3 ∧ 1 < cellI (ρ 5).d (ρ 0).i 1 then cellI (ρ 5).d (ρ 0).i 0 else 0 := by
      rw [hC, recvChal, entAt_get hx, entAt_get hNg]
      by_cases hc : 3 < cellI (ρ 5).d (ρ 0).i 0 ∨ cellI (ρ 5).d (ρ 0).i 0 = 3 ∧ 1 < cellI (ρ 5).d (ρ 0).i 1
      · rw [if_pos hc, if_pos (by simp only [newerE, newerB, Bool.or_eq_true, decide_eq_true_eq, Bool.and_eq_true, beq_iff_eq]; omega)]; omega
      · rw [if_neg hc, if_neg (by simp only [newerE, newerB, Bool.or_eq_true, decide_eq_true_eq, Bool.and_eq_true, beq_iff_eq]; omega)]
    clear hC
    have tail : ∀ I I' : Int, I' = I + 1 → 3 ≤ I → wc.i ≤ I → (I ≤ 3 ∨ I ≤ wc.i) → cellI (ρ 5).d (ρ 0).i 0 ≤ I →
        ((ρ 3).i = wT.d.length ∧ 0 ≤ (ρ 0).i ∧ (ρ 0).i < (ρ 3).i) ∧ ∀ (u : U), u.good → ∀ (u_1 : U), u_1.good → ∀ (u_2 : U), u_2.good → u.i = reincE (machV (ρ 0).i wT.d [] 0 0 (ρ 0).i 0 [] wc.i false) I → tabOf u_1.d = (reincM (machV (ρ 0).i wT.d [] 0 0 (ρ 0).i 0 [] wc.i false) I).tab → u_2.i = (reincM (machV (ρ 0).i wT.d [] 0 0 (ρ 0).i 0 [] wc.i false) I).chal → u_1.d.length = wT.d.length → u.i = 2 ∧ (u.i = 2 → ((ρ 3).i = u_1.d.length ∧ 0 ≤ (ρ 0).i ∧ (ρ 0).i < (ρ 3).i) ∧ ∀ (u : U), u.good → ∀ (u_3 : U), u_3.good → ∀ (u_4 : U), u_4.good → u.i = reincE (machV (ρ 0).i u_1.d [] 0 0 (ρ 0).i 0 [] u_2.i false) I' → tabOf u_3.d = (reincM (machV (ρ 0).i u_1.d [] 0 0 (ρ 0).i 0 [] u_2.i false) I').tab → u_4.i = (reincM (machV (ρ 0).i u_1.d [] 0 0 (ρ 0).i 0 [] u_2.i false) I').chal → u_3.d.length = u_1.d.length → u.i = 0 ∧ (u.i = 0 → u_4.i = 0 ∧ (u_4.i = 0 → ((ρ 3).i = (ρ 5).d.length ∧ (ρ 3).i ≤ big) ∧ ∀ (u : U), u.good → u.d = (ρ 5).d → ((ρ 3).i = u_3.d.length ∧ 0 < (ρ 3).i ∧ (ρ 3).i ≤ big) ∧ ∀ (u_5 : U), u_5.good → u_5.d = u_3.d → ((ρ 3).i = u.d.length ∧ (ρ 3).i = u_5.d.length ∧ (ρ 3).i ≤ big) ∧ (validT (tabOf u.d) = true ∧ validT (tabOf u_5.d) = true) ∧ ∀ (u_6 : U), u_6.good → validT (tabOf u.d) = true → validT (tabOf u_5.d) = true → tabOf u_6.d = joinTab (tabOf u.d) (tabOf u_5.d) → u_6.d.length = u.d.length → (ρ 0).i < u_6.d.length ∧ cellI u_6.d (ρ 0).i 0 = I' ∧ cellI u_6.d (ρ 0).i 1 = 1))) := by
      intro I I' hI' hI1 hI2 hI3 hI4
      have r1 : reincE (machV (ρ 0).i wT.d [] 0 0 (ρ 0).i 0 [] wc.i false) I = 2 := by
        simp only [reincE, machV, hsT]; simp; omega
      have r2 : reincM (machV (ρ 0).i wT.d [] 0 0 (ρ 0).i 0 [] wc.i false) I = machV (ρ 0).i wT.d [] 0 0 (ρ 0).i 0 [] wc.i false := by
        rw [reincM, r1]; simp
      rw [r1, r2]
      refine ⟨⟨by omega, f1, f2⟩, fun u _ u1 _ u2 _ k1 k2 k3 k4 => ⟨k1, fun _ => ⟨⟨by omega, f1, f2⟩, fun u _ u3 _ u4 _ l1 l2 l3 l4 => ?_⟩⟩⟩
      have k2 : tabOf u1.d = tabOf wT.d := k2
      have k3 : u2.i = wc.i := k3
      have s1 : reincE (machV (ρ 0).i u1.d [] 0 0 (ρ 0).i 0 [] u2.i false) I' = 0 := by
        simp only [reincE, machV, k2, k3, hsT]; simp; omega
      rw [s1] at l1
      rw [reincM, s1, if_pos rfl] at l2 l3
      have l2 : tabOf u3.d = (tabOf wT.d).set (ρ 0).i.toNat (I', 1) := by rw [← k2]; exact l2
      have hv3 : validT (tabOf u3.d) = true := by
        rw [l2, hT, ← hN]
        exact recv_new_valid f1 f2 (by rw [tab_len]; omega) hv (by omega) _ (by simp [validE]; omega)
      refine ⟨l1, fun _ => ⟨l3, fun _ => ⟨⟨h1, h2⟩, fun u _ hu => ⟨⟨by omega, by omega, h2⟩, fun u5 _ hu5 => ?_⟩⟩⟩⟩
      rw [hu, hu5]
      refine ⟨⟨by omega, by omega, h2⟩, ⟨hv, hv3⟩, fun u6 _ _ _ hj hjl => ⟨by omega, ?_⟩⟩
      have hc6 := cellI_tab (d := u6.d) (i := (ρ 0).i) f1 (by omega)
      have hg3 : (tabOf u3.d)[(ρ 0).i.toNat]? = some (I', 1) := by
        rw [l2, List.getElem?_set, if_pos rfl, if_pos (by rw [tab_len]; omega)]
      rw [hj, joinTab_get hx hg3] at hc6
      have hjj : joinE (cellI (ρ 5).d (ρ 0).i 0, cellI (ρ 5).d (ρ 0).i 1) (I', 1) = (I', 1) := by
        rw [joinE, if_pos (by simp only [newerE, newerB, Bool.or_eq_true, decide_eq_true_eq, Bool.and_eq_true, beq_iff_eq]; omega)]
      rw [hjj] at hc6
      have := Option.some.inj hc6
      simp only [Prod.mk.injEq] at this
      exact ⟨this.1.symm, this.2.symm⟩
    have hw : IntKind.u64.wrap (wc.i + 1) = wc.i + 1 := by
      apply wrapu64_id
      · split at hC' <;> omega
      · split at hC' <;> omega
    rw [hw]
    refine ⟨e1, fun _ => ⟨?_, fun _ => ⟨fun hn => ⟨?_, fun hn' => ⟨fun hlt => ?_, fun hge => ?_⟩⟩, fun hn1 hn2 => ⟨fun hlt => ?_, fun hge => ?_⟩⟩⟩⟩
    · rw [Bool.eq_iff_iff]
      simp only [cmpOf, Bool.or_eq_true, Bool.and_eq_true, decide_eq_true_eq, beq_iff_eq, bne_iff_ne, ne_eq]
      split at hC' <;> omega
    · rw [if_pos hn] at hC'; exact hC'
    · exact tail 3 4 rfl (by omega) (by omega) (by omega) (by omega)
    · exact tail wc.i (wc.i + 1) rfl hge (by omega) (by omega) (by omega)
    · exact tail 3 4 rfl (by omega) (by omega) (by omega) (by omega)
    · exact tail wc.i (wc.i + 1) rfl hge (by omega) (by omega) (by omega)
  · intro _ _ _ _ _ _ _ _ _ _ _ hbad
    cases hbad
end Go.Proofs
