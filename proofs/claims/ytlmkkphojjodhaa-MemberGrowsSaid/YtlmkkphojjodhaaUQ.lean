/- What a machine's calls do to its table, plainly. -/
import Derived.Test.YtlmkkphojjodhaaUA
import Derived.Test.YtlmkkphojjodhaaGF
set_option linter.unusedSimpArgs false
set_option linter.unusedVariables false
namespace Go.Proofs
open Go Go.Eng

theorem newerE_def {x y : Ent} : newerE x y = false ↔ ¬ (x.1 > y.1 ∨ (x.1 = y.1 ∧ x.2 > y.2)) := by
  simp only [newerE, newerB, Bool.or_eq_false_iff, Bool.and_eq_false_iff, decide_eq_false_iff_not, beq_eq_false_iff_ne, ne_eq]
  omega
theorem newerE_self {x : Ent} : newerE x x = false := by rw [newerE_def]; omega
theorem newerE_join {x y : Ent} : newerE x (joinE x y) = false := by
  unfold joinE
  split
  · rename_i h
    rw [newerE_def]
    simp only [newerE, newerB, Bool.or_eq_true, Bool.and_eq_true, decide_eq_true_eq, beq_iff_eq] at h
    omega
  · exact newerE_self
/-- Nothing changes. -/
theorem GrStep.refl {me kind : Int} {t : List Ent} : GrStep me kind t t := fun j x y hx hy => by
  rw [hx] at hy
  obtain rfl := Option.some.inj hy
  exact ⟨newerE_self, fun _ _ => rfl⟩
/-! ### Tick -/
theorem tickM_step {m : Mach} {draw kind : Int} (hw : machWf m) (hp : ∀ p ∈ m.probes, p.target ≠ m.self) : GrStep m.self kind m.tab (tickM m draw).tab := fun j x y hx hy => by
  have hj : j < m.tab.length := (List.getElem?_eq_some_iff.1 hx).1
  have hs : m.since[j]? = some (m.since[j]'(by rw [hw.2.2.1]; exact hj)) := List.getElem?_eq_getElem _
  obtain ⟨h1, _⟩ := tickM_entry m draw hx hs
  rw [hy] at h1
  have h1 := Option.some.inj h1
  have hE : ∀ z, z = suspE (clock1 m) m.probes j x → (z = x ∨ (x.2 = 1 ∧ z = (x.1, 2))) ∧ ((j : Int) = m.self → z = x) := fun z hz => by
    unfold suspE at hz
    split at hz
    · rename_i hc
      refine ⟨.inr ⟨hc.2, hz⟩, fun hjm => ?_⟩
      exfalso
      have hc1 := hc.1
      simp only [suspP, List.any_eq_true, Bool.and_eq_true, beq_iff_eq] at hc1
      obtain ⟨p, hpm, _, ht⟩ := hc1
      have h2 := (hw.2.2.2.2.2.2.2 p hpm).1
      exact hp p hpm (by omega)
    · exact ⟨.inl hz, fun _ => hz⟩
  generalize hz : suspE (clock1 m) m.probes j x = z at h1
  obtain ⟨c1, c2⟩ := hE z hz.symm
  split at h1
  · rename_i hd
    obtain ⟨d1, d2, _⟩ := hd
    subst h1
    refine ⟨?_, fun h _ => (d1 h).elim⟩
    rw [newerE_def]
    rcases c1 with rfl | ⟨a, rfl⟩ <;> simp only <;> omega
  · subst h1
    refine ⟨?_, fun h _ => c2 h⟩
    rcases c1 with rfl | ⟨a, rfl⟩
    · exact newerE_self
    · rw [newerE_def]; simp only; omega

theorem GW.tick {m : Mach} (draw : Int) (h : GW m) : GW (tickM m draw) := by
  obtain ⟨hw, hp, x, hx, x1, x2⟩ := h
  have hw' := hw
  obtain ⟨a1, a2, a3, a4, a5, a6, a7, a8⟩ := hw
  obtain ⟨l1, l2⟩ := tickM_lens m draw
  have hr := nextP_range (self := m.self) (show (2 : Int) ≤ m.tab.length by omega) (by omega) a6
  have hn := nextP_ne (n := m.tab.length) (self := m.self) (by omega) a6 a4 a5
  have hpr : ∀ p ∈ (tickM m draw).probes, (∃ q ∈ m.probes, p.target = q.target) ∨ p.target = nextP m.tab.length m.self m.pinged := fun p hpm => by
    rw [tickM_probes] at hpm
    rcases List.mem_append.1 hpm with h | h
    · obtain ⟨q, hq, rfl⟩ := List.mem_map.1 h
      refine .inl ⟨q, (List.mem_filter.1 hq).1, ?_⟩
      unfold markP; split <;> rfl
    · rw [List.mem_singleton.1 h]; exact .inr rfl
  refine ⟨⟨by omega, by omega, by omega, a4, by rw [l1]; exact a5, hr.1, by rw [l1]; exact hr.2, fun p hpm => ?_⟩, fun p hpm => ?_, ?_⟩
  · rcases hpr p hpm with ⟨q, hq, e⟩ | e
    · rw [l1, e]; exact a8 q hq
    · rw [l1, e]; exact hr
  · rcases hpr p hpm with ⟨q, hq, e⟩ | e
    · rw [e]; exact hp q hq
    · rw [e]; exact hn
  · have hj : m.self.toNat < (tickM m draw).tab.length := by omega
    have hy := List.getElem?_eq_getElem hj
    have := (tickM_step (draw := draw) (kind := 0) hw' hp m.self.toNat x _ hx hy).2 (by omega) (by omega)
    exact ⟨x, by rw [← this]; exact hy, x1, x2⟩
/-! ### Receive -/
theorem recvTab_at {self : Int} {tab t : List Ent} {j : Nat} {x : Ent} (h : tab[j]? = some x) : (recvTab self tab t)[j]? = some (if (j : Int) = self then x else joinE x (entAt t j)) := by
  simp [recvTab, h]
theorem recvS_cases (m : Mach) (g : Msg) (t : List Ent) : recvS m g t = m ∨ recvS m g t = recvM m g t := by unfold recvS; split <;> simp
theorem recvS_step {m : Mach} {g : Msg} {t : List Ent} {kind : Int} : GrStep m.self kind m.tab (recvS m g t).tab := by
  rcases recvS_cases m g t with e | e <;> rw [e]
  · exact GrStep.refl
  · intro j x y hx hy
    have h1 : (recvTab m.self m.tab t)[j]? = some y := hy
    rw [recvTab_at hx] at h1
    have h1 := Option.some.inj h1
    subst h1
    refine ⟨?_, fun h _ => by rw [if_pos h]⟩
    split
    · exact newerE_self
    · exact newerE_join
theorem GW.recv {m : Mach} {g : Msg} {t : List Ent} (h : GW m) : GW (recvS m g t) := by
  rcases recvS_cases m g t with e | e <;> rw [e]
  · exact h
  obtain ⟨⟨a1, a2, a3, a4, a5, a6, a7, a8⟩, hp, x, hx, x1, x2⟩ := h
  have l1 : (recvM m g t).tab.length = m.tab.length := recvTab_len
  have l2 : (recvM m g t).since.length = m.since.length := recvSince_len
  have hs : ∀ p ∈ (recvM m g t).probes, p ∈ m.probes := fun p hpm => by
    simp only [recvM] at hpm
    split at hpm
    · exact (List.mem_filter.1 hpm).1
    · exact hpm
  refine ⟨⟨by omega, by omega, by omega, a4, by rw [l1]; exact a5, a6, by rw [l1]; exact a7, fun p hpm => by rw [l1]; exact a8 p (hs p hpm)⟩, fun p hpm => hp p (hs p hpm), x, ?_, x1, x2⟩
  have := recvTab_at (self := m.self) (t := t) hx
  rw [if_pos (by omega)] at this
  exact this
/-! ### Reincarnate and Leave -/
theorem reincM_step {m : Mach} {inc kind : Int} (hw : machWf m) (hk : 2 < kind) : GrStep m.self kind m.tab (reincM m inc).tab := by
  unfold reincM
  split
  · rename_i h0
    intro j x y hx hy
    refine ⟨?_, fun _ h => by omega⟩
    have hy2 : (m.tab.set m.self.toNat (inc, 1))[j]? = some y := hy
    rw [List.getElem?_set] at hy2
    clear hy
    split at hy2
    · rename_i hj
      subst hj
      have hx' : statAt m.tab m.self = x := by simp [statAt, List.getD_eq_getElem?_getD, hx]
      split at hy2
      · obtain rfl := Option.some.inj hy2
        unfold reincE at h0
        split at h0
        · omega
        · split at h0
          · omega
          · rename_i h1
            rw [hx'] at h1
            rw [newerE_def]; simp only; omega
      · cases hy2
    · rw [hx] at hy2
      obtain rfl := Option.some.inj hy2
      exact newerE_self
  · exact GrStep.refl
theorem GW.reinc {m : Mach} {inc : Int} (h : GW m) : GW (reincM m inc) := by
  unfold reincM
  split
  · obtain ⟨⟨a1, a2, a3, a4, a5, a6, a7, a8⟩, hp, x, hx, x1, x2⟩ := h
    refine ⟨⟨?_, ?_, ?_, a4, ?_, a6, ?_, fun p hpm => ?_⟩, hp, (inc, 1), ?_, by simp, by simp⟩ <;> simp only [List.length_set]
    · exact a1
    · exact a2
    · exact a3
    · exact a5
    · exact a7
    · exact a8 p hpm
    · rw [List.getElem?_set_self (by omega)]
  · exact h
theorem leaveM_step {m : Mach} {kind : Int} (h : GW m) (hk : 2 < kind) : GrStep m.self kind m.tab (leaveM m).tab := by
  obtain ⟨⟨a1, a2, a3, a4, a5, a6, a7, a8⟩, hp, z, hz, z1, z2⟩ := h
  unfold leaveM
  split
  · exact GrStep.refl
  · intro j x y hx hy
    refine ⟨?_, fun _ h => by omega⟩
    have hy2 : (m.tab.set m.self.toNat ((statAt m.tab m.self).1, 4))[j]? = some y := hy
    rw [List.getElem?_set] at hy2
    clear hy
    split at hy2
    · rename_i hj
      subst hj
      have hx' : statAt m.tab m.self = x := by simp [statAt, List.getD_eq_getElem?_getD, hx]
      rw [hz] at hx
      obtain rfl := Option.some.inj hx
      split at hy2
      · obtain rfl := Option.some.inj hy2
        rw [hx', newerE_def]; simp only; omega
      · cases hy2
    · rw [hx] at hy2
      obtain rfl := Option.some.inj hy2
      exact newerE_self
theorem GW.leave {m : Mach} (h : GW m) : GW (leaveM m) := by
  unfold leaveM
  split
  · exact h
  · obtain ⟨⟨a1, a2, a3, a4, a5, a6, a7, a8⟩, hp, x, hx, x1, x2⟩ := h
    refine ⟨⟨?_, ?_, ?_, a4, ?_, a6, ?_, fun p hpm => ?_⟩, hp, ((statAt m.tab m.self).1, 4), ?_, by simp, by simp⟩ <;> simp only [leaveTab, List.length_set]
    · exact a1
    · exact a2
    · exact a3
    · exact a5
    · exact a7
    · exact a8 p hpm
    · rw [List.getElem?_set_self (by omega)]
end Go.Proofs
