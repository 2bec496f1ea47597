/- sync.Once and Mul, by contract. -/
import Derived.Test.YtkiheclcmgbmnaaZQ
import Derived.Test.YtkiheclcmgbmnaaZL
set_option linter.unusedSimpArgs false
set_option linter.unusedVariables false
namespace Go.Proofs
open Go Go.Eng
theorem done_0 : (doneD.headD [])[0]? = some (.int .u32 1) := by kernel_rfl
theorem done_len : doneD.length = 1 := by kernel_rfl
theorem done_fits : fitsRow kField (doneD.headD []) := fitsB_row (by kernel_rfl)
set_option maxRecDepth 100000 in
theorem once_ok : onceC.ok Try.prog := by
  refine ⟨fun args w => Try.call80 args w, fun ρ w hF hO hg hd hsub hst hro hpre => ?_⟩
  obtain ⟨h1, h2, hdj, hu, hden, _⟩ := hst
  have hlen : (ρ 1).d.length = 1 := by
    rcases hpre with h | h
    · rw [h]; rfl
    · rw [h]; exact done_len
  rcases hden with ⟨hn, hnil, _⟩ | ⟨b, c, g1, g2, g3, g4, g5⟩
  · have : (ρ 1).d = [] := hnil
    rw [this] at hlen; cases hlen
  obtain ⟨row, hrow⟩ : ∃ row, (ρ 1).d = [row] := List.length_eq_one_iff.1 hlen
  obtain ⟨f1, f2⟩ := g5 0 row (by simp only [T.den]; rw [hrow]; rfl)
  have hs' : c.size = 769 := by rw [g3, kField_len]; simp [T.den, O0.den]
  have hlr : row.length = 769 := by rw [f1.1, kField_len]
  have hcl : c.toList = row := by
    apply List.ext_getElem?
    intro k
    by_cases hk : k < row.length
    · have := f2 k _ (List.getElem?_eq_getElem hk)
      rw [Array.getElem?_toList, List.getElem?_eq_getElem hk]
      simpa using this
    · rw [List.getElem?_eq_none (by simp; omega), List.getElem?_eq_none (by omega)]
  have hOb : hO b = some (.cells c 98 (0, 0)) := by rw [hu]; simp [Hp.union, g2]
  have hFb : hF b = none := (hd b).resolve_right (by rw [hOb]; simp)
  have hb : At w b c := hsub.1 b _ (by simp [Hp.union, hFb, hOb])
  have fin : ∀ w', (∃ c', At w' b c' ∧ [c'.toList] = doneD ∧ Else w w' b) → ∃ (ai : Nat) (al : Alt) (ρ' : Env), onceC.alts[ai]? = some al ∧ ρ'.good ∧ (∀ n, n < onceC.nv → ρ' n = ρ n) ∧ (Ending.returned (.tuple #[]) : Ending) = .returned (al.ret.den ρ') ∧ al.post (ρ'.upto (onceC.nv + al.k)) ∧ HeapOk ρ' hF al.heap w' := fun w' ⟨c', a', hl', he'⟩ => by
    have hgd : ({ d := doneD } : U).good := by
      refine ⟨rfl, fun r hr v hv => ?_⟩
      have hr : r ∈ doneD := hr
      rw [← hl', List.mem_singleton] at hr
      subst hr
      have hh : doneD.headD [] = c'.toList := by rw [← hl']; rfl
      obtain ⟨k, hk⟩ := List.getElem?_of_mem hv
      have hfit := done_fits
      rw [hh] at hfit
      have hlt : k < kField.length := by rw [← hfit.1]; exact (List.getElem?_eq_some_iff.1 hk).1
      exact fits_good' (hfit.2 k _ v (List.getElem?_eq_getElem hlt) hk)
    refine ⟨0, _, ρ.set 2 { d := doneD }, rfl, fun n => ?_, fun n hn => Env.set_ne ρ _ (by have : onceC.nv = 2 := rfl; omega), rfl, ?_, Hp.upd hO b (.cells c' 98 (0, 0)), ?_, ?_, ?_, he'.os.trans hsub.2.1, he'.out.trans hsub.2.2⟩
    · by_cases hn : n = 2
      · subst hn; rw [Env.set_same]; exact hgd
      · rw [Env.set_ne ρ _ hn]; exact hg n
    · show ((ρ.set 2 { d := doneD }).upto 3 2).d = doneD
      simp [Env.upto, Env.set_same]
    · intro y
      by_cases hy : y = b
      · subst hy; exact .inl hFb
      · rcases hd y with h | h
        · exact .inl h
        · exact .inr (by simp [Hp.upd, hy, h])
    · refine ⟨Hp.upd hO b (.cells c' 98 (0, 0)), Hp.emp, Hp.disj_emp _, by funext y; simp [Hp.union, Hp.emp], .inr ⟨b, c', ?_, by simp [Hp.upd], ?_, ?_, ?_⟩, trivial⟩
      · rw [Env.set_ne ρ _ (by omega)]; exact g1
      · have hfit := done_fits
        have hh : doneD.headD [] = c'.toList := by rw [← hl']; rfl
        rw [hh] at hfit
        have := hfit.1
        rw [kField_len] at this ⊢
        simp [T.den, O0.den] at this ⊢; omega
      · simp only [T.den, Env.set_same, O0.den]; rw [done_len]; decide
      · intro i r hi
        simp only [T.den, Env.set_same] at hi
        rw [← hl'] at hi
        match i with
        | 0 =>
          simp only [List.getElem?_cons_zero, Option.some.injEq] at hi
          subst hi
          have hfit := done_fits
          have hh : doneD.headD [] = c'.toList := by rw [← hl']; rfl
          rw [hh] at hfit
          exact ⟨hfit, fun k v hv => by simpa using hv⟩
        | i + 1 => simp at hi
    · intro y o ho
      by_cases hy : y = b
      · subst hy
        simp [Hp.union, hFb, Hp.upd] at ho
        rw [← ho]; exact a'
      · refine he'.blk y hy o (hsub.1 y o ?_)
        simpa [Hp.union, Hp.upd, hy] using ho
  have hargs : (onceC.args.map (SV.den ρ)).toArray = #[.pointer (some ⟨b, 0, none⟩), .func (.func 81) #[.pointer (some ⟨b, 0, none⟩)] #[]] := by
    simp [onceC, fArg, SV.den, T.den, O0.den, O1.den, g1, addrOf, denVs]
  rw [hargs]
  rcases hpre with h | h
  · refine (once_first b c w hb ?_).mono fun e w' ⟨he, hh⟩ => ?_
    · rw [hcl]
      have : [row] = [freshRow] := hrow.symm.trans h
      exact (List.cons.inj this).1
    · rw [he]; exact fin w' hh
  · have hh : [row] = doneD := hrow.symm.trans h
    have hr0 : doneD.headD [] = row := by rw [← hh]; rfl
    have h0 := done_0
    rw [hr0] at h0
    refine (once_done b 1 (by decide) _ w (hb.cell (by rw [← Array.getElem?_toList, hcl]; exact h0))).mono fun e w' ⟨he, hw⟩ => ?_
    rw [he, hw]
    exact fin w ⟨c, hb, by rw [hcl]; exact hh, fun _ _ _ ho => ho, rfl, rfl⟩
theorem mul_ok : mulC.ok Try.prog := mul_of (by simp [once_ok]) fun ρ hg hp => by
  obtain ⟨h1, a0, a1, b0, b1⟩ := hp
  simp [o_mul, mulC, onceC]
  obtain ⟨l0, l1⟩ := logT_range a0 a1
  obtain ⟨m0, m1⟩ := logT_range b0 b1
  have hz : ∀ h : (ρ 2).i = 0 ∨ (ρ 3).i = 0, 0 = mulF (ρ 2).i (ρ 3).i := fun h => by rw [mulF, if_pos h]
  have hne : ¬ (ρ 1).d = [] := fun h => by
    have hl := done_len
    rcases h1 with h' | h' <;> rw [h'] at h
    · cases h
    · rw [h] at hl; cases hl
  refine ⟨fun h => (hne h).elim, fun _ => ⟨fun h => ⟨h1, hz (.inl h)⟩, fun n2 => ⟨fun h => ⟨h1, hz (.inr h)⟩, fun n3 => ⟨List.length_pos_iff.2 hne, h1, fun u _ hu => ?_⟩⟩⟩⟩
  rw [hu]
  have e1 : cellX doneD ((ρ 2).i.toNat + 513) = logT (ρ 2).i.toNat := rfl
  have e2 : cellX doneD ((ρ 3).i.toNat + 513) = logT (ρ 3).i.toNat := rfl
  rw [e1, e2]
  have w : arithOf .add .i64 (logT (ρ 2).i.toNat) (logT (ρ 3).i.toNat) = logT (ρ 2).i.toNat + logT (ρ 3).i.toNat := by
    simp [arithOf, IntKind.wrap, IntKind.bits, IntKind.signed]; omega
  rw [w]
  refine ⟨by rw [done_len]; decide, a0, a1, b0, b1, by omega, by omega, .inr rfl, ?_⟩
  rw [mulF, if_neg (by omega)]; rfl
end Go.Proofs
