/- sync.Once over a field's tables: the contract. -/
import Derived.Test.YtkiheclcmgbmnaaZO
set_option linter.unusedSimpArgs false
set_option linter.unusedVariables false
namespace Go.Proofs
open Go Go.Eng


theorem fits_good' {k : CK} {v : Value} (h : CK.fits k v = true) : v.oneCell' = true := by
  cases k <;> cases v <;> simp_all [CK.fits, Value.oneCell']
/-- The block. -/
def At (w : World) (b : Nat) (c : Array Value) : Prop := w.heap[b]? = some (.cells c 98 (0, 0))
/-- Nothing but this block differs. -/
structure Else (w w' : World) (b : Nat) : Prop where
  blk : ∀ b', b' ≠ b → ∀ o, w.heap[b']? = some o → w'.heap[b']? = some o
  os : w'.os = w.os
  out : w'.output = w.output
theorem Else.trans {w1 w2 w3 : World} {b : Nat} (h : Else w1 w2 b) (h' : Else w2 w3 b) : Else w1 w3 b :=
  ⟨fun b' hb o ho => h'.blk b' hb o (h.blk b' hb o ho), h'.os.trans h.os, h'.out.trans h.out⟩
theorem At.set {w : World} {b : Nat} {c : Array Value} (h : At w b c) (k : Nat) (v : Value) : At (w.setCell ⟨b, k, none⟩ v) b (c.setIfInBounds k v) ∧ Else w (w.setCell ⟨b, k, none⟩ v) b := by
  refine ⟨?_, fun b' hb o ho => ?_, rfl, rfl⟩
  · have h : w.heap[b]? = some (.cells c 98 (0, 0)) := h
    simp only [At, World.setCell, Array.getElem?_modify, if_true, h, Option.map_some]
    simp
  · simp only [World.setCell, Array.getElem?_modify]
    rw [if_neg (fun h => hb h.symm)]; exact ho
theorem At.drew {w : World} {b : Nat} {c : Array Value} (h : At w b c) : At w.drew b c ∧ Else w w.drew b := ⟨h, fun _ _ _ ho => ho, rfl, rfl⟩
theorem At.cell {w : World} {b : Nat} {c : Array Value} (h : At w b c) {k : Nat} {v : Value} (hv : c[k]? = some v) : w.cell? ⟨b, k, none⟩ = some v := by rw [cell_of_heap h, hv]
theorem At.frozen {w : World} {b : Nat} {c : Array Value} (h : At w b c) (k : Nat) : w.frozen? ⟨b, k, none⟩ = false := by
  have h : w.heap[b]? = some (.cells c 98 (0, 0)) := h
  simp [World.frozen?, h]
theorem toList_set {c : Array Value} {k : Nat} {v : Value} : (c.setIfInBounds k v).toList = c.toList.set k v := by simp

theorem kField_len : kField.length = 769 := by simp only [kField, List.length_append, List.length_replicate, List.length_cons, List.length_nil]
set_option maxRecDepth 100000 in
theorem build_calls {w : World} {b : Nat} {c : Array Value} (hb : At w b c) (hf : fitsRow kField c.toList) :
    Calls Try.prog 81 #[.pointer (some ⟨b, 0, none⟩)] w fun e w' => e = .returned (.tuple #[]) ∧ ∃ c', At w' b c' ∧ [c'.toList] = (buildN [c.toList] 255).1 ∧ Else w w' b := by
  let us : List U := [{ r := some ⟨b, 0, none⟩ }, { d := [c.toList] }]
  have hgood : Env.good fun n => us.getD n {} := fun n => by
    match n with
    | 0 => simp [us, U.good, Value.oneCell']
    | 1 =>
      refine ⟨rfl, fun row hr v hv => ?_⟩
      simp only [us, List.getD_cons_succ, List.getD_cons_zero, List.mem_singleton] at hr
      subst hr
      obtain ⟨k, hk⟩ := List.getElem?_of_mem hv
      have hlt : k < kField.length := by rw [← hf.1]; exact (List.getElem?_eq_some_iff.1 hk).1
      exact fits_good' (hf.2 k _ v (List.getElem?_eq_getElem hlt) hk)
    | n + 2 => simp [us, U.good, Value.oneCell']
  have hsz : c.size = 769 := by have := hf.1; rw [kField_len] at this; simpa using this
  have h := build_ok.2 (fun n => us.getD n {}) w ⟨fun b' => if b' = b then none else w.heap[b']?, w.os, w.output⟩ (Hp.one b (.cells c 98 (0, 0))) hgood
    (fun y => by by_cases hy : y = b <;> simp [hy, Hp.one])
    ⟨fun y o hy => by
      by_cases hyb : y = b
      · subst hyb
        simp [Hp.union, Hp.one] at hy
        rw [← hy]; exact hb
      · simpa [Hp.union, Hp.one, hyb] using hy, rfl, rfl⟩
    ⟨Hp.one b (.cells c 98 (0, 0)), Hp.emp, Hp.disj_emp _, by funext y; simp [Hp.union, Hp.emp], .inr ⟨b, c, rfl, by simp [Hp.one], by rw [kField_len, hsz]; simp [T.den, O0.den], by simp [us, T.den, O0.den], fun i row hi => by
      match i with
      | 0 =>
        simp only [T.den, us, List.getD_cons_succ, List.getD_cons_zero, List.getElem?_cons_zero, Option.some.injEq] at hi
        subst hi
        exact ⟨hf, fun k v hv => by simpa using hv⟩
      | i + 1 => simp [T.den, us] at hi⟩, trivial⟩
    (fun x hx => by cases hx) (show ([c.toList] : Rows').length = 1 from rfl)
  refine h.mono fun e w' hq => ?_
  obtain ⟨ai, al, ρ', hal, hg', hag, he, hpost, hO', hd', hst', hsub', hwi'⟩ := hq
  match ai, hal with
  | 0, hal =>
    obtain rfl := Option.some.inj hal
    refine ⟨he, ?_⟩
    obtain ⟨h1, h2, hdj, hu, hden, _⟩ := hst'
    have r0 : (ρ' 0).r = some ⟨b, 0, none⟩ := by rw [hag 0 (by decide)]; rfl
    have d1 : (ρ' 1).d = [c.toList] := by rw [hag 1 (by decide)]; rfl
    have hp2 : (ρ' 2).d = (buildN (ρ' 1).d 255).1 := hpost
    rw [d1] at hp2
    have hl2 : (ρ' 2).d.length = 1 := by rw [hp2, buildN_len]; rfl
    rcases hden with ⟨hn, _, _⟩ | ⟨b', c', g1, g2, g3, g4, g5⟩
    · rw [r0] at hn; cases hn
    · rw [r0] at g1
      simp only [Option.some.injEq, Addr.mk.injEq] at g1
      obtain ⟨rfl, _⟩ := g1
      obtain ⟨row, hrow⟩ : ∃ row, (ρ' 2).d = [row] := List.length_eq_one_iff.1 hl2
      obtain ⟨f1, f2⟩ := g5 0 row (by simp only [T.den]; rw [hrow]; rfl)
      have hs' : c'.size = 769 := by rw [g3, kField_len]; simp [T.den, O0.den]
      have hlr : row.length = 769 := by rw [f1.1, kField_len]
      have hcl : c'.toList = row := by
        apply List.ext_getElem?
        intro k
        by_cases hk : k < row.length
        · have := f2 k _ (List.getElem?_eq_getElem hk)
          rw [Array.getElem?_toList, List.getElem?_eq_getElem hk]
          simpa using this
        · rw [List.getElem?_eq_none (by simp; omega), List.getElem?_eq_none (by omega)]
      refine ⟨c', hsub' b _ ?_, by rw [hcl, ← hrow, hp2], fun y hy o ho => hsub' y o ?_, hwi'.1, hwi'.2⟩
      · have : hO' b = some (.cells c' 98 (0, 0)) := by rw [hu]; simp [Hp.union, g2]
        simp [Hp.union, this]
      · simp [Hp.union, hy, ho]
  | n + 1, hal => cases hal
end Go.Proofs
