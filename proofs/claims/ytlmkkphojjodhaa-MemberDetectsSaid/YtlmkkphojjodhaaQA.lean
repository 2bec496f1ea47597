/- Ticks, plainly. -/
import Derived.Test.YtlmkkphojjodhaaPP
set_option linter.unusedSimpArgs false
set_option linter.unusedVariables false
namespace Go.Proofs
open Go Go.Eng

/-! ### One walk through the probes -/
def oldP (clock : Int) (p : Prb) : Bool := decide (10 ≤ ageOf clock p.sent)
def markP (clock : Int) (p : Prb) : Prb := if 4 ≤ ageOf clock p.sent ∧ p.asked = false then { p with asked := true } else p
theorem tickP_kept (self clock draw : Int) (st : TS) (p : Prb) : (tickP self clock draw st p).kept = st.kept ++ (if oldP clock p then [] else [markP clock p]) := by
  unfold tickP oldP markP
  by_cases h : 10 ≤ ageOf clock p.sent
  · rw [if_pos h]; simp only [h, decide_true, if_true]; split <;> simp
  · rw [if_neg h]; simp only [h, decide_false]
    split <;> simp
theorem fold_kept (self clock draw : Int) : ∀ (ps : List Prb) (st : TS), (ps.foldl (tickP self clock draw) st).kept = st.kept ++ (ps.filter (fun p => !oldP clock p)).map (markP clock)
  | [], st => by simp
  | p :: ps, st => by
    rw [List.foldl_cons, fold_kept self clock draw ps, tickP_kept]
    by_cases h : oldP clock p = true
    · simp [h]
    · simp [h]
theorem setTab_len {t : List Ent} {i : Int} {x : Ent} : (setTab t i x).length = t.length := by simp [setTab]
theorem setSince_len {t : List Ent} {s : List Int} {c i : Int} {x : Ent} : (setSince t s c i x).length = s.length := by unfold setSince; split <;> simp
theorem tickP_lens (self clock draw : Int) (st : TS) (p : Prb) : (tickP self clock draw st p).tab.length = st.tab.length ∧ (tickP self clock draw st p).since.length = st.since.length := by
  unfold tickP; split
  · split
    · simp [setTab_len, setSince_len]
    · exact ⟨rfl, rfl⟩
  · split <;> exact ⟨rfl, rfl⟩
theorem fold_lens (self clock draw : Int) : ∀ (ps : List Prb) (st : TS), (ps.foldl (tickP self clock draw) st).tab.length = st.tab.length ∧ (ps.foldl (tickP self clock draw) st).since.length = st.since.length
  | [], st => ⟨rfl, rfl⟩
  | p :: ps, st => by
    have h1 := fold_lens self clock draw ps (tickP self clock draw st p)
    have h2 := tickP_lens self clock draw st p
    exact ⟨h1.1.trans h2.1, h1.2.trans h2.2⟩
def suspP (clock : Int) (ps : List Prb) (j : Nat) : Bool := ps.any fun p => oldP clock p && p.target.toNat == j
theorem tickP_entry (self clock draw : Int) {st : TS} {p : Prb} {j : Nat} {x : Ent} {s : Int} (hx : st.tab[j]? = some x) (hs : st.since[j]? = some s) :
    (tickP self clock draw st p).tab[j]? = some (if (oldP clock p && p.target.toNat == j) = true ∧ x.2 = 1 then (x.1, 2) else x) ∧
    (tickP self clock draw st p).since[j]? = some (if (oldP clock p && p.target.toNat == j) = true ∧ x.2 = 1 then clock else s) := by
  unfold tickP
  by_cases ho : 10 ≤ ageOf clock p.sent
  · have ho' : oldP clock p = true := by simp [oldP, ho]
    rw [if_pos ho, ho']
    by_cases ht : p.target.toNat = j
    · have hst : statAt st.tab p.target = x := by simp [statAt, ht, List.getD_eq_getElem?_getD, hx]
      rw [hst]
      by_cases h1 : x.2 = 1
      · rw [if_pos h1]
        have hjl : j < st.tab.length := (List.getElem?_eq_some_iff.1 hx).1
        have hsl : j < st.since.length := (List.getElem?_eq_some_iff.1 hs).1
        have hne : st.tab[p.target.toNat]? ≠ some (x.1, 2) := by rw [ht, hx]; intro h; rw [Option.some.inj h] at h1; simp at h1
        have hs2 : setSince st.tab st.since clock p.target (x.1, 2) = st.since.set p.target.toNat clock := by rw [setSince, if_pos ⟨hne, rfl⟩]
        simp only [hs2, setTab]
        simp [ht, h1, hjl, hsl, List.getElem?_set]
      · rw [if_neg h1]; simp [h1, hx, hs]
    · split
      · refine ⟨?_, ?_⟩
        · simp only [setTab]; rw [List.getElem?_set, if_neg ht]; simp [ht, hx]
        · simp only [setSince]; split
          · rw [List.getElem?_set, if_neg ht]; simp [ht, hs]
          · simp [ht, hs]
      · simp [ht, hx, hs]
  · have ho' : oldP clock p = false := by simp [oldP]; omega
    rw [if_neg ho, ho']
    split <;> simp [hx, hs]
theorem fold_entry (self clock draw : Int) : ∀ (ps : List Prb) (st : TS) {j : Nat} {x : Ent} {s : Int}, st.tab[j]? = some x → st.since[j]? = some s →
    (ps.foldl (tickP self clock draw) st).tab[j]? = some (if suspP clock ps j = true ∧ x.2 = 1 then (x.1, 2) else x) ∧
    (ps.foldl (tickP self clock draw) st).since[j]? = some (if suspP clock ps j = true ∧ x.2 = 1 then clock else s)
  | [], st, j, x, s, hx, hs => by simp [suspP, hx, hs]
  | p :: ps, st, j, x, s, hx, hs => by
    obtain ⟨h1, h2⟩ := tickP_entry self clock draw (p := p) hx hs
    obtain ⟨h3, h4⟩ := fold_entry self clock draw ps _ h1 h2
    rw [List.foldl_cons, h3, h4]
    have hc : suspP clock (p :: ps) j = ((oldP clock p && p.target.toNat == j) || suspP clock ps j) := rfl
    rw [hc]
    by_cases ha : (oldP clock p && p.target.toNat == j) = true <;> by_cases hb : suspP clock ps j = true <;> by_cases hx1 : x.2 = 1 <;> simp [ha, hb, hx1]
/-! ### One tick -/
def suspE (c : Int) (ps : List Prb) (j : Nat) (x : Ent) : Ent := if suspP c ps j = true ∧ x.2 = 1 then (x.1, 2) else x
def suspS (c : Int) (ps : List Prb) (j : Nat) (x : Ent) (s : Int) : Int := if suspP c ps j = true ∧ x.2 = 1 then c else s
theorem tickM_entry (m : Mach) (draw : Int) {j : Nat} {x : Ent} {s : Int} (hx : m.tab[j]? = some x) (hs : m.since[j]? = some s) :
    (tickM m draw).tab[j]? = some (if (j : Int) ≠ m.self ∧ (suspE (clock1 m) m.probes j x).2 = 2 ∧ waitOf m.tab.length ≤ ageOf (clock1 m) (suspS (clock1 m) m.probes j x s) then ((suspE (clock1 m) m.probes j x).1, 3) else suspE (clock1 m) m.probes j x) ∧
    (tickM m draw).since[j]? = some (suspS (clock1 m) m.probes j x s) := by
  obtain ⟨h1, h2⟩ := fold_entry m.self (clock1 m) draw m.probes ⟨m.tab, m.since, [], []⟩ hx hs
  have h1' : (tickTS m draw).tab[j]? = some (suspE (clock1 m) m.probes j x) := h1
  have h2' : (tickTS m draw).since[j]? = some (suspS (clock1 m) m.probes j x s) := h2
  refine ⟨?_, h2'⟩
  show (deadT m.self (clock1 m) (waitOf m.tab.length) (tickTS m draw).since (tickTS m draw).tab)[j]? = _
  rw [dead_get h1', deadE, List.getD_eq_getElem?_getD, h2']; rfl
theorem tickM_lens (m : Mach) (draw : Int) : (tickM m draw).tab.length = m.tab.length ∧ (tickM m draw).since.length = m.since.length := by
  have h := fold_lens m.self (clock1 m) draw m.probes ⟨m.tab, m.since, [], []⟩
  refine ⟨?_, h.2⟩
  show (deadT m.self (clock1 m) (waitOf m.tab.length) (tickTS m draw).since (tickTS m draw).tab).length = _
  rw [dead_len]; exact h.1
theorem tickM_probes (m : Mach) (draw : Int) : (tickM m draw).probes = (m.probes.filter (fun p => !oldP (clock1 m) p)).map (markP (clock1 m)) ++ [⟨IntKind.u64.wrap (m.seq + 1), nextP m.tab.length m.self m.pinged, clock1 m, false⟩] := by
  show (tickTS m draw).kept ++ _ = _
  rw [show (tickTS m draw).kept = (m.probes.filter (fun p => !oldP (clock1 m) p)).map (markP (clock1 m)) from by
    have := fold_kept m.self (clock1 m) draw m.probes ⟨m.tab, m.since, [], []⟩
    rw [List.nil_append] at this; exact this]
end Go.Proofs
