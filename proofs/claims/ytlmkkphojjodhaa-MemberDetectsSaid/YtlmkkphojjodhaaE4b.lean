/- Rows laid out in memory. -/
import Derived.Test.YtlmkkphojjodhaaE4
set_option linter.unusedSimpArgs false
set_option linter.unusedVariables false
namespace Go.Eng
open Go
variable {ρ : Env}

theorem fitsT_den {k : CK} {t : T} (h : fitsT k t = true) : CK.fits k (t.den ρ).v = true := by
  unfold fitsT at h
  split at h <;> first
    | (simp only [decide_eq_true_eq] at h; subst h; simp [T.den, O1.den, CK.fits]; done)
    | (simp [T.den, O0.den, O1.den, O3.den, CK.fits, Value.oneCell']; done)
    | (simp at h; done)


theorem fitsTs_den : ∀ {ks : List CK} {ts : List T}, fitsTs ks ts = true → ∀ (j : Nat) (k : CK) (v : Value), ks[j]? = some k → (denVs ρ ts)[j]? = some v → CK.fits k v = true
  | ks, [], _, j, k, v, _, hv => by simp [denVs] at hv
  | [], t :: ts, h, _, _, _, _, _ => by simp [fitsTs] at h
  | k :: ks, t :: ts, h, 0, k', v, hk, hv => by
    simp only [fitsTs, Bool.and_eq_true] at h
    simp only [List.getElem?_cons_zero, Option.some.injEq] at hk
    simp only [denVs, List.map_cons, List.getElem?_cons_zero, Option.some.injEq] at hv
    subst hk; subst hv
    exact fitsT_den h.1
  | k :: ks, t :: ts, h, j + 1, k', v, hk, hv => by
    simp only [fitsTs, Bool.and_eq_true] at h
    simp only [List.getElem?_cons_succ] at hk
    simp only [denVs, List.map_cons, List.getElem?_cons_succ] at hv
    exact fitsTs_den h.2 j k' v hk hv


theorem fitsTs_len : ∀ {ks : List CK} {ts : List T}, fitsTs ks ts = true → ts.length ≤ ks.length
  | _, [], _ => by simp
  | [], t :: ts, h => by simp [fitsTs] at h
  | k :: ks, t :: ts, h => by
    simp only [fitsTs, Bool.and_eq_true] at h
    have := fitsTs_len h.2
    simp only [List.length_cons]; omega


theorem row_den : ∀ (ts : List T), ((T.row ts).den ρ).d.headD [] = denVs ρ ts
  | [] => by simp [T.row, T.den, O0.den, denVs]
  | t :: ts => by
    have := row_den ts
    simp only [T.row, T.den, O2.den, List.headD_cons, denVs, List.map_cons] at this ⊢
    rw [this]


/-- The rows' cells, one after another. -/
def flat (d : List (List Value)) : List Value := d.flatten


theorem flat_get {p : Nat} : ∀ {d : List (List Value)}, (∀ row ∈ d, row.length = p) → ∀ (i k : Nat) (row : List Value), d[i]? = some row → k < p → (flat d)[i * p + k]? = row[k]?
  | [], _, i, k, row, h, _ => by simp at h
  | r0 :: d, hp, 0, k, row, h, hk => by
    simp only [List.getElem?_cons_zero, Option.some.injEq] at h; subst h
    have := hp r0 (List.mem_cons_self ..)
    simp only [flat, List.flatten_cons, Nat.zero_mul, Nat.zero_add]
    rw [List.getElem?_append_left (by omega)]
  | r0 :: d, hp, i + 1, k, row, h, hk => by
    simp only [List.getElem?_cons_succ] at h
    have h0 := hp r0 (List.mem_cons_self ..)
    have ih := flat_get (fun row hr => hp row (List.mem_cons_of_mem _ hr)) i k row h hk
    simp only [flat, List.flatten_cons] at ih ⊢
    rw [List.getElem?_append_right (by rw [h0, Nat.add_mul]; omega), h0, show (i + 1) * p + k - p = i * p + k from by rw [Nat.add_mul]; omega]
    exact ih


theorem flat_len {p : Nat} : ∀ {d : List (List Value)}, (∀ row ∈ d, row.length = p) → (flat d).length = d.length * p
  | [], _ => by simp [flat]
  | r0 :: d, hp => by
    have h0 := hp r0 (List.mem_cons_self ..)
    have ih := flat_len (fun row hr => hp row (List.mem_cons_of_mem _ hr))
    simp only [flat, List.flatten_cons, List.length_append, List.length_cons] at ih ⊢
    rw [ih, h0, Nat.add_mul]; omega


/-- A list of cells where a place is told by its row. -/
theorem flat_at {p : Nat} (hp0 : 0 < p) {d : List (List Value)} (hp : ∀ row ∈ d, row.length = p) {j : Nat} {v : Value} (h : (flat d)[j]? = some v) : ∃ row, d[j / p]? = some row ∧ row[j % p]? = some v := by
  have hj : j < (flat d).length := by
    rcases Nat.lt_or_ge j (flat d).length with h' | h'
    · exact h'
    · rw [List.getElem?_eq_none h'] at h; cases h
  rw [flat_len hp] at hj
  have hi : j / p < d.length := Nat.div_lt_of_lt_mul (by rw [Nat.mul_comm]; exact hj)
  refine ⟨d[j / p], List.getElem?_eq_getElem hi, ?_⟩
  have := flat_get hp (j / p) (j % p) _ (List.getElem?_eq_getElem hi) (Nat.mod_lt _ hp0)
  rw [show j / p * p + j % p = j from by rw [Nat.mul_comm]; exact Nat.div_add_mod j p] at this
  rw [← this]; exact h


theorem rowsAt_flat {c : Array Value} {o : Nat} {pat : List CK} {d : List (List Value)} (hp : 0 < pat.length) (h : rowsAt c o pat d) : ∀ (j : Nat) (v : Value), (flat d)[j]? = some v → c[o + j]? = some v := by
  intro j v hv
  obtain ⟨row, h1, h2⟩ := flat_at hp (fun row hr => by
    obtain ⟨i, hi⟩ := List.getElem?_of_mem hr
    exact (h i row hi).1.1) hv
  have := (h _ _ h1).2 _ _ h2
  rwa [show o + j / pat.length * pat.length + j % pat.length = o + j from by
    rw [Nat.add_assoc, Nat.mul_comm]; congr 1; exact Nat.div_add_mod j pat.length] at this


theorem rowsAt_sub {c : Array Value} {o : Nat} {pat : List CK} {d : List (List Value)} (h : rowsAt c o pat d) (n m : Nat) : rowsAt c (o + n * pat.length) pat ((d.drop n).take m) := by
  intro i row hi
  rw [List.getElem?_take] at hi
  split at hi
  · rw [List.getElem?_drop] at hi
    obtain ⟨h1, h2⟩ := h _ _ hi
    refine ⟨h1, fun k v hv => ?_⟩
    have := h2 k v hv
    rwa [show o + (n + i) * pat.length + k = o + n * pat.length + i * pat.length + k from by rw [Nat.add_mul]; omega] at this
  · cases hi


theorem rowsLit_den {pat : List CK} {p : Nat} (hpp : p = pat.length) : ∀ {n : Nat} {cs : List T} {d : T}, rowsLit pat p n cs = some d →
    (d.den ρ).d.length = n ∧ flat (d.den ρ).d = denVs ρ cs ∧ ∀ row ∈ (d.den ρ).d, fitsRow pat row
  | 0, [], d, h => by simp only [rowsLit, Option.some.injEq] at h; subst h; simp [T.den, O0.den, flat, denVs]
  | 0, _ :: _, d, h => by simp [rowsLit] at h
  | n + 1, cs, d, h => by
    simp only [rowsLit] at h
    split at h
    · rename_i hc
      simp only [Bool.and_eq_true, Nat.ble_eq] at hc
      split at h
      · rename_i r hr
        obtain ⟨h1, h2, h3⟩ := rowsLit_den hpp hr
        have hfit : fitsRow pat (denVs ρ (cs.take p)) := ⟨by simp [denVs]; omega, fun c k v hk hv => fitsTs_den hc.2 c k v hk hv⟩
        have hrow : ((T.row (cs.take p)).den ρ).d = [denVs ρ (cs.take p)] := by
          have hd := row_den (ρ := ρ) (cs.take p)
          have hl : ((T.row (cs.take p)).den ρ).d.length = 1 := by
            cases cs.take p with
            | nil => simp [T.row, T.den, O0.den]
            | cons t ts => simp [T.row, T.den, O2.den]
          match hx : ((T.row (cs.take p)).den ρ).d, hl with
          | [x], _ => rw [hx] at hd; simpa using hd
        have hsplit : denVs ρ cs = denVs ρ (cs.take p) ++ denVs ρ (cs.drop p) := by
          simp only [denVs, ← List.map_append, List.take_append_drop]
        simp only [Option.some.injEq] at h
        split at h
        · subst h
          rw [hrow]
          have hn : (r.den ρ).d = [] := List.length_eq_zero_iff.1 h1
          rw [hn] at h2
          refine ⟨rfl, ?_, fun row hm => by simp only [List.mem_singleton] at hm; subst hm; exact hfit⟩
          rw [hsplit, ← h2]; simp [flat]
        · subst h
          simp only [T.den, O2.den, hrow]
          refine ⟨by simp [h1], ?_, fun row hm => ?_⟩
          · rw [hsplit, ← h2]; simp [flat]
          · rcases List.mem_append.1 hm with hm | hm
            · simp only [List.mem_singleton] at hm; subst hm; exact hfit
            · exact h3 row hm
      · simp at h
    · simp at h


/-- Cells that agree with rows laid out are those rows. -/
theorem rowsAt_of_flat {c : Array Value} {o : Nat} {pat : List CK} {d : List (List Value)} (hf : ∀ row ∈ d, fitsRow pat row) (h : ∀ (j : Nat) (v : Value), (flat d)[j]? = some v → c[o + j]? = some v) : rowsAt c o pat d := by
  intro i row hi
  have hm := hf row (List.mem_of_getElem? hi)
  refine ⟨hm, fun k v hv => ?_⟩
  have hk : k < pat.length := by
    rw [← hm.1]
    rcases Nat.lt_or_ge k row.length with h' | h'
    · exact h'
    · rw [List.getElem?_eq_none h'] at hv; cases hv
  have := flat_get (fun row hr => (hf row hr).1) i k row hi hk
  rw [hv] at this
  have := h _ _ this
  rwa [← Nat.add_assoc] at this


theorem flat_append (d e : List (List Value)) : flat (d ++ e) = flat d ++ flat e := by simp [flat]


theorem flat_good {pat : List CK} {d : List (List Value)} (hf : ∀ row ∈ d, fitsRow pat row) : ∀ v ∈ flat d, v.oneCell' = true := by
  intro v hv
  simp only [flat, List.mem_flatten] at hv
  obtain ⟨row, hr, hv⟩ := hv
  obtain ⟨k, hk⟩ := List.getElem?_of_mem hv
  obtain ⟨h1, h2⟩ := hf row hr
  have hlt : k < pat.length := by
    rw [← h1]
    rcases Nat.lt_or_ge k row.length with h' | h'
    · exact h'
    · rw [List.getElem?_eq_none h'] at hk; cases hk
  have := h2 k _ v (List.getElem?_eq_getElem hlt) hk
  unfold CK.fits at this
  split at this
  · rfl
  · rfl
  · exact this
  · cases this


theorem rowsAt_fits {c : Array Value} {o : Nat} {pat : List CK} {d : List (List Value)} (h : rowsAt c o pat d) : ∀ row ∈ d, fitsRow pat row := fun row hr => by
  obtain ⟨i, hi⟩ := List.getElem?_of_mem hr
  exact (h i row hi).1


end Go.Eng
