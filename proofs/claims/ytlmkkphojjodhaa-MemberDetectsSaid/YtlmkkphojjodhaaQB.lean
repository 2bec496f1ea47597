/- A machine that hears nothing more: its ticks. -/
import Derived.Test.YtlmkkphojjodhaaQA
set_option linter.unusedSimpArgs false
set_option linter.unusedVariables false
namespace Go.Proofs
open Go Go.Eng

def pingAt (n self : Int) : Nat → Int
  | 0 => self
  | k + 1 => nextP n self (pingAt n self k)
theorem nextP_ne {n self pinged : Int} (h2 : 2 ≤ n) (h0 : 0 ≤ pinged) (hs : 0 ≤ self) (hs' : self < n) : nextP n self pinged ≠ self := by
  have a1 : Int.tmod (pinged + 1) n < n := Int.tmod_lt_of_pos _ (by omega)
  have a0 : 0 ≤ Int.tmod (pinged + 1) n := Int.tmod_nonneg _ (by omega)
  unfold nextP
  split
  · rename_i h
    rw [h]
    intro hh
    by_cases hl : self + 1 < n
    · rw [Int.tmod_eq_of_lt (by omega) hl] at hh; omega
    · have : self + 1 = n := by omega
      rw [this, Int.tmod_self] at hh; omega
  · assumption
theorem pingAt_range {n self : Int} (h2 : 2 ≤ n) (h16 : n ≤ 16) (hs : 0 ≤ self) (hs' : self < n) : ∀ k, 0 ≤ pingAt n self k ∧ pingAt n self k < n
  | 0 => ⟨hs, hs'⟩
  | k + 1 => nextP_range h2 h16 (pingAt_range h2 h16 hs hs' k).1
theorem pingAt_ne {n self : Int} (h2 : 2 ≤ n) (h16 : n ≤ 16) (hs : 0 ≤ self) (hs' : self < n) {k : Nat} (hk : 1 ≤ k) : pingAt n self k ≠ self := by
  match k, hk with
  | k + 1, _ => exact nextP_ne h2 (pingAt_range h2 h16 hs hs' k).1 hs hs'
theorem ageOf_id {c s : Int} (h0 : 0 ≤ s) (h : s ≤ c) (hc : c < 18446744073709551616) : ageOf c s = c - s := wrapu64_id (by omega) (by omega)
theorem pingAt_eq {n self : Int} (h2 : 2 ≤ n) (hs : 0 ≤ self) (hs' : self < n) : ∀ k : Nat, (k : Int) < n → pingAt n self k = if self + k < n then self + k else self + k - n
  | 0, _ => by simp [pingAt]; omega
  | k + 1, hk => by
    have ih := pingAt_eq h2 hs hs' k (by omega)
    simp only [pingAt, ih]
    have hr : Int.tmod ((if self + k < n then self + k else self + k - n) + 1) n = if self + (k + 1 : Nat) < n then self + (k + 1 : Nat) else self + (k + 1 : Nat) - n := by
      by_cases h1 : self + (k + 1 : Nat) < n
      · rw [if_pos h1, if_pos (by omega), Int.tmod_eq_of_lt (by omega) (by omega)]; omega
      · rw [if_neg h1]
        by_cases h3 : self + k < n
        · rw [if_pos h3, show self + k + 1 = n by omega, Int.tmod_self]; omega
        · rw [if_neg h3, Int.tmod_eq_of_lt (by omega) (by omega)]; omega
    unfold nextP
    rw [hr, if_neg]
    split <;> omega
/-- Every other peer is pinged within a turn. -/
theorem pingAt_all {n self : Int} (h2 : 2 ≤ n) (hs : 0 ≤ self) (hs' : self < n) {j : Int} (h0 : 0 ≤ j) (hj : j < n) (hne : j ≠ self) : ∃ s : Nat, 1 ≤ s ∧ (s : Int) ≤ n - 1 ∧ pingAt n self s = j := by
  by_cases h : self < j
  · refine ⟨(j - self).toNat, by omega, by omega, ?_⟩
    rw [pingAt_eq h2 hs hs' _ (by omega)]; split <;> omega
  · refine ⟨(j - self + n).toNat, by omega, by omega, ?_⟩
    rw [pingAt_eq h2 hs hs' _ (by omega)]; split <;> omega
/-- The k-th tick of a machine that hears nothing. -/
structure Runs (n me : Int) (m : Mach) (k : Nat) : Prop where
  self_eq : m.self = me
  clk : m.clock = k
  sq : m.seq = k
  png : m.pinged = pingAt n me k
  tl : (m.tab.length : Int) = n
  sl : (m.since.length : Int) = n
  prb : ∀ p ∈ m.probes, ∃ s : Nat, 1 ≤ s ∧ s ≤ k ∧ p.sent = s ∧ p.target = pingAt n me s
  prb' : ∀ s : Nat, 1 ≤ s → s ≤ k → k < s + 10 → ∃ p ∈ m.probes, p.sent = s ∧ p.target = pingAt n me s
theorem markP_sent (c : Int) (p : Prb) : (markP c p).sent = p.sent ∧ (markP c p).target = p.target ∧ (markP c p).seq = p.seq := by unfold markP; split <;> exact ⟨rfl, rfl, rfl⟩
theorem Runs.clock {n me : Int} {m : Mach} {k : Nat} (h : Runs n me m k) (hk : k < 1000) : clock1 m = (k + 1 : Nat) := by
  rw [clock1, h.clk, wrapu64_id (by omega) (by omega)]; omega
theorem Runs.step {n me : Int} {m : Mach} {k : Nat} (draw : Int) (h : Runs n me m k) (hk : k < 1000) : Runs n me (tickM m draw) (k + 1) := by
  have hc := h.clock hk
  have hl := tickM_lens m draw
  refine ⟨h.self_eq, hc, ?_, ?_, by rw [hl.1]; exact h.tl, by rw [hl.2]; exact h.sl, fun p hp => ?_, fun s hs1 hs2 hs3 => ?_⟩
  · show IntKind.u64.wrap (m.seq + 1) = _
    rw [h.sq, wrapu64_id (by omega) (by omega)]; omega
  · show nextP m.tab.length m.self m.pinged = _
    rw [h.tl, h.self_eq, h.png]; rfl
  · rw [tickM_probes] at hp
    rcases List.mem_append.1 hp with hp | hp
    · obtain ⟨q, hq, rfl⟩ := List.mem_map.1 hp
      obtain ⟨s, a1, a2, a3, a4⟩ := h.prb q (List.mem_filter.1 hq).1
      obtain ⟨b1, b2, _⟩ := markP_sent (clock1 m) q
      exact ⟨s, a1, by omega, by rw [b1, a3], by rw [b2, a4]⟩
    · simp only [List.mem_singleton] at hp
      subst hp
      exact ⟨k + 1, by omega, by omega, hc, by show nextP m.tab.length m.self m.pinged = _; rw [h.tl, h.self_eq, h.png]; rfl⟩
  · rw [tickM_probes]
    by_cases hsk : s = k + 1
    · subst hsk
      exact ⟨_, List.mem_append_right _ (List.mem_singleton.2 rfl), hc, by show nextP m.tab.length m.self m.pinged = _; rw [h.tl, h.self_eq, h.png]; rfl⟩
    · obtain ⟨q, hq, a3, a4⟩ := h.prb' s hs1 (by omega) (by omega)
      obtain ⟨b1, b2, _⟩ := markP_sent (clock1 m) q
      refine ⟨_, List.mem_append_left _ (List.mem_map.2 ⟨q, List.mem_filter.2 ⟨hq, ?_⟩, rfl⟩), by rw [b1, a3], by rw [b2, a4]⟩
      simp only [oldP, hc, a3, ageOf_id (s := (s : Int)) (c := ((k + 1 : Nat) : Int)) (by omega) (by omega) (by omega), Bool.not_eq_true', decide_eq_false_iff_not]
      omega
/-- What the ticks do to the entries. -/
structure Fades (n me : Int) (m0 m : Mach) (k : Nat) : Prop where
  own : m.tab[me.toNat]? = m0.tab[me.toNat]?
  early : k ≤ 10 → ∀ (j : Nat) (x : Ent), m0.tab[j]? = some x → x.2 = 1 → ∃ y, m.tab[j]? = some y ∧ y.2 = 1
  late : ∀ (j s : Nat), (j : Int) ≠ me → 1 ≤ s → pingAt n me s = j → s + 10 ≤ k → ∀ y, m.tab[j]? = some y → y.2 ≠ 1
  susp : ∀ (j : Nat), (j : Int) ≠ me → ∀ y, m.tab[j]? = some y → y.2 = 2 → ∃ c : Nat, m.since[j]? = some (c : Int) ∧ (c : Int) ≤ n - 1 + 10 ∧ c ≤ k ∧ (1 ≤ k → (k : Int) - c < waitOf n.toNat)
theorem Runs.old {n me : Int} {m : Mach} {k : Nat} (h : Runs n me m k) (hk : k < 1000) (h2 : 2 ≤ n) (h16 : n ≤ 16) (hs : 0 ≤ me) (hs' : me < n) {j : Nat} (hj : suspP (clock1 m) m.probes j = true) :
    ∃ s : Nat, 1 ≤ s ∧ s + 10 ≤ k + 1 ∧ pingAt n me s = j := by
  simp only [suspP, List.any_eq_true, Bool.and_eq_true, beq_iff_eq] at hj
  obtain ⟨p, hp, ho, ht⟩ := hj
  obtain ⟨s, a1, a2, a3, a4⟩ := h.prb p hp
  rw [oldP, h.clock hk, a3, decide_eq_true_eq, ageOf_id (by omega) (by omega) (by omega)] at ho
  have := pingAt_range h2 h16 hs hs' s
  exact ⟨s, a1, by omega, by rw [← a4, ← ht, a4]; omega⟩
theorem Runs.young {n me : Int} {m : Mach} {k : Nat} (h : Runs n me m k) (hk : k < 1000) {j s : Nat} (h1 : 1 ≤ s) (hs : s + 10 = k + 1) (hp : pingAt n me s = j) : suspP (clock1 m) m.probes j = true := by
  obtain ⟨p, hp', a3, a4⟩ := h.prb' s h1 (by omega) (by omega)
  simp only [suspP, List.any_eq_true, Bool.and_eq_true, beq_iff_eq]
  refine ⟨p, hp', ?_, by rw [a4, hp]; simp⟩
  rw [oldP, h.clock hk, a3, decide_eq_true_eq, ageOf_id (by omega) (by omega) (by omega)]
  omega
theorem suspE_no {c : Int} {ps : List Prb} {j : Nat} {x : Ent} (h : ¬ (suspP c ps j = true ∧ x.2 = 1)) : suspE c ps j x = x := if_neg h
theorem suspS_no {c : Int} {ps : List Prb} {j : Nat} {x : Ent} {s : Int} (h : ¬ (suspP c ps j = true ∧ x.2 = 1)) : suspS c ps j x s = s := if_neg h
theorem Fades.step {n me : Int} {m0 m : Mach} {k : Nat} (draw : Int) (h : Runs n me m k) (f : Fades n me m0 m k) (hk : k < 1000) (h2 : 2 ≤ n) (h16 : n ≤ 16) (hs : 0 ≤ me) (hs' : me < n) : Fades n me m0 (tickM m draw) (k + 1) := by
  have hc := h.clock hk
  have htl := h.tl
  have hsl := h.sl
  have ent : ∀ {j : Nat} {y : Ent}, (tickM m draw).tab[j]? = some y → ∃ (x : Ent) (s : Int), m.tab[j]? = some x ∧ m.since[j]? = some s := fun {j y} hy => by
    have hj : j < m.tab.length := by have := (List.getElem?_eq_some_iff.1 hy).1; rwa [(tickM_lens m draw).1] at this
    exact ⟨_, _, List.getElem?_eq_getElem hj, List.getElem?_eq_getElem (by omega)⟩
  have w2 : 10 ≤ waitOf n.toNat := by unfold waitOf; omega
  have hwn : waitOf m.tab.length = waitOf n.toNat := by rw [← htl]; rfl
  refine ⟨?_, fun hk10 j x hx hx1 => ?_, fun j s hj h1 hp hsk y hy => ?_, fun j hj y hy hy2 => ?_⟩
  · have hm : m.tab[me.toNat]? = some m.tab[me.toNat] := List.getElem?_eq_getElem (by omega)
    have hsn : m.since[me.toNat]? = some m.since[me.toNat] := List.getElem?_eq_getElem (by omega)
    have hno : ¬ (suspP (clock1 m) m.probes me.toNat = true ∧ m.tab[me.toNat].2 = 1) := fun hh => by
      obtain ⟨s, a1, _, a3⟩ := h.old hk h2 h16 hs hs' hh.1
      exact pingAt_ne h2 h16 hs hs' a1 (by rw [a3]; omega)
    rw [(tickM_entry m draw hm hsn).1, suspE_no hno, if_neg (fun hh => hh.1 (by rw [h.self_eq]; omega)), ← hm, f.own]
  · obtain ⟨y, hy, hy1⟩ := f.early (by omega) j x hx hx1
    have hsn : m.since[j]? = some _ := List.getElem?_eq_getElem (by have := (List.getElem?_eq_some_iff.1 hy).1; omega)
    have hno : ¬ (suspP (clock1 m) m.probes j = true ∧ y.2 = 1) := fun hh => by
      obtain ⟨s, a1, a2, _⟩ := h.old hk h2 h16 hs hs' hh.1
      omega
    refine ⟨y, ?_, hy1⟩
    rw [(tickM_entry m draw hy hsn).1, suspE_no hno, if_neg (fun hh => by have := hh.2.1; omega)]
  · obtain ⟨x, c, hx, hcs⟩ := ent hy
    rw [(tickM_entry m draw hx hcs).1] at hy
    have hy := Option.some.inj hy
    have hne : (suspE (clock1 m) m.probes j x).2 ≠ 1 := by
      by_cases hlt : s + 10 ≤ k
      · have := f.late j s hj h1 hp hlt x hx
        rw [suspE_no (fun hh => this hh.2)]; exact this
      · have hy' := h.young hk h1 (show s + 10 = k + 1 by omega) hp
        unfold suspE
        split
        · simp
        · rename_i hh; exact fun e => hh ⟨hy', e⟩
    rw [← hy]
    split
    · simp
    · exact hne
  · obtain ⟨x, c, hx, hcs⟩ := ent hy
    obtain ⟨e1, e2⟩ := tickM_entry m draw hx hcs
    rw [e1] at hy
    have hy := Option.some.inj hy
    rw [e2]
    rw [h.self_eq, hwn] at hy
    split at hy
    · rw [← hy] at hy2; cases hy2
    · rename_i hnd
      rw [← hy] at hy2
      by_cases hh : suspP (clock1 m) m.probes j = true ∧ x.2 = 1
      · have hjn : (j : Int) < n := by have := (List.getElem?_eq_some_iff.1 hx).1; omega
        obtain ⟨s0, a1, a2, a3⟩ := pingAt_all h2 hs hs' (j := (j : Int)) (by omega) hjn hj
        have : ¬ s0 + 10 ≤ k := fun hle => f.late j s0 hj a1 a3 hle x hx hh.2
        refine ⟨k + 1, by rw [suspS, if_pos hh, hc], by omega, by omega, fun _ => by omega⟩
      · rw [suspE_no hh] at hy2 hnd
        rw [suspS_no hh] at hnd ⊢
        obtain ⟨c', b1, b2, b3, b4⟩ := f.susp j hj x hx hy2
        rw [hcs] at b1
        have b1 := Option.some.inj b1
        refine ⟨c', by rw [b1], b2, by omega, fun _ => ?_⟩
        have : ¬ waitOf n.toNat ≤ ageOf (clock1 m) c := fun hw => hnd ⟨hj, hy2, hw⟩
        rw [hc, b1, ageOf_id (by omega) (by omega) (by omega)] at this
        omega
theorem runs_all {n me draw : Int} {m0 : Mach} (h0 : Runs n me m0 0) (f0 : Fades n me m0 m0 0) (h2 : 2 ≤ n) (h16 : n ≤ 16) (hs : 0 ≤ me) (hs' : me < n) : ∀ k : Nat, k < 1000 → Runs n me (tickN draw k m0) k ∧ Fades n me m0 (tickN draw k m0) k
  | 0, _ => ⟨h0, f0⟩
  | k + 1, hk => by
    obtain ⟨a, b⟩ := runs_all (draw := draw) h0 f0 h2 h16 hs hs' k (by omega)
    exact ⟨a.step draw (by omega), b.step draw a (by omega) h2 h16 hs hs'⟩
theorem heard_eq {me n inc : Int} {t : List Ent} (h2 : 2 ≤ n) (h16 : n ≤ 16) (hs : 0 ≤ me) (hs' : me < n) (hv : validT t = true) (ht : (t.length : Int) = n) :
    recvE (newM me n inc) ⟨2, Int.tmod (me + 1) n, me, 0, me, 0⟩ t = 0 ∧ heardM me n inc t = recvM (newM me n inc) ⟨2, Int.tmod (me + 1) n, me, 0, me, 0⟩ t := by
  have a1 : Int.tmod (me + 1) n < n := Int.tmod_lt_of_pos _ (by omega)
  have a0 : 0 ≤ Int.tmod (me + 1) n := Int.tmod_nonneg _ (by omega)
  have hne : Int.tmod (me + 1) n ≠ me := fun hh => by
    by_cases hl : me + 1 < n
    · rw [Int.tmod_eq_of_lt (by omega) hl] at hh; omega
    · rw [show me + 1 = n by omega, Int.tmod_self] at hh; omega
  have hE : recvE (newM me n inc) ⟨2, Int.tmod (me + 1) n, me, 0, me, 0⟩ t = 0 := by
    rw [recvE, if_neg (by simp [newM]), if_pos]
    rw [newM_len]
    simp only [acceptsP, peerP, hv, Bool.and_eq_true, Bool.not_eq_true', decide_eq_true_eq, beq_iff_eq, beq_eq_false_iff_ne, ne_eq]
    simp [newM]
    omega
  exact ⟨hE, by rw [heardM, recvS, if_pos hE]⟩
theorem heard_runs {me n inc : Int} {t : List Ent} (h2 : 2 ≤ n) (h16 : n ≤ 16) (hs : 0 ≤ me) (hs' : me < n) (hv : validT t = true) (ht : (t.length : Int) = n) :
    Runs n me (heardM me n inc t) 0 ∧ Fades n me (heardM me n inc t) (heardM me n inc t) 0 ∧ (heardM me n inc t).tab[me.toNat]? = some (inc, 1) := by
  rw [(heard_eq h2 h16 hs hs' hv ht).2]
  have hl : (recvTab me (newM me n inc).tab t).length = n.toNat := by rw [recvTab_len, newM_len]
  refine ⟨⟨rfl, rfl, rfl, rfl, ?_, ?_, fun p hp => ?_, fun s h1 h2 => by omega⟩, ⟨rfl, fun _ j x hx hx1 => ⟨x, hx, hx1⟩, fun j s _ h1 _ h2 => by omega, fun j hj y hy hy2 => ?_⟩, ?_⟩
  · show ((recvTab me (newM me n inc).tab t).length : Int) = n
    rw [hl]; omega
  · show ((recvSince me 0 (newM me n inc).tab (newM me n inc).since t).length : Int) = n
    rw [recvSince_len]; simp [newM]; omega
  · exfalso
    have : (recvM (newM me n inc) ⟨2, Int.tmod (me + 1) n, me, 0, me, 0⟩ t).probes = [] := by simp [recvM, newM, forMe]
    rw [this] at hp; cases hp
  · have hjl : j < n.toNat := by
      have := (List.getElem?_eq_some_iff.1 hy).1
      have h' : j < (recvTab me (newM me n inc).tab t).length := this
      rwa [hl] at h'
    have hsn : (newM me n inc).since[j]? = some 0 := by simp [newM, List.getElem?_replicate, hjl]
    refine ⟨0, ?_, by omega, by omega, fun h => by omega⟩
    show (recvSince me 0 (newM me n inc).tab (newM me n inc).since t)[j]? = some 0
    rw [recvSince_get (newM_get hs hjl) (List.getElem?_eq_getElem (show j < t.length by omega)) hsn, ite_self]
  · show (recvTab me (newM me n inc).tab t)[me.toNat]? = some (inc, 1)
    obtain ⟨y, _, hr⟩ := recv_new_get (inc := inc) hs ht (i := me.toNat) (by omega)
    rw [hr, if_pos (by omega)]
theorem live_single {l : List Ent} {me : Nat} (h : me < l.length) (hl : liveS (l.getD me (0, 0)).2 = true) (ho : ∀ j, j < l.length → j ≠ me → liveS (l.getD j (0, 0)).2 = false) : liveT l = [(me : Int)] := by
  have : ∀ n, n ≤ l.length → liveN l n = if me < n then [(me : Int)] else [] := by
    intro n
    induction n with
    | zero => intro _; simp [liveN]
    | succ n ih =>
      intro hn
      have ih := ih (by omega)
      unfold liveN at ih ⊢
      rw [List.range_succ, List.filter_append, List.map_append, ih]
      by_cases hm : n = me
      · subst hm
        rw [if_neg (by omega), if_pos (by omega), List.filter_cons, if_pos hl]; rfl
      · have hs := ho n (by omega) hm
        have hf : [n].filter (fun i => liveS (l.getD i (0, 0)).2) = [] := by rw [List.filter_cons, if_neg (fun e => by rw [hs] at e; cases e)]; rfl
        rw [hf]
        by_cases h1 : me < n
        · rw [if_pos h1, if_pos (show me < n + 1 by omega)]; rfl
        · rw [if_neg h1, if_neg (show ¬ me < n + 1 by omega)]; rfl
  rw [liveT, this _ (Nat.le_refl _), if_pos h]
/-- After so many ticks nobody else is live. -/
theorem detect_end {me n draw : Int} {t : List Ent} (h2 : 2 ≤ n) (h16 : n ≤ 16) (hs : 0 ≤ me) (hs' : me < n) (hv : validT t = true) (ht : (t.length : Int) = n) {k : Nat} (hk : (k : Int) = n - 1 + 10 + waitOf n.toNat) :
    liveT (tickN draw k (heardM me n 1 t)).tab = [me] := by
  obtain ⟨r0, f0, hown⟩ := heard_runs (inc := 1) h2 h16 hs hs' hv ht
  have hw : waitOf n.toNat ≤ 58 := by unfold waitOf; omega
  have hw0 : 10 ≤ waitOf n.toNat := by unfold waitOf; omega
  obtain ⟨r, f⟩ := runs_all (draw := draw) r0 f0 h2 h16 hs hs' k (by omega)
  have htl := r.tl
  have hme : (tickN draw k (heardM me n 1 t)).tab[me.toNat]? = some (1, 1) := by rw [f.own, hown]
  have := live_single (l := (tickN draw k (heardM me n 1 t)).tab) (me := me.toNat) (by omega) (by rw [List.getD_eq_getElem?_getD, hme]; rfl) (fun j hj hne => by
    have hx : (tickN draw k (heardM me n 1 t)).tab[j]? = some _ := List.getElem?_eq_getElem hj
    have hne' : (j : Int) ≠ me := by omega
    rw [List.getD_eq_getElem?_getD, hx]
    obtain ⟨s, a1, a2, a3⟩ := pingAt_all h2 hs hs' (j := (j : Int)) (by omega) (by omega) hne'
    have n1 := f.late j s hne' a1 a3 (by omega) _ hx
    have n2 : ((tickN draw k (heardM me n 1 t)).tab[j]).2 ≠ 2 := fun e => by
      obtain ⟨c, _, b2, _, b4⟩ := f.susp j hne' _ hx e
      have := b4 (by omega)
      omega
    simp only [Option.getD_some, liveS, Bool.or_eq_false_iff, beq_eq_false_iff_ne]
    exact ⟨n1, n2⟩)
  rw [this]
  simp; omega
end Go.Proofs
