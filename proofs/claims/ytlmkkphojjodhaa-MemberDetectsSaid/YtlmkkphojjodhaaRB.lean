/- The first five ticks, plainly. -/
import Derived.Test.YtlmkkphojjodhaaQB
import Derived.Test.YtlmkkphojjodhaaRA
set_option linter.unusedSimpArgs false
set_option linter.unusedVariables false
namespace Go.Proofs
open Go Go.Eng

theorem Runs.wf {n me : Int} {m : Mach} {k : Nat} (h : Runs n me m k) (h2 : 2 ≤ n) (h16 : n ≤ 16) (hs : 0 ≤ me) (hs' : me < n) : machWf m := by
  have h1 := h.tl
  have h3 := h.sl
  have hr := pingAt_range h2 h16 hs hs' k
  refine ⟨by omega, by omega, by omega, by rw [h.self_eq]; exact hs, by rw [h.self_eq]; omega, by rw [h.png]; exact hr.1, by rw [h.png]; omega, fun p hp => ?_⟩
  obtain ⟨s, _, _, _, a4⟩ := h.prb p hp
  have := pingAt_range h2 h16 hs hs' s
  rw [a4]; omega
theorem fold_young (self clock draw : Int) : ∀ (ps : List Prb) (st : TS), (∀ p ∈ ps, ageOf clock p.sent < 4) → ps.foldl (tickP self clock draw) st = { st with kept := st.kept ++ ps }
  | [], st, _ => by simp
  | p :: ps, st, h => by
    have hp := h p (List.mem_cons_self ..)
    rw [List.foldl_cons, fold_young self clock draw ps _ fun q hq => h q (List.mem_cons_of_mem _ hq), tickP, if_neg (by omega), if_neg (by omega)]
    simp
theorem dead_quiet {self clock wait : Int} {since : List Int} {t : List Ent} (h : ∀ (j : Nat) (x : Ent), t[j]? = some x → ageOf clock (since.getD j 0) < wait) : deadT self clock wait since t = t := by
  apply List.ext_getElem?
  intro j
  by_cases hj : j < t.length
  · have hx := List.getElem?_eq_getElem hj
    rw [dead_get hx, hx, deadE, if_neg]
    have := h j _ hx
    omega
  · rw [List.getElem?_eq_none (by rw [dead_len]; omega), List.getElem?_eq_none (by omega)]
/-- A machine none of whose probes is old. -/
theorem tick_quiet {m : Mach} {draw : Int} (hp : ∀ p ∈ m.probes, ageOf (clock1 m) p.sent < 4) : tickTS m draw = ⟨m.tab, m.since, m.probes, []⟩ := by
  have := fold_young m.self (clock1 m) draw m.probes ⟨m.tab, m.since, [], []⟩ hp
  rw [List.nil_append] at this; exact this
def pr (n me : Int) (a : Bool) (s : Nat) : Prb := ⟨s, pingAt n me s, s, a⟩
/-- The probes of the first ticks. -/
structure Calm0 (n me : Int) (m0 m : Mach) (k : Nat) : Prop where
  runs : Runs n me m k
  tab : m.tab = m0.tab
  since : m.since = m0.since
  prbs : m.probes = (List.range k).map fun s => pr n me false (s + 1)
theorem Calm0.young {n me : Int} {m0 m : Mach} {k : Nat} (h : Calm0 n me m0 m k) (hk : k ≤ 3) : ∀ p ∈ m.probes, ageOf (clock1 m) p.sent < 4 := fun p hp => by
  rw [h.prbs] at hp
  obtain ⟨s, hs, rfl⟩ := List.mem_map.1 hp
  have := List.mem_range.1 hs
  rw [h.runs.clock (by omega)]
  show ageOf _ ((s + 1 : Nat) : Int) < 4
  rw [ageOf_id (by omega) (by omega) (by omega)]; omega
theorem Calm0.dead {n me : Int} {m0 m : Mach} {k : Nat} (h : Calm0 n me m0 m k) (h0 : ∀ s ∈ m0.since, s = 0) (hk : k ≤ 4) : deadT m.self (clock1 m) (waitOf m.tab.length) m.since m.tab = m.tab := by
  apply dead_quiet
  intro j x hx
  have w : 10 ≤ waitOf m.tab.length := by unfold waitOf; omega
  have : m.since.getD j 0 = 0 := by
    rw [h.since, List.getD_eq_getElem?_getD]
    cases hj : m0.since[j]? with
    | none => rfl
    | some s => exact h0 s (List.mem_of_getElem? hj)
  rw [this, h.runs.clock (by omega), ageOf_id (by omega) (by omega) (by omega)]; omega
theorem Calm0.step {n me : Int} {m0 m : Mach} {k : Nat} (draw : Int) (h : Calm0 n me m0 m k) (h0 : ∀ s ∈ m0.since, s = 0) (hk : k ≤ 3) : Calm0 n me m0 (tickM m draw) (k + 1) ∧ tickMsgs m draw = [⟨1, 0, pingAt n me (k + 1), (k + 1 : Nat), me, 0⟩] := by
  have hq := tick_quiet (draw := draw) (h.young hk)
  have hq1 : IntKind.u64.wrap (m.seq + 1) = (k + 1 : Nat) := by rw [h.runs.sq, wrapu64_id (by omega) (by omega)]; omega
  have hn : nextP m.tab.length m.self m.pinged = pingAt n me (k + 1) := by rw [h.runs.tl, h.runs.self_eq, h.runs.png]; rfl
  refine ⟨⟨h.runs.step draw (by omega), ?_, ?_, ?_⟩, ?_⟩
  · simp only [tickM, hq]
    rw [h.dead h0 (by omega), h.tab]
  · simp only [tickM, hq]; exact h.since
  · simp only [tickM, hq]
    rw [hq1, hn, h.runs.clock (by omega), h.prbs, List.range_succ, List.map_append]; rfl
  · simp only [tickMsgs, hq, hq1, List.nil_append]
    rw [hn, h.runs.self_eq]
theorem calm_all {n me draw : Int} {m0 : Mach} (r0 : Runs n me m0 0) (hp : m0.probes = []) (h0 : ∀ s ∈ m0.since, s = 0) : ∀ k : Nat, k ≤ 4 → Calm0 n me m0 (tickN draw k m0) k
  | 0, _ => ⟨r0, rfl, rfl, by rw [show tickN draw 0 m0 = m0 from rfl, hp]; rfl⟩
  | k + 1, hk => ((calm_all r0 hp h0 k (by omega)).step draw h0 (by omega)).1
/-- The fifth tick asks for help about the first probe. -/
theorem fifth {n me draw : Int} {m0 m : Mach} (h : Calm0 n me m0 m 4) (h0 : ∀ s ∈ m0.since, s = 0) :
    tickMsgs m draw = askL m0.tab me 1 (pingAt n me 1) draw ++ [⟨1, 0, pingAt n me 5, 5, me, 0⟩] ∧ (tickM m draw).probes = [pr n me true 1, pr n me false 2, pr n me false 3, pr n me false 4, pr n me false 5] ∧ (tickM m draw).tab = m0.tab := by
  have hc : clock1 m = 5 := h.runs.clock (by omega)
  have hps : m.probes = [pr n me false 1, pr n me false 2, pr n me false 3, pr n me false 4] := h.prbs
  have hT : tickTS m draw = ⟨m.tab, m.since, [pr n me true 1, pr n me false 2, pr n me false 3, pr n me false 4], askL m.tab me 1 (pingAt n me 1) draw⟩ := by
    rw [tickTS, tickPs, hc, hps, List.foldl_cons, fold_young]
    · have a1 : ¬ 10 ≤ ageOf 5 (pr n me false 1).sent := (by decide : ¬ 10 ≤ ageOf 5 1)
      have a2 : 4 ≤ ageOf 5 (pr n me false 1).sent := (by decide : 4 ≤ ageOf 5 1)
      rw [tickP, if_neg a1, if_pos ⟨a2, rfl⟩, h.runs.self_eq]
      rfl
    · intro p hp
      simp only [List.mem_cons, List.not_mem_nil, or_false] at hp
      rcases hp with rfl | rfl | rfl
      · exact (by decide : ageOf 5 2 < 4)
      · exact (by decide : ageOf 5 3 < 4)
      · exact (by decide : ageOf 5 4 < 4)
  have hq1 : IntKind.u64.wrap (m.seq + 1) = 5 := by rw [h.runs.sq]; decide
  have hn : nextP m.tab.length m.self m.pinged = pingAt n me 5 := by rw [h.runs.tl, h.runs.self_eq, h.runs.png]; rfl
  refine ⟨?_, ?_, ?_⟩
  · simp only [tickMsgs, hT, hq1]
    rw [hn, h.runs.self_eq, h.tab]
  · simp only [tickM, hT, hq1, hc]
    rw [hn]; rfl
  · simp only [tickM, hT]; rw [h.dead h0 (by omega), h.tab]
theorem heard_since {me n inc : Int} {t : List Ent} (h2 : 2 ≤ n) (h16 : n ≤ 16) (hs : 0 ≤ me) (hs' : me < n) (hv : validT t = true) (ht : (t.length : Int) = n) :
    (heardM me n inc t).probes = [] ∧ ∀ s ∈ (heardM me n inc t).since, s = 0 := by
  rw [(heard_eq h2 h16 hs hs' hv ht).2]
  refine ⟨by simp [recvM, newM, forMe], fun s hsm => ?_⟩
  obtain ⟨j, hj, rfl⟩ := List.getElem_of_mem hsm
  have hl : (recvSince me 0 (newM me n inc).tab (newM me n inc).since t).length = n.toNat := by rw [recvSince_len]; simp [newM]
  have hj' : j < n.toNat := by
    have h' : j < (recvSince me 0 (newM me n inc).tab (newM me n inc).since t).length := hj
    rwa [hl] at h'
  have hsn : (newM me n inc).since[j]? = some 0 := by simp [newM, List.getElem?_replicate, hj']
  have : (recvSince me 0 (newM me n inc).tab (newM me n inc).since t)[j]? = some 0 := by
    rw [recvSince_get (newM_get hs hj') (List.getElem?_eq_getElem (show j < t.length by omega)) hsn, ite_self]
  have h2 := List.getElem?_eq_getElem hj
  exact Option.some.inj (h2.symm.trans this)
/-! ### Messages as rows -/
theorem stamped_row {h : Hp} {ms : List Msg} {self : Int} {t : List Ent} {d : List (List Value)} (hs : stamped h ms self t ms.length d) {i : Nat} {g : Msg} (hg : ms[i]? = some g) : ∃ v, d[i]? = some (msgRow { g with src := self } v) ∧ RdT h v t := by
  obtain ⟨vs, hl, rfl, hv⟩ := hs
  have hi := (List.getElem?_eq_some_iff.1 hg).1
  refine ⟨vs[i]'(by omega), ?_, hv _ (List.getElem_mem _)⟩
  simp only [List.take_length, List.drop_length, List.map_nil, List.append_nil, rowsOf, List.getElem?_zipWith, List.getElem?_map, hg, Option.map_some, List.getElem?_eq_getElem (show i < vs.length by omega)]
theorem cell_msg {d : List (List Value)} {i : Int} {g : Msg} {v : Value} (h : d[i.toNat]? = some (msgRow g v)) : cellI d i 0 = g.kind ∧ cellI d i 1 = g.src ∧ cellI d i 2 = g.dst ∧ cellI d i 3 = g.seq ∧ cellI d i 4 = g.origin ∧ cellI d i 5 = g.target := by
  simp [cellI, cellV, List.getD_eq_getElem?_getD, h, msgRow, vInt]
end Go.Proofs
