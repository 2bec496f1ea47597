/- Tick, plainly. -/
import Derived.Test.YtlmkkphojjodhaaMB
import Derived.Test.YtlmkkphojjodhaaMP
set_option linter.unusedSimpArgs false
set_option linter.unusedVariables false
namespace Go.Proofs
open Go Go.Eng

theorem prbs_len (d : List (List Value)) : (prbsOf d).length = d.length := by simp [prbsOf]
theorem cellI_prbs {d : List (List Value)} {i : Int} (h0 : 0 ≤ i) (h : i < (d.length : Int)) : (prbsOf d)[i.toNat]? = some ⟨cellI d i 0, cellI d i 1, cellI d i 2, cellB d i 3⟩ := by
  have hl : i.toNat < d.length := by omega
  simp [prbsOf, prbOf, List.getElem?_map, List.getElem?_eq_getElem hl, cellI, cellB, cellV, rowI, rowB]
theorem prbs_put {d : List (List Value)} {i a b c : Int} {e : Bool} (h0 : 0 ≤ i) (h : i < (d.length : Int)) : prbsOf (putD d i 0 [.int .u64 a, .int .i64 b, .int .u64 c, .bool e]) = (prbsOf d).set i.toNat ⟨a, b, c, e⟩ := by
  apply List.ext_getElem?
  intro j
  simp only [prbsOf, putD, List.getElem?_map, List.getElem?_set, List.length_map]
  by_cases hj : i.toNat = j
  · subst hj
    have : i.toNat < d.length := by omega
    simp [this, splice, prbOf, rowI, rowB, vInt, vBool]
  · simp [hj]
theorem tab_put1 {d : List (List Value)} {i y : Int} (h0 : 0 ≤ i) (h : i < (d.length : Int)) (hz : cellI d i 1 ≠ 0) : tabOf (putD d i 1 [.int .u8 y]) = (tabOf d).set i.toNat (cellI d i 0, y) := by
  apply List.ext_getElem?
  intro j
  have hl : i.toNat < d.length := by omega
  simp only [tabOf, putD, List.getElem?_map, List.getElem?_set, List.length_map]
  by_cases hj : i.toNat = j
  · subst hj
    simp only [if_pos hl, if_true, Option.map_some, Option.some.injEq]
    have hz : vInt ((d[i.toNat])[1]?.getD .nilFunc) ≠ 0 := by simpa [cellI, cellV, List.getElem?_eq_getElem hl] using hz
    simp only [cellI, cellV, List.getElem?_eq_getElem hl, Option.getD_some]
    generalize d[i.toNat] = r at hz
    match r, hz with
    | [], hz => simp [vInt] at hz
    | [a], hz => simp [vInt] at hz
    | a :: b :: r, _ => simp [rowI, splice, vInt]
  · simp [hj]
theorem statAt_tab {d : List (List Value)} {i : Int} (h0 : 0 ≤ i) (h : i < (d.length : Int)) : statAt (tabOf d) i = (cellI d i 0, cellI d i 1) := by
  simp [statAt, List.getD_eq_getElem?_getD, cellI_tab h0 h]
theorem tickPs_step {self clock draw : Int} {tab : List Ent} {since : List Int} {P : List Prb} {i : Nat} {p : Prb} (h : P[i]? = some p) :
    tickPs self clock draw tab since (P.take (i + 1)) = tickP self clock draw (tickPs self clock draw tab since (P.take i)) p := by
  rw [take_snoc h]; simp [tickPs]
/-- Where the loop over the probes stands. -/
def TI (self clock draw : Int) (tab : List Ent) (since : List Int) (P : List Prb) (i k : Int) (dT dS dK dM : List (List Value)) : Prop :=
  tickPs self clock draw tab since (P.take i.toNat) = ⟨tabOf dT, intsOf dS, (prbsOf dK).take k.toNat, (tickPs self clock draw tab since (P.take i.toNat)).msgs⟩ ∧ plainRows dM (tickPs self clock draw tab since (P.take i.toNat)).msgs ∧ (prbsOf dK).drop i.toNat = P.drop i.toNat
theorem plain_app {d e : List (List Value)} {ms ns : List Msg} (h : plainRows d ms) (h' : plainRows e ns) : plainRows (d ++ e) (ms ++ ns) := by
  unfold plainRows at *; rw [h, h']; simp
theorem TI_get {self clock draw : Int} {tab : List Ent} {since : List Int} {P : List Prb} {i k : Int} {dT dS dK dM : List (List Value)} (h : TI self clock draw tab since P i k dT dS dK dM) (h0 : 0 ≤ i) (hi : i < dK.length) :
    P[i.toNat]? = some ⟨cellI dK i 0, cellI dK i 1, cellI dK i 2, cellB dK i 3⟩ := by
  have := congrArg (fun l => l[0]?) h.2.2
  simp only [List.getElem?_drop, Nat.add_zero] at this
  rw [← this, cellI_prbs h0 hi]
theorem TI_keep {self clock draw : Int} {tab : List Ent} {since : List Int} {P : List Prb} {i k a b c : Int} {e : Bool} {dT dS dK dM dN : List (List Value)} {ns : List Msg}
    (h : TI self clock draw tab since P i k dT dS dK dM) (h0 : 0 ≤ k) (hk : k ≤ i) (hi : i < dK.length) (hn : plainRows dN ns)
    (hp : ∀ st : TS, st.tab = tabOf dT → tickP self clock draw st ⟨cellI dK i 0, cellI dK i 1, cellI dK i 2, cellB dK i 3⟩ = { st with kept := st.kept ++ [⟨a, b, c, e⟩], msgs := st.msgs ++ ns }) :
    TI self clock draw tab since P (i + 1) (k + 1) dT dS (putD dK k 0 [.int .u64 a, .int .i64 b, .int .u64 c, .bool e]) (dM ++ dN) := by
  have hg := TI_get h (by omega) hi
  obtain ⟨h1, h2, h3⟩ := h
  have hst := tickPs_step (self := self) (clock := clock) (draw := draw) (tab := tab) (since := since) hg
  rw [hp _ (by rw [h1])] at hst
  have hlt : k.toNat < (prbsOf dK).length := by rw [prbs_len]; omega
  unfold TI
  rw [toNat_succ (show 0 ≤ i by omega), toNat_succ h0, hst, prbs_put h0 (by omega)]
  refine ⟨?_, plain_app h2 hn, ?_⟩
  · rw [take_snoc (x := (⟨a, b, c, e⟩ : Prb)) (by simp [hlt]), List.take_set_of_le (by omega)]
    conv => lhs; rw [h1]
  · rw [List.drop_set_of_lt (by omega)]
    have := congrArg (List.drop 1) h3
    simpa [List.drop_drop, Nat.add_comm] using this
theorem TI_drop {self clock draw : Int} {tab : List Ent} {since : List Int} {P : List Prb} {i k : Int} {dT dS dK dM dT' dS' : List (List Value)}
    (h : TI self clock draw tab since P i k dT dS dK dM) (h0 : 0 ≤ i) (hi : i < dK.length)
    (hp : ∀ st : TS, st.tab = tabOf dT → st.since = intsOf dS → tickP self clock draw st ⟨cellI dK i 0, cellI dK i 1, cellI dK i 2, cellB dK i 3⟩ = { st with tab := tabOf dT', since := intsOf dS' }) :
    TI self clock draw tab since P (i + 1) k dT' dS' dK dM := by
  have hg := TI_get h (by omega) hi
  obtain ⟨h1, h2, h3⟩ := h
  have hst := tickPs_step (self := self) (clock := clock) (draw := draw) (tab := tab) (since := since) hg
  rw [hp _ (by rw [h1]) (by rw [h1])] at hst
  unfold TI
  rw [toNat_succ h0, hst]
  refine ⟨?_, h2, ?_⟩
  · conv => lhs; rw [h1]
  · have := congrArg (List.drop 1) h3
    simpa [List.drop_drop, Nat.add_comm] using this
theorem askL_len (t : List Ent) (self seq target draw : Int) : (askL t self seq target draw).length ≤ 2 := by
  simp only [askL, askN, List.length_map, List.length_range]; omega
/-- Where the loop over the table stands. -/
def DI (T U : List Ent) (d : List (List Value)) (i : Int) : Prop := ∀ j : Nat, (tabOf d)[j]? = if (j : Int) < i then U[j]? else T[j]?
theorem DI_zero {T U : List Ent} {d : List (List Value)} (h : tabOf d = T) : DI T U d 0 := fun j => by rw [if_neg (by omega), h]
theorem DI_all {T U : List Ent} {d : List (List Value)} {i : Int} (h : DI T U d i) (hT : (T.length : Int) ≤ i) (hU : (U.length : Int) ≤ i) : tabOf d = U := by
  apply List.ext_getElem?
  intro j
  rw [h j]
  split
  · rfl
  · rw [List.getElem?_eq_none (by omega), List.getElem?_eq_none (by omega)]
theorem DI_same {T U : List Ent} {d : List (List Value)} {i : Int} (h : DI T U d i) (h0 : 0 ≤ i) (hx : U[i.toNat]? = (tabOf d)[i.toNat]?) : DI T U d (i + 1) := fun j => by
  by_cases hj : (j : Int) = i
  · subst hj
    rw [if_pos (by omega)]; simpa using hx.symm
  · rw [h j]
    by_cases hj2 : (j : Int) < i
    · rw [if_pos hj2, if_pos (by omega)]
    · rw [if_neg hj2, if_neg (by omega)]
theorem DI_set {T U : List Ent} {d : List (List Value)} {i y : Int} (h : DI T U d i) (h0 : 0 ≤ i) (hi : i < d.length) (hz : cellI d i 1 ≠ 0) (hx : U[i.toNat]? = some (cellI d i 0, y)) : DI T U (putD d i 1 [.int .u8 y]) (i + 1) := fun j => by
  rw [tab_put1 h0 hi hz, List.getElem?_set]
  by_cases hj : i.toNat = j
  · subst hj
    rw [if_pos rfl, if_pos (by rw [tab_len]; omega), if_pos (by omega), hx]
  · rw [if_neg hj, h j]
    by_cases hj2 : (j : Int) < i
    · rw [if_pos hj2, if_pos (by omega)]
    · rw [if_neg hj2, if_neg (by omega)]
theorem DI_get {T U : List Ent} {d : List (List Value)} {i : Int} (h : DI T U d i) (h0 : 0 ≤ i) (hi : i < d.length) : T[i.toNat]? = some (cellI d i 0, cellI d i 1) := by
  have := h i.toNat
  rw [if_neg (by omega), cellI_tab h0 hi] at this
  exact this.symm
theorem dead_get {self clock wait : Int} {since : List Int} {t : List Ent} {i : Nat} {x : Ent} (h : t[i]? = some x) : (deadT self clock wait since t)[i]? = some (deadE self clock wait since i x) := by
  simp [deadT, List.getElem?_mapIdx, h]
theorem dead_len {self clock wait : Int} {since : List Int} {t : List Ent} : (deadT self clock wait since t).length = t.length := by simp [deadT]
theorem nextP_range {n self pinged : Int} (h2 : 2 ≤ n) (h : n ≤ 16) (h0 : 0 ≤ pinged) : 0 ≤ nextP n self pinged ∧ nextP n self pinged < n := by
  have a1 : Int.tmod (pinged + 1) n < n := Int.tmod_lt_of_pos _ (by omega)
  have a0 : 0 ≤ Int.tmod (pinged + 1) n := Int.tmod_nonneg _ (by omega)
  have b1 : Int.tmod (Int.tmod (pinged + 1) n + 1) n < n := Int.tmod_lt_of_pos _ (by omega)
  have b0 : 0 ≤ Int.tmod (Int.tmod (pinged + 1) n + 1) n := Int.tmod_nonneg _ (by omega)
  unfold nextP; split <;> omega
theorem plain_len {d : List (List Value)} {ms : List Msg} (h : plainRows d ms) : d.length = ms.length := by rw [h]; simp
theorem stamped_len {h : Hp} {ms : List Msg} {self : Int} {t : List Ent} {d : List (List Value)} {i : Nat} (hs : stamped h ms self t i d) : d.length = min i ms.length + (ms.length - i) := by
  obtain ⟨vs, h1, h2, _⟩ := hs
  rw [h2]; simp [rowsOf, h1]
theorem stamped_mono {h h' : Hp} {ms : List Msg} {self : Int} {t : List Ent} {d : List (List Value)} {i : Nat} (hs : stamped h ms self t i d) (hl : Hp.le h h') : stamped h' ms self t i d := by
  obtain ⟨vs, h1, h2, h3⟩ := hs
  exact ⟨vs, h1, h2, fun v hv => RdT_mono (h3 v hv) hl⟩
end Go.Proofs
