/- Leaves, plainly. -/
import Derived.Test.YtlmkkphojjodhaaSA
import Derived.Test.YtlmkkphojjodhaaGF
set_option linter.unusedSimpArgs false
set_option linter.unusedVariables false
namespace Go.Proofs
open Go Go.Eng

theorem otherP_ok {me n : Int} (h2 : 2 ≤ n) (hs : 0 ≤ me) (hs' : me < n) : 0 ≤ otherP me n ∧ otherP me n < n ∧ otherP me n ≠ me := by
  have a1 : Int.tmod (me + 1) n < n := Int.tmod_lt_of_pos _ (by omega)
  have a0 : 0 ≤ Int.tmod (me + 1) n := Int.tmod_nonneg _ (by omega)
  refine ⟨a0, a1, fun hh => ?_⟩
  unfold otherP at hh
  by_cases hl : me + 1 < n
  · rw [Int.tmod_eq_of_lt (by omega) hl] at hh; omega
  · rw [show me + 1 = n by omega, Int.tmod_self] at hh; omega
theorem newM_wf {me n inc : Int} (h2 : 2 ≤ n) (h16 : n ≤ 16) (hs : 0 ≤ me) (hs' : me < n) : machWf (newM me n inc) := by
  refine ⟨?_, ?_, ?_, hs, ?_, hs, ?_, fun p hp => by simp [newM] at hp⟩ <;> simp [newM] <;> omega
theorem newM_runs {me n inc : Int} (h2 : 2 ≤ n) : Runs n me (newM me n inc) 0 := by
  refine ⟨rfl, rfl, rfl, rfl, ?_, ?_, fun p hp => by simp [newM] at hp, fun s h1 h2 => by omega⟩ <;> simp [newM] <;> omega
theorem newM_valid {me n inc : Int} (h2 : 2 ≤ n) (h16 : n ≤ 16) (hs : 0 ≤ me) (hs' : me < n) (hi : inc ≠ 0) : validT (newM me n inc).tab = true := by
  refine validT_of (by rw [newM_len]; omega) (by rw [newM_len]; omega) fun j x hx => ?_
  have hj : j < n.toNat := by have := (List.getElem?_eq_some_iff.1 hx).1; rwa [newM_len] at this
  rw [newM_get hs hj] at hx
  have hx := Option.some.inj hx
  subst hx
  split
  · simp [validE]; omega
  · decide
/-- The first Tick of a new machine. -/
theorem first_tick {me n inc draw : Int} (h2 : 2 ≤ n) : Calm0 n me (newM me n inc) (tickM (newM me n inc) draw) 1 ∧ tickMsgs (newM me n inc) draw = [⟨1, 0, nextP n me me, 1, me, 0⟩] :=
  Calm0.step (k := 0) draw ⟨newM_runs h2, rfl, rfl, rfl⟩ (fun s hs => by simp [newM] at hs; exact hs.2) (by omega)
theorem recvE_ok {m : Mach} {g : Msg} {t : List Ent} (hl : m.left = false) (hs : 0 ≤ g.src ∧ g.src < m.tab.length ∧ g.src ≠ m.self) (hd : g.dst = m.self) (hv : validT t = true) (ht : t.length = m.tab.length)
    (hk : g.kind = 1 ∨ g.kind = 2) (ho : 0 ≤ g.origin ∧ g.origin < m.tab.length) : recvE m g t = 0 := by
  rw [recvE, if_neg (by simp [hl]), if_pos]
  simp only [acceptsP, peerP, hv, Bool.and_eq_true, Bool.not_eq_true', decide_eq_true_eq, beq_iff_eq, beq_eq_false_iff_ne, ne_eq]
  rw [if_pos hk]
  simp only [Bool.and_eq_true, decide_eq_true_eq]
  obtain ⟨s1, s2, s3⟩ := hs
  refine ⟨?_, ho⟩
  simp [s1, s2, s3, hd, ht]
/-- What the machine that leaves has come to. -/
theorem lvM_one {me n : Int} (h2 : 2 ≤ n) (h16 : n ≤ 16) (hs : 0 ≤ me) (hs' : me < n) :
    lvM me n 1 = recvM (newM me n 2) (pingTo (otherP me n) me) (newM (otherP me n) n 4).tab := by
  obtain ⟨a0, a1, a2⟩ := otherP_ok h2 hs hs'
  have hl : ((newM me n 2).tab.length : Int) = n := by rw [newM_len]; omega
  rw [lvM, if_neg (by omega), recvS, if_pos (recvE_ok rfl ⟨a0, by rw [hl]; exact a1, a2⟩ rfl (newM_valid h2 h16 a0 a1 (by omega)) (by rw [newM_len, newM_len]) (.inl rfl) ⟨a0, by rw [hl]; exact a1⟩)]
/-- The table behind it: its own entry, the other's, none else. -/
theorem lvM_get {me n : Int} (h2 : 2 ≤ n) (h16 : n ≤ 16) (hs : 0 ≤ me) (hs' : me < n) {j : Nat} (hj : j < n.toNat) :
    (lvM me n 1).tab[j]? = some (if (j : Int) = me then (2, 1) else if (j : Int) = otherP me n then (4, 1) else (0, 0)) := by
  obtain ⟨a0, a1, a2⟩ := otherP_ok h2 hs hs'
  rw [lvM_one h2 h16 hs hs']
  show (recvTab me (newM me n 2).tab (newM (otherP me n) n 4).tab)[j]? = _
  rw [recvTab_get (newM_get hs hj) (newM_get a0 hj)]
  by_cases h : (j : Int) = me
  · simp [h]
  · by_cases h' : (j : Int) = otherP me n
    · simp [h, h', a2]; rfl
    · simp [h, h']; rfl
theorem lvM_len {me n : Int} (h2 : 2 ≤ n) (h16 : n ≤ 16) (hs : 0 ≤ me) (hs' : me < n) : (lvM me n 1).tab.length = n.toNat := by
  rw [lvM_one h2 h16 hs hs']
  show (recvTab me (newM me n 2).tab (newM (otherP me n) n 4).tab).length = _
  rw [recvTab_len, newM_len]
theorem lvM_rest {me n : Int} (h2 : 2 ≤ n) (h16 : n ≤ 16) (hs : 0 ≤ me) (hs' : me < n) : (lvM me n 1).since.length = n.toNat ∧ (lvM me n 1).pinged = me ∧ (lvM me n 1).clock = 0 ∧ machWf (lvM me n 1) := by
  have hl := lvM_len h2 h16 hs hs'
  have hsl : (lvM me n 1).since.length = n.toNat := by
    rw [lvM_one h2 h16 hs hs']
    show (recvSince me 0 (newM me n 2).tab (newM me n 2).since (newM (otherP me n) n 4).tab).length = _
    rw [recvSince_len]; simp [newM]
  have hpg : (lvM me n 1).pinged = me := by rw [lvM_one h2 h16 hs hs']; rfl
  have hse : (lvM me n 1).self = me := by rw [lvM_one h2 h16 hs hs']; rfl
  have hpr : (lvM me n 1).probes = [] := by rw [lvM_one h2 h16 hs hs']; simp [recvM, newM, forMe, pingTo]
  exact ⟨hsl, hpg, by rw [lvM_one h2 h16 hs hs']; rfl, by omega, by omega, by omega, by omega, by omega, by omega, by omega, fun p hp => by rw [hpr] at hp; cases hp⟩
/-- The table that it says good-bye with. -/
def byeT (me n : Int) : List Ent := leaveTab (lvM me n 1).tab me
theorem bye_len {me n : Int} (h2 : 2 ≤ n) (h16 : n ≤ 16) (hs : 0 ≤ me) (hs' : me < n) : (byeT me n).length = n.toNat := by rw [byeT, leaveTab, List.length_set, lvM_len h2 h16 hs hs']
theorem bye_get {me n : Int} (h2 : 2 ≤ n) (h16 : n ≤ 16) (hs : 0 ≤ me) (hs' : me < n) {j : Nat} (hj : j < n.toNat) :
    (byeT me n)[j]? = some (if (j : Int) = me then (2, 4) else if (j : Int) = otherP me n then (4, 1) else (0, 0)) := by
  have hme : statAt (lvM me n 1).tab me = (2, 1) := by
    rw [statAt, List.getD_eq_getElem?_getD, lvM_get h2 h16 hs hs' (by omega), if_pos (by omega)]; rfl
  rw [byeT, leaveTab, hme, List.getElem?_set]
  by_cases h : me.toNat = j
  · rw [if_pos h, if_pos (by rw [lvM_len h2 h16 hs hs']; omega), if_pos (by omega)]
  · have h' : ¬ (j : Int) = me := by omega
    rw [if_neg h, lvM_get h2 h16 hs hs' hj, if_neg h', if_neg h']
theorem bye_valid {me n : Int} (h2 : 2 ≤ n) (h16 : n ≤ 16) (hs : 0 ≤ me) (hs' : me < n) : validT (byeT me n) = true := by
  refine validT_of (by rw [bye_len h2 h16 hs hs']; omega) (by rw [bye_len h2 h16 hs hs']; omega) fun j x hx => ?_
  have hj : j < n.toNat := by have := (List.getElem?_eq_some_iff.1 hx).1; rwa [bye_len h2 h16 hs hs'] at this
  rw [bye_get h2 h16 hs hs' hj] at hx
  have hx := Option.some.inj hx
  subst hx
  split
  · decide
  · split <;> decide
theorem bye_live {me n : Int} (h2 : 2 ≤ n) (h16 : n ≤ 16) (hs : 0 ≤ me) (hs' : me < n) : liveT (byeT me n) = [otherP me n] := by
  obtain ⟨a0, a1, a2⟩ := otherP_ok h2 hs hs'
  have := live_single (l := byeT me n) (me := (otherP me n).toNat) (by rw [bye_len h2 h16 hs hs']; omega) (by
    rw [List.getD_eq_getElem?_getD, bye_get h2 h16 hs hs' (by omega), if_neg (by omega), if_pos (by omega)]; rfl) (fun j hj hne => by
    rw [bye_len h2 h16 hs hs'] at hj
    rw [List.getD_eq_getElem?_getD, bye_get h2 h16 hs hs' hj]
    by_cases h : (j : Int) = me
    · rw [if_pos h]; rfl
    · rw [if_neg h, if_neg (by omega)]; rfl)
  rw [this, Int.toNat_of_nonneg a0]
/-- The good-bye. -/
def byeMsg (me n : Int) : Msg := ⟨2, me, otherP me n, 0, otherP me n, 0⟩
theorem bye_msgs {me n : Int} (h2 : 2 ≤ n) (h16 : n ≤ 16) (hs : 0 ≤ me) (hs' : me < n) : leaveMsgs (byeT me n) = [⟨2, 0, otherP me n, 0, otherP me n, 0⟩] := by
  rw [leaveMsgs, bye_live h2 h16 hs hs']; rfl
/-- The other hears it. -/
theorem hears {me n v : Int} (h2 : 2 ≤ n) (h16 : n ≤ 16) (hs : 0 ≤ me) (hs' : me < n) :
    recvE (lvO me n v) (byeMsg me n) (byeT me n) = 0 ∧ recvAns (lvO me n v) (byeMsg me n) (byeT me n) = [] ∧ liveT (recvS (lvO me n v) (byeMsg me n) (byeT me n)).tab = [otherP me n] ∧ (recvS (lvO me n v) (byeMsg me n) (byeT me n)).tab[me.toNat]? = some (2, 4) ∧ (recvS (lvO me n v) (byeMsg me n) (byeT me n)).tab.length = n.toNat := by
  obtain ⟨a0, a1, a2⟩ := otherP_ok h2 hs hs'
  have hc := (first_tick (me := otherP me n) (inc := 4) (draw := v) h2).1
  have htab : (lvO me n v).tab = (newM (otherP me n) n 4).tab := hc.tab
  have hself : (lvO me n v).self = otherP me n := hc.runs.self_eq
  have hl : ((lvO me n v).tab.length : Int) = n := hc.runs.tl
  have hE : recvE (lvO me n v) (byeMsg me n) (byeT me n) = 0 := recvE_ok rfl ⟨hs, by rw [hl]; exact hs', by rw [hself]; exact fun h => a2 h.symm⟩ hself.symm (bye_valid h2 h16 hs hs') (by rw [bye_len h2 h16 hs hs']; omega) (.inr rfl) ⟨a0, by rw [hl]; exact a1⟩
  have hA : recvAns (lvO me n v) (byeMsg me n) (byeT me n) = [] := by
    rw [recvAns, if_neg]; rintro ⟨_, h⟩
    rw [hself] at h; simp [forMe, byeMsg] at h
  have hT : (recvS (lvO me n v) (byeMsg me n) (byeT me n)).tab = recvTab (otherP me n) (newM (otherP me n) n 4).tab (byeT me n) := by
    rw [recvS, if_pos hE]
    show recvTab (lvO me n v).self (lvO me n v).tab (byeT me n) = _
    rw [hself, htab]
  have hlen : (recvS (lvO me n v) (byeMsg me n) (byeT me n)).tab.length = n.toNat := by rw [hT, recvTab_len, newM_len]
  have hget : ∀ j : Nat, j < n.toNat → (recvS (lvO me n v) (byeMsg me n) (byeT me n)).tab[j]? = some (if (j : Int) = otherP me n then (4, 1) else if (j : Int) = me then (2, 4) else (0, 0)) := fun j hj => by
    rw [hT, recvTab_get (newM_get a0 hj) (bye_get h2 h16 hs hs' hj)]
    by_cases h : (j : Int) = otherP me n
    · simp [h]
    · by_cases h' : (j : Int) = me
      · have hne : ¬ me = otherP me n := fun e => a2 e.symm
        simp only [h', hne, if_true, if_false]; rfl
      · simp [h, h']; rfl
  refine ⟨hE, hA, ?_, by rw [hget _ (by omega), if_neg (by omega), if_pos (by omega)], hlen⟩
  have := live_single (l := (recvS (lvO me n v) (byeMsg me n) (byeT me n)).tab) (me := (otherP me n).toNat) (by rw [hlen]; omega) (by
    rw [List.getD_eq_getElem?_getD, hget _ (by omega), if_pos (by omega)]; rfl) (fun j hj hne => by
    rw [hlen] at hj
    rw [List.getD_eq_getElem?_getD, hget j hj, if_neg (by omega)]
    split <;> rfl)
  rw [this, Int.toNat_of_nonneg a0]
end Go.Proofs
