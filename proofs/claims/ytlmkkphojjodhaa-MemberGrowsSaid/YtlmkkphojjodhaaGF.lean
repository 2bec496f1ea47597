/- The laws Refutes, Helpers, Detects, Leaves: contracts. -/
import Derived.Test.YtlmkkphojjodhaaGE
import Derived.Test.YtlmkkphojjodhaaEC
import Derived.Test.YtlmkkphojjodhaaGD
import Derived.Test.YtlmkkphojjodhaaGC
set_option linter.unusedSimpArgs false
set_option linter.unusedVariables false
namespace Go.Eng
open Go

def lawRefutesC : Ctr := { fn := 15, nv := 7, args := [iv .i64 (.var 0), iv .i64 (.var 1), tArg 2 3 4], heap := [], ro := [tRo 2 5 6], pre := fun ρ => (ρ 3).i = (ρ 5).d.length ∧ (ρ 3).i ≤ big, alts := lawWaitsC.alts }
/-! ### Detects -/
def tickN (draw : Int) : Nat → Mach → Mach
  | 0, m => m
  | n + 1, m => tickM (tickN draw n m) draw
/-- The machine that has heard a table from its neighbour. -/
def heardM (self n inc : Int) (t : List Ent) : Mach := recvS (newM self n inc) ⟨2, Int.tmod (self + 1) n, self, 0, self, 0⟩ t
/-- A machine of the loop's own variables from b on: 0 struct, 1 table, 2 times, 3 probes (regions); 4 clock, 5 seq, 6 pinged, 7 probes, 8 their capacity, 9 challenge; 10 rows of the table, 11 of the times, 12 of the probes. -/
def lMach (b : Nat) (self n : T) : List SH := [mStruct b (b + 1) (b + 2) (b + 3) self n n (.var (b + 4)) (.var (b + 5)) (.var (b + 6)) (.var (b + 7)) (.var (b + 8)) (.var (b + 9)) (.bl false), .arr (b + 1) 25 kMem (.var (b + 10)) n, .arr (b + 2) 22 [.int .u64] (.var (b + 11)) n, .arr (b + 3) 63 kProbe (.var (b + 12)) (.var (b + 8))]
def lM (ρ : Env) (b : Nat) (self : Int) : Mach := machV self (ρ (b + 10)).d (ρ (b + 11)).d (ρ (b + 4)).i (ρ (b + 5)).i (ρ (b + 6)).i (ρ (b + 7)).i (ρ (b + 12)).d (ρ (b + 9)).i false
def lOk (ρ : Env) (b : Nat) (n : Int) (most : Int) : Prop := (ρ (b + 10)).d.length = n ∧ (ρ (b + 11)).d.length = n ∧ 0 ≤ (ρ (b + 7)).i ∧ (ρ (b + 7)).i ≤ (ρ (b + 12)).d.length ∧ (ρ (b + 7)).i ≤ most
def lawDetectsC : Ctr := { fn := 6, nv := 7, args := [iv .i64 (.var 0), tArg 1 2 3, iv .u64 (.var 6)], heap := [], ro := [tRo 1 4 5], pre := fun ρ => (ρ 2).i = (ρ 4).d.length ∧ (ρ 2).i ≤ big ∧ 0 ≤ (ρ 6).i ∧ (ρ 6).i < 18446744073709551616, alts := lawWaitsC.alts }
/-- 1000 .. 1012 the machine, 1013 .. 1015 the table at first, 1016 the round. -/
def lawDetectsI : Inv := { key := 10, nv := 17, env := [(0, iv .i64 (.var 0)), (2, iv .u64 (.var 6)), (7, iv .i64 (.var 2)), (8, ptr 1000), (10, .one (.vslice 1013 (.lit 0) (.var 2) (.var 1014) 2)), (11, iv .i64 (.var 1016))], heap := lMach 1000 (.var 0) (.var 2) ++ [.arr 1013 25 kMem (.var 1015) (.var 1014)], inv := (fun ρ => 0 ≤ (ρ 1016).i ∧ (ρ 1016).i ≤ (ρ 2).i - 1 + 10 + waitOf (tabOf (ρ 4).d).length ∧ lOk ρ 1000 (ρ 2).i (ρ 1016).i ∧ lM ρ 1000 (ρ 0).i = tickN (ρ 6).i (ρ 1016).i.toNat (heardM (ρ 0).i (ρ 2).i 1 (tabOf (ρ 4).d)) ∧ tabOf (ρ 1015).d = (heardM (ρ 0).i (ρ 2).i 1 (tabOf (ρ 4).d)).tab), mu := (fun ρ => ((ρ 2).i - 1 + 10 + waitOf (tabOf (ρ 4).d).length - (ρ 1016).i).toNat) }
/-- And 1017 .. 1019 the table now, 1020 the inner round; 45 is the outer round in the tree (see show2.sh). -/
def lawDetectsJ : Inv := { key := 15, nv := 21, env := [(0, iv .i64 (.var 0)), (2, iv .u64 (.var 6)), (7, iv .i64 (.var 2)), (8, ptr 1000), (10, .one (.vslice 1013 (.lit 0) (.var 2) (.var 1014) 2)), (11, iv .i64 (.var 1016)), (12, .one (.vslice 1017 (.lit 0) (.var 2) (.var 1018) 2)), (13, iv .i64 (.var 1020))], heap := lMach 1000 (.var 0) (.var 2) ++ [.arr 1013 25 kMem (.var 1015) (.var 1014), .arr 1017 25 kMem (.var 1019) (.var 1018)], inv := (fun ρ => 0 ≤ (ρ 1016).i ∧ (ρ 1016).i < (ρ 2).i - 1 + 10 + waitOf (tabOf (ρ 4).d).length ∧ lOk ρ 1000 (ρ 2).i ((ρ 1016).i + 1) ∧ lM ρ 1000 (ρ 0).i = tickN (ρ 6).i ((ρ 1016).i.toNat + 1) (heardM (ρ 0).i (ρ 2).i 1 (tabOf (ρ 4).d)) ∧ tabOf (ρ 1015).d = (heardM (ρ 0).i (ρ 2).i 1 (tabOf (ρ 4).d)).tab ∧ tabOf (ρ 1019).d = (tickN (ρ 6).i ((ρ 1016).i.toNat + 1) (heardM (ρ 0).i (ρ 2).i 1 (tabOf (ρ 4).d))).tab ∧ 0 ≤ (ρ 1020).i ∧ (ρ 1020).i ≤ (ρ 2).i ∧ (ρ 1016).i = (ρ 45).i), mu := (fun ρ => ((ρ 2).i - (ρ 1020).i).toNat) }
end Go.Eng

/- A new machine that hears a table: lemmas. -/
set_option linter.unusedSimpArgs false
set_option linter.unusedVariables false
namespace Go.Proofs
open Go Go.Eng

theorem validT_all {t : List Ent} (h : validT t = true) {i : Nat} {x : Ent} (hx : t[i]? = some x) : validE x = true := by
  simp only [validT, okAll, Bool.and_eq_true] at h
  exact List.all_eq_true.1 h.2 _ (List.mem_of_getElem? hx)
theorem validT_of {t : List Ent} (h1 : 1 ≤ t.length) (h2 : t.length ≤ 16) (h : ∀ (i : Nat) (x : Ent), t[i]? = some x → validE x = true) : validT t = true := by
  simp only [validT, okAll, Bool.and_eq_true, decide_eq_true_eq, List.all_eq_true]
  refine ⟨⟨h1, h2⟩, fun x hx => ?_⟩
  obtain ⟨i, hi⟩ := List.getElem?_of_mem hx
  exact h i x hi
theorem joinE_valid {x y : Ent} (hx : validE x = true) (hy : validE y = true) : validE (joinE x y) = true := by
  unfold joinE; split <;> assumption
theorem newM_get {self n inc : Int} (h0 : 0 ≤ self) {i : Nat} (hi : i < n.toNat) : (newM self n inc).tab[i]? = some (if (i : Int) = self then (inc, 1) else (0, 0)) := by
  simp only [newM, List.getElem?_set, List.length_replicate, List.getElem?_replicate]
  by_cases hj : (i : Int) = self
  · have : self.toNat = i := by omega
    simp [this, hi, hj]
  · rw [if_neg (by omega), if_pos hi, if_neg hj]
theorem newM_len {self n inc : Int} : (newM self n inc).tab.length = n.toNat := by simp [newM]
/-- What a new machine's table becomes behind a valid table. -/
theorem recv_new_get {self n inc : Int} {t : List Ent} (h0 : 0 ≤ self) (ht : (t.length : Int) = n) {i : Nat} (hi : i < n.toNat) : ∃ y, t[i]? = some y ∧ (recvTab self (newM self n inc).tab t)[i]? = some (if (i : Int) = self then (inc, 1) else joinE (0, 0) y) := by
  have hy : t[i]? = some t[i] := List.getElem?_eq_getElem (by omega)
  refine ⟨_, hy, ?_⟩
  rw [recvTab_get (newM_get h0 hi) hy]
  split <;> rfl
theorem recv_new_valid {self n inc : Int} {t : List Ent} (h0 : 0 ≤ self) (hi : self < n) (ht : (t.length : Int) = n) (hv : validT t = true) (hinc : inc ≠ 0) (x : Ent) (hx : validE x = true) : validT ((recvTab self (newM self n inc).tab t).set self.toNat x) = true := by
  have hv' := hv
  simp only [validT, Bool.and_eq_true, decide_eq_true_eq] at hv'
  refine validT_of (by rw [List.length_set, recvTab_len, newM_len]; omega) (by rw [List.length_set, recvTab_len, newM_len]; omega) fun j y hy => ?_
  rw [List.getElem?_set] at hy
  split at hy
  · split at hy
    · simp only [Option.some.injEq] at hy; subst hy; exact hx
    · cases hy
  · have hj : j < n.toNat := by
      have := (List.getElem?_eq_some_iff.1 hy).1
      rwa [recvTab_len, newM_len] at this
    obtain ⟨z, hz, hr⟩ := recv_new_get (inc := inc) h0 ht hj
    rw [hr] at hy
    simp only [Option.some.injEq] at hy; subst hy
    split
    · simp [validE]; omega
    · exact joinE_valid (by decide) (validT_all hv hz)
theorem forMe_heard {me n inc : Int} : forMe (newM me n inc).self ⟨2, Int.tmod (me + 1) n, me, 0, me, 0⟩ = true := by simp [forMe, newM]
theorem mx2 {L a c : Int} (h : a < L) (e : a = c) : max (L - (a + 1)) 0 < L - c := by subst e; omega
theorem wrapi_id {x : Int} (h1 : -1000000 ≤ x) (h2 : x ≤ 1000000) : IntKind.i64.wrap x = x := by simp [IntKind.wrap, IntKind.bits, IntKind.signed]; omega
end Go.Proofs

/- The law's receive: without an answer, or with one. -/
set_option linter.unusedSimpArgs false
set_option linter.unusedVariables false
namespace Go.Eng
open Go
/-- A message that gets no answer. -/
def recvAC : Ctr := { receive23C with pre := fun ρ => receive23C.pre ρ ∧ recvAns (m0 ρ) (msgV ρ 18) (tabOf (ρ 27).d) = [], alts := receive23C.alts.take 1 }
/-- A message that gets one. -/
def recvBC : Ctr := { receive23C with pre := fun ρ => receive23C.pre ρ ∧ recvAns (m0 ρ) (msgV ρ 18) (tabOf (ρ 27).d) ≠ [], alts := receive23C.alts.drop 1 }
end Go.Eng
namespace Go.Proofs
open Go Go.Eng
theorem recv_same {ρ ρ' : Env} {k : Nat} (h : ∀ n, n < 138 → ρ' n = ρ n) (hk : 138 ≤ k) : m0 (ρ'.upto k) = m0 ρ ∧ msgV (ρ'.upto k) 18 = msgV ρ 18 ∧ (ρ'.upto k) 27 = ρ 27 := by
  have e : ∀ n, n < 138 → (ρ'.upto k) n = ρ n := fun n hn => by rw [Env.upto, if_pos (by omega)]; exact h n hn
  refine ⟨?_, ?_, e 27 (by omega)⟩
  · simp only [m0, e _ (show 1 < 138 by omega), e _ (show 5 < 138 by omega), e _ (show 8 < 138 by omega), e _ (show 9 < 138 by omega), e _ (show 10 < 138 by omega), e _ (show 11 < 138 by omega), e _ (show 13 < 138 by omega), e _ (show 15 < 138 by omega), e _ (show 16 < 138 by omega), e _ (show 17 < 138 by omega)]
  · simp only [msgV, e _ (show 18 < 138 by omega), e _ (show 18 + 1 < 138 by omega), e _ (show 18 + 2 < 138 by omega), e _ (show 18 + 3 < 138 by omega), e _ (show 18 + 4 < 138 by omega), e _ (show 18 + 5 < 138 by omega)]
theorem recvA_ok : recvAC.ok Try.prog := Ctr.ok_less receive23_ok rfl rfl rfl rfl rfl (fun _ h => h.1) fun ρ ρ' ai al hp hag hal hpost => by
  match ai, hal with
  | 0, hal => exact ⟨0, hal⟩
  | 1, hal =>
    exfalso
    obtain rfl := Option.some.inj hal
    obtain ⟨e1, e2, e3⟩ := recv_same hag (k := 145) (by omega)
    have h2 : recvAns (m0 (ρ'.upto 145)) (msgV (ρ'.upto 145) 18) (tabOf ((ρ'.upto 145) 27).d) = [recvMsg ((ρ'.upto 145) 1).i (msgV (ρ'.upto 145) 18)] := hpost.2.1
    rw [e1, e2, e3, hp.2] at h2
    cases h2
  | n + 2, hal => cases hal
theorem recvB_ok : recvBC.ok Try.prog := Ctr.ok_less receive23_ok rfl rfl rfl rfl rfl (fun _ h => h.1) fun ρ ρ' ai al hp hag hal hpost => by
  match ai, hal with
  | 0, hal =>
    exfalso
    obtain rfl := Option.some.inj hal
    obtain ⟨e1, e2, e3⟩ := recv_same hag (k := 144) (by omega)
    have h2 : recvAns (m0 (ρ'.upto 144)) (msgV (ρ'.upto 144) 18) (tabOf ((ρ'.upto 144) 27).d) = [] := hpost.2.1
    rw [e1, e2, e3] at h2
    exact hp.2 h2
  | 1, hal => exact ⟨0, hal⟩
  | n + 2, hal => cases hal
end Go.Proofs

/- Tick, Leave and New with fewer answers. -/
set_option linter.unusedSimpArgs false
set_option linter.unusedVariables false
namespace Go.Eng
open Go
/-- A Tick of a machine that has not left. -/
def tickAC : Ctr := { tick29C with pre := fun ρ => tick29C.pre ρ ∧ (ρ 17).b = false, alts := tick29C.alts.drop 1 }
/-- A Tick of one that has. -/
def tickBC : Ctr := { tick29C with pre := fun ρ => tick29C.pre ρ ∧ (ρ 17).b = true, alts := tick29C.alts.take 1 }
def leaveAC : Ctr := { leave44C with pre := fun ρ => leave44C.pre ρ ∧ (ρ 17).b = false, alts := leave44C.alts.drop 1 }
def leaveBC : Ctr := { leave44C with pre := fun ρ => leave44C.pre ρ ∧ (ρ 17).b = true, alts := leave44C.alts.take 1 }
def newAC : Ctr := { new22C with pre := fun ρ => newBad (ρ 0).i (ρ 1).i (ρ 2).i = false, alts := new22C.alts.drop 1 }
end Go.Eng
namespace Go.Proofs
open Go Go.Eng
theorem tickA_ok : tickAC.ok Try.prog := Ctr.ok_less tick29_ok rfl rfl rfl rfl rfl (fun _ h => h.1) fun ρ ρ' ai al hp hag hal hpost => by
  match ai, hal with
  | 0, hal =>
    exfalso
    obtain rfl := Option.some.inj hal
    have h2 : ((ρ'.upto 19) 17).b = true := hpost
    have e : (ρ'.upto 19) 17 = ρ 17 := by rw [Env.upto, if_pos (by omega)]; exact hag 17 (by decide)
    rw [e, hp.2] at h2; cases h2
  | 1, hal => exact ⟨0, hal⟩
  | n + 2, hal => cases hal
theorem tickB_ok : tickBC.ok Try.prog := Ctr.ok_less tick29_ok rfl rfl rfl rfl rfl (fun _ h => h.1) fun ρ ρ' ai al hp hag hal hpost => by
  match ai, hal with
  | 0, hal => exact ⟨0, hal⟩
  | 1, hal =>
    exfalso
    obtain rfl := Option.some.inj hal
    have h2 : ((ρ'.upto 33) 17).b = false := hpost.1
    have e : (ρ'.upto 33) 17 = ρ 17 := by rw [Env.upto, if_pos (by omega)]; exact hag 17 (by decide)
    rw [e, hp.2] at h2; cases h2
  | n + 2, hal => cases hal
theorem leaveA_ok : leaveAC.ok Try.prog := Ctr.ok_less leave44_ok rfl rfl rfl rfl rfl (fun _ h => h.1) fun ρ ρ' ai al hp hag hal hpost => by
  match ai, hal with
  | 0, hal =>
    exfalso
    obtain rfl := Option.some.inj hal
    have h2 : ((ρ'.upto 18) 17).b = true := hpost
    have e : (ρ'.upto 18) 17 = ρ 17 := by rw [Env.upto, if_pos (by omega)]; exact hag 17 (by decide)
    rw [e, hp.2] at h2; cases h2
  | 1, hal => exact ⟨0, hal⟩
  | n + 2, hal => cases hal
theorem leaveB_ok : leaveBC.ok Try.prog := Ctr.ok_less leave44_ok rfl rfl rfl rfl rfl (fun _ h => h.1) fun ρ ρ' ai al hp hag hal hpost => by
  match ai, hal with
  | 0, hal => exact ⟨0, hal⟩
  | 1, hal =>
    exfalso
    obtain rfl := Option.some.inj hal
    have h2 : ((ρ'.upto 24) 17).b = false := hpost.1
    have e : (ρ'.upto 24) 17 = ρ 17 := by rw [Env.upto, if_pos (by omega)]; exact hag 17 (by decide)
    rw [e, hp.2] at h2; cases h2
  | n + 2, hal => cases hal
theorem newA_ok : newAC.ok Try.prog := Ctr.ok_less new22_ok rfl rfl rfl rfl rfl (fun _ _ => trivial) fun ρ ρ' ai al hp hag hal hpost => by
  match ai, hal with
  | 0, hal =>
    exfalso
    obtain rfl := Option.some.inj hal
    have h2 : newBad ((ρ'.upto 3) 0).i ((ρ'.upto 3) 1).i ((ρ'.upto 3) 2).i = true := hpost
    have e : ∀ n, n < 3 → (ρ'.upto 3) n = ρ n := fun n hn => by rw [Env.upto, if_pos hn]; exact hag n hn
    rw [e 0 (by omega), e 1 (by omega), e 2 (by omega), hp] at h2; cases h2
  | 1, hal => exact ⟨0, hal⟩
  | n + 2, hal => cases hal
end Go.Proofs

/- Ticks, plainly. -/
set_option linter.unusedSimpArgs false
set_option linter.unusedVariables false
namespace Go.Proofs
open Go Go.Eng

/-! ### One walk through the probes -/
def oldP (clock : Int) (p : Prb) : Bool := decide (10 ≤ ageOf clock p.sent)
def markP (clock : Int) (p : Prb) : Prb := if 4 ≤ ageOf clock p.sent ∧ p.asked = false then { p with asked := true } else p
theorem tickP_kept (self clock draw : Int) (st : TS) (p : Prb) : (tickP self clock draw st p).kept = st.kept ++ (if oldP clock p then [] else [markP clock p]) := by
  unfold tickP oldP markP
  by_cases h : 10 ≤ ageOf clock p.sent
  · rw [if_pos h]; simp only [h, decide_true, if_true]; split <;> simp
  · rw [if_neg h]; simp only [h, decide_false]
    split <;> simp
theorem fold_kept (self clock draw : Int) : ∀ (ps : List Prb) (st : TS), (ps.foldl (tickP self clock draw) st).kept = st.kept ++ (ps.filter (fun p => !oldP clock p)).map (markP clock)
  | [], st => by simp
  | p :: ps, st => by
    rw [List.foldl_cons, fold_kept self clock draw ps, tickP_kept]
    by_cases h : oldP clock p = true
    · simp [h]
    · simp [h]
theorem setTab_len {t : List Ent} {i : Int} {x : Ent} : (setTab t i x).length = t.length := by simp [setTab]
theorem setSince_len {t : List Ent} {s : List Int} {c i : Int} {x : Ent} : (setSince t s c i x).length = s.length := by unfold setSince; split <;> simp
theorem tickP_lens (self clock draw : Int) (st : TS) (p : Prb) : (tickP self clock draw st p).tab.length = st.tab.length ∧ (tickP self clock draw st p).since.length = st.since.length := by
  unfold tickP; split
  · split
    · simp [setTab_len, setSince_len]
    · exact ⟨rfl, rfl⟩
  · split <;> exact ⟨rfl, rfl⟩
theorem fold_lens (self clock draw : Int) : ∀ (ps : List Prb) (st : TS), (ps.foldl (tickP self clock draw) st).tab.length = st.tab.length ∧ (ps.foldl (tickP self clock draw) st).since.length = st.since.length
  | [], st => ⟨rfl, rfl⟩
  | p :: ps, st => by
    have h1 := fold_lens self clock draw ps (tickP self clock draw st p)
    have h2 := tickP_lens self clock draw st p
    exact ⟨h1.1.trans h2.1, h1.2.trans h2.2⟩
def suspP (clock : Int) (ps : List Prb) (j : Nat) : Bool := ps.any fun p => oldP clock p && p.target.toNat == j
theorem tickP_entry (self clock draw : Int) {st : TS} {p : Prb} {j : Nat} {x : Ent} {s : Int} (hx : st.tab[j]? = some x) (hs : st.since[j]? = some s) :
    (tickP self clock draw st p).tab[j]? = some (if (oldP clock p && p.target.toNat == j) = true ∧ x.2 = 1 then (x.1, 2) else x) ∧
    (tickP self clock draw st p).since[j]? = some (if (oldP clock p && p.target.toNat == j) = true ∧ x.2 = 1 then clock else s) := by
  unfold tickP
  by_cases ho : 10 ≤ ageOf clock p.sent
  · have ho' : oldP clock p = true := by simp [oldP, ho]
    rw [if_pos ho, ho']
    by_cases ht : p.target.toNat = j
    · have hst : statAt st.tab p.target = x := by simp [statAt, ht, List.getD_eq_getElem?_getD, hx]
      rw [hst]
      by_cases h1 : x.2 = 1
      · rw [if_pos h1]
        have hjl : j < st.tab.length := (List.getElem?_eq_some_iff.1 hx).1
        have hsl : j < st.since.length := (List.getElem?_eq_some_iff.1 hs).1
        have hne : st.tab[p.target.toNat]? ≠ some (x.1, 2) := by rw [ht, hx]; intro h; rw [Option.some.inj h] at h1; simp at h1
        have hs2 : setSince st.tab st.since clock p.target (x.1, 2) = st.since.set p.target.toNat clock := by rw [setSince, if_pos ⟨hne, rfl⟩]
        simp only [hs2, setTab]
        simp [ht, h1, hjl, hsl, List.getElem?_set]
      · rw [if_neg h1]; simp [h1, hx, hs]
    · split
      · refine ⟨?_, ?_⟩
        · simp only [setTab]; rw [List.getElem?_set, if_neg ht]; simp [ht, hx]
        · simp only [setSince]; split
          · rw [List.getElem?_set, if_neg ht]; simp [ht, hs]
          · simp [ht, hs]
      · simp [ht, hx, hs]
  · have ho' : oldP clock p = false := by simp [oldP]; omega
    rw [if_neg ho, ho']
    split <;> simp [hx, hs]
theorem fold_entry (self clock draw : Int) : ∀ (ps : List Prb) (st : TS) {j : Nat} {x : Ent} {s : Int}, st.tab[j]? = some x → st.since[j]? = some s →
    (ps.foldl (tickP self clock draw) st).tab[j]? = some (if suspP clock ps j = true ∧ x.2 = 1 then (x.1, 2) else x) ∧
    (ps.foldl (tickP self clock draw) st).since[j]? = some (if suspP clock ps j = true ∧ x.2 = 1 then clock else s)
  | [], st, j, x, s, hx, hs => by simp [suspP, hx, hs]
  | p :: ps, st, j, x, s, hx, hs => by
    obtain ⟨h1, h2⟩ := tickP_entry self clock draw (p := p) hx hs
    obtain ⟨h3, h4⟩ := fold_entry self clock draw ps _ h1 h2
    rw [List.foldl_cons, h3, h4]
    have hc : suspP clock (p :: ps) j = ((oldP clock p && p.target.toNat == j) || suspP clock ps j) := rfl
    rw [hc]
    by_cases ha : (oldP clock p && p.target.toNat == j) = true <;> by_cases hb : suspP clock ps j = true <;> by_cases hx1 : x.2 = 1 <;> simp [ha, hb, hx1]
/-! ### One tick -/
def suspE (c : Int) (ps : List Prb) (j : Nat) (x : Ent) : Ent := if suspP c ps j = true ∧ x.2 = 1 then (x.1, 2) else x
def suspS (c : Int) (ps : List Prb) (j : Nat) (x : Ent) (s : Int) : Int := if suspP c ps j = true ∧ x.2 = 1 then c else s
theorem tickM_entry (m : Mach) (draw : Int) {j : Nat} {x : Ent} {s : Int} (hx : m.tab[j]? = some x) (hs : m.since[j]? = some s) :
    (tickM m draw).tab[j]? = some (if (j : Int) ≠ m.self ∧ (suspE (clock1 m) m.probes j x).2 = 2 ∧ waitOf m.tab.length ≤ ageOf (clock1 m) (suspS (clock1 m) m.probes j x s) then ((suspE (clock1 m) m.probes j x).1, 3) else suspE (clock1 m) m.probes j x) ∧
    (tickM m draw).since[j]? = some (suspS (clock1 m) m.probes j x s) := by
  obtain ⟨h1, h2⟩ := fold_entry m.self (clock1 m) draw m.probes ⟨m.tab, m.since, [], []⟩ hx hs
  have h1' : (tickTS m draw).tab[j]? = some (suspE (clock1 m) m.probes j x) := h1
  have h2' : (tickTS m draw).since[j]? = some (suspS (clock1 m) m.probes j x s) := h2
  refine ⟨?_, h2'⟩
  show (deadT m.self (clock1 m) (waitOf m.tab.length) (tickTS m draw).since (tickTS m draw).tab)[j]? = _
  rw [dead_get h1', deadE, List.getD_eq_getElem?_getD, h2']; rfl
theorem tickM_lens (m : Mach) (draw : Int) : (tickM m draw).tab.length = m.tab.length ∧ (tickM m draw).since.length = m.since.length := by
  have h := fold_lens m.self (clock1 m) draw m.probes ⟨m.tab, m.since, [], []⟩
  refine ⟨?_, h.2⟩
  show (deadT m.self (clock1 m) (waitOf m.tab.length) (tickTS m draw).since (tickTS m draw).tab).length = _
  rw [dead_len]; exact h.1
theorem tickM_probes (m : Mach) (draw : Int) : (tickM m draw).probes = (m.probes.filter (fun p => !oldP (clock1 m) p)).map (markP (clock1 m)) ++ [⟨IntKind.u64.wrap (m.seq + 1), nextP m.tab.length m.self m.pinged, clock1 m, false⟩] := by
  show (tickTS m draw).kept ++ _ = _
  rw [show (tickTS m draw).kept = (m.probes.filter (fun p => !oldP (clock1 m) p)).map (markP (clock1 m)) from by
    have := fold_kept m.self (clock1 m) draw m.probes ⟨m.tab, m.since, [], []⟩
    rw [List.nil_append] at this; exact this]
end Go.Proofs

/- A machine that hears nothing more: its ticks. -/
set_option linter.unusedSimpArgs false
set_option linter.unusedVariables false
namespace Go.Proofs
open Go Go.Eng

def pingAt (n self : Int) : Nat → Int
  | 0 => self
  | k + 1 => nextP n self (pingAt n self k)
theorem nextP_ne {n self pinged : Int} (h2 : 2 ≤ n) (h0 : 0 ≤ pinged) (hs : 0 ≤ self) (hs' : self < n) : nextP n self pinged ≠ self := by
  have a1 : Int.tmod (pinged + 1) n < n := Int.tmod_lt_of_pos _ (by omega)
  have a0 : 0 ≤ Int.tmod (pinged + 1) n := Int.tmod_nonneg _ (by omega)
  unfold nextP
  split
  · rename_i h
    rw [h]
    intro hh
    by_cases hl : self + 1 < n
    · rw [Int.tmod_eq_of_lt (by omega) hl] at hh; omega
    · have : self + 1 = n := by omega
      rw [this, Int.tmod_self] at hh; omega
  · assumption
theorem pingAt_range {n self : Int} (h2 : 2 ≤ n) (h16 : n ≤ 16) (hs : 0 ≤ self) (hs' : self < n) : ∀ k, 0 ≤ pingAt n self k ∧ pingAt n self k < n
  | 0 => ⟨hs, hs'⟩
  | k + 1 => nextP_range h2 h16 (pingAt_range h2 h16 hs hs' k).1
theorem pingAt_ne {n self : Int} (h2 : 2 ≤ n) (h16 : n ≤ 16) (hs : 0 ≤ self) (hs' : self < n) {k : Nat} (hk : 1 ≤ k) : pingAt n self k ≠ self := by
  match k, hk with
  | k + 1, _ => exact nextP_ne h2 (pingAt_range h2 h16 hs hs' k).1 hs hs'
theorem ageOf_id {c s : Int} (h0 : 0 ≤ s) (h : s ≤ c) (hc : c < 18446744073709551616) : ageOf c s = c - s := wrapu64_id (by omega) (by omega)
theorem pingAt_eq {n self : Int} (h2 : 2 ≤ n) (hs : 0 ≤ self) (hs' : self < n) : ∀ k : Nat, (k : Int) < n → pingAt n self k = if self + k < n then self + k else self + k - n
  | 0, _ => by simp [pingAt]; omega
  | k + 1, hk => by
    have ih := pingAt_eq h2 hs hs' k (by omega)
    simp only [pingAt, ih]
    have hr : Int.tmod ((if self + k < n then self + k else self + k - n) + 1) n = if self + (k + 1 : Nat) < n then self + (k + 1 : Nat) else self + (k + 1 : Nat) - n := by
      by_cases h1 : self + (k + 1 : Nat) < n
      · rw [if_pos h1, if_pos (by omega), Int.tmod_eq_of_lt (by omega) (by omega)]; omega
      · rw [if_neg h1]
        by_cases h3 : self + k < n
        · rw [if_pos h3, show self + k + 1 = n by omega, Int.tmod_self]; omega
        · rw [if_neg h3, Int.tmod_eq_of_lt (by omega) (by omega)]; omega
    unfold nextP
    rw [hr, if_neg]
    split <;> omega
/-- Every other peer is pinged within a turn. -/
theorem pingAt_all {n self : Int} (h2 : 2 ≤ n) (hs : 0 ≤ self) (hs' : self < n) {j : Int} (h0 : 0 ≤ j) (hj : j < n) (hne : j ≠ self) : ∃ s : Nat, 1 ≤ s ∧ (s : Int) ≤ n - 1 ∧ pingAt n self s = j := by
  by_cases h : self < j
  · refine ⟨(j - self).toNat, by omega, by omega, ?_⟩
    rw [pingAt_eq h2 hs hs' _ (by omega)]; split <;> omega
  · refine ⟨(j - self + n).toNat, by omega, by omega, ?_⟩
    rw [pingAt_eq h2 hs hs' _ (by omega)]; split <;> omega
/-- The k-th tick of a machine that hears nothing. -/
structure Runs (n me : Int) (m : Mach) (k : Nat) : Prop where
  self_eq : m.self = me
  clk : m.clock = k
  sq : m.seq = k
  png : m.pinged = pingAt n me k
  tl : (m.tab.length : Int) = n
  sl : (m.since.length : Int) = n
  prb : ∀ p ∈ m.probes, ∃ s : Nat, 1 ≤ s ∧ s ≤ k ∧ p.sent = s ∧ p.target = pingAt n me s
  prb' : ∀ s : Nat, 1 ≤ s → s ≤ k → k < s + 10 → ∃ p ∈ m.probes, p.sent = s ∧ p.target = pingAt n me s
theorem markP_sent (c : Int) (p : Prb) : (markP c p).sent = p.sent ∧ (markP c p).target = p.target ∧ (markP c p).seq = p.seq := by unfold markP; split <;> exact ⟨rfl, rfl, rfl⟩
theorem Runs.clock {n me : Int} {m : Mach} {k : Nat} (h : Runs n me m k) (hk : k < 1000) : clock1 m = (k + 1 : Nat) := by
  rw [clock1, h.clk, wrapu64_id (by omega) (by omega)]; omega
theorem Runs.step {n me : Int} {m : Mach} {k : Nat} (draw : Int) (h : Runs n me m k) (hk : k < 1000) : Runs n me (tickM m draw) (k + 1) := by
  have hc := h.clock hk
  have hl := tickM_lens m draw
  refine ⟨h.self_eq, hc, ?_, ?_, by rw [hl.1]; exact h.tl, by rw [hl.2]; exact h.sl, fun p hp => ?_, fun s hs1 hs2 hs3 => ?_⟩
  · show IntKind.u64.wrap (m.seq + 1) = _
    rw [h.sq, wrapu64_id (by omega) (by omega)]; omega
  · show nextP m.tab.length m.self m.pinged = _
    rw [h.tl, h.self_eq, h.png]; rfl
  · rw [tickM_probes] at hp
    rcases List.mem_append.1 hp with hp | hp
    · obtain ⟨q, hq, rfl⟩ := List.mem_map.1 hp
      obtain ⟨s, a1, a2, a3, a4⟩ := h.prb q (List.mem_filter.1 hq).1
      obtain ⟨b1, b2, _⟩ := markP_sent (clock1 m) q
      exact ⟨s, a1, by omega, by rw [b1, a3], by rw [b2, a4]⟩
    · simp only [List.mem_singleton] at hp
      subst hp
      exact ⟨k + 1, by omega, by omega, hc, by show nextP m.tab.length m.self m.pinged = _; rw [h.tl, h.self_eq, h.png]; rfl⟩
  · rw [tickM_probes]
    by_cases hsk : s = k + 1
    · subst hsk
      exact ⟨_, List.mem_append_right _ (List.mem_singleton.2 rfl), hc, by show nextP m.tab.length m.self m.pinged = _; rw [h.tl, h.self_eq, h.png]; rfl⟩
    · obtain ⟨q, hq, a3, a4⟩ := h.prb' s hs1 (by omega) (by omega)
      obtain ⟨b1, b2, _⟩ := markP_sent (clock1 m) q
      refine ⟨_, List.mem_append_left _ (List.mem_map.2 ⟨q, List.mem_filter.2 ⟨hq, ?_⟩, rfl⟩), by rw [b1, a3], by rw [b2, a4]⟩
      simp only [oldP, hc, a3, ageOf_id (s := (s : Int)) (c := ((k + 1 : Nat) : Int)) (by omega) (by omega) (by omega), Bool.not_eq_true', decide_eq_false_iff_not]
      omega
/-- What the ticks do to the entries. -/
structure Fades (n me : Int) (m0 m : Mach) (k : Nat) : Prop where
  own : m.tab[me.toNat]? = m0.tab[me.toNat]?
  early : k ≤ 10 → ∀ (j : Nat) (x : Ent), m0.tab[j]? = some x → x.2 = 1 → ∃ y, m.tab[j]? = some y ∧ y.2 = 1
  late : ∀ (j s : Nat), (j : Int) ≠ me → 1 ≤ s → pingAt n me s = j → s + 10 ≤ k → ∀ y, m.tab[j]? = some y → y.2 ≠ 1
  susp : ∀ (j : Nat), (j : Int) ≠ me → ∀ y, m.tab[j]? = some y → y.2 = 2 → ∃ c : Nat, m.since[j]? = some (c : Int) ∧ (c : Int) ≤ n - 1 + 10 ∧ c ≤ k ∧ (1 ≤ k → (k : Int) - c < waitOf n.toNat)
theorem Runs.old {n me : Int} {m : Mach} {k : Nat} (h : Runs n me m k) (hk : k < 1000) (h2 : 2 ≤ n) (h16 : n ≤ 16) (hs : 0 ≤ me) (hs' : me < n) {j : Nat} (hj : suspP (clock1 m) m.probes j = true) :
    ∃ s : Nat, 1 ≤ s ∧ s + 10 ≤ k + 1 ∧ pingAt n me s = j := by
  simp only [suspP, List.any_eq_true, Bool.and_eq_true, beq_iff_eq] at hj
  obtain ⟨p, hp, ho, ht⟩ := hj
  obtain ⟨s, a1, a2, a3, a4⟩ := h.prb p hp
  rw [oldP, h.clock hk, a3, decide_eq_true_eq, ageOf_id (by omega) (by omega) (by omega)] at ho
  have := pingAt_range h2 h16 hs hs' s
  exact ⟨s, a1, by omega, by rw [← a4, ← ht, a4]; omega⟩
theorem Runs.young {n me : Int} {m : Mach} {k : Nat} (h : Runs n me m k) (hk : k < 1000) {j s : Nat} (h1 : 1 ≤ s) (hs : s + 10 = k + 1) (hp : pingAt n me s = j) : suspP (clock1 m) m.probes j = true := by
  obtain ⟨p, hp', a3, a4⟩ := h.prb' s h1 (by omega) (by omega)
  simp only [suspP, List.any_eq_true, Bool.and_eq_true, beq_iff_eq]
  refine ⟨p, hp', ?_, by rw [a4, hp]; simp⟩
  rw [oldP, h.clock hk, a3, decide_eq_true_eq, ageOf_id (by omega) (by omega) (by omega)]
  omega
theorem suspE_no {c : Int} {ps : List Prb} {j : Nat} {x : Ent} (h : ¬ (suspP c ps j = true ∧ x.2 = 1)) : suspE c ps j x = x := if_neg h
theorem suspS_no {c : Int} {ps : List Prb} {j : Nat} {x : Ent} {s : Int} (h : ¬ (suspP c ps j = true ∧ x.2 = 1)) : suspS c ps j x s = s := if_neg h
theorem Fades.step {n me : Int} {m0 m : Mach} {k : Nat} (draw : Int) (h : Runs n me m k) (f : Fades n me m0 m k) (hk : k < 1000) (h2 : 2 ≤ n) (h16 : n ≤ 16) (hs : 0 ≤ me) (hs' : me < n) : Fades n me m0 (tickM m draw) (k + 1) := by
  have hc := h.clock hk
  have htl := h.tl
  have hsl := h.sl
  have ent : ∀ {j : Nat} {y : Ent}, (tickM m draw).tab[j]? = some y → ∃ (x : Ent) (s : Int), m.tab[j]? = some x ∧ m.since[j]? = some s := fun {j y} hy => by
    have hj : j < m.tab.length := by have := (List.getElem?_eq_some_iff.1 hy).1; rwa [(tickM_lens m draw).1] at this
    exact ⟨_, _, List.getElem?_eq_getElem hj, List.getElem?_eq_getElem (by omega)⟩
  have w2 : 10 ≤ waitOf n.toNat := by unfold waitOf; omega
  have hwn : waitOf m.tab.length = waitOf n.toNat := by rw [← htl]; rfl
  refine ⟨?_, fun hk10 j x hx hx1 => ?_, fun j s hj h1 hp hsk y hy => ?_, fun j hj y hy hy2 => ?_⟩
  · have hm : m.tab[me.toNat]? = some m.tab[me.toNat] := List.getElem?_eq_getElem (by omega)
    have hsn : m.since[me.toNat]? = some m.since[me.toNat] := List.getElem?_eq_getElem (by omega)
    have hno : ¬ (suspP (clock1 m) m.probes me.toNat = true ∧ m.tab[me.toNat].2 = 1) := fun hh => by
      obtain ⟨s, a1, _, a3⟩ := h.old hk h2 h16 hs hs' hh.1
      exact pingAt_ne h2 h16 hs hs' a1 (by rw [a3]; omega)
    rw [(tickM_entry m draw hm hsn).1, suspE_no hno, if_neg (fun hh => hh.1 (by rw [h.self_eq]; omega)), ← hm, f.own]
  · obtain ⟨y, hy, hy1⟩ := f.early (by omega) j x hx hx1
    have hsn : m.since[j]? = some _ := List.getElem?_eq_getElem (by have := (List.getElem?_eq_some_iff.1 hy).1; omega)
    have hno : ¬ (suspP (clock1 m) m.probes j = true ∧ y.2 = 1) := fun hh => by
      obtain ⟨s, a1, a2, _⟩ := h.old hk h2 h16 hs hs' hh.1
      omega
    refine ⟨y, ?_, hy1⟩
    rw [(tickM_entry m draw hy hsn).1, suspE_no hno, if_neg (fun hh => by have := hh.2.1; omega)]
  · obtain ⟨x, c, hx, hcs⟩ := ent hy
    rw [(tickM_entry m draw hx hcs).1] at hy
    have hy := Option.some.inj hy
    have hne : (suspE (clock1 m) m.probes j x).2 ≠ 1 := by
      by_cases hlt : s + 10 ≤ k
      · have := f.late j s hj h1 hp hlt x hx
        rw [suspE_no (fun hh => this hh.2)]; exact this
      · have hy' := h.young hk h1 (show s + 10 = k + 1 by omega) hp
        unfold suspE
        split
        · simp
        · rename_i hh; exact fun e => hh ⟨hy', e⟩
    rw [← hy]
    split
    · simp
    · exact hne
  · obtain ⟨x, c, hx, hcs⟩ := ent hy
    obtain ⟨e1, e2⟩ := tickM_entry m draw hx hcs
    rw [e1] at hy
    have hy := Option.some.inj hy
    rw [e2]
    rw [h.self_eq, hwn] at hy
    split at hy
    · rw [← hy] at hy2; cases hy2
    · rename_i hnd
      rw [← hy] at hy2
      by_cases hh : suspP (clock1 m) m.probes j = true ∧ x.2 = 1
      · have hjn : (j : Int) < n := by have := (List.getElem?_eq_some_iff.1 hx).1; omega
        obtain ⟨s0, a1, a2, a3⟩ := pingAt_all h2 hs hs' (j := (j : Int)) (by omega) hjn hj
        have : ¬ s0 + 10 ≤ k := fun hle => f.late j s0 hj a1 a3 hle x hx hh.2
        refine ⟨k + 1, by rw [suspS, if_pos hh, hc], by omega, by omega, fun _ => by omega⟩
      · rw [suspE_no hh] at hy2 hnd
        rw [suspS_no hh] at hnd ⊢
        obtain ⟨c', b1, b2, b3, b4⟩ := f.susp j hj x hx hy2
        rw [hcs] at b1
        have b1 := Option.some.inj b1
        refine ⟨c', by rw [b1], b2, by omega, fun _ => ?_⟩
        have : ¬ waitOf n.toNat ≤ ageOf (clock1 m) c := fun hw => hnd ⟨hj, hy2, hw⟩
        rw [hc, b1, ageOf_id (by omega) (by omega) (by omega)] at this
        omega
theorem runs_all {n me draw : Int} {m0 : Mach} (h0 : Runs n me m0 0) (f0 : Fades n me m0 m0 0) (h2 : 2 ≤ n) (h16 : n ≤ 16) (hs : 0 ≤ me) (hs' : me < n) : ∀ k : Nat, k < 1000 → Runs n me (tickN draw k m0) k ∧ Fades n me m0 (tickN draw k m0) k
  | 0, _ => ⟨h0, f0⟩
  | k + 1, hk => by
    obtain ⟨a, b⟩ := runs_all (draw := draw) h0 f0 h2 h16 hs hs' k (by omega)
    exact ⟨a.step draw (by omega), b.step draw a (by omega) h2 h16 hs hs'⟩
theorem heard_eq {me n inc : Int} {t : List Ent} (h2 : 2 ≤ n) (h16 : n ≤ 16) (hs : 0 ≤ me) (hs' : me < n) (hv : validT t = true) (ht : (t.length : Int) = n) :
    recvE (newM me n inc) ⟨2, Int.tmod (me + 1) n, me, 0, me, 0⟩ t = 0 ∧ heardM me n inc t = recvM (newM me n inc) ⟨2, Int.tmod (me + 1) n, me, 0, me, 0⟩ t := by
  have a1 : Int.tmod (me + 1) n < n := Int.tmod_lt_of_pos _ (by omega)
  have a0 : 0 ≤ Int.tmod (me + 1) n := Int.tmod_nonneg _ (by omega)
  have hne : Int.tmod (me + 1) n ≠ me := fun hh => by
    by_cases hl : me + 1 < n
    · rw [Int.tmod_eq_of_lt (by omega) hl] at hh; omega
    · rw [show me + 1 = n by omega, Int.tmod_self] at hh; omega
  have hE : recvE (newM me n inc) ⟨2, Int.tmod (me + 1) n, me, 0, me, 0⟩ t = 0 := by
    rw [recvE, if_neg (by simp [newM]), if_pos]
    rw [newM_len]
    simp only [acceptsP, peerP, hv, Bool.and_eq_true, Bool.not_eq_true', decide_eq_true_eq, beq_iff_eq, beq_eq_false_iff_ne, ne_eq]
    simp [newM]
    omega
  exact ⟨hE, by rw [heardM, recvS, if_pos hE]⟩
theorem heard_runs {me n inc : Int} {t : List Ent} (h2 : 2 ≤ n) (h16 : n ≤ 16) (hs : 0 ≤ me) (hs' : me < n) (hv : validT t = true) (ht : (t.length : Int) = n) :
    Runs n me (heardM me n inc t) 0 ∧ Fades n me (heardM me n inc t) (heardM me n inc t) 0 ∧ (heardM me n inc t).tab[me.toNat]? = some (inc, 1) := by
  rw [(heard_eq h2 h16 hs hs' hv ht).2]
  have hl : (recvTab me (newM me n inc).tab t).length = n.toNat := by rw [recvTab_len, newM_len]
  refine ⟨⟨rfl, rfl, rfl, rfl, ?_, ?_, fun p hp => ?_, fun s h1 h2 => by omega⟩, ⟨rfl, fun _ j x hx hx1 => ⟨x, hx, hx1⟩, fun j s _ h1 _ h2 => by omega, fun j hj y hy hy2 => ?_⟩, ?_⟩
  · show ((recvTab me (newM me n inc).tab t).length : Int) = n
    rw [hl]; omega
  · show ((recvSince me 0 (newM me n inc).tab (newM me n inc).since t).length : Int) = n
    rw [recvSince_len]; simp [newM]; omega
  · exfalso
    have : (recvM (newM me n inc) ⟨2, Int.tmod (me + 1) n, me, 0, me, 0⟩ t).probes = [] := by simp [recvM, newM, forMe]
    rw [this] at hp; cases hp
  · have hjl : j < n.toNat := by
      have := (List.getElem?_eq_some_iff.1 hy).1
      have h' : j < (recvTab me (newM me n inc).tab t).length := this
      rwa [hl] at h'
    have hsn : (newM me n inc).since[j]? = some 0 := by simp [newM, List.getElem?_replicate, hjl]
    refine ⟨0, ?_, by omega, by omega, fun h => by omega⟩
    show (recvSince me 0 (newM me n inc).tab (newM me n inc).since t)[j]? = some 0
    rw [recvSince_get (newM_get hs hjl) (List.getElem?_eq_getElem (show j < t.length by omega)) hsn, ite_self]
  · show (recvTab me (newM me n inc).tab t)[me.toNat]? = some (inc, 1)
    obtain ⟨y, _, hr⟩ := recv_new_get (inc := inc) hs ht (i := me.toNat) (by omega)
    rw [hr, if_pos (by omega)]
theorem live_single {l : List Ent} {me : Nat} (h : me < l.length) (hl : liveS (l.getD me (0, 0)).2 = true) (ho : ∀ j, j < l.length → j ≠ me → liveS (l.getD j (0, 0)).2 = false) : liveT l = [(me : Int)] := by
  have : ∀ n, n ≤ l.length → liveN l n = if me < n then [(me : Int)] else [] := by
    intro n
    induction n with
    | zero => intro _; simp [liveN]
    | succ n ih =>
      intro hn
      have ih := ih (by omega)
      unfold liveN at ih ⊢
      rw [List.range_succ, List.filter_append, List.map_append, ih]
      by_cases hm : n = me
      · subst hm
        rw [if_neg (by omega), if_pos (by omega), List.filter_cons, if_pos hl]; rfl
      · have hs := ho n (by omega) hm
        have hf : [n].filter (fun i => liveS (l.getD i (0, 0)).2) = [] := by rw [List.filter_cons, if_neg (fun e => by rw [hs] at e; cases e)]; rfl
        rw [hf]
        by_cases h1 : me < n
        · rw [if_pos h1, if_pos (show me < n + 1 by omega)]; rfl
        · rw [if_neg h1, if_neg (show ¬ me < n + 1 by omega)]; rfl
  rw [liveT, this _ (Nat.le_refl _), if_pos h]
/-- After so many ticks nobody else is live. -/
theorem detect_end {me n draw : Int} {t : List Ent} (h2 : 2 ≤ n) (h16 : n ≤ 16) (hs : 0 ≤ me) (hs' : me < n) (hv : validT t = true) (ht : (t.length : Int) = n) {k : Nat} (hk : (k : Int) = n - 1 + 10 + waitOf n.toNat) :
    liveT (tickN draw k (heardM me n 1 t)).tab = [me] := by
  obtain ⟨r0, f0, hown⟩ := heard_runs (inc := 1) h2 h16 hs hs' hv ht
  have hw : waitOf n.toNat ≤ 58 := by unfold waitOf; omega
  have hw0 : 10 ≤ waitOf n.toNat := by unfold waitOf; omega
  obtain ⟨r, f⟩ := runs_all (draw := draw) r0 f0 h2 h16 hs hs' k (by omega)
  have htl := r.tl
  have hme : (tickN draw k (heardM me n 1 t)).tab[me.toNat]? = some (1, 1) := by rw [f.own, hown]
  have := live_single (l := (tickN draw k (heardM me n 1 t)).tab) (me := me.toNat) (by omega) (by rw [List.getD_eq_getElem?_getD, hme]; rfl) (fun j hj hne => by
    have hx : (tickN draw k (heardM me n 1 t)).tab[j]? = some _ := List.getElem?_eq_getElem hj
    have hne' : (j : Int) ≠ me := by omega
    rw [List.getD_eq_getElem?_getD, hx]
    obtain ⟨s, a1, a2, a3⟩ := pingAt_all h2 hs hs' (j := (j : Int)) (by omega) (by omega) hne'
    have n1 := f.late j s hne' a1 a3 (by omega) _ hx
    have n2 : ((tickN draw k (heardM me n 1 t)).tab[j]).2 ≠ 2 := fun e => by
      obtain ⟨c, _, b2, _, b4⟩ := f.susp j hne' _ hx e
      have := b4 (by omega)
      omega
    simp only [Option.getD_some, liveS, Bool.or_eq_false_iff, beq_eq_false_iff_ne]
    exact ⟨n1, n2⟩)
  rw [this]
  simp; omega
end Go.Proofs

/- The laws Helpers and Leaves: contracts. -/
set_option linter.unusedSimpArgs false
set_option linter.unusedVariables false
namespace Go.Eng
open Go

/-! ### Helpers -/
abbrev Rows' := List (List Value)
def okM (dT dS dP : Rows') (np n most : Int) : Prop := (dT.length : Int) = n ∧ (dS.length : Int) = n ∧ 0 ≤ np ∧ np ≤ dP.length ∧ np ≤ most
/-- The live peers, as rows. -/
def HL (me n : Int) (t : List Ent) (dL : Rows') (nl : Int) : Prop := intsOf dL = liveT (heardM me n 1 t).tab ∧ nl = dL.length ∧ nl ≤ n
/-- Behind i ticks. -/
def HI (me n draw i : Int) (t : List Ent) (m : Mach) (dT dS dP : Rows') (np : Int) (dL : Rows') (nl : Int) : Prop :=
  0 ≤ i ∧ i ≤ 5 ∧ okM dT dS dP np n i ∧ m = tickN draw i.toNat (heardM me n 1 t) ∧ HL me n t dL nl
/-- Behind the fifth: its messages and the probes. -/
def HM (me n draw i : Int) (t : List Ent) (m : Mach) (dT dS dP : Rows') (np : Int) (dL : Rows') (nl : Int) (nm : Int) (dM : Rows') (h : Hp) (nPr : Int) (dPr : Rows') : Prop :=
  i = 4 ∧ okM dT dS dP np n 5 ∧ m = tickN draw 5 (heardM me n 1 t) ∧ HL me n t dL nl ∧ nm = dM.length ∧ stamped h (tickMsgs (tickN draw 4 (heardM me n 1 t)) draw) me m.tab (tickMsgs (tickN draw 4 (heardM me n 1 t)) draw).length dM ∧ prbsOf dPr = m.probes ∧ nPr = dPr.length
def otherI (me n : Int) (x : Int) : Bool := !(x == me || x == nextP n me me)
def cntL (me n : Int) (dL : Rows') (k : Int) : Int := (((intsOf dL).take k.toNat).filter (otherI me n)).length
def anyL (dL dM : Rows') (j k : Int) : Bool := ((intsOf dL).take k.toNat).any (fun x => x == cellI dM j 2)
def lawHelpersC : Ctr := { fn := 7, nv := 7, args := [iv .i64 (.var 0), tArg 1 2 3, iv .u64 (.var 6)], heap := [], ro := [tRo 1 4 5], pre := fun ρ => (ρ 2).i = (ρ 4).d.length ∧ (ρ 2).i ≤ big ∧ 0 ≤ (ρ 6).i ∧ (ρ 6).i < 18446744073709551616, alts := lawWaitsC.alts }
/-- 1000 .. 1012 the machine, 1013 .. 1015 and 1017 the live peers, 1016 the round. -/
def lawHelpersI : Inv := { key := 10, nv := 18, env := [(0, iv .i64 (.var 0)), (2, iv .u64 (.var 6)), (8, ptr 1000), (10, .one (.vslice 1013 (.lit 0) (.var 1017) (.var 1014) 1)), (11, iv .i64 (.var 1016))], heap := lMach 1000 (.var 0) (.var 2) ++ [.arr 1013 3 [.int .i64] (.var 1015) (.var 1014)], inv := (fun ρ => HI (ρ 0).i (ρ 2).i (ρ 6).i (ρ 1016).i (tabOf (ρ 4).d) (lM ρ 1000 (ρ 0).i) (ρ 1010).d (ρ 1011).d (ρ 1012).d (ρ 1007).i (ρ 1015).d (ρ 1017).i), mu := (fun ρ => (5 - (ρ 1016).i).toNat) }
/-- The fifth tick's messages 1018 .. 1022 and the probes 1023 .. 1026. -/
def hMsgs (ρ : Env) : Prop := HM (ρ 0).i (ρ 2).i (ρ 6).i (ρ 1016).i (tabOf (ρ 4).d) (lM ρ 1000 (ρ 0).i) (ρ 1010).d (ρ 1011).d (ρ 1012).d (ρ 1007).i (ρ 1015).d (ρ 1017).i (ρ 1019).i (ρ 1021).d (ρ 1022).h (ρ 1024).i (ρ 1026).d
def hEnv : List (Nat × SV) := [(0, iv .i64 (.var 0)), (2, iv .u64 (.var 6)), (8, ptr 1000), (10, .one (.vslice 1013 (.lit 0) (.var 1017) (.var 1014) 1)), (11, iv .i64 (.var 1016)), (12, .one (.vslice 1018 (.lit 0) (.var 1019) (.var 1020) 116)), (13, .one (.vslice 1023 (.lit 0) (.var 1024) (.var 1025) 4))]
def hHeap : List SH := lMach 1000 (.var 0) (.var 2) ++ [.arr 1013 3 [.int .i64] (.var 1015) (.var 1014), .arr 1018 43 kMsg (.var 1021) (.var 1020), .abs 1022 2, .arr 1023 63 kProbe (.var 1026) (.var 1025)]
/-- The count of the others: 1027, at 1028. -/
def lawHelpersJ : Inv := { key := 21, nv := 29, env := hEnv ++ [(14, iv .i64 (.var 1027)), (15, iv .i64 (.var 1028))], heap := hHeap, inv := (fun ρ => hMsgs ρ ∧ 0 ≤ (ρ 1028).i ∧ (ρ 1028).i ≤ (ρ 1017).i ∧ (ρ 1027).i = cntL (ρ 0).i (ρ 2).i (ρ 1015).d (ρ 1028).i), mu := (fun ρ => ((ρ 1017).i - (ρ 1028).i).toNat) }
/-- The messages: at 1027. -/
def lawHelpersK : Inv := { key := 28, nv := 28, env := hEnv ++ [(16, iv .i64 (.var 1027))], heap := hHeap, inv := (fun ρ => hMsgs ρ ∧ 0 ≤ (ρ 1027).i ∧ (ρ 1027).i ≤ (ρ 1019).i - 1), mu := (fun ρ => ((ρ 1019).i - (ρ 1027).i).toNat) }
/-- Is the addressee live? 1028, at 1029; 122 is the message's number in the tree (see show2.sh). -/
def lawHelpersL : Inv := { key := 32, nv := 30, env := hEnv ++ [(16, iv .i64 (.var 1027)), (17, .one (.vbool (.var 1028))), (18, iv .i64 (.var 1029))], heap := hHeap, inv := (fun ρ => hMsgs ρ ∧ 0 ≤ (ρ 1027).i ∧ (ρ 1027).i < (ρ 1019).i - 1 ∧ 0 ≤ (ρ 1029).i ∧ (ρ 1029).i ≤ (ρ 1017).i ∧ (ρ 1028).b = anyL (ρ 1015).d (ρ 1021).d (ρ 1027).i (ρ 1029).i ∧ (ρ 1027).i = (ρ 122).i), mu := (fun ρ => ((ρ 1017).i - (ρ 1029).i).toNat) }
end Go.Eng

/- The first five ticks, plainly. -/
set_option linter.unusedSimpArgs false
set_option linter.unusedVariables false
namespace Go.Proofs
open Go Go.Eng

theorem Runs.wf {n me : Int} {m : Mach} {k : Nat} (h : Runs n me m k) (h2 : 2 ≤ n) (h16 : n ≤ 16) (hs : 0 ≤ me) (hs' : me < n) : machWf m := by
  have h1 := h.tl
  have h3 := h.sl
  have hr := pingAt_range h2 h16 hs hs' k
  refine ⟨by omega, by omega, by omega, by rw [h.self_eq]; exact hs, by rw [h.self_eq]; omega, by rw [h.png]; exact hr.1, by rw [h.png]; omega, fun p hp => ?_⟩
  obtain ⟨s, _, _, _, a4⟩ := h.prb p hp
  have := pingAt_range h2 h16 hs hs' s
  rw [a4]; omega
theorem fold_young (self clock draw : Int) : ∀ (ps : List Prb) (st : TS), (∀ p ∈ ps, ageOf clock p.sent < 4) → ps.foldl (tickP self clock draw) st = { st with kept := st.kept ++ ps }
  | [], st, _ => by simp
  | p :: ps, st, h => by
    have hp := h p (List.mem_cons_self ..)
    rw [List.foldl_cons, fold_young self clock draw ps _ fun q hq => h q (List.mem_cons_of_mem _ hq), tickP, if_neg (by omega), if_neg (by omega)]
    simp
theorem dead_quiet {self clock wait : Int} {since : List Int} {t : List Ent} (h : ∀ (j : Nat) (x : Ent), t[j]? = some x → ageOf clock (since.getD j 0) < wait) : deadT self clock wait since t = t := by
  apply List.ext_getElem?
  intro j
  by_cases hj : j < t.length
  · have hx := List.getElem?_eq_getElem hj
    rw [dead_get hx, hx, deadE, if_neg]
    have := h j _ hx
    omega
  · rw [List.getElem?_eq_none (by rw [dead_len]; omega), List.getElem?_eq_none (by omega)]
/-- A machine none of whose probes is old. -/
theorem tick_quiet {m : Mach} {draw : Int} (hp : ∀ p ∈ m.probes, ageOf (clock1 m) p.sent < 4) : tickTS m draw = ⟨m.tab, m.since, m.probes, []⟩ := by
  have := fold_young m.self (clock1 m) draw m.probes ⟨m.tab, m.since, [], []⟩ hp
  rw [List.nil_append] at this; exact this
def pr (n me : Int) (a : Bool) (s : Nat) : Prb := ⟨s, pingAt n me s, s, a⟩
/-- The probes of the first ticks. -/
structure Calm0 (n me : Int) (m0 m : Mach) (k : Nat) : Prop where
  runs : Runs n me m k
  tab : m.tab = m0.tab
  since : m.since = m0.since
  prbs : m.probes = (List.range k).map fun s => pr n me false (s + 1)
theorem Calm0.young {n me : Int} {m0 m : Mach} {k : Nat} (h : Calm0 n me m0 m k) (hk : k ≤ 3) : ∀ p ∈ m.probes, ageOf (clock1 m) p.sent < 4 := fun p hp => by
  rw [h.prbs] at hp
  obtain ⟨s, hs, rfl⟩ := List.mem_map.1 hp
  have := List.mem_range.1 hs
  rw [h.runs.clock (by omega)]
  show ageOf _ ((s + 1 : Nat) : Int) < 4
  rw [ageOf_id (by omega) (by omega) (by omega)]; omega
theorem Calm0.dead {n me : Int} {m0 m : Mach} {k : Nat} (h : Calm0 n me m0 m k) (h0 : ∀ s ∈ m0.since, s = 0) (hk : k ≤ 4) : deadT m.self (clock1 m) (waitOf m.tab.length) m.since m.tab = m.tab := by
  apply dead_quiet
  intro j x hx
  have w : 10 ≤ waitOf m.tab.length := by unfold waitOf; omega
  have : m.since.getD j 0 = 0 := by
    rw [h.since, List.getD_eq_getElem?_getD]
    cases hj : m0.since[j]? with
    | none => rfl
    | some s => exact h0 s (List.mem_of_getElem? hj)
  rw [this, h.runs.clock (by omega), ageOf_id (by omega) (by omega) (by omega)]; omega
theorem Calm0.step {n me : Int} {m0 m : Mach} {k : Nat} (draw : Int) (h : Calm0 n me m0 m k) (h0 : ∀ s ∈ m0.since, s = 0) (hk : k ≤ 3) : Calm0 n me m0 (tickM m draw) (k + 1) ∧ tickMsgs m draw = [⟨1, 0, pingAt n me (k + 1), (k + 1 : Nat), me, 0⟩] := by
  have hq := tick_quiet (draw := draw) (h.young hk)
  have hq1 : IntKind.u64.wrap (m.seq + 1) = (k + 1 : Nat) := by rw [h.runs.sq, wrapu64_id (by omega) (by omega)]; omega
  have hn : nextP m.tab.length m.self m.pinged = pingAt n me (k + 1) := by rw [h.runs.tl, h.runs.self_eq, h.runs.png]; rfl
  refine ⟨⟨h.runs.step draw (by omega), ?_, ?_, ?_⟩, ?_⟩
  · simp only [tickM, hq]
    rw [h.dead h0 (by omega), h.tab]
  · simp only [tickM, hq]; exact h.since
  · simp only [tickM, hq]
    rw [hq1, hn, h.runs.clock (by omega), h.prbs, List.range_succ, List.map_append]; rfl
  · simp only [tickMsgs, hq, hq1, List.nil_append]
    rw [hn, h.runs.self_eq]
theorem calm_all {n me draw : Int} {m0 : Mach} (r0 : Runs n me m0 0) (hp : m0.probes = []) (h0 : ∀ s ∈ m0.since, s = 0) : ∀ k : Nat, k ≤ 4 → Calm0 n me m0 (tickN draw k m0) k
  | 0, _ => ⟨r0, rfl, rfl, by rw [show tickN draw 0 m0 = m0 from rfl, hp]; rfl⟩
  | k + 1, hk => ((calm_all r0 hp h0 k (by omega)).step draw h0 (by omega)).1
/-- The fifth tick asks for help about the first probe. -/
theorem fifth {n me draw : Int} {m0 m : Mach} (h : Calm0 n me m0 m 4) (h0 : ∀ s ∈ m0.since, s = 0) :
    tickMsgs m draw = askL m0.tab me 1 (pingAt n me 1) draw ++ [⟨1, 0, pingAt n me 5, 5, me, 0⟩] ∧ (tickM m draw).probes = [pr n me true 1, pr n me false 2, pr n me false 3, pr n me false 4, pr n me false 5] ∧ (tickM m draw).tab = m0.tab := by
  have hc : clock1 m = 5 := h.runs.clock (by omega)
  have hps : m.probes = [pr n me false 1, pr n me false 2, pr n me false 3, pr n me false 4] := h.prbs
  have hT : tickTS m draw = ⟨m.tab, m.since, [pr n me true 1, pr n me false 2, pr n me false 3, pr n me false 4], askL m.tab me 1 (pingAt n me 1) draw⟩ := by
    rw [tickTS, tickPs, hc, hps, List.foldl_cons, fold_young]
    · have a1 : ¬ 10 ≤ ageOf 5 (pr n me false 1).sent := (by decide : ¬ 10 ≤ ageOf 5 1)
      have a2 : 4 ≤ ageOf 5 (pr n me false 1).sent := (by decide : 4 ≤ ageOf 5 1)
      rw [tickP, if_neg a1, if_pos ⟨a2, rfl⟩, h.runs.self_eq]
      rfl
    · intro p hp
      simp only [List.mem_cons, List.not_mem_nil, or_false] at hp
      rcases hp with rfl | rfl | rfl
      · exact (by decide : ageOf 5 2 < 4)
      · exact (by decide : ageOf 5 3 < 4)
      · exact (by decide : ageOf 5 4 < 4)
  have hq1 : IntKind.u64.wrap (m.seq + 1) = 5 := by rw [h.runs.sq]; decide
  have hn : nextP m.tab.length m.self m.pinged = pingAt n me 5 := by rw [h.runs.tl, h.runs.self_eq, h.runs.png]; rfl
  refine ⟨?_, ?_, ?_⟩
  · simp only [tickMsgs, hT, hq1]
    rw [hn, h.runs.self_eq, h.tab]
  · simp only [tickM, hT, hq1, hc]
    rw [hn]; rfl
  · simp only [tickM, hT]; rw [h.dead h0 (by omega), h.tab]
theorem heard_since {me n inc : Int} {t : List Ent} (h2 : 2 ≤ n) (h16 : n ≤ 16) (hs : 0 ≤ me) (hs' : me < n) (hv : validT t = true) (ht : (t.length : Int) = n) :
    (heardM me n inc t).probes = [] ∧ ∀ s ∈ (heardM me n inc t).since, s = 0 := by
  rw [(heard_eq h2 h16 hs hs' hv ht).2]
  refine ⟨by simp [recvM, newM, forMe], fun s hsm => ?_⟩
  obtain ⟨j, hj, rfl⟩ := List.getElem_of_mem hsm
  have hl : (recvSince me 0 (newM me n inc).tab (newM me n inc).since t).length = n.toNat := by rw [recvSince_len]; simp [newM]
  have hj' : j < n.toNat := by
    have h' : j < (recvSince me 0 (newM me n inc).tab (newM me n inc).since t).length := hj
    rwa [hl] at h'
  have hsn : (newM me n inc).since[j]? = some 0 := by simp [newM, List.getElem?_replicate, hj']
  have : (recvSince me 0 (newM me n inc).tab (newM me n inc).since t)[j]? = some 0 := by
    rw [recvSince_get (newM_get hs hj') (List.getElem?_eq_getElem (show j < t.length by omega)) hsn, ite_self]
  have h2 := List.getElem?_eq_getElem hj
  exact Option.some.inj (h2.symm.trans this)
/-! ### Messages as rows -/
theorem stamped_row {h : Hp} {ms : List Msg} {self : Int} {t : List Ent} {d : List (List Value)} (hs : stamped h ms self t ms.length d) {i : Nat} {g : Msg} (hg : ms[i]? = some g) : ∃ v, d[i]? = some (msgRow { g with src := self } v) ∧ RdT h v t := by
  obtain ⟨vs, hl, rfl, hv⟩ := hs
  have hi := (List.getElem?_eq_some_iff.1 hg).1
  refine ⟨vs[i]'(by omega), ?_, hv _ (List.getElem_mem _)⟩
  simp only [List.take_length, List.drop_length, List.map_nil, List.append_nil, rowsOf, List.getElem?_zipWith, List.getElem?_map, hg, Option.map_some, List.getElem?_eq_getElem (show i < vs.length by omega)]
theorem cell_msg {d : List (List Value)} {i : Int} {g : Msg} {v : Value} (h : d[i.toNat]? = some (msgRow g v)) : cellI d i 0 = g.kind ∧ cellI d i 1 = g.src ∧ cellI d i 2 = g.dst ∧ cellI d i 3 = g.seq ∧ cellI d i 4 = g.origin ∧ cellI d i 5 = g.target := by
  simp [cellI, cellV, List.getD_eq_getElem?_getD, h, msgRow, vInt]
end Go.Proofs

/- Helpers: what the fifth tick's messages are. -/
set_option linter.unusedSimpArgs false
set_option linter.unusedVariables false
namespace Go.Proofs
open Go Go.Eng

theorem live_nodup (l : List Ent) : (liveT l).Nodup := by
  unfold liveT liveN
  rw [List.Nodup, List.pairwise_map]
  exact (List.Pairwise.filter _ List.nodup_range).imp fun {a b} h e => h (Int.ofNat.inj e)
theorem cand_nodup (l : List Ent) (a b : Int) : (candL l a b).Nodup := List.Pairwise.filter _ (live_nodup l)
theorem ask_get (c : List Int) (seq target draw : Int) {n j : Nat} (h : j < n) : (askN c seq target draw n)[j]? = some (askMsg c seq target draw j) := by simp [askN, List.getElem?_map, List.getElem?_range h]
theorem ask_len (c : List Int) (seq target draw : Int) (n : Nat) : (askN c seq target draw n).length = n := by simp [askN]
/-- The j-th helper's place in the list. -/
theorem ask_at {c : List Int} {draw : Int} (h0 : 0 ≤ draw) (hc : 1 ≤ c.length) (j : Nat) : ∃ k : Nat, k < c.length ∧ (k : Int) = Int.tmod (Int.tmod draw c.length + j) c.length ∧ c.getD (Int.tmod (Int.tmod draw c.length + j) c.length).toNat 0 ∈ c := by
  have a0 : 0 ≤ Int.tmod draw c.length := Int.tmod_nonneg _ h0
  have b0 : 0 ≤ Int.tmod (Int.tmod draw c.length + j) c.length := Int.tmod_nonneg _ (by omega)
  have b1 : Int.tmod (Int.tmod draw c.length + j) c.length < c.length := Int.tmod_lt_of_pos _ (by omega)
  refine ⟨(Int.tmod (Int.tmod draw c.length + j) c.length).toNat, by omega, by omega, ?_⟩
  rw [List.getD_eq_getElem?_getD, List.getElem?_eq_getElem (by omega)]
  exact List.getElem_mem _
theorem ask_two {c : List Int} {draw : Int} (h0 : 0 ≤ draw) (hc : 2 ≤ c.length) (hn : c.Nodup) : c.getD (Int.tmod (Int.tmod draw c.length + (0 : Nat)) c.length).toNat 0 ≠ c.getD (Int.tmod (Int.tmod draw c.length + (1 : Nat)) c.length).toNat 0 := by
  obtain ⟨k0, l0, e0, _⟩ := ask_at h0 (show 1 ≤ c.length by omega) 0
  obtain ⟨k1, l1, e1, _⟩ := ask_at h0 (show 1 ≤ c.length by omega) 1
  rw [← e0, ← e1]
  have a0 : 0 ≤ Int.tmod draw c.length := Int.tmod_nonneg _ h0
  have a1 : Int.tmod draw c.length < c.length := Int.tmod_lt_of_pos _ (by omega)
  have hne : k0 ≠ k1 := by
    rw [Int.tmod_eq_of_lt (by omega) (by omega)] at e0
    by_cases hl : Int.tmod draw c.length + (1 : Nat) < c.length
    · rw [Int.tmod_eq_of_lt (by omega) hl] at e1; omega
    · rw [show Int.tmod draw c.length + (1 : Nat) = c.length by omega, Int.tmod_self] at e1; omega
  simp only [Int.toNat_natCast, List.getD_eq_getElem?_getD, List.getElem?_eq_getElem l0, List.getElem?_eq_getElem l1, Option.getD_some]
  intro h
  have hp := List.pairwise_iff_getElem.1 hn
  by_cases hlt : k0 < k1
  · exact hp k0 k1 l0 l1 hlt h
  · exact hp k1 k0 l1 l0 (by omega) h.symm
theorem cell_prb {d : List (List Value)} {i : Nat} {p : Prb} (hi : i < d.length) (h : (prbsOf d)[i]? = some p) : cellI d i 0 = p.seq ∧ cellI d i 1 = p.target ∧ cellI d i 2 = p.sent ∧ cellB d i 3 = p.asked := by
  have := cellI_prbs (d := d) (i := (i : Int)) (by omega) (by omega)
  rw [Int.toNat_natCast, h] at this
  have := Option.some.inj this
  rw [this]; exact ⟨rfl, rfl, rfl, rfl⟩
/-- How many messages there are. -/
def hlpN (me n : Int) (t : List Ent) : Int := ((min 2 (candL (heardM me n 1 t).tab me (nextP n me me)).length : Nat) : Int) + 1
theorem HM.facts {me n draw i : Int} {t : List Ent} {m : Mach} {dT dS dP : Rows'} {np : Int} {dL : Rows'} {nl nm : Int} {dM : Rows'} {h : Hp} {nPr : Int} {dPr : Rows'}
    (x : HM me n draw i t m dT dS dP np dL nl nm dM h nPr dPr) (h2 : 2 ≤ n) (h16 : n ≤ 16) (hs : 0 ≤ me) (hs' : me < n) (hv : validT t = true) (ht : (t.length : Int) = n) (hd : 0 ≤ draw) :
    nm = hlpN me n t ∧ nPr = 5 ∧ dPr.length = 5 ∧ cellI dPr 0 0 = 1 ∧ cellI dPr 0 1 = nextP n me me ∧ cellB dPr 0 3 = true ∧ cellB dPr 1 3 = false ∧ nm = dM.length ∧ 1 ≤ nm ∧ nm ≤ 3 ∧ cellI dM (nm - 1) 0 = 1 ∧
    nm - 1 = (if 2 < cntL me n dL nl then 2 else cntL me n dL nl) ∧ cntL me n dL nl ≤ 16 ∧ (nm = 3 → cellI dM 0 2 ≠ cellI dM 1 2) ∧
    ∀ j : Int, 0 ≤ j → j < nm - 1 → cellI dM j 0 = 3 ∧ cellI dM j 2 ≠ me ∧ cellI dM j 2 ≠ nextP n me me ∧ cellI dM j 5 = nextP n me me ∧ cellI dM j 3 = 1 ∧ anyL dL dM j nl = true := by
  obtain ⟨_, _, hm, ⟨hL, hnl, hnl2⟩, hnm, hst, hpr, hnp⟩ := x
  obtain ⟨r0, _, _⟩ := heard_runs (inc := 1) h2 h16 hs hs' hv ht
  obtain ⟨p0, s0⟩ := heard_since (inc := 1) h2 h16 hs hs' hv ht
  have c4 := calm_all (draw := draw) r0 p0 s0 4 (by omega)
  obtain ⟨m1, m2, m3⟩ := fifth (draw := draw) c4 s0
  have hm' : m = tickM (tickN draw 4 (heardM me n 1 t)) draw := hm
  rw [← hm'] at m2 m3
  rw [m2] at hpr
  have hpl : dPr.length = 5 := by have := congrArg List.length hpr; rw [prbs_len] at this; exact this
  obtain ⟨q0, q1, _, q3⟩ := cell_prb (d := dPr) (i := 0) (by omega) (by rw [hpr]; rfl)
  obtain ⟨_, _, _, q4⟩ := cell_prb (d := dPr) (i := 1) (by omega) (by rw [hpr]; rfl)
  have hP1 : pingAt n me 1 = nextP n me me := rfl
  rw [m1, hP1] at hst
  have hcl := candL_len (heardM me n 1 t).tab me (nextP n me me)
  have hall : (intsOf dL).take nl.toNat = liveT (heardM me n 1 t).tab := by
    rw [List.take_of_length_le (by rw [ints_len]; omega), hL]
  have hcnt : cntL me n dL nl = (candL (heardM me n 1 t).tab me (nextP n me me)).length := by
    rw [cntL, hall]; rfl
  generalize hc : candL (heardM me n 1 t).tab me (nextP n me me) = c at *
  have hask : askL (heardM me n 1 t).tab me 1 (nextP n me me) draw = askN c 1 (nextP n me me) draw (min 2 c.length) := by rw [askL, hc]
  rw [hask] at hst
  have hlen : (askN c 1 (nextP n me me) draw (min 2 c.length) ++ [(⟨1, 0, pingAt n me 5, 5, me, 0⟩ : Msg)]).length = min 2 c.length + 1 := by rw [List.length_append, ask_len]; rfl
  have hdl := stamped_len hst
  rw [hlen] at hdl
  have hnm' : nm = (min 2 c.length : Nat) + 1 := by omega
  have htl := r0.tl
  obtain ⟨v, hlast, _⟩ := stamped_row hst (i := min 2 c.length) (g := ⟨1, 0, pingAt n me 5, 5, me, 0⟩) (by rw [List.getElem?_append_right (by rw [ask_len]; omega), ask_len]; simp)
  have hone : ∀ j : Nat, j < min 2 c.length → cellI dM j 0 = 3 ∧ cellI dM j 2 = c.getD (Int.tmod (Int.tmod draw c.length + j) c.length).toNat 0 ∧ cellI dM j 5 = nextP n me me ∧ cellI dM j 3 = 1 := fun j hj => by
    obtain ⟨v, hv', _⟩ := stamped_row hst (i := j) (g := askMsg c 1 (nextP n me me) draw j) (by rw [List.getElem?_append_left (by rw [ask_len]; omega), ask_get _ _ _ _ hj])
    obtain ⟨g0, _, g2, g3, _, g5⟩ := cell_msg (d := dM) (i := (j : Int)) (by rw [Int.toNat_natCast]; exact hv')
    exact ⟨g0, g2, g5, g3⟩
  obtain ⟨l0, _⟩ := cell_msg (d := dM) (i := nm - 1) (by rw [show (nm - 1).toNat = min 2 c.length by omega]; exact hlast)
  refine ⟨by rw [hlpN, hc]; exact hnm', by omega, hpl, q0, q1, q3, q4, hnm, by omega, by omega, l0, by rw [hcnt]; split <;> omega, by omega, fun h3 => ?_, fun j hj0 hj1 => ?_⟩
  · have := ask_two hd (show 2 ≤ c.length by omega) (hc ▸ cand_nodup _ _ _)
    obtain ⟨_, z0, _⟩ := hone 0 (by omega)
    obtain ⟨_, z1, _⟩ := hone 1 (by omega)
    have z0 : cellI dM 0 2 = _ := z0
    have z1 : cellI dM 1 2 = _ := z1
    rw [z0, z1]; exact this
  · obtain ⟨z0, z2, z5, z3⟩ := hone j.toNat (by omega)
    rw [Int.toNat_of_nonneg hj0] at z0 z2 z5 z3
    obtain ⟨_, _, _, hmem⟩ := ask_at hd (show 1 ≤ c.length by omega) j.toNat
    rw [Int.toNat_of_nonneg hj0, ← z2, ← hc] at hmem
    obtain ⟨hl, hne⟩ := List.mem_filter.1 hmem
    simp only [Bool.not_eq_true', Bool.or_eq_false_iff, beq_eq_false_iff_ne, ne_eq] at hne
    refine ⟨z0, hne.1, hne.2, z5, z3, ?_⟩
    rw [anyL, hall, List.any_eq_true]
    exact ⟨_, hl, by simp⟩
theorem HM.next {me n draw i : Int} {t : List Ent} {m : Mach} {dT dS dP : Rows'} {np : Int} {dL : Rows'} {nl nm : Int} {dM : Rows'} {h : Hp} {nPr : Int} {dPr : Rows'}
    (x : HM me n draw i t m dT dS dP np dL nl nm dM h nPr dPr) : HI me n draw (i + 1) t m dT dS dP np dL nl := by
  obtain ⟨hi, ⟨o1, o2, o3, o4, o5⟩, hm, hL, _⟩ := x
  subst hi
  exact ⟨by omega, by omega, ⟨o1, o2, o3, o4, by omega⟩, hm, hL⟩
theorem cntL_zero {me n : Int} {dL : Rows'} : cntL me n dL 0 = 0 := by simp [cntL]
theorem cntL_le {me n k : Int} {dL : Rows'} (h : 0 ≤ k) : 0 ≤ cntL me n dL k ∧ cntL me n dL k ≤ k := by
  have h1 := List.length_filter_le (otherI me n) ((intsOf dL).take k.toNat)
  have h2 : ((intsOf dL).take k.toNat).length ≤ k.toNat := by rw [List.length_take]; omega
  unfold cntL; omega
theorem cntL_succ {me n k : Int} {dL : Rows'} (h : 0 ≤ k) (hk : k < dL.length) : cntL me n dL (k + 1) = cntL me n dL k + if cellI dL k 0 ≠ me ∧ cellI dL k 0 ≠ nextP n me me then 1 else 0 := by
  rw [cntL, toNat_succ h, take_snoc (cellI_ints h hk), List.filter_append, List.length_append, cntL]
  by_cases hc : cellI dL k 0 ≠ me ∧ cellI dL k 0 ≠ nextP n me me
  · rw [if_pos hc, List.filter_cons, if_pos (by simp [otherI, hc.1, hc.2])]; simp
  · rw [if_neg hc, List.filter_cons, if_neg (by simp only [otherI, Bool.not_eq_true', Bool.or_eq_false_iff, beq_eq_false_iff_ne, ne_eq]; exact hc)]; simp
theorem anyL_zero {dL dM : Rows'} {j : Int} : anyL dL dM j 0 = false := by simp [anyL]
theorem anyL_succ {dL dM : Rows'} {j k : Int} (h : 0 ≤ k) (hk : k < dL.length) : anyL dL dM j (k + 1) = (anyL dL dM j k || cellI dL k 0 == cellI dM j 2) := by
  rw [anyL, toNat_succ h, take_snoc (cellI_ints h hk), List.any_append, anyL]; simp
end Go.Proofs
