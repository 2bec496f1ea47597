/- Contracts of Tick and Receive. -/
import Derived.Test.YtlmkkphojjodhaaMA
set_option linter.unusedSimpArgs false
set_option linter.unusedVariables false
namespace Go.Eng
open Go

/-! ### Tick, plainly -/
/-- What the walk through the probes has come to. -/
structure TS where
  tab : List Ent
  since : List Int
  kept : List Prb
  msgs : List Msg
def statAt (t : List Ent) (i : Int) : Ent := t.getD i.toNat (0, 0)
def ageOf (clock sent : Int) : Int := IntKind.u64.wrap (clock - sent)
def tickP (self clock draw : Int) (st : TS) (p : Prb) : TS :=
  if 10 ≤ ageOf clock p.sent then
    if (statAt st.tab p.target).2 = 1 then { st with tab := setTab st.tab p.target ((statAt st.tab p.target).1, 2), since := setSince st.tab st.since clock p.target ((statAt st.tab p.target).1, 2) } else st
  else if 4 ≤ ageOf clock p.sent ∧ p.asked = false then { st with kept := st.kept ++ [{ p with asked := true }], msgs := st.msgs ++ askL st.tab self p.seq p.target draw }
  else { st with kept := st.kept ++ [p] }
def tickPs (self clock draw : Int) (tab : List Ent) (since : List Int) (ps : List Prb) : TS := ps.foldl (tickP self clock draw) ⟨tab, since, [], []⟩
/-- An entry that was suspected long enough. -/
def deadE (self clock wait : Int) (since : List Int) (i : Nat) (x : Ent) : Ent := if (i : Int) ≠ self ∧ x.2 = 2 ∧ wait ≤ ageOf clock (since.getD i 0) then (x.1, 3) else x
def deadT (self clock wait : Int) (since : List Int) (t : List Ent) : List Ent := t.mapIdx (deadE self clock wait since)
structure Mach where
  self : Int
  tab : List Ent
  since : List Int
  clock : Int
  seq : Int
  pinged : Int
  probes : List Prb
  chal : Int
  left : Bool
/-- A machine as it lies in memory. -/
def machV (self : Int) (dT dS : List (List Value)) (clock seq pinged np : Int) (dP : List (List Value)) (chal : Int) (left : Bool) : Mach :=
  ⟨self, tabOf dT, intsOf dS, clock, seq, pinged, (prbsOf dP).take np.toNat, chal, left⟩
def clock1 (m : Mach) : Int := IntKind.u64.wrap (m.clock + 1)
def tickTS (m : Mach) (draw : Int) : TS := tickPs m.self (clock1 m) draw m.tab m.since m.probes
def waitOf (n : Nat) : Int := 10 + 3 * min (max (n : Int) 0) 16
def tickM (m : Mach) (draw : Int) : Mach :=
  let st := tickTS m draw
  let p := nextP m.tab.length m.self m.pinged
  let q := IntKind.u64.wrap (m.seq + 1)
  { m with tab := deadT m.self (clock1 m) (waitOf m.tab.length) st.since st.tab, since := st.since, clock := clock1 m, seq := q, pinged := p, probes := st.kept ++ [⟨q, p, clock1 m, false⟩] }
def tickMsgs (m : Mach) (draw : Int) : List Msg := (tickTS m draw).msgs ++ [⟨1, 0, nextP m.tab.length m.self m.pinged, IntKind.u64.wrap (m.seq + 1), m.self, 0⟩]
/-- A machine whose sizes are right. -/
def machWf (m : Mach) : Prop := 2 ≤ m.tab.length ∧ m.tab.length ≤ 16 ∧ m.since.length = m.tab.length ∧ 0 ≤ m.self ∧ m.self < m.tab.length ∧ 0 ≤ m.pinged ∧ m.pinged < m.tab.length ∧ ∀ p ∈ m.probes, 0 ≤ p.target ∧ p.target < m.tab.length

/-! ### Contracts -/
def prbSl : T := .vslice 12 (.lit 0) (.var 13) (.var 14) 4
def mProbes : SH := .arr 12 63 kProbe (.var 15) (.var 14)
def m0 (ρ : Env) : Mach := machV (ρ 1).i (ρ 5).d (ρ 8).d (ρ 9).i (ρ 10).i (ρ 11).i (ρ 13).i (ρ 15).d (ρ 16).i (ρ 17).b
/-- The whole machine, of variables 0 to 17. -/
def mAll : List SH := [mCells prbSl, mTab, mSince, mProbes]
def mPre (ρ : Env) : Prop := machWf (m0 ρ) ∧ (ρ 3).i = (ρ 5).d.length ∧ 0 ≤ (ρ 13).i ∧ (ρ 13).i ≤ (ρ 15).d.length ∧ (ρ 13).i ≤ 1000000
/-- The machine behind a call: the struct and the arrays where they were, but for the probes. -/
def mCells' (clock seq pinged rP np capP chal left : T) (rPn : Nat) : SH := .cells 0 117 [.vint .i64 (.var 1), .vslice 2 (.lit 0) (.var 3) (.var 4) 2, .vslice 6 (.lit 0) (.var 3) (.var 7) 1, .vint .u64 clock, .vint .u64 seq, .vint .i64 pinged, .vslice rPn (.lit 0) np capP 4, .vint .u64 chal, .vbool left]
def tick29C : Ctr := { fn := 29, nv := 19, args := [ptr 0, iv .u64 (.var 18)], heap := mAll, ro := [], pre := fun ρ => mPre ρ ∧ 0 ≤ (ρ 18).i ∧ (ρ 18).i < 18446744073709551616, ip := [(82, 0), (164, 1)], alts := [{ k := 0, ret := .one .vnils, heap := mAll, post := fun ρ => (ρ 17).b = true },
    { k := 14, ret := .one (.vslice 19 (.lit 0) (.var 20) (.var 21) 116), heap := [mCells' (.var 22) (.var 23) (.var 24) .dnil (.var 25) (.var 26) (.var 16) (.var 17) 27, .arr 2 25 kMem (.var 28) (.var 4), .arr 6 22 [.int .u64] (.var 29) (.var 7), .arr 27 63 kProbe (.var 30) (.var 26), .arr 19 43 kMsg (.var 31) (.var 21), .abs 32 2], post := fun ρ => (ρ 17).b = false ∧ machV (ρ 1).i (ρ 28).d (ρ 29).d (ρ 22).i (ρ 23).i (ρ 24).i (ρ 25).i (ρ 30).d (ρ 16).i (ρ 17).b = tickM (m0 ρ) (ρ 18).i ∧ (ρ 20).i = (ρ 31).d.length ∧ (ρ 28).d.length = (ρ 5).d.length ∧ 0 ≤ (ρ 25).i ∧ (ρ 25).i ≤ (ρ 30).d.length ∧ (ρ 25).i ≤ (ρ 13).i + 1 ∧ stamped (ρ 32).h (tickMsgs (m0 ρ) (ρ 18).i) (ρ 1).i (tickM (m0 ρ) (ρ 18).i).tab (tickMsgs (m0 ρ) (ρ 18).i).length (ρ 31).d }] }
/-- The loop over the probes: 1000 the round, 1001 how many are kept, 1002 their rows, 1003 the table's rows, 1004 the times', 1005 the messages' region, 1006 its length, 1007 its capacity, 1008 its rows, 1009 the clock. -/
def tick29I : Inv := { key := 7, nv := 10, env := [(0, ptr 0), (1, iv .u64 (.var 18)), (5, .one (.vslice 1005 (.lit 0) (.var 1006) (.var 1007) 116)), (6, .one (.vslice 12 (.lit 0) (.var 1001) (.var 14) 4)), (32, .one prbSl), (33, iv .i64 (.var 13)), (34, iv .i64 (.var 1000))], heap := [mCells' (.var 1009) (.var 10) (.var 11) .dnil (.var 13) (.var 14) (.var 16) (.var 17) 12, .arr 2 25 kMem (.var 1003) (.var 4), .arr 6 22 [.int .u64] (.var 1004) (.var 7), .arr 12 63 kProbe (.var 1002) (.var 14), .arr 1005 43 kMsg (.var 1008) (.var 1007)], inv := (fun ρ => 0 ≤ (ρ 1000).i ∧ (ρ 1000).i ≤ (ρ 13).i ∧ 0 ≤ (ρ 1001).i ∧ (ρ 1001).i ≤ (ρ 1000).i ∧ (ρ 1009).i = clock1 (m0 ρ) ∧ (ρ 1002).d.length = (ρ 15).d.length ∧ (ρ 1003).d.length = (ρ 5).d.length ∧ (ρ 1004).d.length = (ρ 8).d.length ∧ (ρ 1006).i = (ρ 1008).d.length ∧ (ρ 1006).i ≤ 2 * (ρ 1000).i ∧ (tickPs (ρ 1).i (ρ 1009).i (ρ 18).i (tabOf (ρ 5).d) (intsOf (ρ 8).d) ((prbsOf (ρ 15).d).take (ρ 1000).i.toNat) = ⟨tabOf (ρ 1003).d, intsOf (ρ 1004).d, (prbsOf (ρ 1002).d).take (ρ 1001).i.toNat, (tickPs (ρ 1).i (ρ 1009).i (ρ 18).i (tabOf (ρ 5).d) (intsOf (ρ 8).d) ((prbsOf (ρ 15).d).take (ρ 1000).i.toNat)).msgs⟩) ∧ plainRows (ρ 1008).d (tickPs (ρ 1).i (ρ 1009).i (ρ 18).i (tabOf (ρ 5).d) (intsOf (ρ 8).d) ((prbsOf (ρ 15).d).take (ρ 1000).i.toNat)).msgs ∧ (prbsOf (ρ 1002).d).drop (ρ 1000).i.toNat = (prbsOf (ρ 15).d).drop (ρ 1000).i.toNat), mu := (fun ρ => ((ρ 13).i - (ρ 1000).i).toNat) }
/-- The loop over the table: 1000 the round, 1001 the table's rows; 1002 .. 1008 what stays. -/
def tick29J : Inv := { key := 21, nv := 11, env := [(0, ptr 0), (5, .one (.vslice 1005 (.lit 0) (.var 1006) (.var 1007) 116)), (6, .one (.vslice 12 (.lit 0) (.var 1002) (.var 14) 4)), (11, iv .u64 (.var 1009)), (94, .one (.vslice 2 (.lit 0) (.var 3) (.var 4) 2)), (95, iv .i64 (.var 3)), (96, iv .i64 (.var 1000))], heap := [mCells' (.var 1010) (.var 10) (.var 11) .dnil (.var 13) (.var 14) (.var 16) (.var 17) 12, .arr 2 25 kMem (.var 1001) (.var 4), .arr 6 22 [.int .u64] (.var 1003) (.var 7), .arr 12 63 kProbe (.var 1004) (.var 14), .arr 1005 43 kMsg (.var 1008) (.var 1007)], inv := (fun ρ => 0 ≤ (ρ 1000).i ∧ (ρ 1000).i ≤ (ρ 3).i ∧ (ρ 1010).i = clock1 (m0 ρ) ∧ (ρ 1009).i = waitOf (tabOf (ρ 5).d).length ∧ (ρ 1001).d.length = (ρ 5).d.length ∧ (ρ 1003).d.length = (ρ 8).d.length ∧ (ρ 1006).i = (ρ 1008).d.length ∧ (ρ 1006).i ≤ 2 * (ρ 13).i ∧ 0 ≤ (ρ 1002).i ∧ (ρ 1002).i ≤ (ρ 13).i ∧ (ρ 1002).i ≤ (ρ 1004).d.length ∧ intsOf (ρ 1003).d = (tickTS (m0 ρ) (ρ 18).i).since ∧ (prbsOf (ρ 1004).d).take (ρ 1002).i.toNat = (tickTS (m0 ρ) (ρ 18).i).kept ∧ plainRows (ρ 1008).d (tickTS (m0 ρ) (ρ 18).i).msgs ∧ (tickTS (m0 ρ) (ρ 18).i).tab.length = (ρ 5).d.length ∧ (∀ j : Nat, (tabOf (ρ 1001).d)[j]? = if j < (ρ 1000).i.toNat then (deadT (ρ 1).i (clock1 (m0 ρ)) (waitOf (tabOf (ρ 5).d).length) (tickTS (m0 ρ) (ρ 18).i).since (tickTS (m0 ρ) (ρ 18).i).tab)[j]? else (tickTS (m0 ρ) (ρ 18).i).tab[j]?)), mu := (fun ρ => ((ρ 3).i - (ρ 1000).i).toNat) }
end Go.Eng
