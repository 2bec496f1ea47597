/- Contracts of Receive. -/
import Derived.Test.YtlmkkphojjodhaaMB
set_option linter.unusedSimpArgs false
set_option linter.unusedVariables false
namespace Go.Eng
open Go

/-! ### Receive, plainly -/
def peerP (n i : Int) : Bool := decide (0 ≤ i) && decide (i < n)
def acceptsP (self n : Int) (g : Msg) (t : List Ent) : Bool :=
  peerP n g.src && !(g.src == self) && (g.dst == self) && validT t && decide ((t.length : Int) = n) &&
    (if g.kind = 1 ∨ g.kind = 2 then peerP n g.origin else if g.kind = 3 then peerP n g.target else false)
def entAt (t : List Ent) (i : Nat) : Ent := t.getD i (0, 0)
def recvTab (self : Int) (tab t : List Ent) : List Ent := tab.mapIdx fun i x => if (i : Int) = self then x else joinE x (entAt t i)
def recvSince (self clock : Int) (tab : List Ent) (since : List Int) (t : List Ent) : List Int := since.mapIdx fun i s => if (i : Int) ≠ self ∧ joinE (entAt tab i) (entAt t i) ≠ entAt tab i ∧ (joinE (entAt tab i) (entAt t i)).2 = 2 then clock else s
def recvChal (self : Int) (tab t : List Ent) (chal : Int) : Int := if newerE (entAt t self.toNat) (entAt tab self.toNat) = true then max chal (entAt t self.toNat).1 else chal
def forMe (self : Int) (g : Msg) : Bool := decide (g.kind = 2 ∧ g.origin = self)
def recvM (m : Mach) (g : Msg) (t : List Ent) : Mach :=
  { m with tab := recvTab m.self m.tab t, since := recvSince m.self m.clock m.tab m.since t, chal := recvChal m.self m.tab t m.chal, probes := if forMe m.self g then m.probes.filter (fun p => !(p.seq == g.seq)) else m.probes }
def recvMsg (self : Int) (g : Msg) : Msg :=
  if g.kind = 3 then (if g.target = self then ⟨2, 0, g.src, g.seq, g.src, 0⟩ else ⟨1, 0, g.target, g.seq, g.src, 0⟩)
  else if g.kind = 2 then ⟨2, 0, g.origin, g.seq, g.origin, 0⟩ else ⟨2, 0, g.src, g.seq, g.origin, 0⟩

/-- The error, the machine behind it, the answers. -/
def recvE (m : Mach) (g : Msg) (t : List Ent) : Int := if m.left then 30 else if acceptsP m.self m.tab.length g t then 0 else 2
def recvS (m : Mach) (g : Msg) (t : List Ent) : Mach := if recvE m g t = 0 then recvM m g t else m
def recvAns (m : Mach) (g : Msg) (t : List Ent) : List Msg := if recvE m g t = 0 ∧ forMe m.self g = false then [recvMsg m.self g] else []

/-! ### Contracts -/
def msgCellsV (b : Nat) (tab : T) (rest : Nat) : List T := [.vint .u8 (.var b), .vint .i64 (.var (b + 1)), .vint .i64 (.var (b + 2)), .vint .u64 (.var (b + 3)), .vint .i64 (.var (b + 4)), .vint .i64 (.var (b + 5)), tab] ++ cellsFrom rest 109
def msgV (ρ : Env) (b : Nat) : Msg := ⟨(ρ b).i, (ρ (b + 1)).i, (ρ (b + 2)).i, (ρ (b + 3)).i, (ρ (b + 4)).i, (ρ (b + 5)).i⟩
def peer87C : Ctr := { fn := 87, nv := 19, args := [ptr 0, iv .i64 (.var 18)], heap := [], ro := [mCells (.var 12)], pre := fun ρ => 0 ≤ (ρ 3).i, alts := [{ k := 1, ret := bret 19, heap := [], post := fun ρ => (ρ 19).b = peerP (ρ 3).i (ρ 18).i }] }
def mTabSl : T := .vslice 24 (.lit 0) (.var 25) (.var 26) 2
def accepts81C : Ctr := { fn := 81, nv := 138, args := [ptr 0, .agg (msgCellsV 18 mTabSl 29)], heap := [], ro := [mCells (.var 12), .arr 24 25 kMem (.var 27) (.var 28)], pre := fun ρ => 0 ≤ (ρ 3).i ∧ (ρ 25).i = (ρ 27).d.length ∧ (ρ 25).i ≤ big, alts := [{ k := 1, ret := bret 138, heap := [], post := fun ρ => (ρ 138).b = acceptsP (ρ 1).i (ρ 3).i (msgV ρ 18) (tabOf (ρ 27).d) }] }
def seqIs (s : Int) (p : Prb) : Bool := p.seq == s
def pArg (r l c : Nat) : SV := .one (.vslice r (.lit 0) (.var l) (.var c) 4)
def pRo (r d k : Nat) : SH := .arr r 63 kProbe (.var d) (.var k)
def fn83 : SV := .fn (.func 83) [] [.vptr 4 (.lit 0) 0 0]
def boxG : SH := .cells 4 43 (msgCellsV 5 (.var 11) 12)
def clo83C : Ctr := { fn := 83, nv := 121, args := [.agg (prbCells 0), ptr 4], heap := [], ro := [boxG], pre := fun _ => True, alts := [{ k := 1, ret := bret 121, heap := [], post := fun ρ => (ρ 121).b = seqIs (ρ 8).i ⟨(ρ 0).i, (ρ 1).i, (ρ 2).i, (ρ 3).b⟩ }] }
def index88C : Ctr := { fn := 88, nv := 126, args := [pArg 121 122 123, fn83], heap := [], ro := [boxG, pRo 121 124 125], pre := fun ρ => (ρ 122).i ≤ (ρ 124).d.length ∧ 0 ≤ (ρ 122).i ∧ (ρ 122).i ≤ big, alts := [{ k := 1, ret := iv .i64 (.var 126), heap := [], post := fun ρ => ixOk (seqIs (ρ 8).i) ((prbsOf (ρ 124).d).take (ρ 122).i.toNat) (ρ 126).i }] }
def index88I : Inv := { key := 2, nv := 1, env := [(0, pArg 121 122 123), (1, fn83), (7, iv .i64 (.var 122)), (8, iv .i64 (.var 1000))], heap := [], inv := (fun ρ => 0 ≤ (ρ 1000).i ∧ (ρ 1000).i ≤ (ρ 122).i ∧ noneN (seqIs (ρ 8).i) ((prbsOf (ρ 124).d).take (ρ 122).i.toNat) (ρ 1000).i.toNat = true), mu := (fun ρ => ((ρ 122).i - (ρ 1000).i).toNat) }
def delete82C : Ctr := { fn := 82, nv := 126, args := [pArg 121 122 123, fn83], heap := [pRo 121 124 125], ro := [boxG], pre := fun ρ => (ρ 122).i ≤ (ρ 124).d.length ∧ 0 ≤ (ρ 122).i ∧ (ρ 122).i ≤ big ∧ (ρ 123).i = (ρ 125).i, alts := [{ k := 2, ret := .one (.vslice 121 (.lit 0) (.var 126) (.var 123) 4), heap := [.arr 121 63 kProbe (.var 127) (.var 125)], post := fun ρ => 0 ≤ (ρ 126).i ∧ (ρ 126).i ≤ (ρ 127).d.length ∧ (ρ 126).i ≤ (ρ 122).i ∧ (prbsOf (ρ 127).d).take (ρ 126).i.toNat = ((prbsOf (ρ 124).d).take (ρ 122).i.toNat).filter (fun x => !seqIs (ρ 8).i x) }] }
def delete82I : Inv := { key := 5, nv := 3, env := [(0, pArg 121 122 123), (1, fn83), (5, iv .i64 (.var 1000)), (6, iv .i64 (.var 1001))], heap := [.arr 121 63 kProbe (.var 1002) (.var 125)], inv := (fun ρ => delOk (seqIs (ρ 8).i) ((prbsOf (ρ 124).d).take (ρ 122).i.toNat) ((prbsOf (ρ 1002).d).take (ρ 122).i.toNat) (ρ 1000).i (ρ 1001).i ∧ (ρ 1002).d.length = (ρ 124).d.length), mu := (fun ρ => ((ρ 122).i - (ρ 1001).i).toNat) }
def mRecv (np chal : T) : SH := mCells' (.var 9) (.var 10) (.var 11) .dnil np (.var 14) chal (.var 17) 12
def recv58C : Ctr := { fn := 58, nv := 138, args := [ptr 0, .agg (msgCellsV 18 mTabSl 29)], heap := mAll, ro := [.arr 24 25 kMem (.var 27) (.var 28)], pre := fun ρ => mPre ρ ∧ (ρ 25).i = (ρ 27).d.length ∧ (ρ 25).i ≤ big, alts := [{ k := 6, ret := .tup [(false, [.vnils]), (false, [.vint .i64 (.var 138)])], heap := [mRecv (.var 140) (.var 139), .arr 2 25 kMem (.var 141) (.var 4), .arr 6 22 [.int .u64] (.var 142) (.var 7), .arr 12 63 kProbe (.var 143) (.var 14)], post := fun ρ => (ρ 138).i = recvE (m0 ρ) (msgV ρ 18) (tabOf (ρ 27).d) ∧ recvAns (m0 ρ) (msgV ρ 18) (tabOf (ρ 27).d) = [] ∧ machV (ρ 1).i (ρ 141).d (ρ 142).d (ρ 9).i (ρ 10).i (ρ 11).i (ρ 140).i (ρ 143).d (ρ 139).i (ρ 17).b = recvS (m0 ρ) (msgV ρ 18) (tabOf (ρ 27).d) ∧ 0 ≤ (ρ 140).i ∧ (ρ 140).i ≤ (ρ 143).d.length ∧ (ρ 140).i ≤ (ρ 13).i },
    { k := 7, ret := .tup [(false, [.vslice 138 (.lit 0) (.lit 1) (.var 139) 116]), (false, [.vint .i64 (.lit 0)])], heap := [mRecv (.var 13) (.var 144), .arr 2 25 kMem (.var 142) (.var 4), .arr 6 22 [.int .u64] (.var 143) (.var 7), mProbes, .arr 138 43 kMsg (.var 140) (.var 139), .abs 141 2], post := fun ρ => recvE (m0 ρ) (msgV ρ 18) (tabOf (ρ 27).d) = 0 ∧ recvAns (m0 ρ) (msgV ρ 18) (tabOf (ρ 27).d) = [recvMsg (ρ 1).i (msgV ρ 18)] ∧ machV (ρ 1).i (ρ 142).d (ρ 143).d (ρ 9).i (ρ 10).i (ρ 11).i (ρ 13).i (ρ 15).d (ρ 144).i (ρ 17).b = recvS (m0 ρ) (msgV ρ 18) (tabOf (ρ 27).d) ∧ stamped (ρ 141).h [recvMsg (ρ 1).i (msgV ρ 18)] (ρ 1).i (recvS (m0 ρ) (msgV ρ 18) (tabOf (ρ 27).d)).tab 1 (ρ 140).d }] }
/-- 1000 the message's box, 1001 the round, 1003 the table's rows, 1004 the times', 1005 the challenge. -/
def recv58I : Inv := { key := 7, nv := 6, env := [(0, ptr 0), (3, ptr 1000), (20, .one mTabSl), (21, iv .i64 (.var 25)), (22, iv .i64 (.var 1001))], heap := [mRecv (.var 13) (.var 1005), .arr 2 25 kMem (.var 1003) (.var 4), .arr 6 22 [.int .u64] (.var 1004) (.var 7), mProbes, .cells 1000 43 (msgCellsV 18 mTabSl 29)], inv := (fun ρ => 0 ≤ (ρ 1001).i ∧ (ρ 1001).i ≤ (ρ 3).i ∧ (ρ 1003).d.length = (ρ 5).d.length ∧ (ρ 1004).d.length = (ρ 8).d.length ∧ (∀ j : Nat, (tabOf (ρ 1003).d)[j]? = if (j : Int) < (ρ 1001).i then (recvTab (ρ 1).i (tabOf (ρ 5).d) (tabOf (ρ 27).d))[j]? else (tabOf (ρ 5).d)[j]?) ∧ (∀ j : Nat, (intsOf (ρ 1004).d)[j]? = if (j : Int) < (ρ 1001).i then (recvSince (ρ 1).i (ρ 9).i (tabOf (ρ 5).d) (intsOf (ρ 8).d) (tabOf (ρ 27).d))[j]? else (intsOf (ρ 8).d)[j]?) ∧ (ρ 1005).i = if (ρ 1).i < (ρ 1001).i then recvChal (ρ 1).i (tabOf (ρ 5).d) (tabOf (ρ 27).d) (ρ 16).i else (ρ 16).i), mu := (fun ρ => ((ρ 25).i - (ρ 1001).i).toNat) }
/-! ### The law's receive -/
/-- Receive, of a copy of the message's table, which is zeroed afterwards. -/
def receive23C : Ctr := { recv58C with fn := 23 }
/-- 1000 the copy's region, 1001 the round, 1002 the box, 1003 its rows, 1004 its capacity; 1005 .. what came back. -/
def recvBox : List T := [.vint .u8 (.var 18), .vint .i64 (.var 19), .vint .i64 (.var 20), .vint .u64 (.var 21), .vint .i64 (.var 22), .vint .i64 (.var 23), .vslice 1000 (.lit 0) (.var 25) (.var 1004) 2] ++ cellsFrom 29 109
def receive23I : Inv := { key := 4, nv := 11, env := [(3, ptr 1002), (6, .one .vnils), (7, iv .i64 (.var 1005)), (8, iv .i64 (.var 1001))], heap := [.cells 1002 43 recvBox, .arr 1000 25 kMem (.var 1003) (.var 1004), mRecv (.var 1007) (.var 1006), .arr 2 25 kMem (.var 1008) (.var 4), .arr 6 22 [.int .u64] (.var 1009) (.var 7), .arr 12 63 kProbe (.var 1010) (.var 14)], inv := (fun ρ => 0 ≤ (ρ 1001).i ∧ (ρ 1001).i ≤ (ρ 25).i ∧ (ρ 1003).d.length = (ρ 25).i ∧ (ρ 1005).i = recvE (m0 ρ) (msgV ρ 18) (tabOf (ρ 27).d) ∧ recvAns (m0 ρ) (msgV ρ 18) (tabOf (ρ 27).d) = [] ∧ machV (ρ 1).i (ρ 1008).d (ρ 1009).d (ρ 9).i (ρ 10).i (ρ 11).i (ρ 1007).i (ρ 1010).d (ρ 1006).i (ρ 17).b = recvS (m0 ρ) (msgV ρ 18) (tabOf (ρ 27).d) ∧ 0 ≤ (ρ 1007).i ∧ (ρ 1007).i ≤ (ρ 1010).d.length ∧ (ρ 1007).i ≤ (ρ 13).i), mu := (fun ρ => ((ρ 25).i - (ρ 1001).i).toNat) }
def receive23J : Inv := { key := 4, nv := 12, env := [(3, ptr 1002), (6, .one (.vslice 1005 (.lit 0) (.lit 1) (.var 1006) 116)), (7, .one (il .i64 0)), (8, iv .i64 (.var 1001))], heap := [.cells 1002 43 recvBox, .arr 1000 25 kMem (.var 1003) (.var 1004), mRecv (.var 13) (.var 1007), .arr 2 25 kMem (.var 1008) (.var 4), .arr 6 22 [.int .u64] (.var 1009) (.var 7), mProbes, .arr 1005 43 kMsg (.var 1010) (.var 1006), .abs 1011 2], inv := (fun ρ => 0 ≤ (ρ 1001).i ∧ (ρ 1001).i ≤ (ρ 25).i ∧ (ρ 1003).d.length = (ρ 25).i ∧ recvE (m0 ρ) (msgV ρ 18) (tabOf (ρ 27).d) = 0 ∧ recvAns (m0 ρ) (msgV ρ 18) (tabOf (ρ 27).d) = [recvMsg (ρ 1).i (msgV ρ 18)] ∧ machV (ρ 1).i (ρ 1008).d (ρ 1009).d (ρ 9).i (ρ 10).i (ρ 11).i (ρ 13).i (ρ 15).d (ρ 1007).i (ρ 17).b = recvS (m0 ρ) (msgV ρ 18) (tabOf (ρ 27).d) ∧ stamped (ρ 1011).h [recvMsg (ρ 1).i (msgV ρ 18)] (ρ 1).i (recvS (m0 ρ) (msgV ρ 18) (tabOf (ρ 27).d)).tab 1 (ρ 1010).d), mu := (fun ρ => ((ρ 25).i - (ρ 1001).i).toNat) }
end Go.Eng
