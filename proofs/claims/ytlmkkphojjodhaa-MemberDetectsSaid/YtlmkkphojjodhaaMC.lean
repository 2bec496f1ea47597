import Derived.Test.YtlmkkphojjodhaaE12
set_option linter.unusedSimpArgs false
set_option linter.unusedVariables false
namespace Go.Eng
open Go
def mem (a b : Nat) : SV := .agg [.vint .u64 (.var a), .vint .u8 (.var b)]
def newerB (i1 s1 i2 s2 : Int) : Bool := decide (i1 > i2) || (i1 == i2 && decide (s1 > s2))
def newerC : Ctr := { fn := 17, nv := 4, args := [mem 0 1, mem 2 3], heap := [], ro := [], pre := fun _ => True, alts := [{ k := 1, ret := .one (.vbool (.var 4)), heap := [], post := fun ρ => (ρ 4).b = newerB (ρ 0).i (ρ 1).i (ρ 2).i (ρ 3).i }] }
def joinC : Ctr := { fn := 18, nv := 4, args := [mem 0 1, mem 2 3], heap := [], ro := [], pre := fun _ => True, alts := [{ k := 2, ret := mem 4 5, heap := [], post := fun ρ => if newerB (ρ 2).i (ρ 3).i (ρ 0).i (ρ 1).i then (ρ 4).i = (ρ 2).i ∧ (ρ 5).i = (ρ 3).i else (ρ 4).i = (ρ 0).i ∧ (ρ 5).i = (ρ 1).i }] }

def kMem : List CK := [.int .u64, .int .u8]
def kProbe : List CK := [.int .u64, .int .i64, .int .u64, .bool]
def machCells (self : T) (table since : T) (clock seq pinged : T) (probes : T) (chal left : T) : List T :=
  [.vint .i64 self, table, since, .vint .u64 clock, .vint .u64 seq, .vint .i64 pinged, probes, .vint .u64 chal, .vbool left]
def ptr (r : Nat) : SV := .one (.vptr r (.lit 0) 0 0)
def iv (k : IntKind) (t : T) : SV := .one (.vint k t)
def newBad (self peers inc : Int) : Bool := decide (peers < 2) || decide (peers > 16) || decide (self < 0) || decide (self ≥ peers) || inc == 0
/-- New -/
def newC : Ctr := { fn := 22, nv := 3, args := [iv .i64 (.var 0), iv .i64 (.var 1), iv .u64 (.var 2)], heap := [], ro := [], pre := fun _ => True, alts := [
  { k := 0, ret := .tup [(false, [.vnilp]), (false, [.vint .i64 (.lit 2)])], heap := [], post := fun ρ => newBad (ρ 0).i (ρ 1).i (ρ 2).i = true },
  { k := 3, ret := .tup [(false, [.vptr 3 (.lit 0) 0 0]), (false, [.vint .i64 (.lit 0)])],
    heap := [.cells 3 117 (machCells (.var 0) (.vslice 4 (.lit 0) (.var 1) (.var 1) 2) (.vslice 5 (.lit 0) (.var 1) (.var 1) 1) (.lit 0) (.lit 0) (.var 0) .vnils (.lit 0) (.bl false)),
      .arr 4 25 kMem (.dput (.drep (.var 1) (T.row [.vint .u64 (.lit 0), .vint .u8 (.lit 0)])) (.var 0) 0 (T.row [.vint .u64 (.var 2), .vint .u8 (.lit 1)])) (.var 1),
      .arr 5 22 [.int .u64] (.drep (.var 1) (T.row [.vint .u64 (.lit 0)])) (.var 1)],
    post := fun ρ => newBad (ρ 0).i (ρ 1).i (ρ 2).i = false }] }
/-- fault, of a machine that is there -/
def faultC : Ctr := { fn := 64, nv := 10, args := [ptr 0], heap := [], ro := [.cells 0 117 (machCells (.var 1) (.var 2) (.var 3) (.var 4) (.var 5) (.var 6) (.var 7) (.var 8) (.var 9))], pre := fun _ => True, alts := [{ k := 1, ret := iv .i64 (.var 10), heap := [], post := fun ρ => (ρ 10).i = if (ρ 9).b then 30 else 0 }] }
def challengeC : Ctr := { fn := 50, nv := 10, args := [ptr 0], heap := [], ro := [.cells 0 117 (machCells (.var 1) (.var 2) (.var 3) (.var 4) (.var 5) (.var 6) (.var 7) (.var 8) (.var 9))], pre := fun _ => True, alts := [{ k := 1, ret := iv .u64 (.var 10), heap := [], post := fun ρ => (ρ 10).i = (ρ 8).i }] }
def clockC : Ctr := { fn := 45, nv := 10, args := [ptr 0], heap := [], ro := [.cells 0 117 (machCells (.var 1) (.var 2) (.var 3) (.var 4) (.var 5) (.var 6) (.var 7) (.var 8) (.var 9))], pre := fun _ => True, alts := [{ k := 1, ret := iv .u64 (.var 10), heap := [], post := fun ρ => (ρ 10).i = (ρ 4).i }] }
def waitC : Ctr := { fn := 24, nv := 1, args := [iv .i64 (.var 0)], heap := [], ro := [], pre := fun _ => True, alts := [{ k := 1, ret := iv .i64 (.var 1), heap := [], post := fun ρ => (ρ 1).i = 10 + 3 * min (max (ρ 0).i 0) 16 }] }
def refWaitC : Ctr := { waitC with fn := 25 }
def roundsC : Ctr := { waitC with fn := 26, alts := [{ k := 1, ret := iv .i64 (.var 1), heap := [], post := fun ρ => (ρ 1).i = 30 + 6 * min (max (ρ 0).i 0) 16 }] }
def refRoundsC : Ctr := { roundsC with fn := 27 }

/-- Clone of a table that is no nil -/
def cloneC : Ctr := { fn := 63, nv := 4, args := [.one (.vslice 0 (.lit 0) (.var 1) (.var 2) 2)], heap := [], ro := [.arr 0 25 kMem (.var 3) (.var 2)], pre := fun ρ => (ρ 1).i = (ρ 3).d.length ∧ 0 < (ρ 1).i ∧ (ρ 1).i ≤ 1000000, alts := [{ k := 3, ret := .one (.vslice 4 (.lit 0) (.var 1) (.var 5) 2), heap := [.arr 4 25 kMem (.var 6) (.var 5)], post := fun ρ => (ρ 6).d = (ρ 3).d }] }

/-! ### Machines at given numbers -/
def il (k : IntKind) (z : Int) : T := .vint k (.lit z)
def sl (r : Nat) (n cap : T) (p : Nat) : T := .vslice r (.lit 0) n cap p
def memL (i s : Int) : SV := .agg [il .u64 i, il .u8 s]
def row2 (i s : Int) : T := T.row [il .u64 i, il .u8 s]
def T0 : T := .dput (.drep (.lit 3) (row2 0 0)) (.lit 0) 0 (row2 5 1)
def kMsg : List CK := [.int .u8, .int .i64, .int .i64, .int .u64, .int .i64, .int .i64, .any, .any, .any, .int .i64] ++ List.replicate 32 (.int .u8) ++ [.any, .bool] ++ List.replicate 32 (.int .u8) ++ List.replicate 4 (.int .i64) ++ List.replicate 32 (.int .u8) ++ [.any, .int .i64, .any, .int .i64]
def msgTail : List T := [.vnils, .vnils, il .i64 0] ++ List.replicate 32 (il .u8 0) ++ [.vnils, .vbool (.bl false)] ++ List.replicate 32 (il .u8 0) ++ List.replicate 4 (il .i64 0) ++ List.replicate 32 (il .u8 0) ++ [.vnils, il .i64 0, .vnils, il .i64 0]
def msgCells (kind from_ to seq origin target : T) (table : T) : List T := [.vint .u8 kind, .vint .i64 from_, .vint .i64 to, .vint .u64 seq, .vint .i64 origin, .vint .i64 target, table] ++ msgTail

def machAny (self : T) (table : T) : List T := machCells self table (.var 20) (.var 21) (.var 22) (.var 23) (.var 24) (.var 25) (.var 26)
/-- stamp, of a list of one message that was appended to -/
def stampA : Ctr := { fn := 68, nv := 27, args := [ptr 0, .one (.vslice 10 (.lit 0) (.lit 1) (.var 11) 116)], heap := [.arr 10 43 kMsg (.var 15) (.var 11)], ro := [.cells 0 117 (machAny (.var 1) (sl 2 (.var 3) (.var 4) 2)), .arr 2 25 kMem (.var 5) (.var 4)], pre := fun ρ => (ρ 3).i = (ρ 5).d.length ∧ 0 < (ρ 3).i ∧ (ρ 3).i ≤ 1000000 ∧ (ρ 15).d.length = 1, alts := [{ k := 3, ret := .one (.vslice 10 (.lit 0) (.lit 1) (.var 11) 116), heap := [.arr 10 43 kMsg (.dput (.dput (.var 15) (.lit 0) 1 (T.row [.vint .i64 (.var 1)])) (.lit 0) 6 (T.row [sl 27 (.var 3) (.var 28) 2])) (.var 11), .arr 27 25 kMem (.var 29) (.var 28)], post := fun ρ => (ρ 29).d = (ρ 5).d }] }
def cellsFrom (b n : Nat) : List T := (List.range n).map fun i => .var (b + i)
/-- stamp, of a list literal of one message -/
def stampB : Ctr := { fn := 68, nv := 150, args := [ptr 0, .one (.vslice 10 (.lit 0) (.lit 1) (.lit 1) 116)], heap := [.cells 10 43 (cellsFrom 30 116)], ro := [.cells 0 117 (machAny (.var 1) (sl 2 (.var 3) (.var 4) 2)), .arr 2 25 kMem (.var 5) (.var 4)], pre := fun ρ => (ρ 3).i = (ρ 5).d.length ∧ 0 < (ρ 3).i ∧ (ρ 3).i ≤ 1000000, alts := [{ k := 3, ret := .one (.vslice 10 (.lit 0) (.lit 1) (.lit 1) 116), heap := [.cells 10 43 ([.var 30, .vint .i64 (.var 1)] ++ cellsFrom 32 4 ++ [sl 150 (.var 3) (.var 151) 2] ++ cellsFrom 37 109), .arr 150 25 kMem (.var 152) (.var 151)], post := fun ρ => (ρ 152).d = (ρ 5).d }] }
def mach0 (clock seq pinged : Int) (probes : T) (chal : Int) : List T := machCells (.lit 0) (sl 1 (.lit 3) (.lit 3) 2) (sl 2 (.lit 3) (.lit 3) 1) (.lit clock) (.lit seq) (.lit pinged) probes (.lit chal) (.bl false)
def S0 : T := .drep (.lit 3) (T.row [il .u64 0])
def nextC0 : Ctr := { fn := 67, nv := 3, args := [ptr 0], heap := [], ro := [.cells 0 117 (mach0 1 0 0 .vnils 0)], pre := fun _ => True, alts := [{ k := 0, ret := .one (il .i64 1), heap := [], post := fun _ => True }] }
def waitC0 : Ctr := { fn := 24, nv := 0, args := [.one (il .i64 3)], heap := [], ro := [], pre := fun _ => True, alts := [{ k := 0, ret := .one (il .i64 19), heap := [], post := fun _ => True }] }
def faultC0 : Ctr := { faultC with nv := 9, ro := [.cells 0 117 (machCells (.var 1) (.var 2) (.var 3) (.var 4) (.var 5) (.var 6) (.var 7) (.var 8) (.bl false))], alts := [{ k := 0, ret := .one (il .i64 0), heap := [], post := fun _ => True }] }
/-- The first Tick. -/
def tickC0 : Ctr := { fn := 29, nv := 3, args := [ptr 0, .one (il .u64 0)], heap := [.cells 0 117 (mach0 0 0 0 .vnils 0), .arr 1 25 kMem T0 (.lit 3), .arr 2 22 [.int .u64] S0 (.lit 3)], ro := [], pre := fun _ => True, alts := [{ k := 7, ret := .one (sl 3 (.lit 1) (.var 4) 116), heap := [.cells 0 117 (mach0 1 1 1 (sl 8 (.lit 1) (.var 9) 4) 0), .arr 1 25 kMem T0 (.lit 3), .arr 2 22 [.int .u64] S0 (.lit 3), .arr 8 63 kProbe (T.row [il .u64 1, il .i64 1, il .u64 1, .vbool (.bl false)]) (.var 9), .arr 3 43 kMsg (.dput (.dput (T.row (msgCells (.lit 1) (.lit 0) (.lit 1) (.lit 1) (.lit 0) (.lit 0) .vnils)) (.lit 0) 1 (T.row [il .i64 0])) (.lit 0) 6 (T.row [sl 5 (.lit 3) (.var 6) 2])) (.var 4), .arr 5 25 kMem (.var 7) (.var 6)], post := fun _ => True }] }

def newerL (a b c d : Int) (r : Bool) : Ctr := { fn := 17, nv := 0, args := [memL a b, memL c d], heap := [], ro := [], pre := fun _ => True, alts := [{ k := 0, ret := .one (.vbool (.bl r)), heap := [], post := fun _ => True }] }
def joinL (a b c d e f : Int) : Ctr := { fn := 18, nv := 0, args := [memL a b, memL c d], heap := [], ro := [], pre := fun _ => True, alts := [{ k := 0, ret := memL e f, heap := [], post := fun _ => True }] }
def T1 : T := .dput T0 (.lit 1) 0 (row2 0 0)
def T2 : T := .dput T1 (.lit 2) 0 (row2 1 1)
/-- The machine's own cells behind the first Tick, only read. -/
def mach1 (chal : Int) : SH := .cells 0 117 (machCells (.lit 0) (sl 1 (.lit 3) (.lit 3) 2) (.var 3) (.lit 1) (.lit 1) (.lit 1) (.var 4) (.lit chal) (.bl false))
def setC (i inc st : Int) (D : T) : Ctr := { fn := 65, nv := 5, args := [ptr 0, .one (il .i64 i), memL inc st], heap := [mach1 6, .arr 1 25 kMem D (.lit 3)], ro := [], pre := fun _ => True, alts := [{ k := 0, ret := .tup [], heap := [mach1 6, .arr 1 25 kMem (.dput D (.lit i) 0 (row2 inc st)) (.lit 3)], post := fun _ => True }] }
def peerL (i : Int) : Ctr := { fn := 87, nv := 5, args := [ptr 0, .one (il .i64 i)], heap := [], ro := [mach1 0], pre := fun _ => True, alts := [{ k := 0, ret := .one (.vbool (.bl true)), heap := [], post := fun _ => True }] }
def validL (a b : Int) : Ctr := { fn := 61, nv := 0, args := [memL a b], heap := [], ro := [], pre := fun _ => True, alts := [{ k := 0, ret := .one (.vbool (.bl true)), heap := [], post := fun _ => True }] }
def valid1L (a b : Int) : Ctr := { validL a b with fn := 60, alts := [{ k := 0, ret := .one (.vbool (.bl false)), heap := [], post := fun _ => True }] }
def liveL (a b : Int) (r : Bool) : Ctr := { validL a b with fn := 72, alts := [{ k := 0, ret := .one (.vbool (.bl r)), heap := [], post := fun _ => True }] }
def tabL : SH := .cells 10 25 [il .u64 6, il .u8 2, il .u64 0, il .u8 0, il .u64 1, il .u8 1]
def indexC0 : Ctr := { fn := 84, nv := 11, args := [.one (sl 10 (.lit 3) (.lit 3) 2), .fn (.func 60) [] []], heap := [], ro := [tabL], pre := fun _ => True, alts := [{ k := 0, ret := .one (il .i64 (-1)), heap := [], post := fun _ => True }] }
def containsC0 : Ctr := { indexC0 with fn := 59, alts := [{ k := 0, ret := .one (.vbool (.bl false)), heap := [], post := fun _ => True }] }
def validC0 : Ctr := { indexC0 with fn := 20, args := [.one (sl 10 (.lit 3) (.lit 3) 2)], alts := [{ k := 0, ret := .one (.vbool (.bl true)), heap := [], post := fun _ => True }] }
def msg0 : List T := msgCells (.lit 1) (.lit 2) (.lit 0) (.lit 9) (.lit 2) (.lit 0) (sl 10 (.lit 3) (.lit 3) 2)
def acceptsC0 : Ctr := { fn := 81, nv := 11, args := [ptr 0, .agg msg0], heap := [], ro := [mach1 0, tabL], pre := fun _ => True, alts := [{ k := 0, ret := .one (.vbool (.bl true)), heap := [], post := fun _ => True }] }
def receiveC0 : Ctr := { fn := 58, nv := 11, args := [ptr 0, .agg msg0], heap := [mach1 0, .arr 1 25 kMem T0 (.lit 3)], ro := [tabL], pre := fun _ => True, alts := [{ k := 4, ret := .tup [(false, [sl 11 (.lit 1) (.lit 1) 116]), (false, [il .i64 0])], heap := [mach1 6, .arr 1 25 kMem T2 (.lit 3), .cells 11 43 (msgCells (.lit 2) (.lit 0) (.lit 2) (.lit 9) (.lit 2) (.lit 0) (sl 12 (.lit 3) (.var 13) 2)), .arr 12 25 kMem (.var 14) (.var 13)], post := fun _ => True }] }
def tableLiveC0 : Ctr := { fn := 37, nv := 2, args := [.one (sl 1 (.lit 3) (.lit 3) 2)], heap := [], ro := [.arr 1 25 kMem T2 (.lit 3)], pre := fun _ => True, alts := [{ k := 3, ret := .one (sl 2 (.lit 2) (.var 3) 1), heap := [.arr 2 3 [.int .i64] (.var 4) (.var 3)], post := fun _ => True }] }
def liveC0 : Ctr := { fn := 30, nv := 5, args := [ptr 0], heap := [], ro := [mach1 6, .arr 1 25 kMem T2 (.lit 3)], pre := fun _ => True, alts := [{ k := 3, ret := .one (sl 5 (.lit 2) (.var 6) 1), heap := [.arr 5 3 [.int .i64] (.var 7) (.var 6)], post := fun _ => True }] }
def challengeC0 : Ctr := { fn := 50, nv := 5, args := [ptr 0], heap := [], ro := [mach1 6], pre := fun _ => True, alts := [{ k := 0, ret := .one (il .u64 6), heap := [], post := fun _ => True }] }
def clockC0 : Ctr := { challengeC0 with fn := 45, alts := [{ k := 0, ret := .one (il .u64 1), heap := [], post := fun _ => True }] }
def newC0 : Ctr := { fn := 22, nv := 0, args := [.one (il .i64 0), .one (il .i64 3), .one (il .u64 5)], heap := [], ro := [], pre := fun _ => True, alts := [{ k := 3, ret := .tup [(false, [.vptr 0 (.lit 0) 0 0]), (false, [il .i64 0])], heap := [.cells 0 117 (mach0 0 0 0 .vnils 0), .arr 1 25 kMem T0 (.lit 3), .arr 2 22 [.int .u64] S0 (.lit 3)], post := fun _ => True }] }
/-- known -/
def knownC : Ctr := { fn := 19, nv := 0, args := [], heap := [], ro := [], pre := fun _ => True, alts := [{ k := 0, ret := .one (.vbool (.bl true)), heap := [], post := fun _ => True }] }
def receiveL : List Ctr := [faultC0, acceptsC0, newerL 6 2 5 1 true, joinL 0 0 0 0 0 0, joinL 0 0 1 1 1 1, setC 1 0 0 T0, setC 2 1 1 T1, stampB]
def knownL : List Ctr := [newC0, joinL 3 3 4 1 4 1, tickC0, receiveC0, challengeC0, liveC0, clockC0]
end Go.Eng
