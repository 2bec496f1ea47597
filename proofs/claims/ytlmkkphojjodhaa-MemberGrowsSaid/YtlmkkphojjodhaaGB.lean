/- Contracts of the functions on tables. -/
import Derived.Test.YtlmkkphojjodhaaGA
import Derived.Test.YtlmkkphojjodhaaProg
set_option linter.unusedSimpArgs false
set_option linter.unusedVariables false
namespace Go.Eng
open Go

/-! ### What they compute -/
abbrev Ent := Int × Int
def rowI (r : List Value) (c : Nat) : Int := vInt (r[c]?.getD .nilFunc)
def tabOf (d : List (List Value)) : List Ent := d.map fun r => (rowI r 0, rowI r 1)
def intsOf (d : List (List Value)) : List Int := d.map fun r => rowI r 0
def validE (e : Ent) : Bool := decide (e.2 ≤ 4) && ((e.1 == 0) == (e.2 == 0))
def okAll (l : List Ent) : Bool := l.all validE
def okN (l : List Ent) (n : Nat) : Bool := (l.take n).all validE
def sameN (a b : List Ent) (n : Nat) : Prop := a.take n = b.take n
def sameIN (a b : List Int) (n : Nat) : Prop := a.take n = b.take n
def validT (l : List Ent) : Bool := decide (1 ≤ l.length) && decide (l.length ≤ 16) && okAll l
def newerE (a b : Ent) : Bool := newerB a.1 a.2 b.1 b.2
def joinE (a b : Ent) : Ent := if newerE b a then b else a
def joinTab (a b : List Ent) : List Ent := List.zipWith joinE a b
/-- Joined up to n. -/
def joinedTo (t a b : List Ent) (n : Nat) : Prop := ∀ j : Nat, t[j]? = if j < n then (joinTab a b)[j]? else a[j]?
def liveS (s : Int) : Bool := s == 1 || s == 2
def liveN (l : List Ent) (n : Nat) : List Int := ((List.range n).filter fun i => liveS (l.getD i (0, 0)).2).map Int.ofNat
/-- A slice of 16 bytes an entry that a caller can have is no longer than this. -/
def big : Int := 8796093021952
def liveT (l : List Ent) : List Int := liveN l l.length

/-! ### Contracts -/
/-- A slice of two-celled entries, read: region r, length, capacity, rows, the block's capacity. -/
def tArg (r l c : Nat) : SV := .one (.vslice r (.lit 0) (.var l) (.var c) 2)
def tRo (r d k : Nat) : SH := .arr r 25 kMem (.var d) (.var k)
def iArg (r l c : Nat) : SV := .one (.vslice r (.lit 0) (.var l) (.var c) 1)
def iRo (r d k : Nat) : SH := .arr r 3 [.int .i64] (.var d) (.var k)
def bret (n : Nat) : SV := .one (.vbool (.var n))
def mem2 (a b : Nat) : SV := mem a b

def valid61C : Ctr := { fn := 61, nv := 2, args := [mem 0 1], heap := [], ro := [], pre := fun _ => True, alts := [{ k := 1, ret := bret 2, heap := [], post := fun ρ => (ρ 2).b = validE ((ρ 0).i, (ρ 1).i) }] }
def good71C : Ctr := { valid61C with fn := 71 }
def valid60C : Ctr := { valid61C with fn := 60, alts := [{ k := 1, ret := bret 2, heap := [], post := fun ρ => (ρ 2).b = !validE ((ρ 0).i, (ρ 1).i) }] }
def live72C : Ctr := { valid61C with fn := 72, alts := [{ k := 1, ret := bret 2, heap := [], post := fun ρ => (ρ 2).b = liveS (ρ 1).i }] }
def index84C : Ctr := { fn := 84, nv := 5, args := [tArg 0 1 2, .fn (.func 60) [] []], heap := [], ro := [tRo 0 3 4], pre := fun ρ => (ρ 1).i = (ρ 3).d.length ∧ (ρ 1).i ≤ big, alts := [{ k := 1, ret := iv .i64 (.var 5), heap := [], post := fun ρ => (0 ≤ (ρ 5).i) ↔ okAll (tabOf (ρ 3).d) = false }] }
def index84I : Inv := { key := 2, nv := 1, env := [(0, tArg 0 1 2), (1, .fn (.func 60) [] []), (7, iv .i64 (.var 1)), (8, iv .i64 (.var 1000))], heap := [], inv := (fun ρ => 0 ≤ (ρ 1000).i ∧ (ρ 1000).i ≤ (ρ 1).i ∧ okN (tabOf (ρ 3).d) (ρ 1000).i.toNat = true), mu := (fun ρ => ((ρ 1).i - (ρ 1000).i).toNat) }
def contains59C : Ctr := { index84C with fn := 59, alts := [{ k := 1, ret := bret 5, heap := [], post := fun ρ => (ρ 5).b = !okAll (tabOf (ρ 3).d) }] }
def valid20C : Ctr := { index84C with fn := 20, args := [tArg 0 1 2], alts := [{ k := 1, ret := bret 5, heap := [], post := fun ρ => (ρ 5).b = validT (tabOf (ρ 3).d) }] }
def refValid35C : Ctr := { valid20C with fn := 35 }
def refValid35I : Inv := { key := 4, nv := 1, env := [(0, tArg 0 1 2), (3, iv .i64 (.var 1000))], heap := [], inv := index84I.inv, mu := index84I.mu }
def own21C : Ctr := { fn := 21, nv := 5, args := [tArg 0 1 2], heap := [], ro := [tRo 0 3 4], pre := fun ρ => (ρ 1).i = (ρ 3).d.length ∧ (ρ 1).i ≤ big, alts := [{ k := 3, ret := .one (.vslice 5 (.lit 0) (.var 1) (.var 6) 2), heap := [.arr 5 25 kMem (.var 7) (.var 6)], post := fun ρ => (ρ 7).d = (ρ 3).d }] }
def clone63C : Ctr := { fn := 63, nv := 5, args := [tArg 0 1 2], heap := [], ro := [tRo 0 3 4], pre := fun ρ => (ρ 1).i = (ρ 3).d.length ∧ 0 < (ρ 1).i ∧ (ρ 1).i ≤ big, alts := [{ k := 3, ret := .one (.vslice 5 (.lit 0) (.var 1) (.var 6) 2), heap := [.arr 5 25 kMem (.var 7) (.var 6)], post := fun ρ => (ρ 7).d = (ρ 3).d }] }
def merge32C : Ctr := { fn := 32, nv := 10, args := [tArg 0 1 2, tArg 5 6 7], heap := [], ro := [tRo 0 3 4, tRo 5 8 9], pre := fun ρ => (ρ 1).i = (ρ 3).d.length ∧ (ρ 6).i = (ρ 8).d.length ∧ (ρ 1).i ≤ big ∧ (ρ 6).i ≤ big, alts := [
  { k := 0, ret := .tup [(false, [.vnils]), (false, [.vint .i64 (.lit 2)])], heap := [], post := fun ρ => (validT (tabOf (ρ 3).d) && validT (tabOf (ρ 8).d)) = false },
  { k := 0, ret := .tup [(false, [.vnils]), (false, [.vint .i64 (.lit 10)])], heap := [], post := fun ρ => (validT (tabOf (ρ 3).d) && validT (tabOf (ρ 8).d)) = true ∧ (ρ 1).i ≠ (ρ 6).i },
  { k := 3, ret := .tup [(false, [.vslice 10 (.lit 0) (.var 1) (.var 11) 2]), (false, [.vint .i64 (.lit 0)])], heap := [.arr 10 25 kMem (.var 12) (.var 11)], post := fun ρ => (validT (tabOf (ρ 3).d) && validT (tabOf (ρ 8).d)) = true ∧ (ρ 1).i = (ρ 6).i ∧ tabOf (ρ 12).d = joinTab (tabOf (ρ 3).d) (tabOf (ρ 8).d) ∧ (ρ 12).d.length = (ρ 3).d.length }] }
def merge32I : Inv := { key := 7, nv := 4, env := [(6, .one (.vslice 1001 (.lit 0) (.var 1) (.var 1002) 2)), (24, tArg 5 6 7), (25, iv .i64 (.var 6)), (26, iv .i64 (.var 1000))], heap := [.arr 1001 25 kMem (.var 1003) (.var 1002)], inv := (fun ρ => 0 ≤ (ρ 1000).i ∧ (ρ 1000).i ≤ (ρ 6).i ∧ (ρ 1003).d.length = (ρ 3).d.length ∧ joinedTo (tabOf (ρ 1003).d) (tabOf (ρ 3).d) (tabOf (ρ 8).d) (ρ 1000).i.toNat), mu := (fun ρ => ((ρ 6).i - (ρ 1000).i).toNat) }
def refNewer79C : Ctr := { newerD with fn := 79 }
def refJoin70C : Ctr := { joinD with fn := 70 }
def refMerge33C : Ctr := { merge32C with fn := 33 }
def refMerge33I : Inv := { key := 7, nv := 5, env := [(0, tArg 0 1 2), (1, tArg 5 6 7), (6, .one (.vslice 1001 (.lit 0) (.var 1004) (.var 1002) 2)), (7, iv .i64 (.var 1000))], heap := [.arr 1001 25 kMem (.var 1003) (.var 1002)], inv := (fun ρ => 0 ≤ (ρ 1000).i ∧ (ρ 1000).i ≤ (ρ 1).i ∧ (ρ 1003).d.length = (ρ 1000).i ∧ (ρ 1004).i = (ρ 1000).i ∧ tabOf (ρ 1003).d = joinTab ((tabOf (ρ 3).d).take (ρ 1000).i.toNat) ((tabOf (ρ 8).d).take (ρ 1000).i.toNat)), mu := (fun ρ => ((ρ 1).i - (ρ 1000).i).toNat) }
def same34C : Ctr := { fn := 34, nv := 10, args := [tArg 0 1 2, tArg 5 6 7], heap := [], ro := [tRo 0 3 4, tRo 5 8 9], pre := merge32C.pre, alts := [{ k := 1, ret := bret 10, heap := [], post := fun ρ => (ρ 10).b = decide (tabOf (ρ 3).d = tabOf (ρ 8).d) }] }
def same34I : Inv := { key := 4, nv := 1, env := [(0, tArg 0 1 2), (1, tArg 5 6 7), (5, iv .i64 (.var 1000))], heap := [], inv := (fun ρ => 0 ≤ (ρ 1000).i ∧ (ρ 1000).i ≤ (ρ 1).i ∧ (ρ 1).i = (ρ 6).i ∧ sameN (tabOf (ρ 3).d) (tabOf (ρ 8).d) (ρ 1000).i.toNat), mu := (fun ρ => ((ρ 1).i - (ρ 1000).i).toNat) }
def sameInts36C : Ctr := { fn := 36, nv := 10, args := [iArg 0 1 2, iArg 5 6 7], heap := [], ro := [iRo 0 3 4, iRo 5 8 9], pre := merge32C.pre, alts := [{ k := 1, ret := bret 10, heap := [], post := fun ρ => (ρ 10).b = decide (intsOf (ρ 3).d = intsOf (ρ 8).d) }] }
def sameInts36I : Inv := { key := 4, nv := 1, env := [(0, iArg 0 1 2), (1, iArg 5 6 7), (5, iv .i64 (.var 1000))], heap := [], inv := (fun ρ => 0 ≤ (ρ 1000).i ∧ (ρ 1000).i ≤ (ρ 1).i ∧ (ρ 1).i = (ρ 6).i ∧ sameIN (intsOf (ρ 3).d) (intsOf (ρ 8).d) (ρ 1000).i.toNat), mu := (fun ρ => ((ρ 1).i - (ρ 1000).i).toNat) }
/-- The live peers: nil or a list of one's own. -/
def live37C : Ctr := { fn := 37, nv := 5, args := [tArg 0 1 2], heap := [], ro := [tRo 0 3 4], pre := fun ρ => (ρ 1).i = (ρ 3).d.length ∧ (ρ 1).i ≤ big, alts := [{ k := 4, ret := .one (.vslice 5 (.lit 0) (.var 8) (.var 6) 1), heap := [.arr 5 3 [.int .i64] (.var 7) (.var 6)], post := fun ρ => intsOf (ρ 7).d = liveT (tabOf (ρ 3).d) ∧ (ρ 8).i = (ρ 7).d.length ∧ (ρ 8).i ≤ (ρ 1).i }] }
def live37I : Inv := { key := 3, nv := 5, env := [(3, .one (.vslice 1001 (.lit 0) (.var 1004) (.var 1002) 1)), (6, tArg 0 1 2), (7, iv .i64 (.var 1)), (8, iv .i64 (.var 1000))], heap := [.arr 1001 3 [.int .i64] (.var 1003) (.var 1002)], inv := (fun ρ => 0 ≤ (ρ 1000).i ∧ (ρ 1000).i ≤ (ρ 1).i ∧ (ρ 1004).i = (ρ 1003).d.length ∧ (ρ 1003).d.length ≤ (ρ 1000).i ∧ intsOf (ρ 1003).d = liveN (tabOf (ρ 3).d) (ρ 1000).i.toNat), mu := (fun ρ => ((ρ 1).i - (ρ 1000).i).toNat) }
def refLive38C : Ctr := { live37C with fn := 38 }
def refLive38I : Inv := { live37I with env := [(0, tArg 0 1 2), (3, .one (.vslice 1001 (.lit 0) (.var 1004) (.var 1002) 1)), (4, iv .i64 (.var 1000))] }
def lawTablesC : Ctr := { fn := 8, nv := 10, args := [tArg 0 1 2, tArg 5 6 7], heap := [], ro := [tRo 0 3 4, tRo 5 8 9], pre := merge32C.pre, alts := lawWaitsC.alts }
/-- Merge of valid tables of one length. -/
def mergeV32C : Ctr := { merge32C with pre := fun ρ => (ρ 1).i = (ρ 3).d.length ∧ (ρ 6).i = (ρ 8).d.length ∧ (ρ 1).i = (ρ 6).i ∧ validT (tabOf (ρ 3).d) = true ∧ validT (tabOf (ρ 8).d) = true, alts := [
  { k := 3, ret := .tup [(false, [.vslice 10 (.lit 0) (.var 1) (.var 11) 2]), (false, [.vint .i64 (.lit 0)])], heap := [.arr 10 25 kMem (.var 12) (.var 11)], post := fun ρ => tabOf (ρ 12).d = joinTab (tabOf (ρ 3).d) (tabOf (ρ 8).d) ∧ (ρ 12).d.length = (ρ 3).d.length }] }
def lawMergesI : Inv := { key := 12, nv := 16, env := [(0, tArg 0 1 2), (1, tArg 5 6 7), (7, tArg 1001 1 1003), (9, tArg 1004 6 1006), (13, tArg 1007 1 1009), (15, tArg 1010 1 1012), (17, tArg 1013 1 1015), (19, iv .i64 (.var 1000))], heap := [.arr 1001 25 kMem (.var 1002) (.var 1003), .arr 1004 25 kMem (.var 1005) (.var 1006), .arr 1007 25 kMem (.var 1008) (.var 1009), .arr 1010 25 kMem (.var 1011) (.var 1012), .arr 1013 25 kMem (.var 1014) (.var 1015)], inv := (fun ρ => 0 ≤ (ρ 1000).i ∧ (ρ 1000).i ≤ (ρ 1).i ∧ (ρ 1).i = (ρ 6).i ∧ (ρ 1).i ≤ 16 ∧ tabOf (ρ 1002).d = joinTab (tabOf (ρ 3).d) (tabOf (ρ 8).d) ∧ tabOf (ρ 1005).d = joinTab (tabOf (ρ 8).d) (tabOf (ρ 3).d) ∧ tabOf (ρ 1008).d = joinTab (joinTab (tabOf (ρ 3).d) (tabOf (ρ 8).d)) (tabOf (ρ 13).d) ∧ tabOf (ρ 1011).d = joinTab (tabOf (ρ 3).d) (joinTab (tabOf (ρ 8).d) (tabOf (ρ 13).d)) ∧ tabOf (ρ 1014).d = joinTab (tabOf (ρ 3).d) (tabOf (ρ 3).d) ∧ (ρ 1002).d.length = (ρ 3).d.length ∧ (ρ 1005).d.length = (ρ 3).d.length ∧ (ρ 1008).d.length = (ρ 3).d.length ∧ (ρ 1011).d.length = (ρ 3).d.length ∧ (ρ 1014).d.length = (ρ 3).d.length), mu := (fun ρ => ((ρ 1).i - (ρ 1000).i).toNat) }
def lawMergesC : Ctr := { fn := 9, nv := 15, args := [tArg 0 1 2, tArg 5 6 7, tArg 10 11 12], heap := [], ro := [tRo 0 3 4, tRo 5 8 9, tRo 10 13 14], pre := fun ρ => (ρ 1).i = (ρ 3).d.length ∧ (ρ 6).i = (ρ 8).d.length ∧ (ρ 11).i = (ρ 13).d.length ∧ (ρ 1).i ≤ big ∧ (ρ 6).i ≤ big ∧ (ρ 11).i ≤ big, alts := lawWaitsC.alts }
end Go.Eng

set_option linter.unusedSimpArgs false
set_option linter.unusedVariables false
namespace Go.Proofs
open Go Go.Eng

def o_clone63 : Out := (.br (.and (.cmp .eql (.dlen (.var 3)) (.lit (0))) (.isnil 0))
 (.need (.cmp .eql (.var 1) (.lit (0))) (.ret 0 ⟨5, [(7, (.t .dnil)), (6, (.t (.lit (0)))), (5, .nil)], [((.var 6), (.lit (0))), ((.var 1), (.lit (0))), ((.lit (0)), (.lit (0)))], [], []⟩))
 (.fresh 5 (.need (.cmp .leq (.lit (0)) (.var 1)) (.need (.cmp .leq (.var 1) (.dlen (.var 3))) (.need (.cmp .leq (.tims (.lit (16)) (.var 1)) (.lit (140737488355328))) (.fresh 6 (.fresh 7 (.ret 0 ⟨5, [(7, (.t (.dtake (.var 3) (.var 1)))), (6, (.t (.var 7))), (5, (.r 6))], [((.var 6), (.var 7)), ((.var 1), (.var 1)), ((.lit (0)), (.lit (0)))], [], []⟩))))))))
theorem o_clone63_eq : treeOf ⟨Try.prog, clone63C, [], []⟩ 100000 Try.f63 = o_clone63 := by kernel_rfl
theorem clone63_of (hd : ∀ c ∈ ([] : List Ctr), c.ok Try.prog) (h : ∀ ρ : Env, ρ.good → (clone63C).pre ρ → o_clone63.den ⟨Try.prog, clone63C, [], []⟩ ρ) : (clone63C).ok Try.prog :=
  ok_of_tree Try.func63 (fun a w => Try.call63 a w) hd 100000 (fun ρ hg hp => by rw [o_clone63_eq]; exact h ρ hg hp)
def o_valid61 : Out := (.fresh 2 (.br (.cmp .leq (.var 1) (.lit (4)))
 (.ret 0 ⟨2, [(2, (.t (.beq (.cmp .eql (.var 0) (.lit (0))) (.cmp .eql (.var 1) (.lit (0))))))], [], [], []⟩)
 (.ret 0 ⟨2, [(2, (.t (.bl false)))], [], [], []⟩)))
theorem o_valid61_eq : treeOf ⟨Try.prog, valid61C, [], []⟩ 100000 Try.f61 = o_valid61 := by kernel_rfl
theorem valid61_of (hd : ∀ c ∈ ([] : List Ctr), c.ok Try.prog) (h : ∀ ρ : Env, ρ.good → (valid61C).pre ρ → o_valid61.den ⟨Try.prog, valid61C, [], []⟩ ρ) : (valid61C).ok Try.prog :=
  ok_of_tree Try.func61 (fun a w => Try.call61 a w) hd 100000 (fun ρ hg hp => by rw [o_valid61_eq]; exact h ρ hg hp)
def o_good71 : Out := (.fresh 2 (.br (.cmp .leq (.var 1) (.lit (4)))
 (.ret 0 ⟨2, [(2, (.t (.beq (.cmp .eql (.var 0) (.lit (0))) (.cmp .eql (.var 1) (.lit (0))))))], [], [], []⟩)
 (.ret 0 ⟨2, [(2, (.t (.bl false)))], [], [], []⟩)))
theorem o_good71_eq : treeOf ⟨Try.prog, good71C, [], []⟩ 100000 Try.f71 = o_good71 := by kernel_rfl
theorem good71_of (hd : ∀ c ∈ ([] : List Ctr), c.ok Try.prog) (h : ∀ ρ : Env, ρ.good → (good71C).pre ρ → o_good71.den ⟨Try.prog, good71C, [], []⟩ ρ) : (good71C).ok Try.prog :=
  ok_of_tree Try.func71 (fun a w => Try.call71 a w) hd 100000 (fun ρ hg hp => by rw [o_good71_eq]; exact h ρ hg hp)
def o_valid60 : Out := (.fresh 2 (.pre 0 ⟨0, [(1, (.t (.var 1))), (0, (.t (.var 0)))], [], [], []⟩ (.both (.fresh 3 (.post 0 0 ⟨0, [(1, (.t (.var 1))), (0, (.t (.var 0)))], [], [], []⟩ 3 (.ret 0 ⟨2, [(2, (.t (.not (.var 3))))], [], [], []⟩))) .top)))
theorem o_valid60_eq : treeOf ⟨Try.prog, valid60C, [valid61C], []⟩ 100000 Try.f60 = o_valid60 := by kernel_rfl
theorem valid60_of (hd : ∀ c ∈ ([valid61C] : List Ctr), c.ok Try.prog) (h : ∀ ρ : Env, ρ.good → (valid60C).pre ρ → o_valid60.den ⟨Try.prog, valid60C, [valid61C], []⟩ ρ) : (valid60C).ok Try.prog :=
  ok_of_tree Try.func60 (fun a w => Try.call60 a w) hd 100000 (fun ρ hg hp => by rw [o_valid60_eq]; exact h ρ hg hp)
def o_live72 : Out := (.fresh 2 (.br (.cmp .eql (.var 1) (.lit (1)))
 (.ret 0 ⟨2, [(2, (.t (.bl true)))], [], [], []⟩)
 (.ret 0 ⟨2, [(2, (.t (.cmp .eql (.var 1) (.lit (2)))))], [], [], []⟩)))
theorem o_live72_eq : treeOf ⟨Try.prog, live72C, [], []⟩ 100000 Try.f72 = o_live72 := by kernel_rfl
theorem live72_of (hd : ∀ c ∈ ([] : List Ctr), c.ok Try.prog) (h : ∀ ρ : Env, ρ.good → (live72C).pre ρ → o_live72.den ⟨Try.prog, live72C, [], []⟩ ρ) : (live72C).ok Try.prog :=
  ok_of_tree Try.func72 (fun a w => Try.call72 a w) hd 100000 (fun ρ hg hp => by rw [o_live72_eq]; exact h ρ hg hp)
def o_index84 : Out := (.need (.cmp .leq (.lit (0)) (.var 1)) (.inv 0 5 ⟨1000, [(1000, (.t (.lit (0))))], [((.var 1), (.var 1)), ((.var 2), (.var 2)), ((.var 1), (.var 1)), ((.lit (0)), (.lit (0)))], [], []⟩ (.fresh 5 (.hyp 0 5 (.br (.cmp .lss (.var 5) (.var 1))
 (.need (.cmp .leq (.lit (0)) (.var 5)) (.need (.cmp .lss (.var 5) (.dlen (.var 3))) (.pre 0 ⟨0, [(1, (.t (.icell (.var 3) (.var 5) 1))), (0, (.t (.icell (.var 3) (.var 5) 0)))], [], [], []⟩ (.both (.fresh 6 (.post 0 0 ⟨0, [(1, (.t (.icell (.var 3) (.var 5) 1))), (0, (.t (.icell (.var 3) (.var 5) 0)))], [], [], []⟩ 6 (.br (.var 6)
 (.ret 0 ⟨5, [(5, (.t (.var 5)))], [], [], []⟩)
 (.back 0 5 ⟨1000, [(1000, (.t (.arith .add .i64 (.var 5) (.lit (1)))))], [((.var 1), (.var 1)), ((.var 2), (.var 2)), ((.var 1), (.var 1)), ((.lit (0)), (.lit (0)))], [], []⟩)))) .top))))
 (.ret 0 ⟨5, [(5, (.t (.lit (-1))))], [], [], []⟩))))))
theorem o_index84_eq : treeOf ⟨Try.prog, index84C, [valid60C], [index84I]⟩ 100000 Try.f84 = o_index84 := by kernel_rfl
theorem index84_of (hd : ∀ c ∈ ([valid60C] : List Ctr), c.ok Try.prog) (h : ∀ ρ : Env, ρ.good → (index84C).pre ρ → o_index84.den ⟨Try.prog, index84C, [valid60C], [index84I]⟩ ρ) : (index84C).ok Try.prog :=
  ok_of_tree Try.func84 (fun a w => Try.call84 a w) hd 100000 (fun ρ hg hp => by rw [o_index84_eq]; exact h ρ hg hp)
def o_contains59 : Out := (.pre 0 ⟨0, [(4, (.t (.var 4))), (3, (.t (.var 3))), (2, (.t (.var 2))), (1, (.t (.var 1))), (0, (.r 0))], [((.lit (0)), (.lit (0)))], [], []⟩ (.both (.fresh 5 (.post 0 0 ⟨0, [(4, (.t (.var 4))), (3, (.t (.var 3))), (2, (.t (.var 2))), (1, (.t (.var 1))), (0, (.r 0))], [((.lit (0)), (.lit (0)))], [], []⟩ 5 (.ret 0 ⟨5, [(5, (.t (.cmp .geq (.var 5) (.lit (0)))))], [], [], []⟩))) .top))
theorem o_contains59_eq : treeOf ⟨Try.prog, contains59C, [index84C], []⟩ 100000 Try.f59 = o_contains59 := by kernel_rfl
theorem contains59_of (hd : ∀ c ∈ ([index84C] : List Ctr), c.ok Try.prog) (h : ∀ ρ : Env, ρ.good → (contains59C).pre ρ → o_contains59.den ⟨Try.prog, contains59C, [index84C], []⟩ ρ) : (contains59C).ok Try.prog :=
  ok_of_tree Try.func59 (fun a w => Try.call59 a w) hd 100000 (fun ρ hg hp => by rw [o_contains59_eq]; exact h ρ hg hp)
def o_valid20 : Out := (.need (.cmp .leq (.lit (0)) (.var 1)) (.br (.cmp .geq (.var 1) (.lit (1)))
 (.br (.cmp .leq (.var 1) (.lit (16)))
 (.pre 0 ⟨0, [(4, (.t (.var 4))), (3, (.t (.var 3))), (2, (.t (.var 2))), (1, (.t (.var 1))), (0, (.r 0))], [((.lit (0)), (.lit (0)))], [], []⟩ (.both (.fresh 5 (.post 0 0 ⟨0, [(4, (.t (.var 4))), (3, (.t (.var 3))), (2, (.t (.var 2))), (1, (.t (.var 1))), (0, (.r 0))], [((.lit (0)), (.lit (0)))], [], []⟩ 5 (.ret 0 ⟨5, [(5, (.t (.not (.var 5))))], [], [], []⟩))) .top))
 (.ret 0 ⟨5, [(5, (.t (.bl false)))], [], [], []⟩))
 (.ret 0 ⟨5, [(5, (.t (.bl false)))], [], [], []⟩)))
theorem o_valid20_eq : treeOf ⟨Try.prog, valid20C, [contains59C], []⟩ 100000 Try.f20 = o_valid20 := by kernel_rfl
theorem valid20_of (hd : ∀ c ∈ ([contains59C] : List Ctr), c.ok Try.prog) (h : ∀ ρ : Env, ρ.good → (valid20C).pre ρ → o_valid20.den ⟨Try.prog, valid20C, [contains59C], []⟩ ρ) : (valid20C).ok Try.prog :=
  ok_of_tree Try.func20 (fun a w => Try.call20 a w) hd 100000 (fun ρ hg hp => by rw [o_valid20_eq]; exact h ρ hg hp)
def o_refValid35 : Out := (.need (.cmp .leq (.lit (0)) (.var 1)) (.br (.cmp .lss (.var 1) (.lit (1)))
 (.ret 0 ⟨5, [(5, (.t (.bl false)))], [], [], []⟩)
 (.br (.cmp .gtr (.var 1) (.lit (16)))
 (.ret 0 ⟨5, [(5, (.t (.bl false)))], [], [], []⟩)
 (.inv 0 5 ⟨1000, [(1000, (.t (.lit (0))))], [((.var 2), (.var 2)), ((.var 1), (.var 1)), ((.lit (0)), (.lit (0)))], [], []⟩ (.fresh 5 (.hyp 0 5 (.br (.cmp .lss (.var 5) (.var 1))
 (.need (.cmp .leq (.lit (0)) (.var 5)) (.need (.cmp .lss (.var 5) (.dlen (.var 3))) (.pre 0 ⟨0, [(1, (.t (.icell (.var 3) (.var 5) 1))), (0, (.t (.icell (.var 3) (.var 5) 0)))], [], [], []⟩ (.both (.fresh 6 (.post 0 0 ⟨0, [(1, (.t (.icell (.var 3) (.var 5) 1))), (0, (.t (.icell (.var 3) (.var 5) 0)))], [], [], []⟩ 6 (.br (.not (.var 6))
 (.ret 0 ⟨5, [(5, (.t (.bl false)))], [], [], []⟩)
 (.back 0 5 ⟨1000, [(1000, (.t (.arith .add .i64 (.var 5) (.lit (1)))))], [((.var 2), (.var 2)), ((.var 1), (.var 1)), ((.lit (0)), (.lit (0)))], [], []⟩)))) .top))))
 (.ret 0 ⟨5, [(5, (.t (.bl true)))], [], [], []⟩))))))))
theorem o_refValid35_eq : treeOf ⟨Try.prog, refValid35C, [good71C], [refValid35I]⟩ 100000 Try.f35 = o_refValid35 := by kernel_rfl
theorem refValid35_of (hd : ∀ c ∈ ([good71C] : List Ctr), c.ok Try.prog) (h : ∀ ρ : Env, ρ.good → (refValid35C).pre ρ → o_refValid35.den ⟨Try.prog, refValid35C, [good71C], [refValid35I]⟩ ρ) : (refValid35C).ok Try.prog :=
  ok_of_tree Try.func35 (fun a w => Try.call35 a w) hd 100000 (fun ρ hg hp => by rw [o_refValid35_eq]; exact h ρ hg hp)
def o_own21 : Out := (.fresh 5 (.need (.cmp .leq (.lit (0)) (.var 1)) (.need (.cmp .leq (.var 1) (.dlen (.var 3))) (.need (.cmp .leq (.tims (.lit (16)) (.var 1)) (.lit (140737488355328))) (.fresh 6 (.fresh 7 (.ret 0 ⟨5, [(7, (.t (.dtake (.var 3) (.var 1)))), (6, (.t (.var 7))), (5, (.r 6))], [((.var 6), (.var 7)), ((.var 1), (.var 1)), ((.lit (0)), (.lit (0)))], [], []⟩)))))))
theorem o_own21_eq : treeOf ⟨Try.prog, own21C, [], []⟩ 100000 Try.f21 = o_own21 := by kernel_rfl
theorem own21_of (hd : ∀ c ∈ ([] : List Ctr), c.ok Try.prog) (h : ∀ ρ : Env, ρ.good → (own21C).pre ρ → o_own21.den ⟨Try.prog, own21C, [], []⟩ ρ) : (own21C).ok Try.prog :=
  ok_of_tree Try.func21 (fun a w => Try.call21 a w) hd 100000 (fun ρ hg hp => by rw [o_own21_eq]; exact h ρ hg hp)
def o_merge32 : Out := (.pre 0 ⟨0, [(4, (.t (.var 4))), (3, (.t (.var 3))), (2, (.t (.var 2))), (1, (.t (.var 1))), (0, (.r 0))], [((.lit (0)), (.lit (0)))], [], []⟩ (.both (.fresh 10 (.post 0 0 ⟨0, [(4, (.t (.var 4))), (3, (.t (.var 3))), (2, (.t (.var 2))), (1, (.t (.var 1))), (0, (.r 0))], [((.lit (0)), (.lit (0)))], [], []⟩ 10 (.br (.not (.var 10))
 (.ret 0 ⟨10, [], [((.lit (2)), (.lit (2)))], [], []⟩)
 (.pre 0 ⟨0, [(4, (.t (.var 9))), (3, (.t (.var 8))), (2, (.t (.var 7))), (1, (.t (.var 6))), (0, (.r 5))], [((.lit (0)), (.lit (0)))], [], []⟩ (.both (.fresh 11 (.post 0 0 ⟨0, [(4, (.t (.var 9))), (3, (.t (.var 8))), (2, (.t (.var 7))), (1, (.t (.var 6))), (0, (.r 5))], [((.lit (0)), (.lit (0)))], [], []⟩ 11 (.br (.not (.var 11))
 (.ret 0 ⟨10, [], [((.lit (2)), (.lit (2)))], [], []⟩)
 (.need (.cmp .leq (.lit (0)) (.var 1)) (.need (.cmp .leq (.lit (0)) (.var 6)) (.br (.cmp .neq (.var 1) (.var 6))
 (.ret 1 ⟨10, [], [((.lit (10)), (.lit (10)))], [], []⟩)
 (.pre 1 ⟨0, [(4, (.t (.var 4))), (3, (.t (.var 3))), (2, (.t (.var 2))), (1, (.t (.var 1))), (0, (.r 0))], [((.lit (0)), (.lit (0)))], [], []⟩ (.both (.fresh 12 (.fresh 13 (.fresh 14 (.post 1 0 ⟨0, [(4, (.t (.var 4))), (3, (.t (.var 3))), (2, (.t (.var 2))), (1, (.t (.var 1))), (0, (.r 0))], [((.lit (0)), (.lit (0)))], [], []⟩ 12 (.inv 0 15 ⟨1000, [(1003, (.t (.var 14))), (1000, (.t (.lit (0)))), (1002, (.t (.var 13))), (1001, (.r 12))], [((.var 1002), (.var 13)), ((.var 6), (.var 6)), ((.var 7), (.var 7)), ((.var 6), (.var 6)), ((.lit (0)), (.lit (0))), ((.var 1), (.var 1)), ((.lit (0)), (.lit (0)))], [], []⟩ (.fresh 15 (.fresh 16 (.fresh 17 (.fresh 18 (.hyp 0 15 (.br (.cmp .lss (.var 15) (.var 6))
 (.need (.cmp .leq (.lit (0)) (.var 15)) (.need (.cmp .lss (.var 15) (.dlen (.var 8))) (.fresh 19 (.need (.cmp .lss (.var 15) (.var 1)) (.need (.cmp .lss (.var 15) (.dlen (.var 18))) (.both (.pre 2 ⟨0, [(3, (.t (.icell (.var 8) (.var 15) 1))), (2, (.t (.icell (.var 8) (.var 15) 0))), (1, (.t (.icell (.var 18) (.var 15) 1))), (0, (.t (.icell (.var 18) (.var 15) 0)))], [], [], []⟩ (.both (.post 2 0 ⟨0, [(3, (.t (.icell (.var 8) (.var 15) 1))), (2, (.t (.icell (.var 8) (.var 15) 0))), (1, (.t (.icell (.var 18) (.var 15) 1))), (0, (.t (.icell (.var 18) (.var 15) 0)))], [], [], []⟩ 20 (.both (.back 0 15 ⟨1000, [(1003, (.t (.dput (.var 18) (.var 15) 0 (.rcons (.vint .u64 (.icell (.var 8) (.var 15) 0)) (.rcons (.vint .u8 (.icell (.var 8) (.var 15) 1)) .rnil))))), (1000, (.t (.arith .add .i64 (.var 15) (.lit (1))))), (1002, (.t (.var 17))), (1001, (.r 16))], [((.var 1002), (.var 17)), ((.var 6), (.var 6)), ((.var 7), (.var 7)), ((.var 6), (.var 6)), ((.lit (0)), (.lit (0))), ((.var 1), (.var 1)), ((.lit (0)), (.lit (0)))], [], []⟩) .top)) (.both (.post 2 1 ⟨0, [(3, (.t (.icell (.var 8) (.var 15) 1))), (2, (.t (.icell (.var 8) (.var 15) 0))), (1, (.t (.icell (.var 18) (.var 15) 1))), (0, (.t (.icell (.var 18) (.var 15) 0)))], [], [], []⟩ 20 (.both (.back 0 15 ⟨1000, [(1003, (.t (.dput (.var 18) (.var 15) 0 (.rcons (.vint .u64 (.icell (.var 18) (.var 15) 0)) (.rcons (.vint .u8 (.icell (.var 18) (.var 15) 1)) .rnil))))), (1000, (.t (.arith .add .i64 (.var 15) (.lit (1))))), (1002, (.t (.var 17))), (1001, (.r 16))], [((.var 1002), (.var 17)), ((.var 6), (.var 6)), ((.var 7), (.var 7)), ((.var 6), (.var 6)), ((.lit (0)), (.lit (0))), ((.var 1), (.var 1)), ((.lit (0)), (.lit (0)))], [], []⟩) .top)) .top))) .top))))))
 (.ret 2 ⟨10, [(12, (.t (.var 18))), (11, (.t (.var 17))), (10, (.r 16))], [((.var 11), (.var 17)), ((.lit (0)), (.lit (0))), ((.var 1), (.var 1)), ((.lit (0)), (.lit (0)))], [], []⟩)))))))))))) .top)))))))) .top))))) .top))
theorem o_merge32_eq : treeOf ⟨Try.prog, merge32C, [valid20C, clone63C, joinD], [merge32I]⟩ 100000 Try.f32 = o_merge32 := by kernel_rfl
theorem merge32_of (hd : ∀ c ∈ ([valid20C, clone63C, joinD] : List Ctr), c.ok Try.prog) (h : ∀ ρ : Env, ρ.good → (merge32C).pre ρ → o_merge32.den ⟨Try.prog, merge32C, [valid20C, clone63C, joinD], [merge32I]⟩ ρ) : (merge32C).ok Try.prog :=
  ok_of_tree Try.func32 (fun a w => Try.call32 a w) hd 100000 (fun ρ hg hp => by rw [o_merge32_eq]; exact h ρ hg hp)
def o_refNewer79 : Out := (.fresh 4 (.fresh 5 (.br (.cmp .neq (.var 0) (.var 2))
 (.need (.beq (.or (.cmp .gtr (.var 0) (.var 2)) (.and (.cmp .eql (.var 0) (.var 2)) (.cmp .gtr (.var 1) (.var 3)))) (.cmp .gtr (.var 0) (.var 2))) (.ret 0 ⟨4, [], [], [((.or (.cmp .gtr (.var 0) (.var 2)) (.and (.cmp .eql (.var 0) (.var 2)) (.cmp .gtr (.var 1) (.var 3)))), (.cmp .gtr (.var 0) (.var 2)))], []⟩))
 (.need (.beq (.or (.cmp .gtr (.var 0) (.var 2)) (.and (.cmp .eql (.var 0) (.var 2)) (.cmp .gtr (.var 1) (.var 3)))) (.cmp .gtr (.var 1) (.var 3))) (.ret 0 ⟨4, [], [], [((.or (.cmp .gtr (.var 0) (.var 2)) (.and (.cmp .eql (.var 0) (.var 2)) (.cmp .gtr (.var 1) (.var 3)))), (.cmp .gtr (.var 1) (.var 3)))], []⟩)))))
theorem o_refNewer79_eq : treeOf ⟨Try.prog, refNewer79C, [], []⟩ 100000 Try.f79 = o_refNewer79 := by kernel_rfl
theorem refNewer79_of (hd : ∀ c ∈ ([] : List Ctr), c.ok Try.prog) (h : ∀ ρ : Env, ρ.good → (refNewer79C).pre ρ → o_refNewer79.den ⟨Try.prog, refNewer79C, [], []⟩ ρ) : (refNewer79C).ok Try.prog :=
  ok_of_tree Try.func79 (fun a w => Try.call79 a w) hd 100000 (fun ρ hg hp => by rw [o_refNewer79_eq]; exact h ρ hg hp)
def o_refJoin70 : Out := (.fresh 4 (.fresh 5 (.fresh 6 (.pre 0 ⟨0, [(3, (.t (.var 1))), (2, (.t (.var 0))), (1, (.t (.var 3))), (0, (.t (.var 2)))], [], [], []⟩ (.both (.post 0 0 ⟨0, [(3, (.t (.var 1))), (2, (.t (.var 0))), (1, (.t (.var 3))), (0, (.t (.var 2)))], [], [], []⟩ 7 (.br (.or (.cmp .gtr (.var 2) (.var 0)) (.and (.cmp .eql (.var 2) (.var 0)) (.cmp .gtr (.var 3) (.var 1))))
 (.ret 0 ⟨4, [], [((.var 3), (.var 3)), ((.var 2), (.var 2))], [], []⟩)
 (.ret 1 ⟨4, [], [((.var 1), (.var 1)), ((.var 0), (.var 0))], [], []⟩))) .top)))))
theorem o_refJoin70_eq : treeOf ⟨Try.prog, refJoin70C, [refNewer79C], []⟩ 100000 Try.f70 = o_refJoin70 := by kernel_rfl
theorem refJoin70_of (hd : ∀ c ∈ ([refNewer79C] : List Ctr), c.ok Try.prog) (h : ∀ ρ : Env, ρ.good → (refJoin70C).pre ρ → o_refJoin70.den ⟨Try.prog, refJoin70C, [refNewer79C], []⟩ ρ) : (refJoin70C).ok Try.prog :=
  ok_of_tree Try.func70 (fun a w => Try.call70 a w) hd 100000 (fun ρ hg hp => by rw [o_refJoin70_eq]; exact h ρ hg hp)
def o_refMerge33 : Out := (.pre 0 ⟨0, [(4, (.t (.var 4))), (3, (.t (.var 3))), (2, (.t (.var 2))), (1, (.t (.var 1))), (0, (.r 0))], [((.lit (0)), (.lit (0)))], [], []⟩ (.both (.fresh 10 (.post 0 0 ⟨0, [(4, (.t (.var 4))), (3, (.t (.var 3))), (2, (.t (.var 2))), (1, (.t (.var 1))), (0, (.r 0))], [((.lit (0)), (.lit (0)))], [], []⟩ 10 (.br (.not (.var 10))
 (.ret 0 ⟨10, [], [((.lit (2)), (.lit (2)))], [], []⟩)
 (.pre 0 ⟨0, [(4, (.t (.var 9))), (3, (.t (.var 8))), (2, (.t (.var 7))), (1, (.t (.var 6))), (0, (.r 5))], [((.lit (0)), (.lit (0)))], [], []⟩ (.both (.fresh 11 (.post 0 0 ⟨0, [(4, (.t (.var 9))), (3, (.t (.var 8))), (2, (.t (.var 7))), (1, (.t (.var 6))), (0, (.r 5))], [((.lit (0)), (.lit (0)))], [], []⟩ 11 (.br (.not (.var 11))
 (.ret 0 ⟨10, [], [((.lit (2)), (.lit (2)))], [], []⟩)
 (.need (.cmp .leq (.lit (0)) (.var 1)) (.need (.cmp .leq (.lit (0)) (.var 6)) (.br (.cmp .neq (.var 1) (.var 6))
 (.ret 1 ⟨10, [], [((.lit (10)), (.lit (10)))], [], []⟩)
 (.fresh 12 (.inv 0 13 ⟨1000, [(1003, (.t .dnil)), (1000, (.t (.lit (0)))), (1002, (.t (.lit (0)))), (1004, (.t (.lit (0)))), (1001, (.r 12))], [((.var 1002), (.lit (0))), ((.lit (0)), (.lit (0))), ((.var 7), (.var 7)), ((.var 6), (.var 6)), ((.lit (0)), (.lit (0))), ((.var 2), (.var 2)), ((.var 1), (.var 1)), ((.lit (0)), (.lit (0)))], [], []⟩ (.fresh 13 (.fresh 14 (.fresh 15 (.fresh 16 (.fresh 17 (.hyp 0 13 (.br (.cmp .lss (.var 13) (.var 1))
 (.need (.cmp .leq (.lit (0)) (.var 13)) (.need (.cmp .lss (.var 13) (.dlen (.var 3))) (.need (.cmp .lss (.var 13) (.var 6)) (.need (.cmp .lss (.var 13) (.dlen (.var 8))) (.both (.pre 1 ⟨0, [(3, (.t (.icell (.var 8) (.var 13) 1))), (2, (.t (.icell (.var 8) (.var 13) 0))), (1, (.t (.icell (.var 3) (.var 13) 1))), (0, (.t (.icell (.var 3) (.var 13) 0)))], [], [], []⟩ (.both (.post 1 0 ⟨0, [(3, (.t (.icell (.var 8) (.var 13) 1))), (2, (.t (.icell (.var 8) (.var 13) 0))), (1, (.t (.icell (.var 3) (.var 13) 1))), (0, (.t (.icell (.var 3) (.var 13) 0)))], [], [], []⟩ 18 (.both (.fresh 18 (.both (.need (.cmp .eql (.var 17) (.dlen (.var 16))) (.need (.cmp .leq (.tims (.lit (16)) (.plus (.var 17) (.lit (1)))) (.lit (140737488355328))) (.fresh 19 (.fresh 20 (.both (.back 0 13 ⟨1000, [(1003, (.t (.dapp (.var 16) (.rcons (.vint .u64 (.icell (.var 8) (.var 13) 0)) (.rcons (.vint .u8 (.icell (.var 8) (.var 13) 1)) .rnil))))), (1000, (.t (.arith .add .i64 (.var 13) (.lit (1))))), (1002, (.t (.var 20))), (1004, (.t (.plus (.var 17) (.lit (1))))), (1001, (.r 19))], [((.var 1002), (.var 20)), ((.lit (0)), (.lit (0))), ((.var 7), (.var 7)), ((.var 6), (.var 6)), ((.lit (0)), (.lit (0))), ((.var 2), (.var 2)), ((.var 1), (.var 1)), ((.lit (0)), (.lit (0)))], [], []⟩) .top))))) .top)) .top)) (.both (.post 1 1 ⟨0, [(3, (.t (.icell (.var 8) (.var 13) 1))), (2, (.t (.icell (.var 8) (.var 13) 0))), (1, (.t (.icell (.var 3) (.var 13) 1))), (0, (.t (.icell (.var 3) (.var 13) 0)))], [], [], []⟩ 18 (.both (.fresh 18 (.both (.need (.cmp .eql (.var 17) (.dlen (.var 16))) (.need (.cmp .leq (.tims (.lit (16)) (.plus (.var 17) (.lit (1)))) (.lit (140737488355328))) (.fresh 19 (.fresh 20 (.both (.back 0 13 ⟨1000, [(1003, (.t (.dapp (.var 16) (.rcons (.vint .u64 (.icell (.var 3) (.var 13) 0)) (.rcons (.vint .u8 (.icell (.var 3) (.var 13) 1)) .rnil))))), (1000, (.t (.arith .add .i64 (.var 13) (.lit (1))))), (1002, (.t (.var 20))), (1004, (.t (.plus (.var 17) (.lit (1))))), (1001, (.r 19))], [((.var 1002), (.var 20)), ((.lit (0)), (.lit (0))), ((.var 7), (.var 7)), ((.var 6), (.var 6)), ((.lit (0)), (.lit (0))), ((.var 2), (.var 2)), ((.var 1), (.var 1)), ((.lit (0)), (.lit (0)))], [], []⟩) .top))))) .top)) .top)) .top))) .top)))))
 (.need (.cmp .eql (.var 1) (.var 17)) (.ret 2 ⟨10, [(12, (.t (.var 16))), (11, (.t (.var 15))), (10, (.r 14))], [((.var 11), (.var 15)), ((.lit (0)), (.lit (0))), ((.var 1), (.var 17)), ((.lit (0)), (.lit (0)))], [], []⟩))))))))))))))))) .top))))) .top))
theorem o_refMerge33_eq : treeOf ⟨Try.prog, refMerge33C, [refValid35C, refJoin70C], [refMerge33I]⟩ 100000 Try.f33 = o_refMerge33 := by kernel_rfl
theorem refMerge33_of (hd : ∀ c ∈ ([refValid35C, refJoin70C] : List Ctr), c.ok Try.prog) (h : ∀ ρ : Env, ρ.good → (refMerge33C).pre ρ → o_refMerge33.den ⟨Try.prog, refMerge33C, [refValid35C, refJoin70C], [refMerge33I]⟩ ρ) : (refMerge33C).ok Try.prog :=
  ok_of_tree Try.func33 (fun a w => Try.call33 a w) hd 100000 (fun ρ hg hp => by rw [o_refMerge33_eq]; exact h ρ hg hp)
def o_same34 : Out := (.need (.cmp .leq (.lit (0)) (.var 1)) (.need (.cmp .leq (.lit (0)) (.var 6)) (.br (.cmp .neq (.var 1) (.var 6))
 (.ret 0 ⟨10, [(10, (.t (.bl false)))], [], [], []⟩)
 (.inv 0 10 ⟨1000, [(1000, (.t (.lit (0))))], [((.var 7), (.var 7)), ((.var 6), (.var 6)), ((.lit (0)), (.lit (0))), ((.var 2), (.var 2)), ((.var 1), (.var 1)), ((.lit (0)), (.lit (0)))], [], []⟩ (.fresh 10 (.hyp 0 10 (.br (.cmp .lss (.var 10) (.var 1))
 (.need (.cmp .leq (.lit (0)) (.var 10)) (.need (.cmp .lss (.var 10) (.dlen (.var 3))) (.need (.cmp .lss (.var 10) (.var 6)) (.need (.cmp .lss (.var 10) (.dlen (.var 8))) (.br (.not (.and (.cmp .eql (.icell (.var 3) (.var 10) 0) (.icell (.var 8) (.var 10) 0)) (.cmp .eql (.icell (.var 3) (.var 10) 1) (.icell (.var 8) (.var 10) 1))))
 (.ret 0 ⟨10, [(10, (.t (.bl false)))], [], [], []⟩)
 (.back 0 10 ⟨1000, [(1000, (.t (.arith .add .i64 (.var 10) (.lit (1)))))], [((.var 7), (.var 7)), ((.var 6), (.var 6)), ((.lit (0)), (.lit (0))), ((.var 2), (.var 2)), ((.var 1), (.var 1)), ((.lit (0)), (.lit (0)))], [], []⟩))))))
 (.ret 0 ⟨10, [(10, (.t (.bl true)))], [], [], []⟩))))))))
theorem o_same34_eq : treeOf ⟨Try.prog, same34C, [], [same34I]⟩ 100000 Try.f34 = o_same34 := by kernel_rfl
theorem same34_of (hd : ∀ c ∈ ([] : List Ctr), c.ok Try.prog) (h : ∀ ρ : Env, ρ.good → (same34C).pre ρ → o_same34.den ⟨Try.prog, same34C, [], [same34I]⟩ ρ) : (same34C).ok Try.prog :=
  ok_of_tree Try.func34 (fun a w => Try.call34 a w) hd 100000 (fun ρ hg hp => by rw [o_same34_eq]; exact h ρ hg hp)
def o_sameInts36 : Out := (.need (.cmp .leq (.lit (0)) (.var 1)) (.need (.cmp .leq (.lit (0)) (.var 6)) (.br (.cmp .neq (.var 1) (.var 6))
 (.ret 0 ⟨10, [(10, (.t (.bl false)))], [], [], []⟩)
 (.inv 0 10 ⟨1000, [(1000, (.t (.lit (0))))], [((.var 7), (.var 7)), ((.var 6), (.var 6)), ((.lit (0)), (.lit (0))), ((.var 2), (.var 2)), ((.var 1), (.var 1)), ((.lit (0)), (.lit (0)))], [], []⟩ (.fresh 10 (.hyp 0 10 (.br (.cmp .lss (.var 10) (.var 1))
 (.need (.cmp .leq (.lit (0)) (.var 10)) (.need (.cmp .lss (.var 10) (.dlen (.var 3))) (.need (.cmp .lss (.var 10) (.var 6)) (.need (.cmp .lss (.var 10) (.dlen (.var 8))) (.br (.cmp .neq (.icell (.var 3) (.var 10) 0) (.icell (.var 8) (.var 10) 0))
 (.ret 0 ⟨10, [(10, (.t (.bl false)))], [], [], []⟩)
 (.back 0 10 ⟨1000, [(1000, (.t (.arith .add .i64 (.var 10) (.lit (1)))))], [((.var 7), (.var 7)), ((.var 6), (.var 6)), ((.lit (0)), (.lit (0))), ((.var 2), (.var 2)), ((.var 1), (.var 1)), ((.lit (0)), (.lit (0)))], [], []⟩))))))
 (.ret 0 ⟨10, [(10, (.t (.bl true)))], [], [], []⟩))))))))
theorem o_sameInts36_eq : treeOf ⟨Try.prog, sameInts36C, [], [sameInts36I]⟩ 100000 Try.f36 = o_sameInts36 := by kernel_rfl
theorem sameInts36_of (hd : ∀ c ∈ ([] : List Ctr), c.ok Try.prog) (h : ∀ ρ : Env, ρ.good → (sameInts36C).pre ρ → o_sameInts36.den ⟨Try.prog, sameInts36C, [], [sameInts36I]⟩ ρ) : (sameInts36C).ok Try.prog :=
  ok_of_tree Try.func36 (fun a w => Try.call36 a w) hd 100000 (fun ρ hg hp => by rw [o_sameInts36_eq]; exact h ρ hg hp)
def o_live37 : Out := (.need (.cmp .leq (.lit (0)) (.var 1)) (.inv 0 5 ⟨1000, [(1003, (.t .dnil)), (1000, (.t (.lit (0)))), (1002, (.t (.lit (0)))), (1004, (.t (.lit (0)))), (1001, .nil)], [((.var 1002), (.lit (0))), ((.var 1), (.var 1)), ((.var 2), (.var 2)), ((.var 1), (.var 1)), ((.lit (0)), (.lit (0))), ((.lit (0)), (.lit (0)))], [], []⟩ (.fresh 5 (.fresh 6 (.fresh 7 (.fresh 8 (.fresh 9 (.hyp 0 5 (.br (.cmp .lss (.var 5) (.var 1))
 (.need (.cmp .leq (.lit (0)) (.var 5)) (.need (.cmp .lss (.var 5) (.dlen (.var 3))) (.fresh 10 (.pre 0 ⟨0, [(1, (.t (.icell (.var 3) (.var 5) 1))), (0, (.t (.icell (.var 3) (.var 5) 0)))], [], [], []⟩ (.both (.fresh 11 (.post 0 0 ⟨0, [(1, (.t (.icell (.var 3) (.var 5) 1))), (0, (.t (.icell (.var 3) (.var 5) 0)))], [], [], []⟩ 11 (.br (.var 11)
 (.fresh 12 (.need (.cmp .eql (.var 9) (.dlen (.var 8))) (.need (.cmp .leq (.tims (.lit (8)) (.plus (.var 9) (.lit (1)))) (.lit (140737488355328))) (.fresh 13 (.fresh 14 (.back 0 5 ⟨1000, [(1003, (.t (.dapp (.var 8) (.rcons (.vint .i64 (.var 5)) .rnil)))), (1000, (.t (.arith .add .i64 (.var 5) (.lit (1))))), (1002, (.t (.var 14))), (1004, (.t (.plus (.var 9) (.lit (1))))), (1001, (.r 13))], [((.var 1002), (.var 14)), ((.var 1), (.var 1)), ((.var 2), (.var 2)), ((.var 1), (.var 1)), ((.lit (0)), (.lit (0))), ((.lit (0)), (.lit (0)))], [], []⟩))))))
 (.back 0 5 ⟨1000, [(1003, (.t (.var 8))), (1000, (.t (.arith .add .i64 (.var 5) (.lit (1))))), (1002, (.t (.var 7))), (1004, (.t (.var 9))), (1001, (.r 6))], [((.var 1002), (.var 7)), ((.var 1), (.var 1)), ((.var 2), (.var 2)), ((.var 1), (.var 1)), ((.lit (0)), (.lit (0))), ((.lit (0)), (.lit (0)))], [], []⟩)))) .top)))))
 (.ret 0 ⟨5, [(7, (.t (.var 8))), (6, (.t (.var 7))), (8, (.t (.var 9))), (5, (.r 6))], [((.var 6), (.var 7)), ((.lit (0)), (.lit (0)))], [], []⟩))))))))))
theorem o_live37_eq : treeOf ⟨Try.prog, live37C, [live72C], [live37I]⟩ 100000 Try.f37 = o_live37 := by kernel_rfl
theorem live37_of (hd : ∀ c ∈ ([live72C] : List Ctr), c.ok Try.prog) (h : ∀ ρ : Env, ρ.good → (live37C).pre ρ → o_live37.den ⟨Try.prog, live37C, [live72C], [live37I]⟩ ρ) : (live37C).ok Try.prog :=
  ok_of_tree Try.func37 (fun a w => Try.call37 a w) hd 100000 (fun ρ hg hp => by rw [o_live37_eq]; exact h ρ hg hp)
def o_refLive38 : Out := (.fresh 5 (.inv 0 6 ⟨1000, [(1003, (.t .dnil)), (1000, (.t (.lit (0)))), (1002, (.t (.lit (0)))), (1004, (.t (.lit (0)))), (1001, (.r 5))], [((.var 1002), (.lit (0))), ((.lit (0)), (.lit (0))), ((.var 2), (.var 2)), ((.var 1), (.var 1)), ((.lit (0)), (.lit (0)))], [], []⟩ (.fresh 6 (.fresh 7 (.fresh 8 (.fresh 9 (.fresh 10 (.hyp 0 6 (.need (.cmp .leq (.lit (0)) (.var 1)) (.br (.cmp .lss (.var 6) (.var 1))
 (.need (.cmp .leq (.lit (0)) (.var 6)) (.need (.cmp .lss (.var 6) (.dlen (.var 3))) (.br (.cmp .eql (.icell (.var 3) (.var 6) 1) (.lit (1)))
 (.fresh 11 (.need (.cmp .eql (.var 10) (.dlen (.var 9))) (.need (.cmp .leq (.tims (.lit (8)) (.plus (.var 10) (.lit (1)))) (.lit (140737488355328))) (.fresh 12 (.fresh 13 (.back 0 6 ⟨1000, [(1003, (.t (.dapp (.var 9) (.rcons (.vint .i64 (.var 6)) .rnil)))), (1000, (.t (.arith .add .i64 (.var 6) (.lit (1))))), (1002, (.t (.var 13))), (1004, (.t (.plus (.var 10) (.lit (1))))), (1001, (.r 12))], [((.var 1002), (.var 13)), ((.lit (0)), (.lit (0))), ((.var 2), (.var 2)), ((.var 1), (.var 1)), ((.lit (0)), (.lit (0)))], [], []⟩))))))
 (.br (.cmp .eql (.icell (.var 3) (.var 6) 1) (.lit (2)))
 (.fresh 11 (.need (.cmp .eql (.var 10) (.dlen (.var 9))) (.need (.cmp .leq (.tims (.lit (8)) (.plus (.var 10) (.lit (1)))) (.lit (140737488355328))) (.fresh 12 (.fresh 13 (.back 0 6 ⟨1000, [(1003, (.t (.dapp (.var 9) (.rcons (.vint .i64 (.var 6)) .rnil)))), (1000, (.t (.arith .add .i64 (.var 6) (.lit (1))))), (1002, (.t (.var 13))), (1004, (.t (.plus (.var 10) (.lit (1))))), (1001, (.r 12))], [((.var 1002), (.var 13)), ((.lit (0)), (.lit (0))), ((.var 2), (.var 2)), ((.var 1), (.var 1)), ((.lit (0)), (.lit (0)))], [], []⟩))))))
 (.back 0 6 ⟨1000, [(1003, (.t (.var 9))), (1000, (.t (.arith .add .i64 (.var 6) (.lit (1))))), (1002, (.t (.var 8))), (1004, (.t (.var 10))), (1001, (.r 7))], [((.var 1002), (.var 8)), ((.lit (0)), (.lit (0))), ((.var 2), (.var 2)), ((.var 1), (.var 1)), ((.lit (0)), (.lit (0)))], [], []⟩)))))
 (.ret 0 ⟨5, [(7, (.t (.var 9))), (6, (.t (.var 8))), (8, (.t (.var 10))), (5, (.r 7))], [((.var 6), (.var 8)), ((.lit (0)), (.lit (0)))], [], []⟩)))))))))))
theorem o_refLive38_eq : treeOf ⟨Try.prog, refLive38C, [], [refLive38I]⟩ 100000 Try.f38 = o_refLive38 := by kernel_rfl
theorem refLive38_of (hd : ∀ c ∈ ([] : List Ctr), c.ok Try.prog) (h : ∀ ρ : Env, ρ.good → (refLive38C).pre ρ → o_refLive38.den ⟨Try.prog, refLive38C, [], [refLive38I]⟩ ρ) : (refLive38C).ok Try.prog :=
  ok_of_tree Try.func38 (fun a w => Try.call38 a w) hd 100000 (fun ρ hg hp => by rw [o_refLive38_eq]; exact h ρ hg hp)
def o_mergeV32 : Out := (.pre 0 ⟨0, [(4, (.t (.var 4))), (3, (.t (.var 3))), (2, (.t (.var 2))), (1, (.t (.var 1))), (0, (.r 0))], [((.lit (0)), (.lit (0)))], [], []⟩ (.both (.fresh 10 (.post 0 0 ⟨0, [(4, (.t (.var 4))), (3, (.t (.var 3))), (2, (.t (.var 2))), (1, (.t (.var 1))), (0, (.r 0))], [((.lit (0)), (.lit (0)))], [], []⟩ 10 (.br (.not (.var 10))
 (.stuck 7 0 0)
 (.pre 0 ⟨0, [(4, (.t (.var 9))), (3, (.t (.var 8))), (2, (.t (.var 7))), (1, (.t (.var 6))), (0, (.r 5))], [((.lit (0)), (.lit (0)))], [], []⟩ (.both (.fresh 11 (.post 0 0 ⟨0, [(4, (.t (.var 9))), (3, (.t (.var 8))), (2, (.t (.var 7))), (1, (.t (.var 6))), (0, (.r 5))], [((.lit (0)), (.lit (0)))], [], []⟩ 11 (.br (.not (.var 11))
 (.stuck 7 0 0)
 (.need (.cmp .leq (.lit (0)) (.var 1)) (.need (.cmp .leq (.lit (0)) (.var 6)) (.br (.cmp .neq (.var 1) (.var 6))
 (.stuck 7 0 0)
 (.pre 1 ⟨0, [(4, (.t (.var 4))), (3, (.t (.var 3))), (2, (.t (.var 2))), (1, (.t (.var 1))), (0, (.r 0))], [((.lit (0)), (.lit (0)))], [], []⟩ (.both (.fresh 12 (.fresh 13 (.fresh 14 (.post 1 0 ⟨0, [(4, (.t (.var 4))), (3, (.t (.var 3))), (2, (.t (.var 2))), (1, (.t (.var 1))), (0, (.r 0))], [((.lit (0)), (.lit (0)))], [], []⟩ 12 (.inv 0 15 ⟨1000, [(1003, (.t (.var 14))), (1000, (.t (.lit (0)))), (1002, (.t (.var 13))), (1001, (.r 12))], [((.var 1002), (.var 13)), ((.var 6), (.var 6)), ((.var 7), (.var 7)), ((.var 6), (.var 6)), ((.lit (0)), (.lit (0))), ((.var 1), (.var 1)), ((.lit (0)), (.lit (0)))], [], []⟩ (.fresh 15 (.fresh 16 (.fresh 17 (.fresh 18 (.hyp 0 15 (.br (.cmp .lss (.var 15) (.var 6))
 (.need (.cmp .leq (.lit (0)) (.var 15)) (.need (.cmp .lss (.var 15) (.dlen (.var 8))) (.fresh 19 (.need (.cmp .lss (.var 15) (.var 1)) (.need (.cmp .lss (.var 15) (.dlen (.var 18))) (.both (.pre 2 ⟨0, [(3, (.t (.icell (.var 8) (.var 15) 1))), (2, (.t (.icell (.var 8) (.var 15) 0))), (1, (.t (.icell (.var 18) (.var 15) 1))), (0, (.t (.icell (.var 18) (.var 15) 0)))], [], [], []⟩ (.both (.post 2 0 ⟨0, [(3, (.t (.icell (.var 8) (.var 15) 1))), (2, (.t (.icell (.var 8) (.var 15) 0))), (1, (.t (.icell (.var 18) (.var 15) 1))), (0, (.t (.icell (.var 18) (.var 15) 0)))], [], [], []⟩ 20 (.both (.back 0 15 ⟨1000, [(1003, (.t (.dput (.var 18) (.var 15) 0 (.rcons (.vint .u64 (.icell (.var 8) (.var 15) 0)) (.rcons (.vint .u8 (.icell (.var 8) (.var 15) 1)) .rnil))))), (1000, (.t (.arith .add .i64 (.var 15) (.lit (1))))), (1002, (.t (.var 17))), (1001, (.r 16))], [((.var 1002), (.var 17)), ((.var 6), (.var 6)), ((.var 7), (.var 7)), ((.var 6), (.var 6)), ((.lit (0)), (.lit (0))), ((.var 1), (.var 1)), ((.lit (0)), (.lit (0)))], [], []⟩) .top)) (.both (.post 2 1 ⟨0, [(3, (.t (.icell (.var 8) (.var 15) 1))), (2, (.t (.icell (.var 8) (.var 15) 0))), (1, (.t (.icell (.var 18) (.var 15) 1))), (0, (.t (.icell (.var 18) (.var 15) 0)))], [], [], []⟩ 20 (.both (.back 0 15 ⟨1000, [(1003, (.t (.dput (.var 18) (.var 15) 0 (.rcons (.vint .u64 (.icell (.var 18) (.var 15) 0)) (.rcons (.vint .u8 (.icell (.var 18) (.var 15) 1)) .rnil))))), (1000, (.t (.arith .add .i64 (.var 15) (.lit (1))))), (1002, (.t (.var 17))), (1001, (.r 16))], [((.var 1002), (.var 17)), ((.var 6), (.var 6)), ((.var 7), (.var 7)), ((.var 6), (.var 6)), ((.lit (0)), (.lit (0))), ((.var 1), (.var 1)), ((.lit (0)), (.lit (0)))], [], []⟩) .top)) .top))) .top))))))
 (.ret 0 ⟨10, [(12, (.t (.var 18))), (11, (.t (.var 17))), (10, (.r 16))], [((.var 11), (.var 17)), ((.lit (0)), (.lit (0))), ((.var 1), (.var 1)), ((.lit (0)), (.lit (0)))], [], []⟩)))))))))))) .top)))))))) .top))))) .top))
theorem o_mergeV32_eq : treeOf ⟨Try.prog, mergeV32C, [valid20C, clone63C, joinD], [merge32I]⟩ 100000 Try.f32 = o_mergeV32 := by kernel_rfl
theorem mergeV32_of (hd : ∀ c ∈ ([valid20C, clone63C, joinD] : List Ctr), c.ok Try.prog) (h : ∀ ρ : Env, ρ.good → (mergeV32C).pre ρ → o_mergeV32.den ⟨Try.prog, mergeV32C, [valid20C, clone63C, joinD], [merge32I]⟩ ρ) : (mergeV32C).ok Try.prog :=
  ok_of_tree Try.func32 (fun a w => Try.call32 a w) hd 100000 (fun ρ hg hp => by rw [o_mergeV32_eq]; exact h ρ hg hp)
def o_lawMerges : Out := (.pre 1 ⟨0, [(4, (.t (.var 4))), (3, (.t (.var 3))), (2, (.t (.var 2))), (1, (.t (.var 1))), (0, (.r 0))], [((.lit (0)), (.lit (0)))], [], []⟩ (.both (.fresh 15 (.fresh 16 (.fresh 17 (.post 1 0 ⟨0, [(4, (.t (.var 4))), (3, (.t (.var 3))), (2, (.t (.var 2))), (1, (.t (.var 1))), (0, (.r 0))], [((.lit (0)), (.lit (0)))], [], []⟩ 15 (.pre 2 ⟨0, [(4, (.t (.var 16))), (3, (.t (.var 17))), (2, (.t (.var 16))), (1, (.t (.var 1))), (0, (.r 15))], [((.lit (0)), (.lit (0)))], [], []⟩ (.both (.fresh 18 (.post 2 0 ⟨0, [(4, (.t (.var 16))), (3, (.t (.var 17))), (2, (.t (.var 16))), (1, (.t (.var 1))), (0, (.r 15))], [((.lit (0)), (.lit (0)))], [], []⟩ 18 (.br (.not (.var 18))
 (.pre 0 ⟨0, [], [], [], []⟩ (.both (.post 0 0 ⟨0, [], [], [], []⟩ 19 (.ret 0 ⟨15, [], [], [((.bl true), (.bl true))], []⟩)) .top))
 (.pre 1 ⟨0, [(4, (.t (.var 9))), (3, (.t (.var 8))), (2, (.t (.var 7))), (1, (.t (.var 6))), (0, (.r 5))], [((.lit (0)), (.lit (0)))], [], []⟩ (.both (.fresh 19 (.fresh 20 (.fresh 21 (.post 1 0 ⟨0, [(4, (.t (.var 9))), (3, (.t (.var 8))), (2, (.t (.var 7))), (1, (.t (.var 6))), (0, (.r 5))], [((.lit (0)), (.lit (0)))], [], []⟩ 19 (.pre 2 ⟨0, [(4, (.t (.var 20))), (3, (.t (.var 21))), (2, (.t (.var 20))), (1, (.t (.var 6))), (0, (.r 19))], [((.lit (0)), (.lit (0)))], [], []⟩ (.both (.fresh 22 (.post 2 0 ⟨0, [(4, (.t (.var 20))), (3, (.t (.var 21))), (2, (.t (.var 20))), (1, (.t (.var 6))), (0, (.r 19))], [((.lit (0)), (.lit (0)))], [], []⟩ 22 (.br (.not (.var 22))
 (.pre 0 ⟨0, [], [], [], []⟩ (.both (.post 0 0 ⟨0, [], [], [], []⟩ 23 (.ret 0 ⟨15, [], [], [((.bl true), (.bl true))], []⟩)) .top))
 (.pre 1 ⟨0, [(4, (.t (.var 14))), (3, (.t (.var 13))), (2, (.t (.var 12))), (1, (.t (.var 11))), (0, (.r 10))], [((.lit (0)), (.lit (0)))], [], []⟩ (.both (.fresh 23 (.fresh 24 (.fresh 25 (.post 1 0 ⟨0, [(4, (.t (.var 14))), (3, (.t (.var 13))), (2, (.t (.var 12))), (1, (.t (.var 11))), (0, (.r 10))], [((.lit (0)), (.lit (0)))], [], []⟩ 23 (.pre 2 ⟨0, [(4, (.t (.var 24))), (3, (.t (.var 25))), (2, (.t (.var 24))), (1, (.t (.var 11))), (0, (.r 23))], [((.lit (0)), (.lit (0)))], [], []⟩ (.both (.fresh 26 (.post 2 0 ⟨0, [(4, (.t (.var 24))), (3, (.t (.var 25))), (2, (.t (.var 24))), (1, (.t (.var 11))), (0, (.r 23))], [((.lit (0)), (.lit (0)))], [], []⟩ 26 (.br (.not (.var 26))
 (.pre 0 ⟨0, [], [], [], []⟩ (.both (.post 0 0 ⟨0, [], [], [], []⟩ 27 (.ret 0 ⟨15, [], [], [((.bl true), (.bl true))], []⟩)) .top))
 (.need (.cmp .leq (.lit (0)) (.var 1)) (.need (.cmp .leq (.lit (0)) (.var 6)) (.br (.cmp .neq (.var 1) (.var 6))
 (.pre 0 ⟨0, [], [], [], []⟩ (.both (.post 0 0 ⟨0, [], [], [], []⟩ 27 (.ret 0 ⟨15, [], [], [((.bl true), (.bl true))], []⟩)) .top))
 (.need (.cmp .leq (.lit (0)) (.var 11)) (.br (.cmp .neq (.var 1) (.var 11))
 (.pre 0 ⟨0, [], [], [], []⟩ (.both (.post 0 0 ⟨0, [], [], [], []⟩ 27 (.ret 0 ⟨15, [], [], [((.bl true), (.bl true))], []⟩)) .top))
 (.br (.cmp .gtr (.var 1) (.lit (16)))
 (.pre 0 ⟨0, [], [], [], []⟩ (.both (.post 0 0 ⟨0, [], [], [], []⟩ 27 (.ret 0 ⟨15, [], [], [((.bl true), (.bl true))], []⟩)) .top))
 (.pre 1 ⟨0, [(4, (.t (.var 4))), (3, (.t (.var 3))), (2, (.t (.var 2))), (1, (.t (.var 1))), (0, (.r 0))], [((.lit (0)), (.lit (0)))], [], []⟩ (.both (.fresh 27 (.fresh 28 (.fresh 29 (.post 1 0 ⟨0, [(4, (.t (.var 4))), (3, (.t (.var 3))), (2, (.t (.var 2))), (1, (.t (.var 1))), (0, (.r 0))], [((.lit (0)), (.lit (0)))], [], []⟩ 27 (.pre 1 ⟨0, [(4, (.t (.var 9))), (3, (.t (.var 8))), (2, (.t (.var 7))), (1, (.t (.var 6))), (0, (.r 5))], [((.lit (0)), (.lit (0)))], [], []⟩ (.both (.fresh 30 (.fresh 31 (.fresh 32 (.post 1 0 ⟨0, [(4, (.t (.var 9))), (3, (.t (.var 8))), (2, (.t (.var 7))), (1, (.t (.var 6))), (0, (.r 5))], [((.lit (0)), (.lit (0)))], [], []⟩ 30 (.pre 3 ⟨0, [(9, (.t (.var 31))), (8, (.t (.var 32))), (4, (.t (.var 28))), (3, (.t (.var 29))), (7, (.t (.var 31))), (6, (.t (.var 6))), (5, (.r 30)), (2, (.t (.var 28))), (1, (.t (.var 1))), (0, (.r 27))], [((.lit (0)), (.lit (0))), ((.lit (0)), (.lit (0)))], [], []⟩ (.both (.fresh 33 (.fresh 34 (.fresh 35 (.post 3 0 ⟨0, [(9, (.t (.var 31))), (8, (.t (.var 32))), (4, (.t (.var 28))), (3, (.t (.var 29))), (7, (.t (.var 31))), (6, (.t (.var 6))), (5, (.r 30)), (2, (.t (.var 28))), (1, (.t (.var 1))), (0, (.r 27))], [((.lit (0)), (.lit (0))), ((.lit (0)), (.lit (0)))], [], []⟩ 33 (.pre 1 ⟨0, [(4, (.t (.var 9))), (3, (.t (.var 8))), (2, (.t (.var 7))), (1, (.t (.var 6))), (0, (.r 5))], [((.lit (0)), (.lit (0)))], [], []⟩ (.both (.fresh 36 (.fresh 37 (.fresh 38 (.post 1 0 ⟨0, [(4, (.t (.var 9))), (3, (.t (.var 8))), (2, (.t (.var 7))), (1, (.t (.var 6))), (0, (.r 5))], [((.lit (0)), (.lit (0)))], [], []⟩ 36 (.pre 1 ⟨0, [(4, (.t (.var 4))), (3, (.t (.var 3))), (2, (.t (.var 2))), (1, (.t (.var 1))), (0, (.r 0))], [((.lit (0)), (.lit (0)))], [], []⟩ (.both (.fresh 39 (.fresh 40 (.fresh 41 (.post 1 0 ⟨0, [(4, (.t (.var 4))), (3, (.t (.var 3))), (2, (.t (.var 2))), (1, (.t (.var 1))), (0, (.r 0))], [((.lit (0)), (.lit (0)))], [], []⟩ 39 (.pre 3 ⟨0, [(9, (.t (.var 40))), (8, (.t (.var 41))), (4, (.t (.var 37))), (3, (.t (.var 38))), (7, (.t (.var 40))), (6, (.t (.var 1))), (5, (.r 39)), (2, (.t (.var 37))), (1, (.t (.var 6))), (0, (.r 36))], [((.lit (0)), (.lit (0))), ((.lit (0)), (.lit (0)))], [], []⟩ (.both (.fresh 42 (.fresh 43 (.fresh 44 (.post 3 0 ⟨0, [(9, (.t (.var 40))), (8, (.t (.var 41))), (4, (.t (.var 37))), (3, (.t (.var 38))), (7, (.t (.var 40))), (6, (.t (.var 1))), (5, (.r 39)), (2, (.t (.var 37))), (1, (.t (.var 6))), (0, (.r 36))], [((.lit (0)), (.lit (0))), ((.lit (0)), (.lit (0)))], [], []⟩ 42 (.pre 1 ⟨0, [(4, (.t (.var 9))), (3, (.t (.var 8))), (2, (.t (.var 7))), (1, (.t (.var 6))), (0, (.r 5))], [((.lit (0)), (.lit (0)))], [], []⟩ (.both (.fresh 45 (.fresh 46 (.fresh 47 (.post 1 0 ⟨0, [(4, (.t (.var 9))), (3, (.t (.var 8))), (2, (.t (.var 7))), (1, (.t (.var 6))), (0, (.r 5))], [((.lit (0)), (.lit (0)))], [], []⟩ 45 (.pre 1 ⟨0, [(4, (.t (.var 14))), (3, (.t (.var 13))), (2, (.t (.var 12))), (1, (.t (.var 11))), (0, (.r 10))], [((.lit (0)), (.lit (0)))], [], []⟩ (.both (.fresh 48 (.fresh 49 (.fresh 50 (.post 1 0 ⟨0, [(4, (.t (.var 14))), (3, (.t (.var 13))), (2, (.t (.var 12))), (1, (.t (.var 11))), (0, (.r 10))], [((.lit (0)), (.lit (0)))], [], []⟩ 48 (.pre 3 ⟨0, [(9, (.t (.var 49))), (8, (.t (.var 50))), (4, (.t (.var 46))), (3, (.t (.var 47))), (7, (.t (.var 49))), (6, (.t (.var 11))), (5, (.r 48)), (2, (.t (.var 46))), (1, (.t (.var 6))), (0, (.r 45))], [((.lit (0)), (.lit (0))), ((.lit (0)), (.lit (0)))], [], []⟩ (.both (.fresh 51 (.fresh 52 (.fresh 53 (.post 3 0 ⟨0, [(9, (.t (.var 49))), (8, (.t (.var 50))), (4, (.t (.var 46))), (3, (.t (.var 47))), (7, (.t (.var 49))), (6, (.t (.var 11))), (5, (.r 48)), (2, (.t (.var 46))), (1, (.t (.var 6))), (0, (.r 45))], [((.lit (0)), (.lit (0))), ((.lit (0)), (.lit (0)))], [], []⟩ 51 (.pre 1 ⟨0, [(4, (.t (.var 34))), (3, (.t (.var 35))), (2, (.t (.var 34))), (1, (.t (.var 1))), (0, (.r 33))], [((.lit (0)), (.lit (0)))], [], []⟩ (.both (.fresh 54 (.fresh 55 (.fresh 56 (.post 1 0 ⟨0, [(4, (.t (.var 34))), (3, (.t (.var 35))), (2, (.t (.var 34))), (1, (.t (.var 1))), (0, (.r 33))], [((.lit (0)), (.lit (0)))], [], []⟩ 54 (.pre 1 ⟨0, [(4, (.t (.var 14))), (3, (.t (.var 13))), (2, (.t (.var 12))), (1, (.t (.var 11))), (0, (.r 10))], [((.lit (0)), (.lit (0)))], [], []⟩ (.both (.fresh 57 (.fresh 58 (.fresh 59 (.post 1 0 ⟨0, [(4, (.t (.var 14))), (3, (.t (.var 13))), (2, (.t (.var 12))), (1, (.t (.var 11))), (0, (.r 10))], [((.lit (0)), (.lit (0)))], [], []⟩ 57 (.pre 3 ⟨0, [(9, (.t (.var 58))), (8, (.t (.var 59))), (4, (.t (.var 55))), (3, (.t (.var 56))), (7, (.t (.var 58))), (6, (.t (.var 11))), (5, (.r 57)), (2, (.t (.var 55))), (1, (.t (.var 1))), (0, (.r 54))], [((.lit (0)), (.lit (0))), ((.lit (0)), (.lit (0)))], [], []⟩ (.both (.fresh 60 (.fresh 61 (.fresh 62 (.post 3 0 ⟨0, [(9, (.t (.var 58))), (8, (.t (.var 59))), (4, (.t (.var 55))), (3, (.t (.var 56))), (7, (.t (.var 58))), (6, (.t (.var 11))), (5, (.r 57)), (2, (.t (.var 55))), (1, (.t (.var 1))), (0, (.r 54))], [((.lit (0)), (.lit (0))), ((.lit (0)), (.lit (0)))], [], []⟩ 60 (.pre 1 ⟨0, [(4, (.t (.var 4))), (3, (.t (.var 3))), (2, (.t (.var 2))), (1, (.t (.var 1))), (0, (.r 0))], [((.lit (0)), (.lit (0)))], [], []⟩ (.both (.fresh 63 (.fresh 64 (.fresh 65 (.post 1 0 ⟨0, [(4, (.t (.var 4))), (3, (.t (.var 3))), (2, (.t (.var 2))), (1, (.t (.var 1))), (0, (.r 0))], [((.lit (0)), (.lit (0)))], [], []⟩ 63 (.pre 1 ⟨0, [(4, (.t (.var 52))), (3, (.t (.var 53))), (2, (.t (.var 52))), (1, (.t (.var 6))), (0, (.r 51))], [((.lit (0)), (.lit (0)))], [], []⟩ (.both (.fresh 66 (.fresh 67 (.fresh 68 (.post 1 0 ⟨0, [(4, (.t (.var 52))), (3, (.t (.var 53))), (2, (.t (.var 52))), (1, (.t (.var 6))), (0, (.r 51))], [((.lit (0)), (.lit (0)))], [], []⟩ 66 (.pre 3 ⟨0, [(9, (.t (.var 67))), (8, (.t (.var 68))), (4, (.t (.var 64))), (3, (.t (.var 65))), (7, (.t (.var 67))), (6, (.t (.var 6))), (5, (.r 66)), (2, (.t (.var 64))), (1, (.t (.var 1))), (0, (.r 63))], [((.lit (0)), (.lit (0))), ((.lit (0)), (.lit (0)))], [], []⟩ (.both (.fresh 69 (.fresh 70 (.fresh 71 (.post 3 0 ⟨0, [(9, (.t (.var 67))), (8, (.t (.var 68))), (4, (.t (.var 64))), (3, (.t (.var 65))), (7, (.t (.var 67))), (6, (.t (.var 6))), (5, (.r 66)), (2, (.t (.var 64))), (1, (.t (.var 1))), (0, (.r 63))], [((.lit (0)), (.lit (0))), ((.lit (0)), (.lit (0)))], [], []⟩ 69 (.pre 1 ⟨0, [(4, (.t (.var 4))), (3, (.t (.var 3))), (2, (.t (.var 2))), (1, (.t (.var 1))), (0, (.r 0))], [((.lit (0)), (.lit (0)))], [], []⟩ (.both (.fresh 72 (.fresh 73 (.fresh 74 (.post 1 0 ⟨0, [(4, (.t (.var 4))), (3, (.t (.var 3))), (2, (.t (.var 2))), (1, (.t (.var 1))), (0, (.r 0))], [((.lit (0)), (.lit (0)))], [], []⟩ 72 (.pre 1 ⟨0, [(4, (.t (.var 4))), (3, (.t (.var 3))), (2, (.t (.var 2))), (1, (.t (.var 1))), (0, (.r 0))], [((.lit (0)), (.lit (0)))], [], []⟩ (.both (.fresh 75 (.fresh 76 (.fresh 77 (.post 1 0 ⟨0, [(4, (.t (.var 4))), (3, (.t (.var 3))), (2, (.t (.var 2))), (1, (.t (.var 1))), (0, (.r 0))], [((.lit (0)), (.lit (0)))], [], []⟩ 75 (.pre 3 ⟨0, [(9, (.t (.var 76))), (8, (.t (.var 77))), (4, (.t (.var 73))), (3, (.t (.var 74))), (7, (.t (.var 76))), (6, (.t (.var 1))), (5, (.r 75)), (2, (.t (.var 73))), (1, (.t (.var 1))), (0, (.r 72))], [((.lit (0)), (.lit (0))), ((.lit (0)), (.lit (0)))], [], []⟩ (.both (.fresh 78 (.fresh 79 (.fresh 80 (.post 3 0 ⟨0, [(9, (.t (.var 76))), (8, (.t (.var 77))), (4, (.t (.var 73))), (3, (.t (.var 74))), (7, (.t (.var 76))), (6, (.t (.var 1))), (5, (.r 75)), (2, (.t (.var 73))), (1, (.t (.var 1))), (0, (.r 72))], [((.lit (0)), (.lit (0))), ((.lit (0)), (.lit (0)))], [], []⟩ 78 (.inv 0 81 ⟨1000, [(1014, (.t (.var 80))), (1011, (.t (.var 71))), (1008, (.t (.var 62))), (1005, (.t (.var 44))), (1002, (.t (.var 35))), (1000, (.t (.lit (0)))), (1015, (.t (.var 79))), (1013, (.r 78)), (1012, (.t (.var 70))), (1010, (.r 69)), (1009, (.t (.var 61))), (1007, (.r 60)), (1006, (.t (.var 43))), (1004, (.r 42)), (1003, (.t (.var 34))), (1001, (.r 33))], [((.var 1015), (.var 79)), ((.var 1012), (.var 70)), ((.var 1009), (.var 61)), ((.var 1006), (.var 43)), ((.var 1003), (.var 34)), ((.var 1), (.var 1)), ((.lit (0)), (.lit (0))), ((.var 1), (.var 1)), ((.lit (0)), (.lit (0))), ((.var 1), (.var 1)), ((.lit (0)), (.lit (0))), ((.var 6), (.var 6)), ((.lit (0)), (.lit (0))), ((.var 1), (.var 1)), ((.lit (0)), (.lit (0))), ((.var 7), (.var 7)), ((.var 6), (.var 6)), ((.lit (0)), (.lit (0))), ((.var 2), (.var 2)), ((.var 1), (.var 1)), ((.lit (0)), (.lit (0)))], [], []⟩ (.fresh 81 (.fresh 82 (.fresh 83 (.fresh 84 (.fresh 85 (.fresh 86 (.fresh 87 (.fresh 88 (.fresh 89 (.fresh 90 (.fresh 91 (.fresh 92 (.fresh 93 (.fresh 94 (.fresh 95 (.fresh 96 (.hyp 0 81 (.br (.cmp .lss (.var 81) (.var 1))
 (.need (.cmp .leq (.lit (0)) (.var 81)) (.need (.cmp .lss (.var 81) (.dlen (.var 3))) (.need (.cmp .lss (.var 81) (.dlen (.var 83))) (.both (.pre 5 ⟨0, [(3, (.t (.icell (.var 83) (.var 81) 1))), (2, (.t (.icell (.var 83) (.var 81) 0))), (1, (.t (.icell (.var 3) (.var 81) 1))), (0, (.t (.icell (.var 3) (.var 81) 0)))], [], [], []⟩ (.both (.post 5 0 ⟨0, [(3, (.t (.icell (.var 83) (.var 81) 1))), (2, (.t (.icell (.var 83) (.var 81) 0))), (1, (.t (.icell (.var 3) (.var 81) 1))), (0, (.t (.icell (.var 3) (.var 81) 0)))], [], [], []⟩ 97 (.br (.or (.cmp .gtr (.icell (.var 3) (.var 81) 0) (.icell (.var 83) (.var 81) 0)) (.and (.cmp .eql (.icell (.var 3) (.var 81) 0) (.icell (.var 83) (.var 81) 0)) (.cmp .gtr (.icell (.var 3) (.var 81) 1) (.icell (.var 83) (.var 81) 1))))
 (.both (.stuck 7 0 0) .top)
 (.need (.cmp .lss (.var 81) (.var 6)) (.need (.cmp .lss (.var 81) (.dlen (.var 8))) (.both (.pre 5 ⟨0, [(3, (.t (.icell (.var 83) (.var 81) 1))), (2, (.t (.icell (.var 83) (.var 81) 0))), (1, (.t (.icell (.var 8) (.var 81) 1))), (0, (.t (.icell (.var 8) (.var 81) 0)))], [], [], []⟩ (.both (.post 5 0 ⟨0, [(3, (.t (.icell (.var 83) (.var 81) 1))), (2, (.t (.icell (.var 83) (.var 81) 0))), (1, (.t (.icell (.var 8) (.var 81) 1))), (0, (.t (.icell (.var 8) (.var 81) 0)))], [], [], []⟩ 97 (.br (.or (.cmp .gtr (.icell (.var 8) (.var 81) 0) (.icell (.var 83) (.var 81) 0)) (.and (.cmp .eql (.icell (.var 8) (.var 81) 0) (.icell (.var 83) (.var 81) 0)) (.cmp .gtr (.icell (.var 8) (.var 81) 1) (.icell (.var 83) (.var 81) 1))))
 (.stuck 7 0 0)
 (.back 0 81 ⟨1000, [(1014, (.t (.var 95))), (1011, (.t (.var 92))), (1008, (.t (.var 89))), (1005, (.t (.var 86))), (1002, (.t (.var 83))), (1000, (.t (.arith .add .i64 (.var 81) (.lit (1))))), (1015, (.t (.var 96))), (1013, (.r 94)), (1012, (.t (.var 93))), (1010, (.r 91)), (1009, (.t (.var 90))), (1007, (.r 88)), (1006, (.t (.var 87))), (1004, (.r 85)), (1003, (.t (.var 84))), (1001, (.r 82))], [((.var 1015), (.var 96)), ((.var 1012), (.var 93)), ((.var 1009), (.var 90)), ((.var 1006), (.var 87)), ((.var 1003), (.var 84)), ((.var 1), (.var 1)), ((.lit (0)), (.lit (0))), ((.var 1), (.var 1)), ((.lit (0)), (.lit (0))), ((.var 1), (.var 1)), ((.lit (0)), (.lit (0))), ((.var 6), (.var 6)), ((.lit (0)), (.lit (0))), ((.var 1), (.var 1)), ((.lit (0)), (.lit (0))), ((.var 7), (.var 7)), ((.var 6), (.var 6)), ((.lit (0)), (.lit (0))), ((.var 2), (.var 2)), ((.var 1), (.var 1)), ((.lit (0)), (.lit (0)))], [], []⟩))) .top)) .top))))) .top)) .top))))
 (.pre 4 ⟨0, [(9, (.t (.var 87))), (8, (.t (.var 86))), (4, (.t (.var 84))), (3, (.t (.var 83))), (7, (.t (.var 87))), (6, (.t (.var 6))), (5, (.r 85)), (2, (.t (.var 84))), (1, (.t (.var 1))), (0, (.r 82))], [((.lit (0)), (.lit (0))), ((.lit (0)), (.lit (0)))], [], []⟩ (.both (.fresh 97 (.post 4 0 ⟨0, [(9, (.t (.var 87))), (8, (.t (.var 86))), (4, (.t (.var 84))), (3, (.t (.var 83))), (7, (.t (.var 87))), (6, (.t (.var 6))), (5, (.r 85)), (2, (.t (.var 84))), (1, (.t (.var 1))), (0, (.r 82))], [((.lit (0)), (.lit (0))), ((.lit (0)), (.lit (0)))], [], []⟩ 97 (.br (.var 97)
 (.pre 4 ⟨0, [(9, (.t (.var 93))), (8, (.t (.var 92))), (4, (.t (.var 90))), (3, (.t (.var 89))), (7, (.t (.var 93))), (6, (.t (.var 1))), (5, (.r 91)), (2, (.t (.var 90))), (1, (.t (.var 1))), (0, (.r 88))], [((.lit (0)), (.lit (0))), ((.lit (0)), (.lit (0)))], [], []⟩ (.both (.fresh 98 (.post 4 0 ⟨0, [(9, (.t (.var 93))), (8, (.t (.var 92))), (4, (.t (.var 90))), (3, (.t (.var 89))), (7, (.t (.var 93))), (6, (.t (.var 1))), (5, (.r 91)), (2, (.t (.var 90))), (1, (.t (.var 1))), (0, (.r 88))], [((.lit (0)), (.lit (0))), ((.lit (0)), (.lit (0)))], [], []⟩ 98 (.br (.var 98)
 (.pre 4 ⟨0, [(9, (.t (.var 4))), (8, (.t (.var 3))), (4, (.t (.var 96))), (3, (.t (.var 95))), (7, (.t (.var 2))), (6, (.t (.var 1))), (5, (.r 0)), (2, (.t (.var 96))), (1, (.t (.var 1))), (0, (.r 94))], [((.lit (0)), (.lit (0))), ((.lit (0)), (.lit (0)))], [], []⟩ (.both (.fresh 99 (.post 4 0 ⟨0, [(9, (.t (.var 4))), (8, (.t (.var 3))), (4, (.t (.var 96))), (3, (.t (.var 95))), (7, (.t (.var 2))), (6, (.t (.var 1))), (5, (.r 0)), (2, (.t (.var 96))), (1, (.t (.var 1))), (0, (.r 94))], [((.lit (0)), (.lit (0))), ((.lit (0)), (.lit (0)))], [], []⟩ 99 (.br (.var 99)
 (.pre 0 ⟨0, [], [], [], []⟩ (.both (.post 0 0 ⟨0, [], [], [], []⟩ 100 (.ret 0 ⟨15, [], [], [((.bl true), (.bl true))], []⟩)) .top))
 (.stuck 7 0 0)))) .top))
 (.stuck 7 0 0)))) .top))
 (.stuck 7 0 0)))) .top))))))))))))))))))))))))) .top)))))) .top)))))) .top)))))) .top)))))) .top)))))) .top)))))) .top)))))) .top)))))) .top)))))) .top)))))) .top)))))) .top)))))) .top)))))) .top)))))) .top)))))) .top)))))) .top)))))) .top))))))))))) .top)))))) .top))))) .top)))))) .top))))) .top)))))) .top))
theorem o_lawMerges_eq : treeOf ⟨Try.prog, lawMergesC, [knownC, own21C, valid20C, mergeV32C, same34C, newerD], [lawMergesI]⟩ 100000 Try.f9 = o_lawMerges := by kernel_rfl
theorem lawMerges_of (hd : ∀ c ∈ ([knownC, own21C, valid20C, mergeV32C, same34C, newerD] : List Ctr), c.ok Try.prog) (h : ∀ ρ : Env, ρ.good → (lawMergesC).pre ρ → o_lawMerges.den ⟨Try.prog, lawMergesC, [knownC, own21C, valid20C, mergeV32C, same34C, newerD], [lawMergesI]⟩ ρ) : (lawMergesC).ok Try.prog :=
  ok_of_tree Try.func9 (fun a w => Try.call9 a w) hd 100000 (fun ρ hg hp => by rw [o_lawMerges_eq]; exact h ρ hg hp)
def o_lawTables : Out := (.need (.cmp .leq (.lit (0)) (.var 1)) (.br (.cmp .gtr (.var 1) (.lit (40)))
 (.pre 0 ⟨0, [], [], [], []⟩ (.both (.post 0 0 ⟨0, [], [], [], []⟩ 10 (.ret 0 ⟨10, [], [], [((.bl true), (.bl true))], []⟩)) .top))
 (.need (.cmp .leq (.lit (0)) (.var 6)) (.br (.cmp .gtr (.var 6) (.lit (40)))
 (.pre 0 ⟨0, [], [], [], []⟩ (.both (.post 0 0 ⟨0, [], [], [], []⟩ 10 (.ret 0 ⟨10, [], [], [((.bl true), (.bl true))], []⟩)) .top))
 (.pre 1 ⟨0, [(4, (.t (.var 4))), (3, (.t (.var 3))), (2, (.t (.var 2))), (1, (.t (.var 1))), (0, (.r 0))], [((.lit (0)), (.lit (0)))], [], []⟩ (.both (.fresh 10 (.fresh 11 (.fresh 12 (.post 1 0 ⟨0, [(4, (.t (.var 4))), (3, (.t (.var 3))), (2, (.t (.var 2))), (1, (.t (.var 1))), (0, (.r 0))], [((.lit (0)), (.lit (0)))], [], []⟩ 10 (.pre 1 ⟨0, [(4, (.t (.var 9))), (3, (.t (.var 8))), (2, (.t (.var 7))), (1, (.t (.var 6))), (0, (.r 5))], [((.lit (0)), (.lit (0)))], [], []⟩ (.both (.fresh 13 (.fresh 14 (.fresh 15 (.post 1 0 ⟨0, [(4, (.t (.var 9))), (3, (.t (.var 8))), (2, (.t (.var 7))), (1, (.t (.var 6))), (0, (.r 5))], [((.lit (0)), (.lit (0)))], [], []⟩ 13 (.pre 2 ⟨0, [(9, (.t (.var 14))), (8, (.t (.var 15))), (4, (.t (.var 11))), (3, (.t (.var 12))), (7, (.t (.var 14))), (6, (.t (.var 6))), (5, (.r 13)), (2, (.t (.var 11))), (1, (.t (.var 1))), (0, (.r 10))], [((.lit (0)), (.lit (0))), ((.lit (0)), (.lit (0)))], [], []⟩ (.both (.post 2 0 ⟨0, [(9, (.t (.var 14))), (8, (.t (.var 15))), (4, (.t (.var 11))), (3, (.t (.var 12))), (7, (.t (.var 14))), (6, (.t (.var 6))), (5, (.r 13)), (2, (.t (.var 11))), (1, (.t (.var 1))), (0, (.r 10))], [((.lit (0)), (.lit (0))), ((.lit (0)), (.lit (0)))], [], []⟩ 16 (.pre 3 ⟨0, [(9, (.t (.var 9))), (8, (.t (.var 8))), (4, (.t (.var 4))), (3, (.t (.var 3))), (7, (.t (.var 7))), (6, (.t (.var 6))), (5, (.r 5)), (2, (.t (.var 2))), (1, (.t (.var 1))), (0, (.r 0))], [((.lit (0)), (.lit (0))), ((.lit (0)), (.lit (0)))], [], []⟩ (.both (.post 3 0 ⟨0, [(9, (.t (.var 9))), (8, (.t (.var 8))), (4, (.t (.var 4))), (3, (.t (.var 3))), (7, (.t (.var 7))), (6, (.t (.var 6))), (5, (.r 5)), (2, (.t (.var 2))), (1, (.t (.var 1))), (0, (.r 0))], [((.lit (0)), (.lit (0))), ((.lit (0)), (.lit (0)))], [], []⟩ 16 (.pre 4 ⟨0, [(9, (.t (.lit (0)))), (8, (.t .dnil)), (4, (.t (.lit (0)))), (3, (.t .dnil)), (7, (.t (.lit (0)))), (6, (.t (.lit (0)))), (5, .nil), (2, (.t (.lit (0)))), (1, (.t (.lit (0)))), (0, .nil)], [((.lit (0)), (.lit (0))), ((.lit (0)), (.lit (0)))], [], []⟩ (.both (.fresh 16 (.post 4 0 ⟨0, [(9, (.t (.lit (0)))), (8, (.t .dnil)), (4, (.t (.lit (0)))), (3, (.t .dnil)), (7, (.t (.lit (0)))), (6, (.t (.lit (0)))), (5, .nil), (2, (.t (.lit (0)))), (1, (.t (.lit (0)))), (0, .nil)], [((.lit (0)), (.lit (0))), ((.lit (0)), (.lit (0)))], [], []⟩ 16 (.br (.var 16)
 (.pre 5 ⟨0, [(4, (.t (.var 11))), (3, (.t (.var 12))), (2, (.t (.var 11))), (1, (.t (.var 1))), (0, (.r 10))], [((.lit (0)), (.lit (0)))], [], []⟩ (.both (.fresh 17 (.post 5 0 ⟨0, [(4, (.t (.var 11))), (3, (.t (.var 12))), (2, (.t (.var 11))), (1, (.t (.var 1))), (0, (.r 10))], [((.lit (0)), (.lit (0)))], [], []⟩ 17 (.pre 6 ⟨0, [(4, (.t (.var 4))), (3, (.t (.var 3))), (2, (.t (.var 2))), (1, (.t (.var 1))), (0, (.r 0))], [((.lit (0)), (.lit (0)))], [], []⟩ (.both (.fresh 18 (.post 6 0 ⟨0, [(4, (.t (.var 4))), (3, (.t (.var 3))), (2, (.t (.var 2))), (1, (.t (.var 1))), (0, (.r 0))], [((.lit (0)), (.lit (0)))], [], []⟩ 18 (.br (.beq (.var 17) (.var 18))
 (.pre 7 ⟨0, [(4, (.t (.var 11))), (3, (.t (.var 12))), (2, (.t (.var 11))), (1, (.t (.var 1))), (0, (.r 10))], [((.lit (0)), (.lit (0)))], [], []⟩ (.both (.fresh 19 (.fresh 20 (.fresh 21 (.fresh 22 (.post 7 0 ⟨0, [(4, (.t (.var 11))), (3, (.t (.var 12))), (2, (.t (.var 11))), (1, (.t (.var 1))), (0, (.r 10))], [((.lit (0)), (.lit (0)))], [], []⟩ 19 (.pre 8 ⟨0, [(4, (.t (.var 4))), (3, (.t (.var 3))), (2, (.t (.var 2))), (1, (.t (.var 1))), (0, (.r 0))], [((.lit (0)), (.lit (0)))], [], []⟩ (.both (.fresh 23 (.fresh 24 (.fresh 25 (.fresh 26 (.post 8 0 ⟨0, [(4, (.t (.var 4))), (3, (.t (.var 3))), (2, (.t (.var 2))), (1, (.t (.var 1))), (0, (.r 0))], [((.lit (0)), (.lit (0)))], [], []⟩ 23 (.pre 9 ⟨0, [(9, (.t (.var 24))), (8, (.t (.var 25))), (4, (.t (.var 20))), (3, (.t (.var 21))), (7, (.t (.var 24))), (6, (.t (.var 26))), (5, (.r 23)), (2, (.t (.var 20))), (1, (.t (.var 22))), (0, (.r 19))], [((.lit (0)), (.lit (0))), ((.lit (0)), (.lit (0)))], [], []⟩ (.both (.fresh 27 (.post 9 0 ⟨0, [(9, (.t (.var 24))), (8, (.t (.var 25))), (4, (.t (.var 20))), (3, (.t (.var 21))), (7, (.t (.var 24))), (6, (.t (.var 26))), (5, (.r 23)), (2, (.t (.var 20))), (1, (.t (.var 22))), (0, (.r 19))], [((.lit (0)), (.lit (0))), ((.lit (0)), (.lit (0)))], [], []⟩ 27 (.br (.var 27)
 (.pre 4 ⟨0, [(9, (.t (.var 4))), (8, (.t (.var 3))), (4, (.t (.var 11))), (3, (.t (.var 12))), (7, (.t (.var 2))), (6, (.t (.var 1))), (5, (.r 0)), (2, (.t (.var 11))), (1, (.t (.var 1))), (0, (.r 10))], [((.lit (0)), (.lit (0))), ((.lit (0)), (.lit (0)))], [], []⟩ (.both (.fresh 28 (.post 4 0 ⟨0, [(9, (.t (.var 4))), (8, (.t (.var 3))), (4, (.t (.var 11))), (3, (.t (.var 12))), (7, (.t (.var 2))), (6, (.t (.var 1))), (5, (.r 0)), (2, (.t (.var 11))), (1, (.t (.var 1))), (0, (.r 10))], [((.lit (0)), (.lit (0))), ((.lit (0)), (.lit (0)))], [], []⟩ 28 (.br (.var 28)
 (.pre 4 ⟨0, [(9, (.t (.var 9))), (8, (.t (.var 8))), (4, (.t (.var 14))), (3, (.t (.var 15))), (7, (.t (.var 7))), (6, (.t (.var 6))), (5, (.r 5)), (2, (.t (.var 14))), (1, (.t (.var 6))), (0, (.r 13))], [((.lit (0)), (.lit (0))), ((.lit (0)), (.lit (0)))], [], []⟩ (.both (.fresh 29 (.post 4 0 ⟨0, [(9, (.t (.var 9))), (8, (.t (.var 8))), (4, (.t (.var 14))), (3, (.t (.var 15))), (7, (.t (.var 7))), (6, (.t (.var 6))), (5, (.r 5)), (2, (.t (.var 14))), (1, (.t (.var 6))), (0, (.r 13))], [((.lit (0)), (.lit (0))), ((.lit (0)), (.lit (0)))], [], []⟩ 29 (.br (.var 29)
 (.pre 0 ⟨0, [], [], [], []⟩ (.both (.post 0 0 ⟨0, [], [], [], []⟩ 30 (.ret 0 ⟨10, [], [], [((.bl true), (.bl true))], []⟩)) .top))
 (.stuck 7 0 0)))) .top))
 (.stuck 7 0 0)))) .top))
 (.stuck 7 0 0)))) .top))))))) .top))))))) .top))
 (.stuck 7 0 0)))) .top)))) .top))
 (.stuck 7 0 0)))) .top))) (.both (.post 3 1 ⟨0, [(9, (.t (.var 9))), (8, (.t (.var 8))), (4, (.t (.var 4))), (3, (.t (.var 3))), (7, (.t (.var 7))), (6, (.t (.var 6))), (5, (.r 5)), (2, (.t (.var 2))), (1, (.t (.var 1))), (0, (.r 0))], [((.lit (0)), (.lit (0))), ((.lit (0)), (.lit (0)))], [], []⟩ 16 (.stuck 7 0 0)) (.both (.fresh 16 (.fresh 17 (.fresh 18 (.post 3 2 ⟨0, [(9, (.t (.var 9))), (8, (.t (.var 8))), (4, (.t (.var 4))), (3, (.t (.var 3))), (7, (.t (.var 7))), (6, (.t (.var 6))), (5, (.r 5)), (2, (.t (.var 2))), (1, (.t (.var 1))), (0, (.r 0))], [((.lit (0)), (.lit (0))), ((.lit (0)), (.lit (0)))], [], []⟩ 16 (.stuck 7 0 0))))) .top))))) (.both (.post 2 1 ⟨0, [(9, (.t (.var 14))), (8, (.t (.var 15))), (4, (.t (.var 11))), (3, (.t (.var 12))), (7, (.t (.var 14))), (6, (.t (.var 6))), (5, (.r 13)), (2, (.t (.var 11))), (1, (.t (.var 1))), (0, (.r 10))], [((.lit (0)), (.lit (0))), ((.lit (0)), (.lit (0)))], [], []⟩ 16 (.pre 3 ⟨0, [(9, (.t (.var 9))), (8, (.t (.var 8))), (4, (.t (.var 4))), (3, (.t (.var 3))), (7, (.t (.var 7))), (6, (.t (.var 6))), (5, (.r 5)), (2, (.t (.var 2))), (1, (.t (.var 1))), (0, (.r 0))], [((.lit (0)), (.lit (0))), ((.lit (0)), (.lit (0)))], [], []⟩ (.both (.post 3 0 ⟨0, [(9, (.t (.var 9))), (8, (.t (.var 8))), (4, (.t (.var 4))), (3, (.t (.var 3))), (7, (.t (.var 7))), (6, (.t (.var 6))), (5, (.r 5)), (2, (.t (.var 2))), (1, (.t (.var 1))), (0, (.r 0))], [((.lit (0)), (.lit (0))), ((.lit (0)), (.lit (0)))], [], []⟩ 16 (.stuck 7 0 0)) (.both (.post 3 1 ⟨0, [(9, (.t (.var 9))), (8, (.t (.var 8))), (4, (.t (.var 4))), (3, (.t (.var 3))), (7, (.t (.var 7))), (6, (.t (.var 6))), (5, (.r 5)), (2, (.t (.var 2))), (1, (.t (.var 1))), (0, (.r 0))], [((.lit (0)), (.lit (0))), ((.lit (0)), (.lit (0)))], [], []⟩ 16 (.pre 4 ⟨0, [(9, (.t (.lit (0)))), (8, (.t .dnil)), (4, (.t (.lit (0)))), (3, (.t .dnil)), (7, (.t (.lit (0)))), (6, (.t (.lit (0)))), (5, .nil), (2, (.t (.lit (0)))), (1, (.t (.lit (0)))), (0, .nil)], [((.lit (0)), (.lit (0))), ((.lit (0)), (.lit (0)))], [], []⟩ (.both (.fresh 16 (.post 4 0 ⟨0, [(9, (.t (.lit (0)))), (8, (.t .dnil)), (4, (.t (.lit (0)))), (3, (.t .dnil)), (7, (.t (.lit (0)))), (6, (.t (.lit (0)))), (5, .nil), (2, (.t (.lit (0)))), (1, (.t (.lit (0)))), (0, .nil)], [((.lit (0)), (.lit (0))), ((.lit (0)), (.lit (0)))], [], []⟩ 16 (.br (.var 16)
 (.pre 5 ⟨0, [(4, (.t (.var 11))), (3, (.t (.var 12))), (2, (.t (.var 11))), (1, (.t (.var 1))), (0, (.r 10))], [((.lit (0)), (.lit (0)))], [], []⟩ (.both (.fresh 17 (.post 5 0 ⟨0, [(4, (.t (.var 11))), (3, (.t (.var 12))), (2, (.t (.var 11))), (1, (.t (.var 1))), (0, (.r 10))], [((.lit (0)), (.lit (0)))], [], []⟩ 17 (.pre 6 ⟨0, [(4, (.t (.var 4))), (3, (.t (.var 3))), (2, (.t (.var 2))), (1, (.t (.var 1))), (0, (.r 0))], [((.lit (0)), (.lit (0)))], [], []⟩ (.both (.fresh 18 (.post 6 0 ⟨0, [(4, (.t (.var 4))), (3, (.t (.var 3))), (2, (.t (.var 2))), (1, (.t (.var 1))), (0, (.r 0))], [((.lit (0)), (.lit (0)))], [], []⟩ 18 (.br (.beq (.var 17) (.var 18))
 (.pre 7 ⟨0, [(4, (.t (.var 11))), (3, (.t (.var 12))), (2, (.t (.var 11))), (1, (.t (.var 1))), (0, (.r 10))], [((.lit (0)), (.lit (0)))], [], []⟩ (.both (.fresh 19 (.fresh 20 (.fresh 21 (.fresh 22 (.post 7 0 ⟨0, [(4, (.t (.var 11))), (3, (.t (.var 12))), (2, (.t (.var 11))), (1, (.t (.var 1))), (0, (.r 10))], [((.lit (0)), (.lit (0)))], [], []⟩ 19 (.pre 8 ⟨0, [(4, (.t (.var 4))), (3, (.t (.var 3))), (2, (.t (.var 2))), (1, (.t (.var 1))), (0, (.r 0))], [((.lit (0)), (.lit (0)))], [], []⟩ (.both (.fresh 23 (.fresh 24 (.fresh 25 (.fresh 26 (.post 8 0 ⟨0, [(4, (.t (.var 4))), (3, (.t (.var 3))), (2, (.t (.var 2))), (1, (.t (.var 1))), (0, (.r 0))], [((.lit (0)), (.lit (0)))], [], []⟩ 23 (.pre 9 ⟨0, [(9, (.t (.var 24))), (8, (.t (.var 25))), (4, (.t (.var 20))), (3, (.t (.var 21))), (7, (.t (.var 24))), (6, (.t (.var 26))), (5, (.r 23)), (2, (.t (.var 20))), (1, (.t (.var 22))), (0, (.r 19))], [((.lit (0)), (.lit (0))), ((.lit (0)), (.lit (0)))], [], []⟩ (.both (.fresh 27 (.post 9 0 ⟨0, [(9, (.t (.var 24))), (8, (.t (.var 25))), (4, (.t (.var 20))), (3, (.t (.var 21))), (7, (.t (.var 24))), (6, (.t (.var 26))), (5, (.r 23)), (2, (.t (.var 20))), (1, (.t (.var 22))), (0, (.r 19))], [((.lit (0)), (.lit (0))), ((.lit (0)), (.lit (0)))], [], []⟩ 27 (.br (.var 27)
 (.pre 4 ⟨0, [(9, (.t (.var 4))), (8, (.t (.var 3))), (4, (.t (.var 11))), (3, (.t (.var 12))), (7, (.t (.var 2))), (6, (.t (.var 1))), (5, (.r 0)), (2, (.t (.var 11))), (1, (.t (.var 1))), (0, (.r 10))], [((.lit (0)), (.lit (0))), ((.lit (0)), (.lit (0)))], [], []⟩ (.both (.fresh 28 (.post 4 0 ⟨0, [(9, (.t (.var 4))), (8, (.t (.var 3))), (4, (.t (.var 11))), (3, (.t (.var 12))), (7, (.t (.var 2))), (6, (.t (.var 1))), (5, (.r 0)), (2, (.t (.var 11))), (1, (.t (.var 1))), (0, (.r 10))], [((.lit (0)), (.lit (0))), ((.lit (0)), (.lit (0)))], [], []⟩ 28 (.br (.var 28)
 (.pre 4 ⟨0, [(9, (.t (.var 9))), (8, (.t (.var 8))), (4, (.t (.var 14))), (3, (.t (.var 15))), (7, (.t (.var 7))), (6, (.t (.var 6))), (5, (.r 5)), (2, (.t (.var 14))), (1, (.t (.var 6))), (0, (.r 13))], [((.lit (0)), (.lit (0))), ((.lit (0)), (.lit (0)))], [], []⟩ (.both (.fresh 29 (.post 4 0 ⟨0, [(9, (.t (.var 9))), (8, (.t (.var 8))), (4, (.t (.var 14))), (3, (.t (.var 15))), (7, (.t (.var 7))), (6, (.t (.var 6))), (5, (.r 5)), (2, (.t (.var 14))), (1, (.t (.var 6))), (0, (.r 13))], [((.lit (0)), (.lit (0))), ((.lit (0)), (.lit (0)))], [], []⟩ 29 (.br (.var 29)
 (.pre 0 ⟨0, [], [], [], []⟩ (.both (.post 0 0 ⟨0, [], [], [], []⟩ 30 (.ret 0 ⟨10, [], [], [((.bl true), (.bl true))], []⟩)) .top))
 (.stuck 7 0 0)))) .top))
 (.stuck 7 0 0)))) .top))
 (.stuck 7 0 0)))) .top))))))) .top))))))) .top))
 (.stuck 7 0 0)))) .top)))) .top))
 (.stuck 7 0 0)))) .top))) (.both (.fresh 16 (.fresh 17 (.fresh 18 (.post 3 2 ⟨0, [(9, (.t (.var 9))), (8, (.t (.var 8))), (4, (.t (.var 4))), (3, (.t (.var 3))), (7, (.t (.var 7))), (6, (.t (.var 6))), (5, (.r 5)), (2, (.t (.var 2))), (1, (.t (.var 1))), (0, (.r 0))], [((.lit (0)), (.lit (0))), ((.lit (0)), (.lit (0)))], [], []⟩ 16 (.stuck 7 0 0))))) .top))))) (.both (.fresh 16 (.fresh 17 (.fresh 18 (.post 2 2 ⟨0, [(9, (.t (.var 14))), (8, (.t (.var 15))), (4, (.t (.var 11))), (3, (.t (.var 12))), (7, (.t (.var 14))), (6, (.t (.var 6))), (5, (.r 13)), (2, (.t (.var 11))), (1, (.t (.var 1))), (0, (.r 10))], [((.lit (0)), (.lit (0))), ((.lit (0)), (.lit (0)))], [], []⟩ 16 (.pre 3 ⟨0, [(9, (.t (.var 9))), (8, (.t (.var 8))), (4, (.t (.var 4))), (3, (.t (.var 3))), (7, (.t (.var 7))), (6, (.t (.var 6))), (5, (.r 5)), (2, (.t (.var 2))), (1, (.t (.var 1))), (0, (.r 0))], [((.lit (0)), (.lit (0))), ((.lit (0)), (.lit (0)))], [], []⟩ (.both (.post 3 0 ⟨0, [(9, (.t (.var 9))), (8, (.t (.var 8))), (4, (.t (.var 4))), (3, (.t (.var 3))), (7, (.t (.var 7))), (6, (.t (.var 6))), (5, (.r 5)), (2, (.t (.var 2))), (1, (.t (.var 1))), (0, (.r 0))], [((.lit (0)), (.lit (0))), ((.lit (0)), (.lit (0)))], [], []⟩ 19 (.stuck 7 0 0)) (.both (.post 3 1 ⟨0, [(9, (.t (.var 9))), (8, (.t (.var 8))), (4, (.t (.var 4))), (3, (.t (.var 3))), (7, (.t (.var 7))), (6, (.t (.var 6))), (5, (.r 5)), (2, (.t (.var 2))), (1, (.t (.var 1))), (0, (.r 0))], [((.lit (0)), (.lit (0))), ((.lit (0)), (.lit (0)))], [], []⟩ 19 (.stuck 7 0 0)) (.both (.fresh 19 (.fresh 20 (.fresh 21 (.post 3 2 ⟨0, [(9, (.t (.var 9))), (8, (.t (.var 8))), (4, (.t (.var 4))), (3, (.t (.var 3))), (7, (.t (.var 7))), (6, (.t (.var 6))), (5, (.r 5)), (2, (.t (.var 2))), (1, (.t (.var 1))), (0, (.r 0))], [((.lit (0)), (.lit (0))), ((.lit (0)), (.lit (0)))], [], []⟩ 19 (.pre 4 ⟨0, [(9, (.t (.var 20))), (8, (.t (.var 21))), (4, (.t (.var 17))), (3, (.t (.var 18))), (7, (.t (.var 20))), (6, (.t (.var 1))), (5, (.r 19)), (2, (.t (.var 17))), (1, (.t (.var 1))), (0, (.r 16))], [((.lit (0)), (.lit (0))), ((.lit (0)), (.lit (0)))], [], []⟩ (.both (.fresh 22 (.post 4 0 ⟨0, [(9, (.t (.var 20))), (8, (.t (.var 21))), (4, (.t (.var 17))), (3, (.t (.var 18))), (7, (.t (.var 20))), (6, (.t (.var 1))), (5, (.r 19)), (2, (.t (.var 17))), (1, (.t (.var 1))), (0, (.r 16))], [((.lit (0)), (.lit (0))), ((.lit (0)), (.lit (0)))], [], []⟩ 22 (.br (.var 22)
 (.pre 5 ⟨0, [(4, (.t (.var 11))), (3, (.t (.var 12))), (2, (.t (.var 11))), (1, (.t (.var 1))), (0, (.r 10))], [((.lit (0)), (.lit (0)))], [], []⟩ (.both (.fresh 23 (.post 5 0 ⟨0, [(4, (.t (.var 11))), (3, (.t (.var 12))), (2, (.t (.var 11))), (1, (.t (.var 1))), (0, (.r 10))], [((.lit (0)), (.lit (0)))], [], []⟩ 23 (.pre 6 ⟨0, [(4, (.t (.var 4))), (3, (.t (.var 3))), (2, (.t (.var 2))), (1, (.t (.var 1))), (0, (.r 0))], [((.lit (0)), (.lit (0)))], [], []⟩ (.both (.fresh 24 (.post 6 0 ⟨0, [(4, (.t (.var 4))), (3, (.t (.var 3))), (2, (.t (.var 2))), (1, (.t (.var 1))), (0, (.r 0))], [((.lit (0)), (.lit (0)))], [], []⟩ 24 (.br (.beq (.var 23) (.var 24))
 (.pre 7 ⟨0, [(4, (.t (.var 11))), (3, (.t (.var 12))), (2, (.t (.var 11))), (1, (.t (.var 1))), (0, (.r 10))], [((.lit (0)), (.lit (0)))], [], []⟩ (.both (.fresh 25 (.fresh 26 (.fresh 27 (.fresh 28 (.post 7 0 ⟨0, [(4, (.t (.var 11))), (3, (.t (.var 12))), (2, (.t (.var 11))), (1, (.t (.var 1))), (0, (.r 10))], [((.lit (0)), (.lit (0)))], [], []⟩ 25 (.pre 8 ⟨0, [(4, (.t (.var 4))), (3, (.t (.var 3))), (2, (.t (.var 2))), (1, (.t (.var 1))), (0, (.r 0))], [((.lit (0)), (.lit (0)))], [], []⟩ (.both (.fresh 29 (.fresh 30 (.fresh 31 (.fresh 32 (.post 8 0 ⟨0, [(4, (.t (.var 4))), (3, (.t (.var 3))), (2, (.t (.var 2))), (1, (.t (.var 1))), (0, (.r 0))], [((.lit (0)), (.lit (0)))], [], []⟩ 29 (.pre 9 ⟨0, [(9, (.t (.var 30))), (8, (.t (.var 31))), (4, (.t (.var 26))), (3, (.t (.var 27))), (7, (.t (.var 30))), (6, (.t (.var 32))), (5, (.r 29)), (2, (.t (.var 26))), (1, (.t (.var 28))), (0, (.r 25))], [((.lit (0)), (.lit (0))), ((.lit (0)), (.lit (0)))], [], []⟩ (.both (.fresh 33 (.post 9 0 ⟨0, [(9, (.t (.var 30))), (8, (.t (.var 31))), (4, (.t (.var 26))), (3, (.t (.var 27))), (7, (.t (.var 30))), (6, (.t (.var 32))), (5, (.r 29)), (2, (.t (.var 26))), (1, (.t (.var 28))), (0, (.r 25))], [((.lit (0)), (.lit (0))), ((.lit (0)), (.lit (0)))], [], []⟩ 33 (.br (.var 33)
 (.pre 4 ⟨0, [(9, (.t (.var 4))), (8, (.t (.var 3))), (4, (.t (.var 11))), (3, (.t (.var 12))), (7, (.t (.var 2))), (6, (.t (.var 1))), (5, (.r 0)), (2, (.t (.var 11))), (1, (.t (.var 1))), (0, (.r 10))], [((.lit (0)), (.lit (0))), ((.lit (0)), (.lit (0)))], [], []⟩ (.both (.fresh 34 (.post 4 0 ⟨0, [(9, (.t (.var 4))), (8, (.t (.var 3))), (4, (.t (.var 11))), (3, (.t (.var 12))), (7, (.t (.var 2))), (6, (.t (.var 1))), (5, (.r 0)), (2, (.t (.var 11))), (1, (.t (.var 1))), (0, (.r 10))], [((.lit (0)), (.lit (0))), ((.lit (0)), (.lit (0)))], [], []⟩ 34 (.br (.var 34)
 (.pre 4 ⟨0, [(9, (.t (.var 9))), (8, (.t (.var 8))), (4, (.t (.var 14))), (3, (.t (.var 15))), (7, (.t (.var 7))), (6, (.t (.var 6))), (5, (.r 5)), (2, (.t (.var 14))), (1, (.t (.var 6))), (0, (.r 13))], [((.lit (0)), (.lit (0))), ((.lit (0)), (.lit (0)))], [], []⟩ (.both (.fresh 35 (.post 4 0 ⟨0, [(9, (.t (.var 9))), (8, (.t (.var 8))), (4, (.t (.var 14))), (3, (.t (.var 15))), (7, (.t (.var 7))), (6, (.t (.var 6))), (5, (.r 5)), (2, (.t (.var 14))), (1, (.t (.var 6))), (0, (.r 13))], [((.lit (0)), (.lit (0))), ((.lit (0)), (.lit (0)))], [], []⟩ 35 (.br (.var 35)
 (.pre 0 ⟨0, [], [], [], []⟩ (.both (.post 0 0 ⟨0, [], [], [], []⟩ 36 (.ret 0 ⟨10, [], [], [((.bl true), (.bl true))], []⟩)) .top))
 (.stuck 7 0 0)))) .top))
 (.stuck 7 0 0)))) .top))
 (.stuck 7 0 0)))) .top))))))) .top))))))) .top))
 (.stuck 7 0 0)))) .top)))) .top))
 (.stuck 7 0 0)))) .top)))))) .top)))))))) .top)))))))) .top)))))) .top))))))
theorem o_lawTables_eq : treeOf ⟨Try.prog, lawTablesC, [knownC, own21C, merge32C, refMerge33C, same34C, valid20C, refValid35C, live37C, refLive38C, sameInts36C], []⟩ 100000 Try.f8 = o_lawTables := by kernel_rfl
theorem lawTables_of (hd : ∀ c ∈ ([knownC, own21C, merge32C, refMerge33C, same34C, valid20C, refValid35C, live37C, refLive38C, sameInts36C] : List Ctr), c.ok Try.prog) (h : ∀ ρ : Env, ρ.good → (lawTablesC).pre ρ → o_lawTables.den ⟨Try.prog, lawTablesC, [knownC, own21C, merge32C, refMerge33C, same34C, valid20C, refValid35C, live37C, refLive38C, sameInts36C], []⟩ ρ) : (lawTablesC).ok Try.prog :=
  ok_of_tree Try.func8 (fun a w => Try.call8 a w) hd 100000 (fun ρ hg hp => by rw [o_lawTables_eq]; exact h ρ hg hp)
end Go.Proofs

/- The functions on tables: what they compute. -/
set_option linter.unusedSimpArgs false
set_option linter.unusedVariables false
namespace Go.Proofs
open Go Go.Eng

theorem wrapAdd {i n : Int} (h0 : 0 ≤ i) (h : i < n) (hn : n ≤ big) : IntKind.i64.wrap (i + 1) = i + 1 := by
  unfold big at hn; exact wrap64_id (by omega) (by omega)
theorem tab_len (d : List (List Value)) : (tabOf d).length = d.length := by simp [tabOf]
theorem ints_len (d : List (List Value)) : (intsOf d).length = d.length := by simp [intsOf]
theorem cellI_tab {d : List (List Value)} {i : Int} (h0 : 0 ≤ i) (h : i < (d.length : Int)) : (tabOf d)[i.toNat]? = some (cellI d i 0, cellI d i 1) := by
  have hl : i.toNat < d.length := by omega
  simp [tabOf, List.getElem?_map, List.getElem?_eq_getElem hl, cellI, cellV, rowI]
theorem cellI_ints {d : List (List Value)} {i : Int} (h0 : 0 ≤ i) (h : i < (d.length : Int)) : (intsOf d)[i.toNat]? = some (cellI d i 0) := by
  have hl : i.toNat < d.length := by omega
  simp [intsOf, List.getElem?_map, List.getElem?_eq_getElem hl, cellI, cellV, rowI]
theorem toNat_succ {i : Int} (h : 0 ≤ i) : (i + 1).toNat = i.toNat + 1 := by omega
theorem take_snoc {α : Type} {l : List α} {n : Nat} {x : α} (h : l[n]? = some x) : l.take (n + 1) = l.take n ++ [x] := by
  rw [List.take_add_one, h]; rfl
theorem okN_zero (l : List Ent) : okN l 0 = true := by simp [okN]
theorem okN_succ {l : List Ent} {n : Nat} {x : Ent} (h : l[n]? = some x) (h' : okN l n = true) (hx : validE x = true) : okN l (n + 1) = true := by
  unfold okN at *; rw [take_snoc h, List.all_append, h']; simp [hx]
theorem okN_all {l : List Ent} {n : Nat} (h : l.length ≤ n) (h' : okN l n = true) : okAll l = true := by
  unfold okN at h'; rwa [List.take_of_length_le h] at h'
theorem okAll_bad {l : List Ent} {n : Nat} {x : Ent} (h : l[n]? = some x) (hx : validE x = false) : okAll l = false := by
  have hm := List.mem_of_getElem? h
  cases hh : okAll l with
  | false => rfl
  | true => have := List.all_eq_true.1 hh x hm; rw [hx] at this; cases this
theorem sameN_zero (a b : List Ent) : sameN a b 0 := by simp [sameN]
theorem sameN_succ {a b : List Ent} {n : Nat} {x : Ent} (h : sameN a b n) (ha : a[n]? = some x) (hb : b[n]? = some x) : sameN a b (n + 1) := by
  unfold sameN at *; rw [take_snoc ha, take_snoc hb, h]
theorem sameN_all {a b : List Ent} {n : Nat} (h : sameN a b n) (ha : a.length ≤ n) (hb : b.length ≤ n) : a = b := by
  unfold sameN at h; rwa [List.take_of_length_le ha, List.take_of_length_le hb] at h
theorem sameIN_zero (a b : List Int) : sameIN a b 0 := by simp [sameIN]
theorem sameIN_succ {a b : List Int} {n : Nat} {x : Int} (h : sameIN a b n) (ha : a[n]? = some x) (hb : b[n]? = some x) : sameIN a b (n + 1) := by
  unfold sameIN at *; rw [take_snoc ha, take_snoc hb, h]
theorem sameIN_all {a b : List Int} {n : Nat} (h : sameIN a b n) (ha : a.length ≤ n) (hb : b.length ≤ n) : a = b := by
  unfold sameIN at h; rwa [List.take_of_length_le ha, List.take_of_length_le hb] at h

theorem validT_pos {l : List Ent} (h : validT l = true) : 1 ≤ l.length := by
  simp [validT] at h; exact h.1.1
theorem validT_le {l : List Ent} (h : validT l = true) : l.length ≤ 16 := by
  simp [validT] at h; exact h.1.2
theorem valid61_ok : valid61C.ok Try.prog := valid61_of (by simp) fun ρ hg hp => by
  simp [o_valid61, valid61C, validE]
  refine ⟨fun h => ?_, fun h => ?_⟩
  · simp [h, cmpOf]
  · intro h'; omega
theorem good71_ok : good71C.ok Try.prog := good71_of (by simp) fun ρ hg hp => by
  simp [o_good71, good71C, valid61C, validE]
  refine ⟨fun h => ?_, fun h => ?_⟩
  · simp [h, cmpOf]
  · intro h'; omega
theorem valid60_ok : valid60C.ok Try.prog := valid60_of (by simp [valid61_ok]) fun ρ hg hp => by
  simp [o_valid60, valid60C, valid61C]
theorem live72_ok : live72C.ok Try.prog := live72_of (by simp) fun ρ hg hp => by
  simp [o_live72, live72C, valid61C, liveS]
  refine ⟨fun h => .inl h, fun h => ?_⟩
  rw [show ((ρ 1).i == 1) = false by simpa using h]; simp [cmpOf]
theorem index84_ok : index84C.ok Try.prog := index84_of (by simp [valid60_ok]) fun ρ hg hp => by
  obtain ⟨hl, hb⟩ := hp
  simp [o_index84, index84C, index84I, valid60C, valid61C, arithOf, okN_zero]
  refine ⟨by omega, fun u _ h0 h1 h2 => ⟨fun h3 => ⟨h0, by omega, fun u1 _ h4 => ?_⟩, fun h3 => okN_all (by rw [tab_len]; omega) h2⟩⟩
  have hc := cellI_tab (d := (ρ 3).d) h0 (by omega)
  rw [wrapAdd h0 h3 hb]
  refine ⟨fun h5 => ⟨fun _ => ?_, fun _ => h0⟩, fun h5 => ⟨⟨by omega, by omega, ?_⟩, by omega⟩⟩
  · refine okAll_bad hc ?_
    rw [h5] at h4; simpa using h4.symm
  · rw [toNat_succ h0]
    refine okN_succ hc h2 ?_
    rw [h5] at h4; simpa using h4.symm
theorem contains59_ok : contains59C.ok Try.prog := contains59_of (by simp [index84_ok]) fun ρ hg hp => by
  simp only [contains59C, index84C] at hp
  simp [o_contains59, contains59C, index84C, hp]
  refine ⟨by omega, fun u _ h => ?_⟩
  cases hx : okAll (tabOf (ρ 3).d) <;> cases hy : cmpOf BinOp.geq u.i 0 <;> simp_all <;> omega
theorem valid20_ok : valid20C.ok Try.prog := valid20_of (by simp [contains59_ok]) fun ρ hg hp => by
  obtain ⟨hl, hb⟩ := hp
  simp [o_valid20, valid20C, contains59C, index84C, validT, tab_len]
  refine ⟨by omega, fun h => ⟨fun h2 => ⟨⟨hl, hb⟩, fun u _ h3 => ?_⟩, fun h2 => ?_⟩, fun h => ?_⟩
  · rw [show decide (1 ≤ (ρ 3).d.length) = true by simp; omega, show decide ((ρ 3).d.length ≤ 16) = true by simp; omega, h3]; simp
  · intro h3; omega
  · intro h3; omega
theorem refValid35_ok : refValid35C.ok Try.prog := refValid35_of (by simp [good71_ok]) fun ρ hg hp => by
  obtain ⟨hl, hb⟩ := hp
  simp [o_refValid35, refValid35C, valid20C, contains59C, index84C, refValid35I, index84I, good71C, valid61C, arithOf, okN_zero, validT, tab_len]
  refine ⟨by omega, fun h => ?_, fun h => ⟨fun h2 => ?_, fun h2 => ⟨by omega, fun u _ h0 h1 h3 => ⟨fun h4 => ⟨h0, by omega, fun u1 _ h5 => ?_⟩, fun h4 => ?_⟩⟩⟩⟩
  · intro h3; omega
  · intro h3; omega
  · have hc := cellI_tab (d := (ρ 3).d) h0 (by omega)
    rw [wrapAdd h0 h4 hb]
    refine ⟨fun h6 _ _ => ?_, fun h6 => ⟨⟨by omega, by omega, ?_⟩, by omega⟩⟩
    · exact okAll_bad hc (by rw [← h5, h6])
    · rw [toNat_succ h0]; exact okN_succ hc h3 (by rw [← h5, h6])
  · exact ⟨⟨by omega, by omega⟩, okN_all (by rw [tab_len]; omega) h3⟩
theorem own21_ok : own21C.ok Try.prog := own21_of (by simp) fun ρ hg hp => by
  obtain ⟨hl, hb⟩ := hp
  unfold big at hb
  simp [o_own21, own21C]
  exact ⟨by omega, by omega, by omega, by rw [hl]; simp⟩
theorem clone63_ok : clone63C.ok Try.prog := clone63_of (by simp) fun ρ hg hp => by
  obtain ⟨hl, h0, hb⟩ := hp
  unfold big at hb
  simp [o_clone63, clone63C]
  refine ⟨fun h => ?_, fun _ => ⟨by omega, by omega, by omega, by rw [hl]; simp⟩⟩
  rw [h] at hl; simp at hl; omega
theorem joinTab_get {a b : List Ent} {j : Nat} {x y : Ent} (ha : a[j]? = some x) (hb : b[j]? = some y) : (joinTab a b)[j]? = some (joinE x y) := by
  simp [joinTab, List.getElem?_zipWith, ha, hb]
theorem tab_put {d : List (List Value)} {i : Int} {x y : Int} (h0 : 0 ≤ i) (h : i < (d.length : Int)) (j : Nat) :
    (tabOf (putD d i 0 [.int .u64 x, .int .u8 y]))[j]? = if j = i.toNat then some (x, y) else (tabOf d)[j]? := by
  simp only [tabOf, putD, List.getElem?_map, List.getElem?_set]
  by_cases hj : i.toNat = j
  · subst hj
    have : i.toNat < d.length := by omega
    simp [this, splice, rowI, vInt]
  · rw [if_neg hj, if_neg (fun h => hj h.symm)]
theorem putD_len (d : List (List Value)) (i : Int) (c : Nat) (vs : List Value) : (putD d i c vs).length = d.length := by simp [putD]
theorem joined_zero (a b : List Ent) : joinedTo a a b 0 := fun j => by simp
theorem joined_all {t a b : List Ent} {n : Nat} (h : joinedTo t a b n) (hn : a.length ≤ n) : t = joinTab a b := by
  apply List.ext_getElem?
  intro j
  rw [h j]
  split
  · rfl
  · rename_i hj
    rw [List.getElem?_eq_none (by omega), List.getElem?_eq_none (by simp [joinTab]; omega)]
theorem joined_succ {d : List (List Value)} {a b : List Ent} {i : Int} {x y : Ent} {z : Ent} (h0 : 0 ≤ i) (hi : i < (d.length : Int)) (h : joinedTo (tabOf d) a b i.toNat) (ha : a[i.toNat]? = some x) (hb : b[i.toNat]? = some y) (hz : z = joinE x y) :
    joinedTo (tabOf (putD d i 0 [.int .u64 z.1, .int .u8 z.2])) a b (i.toNat + 1) := fun j => by
  rw [tab_put h0 hi]
  by_cases hj : j = i.toNat
  · subst hj; simp [joinTab_get ha hb, hz]
  · rw [if_neg hj, h j]
    by_cases h1 : j < i.toNat
    · rw [if_pos h1, if_pos (by omega)]
    · rw [if_neg h1, if_neg (by omega)]
theorem merge32_ok : merge32C.ok Try.prog := merge32_of (by simp [valid20_ok, clone63_ok, join_ok]) fun ρ hg hp => by
  obtain ⟨hl, hm, hb, hc⟩ := hp
  have hz : ∀ x : List Ent, joinedTo x x (tabOf (ρ 8).d) 0 := fun x => joined_zero x _
  simp [o_merge32, merge32C, merge32I, valid20C, contains59C, index84C, clone63C, joinD, joinC, arithOf]
  refine ⟨⟨hl, hb⟩, fun u _ hu => ⟨fun h1 => ?_, fun h1 => ⟨⟨hm, hc⟩, fun u2 _ hu2 => ⟨fun h2 => ?_, fun h2 => ⟨by omega, by omega, fun h3 => ?_, fun h3 => ?_⟩⟩⟩⟩⟩
  · rw [← hu, h1]; simp
  · rw [← hu, ← hu2, h1, h2]; simp
  · rw [← hu, ← hu2, h1, h2]; exact ⟨⟨rfl, rfl⟩, h3⟩
  · have hv1 : validT (tabOf (ρ 3).d) = true := hu.symm.trans h1
    have hv2 : validT (tabOf (ρ 8).d) = true := hu2.symm.trans h2
    have hpos := validT_pos hv1
    rw [tab_len] at hpos
    refine ⟨⟨hl, by omega, hb⟩, fun ud _ hud => ⟨⟨by omega, by rw [hud], by rw [hud]; exact hz _⟩, fun ui _ ux _ h0 h4 h5 h6 => ⟨fun h7 => ?_, fun h7 => ?_⟩⟩⟩
    · have hcA := cellI_tab (d := ux.d) h0 (by omega)
      have hcB := cellI_tab (d := (ρ 8).d) h0 (by omega)
      have hcC : (tabOf (ρ 3).d)[ui.i.toNat]? = some (cellI ux.d ui.i 0, cellI ux.d ui.i 1) := by
        rw [← hcA]; have := h6 ui.i.toNat; rw [if_neg (by omega)] at this; exact this.symm
      rw [wrapAdd h0 h7 hc, toNat_succ h0]
      refine ⟨h0, by omega, by omega, by omega, fun h8 => ⟨⟨by omega, by omega, by rw [putD_len]; exact h5, ?_⟩, by omega⟩, fun h8 => ⟨⟨by omega, by omega, by rw [putD_len]; exact h5, ?_⟩, by omega⟩⟩
      · exact joined_succ (z := (cellI (ρ 8).d ui.i 0, cellI (ρ 8).d ui.i 1)) h0 (by omega) h6 hcC hcB (by simp [joinE, newerE, h8])
      · exact joined_succ (z := (cellI ux.d ui.i 0, cellI ux.d ui.i 1)) h0 (by omega) h6 hcC hcB (by simp [joinE, newerE, h8])
    · exact ⟨⟨hv1, hv2⟩, h3, joined_all h6 (by rw [tab_len]; omega), h5⟩
theorem mergeV32_ok : mergeV32C.ok Try.prog := mergeV32_of (by simp [valid20_ok, clone63_ok, join_ok]) fun ρ hg hp => by
  obtain ⟨hl, hm, heq, hv1, hv2⟩ := hp
  have hz : ∀ x : List Ent, joinedTo x x (tabOf (ρ 8).d) 0 := fun x => joined_zero x _
  have hpos := validT_pos hv1
  have hle := validT_le hv1
  rw [tab_len] at hpos hle
  have h16 : (16 : Int) ≤ big := by decide
  have hc : (ρ 6).i ≤ big := by omega
  simp [o_mergeV32, mergeV32C, merge32C, merge32I, valid20C, contains59C, index84C, clone63C, joinD, joinC, arithOf]
  refine ⟨⟨hl, by omega⟩, fun u _ hu => ⟨by rw [hu, hv1], fun _ => ⟨⟨hm, by omega⟩, fun u2 _ hu2 => ⟨by rw [hu2, hv2], fun _ => ⟨by omega, by omega, heq, fun h3 => ?_⟩⟩⟩⟩⟩
  refine ⟨⟨hl, by omega, by omega⟩, fun ud _ hud => ⟨⟨by omega, by rw [hud], by rw [hud]; exact hz _⟩, fun ui _ ux _ h0 h4 h5 h6 => ⟨fun h7 => ?_, fun h7 => ?_⟩⟩⟩
  · have hcA := cellI_tab (d := ux.d) h0 (by omega)
    have hcB := cellI_tab (d := (ρ 8).d) h0 (by omega)
    have hcC : (tabOf (ρ 3).d)[ui.i.toNat]? = some (cellI ux.d ui.i 0, cellI ux.d ui.i 1) := by
      rw [← hcA]; have := h6 ui.i.toNat; rw [if_neg (by omega)] at this; exact this.symm
    rw [wrapAdd h0 h7 hc, toNat_succ h0]
    refine ⟨h0, by omega, by omega, by omega, fun h8 => ⟨⟨by omega, by omega, by rw [putD_len]; exact h5, ?_⟩, by omega⟩, fun h8 => ⟨⟨by omega, by omega, by rw [putD_len]; exact h5, ?_⟩, by omega⟩⟩
    · exact joined_succ (z := (cellI (ρ 8).d ui.i 0, cellI (ρ 8).d ui.i 1)) h0 (by omega) h6 hcC hcB (by simp [joinE, newerE, h8])
    · exact joined_succ (z := (cellI ux.d ui.i 0, cellI ux.d ui.i 1)) h0 (by omega) h6 hcC hcB (by simp [joinE, newerE, h8])
  · exact ⟨joined_all h6 (by rw [tab_len]; omega), h5⟩
theorem refNewer79_ok : refNewer79C.ok Try.prog := refNewer79_of (by simp) fun ρ hg hp => by
  simp [o_refNewer79, refNewer79C, newerD, newerC]
  refine ⟨fun h => ?_, fun h => ?_⟩
  · cases hx : cmpOf BinOp.gtr (ρ 1).i (ρ 3).i <;> cases hy : cmpOf BinOp.gtr (ρ 0).i (ρ 2).i <;> simp_all
  · cases hx : cmpOf BinOp.gtr (ρ 1).i (ρ 3).i <;> cases hy : cmpOf BinOp.gtr (ρ 0).i (ρ 2).i <;> simp_all
theorem refJoin70_ok : refJoin70C.ok Try.prog := refJoin70_of (by simp [refNewer79_ok]) fun ρ hg hp => by
  simp [o_refJoin70, refJoin70C, joinD, joinC, refNewer79C, newerD, newerC, newerB]
theorem joinTab_snoc {d : List (List Value)} {a b : List Ent} {n : Nat} {x y z : Ent} (h : tabOf d = joinTab (a.take n) (b.take n)) (ha : a[n]? = some x) (hb : b[n]? = some y) (hz : z = joinE x y) :
    tabOf (d ++ [[.int .u64 z.1, .int .u8 z.2]]) = joinTab (a.take (n + 1)) (b.take (n + 1)) := by
  rw [take_snoc ha, take_snoc hb]
  have hla : n < a.length := (List.getElem?_eq_some_iff.1 ha).1
  have hlb : n < b.length := (List.getElem?_eq_some_iff.1 hb).1
  simp only [joinTab] at h ⊢
  rw [List.zipWith_append (by simp; omega), ← h]
  simp [tabOf, rowI, vInt, hz]
theorem refMerge33_ok : refMerge33C.ok Try.prog := refMerge33_of (by simp [refValid35_ok, refJoin70_ok]) fun ρ hg hp => by
  obtain ⟨hl, hm, hb, hc⟩ := hp
  simp [o_refMerge33, refMerge33C, merge32C, refMerge33I, refValid35C, valid20C, contains59C, index84C, refJoin70C, joinD, joinC, arithOf]
  refine ⟨⟨hl, hb⟩, fun u _ hu => ⟨fun h1 => ?_, fun h1 => ⟨⟨hm, hc⟩, fun u2 _ hu2 => ⟨fun h2 => ?_, fun h2 => ⟨by omega, by omega, fun h3 => ?_, fun h3 => ?_⟩⟩⟩⟩⟩
  · rw [← hu, h1]; simp
  · rw [← hu, ← hu2, h1, h2]; simp
  · rw [← hu, ← hu2, h1, h2]; exact ⟨⟨rfl, rfl⟩, h3⟩
  · have hv1 : validT (tabOf (ρ 3).d) = true := hu.symm.trans h1
    have hv2 : validT (tabOf (ρ 8).d) = true := hu2.symm.trans h2
    refine ⟨⟨by omega, by simp [tabOf, joinTab]⟩, fun ui _ ux _ uy _ h0 h4 h5 h6 h7 => ⟨fun h8 => ?_, fun h8 => ?_⟩⟩
    · have hcA := cellI_tab (d := (ρ 3).d) h0 (by omega)
      have hcB := cellI_tab (d := (ρ 8).d) h0 (by omega)
      have hbig : 16 * (uy.i + 1) ≤ 140737488355328 := by unfold big at hb; omega
      rw [wrapAdd h0 h8 hb, toNat_succ h0]
      refine ⟨h0, by omega, by omega, by omega, fun h9 => ⟨by omega, hbig, ⟨by omega, by omega, by omega, by omega, ?_⟩, by omega⟩, fun h9 => ⟨by omega, hbig, ⟨by omega, by omega, by omega, by omega, ?_⟩, by omega⟩⟩
      · exact joinTab_snoc (z := (cellI (ρ 8).d ui.i 0, cellI (ρ 8).d ui.i 1)) h7 hcA hcB (by simp [joinE, newerE, h9])
      · exact joinTab_snoc (z := (cellI (ρ 3).d ui.i 0, cellI (ρ 3).d ui.i 1)) h7 hcA hcB (by simp [joinE, newerE, h9])
    · refine ⟨by omega, ⟨hv1, hv2⟩, h3, ?_, by omega⟩
      rw [h7, List.take_of_length_le (by rw [tab_len]; omega), List.take_of_length_le (by rw [tab_len]; omega)]
theorem same34_ok : same34C.ok Try.prog := same34_of (by simp) fun ρ hg hp => by
  obtain ⟨hl, hm, hb, hc⟩ := hp
  simp [o_same34, same34C, merge32C, same34I, arithOf, sameN_zero]
  refine ⟨by omega, by omega, fun h h' => ?_, fun h => ⟨⟨by omega, h⟩, fun u _ h0 h1 _ h2 => ⟨fun h3 => ⟨h0, by omega, by omega, by omega, fun h4 h5 => ?_, fun h4 h5 => ?_⟩, fun h3 => ?_⟩⟩⟩
  · have := congrArg List.length h'; rw [tab_len, tab_len] at this; omega
  · have hcA := cellI_tab (d := (ρ 3).d) h0 (by omega)
    have hcB := cellI_tab (d := (ρ 8).d) h0 (by omega)
    rw [h5, hcB] at hcA
    simp only [Option.some.injEq, Prod.mk.injEq] at hcA
    rcases h4 with h4 | h4
    · exact h4 hcA.1.symm
    · exact h4 hcA.2.symm
  · have hcA := cellI_tab (d := (ρ 3).d) h0 (by omega)
    have hcB := cellI_tab (d := (ρ 8).d) h0 (by omega)
    rw [h4, h5] at hcA
    rw [wrapAdd h0 h3 hb, toNat_succ h0]
    exact ⟨⟨by omega, by omega, h, sameN_succ h2 hcA hcB⟩, by omega⟩
  · exact sameN_all h2 (by rw [tab_len]; omega) (by rw [tab_len]; omega)
theorem sameInts36_ok : sameInts36C.ok Try.prog := sameInts36_of (by simp) fun ρ hg hp => by
  obtain ⟨hl, hm, hb, hc⟩ := hp
  simp [o_sameInts36, sameInts36C, merge32C, sameInts36I, arithOf, sameIN_zero]
  refine ⟨by omega, by omega, fun h h' => ?_, fun h => ⟨⟨by omega, h⟩, fun u _ h0 h1 _ h2 => ⟨fun h3 => ⟨h0, by omega, by omega, by omega, fun h4 h5 => ?_, fun h4 => ?_⟩, fun h3 => ?_⟩⟩⟩
  · have := congrArg List.length h'; rw [ints_len, ints_len] at this; omega
  · have hcA := cellI_ints (d := (ρ 3).d) h0 (by omega)
    have hcB := cellI_ints (d := (ρ 8).d) h0 (by omega)
    rw [h5, hcB] at hcA
    simp only [Option.some.injEq] at hcA
    exact h4 hcA.symm
  · have hcA := cellI_ints (d := (ρ 3).d) h0 (by omega)
    have hcB := cellI_ints (d := (ρ 8).d) h0 (by omega)
    rw [h4] at hcA
    rw [wrapAdd h0 h3 hb, toNat_succ h0]
    exact ⟨⟨by omega, by omega, h, sameIN_succ h2 hcA hcB⟩, by omega⟩
  · exact sameIN_all h2 (by rw [ints_len]; omega) (by rw [ints_len]; omega)
theorem liveN_zero (l : List Ent) : liveN l 0 = [] := by simp [liveN]
theorem liveN_yes {l : List Ent} {n : Nat} {x : Ent} (h : l[n]? = some x) (hx : liveS x.2 = true) : liveN l (n + 1) = liveN l n ++ [(n : Int)] := by
  simp [liveN, List.range_succ, List.filter_append, List.filter_cons, List.getD, h, hx]
theorem liveN_no {l : List Ent} {n : Nat} {x : Ent} (h : l[n]? = some x) (hx : liveS x.2 = false) : liveN l (n + 1) = liveN l n := by
  simp [liveN, List.range_succ, List.filter_append, List.filter_cons, List.getD, h, hx]
theorem ints_snoc (d : List (List Value)) (z : Int) : intsOf (d ++ [[.int .i64 z]]) = intsOf d ++ [z] := by simp [intsOf, rowI, vInt]
theorem live37_ok : live37C.ok Try.prog := live37_of (by simp [live72_ok]) fun ρ hg hp => by
  obtain ⟨hl, hb⟩ := hp
  simp [o_live37, live37C, live37I, live72C, valid61C, arithOf, liveN_zero]
  refine ⟨by omega, ⟨by omega, by simp [intsOf]⟩, fun ui _ ux _ uy _ h0 h1 h2 h3 h4 => ⟨fun h5 => ⟨h0, by omega, fun ub _ h6 => ⟨fun h7 => ?_, fun h7 => ?_⟩⟩, fun h5 => ⟨?_, h2, by omega⟩⟩⟩
  · have hc := cellI_tab (d := (ρ 3).d) h0 (by omega)
    have hbig : 8 * (uy.i + 1) ≤ 140737488355328 := by unfold big at hb; omega
    rw [wrapAdd h0 h5 hb, toNat_succ h0]
    refine ⟨h2, hbig, ⟨by omega, by omega, h2, by omega, ?_⟩, by omega⟩
    rw [liveN_yes hc (by rw [← h6, h7]), ints_snoc, h4, Int.toNat_of_nonneg h0]
  · have hc := cellI_tab (d := (ρ 3).d) h0 (by omega)
    rw [wrapAdd h0 h5 hb, toNat_succ h0]
    refine ⟨⟨by omega, by omega, h2, by omega, ?_⟩, by omega⟩
    rw [liveN_no hc (by rw [← h6, h7]), h4]
  · rw [h4, liveT, tab_len, show ui.i.toNat = (ρ 3).d.length by omega]
theorem refLive38_ok : refLive38C.ok Try.prog := refLive38_of (by simp) fun ρ hg hp => by
  obtain ⟨hl, hb⟩ := hp
  simp [o_refLive38, refLive38C, refLive38I, live37C, live37I, arithOf, liveN_zero]
  refine ⟨⟨by omega, by simp [intsOf]⟩, fun ui _ ux _ uy _ h0 h1 h2 h3 h4 => ⟨by omega, fun h5 => ⟨h0, by omega, fun h6 => ?_, fun h6 => ⟨fun h7 => ?_, fun h7 => ?_⟩⟩, fun h5 => ⟨?_, h2, by omega⟩⟩⟩
  · have hc := cellI_tab (d := (ρ 3).d) h0 (by omega)
    have hbig : 8 * (uy.i + 1) ≤ 140737488355328 := by unfold big at hb; omega
    rw [wrapAdd h0 h5 hb, toNat_succ h0]
    refine ⟨h2, hbig, ⟨by omega, by omega, h2, by omega, ?_⟩, by omega⟩
    rw [liveN_yes hc (by simp [h6, liveS]), ints_snoc, h4, Int.toNat_of_nonneg h0]
  · have hc := cellI_tab (d := (ρ 3).d) h0 (by omega)
    have hbig : 8 * (uy.i + 1) ≤ 140737488355328 := by unfold big at hb; omega
    rw [wrapAdd h0 h5 hb, toNat_succ h0]
    refine ⟨h2, hbig, ⟨by omega, by omega, h2, by omega, ?_⟩, by omega⟩
    rw [liveN_yes hc (by simp [h7, liveS]), ints_snoc, h4, Int.toNat_of_nonneg h0]
  · have hc := cellI_tab (d := (ρ 3).d) h0 (by omega)
    rw [wrapAdd h0 h5 hb, toNat_succ h0]
    refine ⟨⟨by omega, by omega, h2, by omega, ?_⟩, by omega⟩
    rw [liveN_no hc (by simp [h6, h7, liveS]), h4]
  · rw [h4, liveT, tab_len, show ui.i.toNat = (ρ 3).d.length by omega]
theorem lawTables_ok : lawTablesC.ok Try.prog := lawTables_of (by simp [known_ok, own21_ok, merge32_ok, refMerge33_ok, same34_ok, valid20_ok, refValid35_ok, live37_ok, refLive38_ok, sameInts36_ok]) fun ρ hg hp => by
  obtain ⟨hl, hm, hb, hc⟩ := hp
  have hbig : (40 : Int) ≤ big := by decide
  have h0 : (0 : Int) ≤ big := by decide
  simp [o_lawTables, lawTablesC, lawWaitsC, knownC, own21C, refMerge33C, merge32C, same34C, refValid35C, valid20C, contains59C, index84C, refLive38C, live37C, sameInts36C, arithOf]
  repeat' (first | refine ⟨?_, ?_⟩ | intro _)
  all_goals (first | omega | assumption | (simp_all; done) | (simp_all; omega))
end Go.Proofs
