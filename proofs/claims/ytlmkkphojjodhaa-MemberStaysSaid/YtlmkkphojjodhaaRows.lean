/-
  No cell of these rows narrows 'for every input' (looked for: loops, veiled, ifaces, maps, wideKeys, modest, calm, conditions, laid).
  DERIVED. THE GIVEN ROWS OF THIS SEAT. 14 by the template 'for every input the law returns true; each argument reads behind the call as it read before'; 0 by the template 'total and deterministic' (their statements: YtlmkkphojjodhaaTotals.lean).
  GIVEN WITH THE SEED: the statements are not yours to turn. If you find one false, say at which input.
  Laid BY PROGRAM, IN A SANDBOX (cutbox-rows.mjs): the forced cells as the released guide's own fill.sh prints them over the translation d2c5b9290db53cad… (all of the seat's roots in one cut). By AI agents, Wed Nov 11 2026. No macro, syntax, notation, axiom, sorry.
-/
import Derived.Test.YtlmkkphojjodhaaChecked
import GoSem.Claim
import GoSem.ClaimJoined
import GoSem.ClaimMapViews
import Derived.JoinedTies
import Derived.KernelRfl
namespace Go.Proofs.Ytlmkkphojjodhaa
/- THE CELL 'sum', in the pinned program and in every row, IS THE sha256 OF THE DUMP (.gsa) THAT YtlmkkphojjodhaaProg.lean LOADS. Nothing in Lean hashes anything: it is a label: what it is worth is what the hold of that sum in a sandbox is worth. -/
noncomputable def Try.pinned : Pinned := { name := "ytlmkkphojjodhaa", sum := "d2c5b9290db53cad3119fb27eeed1e1c069e4313090b4f3a20bbeeacff58b065", checked := Try.checked }
namespace Rows
def none {H : Type} : Left H := { results := [], args := [] }

/-- 'stolonlaw05.MemberOrders': WHATEVER THE INPUT: true; the input reads as it did. -/
def memberOrdersSpec : ChangeSpec := { name := "memberOrders", fn := fun _ => fun
  | [d1, d2, d3] => { results := [.lit (.bool true)], args := [d1, d2, d3] }
  | _ => none }
def memberOrdersRow : OpenClaim := { program := "ytlmkkphojjodhaa", sum := "d2c5b9290db53cad3119fb27eeed1e1c069e4313090b4f3a20bbeeacff58b065", func := "stolon/stolonlaw05.MemberOrders", spec := "memberOrders", unfollowed := true, recurses := true, apart := false }
def MemberOrdersSaid : Prop := memberOrdersRow.holds Try.pinned (OpenSpec.ofChange memberOrdersSpec)

/-- ITS FALSE NEIGHBOUR: 'it returns false'. Refute it at one input. -/
def memberOrdersWrong : ChangeSpec := { name := "memberOrders", fn := fun _ => fun
  | [d1, d2, d3] => { results := [.lit (.bool false)], args := [d1, d2, d3] }
  | _ => none }
def MemberOrdersWrongFalsely : Prop := memberOrdersRow.holds Try.pinned (OpenSpec.ofChange memberOrdersWrong)

/-- 'stolonlaw05.MemberAnswers': WHATEVER THE INPUT: true; the input reads as it did. -/
def memberAnswersSpec : ChangeSpec := { name := "memberAnswers", fn := fun _ => fun
  | [d1, d2, d3] => { results := [.lit (.bool true)], args := [d1, d2, d3] }
  | _ => none }
def memberAnswersRow : OpenClaim := { program := "ytlmkkphojjodhaa", sum := "d2c5b9290db53cad3119fb27eeed1e1c069e4313090b4f3a20bbeeacff58b065", func := "stolon/stolonlaw05.MemberAnswers", spec := "memberAnswers", unfollowed := true, recurses := true, apart := false }
def MemberAnswersSaid : Prop := memberAnswersRow.holds Try.pinned (OpenSpec.ofChange memberAnswersSpec)

/-- ITS FALSE NEIGHBOUR: 'it returns false'. Refute it at one input. -/
def memberAnswersWrong : ChangeSpec := { name := "memberAnswers", fn := fun _ => fun
  | [d1, d2, d3] => { results := [.lit (.bool false)], args := [d1, d2, d3] }
  | _ => none }
def MemberAnswersWrongFalsely : Prop := memberAnswersRow.holds Try.pinned (OpenSpec.ofChange memberAnswersWrong)

/-- 'stolonlaw05.MemberWaits': WHATEVER THE INPUT: true; the input reads as it did. -/
def memberWaitsSpec : ChangeSpec := { name := "memberWaits", fn := fun _ => fun
  | [d] => { results := [.lit (.bool true)], args := [d] }
  | _ => none }
def memberWaitsRow : OpenClaim := { program := "ytlmkkphojjodhaa", sum := "d2c5b9290db53cad3119fb27eeed1e1c069e4313090b4f3a20bbeeacff58b065", func := "stolon/stolonlaw05.MemberWaits", spec := "memberWaits", unfollowed := true, recurses := true, apart := false }
def MemberWaitsSaid : Prop := memberWaitsRow.holds Try.pinned (OpenSpec.ofChange memberWaitsSpec)

/-- ITS FALSE NEIGHBOUR: 'it returns false'. Refute it at one input. -/
def memberWaitsWrong : ChangeSpec := { name := "memberWaits", fn := fun _ => fun
  | [d] => { results := [.lit (.bool false)], args := [d] }
  | _ => none }
def MemberWaitsWrongFalsely : Prop := memberWaitsRow.holds Try.pinned (OpenSpec.ofChange memberWaitsWrong)

/-- 'stolonlaw05.MemberDetects': WHATEVER THE INPUT: true; the input reads as it did. -/
def memberDetectsSpec : ChangeSpec := { name := "memberDetects", fn := fun _ => fun
  | [d1, d2, d3] => { results := [.lit (.bool true)], args := [d1, d2, d3] }
  | _ => none }
def memberDetectsRow : OpenClaim := { program := "ytlmkkphojjodhaa", sum := "d2c5b9290db53cad3119fb27eeed1e1c069e4313090b4f3a20bbeeacff58b065", func := "stolon/stolonlaw05.MemberDetects", spec := "memberDetects", unfollowed := true, recurses := true, apart := false }
def MemberDetectsSaid : Prop := memberDetectsRow.holds Try.pinned (OpenSpec.ofChange memberDetectsSpec)

/-- ITS FALSE NEIGHBOUR: 'it returns false'. Refute it at one input. -/
def memberDetectsWrong : ChangeSpec := { name := "memberDetects", fn := fun _ => fun
  | [d1, d2, d3] => { results := [.lit (.bool false)], args := [d1, d2, d3] }
  | _ => none }
def MemberDetectsWrongFalsely : Prop := memberDetectsRow.holds Try.pinned (OpenSpec.ofChange memberDetectsWrong)

/-- 'stolonlaw05.MemberHelpers': WHATEVER THE INPUT: true; the input reads as it did. -/
def memberHelpersSpec : ChangeSpec := { name := "memberHelpers", fn := fun _ => fun
  | [d1, d2, d3] => { results := [.lit (.bool true)], args := [d1, d2, d3] }
  | _ => none }
def memberHelpersRow : OpenClaim := { program := "ytlmkkphojjodhaa", sum := "d2c5b9290db53cad3119fb27eeed1e1c069e4313090b4f3a20bbeeacff58b065", func := "stolon/stolonlaw05.MemberHelpers", spec := "memberHelpers", unfollowed := true, recurses := true, apart := false }
def MemberHelpersSaid : Prop := memberHelpersRow.holds Try.pinned (OpenSpec.ofChange memberHelpersSpec)

/-- ITS FALSE NEIGHBOUR: 'it returns false'. Refute it at one input. -/
def memberHelpersWrong : ChangeSpec := { name := "memberHelpers", fn := fun _ => fun
  | [d1, d2, d3] => { results := [.lit (.bool false)], args := [d1, d2, d3] }
  | _ => none }
def MemberHelpersWrongFalsely : Prop := memberHelpersRow.holds Try.pinned (OpenSpec.ofChange memberHelpersWrong)

/-- 'stolonlaw05.MemberTables': WHATEVER THE INPUT: true; the input reads as it did. -/
def memberTablesSpec : ChangeSpec := { name := "memberTables", fn := fun _ => fun
  | [d1, d2] => { results := [.lit (.bool true)], args := [d1, d2] }
  | _ => none }
def memberTablesRow : OpenClaim := { program := "ytlmkkphojjodhaa", sum := "d2c5b9290db53cad3119fb27eeed1e1c069e4313090b4f3a20bbeeacff58b065", func := "stolon/stolonlaw05.MemberTables", spec := "memberTables", unfollowed := true, recurses := true, apart := false }
def MemberTablesSaid : Prop := memberTablesRow.holds Try.pinned (OpenSpec.ofChange memberTablesSpec)

/-- ITS FALSE NEIGHBOUR: 'it returns false'. Refute it at one input. -/
def memberTablesWrong : ChangeSpec := { name := "memberTables", fn := fun _ => fun
  | [d1, d2] => { results := [.lit (.bool false)], args := [d1, d2] }
  | _ => none }
def MemberTablesWrongFalsely : Prop := memberTablesRow.holds Try.pinned (OpenSpec.ofChange memberTablesWrong)

/-- 'stolonlaw05.MemberMerges': WHATEVER THE INPUT: true; the input reads as it did. -/
def memberMergesSpec : ChangeSpec := { name := "memberMerges", fn := fun _ => fun
  | [d1, d2, d3] => { results := [.lit (.bool true)], args := [d1, d2, d3] }
  | _ => none }
def memberMergesRow : OpenClaim := { program := "ytlmkkphojjodhaa", sum := "d2c5b9290db53cad3119fb27eeed1e1c069e4313090b4f3a20bbeeacff58b065", func := "stolon/stolonlaw05.MemberMerges", spec := "memberMerges", unfollowed := true, recurses := true, apart := false }
def MemberMergesSaid : Prop := memberMergesRow.holds Try.pinned (OpenSpec.ofChange memberMergesSpec)

/-- ITS FALSE NEIGHBOUR: 'it returns false'. Refute it at one input. -/
def memberMergesWrong : ChangeSpec := { name := "memberMerges", fn := fun _ => fun
  | [d1, d2, d3] => { results := [.lit (.bool false)], args := [d1, d2, d3] }
  | _ => none }
def MemberMergesWrongFalsely : Prop := memberMergesRow.holds Try.pinned (OpenSpec.ofChange memberMergesWrong)

/-- 'stolonlaw05.MemberCalm': WHATEVER THE INPUT: true; the input reads as it did. -/
def memberCalmSpec : ChangeSpec := { name := "memberCalm", fn := fun _ => fun
  | [d1, d2] => { results := [.lit (.bool true)], args := [d1, d2] }
  | _ => none }
def memberCalmRow : OpenClaim := { program := "ytlmkkphojjodhaa", sum := "d2c5b9290db53cad3119fb27eeed1e1c069e4313090b4f3a20bbeeacff58b065", func := "stolon/stolonlaw05.MemberCalm", spec := "memberCalm", unfollowed := true, recurses := true, apart := false }
def MemberCalmSaid : Prop := memberCalmRow.holds Try.pinned (OpenSpec.ofChange memberCalmSpec)

/-- ITS FALSE NEIGHBOUR: 'it returns false'. Refute it at one input. -/
def memberCalmWrong : ChangeSpec := { name := "memberCalm", fn := fun _ => fun
  | [d1, d2] => { results := [.lit (.bool false)], args := [d1, d2] }
  | _ => none }
def MemberCalmWrongFalsely : Prop := memberCalmRow.holds Try.pinned (OpenSpec.ofChange memberCalmWrong)

/-- 'stolonlaw05.MemberGrows': WHATEVER THE INPUT: true; the input reads as it did. -/
def memberGrowsSpec : ChangeSpec := { name := "memberGrows", fn := fun _ => fun
  | [d1, d2, d3] => { results := [.lit (.bool true)], args := [d1, d2, d3] }
  | _ => none }
def memberGrowsRow : OpenClaim := { program := "ytlmkkphojjodhaa", sum := "d2c5b9290db53cad3119fb27eeed1e1c069e4313090b4f3a20bbeeacff58b065", func := "stolon/stolonlaw05.MemberGrows", spec := "memberGrows", unfollowed := true, recurses := true, apart := false }
def MemberGrowsSaid : Prop := memberGrowsRow.holds Try.pinned (OpenSpec.ofChange memberGrowsSpec)

/-- ITS FALSE NEIGHBOUR: 'it returns false'. Refute it at one input. -/
def memberGrowsWrong : ChangeSpec := { name := "memberGrows", fn := fun _ => fun
  | [d1, d2, d3] => { results := [.lit (.bool false)], args := [d1, d2, d3] }
  | _ => none }
def MemberGrowsWrongFalsely : Prop := memberGrowsRow.holds Try.pinned (OpenSpec.ofChange memberGrowsWrong)

/-- 'stolonlaw05.MemberLeaves': WHATEVER THE INPUT: true; the input reads as it did. -/
def memberLeavesSpec : ChangeSpec := { name := "memberLeaves", fn := fun _ => fun
  | [d1, d2, d3] => { results := [.lit (.bool true)], args := [d1, d2, d3] }
  | _ => none }
def memberLeavesRow : OpenClaim := { program := "ytlmkkphojjodhaa", sum := "d2c5b9290db53cad3119fb27eeed1e1c069e4313090b4f3a20bbeeacff58b065", func := "stolon/stolonlaw05.MemberLeaves", spec := "memberLeaves", unfollowed := true, recurses := true, apart := false }
def MemberLeavesSaid : Prop := memberLeavesRow.holds Try.pinned (OpenSpec.ofChange memberLeavesSpec)

/-- ITS FALSE NEIGHBOUR: 'it returns false'. Refute it at one input. -/
def memberLeavesWrong : ChangeSpec := { name := "memberLeaves", fn := fun _ => fun
  | [d1, d2, d3] => { results := [.lit (.bool false)], args := [d1, d2, d3] }
  | _ => none }
def MemberLeavesWrongFalsely : Prop := memberLeavesRow.holds Try.pinned (OpenSpec.ofChange memberLeavesWrong)

/-- 'stolonlaw05.MemberConverges': WHATEVER THE INPUT: true; the input reads as it did. -/
def memberConvergesSpec : ChangeSpec := { name := "memberConverges", fn := fun _ => fun
  | [d] => { results := [.lit (.bool true)], args := [d] }
  | _ => none }
def memberConvergesRow : OpenClaim := { program := "ytlmkkphojjodhaa", sum := "d2c5b9290db53cad3119fb27eeed1e1c069e4313090b4f3a20bbeeacff58b065", func := "stolon/stolonlaw05.MemberConverges", spec := "memberConverges", unfollowed := true, recurses := true, apart := false }
def MemberConvergesSaid : Prop := memberConvergesRow.holds Try.pinned (OpenSpec.ofChange memberConvergesSpec)

/-- ITS FALSE NEIGHBOUR: 'it returns false'. Refute it at one input. -/
def memberConvergesWrong : ChangeSpec := { name := "memberConverges", fn := fun _ => fun
  | [d] => { results := [.lit (.bool false)], args := [d] }
  | _ => none }
def MemberConvergesWrongFalsely : Prop := memberConvergesRow.holds Try.pinned (OpenSpec.ofChange memberConvergesWrong)

/-- 'stolonlaw05.MemberStays': WHATEVER THE INPUT: true; the input reads as it did. -/
def memberStaysSpec : ChangeSpec := { name := "memberStays", fn := fun _ => fun
  | [d] => { results := [.lit (.bool true)], args := [d] }
  | _ => none }
def memberStaysRow : OpenClaim := { program := "ytlmkkphojjodhaa", sum := "d2c5b9290db53cad3119fb27eeed1e1c069e4313090b4f3a20bbeeacff58b065", func := "stolon/stolonlaw05.MemberStays", spec := "memberStays", unfollowed := true, recurses := true, apart := false }
def MemberStaysSaid : Prop := memberStaysRow.holds Try.pinned (OpenSpec.ofChange memberStaysSpec)

/-- ITS FALSE NEIGHBOUR: 'it returns false'. Refute it at one input. -/
def memberStaysWrong : ChangeSpec := { name := "memberStays", fn := fun _ => fun
  | [d] => { results := [.lit (.bool false)], args := [d] }
  | _ => none }
def MemberStaysWrongFalsely : Prop := memberStaysRow.holds Try.pinned (OpenSpec.ofChange memberStaysWrong)

/-- 'stolonlaw05.MemberRefutes': WHATEVER THE INPUT: true; the input reads as it did. -/
def memberRefutesSpec : ChangeSpec := { name := "memberRefutes", fn := fun _ => fun
  | [d1, d2, d3] => { results := [.lit (.bool true)], args := [d1, d2, d3] }
  | _ => none }
def memberRefutesRow : OpenClaim := { program := "ytlmkkphojjodhaa", sum := "d2c5b9290db53cad3119fb27eeed1e1c069e4313090b4f3a20bbeeacff58b065", func := "stolon/stolonlaw05.MemberRefutes", spec := "memberRefutes", unfollowed := true, recurses := true, apart := false }
def MemberRefutesSaid : Prop := memberRefutesRow.holds Try.pinned (OpenSpec.ofChange memberRefutesSpec)

/-- ITS FALSE NEIGHBOUR: 'it returns false'. Refute it at one input. -/
def memberRefutesWrong : ChangeSpec := { name := "memberRefutes", fn := fun _ => fun
  | [d1, d2, d3] => { results := [.lit (.bool false)], args := [d1, d2, d3] }
  | _ => none }
def MemberRefutesWrongFalsely : Prop := memberRefutesRow.holds Try.pinned (OpenSpec.ofChange memberRefutesWrong)

/-- 'stolonlaw05.MemberScripts': WHATEVER THE INPUT: true; the input reads as it did. -/
def memberScriptsSpec : ChangeSpec := { name := "memberScripts", fn := fun _ => fun
  | [d1, d2, d3] => { results := [.lit (.bool true)], args := [d1, d2, d3] }
  | _ => none }
def memberScriptsRow : OpenClaim := { program := "ytlmkkphojjodhaa", sum := "d2c5b9290db53cad3119fb27eeed1e1c069e4313090b4f3a20bbeeacff58b065", func := "stolon/stolonlaw05.MemberScripts", spec := "memberScripts", unfollowed := true, recurses := true, apart := false }
def MemberScriptsSaid : Prop := memberScriptsRow.holds Try.pinned (OpenSpec.ofChange memberScriptsSpec)

/-- ITS FALSE NEIGHBOUR: 'it returns false'. Refute it at one input. -/
def memberScriptsWrong : ChangeSpec := { name := "memberScripts", fn := fun _ => fun
  | [d1, d2, d3] => { results := [.lit (.bool false)], args := [d1, d2, d3] }
  | _ => none }
def MemberScriptsWrongFalsely : Prop := memberScriptsRow.holds Try.pinned (OpenSpec.ofChange memberScriptsWrong)

/- THE SECOND FORM. 'bulk': how many values and letters a reading holds, each counted each time it is reached (what is shared counts as often as it is met; a slice's spare places count too). A statement '..UptoSaid' is the law's where the arguments, and the package variables that the reading takes, are together of bulk at most 1048576: NARROWER than '..Said'. Prove '..Said' where nothing that the law and all that it calls make is longer than what came in: it says more and counts as full. Else prove '..UptoSaid'. A law counts once. -/
mutual
def uptoBulk {H : Type} : DataW H → Nat
  | .lit (.string bytes) => bytes.length + 1
  | .lit _ => 1
  | .nil => 1
  | .ptr d => uptoBulk d + 1
  | .slice elems spare => uptoBulkAll elems + uptoBulkAll spare + 1
  | .agg parts => uptoBulkAll parts + 1
  | .iface _ d => uptoBulk d + 1
  | .map entries => uptoBulkEntries entries + 1
  | .held _ => 1
def uptoBulkAll {H : Type} : List (DataW H) → Nat
  | [] => 0
  | d :: r => uptoBulk d + uptoBulkAll r
def uptoBulkEntries {H : Type} : List (Lit × DataW H) → Nat
  | [] => 0
  | x :: r => uptoBulkEntry x + uptoBulkEntries r
def uptoBulkEntry {H : Type} : Lit × DataW H → Nat
  | (.string bytes, d) => bytes.length + uptoBulk d + 1
  | (_, d) => uptoBulk d + 1
 end
def uptoSmall : (H : Type) → List (DataW H) → Bool := fun _ ds => decide (uptoBulkAll ds ≤ 1048576)
def OpenSpec.upto (s : _root_.Go.ChangeSpec) : _root_.Go.OpenSpec := { _root_.Go.OpenSpec.ofChange s with cond := some uptoSmall }

/-- 'stolonlaw05.MemberOrders', WHERE WHAT IT READS IS OF BULK AT MOST 1048576: true; the input reads as it did. -/
def memberOrdersUptoRow : OpenClaim := { program := "ytlmkkphojjodhaa", sum := "d2c5b9290db53cad3119fb27eeed1e1c069e4313090b4f3a20bbeeacff58b065", func := "stolon/stolonlaw05.MemberOrders", spec := "memberOrders", unfollowed := true, recurses := true, apart := false, narrowed := true }
def MemberOrdersUptoSaid : Prop := memberOrdersUptoRow.holds Try.pinned (OpenSpec.upto memberOrdersSpec)

/-- 'stolonlaw05.MemberAnswers', WHERE WHAT IT READS IS OF BULK AT MOST 1048576: true; the input reads as it did. -/
def memberAnswersUptoRow : OpenClaim := { program := "ytlmkkphojjodhaa", sum := "d2c5b9290db53cad3119fb27eeed1e1c069e4313090b4f3a20bbeeacff58b065", func := "stolon/stolonlaw05.MemberAnswers", spec := "memberAnswers", unfollowed := true, recurses := true, apart := false, narrowed := true }
def MemberAnswersUptoSaid : Prop := memberAnswersUptoRow.holds Try.pinned (OpenSpec.upto memberAnswersSpec)

/-- 'stolonlaw05.MemberWaits', WHERE WHAT IT READS IS OF BULK AT MOST 1048576: true; the input reads as it did. -/
def memberWaitsUptoRow : OpenClaim := { program := "ytlmkkphojjodhaa", sum := "d2c5b9290db53cad3119fb27eeed1e1c069e4313090b4f3a20bbeeacff58b065", func := "stolon/stolonlaw05.MemberWaits", spec := "memberWaits", unfollowed := true, recurses := true, apart := false, narrowed := true }
def MemberWaitsUptoSaid : Prop := memberWaitsUptoRow.holds Try.pinned (OpenSpec.upto memberWaitsSpec)

/-- 'stolonlaw05.MemberDetects', WHERE WHAT IT READS IS OF BULK AT MOST 1048576: true; the input reads as it did. -/
def memberDetectsUptoRow : OpenClaim := { program := "ytlmkkphojjodhaa", sum := "d2c5b9290db53cad3119fb27eeed1e1c069e4313090b4f3a20bbeeacff58b065", func := "stolon/stolonlaw05.MemberDetects", spec := "memberDetects", unfollowed := true, recurses := true, apart := false, narrowed := true }
def MemberDetectsUptoSaid : Prop := memberDetectsUptoRow.holds Try.pinned (OpenSpec.upto memberDetectsSpec)

/-- 'stolonlaw05.MemberHelpers', WHERE WHAT IT READS IS OF BULK AT MOST 1048576: true; the input reads as it did. -/
def memberHelpersUptoRow : OpenClaim := { program := "ytlmkkphojjodhaa", sum := "d2c5b9290db53cad3119fb27eeed1e1c069e4313090b4f3a20bbeeacff58b065", func := "stolon/stolonlaw05.MemberHelpers", spec := "memberHelpers", unfollowed := true, recurses := true, apart := false, narrowed := true }
def MemberHelpersUptoSaid : Prop := memberHelpersUptoRow.holds Try.pinned (OpenSpec.upto memberHelpersSpec)

/-- 'stolonlaw05.MemberTables', WHERE WHAT IT READS IS OF BULK AT MOST 1048576: true; the input reads as it did. -/
def memberTablesUptoRow : OpenClaim := { program := "ytlmkkphojjodhaa", sum := "d2c5b9290db53cad3119fb27eeed1e1c069e4313090b4f3a20bbeeacff58b065", func := "stolon/stolonlaw05.MemberTables", spec := "memberTables", unfollowed := true, recurses := true, apart := false, narrowed := true }
def MemberTablesUptoSaid : Prop := memberTablesUptoRow.holds Try.pinned (OpenSpec.upto memberTablesSpec)

/-- 'stolonlaw05.MemberMerges', WHERE WHAT IT READS IS OF BULK AT MOST 1048576: true; the input reads as it did. -/
def memberMergesUptoRow : OpenClaim := { program := "ytlmkkphojjodhaa", sum := "d2c5b9290db53cad3119fb27eeed1e1c069e4313090b4f3a20bbeeacff58b065", func := "stolon/stolonlaw05.MemberMerges", spec := "memberMerges", unfollowed := true, recurses := true, apart := false, narrowed := true }
def MemberMergesUptoSaid : Prop := memberMergesUptoRow.holds Try.pinned (OpenSpec.upto memberMergesSpec)

/-- 'stolonlaw05.MemberCalm', WHERE WHAT IT READS IS OF BULK AT MOST 1048576: true; the input reads as it did. -/
def memberCalmUptoRow : OpenClaim := { program := "ytlmkkphojjodhaa", sum := "d2c5b9290db53cad3119fb27eeed1e1c069e4313090b4f3a20bbeeacff58b065", func := "stolon/stolonlaw05.MemberCalm", spec := "memberCalm", unfollowed := true, recurses := true, apart := false, narrowed := true }
def MemberCalmUptoSaid : Prop := memberCalmUptoRow.holds Try.pinned (OpenSpec.upto memberCalmSpec)

/-- 'stolonlaw05.MemberGrows', WHERE WHAT IT READS IS OF BULK AT MOST 1048576: true; the input reads as it did. -/
def memberGrowsUptoRow : OpenClaim := { program := "ytlmkkphojjodhaa", sum := "d2c5b9290db53cad3119fb27eeed1e1c069e4313090b4f3a20bbeeacff58b065", func := "stolon/stolonlaw05.MemberGrows", spec := "memberGrows", unfollowed := true, recurses := true, apart := false, narrowed := true }
def MemberGrowsUptoSaid : Prop := memberGrowsUptoRow.holds Try.pinned (OpenSpec.upto memberGrowsSpec)

/-- 'stolonlaw05.MemberLeaves', WHERE WHAT IT READS IS OF BULK AT MOST 1048576: true; the input reads as it did. -/
def memberLeavesUptoRow : OpenClaim := { program := "ytlmkkphojjodhaa", sum := "d2c5b9290db53cad3119fb27eeed1e1c069e4313090b4f3a20bbeeacff58b065", func := "stolon/stolonlaw05.MemberLeaves", spec := "memberLeaves", unfollowed := true, recurses := true, apart := false, narrowed := true }
def MemberLeavesUptoSaid : Prop := memberLeavesUptoRow.holds Try.pinned (OpenSpec.upto memberLeavesSpec)

/-- 'stolonlaw05.MemberConverges', WHERE WHAT IT READS IS OF BULK AT MOST 1048576: true; the input reads as it did. -/
def memberConvergesUptoRow : OpenClaim := { program := "ytlmkkphojjodhaa", sum := "d2c5b9290db53cad3119fb27eeed1e1c069e4313090b4f3a20bbeeacff58b065", func := "stolon/stolonlaw05.MemberConverges", spec := "memberConverges", unfollowed := true, recurses := true, apart := false, narrowed := true }
def MemberConvergesUptoSaid : Prop := memberConvergesUptoRow.holds Try.pinned (OpenSpec.upto memberConvergesSpec)

/-- 'stolonlaw05.MemberStays', WHERE WHAT IT READS IS OF BULK AT MOST 1048576: true; the input reads as it did. -/
def memberStaysUptoRow : OpenClaim := { program := "ytlmkkphojjodhaa", sum := "d2c5b9290db53cad3119fb27eeed1e1c069e4313090b4f3a20bbeeacff58b065", func := "stolon/stolonlaw05.MemberStays", spec := "memberStays", unfollowed := true, recurses := true, apart := false, narrowed := true }
def MemberStaysUptoSaid : Prop := memberStaysUptoRow.holds Try.pinned (OpenSpec.upto memberStaysSpec)

/-- 'stolonlaw05.MemberRefutes', WHERE WHAT IT READS IS OF BULK AT MOST 1048576: true; the input reads as it did. -/
def memberRefutesUptoRow : OpenClaim := { program := "ytlmkkphojjodhaa", sum := "d2c5b9290db53cad3119fb27eeed1e1c069e4313090b4f3a20bbeeacff58b065", func := "stolon/stolonlaw05.MemberRefutes", spec := "memberRefutes", unfollowed := true, recurses := true, apart := false, narrowed := true }
def MemberRefutesUptoSaid : Prop := memberRefutesUptoRow.holds Try.pinned (OpenSpec.upto memberRefutesSpec)

/-- 'stolonlaw05.MemberScripts', WHERE WHAT IT READS IS OF BULK AT MOST 1048576: true; the input reads as it did. -/
def memberScriptsUptoRow : OpenClaim := { program := "ytlmkkphojjodhaa", sum := "d2c5b9290db53cad3119fb27eeed1e1c069e4313090b4f3a20bbeeacff58b065", func := "stolon/stolonlaw05.MemberScripts", spec := "memberScripts", unfollowed := true, recurses := true, apart := false, narrowed := true }
def MemberScriptsUptoSaid : Prop := memberScriptsUptoRow.holds Try.pinned (OpenSpec.upto memberScriptsSpec)

end Rows
end Go.Proofs.Ytlmkkphojjodhaa
