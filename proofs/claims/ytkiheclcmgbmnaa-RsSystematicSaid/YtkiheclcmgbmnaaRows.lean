/-
  No cell of these rows narrows 'for every input' (looked for: loops, veiled, ifaces, maps, wideKeys, modest, calm, conditions, laid).
  DERIVED. THE GIVEN ROWS OF THIS SEAT. 23 by the template 'for every input the law returns true; each argument reads behind the call as it read before'; 0 by the template 'total and deterministic' (their statements: YtkiheclcmgbmnaaTotals.lean).
  GIVEN WITH THE SEED: the statements are not yours to turn. If you find one false, say at which input.
  Laid BY PROGRAM, IN A SANDBOX (cutbox-rows.mjs): the forced cells as the released guide's own fill.sh prints them over the translation 2196599b1cb34a93… (all of the seat's roots in one cut). By AI agents, Wed Nov 11 2026. No macro, syntax, notation, axiom, sorry.
-/
import Derived.Test.YtkiheclcmgbmnaaChecked
import GoSem.Claim
import GoSem.ClaimJoined
import GoSem.ClaimMapViews
import Derived.JoinedTies
import Derived.KernelRfl
namespace Go.Proofs.Ytkiheclcmgbmnaa
/- THE CELL 'sum', in the pinned program and in every row, IS THE sha256 OF THE DUMP (.gsa) THAT YtkiheclcmgbmnaaProg.lean LOADS. Nothing in Lean hashes anything: it is a label: what it is worth is what the hold of that sum in a sandbox is worth. -/
noncomputable def Try.pinned : Pinned := { name := "ytkiheclcmgbmnaa", sum := "2196599b1cb34a9337bb68dc1408dca611d72cd32c042efb18b44b3849dab670", checked := Try.checked }
namespace Rows
def none {H : Type} : Left H := { results := [], args := [] }

/-- 'stolonlaw01.RsSizes': WHATEVER THE INPUT: true; the input reads as it did. -/
def rsSizesSpec : ChangeSpec := { name := "rsSizes", fn := fun _ => fun
  | [d1, d2] => { results := [.lit (.bool true)], args := [d1, d2] }
  | _ => none }
def rsSizesRow : OpenClaim := { program := "ytkiheclcmgbmnaa", sum := "2196599b1cb34a9337bb68dc1408dca611d72cd32c042efb18b44b3849dab670", func := "stolon/stolonlaw01.RsSizes", spec := "rsSizes", inPlace := ["sync/atomic.LoadUint32", "(*internal/sync.Mutex).Lock", "internal/race.Disable", "sync/atomic.CompareAndSwapInt32", "internal/race.Enable", "internal/race.Acquire", "(*internal/sync.Mutex).lockSlow", "internal/sync.runtime_canSpin", "internal/sync.runtime_doSpin", "internal/sync.throw", "internal/sync.runtime_nanotime", "internal/sync.runtime_SemacquireMutex", "sync/atomic.AddInt32", "(*internal/sync.Mutex).Unlock", "internal/race.ReleaseMerge", "(*internal/sync.Mutex).unlockSlow", "internal/sync.fatal", "internal/sync.runtime_Semrelease", "sync/atomic.StoreUint32"], unfollowed := true, recurses := true, apart := false }
def RsSizesSaid : Prop := rsSizesRow.holds Try.pinned (OpenSpec.ofChange rsSizesSpec)

/-- ITS FALSE NEIGHBOUR: 'it returns false'. Refute it at one input. -/
def rsSizesWrong : ChangeSpec := { name := "rsSizes", fn := fun _ => fun
  | [d1, d2] => { results := [.lit (.bool false)], args := [d1, d2] }
  | _ => none }
def RsSizesWrongFalsely : Prop := rsSizesRow.holds Try.pinned (OpenSpec.ofChange rsSizesWrong)

/-- 'stolonlaw01.RsEncodes': WHATEVER THE INPUT: true; the input reads as it did. -/
def rsEncodesSpec : ChangeSpec := { name := "rsEncodes", fn := fun _ => fun
  | [d1, d2, d3] => { results := [.lit (.bool true)], args := [d1, d2, d3] }
  | _ => none }
def rsEncodesRow : OpenClaim := { program := "ytkiheclcmgbmnaa", sum := "2196599b1cb34a9337bb68dc1408dca611d72cd32c042efb18b44b3849dab670", func := "stolon/stolonlaw01.RsEncodes", spec := "rsEncodes", inPlace := ["sync/atomic.LoadUint32", "(*internal/sync.Mutex).Lock", "internal/race.Disable", "sync/atomic.CompareAndSwapInt32", "internal/race.Enable", "internal/race.Acquire", "(*internal/sync.Mutex).lockSlow", "internal/sync.runtime_canSpin", "internal/sync.runtime_doSpin", "internal/sync.throw", "internal/sync.runtime_nanotime", "internal/sync.runtime_SemacquireMutex", "sync/atomic.AddInt32", "(*internal/sync.Mutex).Unlock", "internal/race.ReleaseMerge", "(*internal/sync.Mutex).unlockSlow", "internal/sync.fatal", "internal/sync.runtime_Semrelease", "sync/atomic.StoreUint32"], unfollowed := true, recurses := true, apart := false }
def RsEncodesSaid : Prop := rsEncodesRow.holds Try.pinned (OpenSpec.ofChange rsEncodesSpec)

/-- ITS FALSE NEIGHBOUR: 'it returns false'. Refute it at one input. -/
def rsEncodesWrong : ChangeSpec := { name := "rsEncodes", fn := fun _ => fun
  | [d1, d2, d3] => { results := [.lit (.bool false)], args := [d1, d2, d3] }
  | _ => none }
def RsEncodesWrongFalsely : Prop := rsEncodesRow.holds Try.pinned (OpenSpec.ofChange rsEncodesWrong)

/-- 'stolonlaw01.RsSystematic': WHATEVER THE INPUT: true; the input reads as it did. -/
def rsSystematicSpec : ChangeSpec := { name := "rsSystematic", fn := fun _ => fun
  | [d1, d2, d3] => { results := [.lit (.bool true)], args := [d1, d2, d3] }
  | _ => none }
def rsSystematicRow : OpenClaim := { program := "ytkiheclcmgbmnaa", sum := "2196599b1cb34a9337bb68dc1408dca611d72cd32c042efb18b44b3849dab670", func := "stolon/stolonlaw01.RsSystematic", spec := "rsSystematic", inPlace := ["sync/atomic.LoadUint32", "(*internal/sync.Mutex).Lock", "internal/race.Disable", "sync/atomic.CompareAndSwapInt32", "internal/race.Enable", "internal/race.Acquire", "(*internal/sync.Mutex).lockSlow", "internal/sync.runtime_canSpin", "internal/sync.runtime_doSpin", "internal/sync.throw", "internal/sync.runtime_nanotime", "internal/sync.runtime_SemacquireMutex", "sync/atomic.AddInt32", "(*internal/sync.Mutex).Unlock", "internal/race.ReleaseMerge", "(*internal/sync.Mutex).unlockSlow", "internal/sync.fatal", "internal/sync.runtime_Semrelease", "sync/atomic.StoreUint32"], unfollowed := true, recurses := true, apart := false }
def RsSystematicSaid : Prop := rsSystematicRow.holds Try.pinned (OpenSpec.ofChange rsSystematicSpec)

/-- ITS FALSE NEIGHBOUR: 'it returns false'. Refute it at one input. -/
def rsSystematicWrong : ChangeSpec := { name := "rsSystematic", fn := fun _ => fun
  | [d1, d2, d3] => { results := [.lit (.bool false)], args := [d1, d2, d3] }
  | _ => none }
def RsSystematicWrongFalsely : Prop := rsSystematicRow.holds Try.pinned (OpenSpec.ofChange rsSystematicWrong)

/-- 'stolonlaw01.RsLinear': WHATEVER THE INPUT: true; the input reads as it did. -/
def rsLinearSpec : ChangeSpec := { name := "rsLinear", fn := fun _ => fun
  | [d] => { results := [.lit (.bool true)], args := [d] }
  | _ => none }
def rsLinearRow : OpenClaim := { program := "ytkiheclcmgbmnaa", sum := "2196599b1cb34a9337bb68dc1408dca611d72cd32c042efb18b44b3849dab670", func := "stolon/stolonlaw01.RsLinear", spec := "rsLinear", inPlace := ["sync/atomic.LoadUint32", "(*internal/sync.Mutex).Lock", "internal/race.Disable", "sync/atomic.CompareAndSwapInt32", "internal/race.Enable", "internal/race.Acquire", "(*internal/sync.Mutex).lockSlow", "internal/sync.runtime_canSpin", "internal/sync.runtime_doSpin", "internal/sync.throw", "internal/sync.runtime_nanotime", "internal/sync.runtime_SemacquireMutex", "sync/atomic.AddInt32", "(*internal/sync.Mutex).Unlock", "internal/race.ReleaseMerge", "(*internal/sync.Mutex).unlockSlow", "internal/sync.fatal", "internal/sync.runtime_Semrelease", "sync/atomic.StoreUint32"], unfollowed := true, recurses := true, apart := false }
def RsLinearSaid : Prop := rsLinearRow.holds Try.pinned (OpenSpec.ofChange rsLinearSpec)

/-- ITS FALSE NEIGHBOUR: 'it returns false'. Refute it at one input. -/
def rsLinearWrong : ChangeSpec := { name := "rsLinear", fn := fun _ => fun
  | [d] => { results := [.lit (.bool false)], args := [d] }
  | _ => none }
def RsLinearWrongFalsely : Prop := rsLinearRow.holds Try.pinned (OpenSpec.ofChange rsLinearWrong)

/-- 'stolonlaw01.RsDistance': WHATEVER THE INPUT: true; the input reads as it did. -/
def rsDistanceSpec : ChangeSpec := { name := "rsDistance", fn := fun _ => fun
  | [d] => { results := [.lit (.bool true)], args := [d] }
  | _ => none }
def rsDistanceRow : OpenClaim := { program := "ytkiheclcmgbmnaa", sum := "2196599b1cb34a9337bb68dc1408dca611d72cd32c042efb18b44b3849dab670", func := "stolon/stolonlaw01.RsDistance", spec := "rsDistance", inPlace := ["sync/atomic.LoadUint32", "(*internal/sync.Mutex).Lock", "internal/race.Disable", "sync/atomic.CompareAndSwapInt32", "internal/race.Enable", "internal/race.Acquire", "(*internal/sync.Mutex).lockSlow", "internal/sync.runtime_canSpin", "internal/sync.runtime_doSpin", "internal/sync.throw", "internal/sync.runtime_nanotime", "internal/sync.runtime_SemacquireMutex", "sync/atomic.AddInt32", "(*internal/sync.Mutex).Unlock", "internal/race.ReleaseMerge", "(*internal/sync.Mutex).unlockSlow", "internal/sync.fatal", "internal/sync.runtime_Semrelease", "sync/atomic.StoreUint32"], unfollowed := true, recurses := true, apart := false }
def RsDistanceSaid : Prop := rsDistanceRow.holds Try.pinned (OpenSpec.ofChange rsDistanceSpec)

/-- ITS FALSE NEIGHBOUR: 'it returns false'. Refute it at one input. -/
def rsDistanceWrong : ChangeSpec := { name := "rsDistance", fn := fun _ => fun
  | [d] => { results := [.lit (.bool false)], args := [d] }
  | _ => none }
def RsDistanceWrongFalsely : Prop := rsDistanceRow.holds Try.pinned (OpenSpec.ofChange rsDistanceWrong)

/-- 'stolonlaw01.RsMemory': WHATEVER THE INPUT: true; the input reads as it did. -/
def rsMemorySpec : ChangeSpec := { name := "rsMemory", fn := fun _ => fun
  | [d1, d2, d3] => { results := [.lit (.bool true)], args := [d1, d2, d3] }
  | _ => none }
def rsMemoryRow : OpenClaim := { program := "ytkiheclcmgbmnaa", sum := "2196599b1cb34a9337bb68dc1408dca611d72cd32c042efb18b44b3849dab670", func := "stolon/stolonlaw01.RsMemory", spec := "rsMemory", inPlace := ["sync/atomic.LoadUint32", "(*internal/sync.Mutex).Lock", "internal/race.Disable", "sync/atomic.CompareAndSwapInt32", "internal/race.Enable", "internal/race.Acquire", "(*internal/sync.Mutex).lockSlow", "internal/sync.runtime_canSpin", "internal/sync.runtime_doSpin", "internal/sync.throw", "internal/sync.runtime_nanotime", "internal/sync.runtime_SemacquireMutex", "sync/atomic.AddInt32", "(*internal/sync.Mutex).Unlock", "internal/race.ReleaseMerge", "(*internal/sync.Mutex).unlockSlow", "internal/sync.fatal", "internal/sync.runtime_Semrelease", "sync/atomic.StoreUint32"], unfollowed := true, recurses := true, apart := false }
def RsMemorySaid : Prop := rsMemoryRow.holds Try.pinned (OpenSpec.ofChange rsMemorySpec)

/-- ITS FALSE NEIGHBOUR: 'it returns false'. Refute it at one input. -/
def rsMemoryWrong : ChangeSpec := { name := "rsMemory", fn := fun _ => fun
  | [d1, d2, d3] => { results := [.lit (.bool false)], args := [d1, d2, d3] }
  | _ => none }
def RsMemoryWrongFalsely : Prop := rsMemoryRow.holds Try.pinned (OpenSpec.ofChange rsMemoryWrong)

/-- 'stolonlaw01.RsPowers': WHATEVER THE INPUT: true; the input reads as it did. -/
def rsPowersSpec : ChangeSpec := { name := "rsPowers", fn := fun _ => fun
  | [d1, d2] => { results := [.lit (.bool true)], args := [d1, d2] }
  | _ => none }
def rsPowersRow : OpenClaim := { program := "ytkiheclcmgbmnaa", sum := "2196599b1cb34a9337bb68dc1408dca611d72cd32c042efb18b44b3849dab670", func := "stolon/stolonlaw01.RsPowers", spec := "rsPowers", inPlace := ["sync/atomic.LoadUint32", "(*internal/sync.Mutex).Lock", "internal/race.Disable", "sync/atomic.CompareAndSwapInt32", "internal/race.Enable", "internal/race.Acquire", "(*internal/sync.Mutex).lockSlow", "internal/sync.runtime_canSpin", "internal/sync.runtime_doSpin", "internal/sync.throw", "internal/sync.runtime_nanotime", "internal/sync.runtime_SemacquireMutex", "sync/atomic.AddInt32", "(*internal/sync.Mutex).Unlock", "internal/race.ReleaseMerge", "(*internal/sync.Mutex).unlockSlow", "internal/sync.fatal", "internal/sync.runtime_Semrelease", "sync/atomic.StoreUint32"], unfollowed := true, recurses := true, apart := false }
def RsPowersSaid : Prop := rsPowersRow.holds Try.pinned (OpenSpec.ofChange rsPowersSpec)

/-- ITS FALSE NEIGHBOUR: 'it returns false'. Refute it at one input. -/
def rsPowersWrong : ChangeSpec := { name := "rsPowers", fn := fun _ => fun
  | [d1, d2] => { results := [.lit (.bool false)], args := [d1, d2] }
  | _ => none }
def RsPowersWrongFalsely : Prop := rsPowersRow.holds Try.pinned (OpenSpec.ofChange rsPowersWrong)

/-- 'stolonlaw01.RsExponents': WHATEVER THE INPUT: true; the input reads as it did. -/
def rsExponentsSpec : ChangeSpec := { name := "rsExponents", fn := fun _ => fun
  | [d1, d2, d3] => { results := [.lit (.bool true)], args := [d1, d2, d3] }
  | _ => none }
def rsExponentsRow : OpenClaim := { program := "ytkiheclcmgbmnaa", sum := "2196599b1cb34a9337bb68dc1408dca611d72cd32c042efb18b44b3849dab670", func := "stolon/stolonlaw01.RsExponents", spec := "rsExponents", inPlace := ["sync/atomic.LoadUint32", "(*internal/sync.Mutex).Lock", "internal/race.Disable", "sync/atomic.CompareAndSwapInt32", "internal/race.Enable", "internal/race.Acquire", "(*internal/sync.Mutex).lockSlow", "internal/sync.runtime_canSpin", "internal/sync.runtime_doSpin", "internal/sync.throw", "internal/sync.runtime_nanotime", "internal/sync.runtime_SemacquireMutex", "sync/atomic.AddInt32", "(*internal/sync.Mutex).Unlock", "internal/race.ReleaseMerge", "(*internal/sync.Mutex).unlockSlow", "internal/sync.fatal", "internal/sync.runtime_Semrelease", "sync/atomic.StoreUint32"], unfollowed := true, recurses := true, apart := false }
def RsExponentsSaid : Prop := rsExponentsRow.holds Try.pinned (OpenSpec.ofChange rsExponentsSpec)

/-- ITS FALSE NEIGHBOUR: 'it returns false'. Refute it at one input. -/
def rsExponentsWrong : ChangeSpec := { name := "rsExponents", fn := fun _ => fun
  | [d1, d2, d3] => { results := [.lit (.bool false)], args := [d1, d2, d3] }
  | _ => none }
def RsExponentsWrongFalsely : Prop := rsExponentsRow.holds Try.pinned (OpenSpec.ofChange rsExponentsWrong)

/-- 'stolonlaw01.RsShapes': WHATEVER THE INPUT: true; the input reads as it did. -/
def rsShapesSpec : ChangeSpec := { name := "rsShapes", fn := fun _ => fun
  | [d1, d2, d3] => { results := [.lit (.bool true)], args := [d1, d2, d3] }
  | _ => none }
def rsShapesRow : OpenClaim := { program := "ytkiheclcmgbmnaa", sum := "2196599b1cb34a9337bb68dc1408dca611d72cd32c042efb18b44b3849dab670", func := "stolon/stolonlaw01.RsShapes", spec := "rsShapes", inPlace := ["sync/atomic.LoadUint32", "(*internal/sync.Mutex).Lock", "internal/race.Disable", "sync/atomic.CompareAndSwapInt32", "internal/race.Enable", "internal/race.Acquire", "(*internal/sync.Mutex).lockSlow", "internal/sync.runtime_canSpin", "internal/sync.runtime_doSpin", "internal/sync.throw", "internal/sync.runtime_nanotime", "internal/sync.runtime_SemacquireMutex", "sync/atomic.AddInt32", "(*internal/sync.Mutex).Unlock", "internal/race.ReleaseMerge", "(*internal/sync.Mutex).unlockSlow", "internal/sync.fatal", "internal/sync.runtime_Semrelease", "sync/atomic.StoreUint32"], unfollowed := true, recurses := true, apart := false }
def RsShapesSaid : Prop := rsShapesRow.holds Try.pinned (OpenSpec.ofChange rsShapesSpec)

/-- ITS FALSE NEIGHBOUR: 'it returns false'. Refute it at one input. -/
def rsShapesWrong : ChangeSpec := { name := "rsShapes", fn := fun _ => fun
  | [d1, d2, d3] => { results := [.lit (.bool false)], args := [d1, d2, d3] }
  | _ => none }
def RsShapesWrongFalsely : Prop := rsShapesRow.holds Try.pinned (OpenSpec.ofChange rsShapesWrong)

/-- 'stolonlaw01.RsProducts': WHATEVER THE INPUT: true; the input reads as it did. -/
def rsProductsSpec : ChangeSpec := { name := "rsProducts", fn := fun _ => fun
  | [d1, d2] => { results := [.lit (.bool true)], args := [d1, d2] }
  | _ => none }
def rsProductsRow : OpenClaim := { program := "ytkiheclcmgbmnaa", sum := "2196599b1cb34a9337bb68dc1408dca611d72cd32c042efb18b44b3849dab670", func := "stolon/stolonlaw01.RsProducts", spec := "rsProducts", inPlace := ["sync/atomic.LoadUint32", "(*internal/sync.Mutex).Lock", "internal/race.Disable", "sync/atomic.CompareAndSwapInt32", "internal/race.Enable", "internal/race.Acquire", "(*internal/sync.Mutex).lockSlow", "internal/sync.runtime_canSpin", "internal/sync.runtime_doSpin", "internal/sync.throw", "internal/sync.runtime_nanotime", "internal/sync.runtime_SemacquireMutex", "sync/atomic.AddInt32", "(*internal/sync.Mutex).Unlock", "internal/race.ReleaseMerge", "(*internal/sync.Mutex).unlockSlow", "internal/sync.fatal", "internal/sync.runtime_Semrelease", "sync/atomic.StoreUint32"], unfollowed := true, recurses := true, apart := false }
def RsProductsSaid : Prop := rsProductsRow.holds Try.pinned (OpenSpec.ofChange rsProductsSpec)

/-- ITS FALSE NEIGHBOUR: 'it returns false'. Refute it at one input. -/
def rsProductsWrong : ChangeSpec := { name := "rsProducts", fn := fun _ => fun
  | [d1, d2] => { results := [.lit (.bool false)], args := [d1, d2] }
  | _ => none }
def RsProductsWrongFalsely : Prop := rsProductsRow.holds Try.pinned (OpenSpec.ofChange rsProductsWrong)

/-- 'stolonlaw01.RsMultiplies': WHATEVER THE INPUT: true; the input reads as it did. -/
def rsMultipliesSpec : ChangeSpec := { name := "rsMultiplies", fn := fun _ => fun
  | [d1, d2] => { results := [.lit (.bool true)], args := [d1, d2] }
  | _ => none }
def rsMultipliesRow : OpenClaim := { program := "ytkiheclcmgbmnaa", sum := "2196599b1cb34a9337bb68dc1408dca611d72cd32c042efb18b44b3849dab670", func := "stolon/stolonlaw01.RsMultiplies", spec := "rsMultiplies", inPlace := ["sync/atomic.LoadUint32", "(*internal/sync.Mutex).Lock", "internal/race.Disable", "sync/atomic.CompareAndSwapInt32", "internal/race.Enable", "internal/race.Acquire", "(*internal/sync.Mutex).lockSlow", "internal/sync.runtime_canSpin", "internal/sync.runtime_doSpin", "internal/sync.throw", "internal/sync.runtime_nanotime", "internal/sync.runtime_SemacquireMutex", "sync/atomic.AddInt32", "(*internal/sync.Mutex).Unlock", "internal/race.ReleaseMerge", "(*internal/sync.Mutex).unlockSlow", "internal/sync.fatal", "internal/sync.runtime_Semrelease", "sync/atomic.StoreUint32"], unfollowed := true, recurses := true, apart := false }
def RsMultipliesSaid : Prop := rsMultipliesRow.holds Try.pinned (OpenSpec.ofChange rsMultipliesSpec)

/-- ITS FALSE NEIGHBOUR: 'it returns false'. Refute it at one input. -/
def rsMultipliesWrong : ChangeSpec := { name := "rsMultiplies", fn := fun _ => fun
  | [d1, d2] => { results := [.lit (.bool false)], args := [d1, d2] }
  | _ => none }
def RsMultipliesWrongFalsely : Prop := rsMultipliesRow.holds Try.pinned (OpenSpec.ofChange rsMultipliesWrong)

/-- 'stolonlaw01.RsField': WHATEVER THE INPUT: true; the input reads as it did. -/
def rsFieldSpec : ChangeSpec := { name := "rsField", fn := fun _ => fun
  | [d1, d2, d3] => { results := [.lit (.bool true)], args := [d1, d2, d3] }
  | _ => none }
def rsFieldRow : OpenClaim := { program := "ytkiheclcmgbmnaa", sum := "2196599b1cb34a9337bb68dc1408dca611d72cd32c042efb18b44b3849dab670", func := "stolon/stolonlaw01.RsField", spec := "rsField", inPlace := ["sync/atomic.LoadUint32", "(*internal/sync.Mutex).Lock", "internal/race.Disable", "sync/atomic.CompareAndSwapInt32", "internal/race.Enable", "internal/race.Acquire", "(*internal/sync.Mutex).lockSlow", "internal/sync.runtime_canSpin", "internal/sync.runtime_doSpin", "internal/sync.throw", "internal/sync.runtime_nanotime", "internal/sync.runtime_SemacquireMutex", "sync/atomic.AddInt32", "(*internal/sync.Mutex).Unlock", "internal/race.ReleaseMerge", "(*internal/sync.Mutex).unlockSlow", "internal/sync.fatal", "internal/sync.runtime_Semrelease", "sync/atomic.StoreUint32"], unfollowed := true, recurses := true, apart := false }
def RsFieldSaid : Prop := rsFieldRow.holds Try.pinned (OpenSpec.ofChange rsFieldSpec)

/-- ITS FALSE NEIGHBOUR: 'it returns false'. Refute it at one input. -/
def rsFieldWrong : ChangeSpec := { name := "rsField", fn := fun _ => fun
  | [d1, d2, d3] => { results := [.lit (.bool false)], args := [d1, d2, d3] }
  | _ => none }
def RsFieldWrongFalsely : Prop := rsFieldRow.holds Try.pinned (OpenSpec.ofChange rsFieldWrong)

/-- 'stolonlaw01.RsInverts': WHATEVER THE INPUT: true; the input reads as it did. -/
def rsInvertsSpec : ChangeSpec := { name := "rsInverts", fn := fun _ => fun
  | [d] => { results := [.lit (.bool true)], args := [d] }
  | _ => none }
def rsInvertsRow : OpenClaim := { program := "ytkiheclcmgbmnaa", sum := "2196599b1cb34a9337bb68dc1408dca611d72cd32c042efb18b44b3849dab670", func := "stolon/stolonlaw01.RsInverts", spec := "rsInverts", inPlace := ["sync/atomic.LoadUint32", "(*internal/sync.Mutex).Lock", "internal/race.Disable", "sync/atomic.CompareAndSwapInt32", "internal/race.Enable", "internal/race.Acquire", "(*internal/sync.Mutex).lockSlow", "internal/sync.runtime_canSpin", "internal/sync.runtime_doSpin", "internal/sync.throw", "internal/sync.runtime_nanotime", "internal/sync.runtime_SemacquireMutex", "sync/atomic.AddInt32", "(*internal/sync.Mutex).Unlock", "internal/race.ReleaseMerge", "(*internal/sync.Mutex).unlockSlow", "internal/sync.fatal", "internal/sync.runtime_Semrelease", "sync/atomic.StoreUint32"], unfollowed := true, recurses := true, apart := false }
def RsInvertsSaid : Prop := rsInvertsRow.holds Try.pinned (OpenSpec.ofChange rsInvertsSpec)

/-- ITS FALSE NEIGHBOUR: 'it returns false'. Refute it at one input. -/
def rsInvertsWrong : ChangeSpec := { name := "rsInverts", fn := fun _ => fun
  | [d] => { results := [.lit (.bool false)], args := [d] }
  | _ => none }
def RsInvertsWrongFalsely : Prop := rsInvertsRow.holds Try.pinned (OpenSpec.ofChange rsInvertsWrong)

/-- 'stolonlaw01.RsInverseUndoes': WHATEVER THE INPUT: true; the input reads as it did. -/
def rsInverseUndoesSpec : ChangeSpec := { name := "rsInverseUndoes", fn := fun _ => fun
  | [d] => { results := [.lit (.bool true)], args := [d] }
  | _ => none }
def rsInverseUndoesRow : OpenClaim := { program := "ytkiheclcmgbmnaa", sum := "2196599b1cb34a9337bb68dc1408dca611d72cd32c042efb18b44b3849dab670", func := "stolon/stolonlaw01.RsInverseUndoes", spec := "rsInverseUndoes", inPlace := ["sync/atomic.LoadUint32", "(*internal/sync.Mutex).Lock", "internal/race.Disable", "sync/atomic.CompareAndSwapInt32", "internal/race.Enable", "internal/race.Acquire", "(*internal/sync.Mutex).lockSlow", "internal/sync.runtime_canSpin", "internal/sync.runtime_doSpin", "internal/sync.throw", "internal/sync.runtime_nanotime", "internal/sync.runtime_SemacquireMutex", "sync/atomic.AddInt32", "(*internal/sync.Mutex).Unlock", "internal/race.ReleaseMerge", "(*internal/sync.Mutex).unlockSlow", "internal/sync.fatal", "internal/sync.runtime_Semrelease", "sync/atomic.StoreUint32"], unfollowed := true, recurses := true, apart := false }
def RsInverseUndoesSaid : Prop := rsInverseUndoesRow.holds Try.pinned (OpenSpec.ofChange rsInverseUndoesSpec)

/-- ITS FALSE NEIGHBOUR: 'it returns false'. Refute it at one input. -/
def rsInverseUndoesWrong : ChangeSpec := { name := "rsInverseUndoes", fn := fun _ => fun
  | [d] => { results := [.lit (.bool false)], args := [d] }
  | _ => none }
def RsInverseUndoesWrongFalsely : Prop := rsInverseUndoesRow.holds Try.pinned (OpenSpec.ofChange rsInverseUndoesWrong)

/-- 'stolonlaw01.RsEvaluates': WHATEVER THE INPUT: true; the input reads as it did. -/
def rsEvaluatesSpec : ChangeSpec := { name := "rsEvaluates", fn := fun _ => fun
  | [d1, d2] => { results := [.lit (.bool true)], args := [d1, d2] }
  | _ => none }
def rsEvaluatesRow : OpenClaim := { program := "ytkiheclcmgbmnaa", sum := "2196599b1cb34a9337bb68dc1408dca611d72cd32c042efb18b44b3849dab670", func := "stolon/stolonlaw01.RsEvaluates", spec := "rsEvaluates", inPlace := ["sync/atomic.LoadUint32", "(*internal/sync.Mutex).Lock", "internal/race.Disable", "sync/atomic.CompareAndSwapInt32", "internal/race.Enable", "internal/race.Acquire", "(*internal/sync.Mutex).lockSlow", "internal/sync.runtime_canSpin", "internal/sync.runtime_doSpin", "internal/sync.throw", "internal/sync.runtime_nanotime", "internal/sync.runtime_SemacquireMutex", "sync/atomic.AddInt32", "(*internal/sync.Mutex).Unlock", "internal/race.ReleaseMerge", "(*internal/sync.Mutex).unlockSlow", "internal/sync.fatal", "internal/sync.runtime_Semrelease", "sync/atomic.StoreUint32"], unfollowed := true, recurses := true, apart := false }
def RsEvaluatesSaid : Prop := rsEvaluatesRow.holds Try.pinned (OpenSpec.ofChange rsEvaluatesSpec)

/-- ITS FALSE NEIGHBOUR: 'it returns false'. Refute it at one input. -/
def rsEvaluatesWrong : ChangeSpec := { name := "rsEvaluates", fn := fun _ => fun
  | [d1, d2] => { results := [.lit (.bool false)], args := [d1, d2] }
  | _ => none }
def RsEvaluatesWrongFalsely : Prop := rsEvaluatesRow.holds Try.pinned (OpenSpec.ofChange rsEvaluatesWrong)

/-- 'stolonlaw01.RsSelects': WHATEVER THE INPUT: true; the input reads as it did. -/
def rsSelectsSpec : ChangeSpec := { name := "rsSelects", fn := fun _ => fun
  | [d1, d2] => { results := [.lit (.bool true)], args := [d1, d2] }
  | _ => none }
def rsSelectsRow : OpenClaim := { program := "ytkiheclcmgbmnaa", sum := "2196599b1cb34a9337bb68dc1408dca611d72cd32c042efb18b44b3849dab670", func := "stolon/stolonlaw01.RsSelects", spec := "rsSelects", inPlace := ["sync/atomic.LoadUint32", "(*internal/sync.Mutex).Lock", "internal/race.Disable", "sync/atomic.CompareAndSwapInt32", "internal/race.Enable", "internal/race.Acquire", "(*internal/sync.Mutex).lockSlow", "internal/sync.runtime_canSpin", "internal/sync.runtime_doSpin", "internal/sync.throw", "internal/sync.runtime_nanotime", "internal/sync.runtime_SemacquireMutex", "sync/atomic.AddInt32", "(*internal/sync.Mutex).Unlock", "internal/race.ReleaseMerge", "(*internal/sync.Mutex).unlockSlow", "internal/sync.fatal", "internal/sync.runtime_Semrelease", "sync/atomic.StoreUint32"], unfollowed := true, recurses := true, apart := false }
def RsSelectsSaid : Prop := rsSelectsRow.holds Try.pinned (OpenSpec.ofChange rsSelectsSpec)

/-- ITS FALSE NEIGHBOUR: 'it returns false'. Refute it at one input. -/
def rsSelectsWrong : ChangeSpec := { name := "rsSelects", fn := fun _ => fun
  | [d1, d2] => { results := [.lit (.bool false)], args := [d1, d2] }
  | _ => none }
def RsSelectsWrongFalsely : Prop := rsSelectsRow.holds Try.pinned (OpenSpec.ofChange rsSelectsWrong)

/-- 'stolonlaw01.RsAnyRows': WHATEVER THE INPUT: true; the input reads as it did. -/
def rsAnyRowsSpec : ChangeSpec := { name := "rsAnyRows", fn := fun _ => fun
  | [d1, d2, d3] => { results := [.lit (.bool true)], args := [d1, d2, d3] }
  | _ => none }
def rsAnyRowsRow : OpenClaim := { program := "ytkiheclcmgbmnaa", sum := "2196599b1cb34a9337bb68dc1408dca611d72cd32c042efb18b44b3849dab670", func := "stolon/stolonlaw01.RsAnyRows", spec := "rsAnyRows", inPlace := ["sync/atomic.LoadUint32", "(*internal/sync.Mutex).Lock", "internal/race.Disable", "sync/atomic.CompareAndSwapInt32", "internal/race.Enable", "internal/race.Acquire", "(*internal/sync.Mutex).lockSlow", "internal/sync.runtime_canSpin", "internal/sync.runtime_doSpin", "internal/sync.throw", "internal/sync.runtime_nanotime", "internal/sync.runtime_SemacquireMutex", "sync/atomic.AddInt32", "(*internal/sync.Mutex).Unlock", "internal/race.ReleaseMerge", "(*internal/sync.Mutex).unlockSlow", "internal/sync.fatal", "internal/sync.runtime_Semrelease", "sync/atomic.StoreUint32"], unfollowed := true, recurses := true, apart := false }
def RsAnyRowsSaid : Prop := rsAnyRowsRow.holds Try.pinned (OpenSpec.ofChange rsAnyRowsSpec)

/-- ITS FALSE NEIGHBOUR: 'it returns false'. Refute it at one input. -/
def rsAnyRowsWrong : ChangeSpec := { name := "rsAnyRows", fn := fun _ => fun
  | [d1, d2, d3] => { results := [.lit (.bool false)], args := [d1, d2, d3] }
  | _ => none }
def RsAnyRowsWrongFalsely : Prop := rsAnyRowsRow.holds Try.pinned (OpenSpec.ofChange rsAnyRowsWrong)

/-- 'stolonlaw01.RsInterpolates': WHATEVER THE INPUT: true; the input reads as it did. -/
def rsInterpolatesSpec : ChangeSpec := { name := "rsInterpolates", fn := fun _ => fun
  | [d] => { results := [.lit (.bool true)], args := [d] }
  | _ => none }
def rsInterpolatesRow : OpenClaim := { program := "ytkiheclcmgbmnaa", sum := "2196599b1cb34a9337bb68dc1408dca611d72cd32c042efb18b44b3849dab670", func := "stolon/stolonlaw01.RsInterpolates", spec := "rsInterpolates", inPlace := ["sync/atomic.LoadUint32", "(*internal/sync.Mutex).Lock", "internal/race.Disable", "sync/atomic.CompareAndSwapInt32", "internal/race.Enable", "internal/race.Acquire", "(*internal/sync.Mutex).lockSlow", "internal/sync.runtime_canSpin", "internal/sync.runtime_doSpin", "internal/sync.throw", "internal/sync.runtime_nanotime", "internal/sync.runtime_SemacquireMutex", "sync/atomic.AddInt32", "(*internal/sync.Mutex).Unlock", "internal/race.ReleaseMerge", "(*internal/sync.Mutex).unlockSlow", "internal/sync.fatal", "internal/sync.runtime_Semrelease", "sync/atomic.StoreUint32"], unfollowed := true, recurses := true, apart := false }
def RsInterpolatesSaid : Prop := rsInterpolatesRow.holds Try.pinned (OpenSpec.ofChange rsInterpolatesSpec)

/-- ITS FALSE NEIGHBOUR: 'it returns false'. Refute it at one input. -/
def rsInterpolatesWrong : ChangeSpec := { name := "rsInterpolates", fn := fun _ => fun
  | [d] => { results := [.lit (.bool false)], args := [d] }
  | _ => none }
def RsInterpolatesWrongFalsely : Prop := rsInterpolatesRow.holds Try.pinned (OpenSpec.ofChange rsInterpolatesWrong)

/-- 'stolonlaw01.RsPassesThrough': WHATEVER THE INPUT: true; the input reads as it did. -/
def rsPassesThroughSpec : ChangeSpec := { name := "rsPassesThrough", fn := fun _ => fun
  | [d1, d2] => { results := [.lit (.bool true)], args := [d1, d2] }
  | _ => none }
def rsPassesThroughRow : OpenClaim := { program := "ytkiheclcmgbmnaa", sum := "2196599b1cb34a9337bb68dc1408dca611d72cd32c042efb18b44b3849dab670", func := "stolon/stolonlaw01.RsPassesThrough", spec := "rsPassesThrough", inPlace := ["sync/atomic.LoadUint32", "(*internal/sync.Mutex).Lock", "internal/race.Disable", "sync/atomic.CompareAndSwapInt32", "internal/race.Enable", "internal/race.Acquire", "(*internal/sync.Mutex).lockSlow", "internal/sync.runtime_canSpin", "internal/sync.runtime_doSpin", "internal/sync.throw", "internal/sync.runtime_nanotime", "internal/sync.runtime_SemacquireMutex", "sync/atomic.AddInt32", "(*internal/sync.Mutex).Unlock", "internal/race.ReleaseMerge", "(*internal/sync.Mutex).unlockSlow", "internal/sync.fatal", "internal/sync.runtime_Semrelease", "sync/atomic.StoreUint32"], unfollowed := true, recurses := true, apart := false }
def RsPassesThroughSaid : Prop := rsPassesThroughRow.holds Try.pinned (OpenSpec.ofChange rsPassesThroughSpec)

/-- ITS FALSE NEIGHBOUR: 'it returns false'. Refute it at one input. -/
def rsPassesThroughWrong : ChangeSpec := { name := "rsPassesThrough", fn := fun _ => fun
  | [d1, d2] => { results := [.lit (.bool false)], args := [d1, d2] }
  | _ => none }
def RsPassesThroughWrongFalsely : Prop := rsPassesThroughRow.holds Try.pinned (OpenSpec.ofChange rsPassesThroughWrong)

/-- 'stolonlaw01.RsDetects': WHATEVER THE INPUT: true; the input reads as it did. -/
def rsDetectsSpec : ChangeSpec := { name := "rsDetects", fn := fun _ => fun
  | [d] => { results := [.lit (.bool true)], args := [d] }
  | _ => none }
def rsDetectsRow : OpenClaim := { program := "ytkiheclcmgbmnaa", sum := "2196599b1cb34a9337bb68dc1408dca611d72cd32c042efb18b44b3849dab670", func := "stolon/stolonlaw01.RsDetects", spec := "rsDetects", inPlace := ["sync/atomic.LoadUint32", "(*internal/sync.Mutex).Lock", "internal/race.Disable", "sync/atomic.CompareAndSwapInt32", "internal/race.Enable", "internal/race.Acquire", "(*internal/sync.Mutex).lockSlow", "internal/sync.runtime_canSpin", "internal/sync.runtime_doSpin", "internal/sync.throw", "internal/sync.runtime_nanotime", "internal/sync.runtime_SemacquireMutex", "sync/atomic.AddInt32", "(*internal/sync.Mutex).Unlock", "internal/race.ReleaseMerge", "(*internal/sync.Mutex).unlockSlow", "internal/sync.fatal", "internal/sync.runtime_Semrelease", "sync/atomic.StoreUint32"], unfollowed := true, recurses := true, apart := false }
def RsDetectsSaid : Prop := rsDetectsRow.holds Try.pinned (OpenSpec.ofChange rsDetectsSpec)

/-- ITS FALSE NEIGHBOUR: 'it returns false'. Refute it at one input. -/
def rsDetectsWrong : ChangeSpec := { name := "rsDetects", fn := fun _ => fun
  | [d] => { results := [.lit (.bool false)], args := [d] }
  | _ => none }
def RsDetectsWrongFalsely : Prop := rsDetectsRow.holds Try.pinned (OpenSpec.ofChange rsDetectsWrong)

/-- 'stolonlaw01.RsDecodes': WHATEVER THE INPUT: true; the input reads as it did. -/
def rsDecodesSpec : ChangeSpec := { name := "rsDecodes", fn := fun _ => fun
  | [d] => { results := [.lit (.bool true)], args := [d] }
  | _ => none }
def rsDecodesRow : OpenClaim := { program := "ytkiheclcmgbmnaa", sum := "2196599b1cb34a9337bb68dc1408dca611d72cd32c042efb18b44b3849dab670", func := "stolon/stolonlaw01.RsDecodes", spec := "rsDecodes", inPlace := ["sync/atomic.LoadUint32", "(*internal/sync.Mutex).Lock", "internal/race.Disable", "sync/atomic.CompareAndSwapInt32", "internal/race.Enable", "internal/race.Acquire", "(*internal/sync.Mutex).lockSlow", "internal/sync.runtime_canSpin", "internal/sync.runtime_doSpin", "internal/sync.throw", "internal/sync.runtime_nanotime", "internal/sync.runtime_SemacquireMutex", "sync/atomic.AddInt32", "(*internal/sync.Mutex).Unlock", "internal/race.ReleaseMerge", "(*internal/sync.Mutex).unlockSlow", "internal/sync.fatal", "internal/sync.runtime_Semrelease", "sync/atomic.StoreUint32"], unfollowed := true, recurses := true, apart := false }
def RsDecodesSaid : Prop := rsDecodesRow.holds Try.pinned (OpenSpec.ofChange rsDecodesSpec)

/-- ITS FALSE NEIGHBOUR: 'it returns false'. Refute it at one input. -/
def rsDecodesWrong : ChangeSpec := { name := "rsDecodes", fn := fun _ => fun
  | [d] => { results := [.lit (.bool false)], args := [d] }
  | _ => none }
def RsDecodesWrongFalsely : Prop := rsDecodesRow.holds Try.pinned (OpenSpec.ofChange rsDecodesWrong)

/-- 'stolonlaw01.RsRebuilds': WHATEVER THE INPUT: true; the input reads as it did. -/
def rsRebuildsSpec : ChangeSpec := { name := "rsRebuilds", fn := fun _ => fun
  | [d] => { results := [.lit (.bool true)], args := [d] }
  | _ => none }
def rsRebuildsRow : OpenClaim := { program := "ytkiheclcmgbmnaa", sum := "2196599b1cb34a9337bb68dc1408dca611d72cd32c042efb18b44b3849dab670", func := "stolon/stolonlaw01.RsRebuilds", spec := "rsRebuilds", inPlace := ["sync/atomic.LoadUint32", "(*internal/sync.Mutex).Lock", "internal/race.Disable", "sync/atomic.CompareAndSwapInt32", "internal/race.Enable", "internal/race.Acquire", "(*internal/sync.Mutex).lockSlow", "internal/sync.runtime_canSpin", "internal/sync.runtime_doSpin", "internal/sync.throw", "internal/sync.runtime_nanotime", "internal/sync.runtime_SemacquireMutex", "sync/atomic.AddInt32", "(*internal/sync.Mutex).Unlock", "internal/race.ReleaseMerge", "(*internal/sync.Mutex).unlockSlow", "internal/sync.fatal", "internal/sync.runtime_Semrelease", "sync/atomic.StoreUint32"], unfollowed := true, recurses := true, apart := false }
def RsRebuildsSaid : Prop := rsRebuildsRow.holds Try.pinned (OpenSpec.ofChange rsRebuildsSpec)

/-- ITS FALSE NEIGHBOUR: 'it returns false'. Refute it at one input. -/
def rsRebuildsWrong : ChangeSpec := { name := "rsRebuilds", fn := fun _ => fun
  | [d] => { results := [.lit (.bool false)], args := [d] }
  | _ => none }
def RsRebuildsWrongFalsely : Prop := rsRebuildsRow.holds Try.pinned (OpenSpec.ofChange rsRebuildsWrong)

/-- 'stolonlaw01.RsRecovers': WHATEVER THE INPUT: true; the input reads as it did. -/
def rsRecoversSpec : ChangeSpec := { name := "rsRecovers", fn := fun _ => fun
  | [d] => { results := [.lit (.bool true)], args := [d] }
  | _ => none }
def rsRecoversRow : OpenClaim := { program := "ytkiheclcmgbmnaa", sum := "2196599b1cb34a9337bb68dc1408dca611d72cd32c042efb18b44b3849dab670", func := "stolon/stolonlaw01.RsRecovers", spec := "rsRecovers", inPlace := ["sync/atomic.LoadUint32", "(*internal/sync.Mutex).Lock", "internal/race.Disable", "sync/atomic.CompareAndSwapInt32", "internal/race.Enable", "internal/race.Acquire", "(*internal/sync.Mutex).lockSlow", "internal/sync.runtime_canSpin", "internal/sync.runtime_doSpin", "internal/sync.throw", "internal/sync.runtime_nanotime", "internal/sync.runtime_SemacquireMutex", "sync/atomic.AddInt32", "(*internal/sync.Mutex).Unlock", "internal/race.ReleaseMerge", "(*internal/sync.Mutex).unlockSlow", "internal/sync.fatal", "internal/sync.runtime_Semrelease", "sync/atomic.StoreUint32"], unfollowed := true, recurses := true, apart := false }
def RsRecoversSaid : Prop := rsRecoversRow.holds Try.pinned (OpenSpec.ofChange rsRecoversSpec)

/-- ITS FALSE NEIGHBOUR: 'it returns false'. Refute it at one input. -/
def rsRecoversWrong : ChangeSpec := { name := "rsRecovers", fn := fun _ => fun
  | [d] => { results := [.lit (.bool false)], args := [d] }
  | _ => none }
def RsRecoversWrongFalsely : Prop := rsRecoversRow.holds Try.pinned (OpenSpec.ofChange rsRecoversWrong)

/- THE SECOND FORM. 'bulk': how many values and letters a reading holds, each counted each time it is reached (what is shared counts as often as it is met; a slice's spare places count too). A statement '..UptoSaid' is the law's where the arguments, and the package variables that the reading takes, are together of bulk at most 1048576: NARROWER than '..Said'. Prove '..Said' where nothing that the law and all that it calls make is longer than what came in: it says more and counts as full. Else prove '..UptoSaid'. A law counts once. -/
mutual
def uptoBulk {H : Type} : DataW H → Nat
  | .lit (.string bytes) => bytes.length + 1
  | .lit _ => 1
  | .nil => 1
  | .ptr d => uptoBulk d + 1
  | .slice elems spare => uptoBulkAll elems + uptoBulkAll spare + 1
  | .agg parts => uptoBulkAll parts + 1
  | .iface _ d => uptoBulk d + 1
  | .map entries => uptoBulkEntries entries + 1
  | .held _ => 1
def uptoBulkAll {H : Type} : List (DataW H) → Nat
  | [] => 0
  | d :: r => uptoBulk d + uptoBulkAll r
def uptoBulkEntries {H : Type} : List (Lit × DataW H) → Nat
  | [] => 0
  | x :: r => uptoBulkEntry x + uptoBulkEntries r
def uptoBulkEntry {H : Type} : Lit × DataW H → Nat
  | (.string bytes, d) => bytes.length + uptoBulk d + 1
  | (_, d) => uptoBulk d + 1
 end
def uptoSmall : (H : Type) → List (DataW H) → Bool := fun _ ds => decide (uptoBulkAll ds ≤ 1048576)
def OpenSpec.upto (s : _root_.Go.ChangeSpec) : _root_.Go.OpenSpec := { _root_.Go.OpenSpec.ofChange s with cond := some uptoSmall }

/-- 'stolonlaw01.RsSizes', WHERE WHAT IT READS IS OF BULK AT MOST 1048576: true; the input reads as it did. -/
def rsSizesUptoRow : OpenClaim := { program := "ytkiheclcmgbmnaa", sum := "2196599b1cb34a9337bb68dc1408dca611d72cd32c042efb18b44b3849dab670", func := "stolon/stolonlaw01.RsSizes", spec := "rsSizes", inPlace := ["sync/atomic.LoadUint32", "(*internal/sync.Mutex).Lock", "internal/race.Disable", "sync/atomic.CompareAndSwapInt32", "internal/race.Enable", "internal/race.Acquire", "(*internal/sync.Mutex).lockSlow", "internal/sync.runtime_canSpin", "internal/sync.runtime_doSpin", "internal/sync.throw", "internal/sync.runtime_nanotime", "internal/sync.runtime_SemacquireMutex", "sync/atomic.AddInt32", "(*internal/sync.Mutex).Unlock", "internal/race.ReleaseMerge", "(*internal/sync.Mutex).unlockSlow", "internal/sync.fatal", "internal/sync.runtime_Semrelease", "sync/atomic.StoreUint32"], unfollowed := true, recurses := true, apart := false, narrowed := true }
def RsSizesUptoSaid : Prop := rsSizesUptoRow.holds Try.pinned (OpenSpec.upto rsSizesSpec)

/-- 'stolonlaw01.RsEncodes', WHERE WHAT IT READS IS OF BULK AT MOST 1048576: true; the input reads as it did. -/
def rsEncodesUptoRow : OpenClaim := { program := "ytkiheclcmgbmnaa", sum := "2196599b1cb34a9337bb68dc1408dca611d72cd32c042efb18b44b3849dab670", func := "stolon/stolonlaw01.RsEncodes", spec := "rsEncodes", inPlace := ["sync/atomic.LoadUint32", "(*internal/sync.Mutex).Lock", "internal/race.Disable", "sync/atomic.CompareAndSwapInt32", "internal/race.Enable", "internal/race.Acquire", "(*internal/sync.Mutex).lockSlow", "internal/sync.runtime_canSpin", "internal/sync.runtime_doSpin", "internal/sync.throw", "internal/sync.runtime_nanotime", "internal/sync.runtime_SemacquireMutex", "sync/atomic.AddInt32", "(*internal/sync.Mutex).Unlock", "internal/race.ReleaseMerge", "(*internal/sync.Mutex).unlockSlow", "internal/sync.fatal", "internal/sync.runtime_Semrelease", "sync/atomic.StoreUint32"], unfollowed := true, recurses := true, apart := false, narrowed := true }
def RsEncodesUptoSaid : Prop := rsEncodesUptoRow.holds Try.pinned (OpenSpec.upto rsEncodesSpec)

/-- 'stolonlaw01.RsSystematic', WHERE WHAT IT READS IS OF BULK AT MOST 1048576: true; the input reads as it did. -/
def rsSystematicUptoRow : OpenClaim := { program := "ytkiheclcmgbmnaa", sum := "2196599b1cb34a9337bb68dc1408dca611d72cd32c042efb18b44b3849dab670", func := "stolon/stolonlaw01.RsSystematic", spec := "rsSystematic", inPlace := ["sync/atomic.LoadUint32", "(*internal/sync.Mutex).Lock", "internal/race.Disable", "sync/atomic.CompareAndSwapInt32", "internal/race.Enable", "internal/race.Acquire", "(*internal/sync.Mutex).lockSlow", "internal/sync.runtime_canSpin", "internal/sync.runtime_doSpin", "internal/sync.throw", "internal/sync.runtime_nanotime", "internal/sync.runtime_SemacquireMutex", "sync/atomic.AddInt32", "(*internal/sync.Mutex).Unlock", "internal/race.ReleaseMerge", "(*internal/sync.Mutex).unlockSlow", "internal/sync.fatal", "internal/sync.runtime_Semrelease", "sync/atomic.StoreUint32"], unfollowed := true, recurses := true, apart := false, narrowed := true }
def RsSystematicUptoSaid : Prop := rsSystematicUptoRow.holds Try.pinned (OpenSpec.upto rsSystematicSpec)

/-- 'stolonlaw01.RsLinear', WHERE WHAT IT READS IS OF BULK AT MOST 1048576: true; the input reads as it did. -/
def rsLinearUptoRow : OpenClaim := { program := "ytkiheclcmgbmnaa", sum := "2196599b1cb34a9337bb68dc1408dca611d72cd32c042efb18b44b3849dab670", func := "stolon/stolonlaw01.RsLinear", spec := "rsLinear", inPlace := ["sync/atomic.LoadUint32", "(*internal/sync.Mutex).Lock", "internal/race.Disable", "sync/atomic.CompareAndSwapInt32", "internal/race.Enable", "internal/race.Acquire", "(*internal/sync.Mutex).lockSlow", "internal/sync.runtime_canSpin", "internal/sync.runtime_doSpin", "internal/sync.throw", "internal/sync.runtime_nanotime", "internal/sync.runtime_SemacquireMutex", "sync/atomic.AddInt32", "(*internal/sync.Mutex).Unlock", "internal/race.ReleaseMerge", "(*internal/sync.Mutex).unlockSlow", "internal/sync.fatal", "internal/sync.runtime_Semrelease", "sync/atomic.StoreUint32"], unfollowed := true, recurses := true, apart := false, narrowed := true }
def RsLinearUptoSaid : Prop := rsLinearUptoRow.holds Try.pinned (OpenSpec.upto rsLinearSpec)

/-- 'stolonlaw01.RsDistance', WHERE WHAT IT READS IS OF BULK AT MOST 1048576: true; the input reads as it did. -/
def rsDistanceUptoRow : OpenClaim := { program := "ytkiheclcmgbmnaa", sum := "2196599b1cb34a9337bb68dc1408dca611d72cd32c042efb18b44b3849dab670", func := "stolon/stolonlaw01.RsDistance", spec := "rsDistance", inPlace := ["sync/atomic.LoadUint32", "(*internal/sync.Mutex).Lock", "internal/race.Disable", "sync/atomic.CompareAndSwapInt32", "internal/race.Enable", "internal/race.Acquire", "(*internal/sync.Mutex).lockSlow", "internal/sync.runtime_canSpin", "internal/sync.runtime_doSpin", "internal/sync.throw", "internal/sync.runtime_nanotime", "internal/sync.runtime_SemacquireMutex", "sync/atomic.AddInt32", "(*internal/sync.Mutex).Unlock", "internal/race.ReleaseMerge", "(*internal/sync.Mutex).unlockSlow", "internal/sync.fatal", "internal/sync.runtime_Semrelease", "sync/atomic.StoreUint32"], unfollowed := true, recurses := true, apart := false, narrowed := true }
def RsDistanceUptoSaid : Prop := rsDistanceUptoRow.holds Try.pinned (OpenSpec.upto rsDistanceSpec)

/-- 'stolonlaw01.RsMemory', WHERE WHAT IT READS IS OF BULK AT MOST 1048576: true; the input reads as it did. -/
def rsMemoryUptoRow : OpenClaim := { program := "ytkiheclcmgbmnaa", sum := "2196599b1cb34a9337bb68dc1408dca611d72cd32c042efb18b44b3849dab670", func := "stolon/stolonlaw01.RsMemory", spec := "rsMemory", inPlace := ["sync/atomic.LoadUint32", "(*internal/sync.Mutex).Lock", "internal/race.Disable", "sync/atomic.CompareAndSwapInt32", "internal/race.Enable", "internal/race.Acquire", "(*internal/sync.Mutex).lockSlow", "internal/sync.runtime_canSpin", "internal/sync.runtime_doSpin", "internal/sync.throw", "internal/sync.runtime_nanotime", "internal/sync.runtime_SemacquireMutex", "sync/atomic.AddInt32", "(*internal/sync.Mutex).Unlock", "internal/race.ReleaseMerge", "(*internal/sync.Mutex).unlockSlow", "internal/sync.fatal", "internal/sync.runtime_Semrelease", "sync/atomic.StoreUint32"], unfollowed := true, recurses := true, apart := false, narrowed := true }
def RsMemoryUptoSaid : Prop := rsMemoryUptoRow.holds Try.pinned (OpenSpec.upto rsMemorySpec)

/-- 'stolonlaw01.RsPowers', WHERE WHAT IT READS IS OF BULK AT MOST 1048576: true; the input reads as it did. -/
def rsPowersUptoRow : OpenClaim := { program := "ytkiheclcmgbmnaa", sum := "2196599b1cb34a9337bb68dc1408dca611d72cd32c042efb18b44b3849dab670", func := "stolon/stolonlaw01.RsPowers", spec := "rsPowers", inPlace := ["sync/atomic.LoadUint32", "(*internal/sync.Mutex).Lock", "internal/race.Disable", "sync/atomic.CompareAndSwapInt32", "internal/race.Enable", "internal/race.Acquire", "(*internal/sync.Mutex).lockSlow", "internal/sync.runtime_canSpin", "internal/sync.runtime_doSpin", "internal/sync.throw", "internal/sync.runtime_nanotime", "internal/sync.runtime_SemacquireMutex", "sync/atomic.AddInt32", "(*internal/sync.Mutex).Unlock", "internal/race.ReleaseMerge", "(*internal/sync.Mutex).unlockSlow", "internal/sync.fatal", "internal/sync.runtime_Semrelease", "sync/atomic.StoreUint32"], unfollowed := true, recurses := true, apart := false, narrowed := true }
def RsPowersUptoSaid : Prop := rsPowersUptoRow.holds Try.pinned (OpenSpec.upto rsPowersSpec)

/-- 'stolonlaw01.RsExponents', WHERE WHAT IT READS IS OF BULK AT MOST 1048576: true; the input reads as it did. -/
def rsExponentsUptoRow : OpenClaim := { program := "ytkiheclcmgbmnaa", sum := "2196599b1cb34a9337bb68dc1408dca611d72cd32c042efb18b44b3849dab670", func := "stolon/stolonlaw01.RsExponents", spec := "rsExponents", inPlace := ["sync/atomic.LoadUint32", "(*internal/sync.Mutex).Lock", "internal/race.Disable", "sync/atomic.CompareAndSwapInt32", "internal/race.Enable", "internal/race.Acquire", "(*internal/sync.Mutex).lockSlow", "internal/sync.runtime_canSpin", "internal/sync.runtime_doSpin", "internal/sync.throw", "internal/sync.runtime_nanotime", "internal/sync.runtime_SemacquireMutex", "sync/atomic.AddInt32", "(*internal/sync.Mutex).Unlock", "internal/race.ReleaseMerge", "(*internal/sync.Mutex).unlockSlow", "internal/sync.fatal", "internal/sync.runtime_Semrelease", "sync/atomic.StoreUint32"], unfollowed := true, recurses := true, apart := false, narrowed := true }
def RsExponentsUptoSaid : Prop := rsExponentsUptoRow.holds Try.pinned (OpenSpec.upto rsExponentsSpec)

/-- 'stolonlaw01.RsShapes', WHERE WHAT IT READS IS OF BULK AT MOST 1048576: true; the input reads as it did. -/
def rsShapesUptoRow : OpenClaim := { program := "ytkiheclcmgbmnaa", sum := "2196599b1cb34a9337bb68dc1408dca611d72cd32c042efb18b44b3849dab670", func := "stolon/stolonlaw01.RsShapes", spec := "rsShapes", inPlace := ["sync/atomic.LoadUint32", "(*internal/sync.Mutex).Lock", "internal/race.Disable", "sync/atomic.CompareAndSwapInt32", "internal/race.Enable", "internal/race.Acquire", "(*internal/sync.Mutex).lockSlow", "internal/sync.runtime_canSpin", "internal/sync.runtime_doSpin", "internal/sync.throw", "internal/sync.runtime_nanotime", "internal/sync.runtime_SemacquireMutex", "sync/atomic.AddInt32", "(*internal/sync.Mutex).Unlock", "internal/race.ReleaseMerge", "(*internal/sync.Mutex).unlockSlow", "internal/sync.fatal", "internal/sync.runtime_Semrelease", "sync/atomic.StoreUint32"], unfollowed := true, recurses := true, apart := false, narrowed := true }
def RsShapesUptoSaid : Prop := rsShapesUptoRow.holds Try.pinned (OpenSpec.upto rsShapesSpec)

/-- 'stolonlaw01.RsProducts', WHERE WHAT IT READS IS OF BULK AT MOST 1048576: true; the input reads as it did. -/
def rsProductsUptoRow : OpenClaim := { program := "ytkiheclcmgbmnaa", sum := "2196599b1cb34a9337bb68dc1408dca611d72cd32c042efb18b44b3849dab670", func := "stolon/stolonlaw01.RsProducts", spec := "rsProducts", inPlace := ["sync/atomic.LoadUint32", "(*internal/sync.Mutex).Lock", "internal/race.Disable", "sync/atomic.CompareAndSwapInt32", "internal/race.Enable", "internal/race.Acquire", "(*internal/sync.Mutex).lockSlow", "internal/sync.runtime_canSpin", "internal/sync.runtime_doSpin", "internal/sync.throw", "internal/sync.runtime_nanotime", "internal/sync.runtime_SemacquireMutex", "sync/atomic.AddInt32", "(*internal/sync.Mutex).Unlock", "internal/race.ReleaseMerge", "(*internal/sync.Mutex).unlockSlow", "internal/sync.fatal", "internal/sync.runtime_Semrelease", "sync/atomic.StoreUint32"], unfollowed := true, recurses := true, apart := false, narrowed := true }
def RsProductsUptoSaid : Prop := rsProductsUptoRow.holds Try.pinned (OpenSpec.upto rsProductsSpec)

/-- 'stolonlaw01.RsMultiplies', WHERE WHAT IT READS IS OF BULK AT MOST 1048576: true; the input reads as it did. -/
def rsMultipliesUptoRow : OpenClaim := { program := "ytkiheclcmgbmnaa", sum := "2196599b1cb34a9337bb68dc1408dca611d72cd32c042efb18b44b3849dab670", func := "stolon/stolonlaw01.RsMultiplies", spec := "rsMultiplies", inPlace := ["sync/atomic.LoadUint32", "(*internal/sync.Mutex).Lock", "internal/race.Disable", "sync/atomic.CompareAndSwapInt32", "internal/race.Enable", "internal/race.Acquire", "(*internal/sync.Mutex).lockSlow", "internal/sync.runtime_canSpin", "internal/sync.runtime_doSpin", "internal/sync.throw", "internal/sync.runtime_nanotime", "internal/sync.runtime_SemacquireMutex", "sync/atomic.AddInt32", "(*internal/sync.Mutex).Unlock", "internal/race.ReleaseMerge", "(*internal/sync.Mutex).unlockSlow", "internal/sync.fatal", "internal/sync.runtime_Semrelease", "sync/atomic.StoreUint32"], unfollowed := true, recurses := true, apart := false, narrowed := true }
def RsMultipliesUptoSaid : Prop := rsMultipliesUptoRow.holds Try.pinned (OpenSpec.upto rsMultipliesSpec)

/-- 'stolonlaw01.RsField', WHERE WHAT IT READS IS OF BULK AT MOST 1048576: true; the input reads as it did. -/
def rsFieldUptoRow : OpenClaim := { program := "ytkiheclcmgbmnaa", sum := "2196599b1cb34a9337bb68dc1408dca611d72cd32c042efb18b44b3849dab670", func := "stolon/stolonlaw01.RsField", spec := "rsField", inPlace := ["sync/atomic.LoadUint32", "(*internal/sync.Mutex).Lock", "internal/race.Disable", "sync/atomic.CompareAndSwapInt32", "internal/race.Enable", "internal/race.Acquire", "(*internal/sync.Mutex).lockSlow", "internal/sync.runtime_canSpin", "internal/sync.runtime_doSpin", "internal/sync.throw", "internal/sync.runtime_nanotime", "internal/sync.runtime_SemacquireMutex", "sync/atomic.AddInt32", "(*internal/sync.Mutex).Unlock", "internal/race.ReleaseMerge", "(*internal/sync.Mutex).unlockSlow", "internal/sync.fatal", "internal/sync.runtime_Semrelease", "sync/atomic.StoreUint32"], unfollowed := true, recurses := true, apart := false, narrowed := true }
def RsFieldUptoSaid : Prop := rsFieldUptoRow.holds Try.pinned (OpenSpec.upto rsFieldSpec)

/-- 'stolonlaw01.RsInverts', WHERE WHAT IT READS IS OF BULK AT MOST 1048576: true; the input reads as it did. -/
def rsInvertsUptoRow : OpenClaim := { program := "ytkiheclcmgbmnaa", sum := "2196599b1cb34a9337bb68dc1408dca611d72cd32c042efb18b44b3849dab670", func := "stolon/stolonlaw01.RsInverts", spec := "rsInverts", inPlace := ["sync/atomic.LoadUint32", "(*internal/sync.Mutex).Lock", "internal/race.Disable", "sync/atomic.CompareAndSwapInt32", "internal/race.Enable", "internal/race.Acquire", "(*internal/sync.Mutex).lockSlow", "internal/sync.runtime_canSpin", "internal/sync.runtime_doSpin", "internal/sync.throw", "internal/sync.runtime_nanotime", "internal/sync.runtime_SemacquireMutex", "sync/atomic.AddInt32", "(*internal/sync.Mutex).Unlock", "internal/race.ReleaseMerge", "(*internal/sync.Mutex).unlockSlow", "internal/sync.fatal", "internal/sync.runtime_Semrelease", "sync/atomic.StoreUint32"], unfollowed := true, recurses := true, apart := false, narrowed := true }
def RsInvertsUptoSaid : Prop := rsInvertsUptoRow.holds Try.pinned (OpenSpec.upto rsInvertsSpec)

/-- 'stolonlaw01.RsInverseUndoes', WHERE WHAT IT READS IS OF BULK AT MOST 1048576: true; the input reads as it did. -/
def rsInverseUndoesUptoRow : OpenClaim := { program := "ytkiheclcmgbmnaa", sum := "2196599b1cb34a9337bb68dc1408dca611d72cd32c042efb18b44b3849dab670", func := "stolon/stolonlaw01.RsInverseUndoes", spec := "rsInverseUndoes", inPlace := ["sync/atomic.LoadUint32", "(*internal/sync.Mutex).Lock", "internal/race.Disable", "sync/atomic.CompareAndSwapInt32", "internal/race.Enable", "internal/race.Acquire", "(*internal/sync.Mutex).lockSlow", "internal/sync.runtime_canSpin", "internal/sync.runtime_doSpin", "internal/sync.throw", "internal/sync.runtime_nanotime", "internal/sync.runtime_SemacquireMutex", "sync/atomic.AddInt32", "(*internal/sync.Mutex).Unlock", "internal/race.ReleaseMerge", "(*internal/sync.Mutex).unlockSlow", "internal/sync.fatal", "internal/sync.runtime_Semrelease", "sync/atomic.StoreUint32"], unfollowed := true, recurses := true, apart := false, narrowed := true }
def RsInverseUndoesUptoSaid : Prop := rsInverseUndoesUptoRow.holds Try.pinned (OpenSpec.upto rsInverseUndoesSpec)

/-- 'stolonlaw01.RsEvaluates', WHERE WHAT IT READS IS OF BULK AT MOST 1048576: true; the input reads as it did. -/
def rsEvaluatesUptoRow : OpenClaim := { program := "ytkiheclcmgbmnaa", sum := "2196599b1cb34a9337bb68dc1408dca611d72cd32c042efb18b44b3849dab670", func := "stolon/stolonlaw01.RsEvaluates", spec := "rsEvaluates", inPlace := ["sync/atomic.LoadUint32", "(*internal/sync.Mutex).Lock", "internal/race.Disable", "sync/atomic.CompareAndSwapInt32", "internal/race.Enable", "internal/race.Acquire", "(*internal/sync.Mutex).lockSlow", "internal/sync.runtime_canSpin", "internal/sync.runtime_doSpin", "internal/sync.throw", "internal/sync.runtime_nanotime", "internal/sync.runtime_SemacquireMutex", "sync/atomic.AddInt32", "(*internal/sync.Mutex).Unlock", "internal/race.ReleaseMerge", "(*internal/sync.Mutex).unlockSlow", "internal/sync.fatal", "internal/sync.runtime_Semrelease", "sync/atomic.StoreUint32"], unfollowed := true, recurses := true, apart := false, narrowed := true }
def RsEvaluatesUptoSaid : Prop := rsEvaluatesUptoRow.holds Try.pinned (OpenSpec.upto rsEvaluatesSpec)

/-- 'stolonlaw01.RsSelects', WHERE WHAT IT READS IS OF BULK AT MOST 1048576: true; the input reads as it did. -/
def rsSelectsUptoRow : OpenClaim := { program := "ytkiheclcmgbmnaa", sum := "2196599b1cb34a9337bb68dc1408dca611d72cd32c042efb18b44b3849dab670", func := "stolon/stolonlaw01.RsSelects", spec := "rsSelects", inPlace := ["sync/atomic.LoadUint32", "(*internal/sync.Mutex).Lock", "internal/race.Disable", "sync/atomic.CompareAndSwapInt32", "internal/race.Enable", "internal/race.Acquire", "(*internal/sync.Mutex).lockSlow", "internal/sync.runtime_canSpin", "internal/sync.runtime_doSpin", "internal/sync.throw", "internal/sync.runtime_nanotime", "internal/sync.runtime_SemacquireMutex", "sync/atomic.AddInt32", "(*internal/sync.Mutex).Unlock", "internal/race.ReleaseMerge", "(*internal/sync.Mutex).unlockSlow", "internal/sync.fatal", "internal/sync.runtime_Semrelease", "sync/atomic.StoreUint32"], unfollowed := true, recurses := true, apart := false, narrowed := true }
def RsSelectsUptoSaid : Prop := rsSelectsUptoRow.holds Try.pinned (OpenSpec.upto rsSelectsSpec)

/-- 'stolonlaw01.RsAnyRows', WHERE WHAT IT READS IS OF BULK AT MOST 1048576: true; the input reads as it did. -/
def rsAnyRowsUptoRow : OpenClaim := { program := "ytkiheclcmgbmnaa", sum := "2196599b1cb34a9337bb68dc1408dca611d72cd32c042efb18b44b3849dab670", func := "stolon/stolonlaw01.RsAnyRows", spec := "rsAnyRows", inPlace := ["sync/atomic.LoadUint32", "(*internal/sync.Mutex).Lock", "internal/race.Disable", "sync/atomic.CompareAndSwapInt32", "internal/race.Enable", "internal/race.Acquire", "(*internal/sync.Mutex).lockSlow", "internal/sync.runtime_canSpin", "internal/sync.runtime_doSpin", "internal/sync.throw", "internal/sync.runtime_nanotime", "internal/sync.runtime_SemacquireMutex", "sync/atomic.AddInt32", "(*internal/sync.Mutex).Unlock", "internal/race.ReleaseMerge", "(*internal/sync.Mutex).unlockSlow", "internal/sync.fatal", "internal/sync.runtime_Semrelease", "sync/atomic.StoreUint32"], unfollowed := true, recurses := true, apart := false, narrowed := true }
def RsAnyRowsUptoSaid : Prop := rsAnyRowsUptoRow.holds Try.pinned (OpenSpec.upto rsAnyRowsSpec)

/-- 'stolonlaw01.RsInterpolates', WHERE WHAT IT READS IS OF BULK AT MOST 1048576: true; the input reads as it did. -/
def rsInterpolatesUptoRow : OpenClaim := { program := "ytkiheclcmgbmnaa", sum := "2196599b1cb34a9337bb68dc1408dca611d72cd32c042efb18b44b3849dab670", func := "stolon/stolonlaw01.RsInterpolates", spec := "rsInterpolates", inPlace := ["sync/atomic.LoadUint32", "(*internal/sync.Mutex).Lock", "internal/race.Disable", "sync/atomic.CompareAndSwapInt32", "internal/race.Enable", "internal/race.Acquire", "(*internal/sync.Mutex).lockSlow", "internal/sync.runtime_canSpin", "internal/sync.runtime_doSpin", "internal/sync.throw", "internal/sync.runtime_nanotime", "internal/sync.runtime_SemacquireMutex", "sync/atomic.AddInt32", "(*internal/sync.Mutex).Unlock", "internal/race.ReleaseMerge", "(*internal/sync.Mutex).unlockSlow", "internal/sync.fatal", "internal/sync.runtime_Semrelease", "sync/atomic.StoreUint32"], unfollowed := true, recurses := true, apart := false, narrowed := true }
def RsInterpolatesUptoSaid : Prop := rsInterpolatesUptoRow.holds Try.pinned (OpenSpec.upto rsInterpolatesSpec)

/-- 'stolonlaw01.RsPassesThrough', WHERE WHAT IT READS IS OF BULK AT MOST 1048576: true; the input reads as it did. -/
def rsPassesThroughUptoRow : OpenClaim := { program := "ytkiheclcmgbmnaa", sum := "2196599b1cb34a9337bb68dc1408dca611d72cd32c042efb18b44b3849dab670", func := "stolon/stolonlaw01.RsPassesThrough", spec := "rsPassesThrough", inPlace := ["sync/atomic.LoadUint32", "(*internal/sync.Mutex).Lock", "internal/race.Disable", "sync/atomic.CompareAndSwapInt32", "internal/race.Enable", "internal/race.Acquire", "(*internal/sync.Mutex).lockSlow", "internal/sync.runtime_canSpin", "internal/sync.runtime_doSpin", "internal/sync.throw", "internal/sync.runtime_nanotime", "internal/sync.runtime_SemacquireMutex", "sync/atomic.AddInt32", "(*internal/sync.Mutex).Unlock", "internal/race.ReleaseMerge", "(*internal/sync.Mutex).unlockSlow", "internal/sync.fatal", "internal/sync.runtime_Semrelease", "sync/atomic.StoreUint32"], unfollowed := true, recurses := true, apart := false, narrowed := true }
def RsPassesThroughUptoSaid : Prop := rsPassesThroughUptoRow.holds Try.pinned (OpenSpec.upto rsPassesThroughSpec)

/-- 'stolonlaw01.RsDetects', WHERE WHAT IT READS IS OF BULK AT MOST 1048576: true; the input reads as it did. -/
def rsDetectsUptoRow : OpenClaim := { program := "ytkiheclcmgbmnaa", sum := "2196599b1cb34a9337bb68dc1408dca611d72cd32c042efb18b44b3849dab670", func := "stolon/stolonlaw01.RsDetects", spec := "rsDetects", inPlace := ["sync/atomic.LoadUint32", "(*internal/sync.Mutex).Lock", "internal/race.Disable", "sync/atomic.CompareAndSwapInt32", "internal/race.Enable", "internal/race.Acquire", "(*internal/sync.Mutex).lockSlow", "internal/sync.runtime_canSpin", "internal/sync.runtime_doSpin", "internal/sync.throw", "internal/sync.runtime_nanotime", "internal/sync.runtime_SemacquireMutex", "sync/atomic.AddInt32", "(*internal/sync.Mutex).Unlock", "internal/race.ReleaseMerge", "(*internal/sync.Mutex).unlockSlow", "internal/sync.fatal", "internal/sync.runtime_Semrelease", "sync/atomic.StoreUint32"], unfollowed := true, recurses := true, apart := false, narrowed := true }
def RsDetectsUptoSaid : Prop := rsDetectsUptoRow.holds Try.pinned (OpenSpec.upto rsDetectsSpec)

/-- 'stolonlaw01.RsDecodes', WHERE WHAT IT READS IS OF BULK AT MOST 1048576: true; the input reads as it did. -/
def rsDecodesUptoRow : OpenClaim := { program := "ytkiheclcmgbmnaa", sum := "2196599b1cb34a9337bb68dc1408dca611d72cd32c042efb18b44b3849dab670", func := "stolon/stolonlaw01.RsDecodes", spec := "rsDecodes", inPlace := ["sync/atomic.LoadUint32", "(*internal/sync.Mutex).Lock", "internal/race.Disable", "sync/atomic.CompareAndSwapInt32", "internal/race.Enable", "internal/race.Acquire", "(*internal/sync.Mutex).lockSlow", "internal/sync.runtime_canSpin", "internal/sync.runtime_doSpin", "internal/sync.throw", "internal/sync.runtime_nanotime", "internal/sync.runtime_SemacquireMutex", "sync/atomic.AddInt32", "(*internal/sync.Mutex).Unlock", "internal/race.ReleaseMerge", "(*internal/sync.Mutex).unlockSlow", "internal/sync.fatal", "internal/sync.runtime_Semrelease", "sync/atomic.StoreUint32"], unfollowed := true, recurses := true, apart := false, narrowed := true }
def RsDecodesUptoSaid : Prop := rsDecodesUptoRow.holds Try.pinned (OpenSpec.upto rsDecodesSpec)

/-- 'stolonlaw01.RsRebuilds', WHERE WHAT IT READS IS OF BULK AT MOST 1048576: true; the input reads as it did. -/
def rsRebuildsUptoRow : OpenClaim := { program := "ytkiheclcmgbmnaa", sum := "2196599b1cb34a9337bb68dc1408dca611d72cd32c042efb18b44b3849dab670", func := "stolon/stolonlaw01.RsRebuilds", spec := "rsRebuilds", inPlace := ["sync/atomic.LoadUint32", "(*internal/sync.Mutex).Lock", "internal/race.Disable", "sync/atomic.CompareAndSwapInt32", "internal/race.Enable", "internal/race.Acquire", "(*internal/sync.Mutex).lockSlow", "internal/sync.runtime_canSpin", "internal/sync.runtime_doSpin", "internal/sync.throw", "internal/sync.runtime_nanotime", "internal/sync.runtime_SemacquireMutex", "sync/atomic.AddInt32", "(*internal/sync.Mutex).Unlock", "internal/race.ReleaseMerge", "(*internal/sync.Mutex).unlockSlow", "internal/sync.fatal", "internal/sync.runtime_Semrelease", "sync/atomic.StoreUint32"], unfollowed := true, recurses := true, apart := false, narrowed := true }
def RsRebuildsUptoSaid : Prop := rsRebuildsUptoRow.holds Try.pinned (OpenSpec.upto rsRebuildsSpec)

/-- 'stolonlaw01.RsRecovers', WHERE WHAT IT READS IS OF BULK AT MOST 1048576: true; the input reads as it did. -/
def rsRecoversUptoRow : OpenClaim := { program := "ytkiheclcmgbmnaa", sum := "2196599b1cb34a9337bb68dc1408dca611d72cd32c042efb18b44b3849dab670", func := "stolon/stolonlaw01.RsRecovers", spec := "rsRecovers", inPlace := ["sync/atomic.LoadUint32", "(*internal/sync.Mutex).Lock", "internal/race.Disable", "sync/atomic.CompareAndSwapInt32", "internal/race.Enable", "internal/race.Acquire", "(*internal/sync.Mutex).lockSlow", "internal/sync.runtime_canSpin", "internal/sync.runtime_doSpin", "internal/sync.throw", "internal/sync.runtime_nanotime", "internal/sync.runtime_SemacquireMutex", "sync/atomic.AddInt32", "(*internal/sync.Mutex).Unlock", "internal/race.ReleaseMerge", "(*internal/sync.Mutex).unlockSlow", "internal/sync.fatal", "internal/sync.runtime_Semrelease", "sync/atomic.StoreUint32"], unfollowed := true, recurses := true, apart := false, narrowed := true }
def RsRecoversUptoSaid : Prop := rsRecoversUptoRow.holds Try.pinned (OpenSpec.upto rsRecoversSpec)

end Rows
end Go.Proofs.Ytkiheclcmgbmnaa
