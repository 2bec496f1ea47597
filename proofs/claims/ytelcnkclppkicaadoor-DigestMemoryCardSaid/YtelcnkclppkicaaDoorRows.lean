/-
  NARROWER THAN 'FOR EVERY INPUT', by the rows' own cells (each row's printed sentence says how): DigestMakes: laid · DigestMemory: laid · DigestBurst: laid · DigestAffine: laid · DigestStream: laid · DigestEncodes: laid · DigestChecks: laid · DigestSums: laid · DigestWrites: laid · DigestHex: laid · DigestHexOnly: laid · DigestReads: laid · DigestDecodes: laid · DigestManifestBack: laid · DigestReadBack: laid · DigestRegenerates: laid · DigestSound: laid · DigestRestores: laid.
  DERIVED. THE GIVEN ROWS OF THIS SEAT. 18 by the template 'for every input the law returns true; each argument reads behind the call as it read before'; 0 by the template 'total and deterministic' (their statements: YtelcnkclppkicaaDoorTotals.lean).
  GIVEN WITH THE SEED: the statements are not yours to turn. If you find one false, say at which input.
  Laid BY PROGRAM, IN A SANDBOX (cutbox-rows.mjs): the forced cells as the released guide's own fill.sh prints them over the translation 5bf3351e5d70f50b… (all of the seat's roots in one cut). By AI agents, Wed Nov 11 2026. No macro, syntax, notation, axiom, sorry.
-/
import Derived.Test.YtelcnkclppkicaaDoorChecked
import GoSem.Claim
import GoSem.ClaimJoined
import GoSem.ClaimMapViews
import Derived.JoinedTies
import Derived.KernelRfl
namespace Go.Proofs.YtelcnkclppkicaaDoor
/- THE CELL 'sum', in the pinned program and in every row, IS THE sha256 OF THE DUMP (.gsa) THAT YtelcnkclppkicaaDoorProg.lean LOADS. Nothing in Lean hashes anything: it is a label: what it is worth is what the hold of that sum in a sandbox is worth. -/
noncomputable def Tryd.pinned : Pinned := { name := "ytelcnkclppkicaadoor", sum := "5bf3351e5d70f50b7be2ac8ef9a57707572f7022676c6442b31a359e955c4b5c", checked := Tryd.checked }
namespace Rows
def none {H : Type} : Left H := { results := [], args := [] }

/- WHAT THE LISTED PACKAGE-LEVEL VARIABLES READ AS WHEN THE CALL BEGINS. Each datum BY PROGRAM (the guide's laid-datum.mjs) off the statement by which the dump's own 'gosem.cut.vars' lays the variable. In a bare row this is a premise. The card (YtelcnkclppkicaaDoorCards.lean) ties it to the program's text. -/
def laid_stolon_stolonref02_rounds {H : Type} : DataW H := .agg [.lit (.int .u32 1116352408), .lit (.int .u32 1899447441), .lit (.int .u32 3049323471), .lit (.int .u32 3921009573), .lit (.int .u32 961987163), .lit (.int .u32 1508970993), .lit (.int .u32 2453635748), .lit (.int .u32 2870763221), .lit (.int .u32 3624381080), .lit (.int .u32 310598401), .lit (.int .u32 607225278), .lit (.int .u32 1426881987), .lit (.int .u32 1925078388), .lit (.int .u32 2162078206), .lit (.int .u32 2614888103), .lit (.int .u32 3248222580), .lit (.int .u32 3835390401), .lit (.int .u32 4022224774), .lit (.int .u32 264347078), .lit (.int .u32 604807628), .lit (.int .u32 770255983), .lit (.int .u32 1249150122), .lit (.int .u32 1555081692), .lit (.int .u32 1996064986), .lit (.int .u32 2554220882), .lit (.int .u32 2821834349), .lit (.int .u32 2952996808), .lit (.int .u32 3210313671), .lit (.int .u32 3336571891), .lit (.int .u32 3584528711), .lit (.int .u32 113926993), .lit (.int .u32 338241895), .lit (.int .u32 666307205), .lit (.int .u32 773529912), .lit (.int .u32 1294757372), .lit (.int .u32 1396182291), .lit (.int .u32 1695183700), .lit (.int .u32 1986661051), .lit (.int .u32 2177026350), .lit (.int .u32 2456956037), .lit (.int .u32 2730485921), .lit (.int .u32 2820302411), .lit (.int .u32 3259730800), .lit (.int .u32 3345764771), .lit (.int .u32 3516065817), .lit (.int .u32 3600352804), .lit (.int .u32 4094571909), .lit (.int .u32 275423344), .lit (.int .u32 430227734), .lit (.int .u32 506948616), .lit (.int .u32 659060556), .lit (.int .u32 883997877), .lit (.int .u32 958139571), .lit (.int .u32 1322822218), .lit (.int .u32 1537002063), .lit (.int .u32 1747873779), .lit (.int .u32 1955562222), .lit (.int .u32 2024104815), .lit (.int .u32 2227730452), .lit (.int .u32 2361852424), .lit (.int .u32 2428436474), .lit (.int .u32 2756734187), .lit (.int .u32 3204031479), .lit (.int .u32 3329325298)]
def laid_stolon_digest_rounds {H : Type} : DataW H := .agg [.lit (.int .u32 1116352408), .lit (.int .u32 1899447441), .lit (.int .u32 3049323471), .lit (.int .u32 3921009573), .lit (.int .u32 961987163), .lit (.int .u32 1508970993), .lit (.int .u32 2453635748), .lit (.int .u32 2870763221), .lit (.int .u32 3624381080), .lit (.int .u32 310598401), .lit (.int .u32 607225278), .lit (.int .u32 1426881987), .lit (.int .u32 1925078388), .lit (.int .u32 2162078206), .lit (.int .u32 2614888103), .lit (.int .u32 3248222580), .lit (.int .u32 3835390401), .lit (.int .u32 4022224774), .lit (.int .u32 264347078), .lit (.int .u32 604807628), .lit (.int .u32 770255983), .lit (.int .u32 1249150122), .lit (.int .u32 1555081692), .lit (.int .u32 1996064986), .lit (.int .u32 2554220882), .lit (.int .u32 2821834349), .lit (.int .u32 2952996808), .lit (.int .u32 3210313671), .lit (.int .u32 3336571891), .lit (.int .u32 3584528711), .lit (.int .u32 113926993), .lit (.int .u32 338241895), .lit (.int .u32 666307205), .lit (.int .u32 773529912), .lit (.int .u32 1294757372), .lit (.int .u32 1396182291), .lit (.int .u32 1695183700), .lit (.int .u32 1986661051), .lit (.int .u32 2177026350), .lit (.int .u32 2456956037), .lit (.int .u32 2730485921), .lit (.int .u32 2820302411), .lit (.int .u32 3259730800), .lit (.int .u32 3345764771), .lit (.int .u32 3516065817), .lit (.int .u32 3600352804), .lit (.int .u32 4094571909), .lit (.int .u32 275423344), .lit (.int .u32 430227734), .lit (.int .u32 506948616), .lit (.int .u32 659060556), .lit (.int .u32 883997877), .lit (.int .u32 958139571), .lit (.int .u32 1322822218), .lit (.int .u32 1537002063), .lit (.int .u32 1747873779), .lit (.int .u32 1955562222), .lit (.int .u32 2024104815), .lit (.int .u32 2227730452), .lit (.int .u32 2361852424), .lit (.int .u32 2428436474), .lit (.int .u32 2756734187), .lit (.int .u32 3204031479), .lit (.int .u32 3329325298)]

/-- 'stolonlaw02.DigestMakes': WHATEVER THE INPUT: true; the input reads as it did. -/
def digestMakesSpec : ChangeSpec := { name := "digestMakes", fn := fun _ => fun
  | [d] => { results := [.lit (.bool true)], args := [d] }
  | _ => none }
def digestMakesRow : OpenClaim := { program := "ytelcnkclppkicaadoor", sum := "5bf3351e5d70f50b7be2ac8ef9a57707572f7022676c6442b31a359e955c4b5c", func := "stolon/stolonlaw02.DigestMakes", spec := "digestMakes", inPlace := ["sync/atomic.LoadUint32", "(*internal/sync.Mutex).Lock", "internal/race.Disable", "sync/atomic.CompareAndSwapInt32", "internal/race.Enable", "internal/race.Acquire", "(*internal/sync.Mutex).lockSlow", "internal/sync.runtime_canSpin", "internal/sync.runtime_doSpin", "internal/sync.throw", "internal/sync.runtime_nanotime", "internal/sync.runtime_SemacquireMutex", "sync/atomic.AddInt32", "(*internal/sync.Mutex).Unlock", "internal/race.ReleaseMerge", "(*internal/sync.Mutex).unlockSlow", "internal/sync.fatal", "internal/sync.runtime_Semrelease", "sync/atomic.StoreUint32"], unfollowed := true, recurses := true, named := ["stolon/digest.rounds", "stolon/stolonref02.rounds"], apart := false, laid := [("stolon/stolonref02.rounds", laid_stolon_stolonref02_rounds), ("stolon/digest.rounds", laid_stolon_digest_rounds)] }
def DigestMakesSaid : Prop := digestMakesRow.holds Tryd.pinned (OpenSpec.ofChange digestMakesSpec)

/-- ITS FALSE NEIGHBOUR: 'it returns false'. Refute it at one input. -/
def digestMakesWrong : ChangeSpec := { name := "digestMakes", fn := fun _ => fun
  | [d] => { results := [.lit (.bool false)], args := [d] }
  | _ => none }
def DigestMakesWrongFalsely : Prop := digestMakesRow.holds Tryd.pinned (OpenSpec.ofChange digestMakesWrong)

/-- 'stolonlaw02.DigestMemory': WHATEVER THE INPUT: true; the input reads as it did. -/
def digestMemorySpec : ChangeSpec := { name := "digestMemory", fn := fun _ => fun
  | [d] => { results := [.lit (.bool true)], args := [d] }
  | _ => none }
def digestMemoryRow : OpenClaim := { program := "ytelcnkclppkicaadoor", sum := "5bf3351e5d70f50b7be2ac8ef9a57707572f7022676c6442b31a359e955c4b5c", func := "stolon/stolonlaw02.DigestMemory", spec := "digestMemory", inPlace := ["sync/atomic.LoadUint32", "(*internal/sync.Mutex).Lock", "internal/race.Disable", "sync/atomic.CompareAndSwapInt32", "internal/race.Enable", "internal/race.Acquire", "(*internal/sync.Mutex).lockSlow", "internal/sync.runtime_canSpin", "internal/sync.runtime_doSpin", "internal/sync.throw", "internal/sync.runtime_nanotime", "internal/sync.runtime_SemacquireMutex", "sync/atomic.AddInt32", "(*internal/sync.Mutex).Unlock", "internal/race.ReleaseMerge", "(*internal/sync.Mutex).unlockSlow", "internal/sync.fatal", "internal/sync.runtime_Semrelease", "sync/atomic.StoreUint32"], unfollowed := true, recurses := true, named := ["stolon/digest.rounds"], apart := false, laid := [("stolon/digest.rounds", laid_stolon_digest_rounds)] }
def DigestMemorySaid : Prop := digestMemoryRow.holds Tryd.pinned (OpenSpec.ofChange digestMemorySpec)

/-- ITS FALSE NEIGHBOUR: 'it returns false'. Refute it at one input. -/
def digestMemoryWrong : ChangeSpec := { name := "digestMemory", fn := fun _ => fun
  | [d] => { results := [.lit (.bool false)], args := [d] }
  | _ => none }
def DigestMemoryWrongFalsely : Prop := digestMemoryRow.holds Tryd.pinned (OpenSpec.ofChange digestMemoryWrong)

/-- 'stolonlaw02.DigestBurst': WHATEVER THE INPUT: true; the input reads as it did. -/
def digestBurstSpec : ChangeSpec := { name := "digestBurst", fn := fun _ => fun
  | [d1, d2, d3] => { results := [.lit (.bool true)], args := [d1, d2, d3] }
  | _ => none }
def digestBurstRow : OpenClaim := { program := "ytelcnkclppkicaadoor", sum := "5bf3351e5d70f50b7be2ac8ef9a57707572f7022676c6442b31a359e955c4b5c", func := "stolon/stolonlaw02.DigestBurst", spec := "digestBurst", inPlace := ["sync/atomic.LoadUint32", "(*internal/sync.Mutex).Lock", "internal/race.Disable", "sync/atomic.CompareAndSwapInt32", "internal/race.Enable", "internal/race.Acquire", "(*internal/sync.Mutex).lockSlow", "internal/sync.runtime_canSpin", "internal/sync.runtime_doSpin", "internal/sync.throw", "internal/sync.runtime_nanotime", "internal/sync.runtime_SemacquireMutex", "sync/atomic.AddInt32", "(*internal/sync.Mutex).Unlock", "internal/race.ReleaseMerge", "(*internal/sync.Mutex).unlockSlow", "internal/sync.fatal", "internal/sync.runtime_Semrelease", "sync/atomic.StoreUint32"], unfollowed := true, recurses := true, named := ["stolon/digest.rounds"], apart := false, laid := [("stolon/digest.rounds", laid_stolon_digest_rounds)] }
def DigestBurstSaid : Prop := digestBurstRow.holds Tryd.pinned (OpenSpec.ofChange digestBurstSpec)

/-- ITS FALSE NEIGHBOUR: 'it returns false'. Refute it at one input. -/
def digestBurstWrong : ChangeSpec := { name := "digestBurst", fn := fun _ => fun
  | [d1, d2, d3] => { results := [.lit (.bool false)], args := [d1, d2, d3] }
  | _ => none }
def DigestBurstWrongFalsely : Prop := digestBurstRow.holds Tryd.pinned (OpenSpec.ofChange digestBurstWrong)

/-- 'stolonlaw02.DigestAffine': WHATEVER THE INPUT: true; the input reads as it did. -/
def digestAffineSpec : ChangeSpec := { name := "digestAffine", fn := fun _ => fun
  | [d1, d2, d3] => { results := [.lit (.bool true)], args := [d1, d2, d3] }
  | _ => none }
def digestAffineRow : OpenClaim := { program := "ytelcnkclppkicaadoor", sum := "5bf3351e5d70f50b7be2ac8ef9a57707572f7022676c6442b31a359e955c4b5c", func := "stolon/stolonlaw02.DigestAffine", spec := "digestAffine", inPlace := ["sync/atomic.LoadUint32", "(*internal/sync.Mutex).Lock", "internal/race.Disable", "sync/atomic.CompareAndSwapInt32", "internal/race.Enable", "internal/race.Acquire", "(*internal/sync.Mutex).lockSlow", "internal/sync.runtime_canSpin", "internal/sync.runtime_doSpin", "internal/sync.throw", "internal/sync.runtime_nanotime", "internal/sync.runtime_SemacquireMutex", "sync/atomic.AddInt32", "(*internal/sync.Mutex).Unlock", "internal/race.ReleaseMerge", "(*internal/sync.Mutex).unlockSlow", "internal/sync.fatal", "internal/sync.runtime_Semrelease", "sync/atomic.StoreUint32"], unfollowed := true, recurses := true, named := ["stolon/digest.rounds"], apart := false, laid := [("stolon/digest.rounds", laid_stolon_digest_rounds)] }
def DigestAffineSaid : Prop := digestAffineRow.holds Tryd.pinned (OpenSpec.ofChange digestAffineSpec)

/-- ITS FALSE NEIGHBOUR: 'it returns false'. Refute it at one input. -/
def digestAffineWrong : ChangeSpec := { name := "digestAffine", fn := fun _ => fun
  | [d1, d2, d3] => { results := [.lit (.bool false)], args := [d1, d2, d3] }
  | _ => none }
def DigestAffineWrongFalsely : Prop := digestAffineRow.holds Tryd.pinned (OpenSpec.ofChange digestAffineWrong)

/-- 'stolonlaw02.DigestStream': WHATEVER THE INPUT: true; the input reads as it did. -/
def digestStreamSpec : ChangeSpec := { name := "digestStream", fn := fun _ => fun
  | [d] => { results := [.lit (.bool true)], args := [d] }
  | _ => none }
def digestStreamRow : OpenClaim := { program := "ytelcnkclppkicaadoor", sum := "5bf3351e5d70f50b7be2ac8ef9a57707572f7022676c6442b31a359e955c4b5c", func := "stolon/stolonlaw02.DigestStream", spec := "digestStream", inPlace := ["sync/atomic.LoadUint32", "(*internal/sync.Mutex).Lock", "internal/race.Disable", "sync/atomic.CompareAndSwapInt32", "internal/race.Enable", "internal/race.Acquire", "(*internal/sync.Mutex).lockSlow", "internal/sync.runtime_canSpin", "internal/sync.runtime_doSpin", "internal/sync.throw", "internal/sync.runtime_nanotime", "internal/sync.runtime_SemacquireMutex", "sync/atomic.AddInt32", "(*internal/sync.Mutex).Unlock", "internal/race.ReleaseMerge", "(*internal/sync.Mutex).unlockSlow", "internal/sync.fatal", "internal/sync.runtime_Semrelease", "sync/atomic.StoreUint32"], unfollowed := true, recurses := true, named := ["stolon/digest.rounds"], apart := false, laid := [("stolon/digest.rounds", laid_stolon_digest_rounds)] }
def DigestStreamSaid : Prop := digestStreamRow.holds Tryd.pinned (OpenSpec.ofChange digestStreamSpec)

/-- ITS FALSE NEIGHBOUR: 'it returns false'. Refute it at one input. -/
def digestStreamWrong : ChangeSpec := { name := "digestStream", fn := fun _ => fun
  | [d] => { results := [.lit (.bool false)], args := [d] }
  | _ => none }
def DigestStreamWrongFalsely : Prop := digestStreamRow.holds Tryd.pinned (OpenSpec.ofChange digestStreamWrong)

/-- 'stolonlaw02.DigestEncodes': WHATEVER THE INPUT: true; the input reads as it did. -/
def digestEncodesSpec : ChangeSpec := { name := "digestEncodes", fn := fun _ => fun
  | [d] => { results := [.lit (.bool true)], args := [d] }
  | _ => none }
def digestEncodesRow : OpenClaim := { program := "ytelcnkclppkicaadoor", sum := "5bf3351e5d70f50b7be2ac8ef9a57707572f7022676c6442b31a359e955c4b5c", func := "stolon/stolonlaw02.DigestEncodes", spec := "digestEncodes", inPlace := ["sync/atomic.LoadUint32", "(*internal/sync.Mutex).Lock", "internal/race.Disable", "sync/atomic.CompareAndSwapInt32", "internal/race.Enable", "internal/race.Acquire", "(*internal/sync.Mutex).lockSlow", "internal/sync.runtime_canSpin", "internal/sync.runtime_doSpin", "internal/sync.throw", "internal/sync.runtime_nanotime", "internal/sync.runtime_SemacquireMutex", "sync/atomic.AddInt32", "(*internal/sync.Mutex).Unlock", "internal/race.ReleaseMerge", "(*internal/sync.Mutex).unlockSlow", "internal/sync.fatal", "internal/sync.runtime_Semrelease", "sync/atomic.StoreUint32"], unfollowed := true, recurses := true, named := ["stolon/digest.rounds", "stolon/stolonref02.rounds"], apart := false, laid := [("stolon/stolonref02.rounds", laid_stolon_stolonref02_rounds), ("stolon/digest.rounds", laid_stolon_digest_rounds)] }
def DigestEncodesSaid : Prop := digestEncodesRow.holds Tryd.pinned (OpenSpec.ofChange digestEncodesSpec)

/-- ITS FALSE NEIGHBOUR: 'it returns false'. Refute it at one input. -/
def digestEncodesWrong : ChangeSpec := { name := "digestEncodes", fn := fun _ => fun
  | [d] => { results := [.lit (.bool false)], args := [d] }
  | _ => none }
def DigestEncodesWrongFalsely : Prop := digestEncodesRow.holds Tryd.pinned (OpenSpec.ofChange digestEncodesWrong)

/-- 'stolonlaw02.DigestChecks': WHATEVER THE INPUT: true; the input reads as it did. -/
def digestChecksSpec : ChangeSpec := { name := "digestChecks", fn := fun _ => fun
  | [d1, d2] => { results := [.lit (.bool true)], args := [d1, d2] }
  | _ => none }
def digestChecksRow : OpenClaim := { program := "ytelcnkclppkicaadoor", sum := "5bf3351e5d70f50b7be2ac8ef9a57707572f7022676c6442b31a359e955c4b5c", func := "stolon/stolonlaw02.DigestChecks", spec := "digestChecks", inPlace := ["sync/atomic.LoadUint32", "(*internal/sync.Mutex).Lock", "internal/race.Disable", "sync/atomic.CompareAndSwapInt32", "internal/race.Enable", "internal/race.Acquire", "(*internal/sync.Mutex).lockSlow", "internal/sync.runtime_canSpin", "internal/sync.runtime_doSpin", "internal/sync.throw", "internal/sync.runtime_nanotime", "internal/sync.runtime_SemacquireMutex", "sync/atomic.AddInt32", "(*internal/sync.Mutex).Unlock", "internal/race.ReleaseMerge", "(*internal/sync.Mutex).unlockSlow", "internal/sync.fatal", "internal/sync.runtime_Semrelease", "sync/atomic.StoreUint32"], unfollowed := true, recurses := true, named := ["stolon/digest.rounds", "stolon/stolonref02.rounds"], apart := false, laid := [("stolon/stolonref02.rounds", laid_stolon_stolonref02_rounds), ("stolon/digest.rounds", laid_stolon_digest_rounds)] }
def DigestChecksSaid : Prop := digestChecksRow.holds Tryd.pinned (OpenSpec.ofChange digestChecksSpec)

/-- ITS FALSE NEIGHBOUR: 'it returns false'. Refute it at one input. -/
def digestChecksWrong : ChangeSpec := { name := "digestChecks", fn := fun _ => fun
  | [d1, d2] => { results := [.lit (.bool false)], args := [d1, d2] }
  | _ => none }
def DigestChecksWrongFalsely : Prop := digestChecksRow.holds Tryd.pinned (OpenSpec.ofChange digestChecksWrong)

/-- 'stolonlaw02.DigestSums': WHATEVER THE INPUT: true; the input reads as it did. -/
def digestSumsSpec : ChangeSpec := { name := "digestSums", fn := fun _ => fun
  | [d] => { results := [.lit (.bool true)], args := [d] }
  | _ => none }
def digestSumsRow : OpenClaim := { program := "ytelcnkclppkicaadoor", sum := "5bf3351e5d70f50b7be2ac8ef9a57707572f7022676c6442b31a359e955c4b5c", func := "stolon/stolonlaw02.DigestSums", spec := "digestSums", inPlace := ["sync/atomic.LoadUint32", "(*internal/sync.Mutex).Lock", "internal/race.Disable", "sync/atomic.CompareAndSwapInt32", "internal/race.Enable", "internal/race.Acquire", "(*internal/sync.Mutex).lockSlow", "internal/sync.runtime_canSpin", "internal/sync.runtime_doSpin", "internal/sync.throw", "internal/sync.runtime_nanotime", "internal/sync.runtime_SemacquireMutex", "sync/atomic.AddInt32", "(*internal/sync.Mutex).Unlock", "internal/race.ReleaseMerge", "(*internal/sync.Mutex).unlockSlow", "internal/sync.fatal", "internal/sync.runtime_Semrelease", "sync/atomic.StoreUint32"], unfollowed := true, recurses := true, named := ["stolon/digest.rounds", "stolon/stolonref02.rounds"], apart := false, laid := [("stolon/stolonref02.rounds", laid_stolon_stolonref02_rounds), ("stolon/digest.rounds", laid_stolon_digest_rounds)] }
def DigestSumsSaid : Prop := digestSumsRow.holds Tryd.pinned (OpenSpec.ofChange digestSumsSpec)

/-- ITS FALSE NEIGHBOUR: 'it returns false'. Refute it at one input. -/
def digestSumsWrong : ChangeSpec := { name := "digestSums", fn := fun _ => fun
  | [d] => { results := [.lit (.bool false)], args := [d] }
  | _ => none }
def DigestSumsWrongFalsely : Prop := digestSumsRow.holds Tryd.pinned (OpenSpec.ofChange digestSumsWrong)

/-- 'stolonlaw02.DigestWrites': WHATEVER THE INPUT: true; the input reads as it did. -/
def digestWritesSpec : ChangeSpec := { name := "digestWrites", fn := fun _ => fun
  | [d1, d2] => { results := [.lit (.bool true)], args := [d1, d2] }
  | _ => none }
def digestWritesRow : OpenClaim := { program := "ytelcnkclppkicaadoor", sum := "5bf3351e5d70f50b7be2ac8ef9a57707572f7022676c6442b31a359e955c4b5c", func := "stolon/stolonlaw02.DigestWrites", spec := "digestWrites", inPlace := ["sync/atomic.LoadUint32", "(*internal/sync.Mutex).Lock", "internal/race.Disable", "sync/atomic.CompareAndSwapInt32", "internal/race.Enable", "internal/race.Acquire", "(*internal/sync.Mutex).lockSlow", "internal/sync.runtime_canSpin", "internal/sync.runtime_doSpin", "internal/sync.throw", "internal/sync.runtime_nanotime", "internal/sync.runtime_SemacquireMutex", "sync/atomic.AddInt32", "(*internal/sync.Mutex).Unlock", "internal/race.ReleaseMerge", "(*internal/sync.Mutex).unlockSlow", "internal/sync.fatal", "internal/sync.runtime_Semrelease", "sync/atomic.StoreUint32"], unfollowed := true, recurses := true, named := ["stolon/digest.rounds"], apart := false, laid := [("stolon/digest.rounds", laid_stolon_digest_rounds)] }
def DigestWritesSaid : Prop := digestWritesRow.holds Tryd.pinned (OpenSpec.ofChange digestWritesSpec)

/-- ITS FALSE NEIGHBOUR: 'it returns false'. Refute it at one input. -/
def digestWritesWrong : ChangeSpec := { name := "digestWrites", fn := fun _ => fun
  | [d1, d2] => { results := [.lit (.bool false)], args := [d1, d2] }
  | _ => none }
def DigestWritesWrongFalsely : Prop := digestWritesRow.holds Tryd.pinned (OpenSpec.ofChange digestWritesWrong)

/-- 'stolonlaw02.DigestHex': WHATEVER THE INPUT: true; the input reads as it did. -/
def digestHexSpec : ChangeSpec := { name := "digestHex", fn := fun _ => fun
  | [d1, d2] => { results := [.lit (.bool true)], args := [d1, d2] }
  | _ => none }
def digestHexRow : OpenClaim := { program := "ytelcnkclppkicaadoor", sum := "5bf3351e5d70f50b7be2ac8ef9a57707572f7022676c6442b31a359e955c4b5c", func := "stolon/stolonlaw02.DigestHex", spec := "digestHex", inPlace := ["sync/atomic.LoadUint32", "(*internal/sync.Mutex).Lock", "internal/race.Disable", "sync/atomic.CompareAndSwapInt32", "internal/race.Enable", "internal/race.Acquire", "(*internal/sync.Mutex).lockSlow", "internal/sync.runtime_canSpin", "internal/sync.runtime_doSpin", "internal/sync.throw", "internal/sync.runtime_nanotime", "internal/sync.runtime_SemacquireMutex", "sync/atomic.AddInt32", "(*internal/sync.Mutex).Unlock", "internal/race.ReleaseMerge", "(*internal/sync.Mutex).unlockSlow", "internal/sync.fatal", "internal/sync.runtime_Semrelease", "sync/atomic.StoreUint32"], unfollowed := true, recurses := true, named := ["stolon/digest.rounds"], apart := false, laid := [("stolon/digest.rounds", laid_stolon_digest_rounds)] }
def DigestHexSaid : Prop := digestHexRow.holds Tryd.pinned (OpenSpec.ofChange digestHexSpec)

/-- ITS FALSE NEIGHBOUR: 'it returns false'. Refute it at one input. -/
def digestHexWrong : ChangeSpec := { name := "digestHex", fn := fun _ => fun
  | [d1, d2] => { results := [.lit (.bool false)], args := [d1, d2] }
  | _ => none }
def DigestHexWrongFalsely : Prop := digestHexRow.holds Tryd.pinned (OpenSpec.ofChange digestHexWrong)

/-- 'stolonlaw02.DigestHexOnly': WHATEVER THE INPUT: true; the input reads as it did. -/
def digestHexOnlySpec : ChangeSpec := { name := "digestHexOnly", fn := fun _ => fun
  | [d] => { results := [.lit (.bool true)], args := [d] }
  | _ => none }
def digestHexOnlyRow : OpenClaim := { program := "ytelcnkclppkicaadoor", sum := "5bf3351e5d70f50b7be2ac8ef9a57707572f7022676c6442b31a359e955c4b5c", func := "stolon/stolonlaw02.DigestHexOnly", spec := "digestHexOnly", inPlace := ["sync/atomic.LoadUint32", "(*internal/sync.Mutex).Lock", "internal/race.Disable", "sync/atomic.CompareAndSwapInt32", "internal/race.Enable", "internal/race.Acquire", "(*internal/sync.Mutex).lockSlow", "internal/sync.runtime_canSpin", "internal/sync.runtime_doSpin", "internal/sync.throw", "internal/sync.runtime_nanotime", "internal/sync.runtime_SemacquireMutex", "sync/atomic.AddInt32", "(*internal/sync.Mutex).Unlock", "internal/race.ReleaseMerge", "(*internal/sync.Mutex).unlockSlow", "internal/sync.fatal", "internal/sync.runtime_Semrelease", "sync/atomic.StoreUint32"], unfollowed := true, recurses := true, named := ["stolon/digest.rounds"], apart := false, laid := [("stolon/digest.rounds", laid_stolon_digest_rounds)] }
def DigestHexOnlySaid : Prop := digestHexOnlyRow.holds Tryd.pinned (OpenSpec.ofChange digestHexOnlySpec)

/-- ITS FALSE NEIGHBOUR: 'it returns false'. Refute it at one input. -/
def digestHexOnlyWrong : ChangeSpec := { name := "digestHexOnly", fn := fun _ => fun
  | [d] => { results := [.lit (.bool false)], args := [d] }
  | _ => none }
def DigestHexOnlyWrongFalsely : Prop := digestHexOnlyRow.holds Tryd.pinned (OpenSpec.ofChange digestHexOnlyWrong)

/-- 'stolonlaw02.DigestReads': WHATEVER THE INPUT: true; the input reads as it did. -/
def digestReadsSpec : ChangeSpec := { name := "digestReads", fn := fun _ => fun
  | [d1, d2] => { results := [.lit (.bool true)], args := [d1, d2] }
  | _ => none }
def digestReadsRow : OpenClaim := { program := "ytelcnkclppkicaadoor", sum := "5bf3351e5d70f50b7be2ac8ef9a57707572f7022676c6442b31a359e955c4b5c", func := "stolon/stolonlaw02.DigestReads", spec := "digestReads", inPlace := ["sync/atomic.LoadUint32", "(*internal/sync.Mutex).Lock", "internal/race.Disable", "sync/atomic.CompareAndSwapInt32", "internal/race.Enable", "internal/race.Acquire", "(*internal/sync.Mutex).lockSlow", "internal/sync.runtime_canSpin", "internal/sync.runtime_doSpin", "internal/sync.throw", "internal/sync.runtime_nanotime", "internal/sync.runtime_SemacquireMutex", "sync/atomic.AddInt32", "(*internal/sync.Mutex).Unlock", "internal/race.ReleaseMerge", "(*internal/sync.Mutex).unlockSlow", "internal/sync.fatal", "internal/sync.runtime_Semrelease", "sync/atomic.StoreUint32"], unfollowed := true, recurses := true, named := ["stolon/digest.rounds"], apart := false, laid := [("stolon/digest.rounds", laid_stolon_digest_rounds)] }
def DigestReadsSaid : Prop := digestReadsRow.holds Tryd.pinned (OpenSpec.ofChange digestReadsSpec)

/-- ITS FALSE NEIGHBOUR: 'it returns false'. Refute it at one input. -/
def digestReadsWrong : ChangeSpec := { name := "digestReads", fn := fun _ => fun
  | [d1, d2] => { results := [.lit (.bool false)], args := [d1, d2] }
  | _ => none }
def DigestReadsWrongFalsely : Prop := digestReadsRow.holds Tryd.pinned (OpenSpec.ofChange digestReadsWrong)

/-- 'stolonlaw02.DigestDecodes': WHATEVER THE INPUT: true; the input reads as it did. -/
def digestDecodesSpec : ChangeSpec := { name := "digestDecodes", fn := fun _ => fun
  | [d] => { results := [.lit (.bool true)], args := [d] }
  | _ => none }
def digestDecodesRow : OpenClaim := { program := "ytelcnkclppkicaadoor", sum := "5bf3351e5d70f50b7be2ac8ef9a57707572f7022676c6442b31a359e955c4b5c", func := "stolon/stolonlaw02.DigestDecodes", spec := "digestDecodes", inPlace := ["sync/atomic.LoadUint32", "(*internal/sync.Mutex).Lock", "internal/race.Disable", "sync/atomic.CompareAndSwapInt32", "internal/race.Enable", "internal/race.Acquire", "(*internal/sync.Mutex).lockSlow", "internal/sync.runtime_canSpin", "internal/sync.runtime_doSpin", "internal/sync.throw", "internal/sync.runtime_nanotime", "internal/sync.runtime_SemacquireMutex", "sync/atomic.AddInt32", "(*internal/sync.Mutex).Unlock", "internal/race.ReleaseMerge", "(*internal/sync.Mutex).unlockSlow", "internal/sync.fatal", "internal/sync.runtime_Semrelease", "sync/atomic.StoreUint32"], unfollowed := true, recurses := true, named := ["stolon/digest.rounds"], apart := false, laid := [("stolon/digest.rounds", laid_stolon_digest_rounds)] }
def DigestDecodesSaid : Prop := digestDecodesRow.holds Tryd.pinned (OpenSpec.ofChange digestDecodesSpec)

/-- ITS FALSE NEIGHBOUR: 'it returns false'. Refute it at one input. -/
def digestDecodesWrong : ChangeSpec := { name := "digestDecodes", fn := fun _ => fun
  | [d] => { results := [.lit (.bool false)], args := [d] }
  | _ => none }
def DigestDecodesWrongFalsely : Prop := digestDecodesRow.holds Tryd.pinned (OpenSpec.ofChange digestDecodesWrong)

/-- 'stolonlaw02.DigestManifestBack': WHATEVER THE INPUT: true; the input reads as it did. -/
def digestManifestBackSpec : ChangeSpec := { name := "digestManifestBack", fn := fun _ => fun
  | [d1, d2] => { results := [.lit (.bool true)], args := [d1, d2] }
  | _ => none }
def digestManifestBackRow : OpenClaim := { program := "ytelcnkclppkicaadoor", sum := "5bf3351e5d70f50b7be2ac8ef9a57707572f7022676c6442b31a359e955c4b5c", func := "stolon/stolonlaw02.DigestManifestBack", spec := "digestManifestBack", inPlace := ["sync/atomic.LoadUint32", "(*internal/sync.Mutex).Lock", "internal/race.Disable", "sync/atomic.CompareAndSwapInt32", "internal/race.Enable", "internal/race.Acquire", "(*internal/sync.Mutex).lockSlow", "internal/sync.runtime_canSpin", "internal/sync.runtime_doSpin", "internal/sync.throw", "internal/sync.runtime_nanotime", "internal/sync.runtime_SemacquireMutex", "sync/atomic.AddInt32", "(*internal/sync.Mutex).Unlock", "internal/race.ReleaseMerge", "(*internal/sync.Mutex).unlockSlow", "internal/sync.fatal", "internal/sync.runtime_Semrelease", "sync/atomic.StoreUint32"], unfollowed := true, recurses := true, named := ["stolon/digest.rounds"], apart := false, laid := [("stolon/digest.rounds", laid_stolon_digest_rounds)] }
def DigestManifestBackSaid : Prop := digestManifestBackRow.holds Tryd.pinned (OpenSpec.ofChange digestManifestBackSpec)

/-- ITS FALSE NEIGHBOUR: 'it returns false'. Refute it at one input. -/
def digestManifestBackWrong : ChangeSpec := { name := "digestManifestBack", fn := fun _ => fun
  | [d1, d2] => { results := [.lit (.bool false)], args := [d1, d2] }
  | _ => none }
def DigestManifestBackWrongFalsely : Prop := digestManifestBackRow.holds Tryd.pinned (OpenSpec.ofChange digestManifestBackWrong)

/-- 'stolonlaw02.DigestReadBack': WHATEVER THE INPUT: true; the input reads as it did. -/
def digestReadBackSpec : ChangeSpec := { name := "digestReadBack", fn := fun _ => fun
  | [d] => { results := [.lit (.bool true)], args := [d] }
  | _ => none }
def digestReadBackRow : OpenClaim := { program := "ytelcnkclppkicaadoor", sum := "5bf3351e5d70f50b7be2ac8ef9a57707572f7022676c6442b31a359e955c4b5c", func := "stolon/stolonlaw02.DigestReadBack", spec := "digestReadBack", inPlace := ["sync/atomic.LoadUint32", "(*internal/sync.Mutex).Lock", "internal/race.Disable", "sync/atomic.CompareAndSwapInt32", "internal/race.Enable", "internal/race.Acquire", "(*internal/sync.Mutex).lockSlow", "internal/sync.runtime_canSpin", "internal/sync.runtime_doSpin", "internal/sync.throw", "internal/sync.runtime_nanotime", "internal/sync.runtime_SemacquireMutex", "sync/atomic.AddInt32", "(*internal/sync.Mutex).Unlock", "internal/race.ReleaseMerge", "(*internal/sync.Mutex).unlockSlow", "internal/sync.fatal", "internal/sync.runtime_Semrelease", "sync/atomic.StoreUint32"], unfollowed := true, recurses := true, named := ["stolon/digest.rounds"], apart := false, laid := [("stolon/digest.rounds", laid_stolon_digest_rounds)] }
def DigestReadBackSaid : Prop := digestReadBackRow.holds Tryd.pinned (OpenSpec.ofChange digestReadBackSpec)

/-- ITS FALSE NEIGHBOUR: 'it returns false'. Refute it at one input. -/
def digestReadBackWrong : ChangeSpec := { name := "digestReadBack", fn := fun _ => fun
  | [d] => { results := [.lit (.bool false)], args := [d] }
  | _ => none }
def DigestReadBackWrongFalsely : Prop := digestReadBackRow.holds Tryd.pinned (OpenSpec.ofChange digestReadBackWrong)

/-- 'stolonlaw02.DigestRegenerates': WHATEVER THE INPUT: true; the input reads as it did. -/
def digestRegeneratesSpec : ChangeSpec := { name := "digestRegenerates", fn := fun _ => fun
  | [d] => { results := [.lit (.bool true)], args := [d] }
  | _ => none }
def digestRegeneratesRow : OpenClaim := { program := "ytelcnkclppkicaadoor", sum := "5bf3351e5d70f50b7be2ac8ef9a57707572f7022676c6442b31a359e955c4b5c", func := "stolon/stolonlaw02.DigestRegenerates", spec := "digestRegenerates", inPlace := ["sync/atomic.LoadUint32", "(*internal/sync.Mutex).Lock", "internal/race.Disable", "sync/atomic.CompareAndSwapInt32", "internal/race.Enable", "internal/race.Acquire", "(*internal/sync.Mutex).lockSlow", "internal/sync.runtime_canSpin", "internal/sync.runtime_doSpin", "internal/sync.throw", "internal/sync.runtime_nanotime", "internal/sync.runtime_SemacquireMutex", "sync/atomic.AddInt32", "(*internal/sync.Mutex).Unlock", "internal/race.ReleaseMerge", "(*internal/sync.Mutex).unlockSlow", "internal/sync.fatal", "internal/sync.runtime_Semrelease", "sync/atomic.StoreUint32"], unfollowed := true, recurses := true, named := ["stolon/digest.rounds", "stolon/stolonref02.rounds"], apart := false, laid := [("stolon/stolonref02.rounds", laid_stolon_stolonref02_rounds), ("stolon/digest.rounds", laid_stolon_digest_rounds)] }
def DigestRegeneratesSaid : Prop := digestRegeneratesRow.holds Tryd.pinned (OpenSpec.ofChange digestRegeneratesSpec)

/-- ITS FALSE NEIGHBOUR: 'it returns false'. Refute it at one input. -/
def digestRegeneratesWrong : ChangeSpec := { name := "digestRegenerates", fn := fun _ => fun
  | [d] => { results := [.lit (.bool false)], args := [d] }
  | _ => none }
def DigestRegeneratesWrongFalsely : Prop := digestRegeneratesRow.holds Tryd.pinned (OpenSpec.ofChange digestRegeneratesWrong)

/-- 'stolonlaw02.DigestSound': WHATEVER THE INPUT: true; the input reads as it did. -/
def digestSoundSpec : ChangeSpec := { name := "digestSound", fn := fun _ => fun
  | [d] => { results := [.lit (.bool true)], args := [d] }
  | _ => none }
def digestSoundRow : OpenClaim := { program := "ytelcnkclppkicaadoor", sum := "5bf3351e5d70f50b7be2ac8ef9a57707572f7022676c6442b31a359e955c4b5c", func := "stolon/stolonlaw02.DigestSound", spec := "digestSound", inPlace := ["sync/atomic.LoadUint32", "(*internal/sync.Mutex).Lock", "internal/race.Disable", "sync/atomic.CompareAndSwapInt32", "internal/race.Enable", "internal/race.Acquire", "(*internal/sync.Mutex).lockSlow", "internal/sync.runtime_canSpin", "internal/sync.runtime_doSpin", "internal/sync.throw", "internal/sync.runtime_nanotime", "internal/sync.runtime_SemacquireMutex", "sync/atomic.AddInt32", "(*internal/sync.Mutex).Unlock", "internal/race.ReleaseMerge", "(*internal/sync.Mutex).unlockSlow", "internal/sync.fatal", "internal/sync.runtime_Semrelease", "sync/atomic.StoreUint32"], unfollowed := true, recurses := true, named := ["stolon/digest.rounds"], apart := false, laid := [("stolon/digest.rounds", laid_stolon_digest_rounds)] }
def DigestSoundSaid : Prop := digestSoundRow.holds Tryd.pinned (OpenSpec.ofChange digestSoundSpec)

/-- ITS FALSE NEIGHBOUR: 'it returns false'. Refute it at one input. -/
def digestSoundWrong : ChangeSpec := { name := "digestSound", fn := fun _ => fun
  | [d] => { results := [.lit (.bool false)], args := [d] }
  | _ => none }
def DigestSoundWrongFalsely : Prop := digestSoundRow.holds Tryd.pinned (OpenSpec.ofChange digestSoundWrong)

/-- 'stolonlaw02.DigestRestores': WHATEVER THE INPUT: true; the input reads as it did. -/
def digestRestoresSpec : ChangeSpec := { name := "digestRestores", fn := fun _ => fun
  | [d] => { results := [.lit (.bool true)], args := [d] }
  | _ => none }
def digestRestoresRow : OpenClaim := { program := "ytelcnkclppkicaadoor", sum := "5bf3351e5d70f50b7be2ac8ef9a57707572f7022676c6442b31a359e955c4b5c", func := "stolon/stolonlaw02.DigestRestores", spec := "digestRestores", inPlace := ["sync/atomic.LoadUint32", "(*internal/sync.Mutex).Lock", "internal/race.Disable", "sync/atomic.CompareAndSwapInt32", "internal/race.Enable", "internal/race.Acquire", "(*internal/sync.Mutex).lockSlow", "internal/sync.runtime_canSpin", "internal/sync.runtime_doSpin", "internal/sync.throw", "internal/sync.runtime_nanotime", "internal/sync.runtime_SemacquireMutex", "sync/atomic.AddInt32", "(*internal/sync.Mutex).Unlock", "internal/race.ReleaseMerge", "(*internal/sync.Mutex).unlockSlow", "internal/sync.fatal", "internal/sync.runtime_Semrelease", "sync/atomic.StoreUint32"], unfollowed := true, recurses := true, named := ["stolon/digest.rounds"], apart := false, laid := [("stolon/digest.rounds", laid_stolon_digest_rounds)] }
def DigestRestoresSaid : Prop := digestRestoresRow.holds Tryd.pinned (OpenSpec.ofChange digestRestoresSpec)

/-- ITS FALSE NEIGHBOUR: 'it returns false'. Refute it at one input. -/
def digestRestoresWrong : ChangeSpec := { name := "digestRestores", fn := fun _ => fun
  | [d] => { results := [.lit (.bool false)], args := [d] }
  | _ => none }
def DigestRestoresWrongFalsely : Prop := digestRestoresRow.holds Tryd.pinned (OpenSpec.ofChange digestRestoresWrong)

/- THE SECOND FORM. 'bulk': how many values and letters a reading holds, each counted each time it is reached (what is shared counts as often as it is met; a slice's spare places count too). A statement '..UptoSaid' is the law's where the arguments, and the package variables that the reading takes, are together of bulk at most 1048576: NARROWER than '..Said'. Prove '..Said' where nothing that the law and all that it calls make is longer than what came in: it says more and counts as full. Else prove '..UptoSaid'. A law counts once. -/
mutual
def uptoBulk {H : Type} : DataW H → Nat
  | .lit (.string bytes) => bytes.length + 1
  | .lit _ => 1
  | .nil => 1
  | .ptr d => uptoBulk d + 1
  | .slice elems spare => uptoBulkAll elems + uptoBulkAll spare + 1
  | .agg parts => uptoBulkAll parts + 1
  | .iface _ d => uptoBulk d + 1
  | .map entries => uptoBulkEntries entries + 1
  | .held _ => 1
def uptoBulkAll {H : Type} : List (DataW H) → Nat
  | [] => 0
  | d :: r => uptoBulk d + uptoBulkAll r
def uptoBulkEntries {H : Type} : List (Lit × DataW H) → Nat
  | [] => 0
  | x :: r => uptoBulkEntry x + uptoBulkEntries r
def uptoBulkEntry {H : Type} : Lit × DataW H → Nat
  | (.string bytes, d) => bytes.length + uptoBulk d + 1
  | (_, d) => uptoBulk d + 1
 end
def uptoSmall : (H : Type) → List (DataW H) → Bool := fun _ ds => decide (uptoBulkAll ds ≤ 1048576)
def OpenSpec.upto (s : _root_.Go.ChangeSpec) : _root_.Go.OpenSpec := { _root_.Go.OpenSpec.ofChange s with cond := some uptoSmall }

/-- 'stolonlaw02.DigestMakes', WHERE WHAT IT READS IS OF BULK AT MOST 1048576: true; the input reads as it did. -/
def digestMakesUptoRow : OpenClaim := { program := "ytelcnkclppkicaadoor", sum := "5bf3351e5d70f50b7be2ac8ef9a57707572f7022676c6442b31a359e955c4b5c", func := "stolon/stolonlaw02.DigestMakes", spec := "digestMakes", inPlace := ["sync/atomic.LoadUint32", "(*internal/sync.Mutex).Lock", "internal/race.Disable", "sync/atomic.CompareAndSwapInt32", "internal/race.Enable", "internal/race.Acquire", "(*internal/sync.Mutex).lockSlow", "internal/sync.runtime_canSpin", "internal/sync.runtime_doSpin", "internal/sync.throw", "internal/sync.runtime_nanotime", "internal/sync.runtime_SemacquireMutex", "sync/atomic.AddInt32", "(*internal/sync.Mutex).Unlock", "internal/race.ReleaseMerge", "(*internal/sync.Mutex).unlockSlow", "internal/sync.fatal", "internal/sync.runtime_Semrelease", "sync/atomic.StoreUint32"], unfollowed := true, recurses := true, named := ["stolon/digest.rounds", "stolon/stolonref02.rounds"], apart := false, laid := [("stolon/stolonref02.rounds", laid_stolon_stolonref02_rounds), ("stolon/digest.rounds", laid_stolon_digest_rounds)], narrowed := true }
def DigestMakesUptoSaid : Prop := digestMakesUptoRow.holds Tryd.pinned (OpenSpec.upto digestMakesSpec)

/-- 'stolonlaw02.DigestMemory', WHERE WHAT IT READS IS OF BULK AT MOST 1048576: true; the input reads as it did. -/
def digestMemoryUptoRow : OpenClaim := { program := "ytelcnkclppkicaadoor", sum := "5bf3351e5d70f50b7be2ac8ef9a57707572f7022676c6442b31a359e955c4b5c", func := "stolon/stolonlaw02.DigestMemory", spec := "digestMemory", inPlace := ["sync/atomic.LoadUint32", "(*internal/sync.Mutex).Lock", "internal/race.Disable", "sync/atomic.CompareAndSwapInt32", "internal/race.Enable", "internal/race.Acquire", "(*internal/sync.Mutex).lockSlow", "internal/sync.runtime_canSpin", "internal/sync.runtime_doSpin", "internal/sync.throw", "internal/sync.runtime_nanotime", "internal/sync.runtime_SemacquireMutex", "sync/atomic.AddInt32", "(*internal/sync.Mutex).Unlock", "internal/race.ReleaseMerge", "(*internal/sync.Mutex).unlockSlow", "internal/sync.fatal", "internal/sync.runtime_Semrelease", "sync/atomic.StoreUint32"], unfollowed := true, recurses := true, named := ["stolon/digest.rounds"], apart := false, laid := [("stolon/digest.rounds", laid_stolon_digest_rounds)], narrowed := true }
def DigestMemoryUptoSaid : Prop := digestMemoryUptoRow.holds Tryd.pinned (OpenSpec.upto digestMemorySpec)

/-- 'stolonlaw02.DigestBurst', WHERE WHAT IT READS IS OF BULK AT MOST 1048576: true; the input reads as it did. -/
def digestBurstUptoRow : OpenClaim := { program := "ytelcnkclppkicaadoor", sum := "5bf3351e5d70f50b7be2ac8ef9a57707572f7022676c6442b31a359e955c4b5c", func := "stolon/stolonlaw02.DigestBurst", spec := "digestBurst", inPlace := ["sync/atomic.LoadUint32", "(*internal/sync.Mutex).Lock", "internal/race.Disable", "sync/atomic.CompareAndSwapInt32", "internal/race.Enable", "internal/race.Acquire", "(*internal/sync.Mutex).lockSlow", "internal/sync.runtime_canSpin", "internal/sync.runtime_doSpin", "internal/sync.throw", "internal/sync.runtime_nanotime", "internal/sync.runtime_SemacquireMutex", "sync/atomic.AddInt32", "(*internal/sync.Mutex).Unlock", "internal/race.ReleaseMerge", "(*internal/sync.Mutex).unlockSlow", "internal/sync.fatal", "internal/sync.runtime_Semrelease", "sync/atomic.StoreUint32"], unfollowed := true, recurses := true, named := ["stolon/digest.rounds"], apart := false, laid := [("stolon/digest.rounds", laid_stolon_digest_rounds)], narrowed := true }
def DigestBurstUptoSaid : Prop := digestBurstUptoRow.holds Tryd.pinned (OpenSpec.upto digestBurstSpec)

/-- 'stolonlaw02.DigestAffine', WHERE WHAT IT READS IS OF BULK AT MOST 1048576: true; the input reads as it did. -/
def digestAffineUptoRow : OpenClaim := { program := "ytelcnkclppkicaadoor", sum := "5bf3351e5d70f50b7be2ac8ef9a57707572f7022676c6442b31a359e955c4b5c", func := "stolon/stolonlaw02.DigestAffine", spec := "digestAffine", inPlace := ["sync/atomic.LoadUint32", "(*internal/sync.Mutex).Lock", "internal/race.Disable", "sync/atomic.CompareAndSwapInt32", "internal/race.Enable", "internal/race.Acquire", "(*internal/sync.Mutex).lockSlow", "internal/sync.runtime_canSpin", "internal/sync.runtime_doSpin", "internal/sync.throw", "internal/sync.runtime_nanotime", "internal/sync.runtime_SemacquireMutex", "sync/atomic.AddInt32", "(*internal/sync.Mutex).Unlock", "internal/race.ReleaseMerge", "(*internal/sync.Mutex).unlockSlow", "internal/sync.fatal", "internal/sync.runtime_Semrelease", "sync/atomic.StoreUint32"], unfollowed := true, recurses := true, named := ["stolon/digest.rounds"], apart := false, laid := [("stolon/digest.rounds", laid_stolon_digest_rounds)], narrowed := true }
def DigestAffineUptoSaid : Prop := digestAffineUptoRow.holds Tryd.pinned (OpenSpec.upto digestAffineSpec)

/-- 'stolonlaw02.DigestStream', WHERE WHAT IT READS IS OF BULK AT MOST 1048576: true; the input reads as it did. -/
def digestStreamUptoRow : OpenClaim := { program := "ytelcnkclppkicaadoor", sum := "5bf3351e5d70f50b7be2ac8ef9a57707572f7022676c6442b31a359e955c4b5c", func := "stolon/stolonlaw02.DigestStream", spec := "digestStream", inPlace := ["sync/atomic.LoadUint32", "(*internal/sync.Mutex).Lock", "internal/race.Disable", "sync/atomic.CompareAndSwapInt32", "internal/race.Enable", "internal/race.Acquire", "(*internal/sync.Mutex).lockSlow", "internal/sync.runtime_canSpin", "internal/sync.runtime_doSpin", "internal/sync.throw", "internal/sync.runtime_nanotime", "internal/sync.runtime_SemacquireMutex", "sync/atomic.AddInt32", "(*internal/sync.Mutex).Unlock", "internal/race.ReleaseMerge", "(*internal/sync.Mutex).unlockSlow", "internal/sync.fatal", "internal/sync.runtime_Semrelease", "sync/atomic.StoreUint32"], unfollowed := true, recurses := true, named := ["stolon/digest.rounds"], apart := false, laid := [("stolon/digest.rounds", laid_stolon_digest_rounds)], narrowed := true }
def DigestStreamUptoSaid : Prop := digestStreamUptoRow.holds Tryd.pinned (OpenSpec.upto digestStreamSpec)

/-- 'stolonlaw02.DigestEncodes', WHERE WHAT IT READS IS OF BULK AT MOST 1048576: true; the input reads as it did. -/
def digestEncodesUptoRow : OpenClaim := { program := "ytelcnkclppkicaadoor", sum := "5bf3351e5d70f50b7be2ac8ef9a57707572f7022676c6442b31a359e955c4b5c", func := "stolon/stolonlaw02.DigestEncodes", spec := "digestEncodes", inPlace := ["sync/atomic.LoadUint32", "(*internal/sync.Mutex).Lock", "internal/race.Disable", "sync/atomic.CompareAndSwapInt32", "internal/race.Enable", "internal/race.Acquire", "(*internal/sync.Mutex).lockSlow", "internal/sync.runtime_canSpin", "internal/sync.runtime_doSpin", "internal/sync.throw", "internal/sync.runtime_nanotime", "internal/sync.runtime_SemacquireMutex", "sync/atomic.AddInt32", "(*internal/sync.Mutex).Unlock", "internal/race.ReleaseMerge", "(*internal/sync.Mutex).unlockSlow", "internal/sync.fatal", "internal/sync.runtime_Semrelease", "sync/atomic.StoreUint32"], unfollowed := true, recurses := true, named := ["stolon/digest.rounds", "stolon/stolonref02.rounds"], apart := false, laid := [("stolon/stolonref02.rounds", laid_stolon_stolonref02_rounds), ("stolon/digest.rounds", laid_stolon_digest_rounds)], narrowed := true }
def DigestEncodesUptoSaid : Prop := digestEncodesUptoRow.holds Tryd.pinned (OpenSpec.upto digestEncodesSpec)

/-- 'stolonlaw02.DigestChecks', WHERE WHAT IT READS IS OF BULK AT MOST 1048576: true; the input reads as it did. -/
def digestChecksUptoRow : OpenClaim := { program := "ytelcnkclppkicaadoor", sum := "5bf3351e5d70f50b7be2ac8ef9a57707572f7022676c6442b31a359e955c4b5c", func := "stolon/stolonlaw02.DigestChecks", spec := "digestChecks", inPlace := ["sync/atomic.LoadUint32", "(*internal/sync.Mutex).Lock", "internal/race.Disable", "sync/atomic.CompareAndSwapInt32", "internal/race.Enable", "internal/race.Acquire", "(*internal/sync.Mutex).lockSlow", "internal/sync.runtime_canSpin", "internal/sync.runtime_doSpin", "internal/sync.throw", "internal/sync.runtime_nanotime", "internal/sync.runtime_SemacquireMutex", "sync/atomic.AddInt32", "(*internal/sync.Mutex).Unlock", "internal/race.ReleaseMerge", "(*internal/sync.Mutex).unlockSlow", "internal/sync.fatal", "internal/sync.runtime_Semrelease", "sync/atomic.StoreUint32"], unfollowed := true, recurses := true, named := ["stolon/digest.rounds", "stolon/stolonref02.rounds"], apart := false, laid := [("stolon/stolonref02.rounds", laid_stolon_stolonref02_rounds), ("stolon/digest.rounds", laid_stolon_digest_rounds)], narrowed := true }
def DigestChecksUptoSaid : Prop := digestChecksUptoRow.holds Tryd.pinned (OpenSpec.upto digestChecksSpec)

/-- 'stolonlaw02.DigestSums', WHERE WHAT IT READS IS OF BULK AT MOST 1048576: true; the input reads as it did. -/
def digestSumsUptoRow : OpenClaim := { program := "ytelcnkclppkicaadoor", sum := "5bf3351e5d70f50b7be2ac8ef9a57707572f7022676c6442b31a359e955c4b5c", func := "stolon/stolonlaw02.DigestSums", spec := "digestSums", inPlace := ["sync/atomic.LoadUint32", "(*internal/sync.Mutex).Lock", "internal/race.Disable", "sync/atomic.CompareAndSwapInt32", "internal/race.Enable", "internal/race.Acquire", "(*internal/sync.Mutex).lockSlow", "internal/sync.runtime_canSpin", "internal/sync.runtime_doSpin", "internal/sync.throw", "internal/sync.runtime_nanotime", "internal/sync.runtime_SemacquireMutex", "sync/atomic.AddInt32", "(*internal/sync.Mutex).Unlock", "internal/race.ReleaseMerge", "(*internal/sync.Mutex).unlockSlow", "internal/sync.fatal", "internal/sync.runtime_Semrelease", "sync/atomic.StoreUint32"], unfollowed := true, recurses := true, named := ["stolon/digest.rounds", "stolon/stolonref02.rounds"], apart := false, laid := [("stolon/stolonref02.rounds", laid_stolon_stolonref02_rounds), ("stolon/digest.rounds", laid_stolon_digest_rounds)], narrowed := true }
def DigestSumsUptoSaid : Prop := digestSumsUptoRow.holds Tryd.pinned (OpenSpec.upto digestSumsSpec)

/-- 'stolonlaw02.DigestWrites', WHERE WHAT IT READS IS OF BULK AT MOST 1048576: true; the input reads as it did. -/
def digestWritesUptoRow : OpenClaim := { program := "ytelcnkclppkicaadoor", sum := "5bf3351e5d70f50b7be2ac8ef9a57707572f7022676c6442b31a359e955c4b5c", func := "stolon/stolonlaw02.DigestWrites", spec := "digestWrites", inPlace := ["sync/atomic.LoadUint32", "(*internal/sync.Mutex).Lock", "internal/race.Disable", "sync/atomic.CompareAndSwapInt32", "internal/race.Enable", "internal/race.Acquire", "(*internal/sync.Mutex).lockSlow", "internal/sync.runtime_canSpin", "internal/sync.runtime_doSpin", "internal/sync.throw", "internal/sync.runtime_nanotime", "internal/sync.runtime_SemacquireMutex", "sync/atomic.AddInt32", "(*internal/sync.Mutex).Unlock", "internal/race.ReleaseMerge", "(*internal/sync.Mutex).unlockSlow", "internal/sync.fatal", "internal/sync.runtime_Semrelease", "sync/atomic.StoreUint32"], unfollowed := true, recurses := true, named := ["stolon/digest.rounds"], apart := false, laid := [("stolon/digest.rounds", laid_stolon_digest_rounds)], narrowed := true }
def DigestWritesUptoSaid : Prop := digestWritesUptoRow.holds Tryd.pinned (OpenSpec.upto digestWritesSpec)

/-- 'stolonlaw02.DigestHex', WHERE WHAT IT READS IS OF BULK AT MOST 1048576: true; the input reads as it did. -/
def digestHexUptoRow : OpenClaim := { program := "ytelcnkclppkicaadoor", sum := "5bf3351e5d70f50b7be2ac8ef9a57707572f7022676c6442b31a359e955c4b5c", func := "stolon/stolonlaw02.DigestHex", spec := "digestHex", inPlace := ["sync/atomic.LoadUint32", "(*internal/sync.Mutex).Lock", "internal/race.Disable", "sync/atomic.CompareAndSwapInt32", "internal/race.Enable", "internal/race.Acquire", "(*internal/sync.Mutex).lockSlow", "internal/sync.runtime_canSpin", "internal/sync.runtime_doSpin", "internal/sync.throw", "internal/sync.runtime_nanotime", "internal/sync.runtime_SemacquireMutex", "sync/atomic.AddInt32", "(*internal/sync.Mutex).Unlock", "internal/race.ReleaseMerge", "(*internal/sync.Mutex).unlockSlow", "internal/sync.fatal", "internal/sync.runtime_Semrelease", "sync/atomic.StoreUint32"], unfollowed := true, recurses := true, named := ["stolon/digest.rounds"], apart := false, laid := [("stolon/digest.rounds", laid_stolon_digest_rounds)], narrowed := true }
def DigestHexUptoSaid : Prop := digestHexUptoRow.holds Tryd.pinned (OpenSpec.upto digestHexSpec)

/-- 'stolonlaw02.DigestHexOnly', WHERE WHAT IT READS IS OF BULK AT MOST 1048576: true; the input reads as it did. -/
def digestHexOnlyUptoRow : OpenClaim := { program := "ytelcnkclppkicaadoor", sum := "5bf3351e5d70f50b7be2ac8ef9a57707572f7022676c6442b31a359e955c4b5c", func := "stolon/stolonlaw02.DigestHexOnly", spec := "digestHexOnly", inPlace := ["sync/atomic.LoadUint32", "(*internal/sync.Mutex).Lock", "internal/race.Disable", "sync/atomic.CompareAndSwapInt32", "internal/race.Enable", "internal/race.Acquire", "(*internal/sync.Mutex).lockSlow", "internal/sync.runtime_canSpin", "internal/sync.runtime_doSpin", "internal/sync.throw", "internal/sync.runtime_nanotime", "internal/sync.runtime_SemacquireMutex", "sync/atomic.AddInt32", "(*internal/sync.Mutex).Unlock", "internal/race.ReleaseMerge", "(*internal/sync.Mutex).unlockSlow", "internal/sync.fatal", "internal/sync.runtime_Semrelease", "sync/atomic.StoreUint32"], unfollowed := true, recurses := true, named := ["stolon/digest.rounds"], apart := false, laid := [("stolon/digest.rounds", laid_stolon_digest_rounds)], narrowed := true }
def DigestHexOnlyUptoSaid : Prop := digestHexOnlyUptoRow.holds Tryd.pinned (OpenSpec.upto digestHexOnlySpec)

/-- 'stolonlaw02.DigestReads', WHERE WHAT IT READS IS OF BULK AT MOST 1048576: true; the input reads as it did. -/
def digestReadsUptoRow : OpenClaim := { program := "ytelcnkclppkicaadoor", sum := "5bf3351e5d70f50b7be2ac8ef9a57707572f7022676c6442b31a359e955c4b5c", func := "stolon/stolonlaw02.DigestReads", spec := "digestReads", inPlace := ["sync/atomic.LoadUint32", "(*internal/sync.Mutex).Lock", "internal/race.Disable", "sync/atomic.CompareAndSwapInt32", "internal/race.Enable", "internal/race.Acquire", "(*internal/sync.Mutex).lockSlow", "internal/sync.runtime_canSpin", "internal/sync.runtime_doSpin", "internal/sync.throw", "internal/sync.runtime_nanotime", "internal/sync.runtime_SemacquireMutex", "sync/atomic.AddInt32", "(*internal/sync.Mutex).Unlock", "internal/race.ReleaseMerge", "(*internal/sync.Mutex).unlockSlow", "internal/sync.fatal", "internal/sync.runtime_Semrelease", "sync/atomic.StoreUint32"], unfollowed := true, recurses := true, named := ["stolon/digest.rounds"], apart := false, laid := [("stolon/digest.rounds", laid_stolon_digest_rounds)], narrowed := true }
def DigestReadsUptoSaid : Prop := digestReadsUptoRow.holds Tryd.pinned (OpenSpec.upto digestReadsSpec)

/-- 'stolonlaw02.DigestDecodes', WHERE WHAT IT READS IS OF BULK AT MOST 1048576: true; the input reads as it did. -/
def digestDecodesUptoRow : OpenClaim := { program := "ytelcnkclppkicaadoor", sum := "5bf3351e5d70f50b7be2ac8ef9a57707572f7022676c6442b31a359e955c4b5c", func := "stolon/stolonlaw02.DigestDecodes", spec := "digestDecodes", inPlace := ["sync/atomic.LoadUint32", "(*internal/sync.Mutex).Lock", "internal/race.Disable", "sync/atomic.CompareAndSwapInt32", "internal/race.Enable", "internal/race.Acquire", "(*internal/sync.Mutex).lockSlow", "internal/sync.runtime_canSpin", "internal/sync.runtime_doSpin", "internal/sync.throw", "internal/sync.runtime_nanotime", "internal/sync.runtime_SemacquireMutex", "sync/atomic.AddInt32", "(*internal/sync.Mutex).Unlock", "internal/race.ReleaseMerge", "(*internal/sync.Mutex).unlockSlow", "internal/sync.fatal", "internal/sync.runtime_Semrelease", "sync/atomic.StoreUint32"], unfollowed := true, recurses := true, named := ["stolon/digest.rounds"], apart := false, laid := [("stolon/digest.rounds", laid_stolon_digest_rounds)], narrowed := true }
def DigestDecodesUptoSaid : Prop := digestDecodesUptoRow.holds Tryd.pinned (OpenSpec.upto digestDecodesSpec)

/-- 'stolonlaw02.DigestManifestBack', WHERE WHAT IT READS IS OF BULK AT MOST 1048576: true; the input reads as it did. -/
def digestManifestBackUptoRow : OpenClaim := { program := "ytelcnkclppkicaadoor", sum := "5bf3351e5d70f50b7be2ac8ef9a57707572f7022676c6442b31a359e955c4b5c", func := "stolon/stolonlaw02.DigestManifestBack", spec := "digestManifestBack", inPlace := ["sync/atomic.LoadUint32", "(*internal/sync.Mutex).Lock", "internal/race.Disable", "sync/atomic.CompareAndSwapInt32", "internal/race.Enable", "internal/race.Acquire", "(*internal/sync.Mutex).lockSlow", "internal/sync.runtime_canSpin", "internal/sync.runtime_doSpin", "internal/sync.throw", "internal/sync.runtime_nanotime", "internal/sync.runtime_SemacquireMutex", "sync/atomic.AddInt32", "(*internal/sync.Mutex).Unlock", "internal/race.ReleaseMerge", "(*internal/sync.Mutex).unlockSlow", "internal/sync.fatal", "internal/sync.runtime_Semrelease", "sync/atomic.StoreUint32"], unfollowed := true, recurses := true, named := ["stolon/digest.rounds"], apart := false, laid := [("stolon/digest.rounds", laid_stolon_digest_rounds)], narrowed := true }
def DigestManifestBackUptoSaid : Prop := digestManifestBackUptoRow.holds Tryd.pinned (OpenSpec.upto digestManifestBackSpec)

/-- 'stolonlaw02.DigestReadBack', WHERE WHAT IT READS IS OF BULK AT MOST 1048576: true; the input reads as it did. -/
def digestReadBackUptoRow : OpenClaim := { program := "ytelcnkclppkicaadoor", sum := "5bf3351e5d70f50b7be2ac8ef9a57707572f7022676c6442b31a359e955c4b5c", func := "stolon/stolonlaw02.DigestReadBack", spec := "digestReadBack", inPlace := ["sync/atomic.LoadUint32", "(*internal/sync.Mutex).Lock", "internal/race.Disable", "sync/atomic.CompareAndSwapInt32", "internal/race.Enable", "internal/race.Acquire", "(*internal/sync.Mutex).lockSlow", "internal/sync.runtime_canSpin", "internal/sync.runtime_doSpin", "internal/sync.throw", "internal/sync.runtime_nanotime", "internal/sync.runtime_SemacquireMutex", "sync/atomic.AddInt32", "(*internal/sync.Mutex).Unlock", "internal/race.ReleaseMerge", "(*internal/sync.Mutex).unlockSlow", "internal/sync.fatal", "internal/sync.runtime_Semrelease", "sync/atomic.StoreUint32"], unfollowed := true, recurses := true, named := ["stolon/digest.rounds"], apart := false, laid := [("stolon/digest.rounds", laid_stolon_digest_rounds)], narrowed := true }
def DigestReadBackUptoSaid : Prop := digestReadBackUptoRow.holds Tryd.pinned (OpenSpec.upto digestReadBackSpec)

/-- 'stolonlaw02.DigestRegenerates', WHERE WHAT IT READS IS OF BULK AT MOST 1048576: true; the input reads as it did. -/
def digestRegeneratesUptoRow : OpenClaim := { program := "ytelcnkclppkicaadoor", sum := "5bf3351e5d70f50b7be2ac8ef9a57707572f7022676c6442b31a359e955c4b5c", func := "stolon/stolonlaw02.DigestRegenerates", spec := "digestRegenerates", inPlace := ["sync/atomic.LoadUint32", "(*internal/sync.Mutex).Lock", "internal/race.Disable", "sync/atomic.CompareAndSwapInt32", "internal/race.Enable", "internal/race.Acquire", "(*internal/sync.Mutex).lockSlow", "internal/sync.runtime_canSpin", "internal/sync.runtime_doSpin", "internal/sync.throw", "internal/sync.runtime_nanotime", "internal/sync.runtime_SemacquireMutex", "sync/atomic.AddInt32", "(*internal/sync.Mutex).Unlock", "internal/race.ReleaseMerge", "(*internal/sync.Mutex).unlockSlow", "internal/sync.fatal", "internal/sync.runtime_Semrelease", "sync/atomic.StoreUint32"], unfollowed := true, recurses := true, named := ["stolon/digest.rounds", "stolon/stolonref02.rounds"], apart := false, laid := [("stolon/stolonref02.rounds", laid_stolon_stolonref02_rounds), ("stolon/digest.rounds", laid_stolon_digest_rounds)], narrowed := true }
def DigestRegeneratesUptoSaid : Prop := digestRegeneratesUptoRow.holds Tryd.pinned (OpenSpec.upto digestRegeneratesSpec)

/-- 'stolonlaw02.DigestSound', WHERE WHAT IT READS IS OF BULK AT MOST 1048576: true; the input reads as it did. -/
def digestSoundUptoRow : OpenClaim := { program := "ytelcnkclppkicaadoor", sum := "5bf3351e5d70f50b7be2ac8ef9a57707572f7022676c6442b31a359e955c4b5c", func := "stolon/stolonlaw02.DigestSound", spec := "digestSound", inPlace := ["sync/atomic.LoadUint32", "(*internal/sync.Mutex).Lock", "internal/race.Disable", "sync/atomic.CompareAndSwapInt32", "internal/race.Enable", "internal/race.Acquire", "(*internal/sync.Mutex).lockSlow", "internal/sync.runtime_canSpin", "internal/sync.runtime_doSpin", "internal/sync.throw", "internal/sync.runtime_nanotime", "internal/sync.runtime_SemacquireMutex", "sync/atomic.AddInt32", "(*internal/sync.Mutex).Unlock", "internal/race.ReleaseMerge", "(*internal/sync.Mutex).unlockSlow", "internal/sync.fatal", "internal/sync.runtime_Semrelease", "sync/atomic.StoreUint32"], unfollowed := true, recurses := true, named := ["stolon/digest.rounds"], apart := false, laid := [("stolon/digest.rounds", laid_stolon_digest_rounds)], narrowed := true }
def DigestSoundUptoSaid : Prop := digestSoundUptoRow.holds Tryd.pinned (OpenSpec.upto digestSoundSpec)

/-- 'stolonlaw02.DigestRestores', WHERE WHAT IT READS IS OF BULK AT MOST 1048576: true; the input reads as it did. -/
def digestRestoresUptoRow : OpenClaim := { program := "ytelcnkclppkicaadoor", sum := "5bf3351e5d70f50b7be2ac8ef9a57707572f7022676c6442b31a359e955c4b5c", func := "stolon/stolonlaw02.DigestRestores", spec := "digestRestores", inPlace := ["sync/atomic.LoadUint32", "(*internal/sync.Mutex).Lock", "internal/race.Disable", "sync/atomic.CompareAndSwapInt32", "internal/race.Enable", "internal/race.Acquire", "(*internal/sync.Mutex).lockSlow", "internal/sync.runtime_canSpin", "internal/sync.runtime_doSpin", "internal/sync.throw", "internal/sync.runtime_nanotime", "internal/sync.runtime_SemacquireMutex", "sync/atomic.AddInt32", "(*internal/sync.Mutex).Unlock", "internal/race.ReleaseMerge", "(*internal/sync.Mutex).unlockSlow", "internal/sync.fatal", "internal/sync.runtime_Semrelease", "sync/atomic.StoreUint32"], unfollowed := true, recurses := true, named := ["stolon/digest.rounds"], apart := false, laid := [("stolon/digest.rounds", laid_stolon_digest_rounds)], narrowed := true }
def DigestRestoresUptoSaid : Prop := digestRestoresUptoRow.holds Tryd.pinned (OpenSpec.upto digestRestoresSpec)

end Rows
end Go.Proofs.YtelcnkclppkicaaDoor
