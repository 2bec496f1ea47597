/-
  NARROWER THAN 'FOR EVERY INPUT', by the rows' own cells (each row's printed sentence says how): DigestAssembles: laid · PlaceRanks: laid · PlaceOrder: laid · PlaceMinimal: laid · PlaceSettles: laid · PlaceSafe: laid · PlaceDuties: laid · PlaceRestores: laid · PlaceGathers: laid · PlaceSound: laid · PlaceClaims: laid · PlaceLease: laid · PlaceNothing: laid.
  DERIVED. THE GIVEN ROWS OF THIS SEAT. 13 by the template 'for every input the law returns true; each argument reads behind the call as it read before'; 0 by the template 'total and deterministic' (their statements: YtelcnkclppkicaaGreatDoorTotals.lean).
  GIVEN WITH THE SEED: the statements are not yours to turn. If you find one false, say at which input.
  Laid BY PROGRAM, IN A SANDBOX (cutbox-rows.mjs): the forced cells as the released guide's own fill.sh prints them over the translation d92ceca57a08f27f… (all of the seat's roots in one cut). By AI agents, Wed Nov 11 2026. No macro, syntax, notation, axiom, sorry.
-/
import Derived.Test.YtelcnkclppkicaaGreatDoorChecked
import GoSem.Claim
import GoSem.ClaimJoined
import GoSem.ClaimMapViews
import Derived.JoinedTies
import Derived.KernelRfl
namespace Go.Proofs.YtelcnkclppkicaaGreatDoor
/- THE CELL 'sum', in the pinned program and in every row, IS THE sha256 OF THE DUMP (.gsa) THAT YtelcnkclppkicaaGreatDoorProg.lean LOADS. Nothing in Lean hashes anything: it is a label: what it is worth is what the hold of that sum in a sandbox is worth. -/
noncomputable def Tryz.pinned : Pinned := { name := "ytelcnkclppkicaagreatdoor", sum := "d92ceca57a08f27f242cd15d28be470387b607dc25bde98bfa8356ee444c260b", checked := Tryz.checked }
namespace Rows
def none {H : Type} : Left H := { results := [], args := [] }

/- WHAT THE LISTED PACKAGE-LEVEL VARIABLES READ AS WHEN THE CALL BEGINS. Each datum BY PROGRAM (the guide's laid-datum.mjs) off the statement by which the dump's own 'gosem.cut.vars' lays the variable. In a bare row this is a premise. The card (YtelcnkclppkicaaGreatDoorCards.lean) ties it to the program's text. -/
def laid_stolon_stolonref02_rounds {H : Type} : DataW H := .agg [.lit (.int .u32 1116352408), .lit (.int .u32 1899447441), .lit (.int .u32 3049323471), .lit (.int .u32 3921009573), .lit (.int .u32 961987163), .lit (.int .u32 1508970993), .lit (.int .u32 2453635748), .lit (.int .u32 2870763221), .lit (.int .u32 3624381080), .lit (.int .u32 310598401), .lit (.int .u32 607225278), .lit (.int .u32 1426881987), .lit (.int .u32 1925078388), .lit (.int .u32 2162078206), .lit (.int .u32 2614888103), .lit (.int .u32 3248222580), .lit (.int .u32 3835390401), .lit (.int .u32 4022224774), .lit (.int .u32 264347078), .lit (.int .u32 604807628), .lit (.int .u32 770255983), .lit (.int .u32 1249150122), .lit (.int .u32 1555081692), .lit (.int .u32 1996064986), .lit (.int .u32 2554220882), .lit (.int .u32 2821834349), .lit (.int .u32 2952996808), .lit (.int .u32 3210313671), .lit (.int .u32 3336571891), .lit (.int .u32 3584528711), .lit (.int .u32 113926993), .lit (.int .u32 338241895), .lit (.int .u32 666307205), .lit (.int .u32 773529912), .lit (.int .u32 1294757372), .lit (.int .u32 1396182291), .lit (.int .u32 1695183700), .lit (.int .u32 1986661051), .lit (.int .u32 2177026350), .lit (.int .u32 2456956037), .lit (.int .u32 2730485921), .lit (.int .u32 2820302411), .lit (.int .u32 3259730800), .lit (.int .u32 3345764771), .lit (.int .u32 3516065817), .lit (.int .u32 3600352804), .lit (.int .u32 4094571909), .lit (.int .u32 275423344), .lit (.int .u32 430227734), .lit (.int .u32 506948616), .lit (.int .u32 659060556), .lit (.int .u32 883997877), .lit (.int .u32 958139571), .lit (.int .u32 1322822218), .lit (.int .u32 1537002063), .lit (.int .u32 1747873779), .lit (.int .u32 1955562222), .lit (.int .u32 2024104815), .lit (.int .u32 2227730452), .lit (.int .u32 2361852424), .lit (.int .u32 2428436474), .lit (.int .u32 2756734187), .lit (.int .u32 3204031479), .lit (.int .u32 3329325298)]
def laid_stolon_digest_rounds {H : Type} : DataW H := .agg [.lit (.int .u32 1116352408), .lit (.int .u32 1899447441), .lit (.int .u32 3049323471), .lit (.int .u32 3921009573), .lit (.int .u32 961987163), .lit (.int .u32 1508970993), .lit (.int .u32 2453635748), .lit (.int .u32 2870763221), .lit (.int .u32 3624381080), .lit (.int .u32 310598401), .lit (.int .u32 607225278), .lit (.int .u32 1426881987), .lit (.int .u32 1925078388), .lit (.int .u32 2162078206), .lit (.int .u32 2614888103), .lit (.int .u32 3248222580), .lit (.int .u32 3835390401), .lit (.int .u32 4022224774), .lit (.int .u32 264347078), .lit (.int .u32 604807628), .lit (.int .u32 770255983), .lit (.int .u32 1249150122), .lit (.int .u32 1555081692), .lit (.int .u32 1996064986), .lit (.int .u32 2554220882), .lit (.int .u32 2821834349), .lit (.int .u32 2952996808), .lit (.int .u32 3210313671), .lit (.int .u32 3336571891), .lit (.int .u32 3584528711), .lit (.int .u32 113926993), .lit (.int .u32 338241895), .lit (.int .u32 666307205), .lit (.int .u32 773529912), .lit (.int .u32 1294757372), .lit (.int .u32 1396182291), .lit (.int .u32 1695183700), .lit (.int .u32 1986661051), .lit (.int .u32 2177026350), .lit (.int .u32 2456956037), .lit (.int .u32 2730485921), .lit (.int .u32 2820302411), .lit (.int .u32 3259730800), .lit (.int .u32 3345764771), .lit (.int .u32 3516065817), .lit (.int .u32 3600352804), .lit (.int .u32 4094571909), .lit (.int .u32 275423344), .lit (.int .u32 430227734), .lit (.int .u32 506948616), .lit (.int .u32 659060556), .lit (.int .u32 883997877), .lit (.int .u32 958139571), .lit (.int .u32 1322822218), .lit (.int .u32 1537002063), .lit (.int .u32 1747873779), .lit (.int .u32 1955562222), .lit (.int .u32 2024104815), .lit (.int .u32 2227730452), .lit (.int .u32 2361852424), .lit (.int .u32 2428436474), .lit (.int .u32 2756734187), .lit (.int .u32 3204031479), .lit (.int .u32 3329325298)]

/-- 'stolonlaw02.DigestAssembles': WHATEVER THE INPUT: true; the input reads as it did. -/
def digestAssemblesSpec : ChangeSpec := { name := "digestAssembles", fn := fun _ => fun
  | [d] => { results := [.lit (.bool true)], args := [d] }
  | _ => none }
def digestAssemblesRow : OpenClaim := { program := "ytelcnkclppkicaagreatdoor", sum := "d92ceca57a08f27f242cd15d28be470387b607dc25bde98bfa8356ee444c260b", func := "stolon/stolonlaw02.DigestAssembles", spec := "digestAssembles", inPlace := ["sync/atomic.LoadUint32", "(*internal/sync.Mutex).Lock", "internal/race.Disable", "sync/atomic.CompareAndSwapInt32", "internal/race.Enable", "internal/race.Acquire", "(*internal/sync.Mutex).lockSlow", "internal/sync.runtime_canSpin", "internal/sync.runtime_doSpin", "internal/sync.throw", "internal/sync.runtime_nanotime", "internal/sync.runtime_SemacquireMutex", "sync/atomic.AddInt32", "(*internal/sync.Mutex).Unlock", "internal/race.ReleaseMerge", "(*internal/sync.Mutex).unlockSlow", "internal/sync.fatal", "internal/sync.runtime_Semrelease", "sync/atomic.StoreUint32"], unfollowed := true, recurses := true, named := ["stolon/digest.rounds", "stolon/stolonref02.rounds"], plainKeys := false, apart := false, laid := [("stolon/stolonref02.rounds", laid_stolon_stolonref02_rounds), ("stolon/digest.rounds", laid_stolon_digest_rounds)] }
def DigestAssemblesSaid : Prop := digestAssemblesRow.holds Tryz.pinned (OpenSpec.ofChange digestAssemblesSpec)

/-- ITS FALSE NEIGHBOUR: 'it returns false'. Refute it at one input. -/
def digestAssemblesWrong : ChangeSpec := { name := "digestAssembles", fn := fun _ => fun
  | [d] => { results := [.lit (.bool false)], args := [d] }
  | _ => none }
def DigestAssemblesWrongFalsely : Prop := digestAssemblesRow.holds Tryz.pinned (OpenSpec.ofChange digestAssemblesWrong)

/-- 'stolonlaw07.PlaceRanks': WHATEVER THE INPUT: true; the input reads as it did. -/
def placeRanksSpec : ChangeSpec := { name := "placeRanks", fn := fun _ => fun
  | [d1, d2, d3] => { results := [.lit (.bool true)], args := [d1, d2, d3] }
  | _ => none }
def placeRanksRow : OpenClaim := { program := "ytelcnkclppkicaagreatdoor", sum := "d92ceca57a08f27f242cd15d28be470387b607dc25bde98bfa8356ee444c260b", func := "stolon/stolonlaw07.PlaceRanks", spec := "placeRanks", inPlace := ["internal/bytealg.Compare", "sync/atomic.LoadUint32", "(*internal/sync.Mutex).Lock", "internal/race.Disable", "sync/atomic.CompareAndSwapInt32", "internal/race.Enable", "internal/race.Acquire", "(*internal/sync.Mutex).lockSlow", "internal/sync.runtime_canSpin", "internal/sync.runtime_doSpin", "internal/sync.throw", "internal/sync.runtime_nanotime", "internal/sync.runtime_SemacquireMutex", "sync/atomic.AddInt32", "(*internal/sync.Mutex).Unlock", "internal/race.ReleaseMerge", "(*internal/sync.Mutex).unlockSlow", "internal/sync.fatal", "internal/sync.runtime_Semrelease", "sync/atomic.StoreUint32"], unfollowed := true, recurses := true, named := ["stolon/digest.rounds", "stolon/stolonref02.rounds"], plainKeys := false, apart := false, laid := [("stolon/stolonref02.rounds", laid_stolon_stolonref02_rounds), ("stolon/digest.rounds", laid_stolon_digest_rounds)] }
def PlaceRanksSaid : Prop := placeRanksRow.holds Tryz.pinned (OpenSpec.ofChange placeRanksSpec)

/-- ITS FALSE NEIGHBOUR: 'it returns false'. Refute it at one input. -/
def placeRanksWrong : ChangeSpec := { name := "placeRanks", fn := fun _ => fun
  | [d1, d2, d3] => { results := [.lit (.bool false)], args := [d1, d2, d3] }
  | _ => none }
def PlaceRanksWrongFalsely : Prop := placeRanksRow.holds Tryz.pinned (OpenSpec.ofChange placeRanksWrong)

/-- 'stolonlaw07.PlaceOrder': WHATEVER THE INPUT: true; the input reads as it did. -/
def placeOrderSpec : ChangeSpec := { name := "placeOrder", fn := fun _ => fun
  | [d1, d2] => { results := [.lit (.bool true)], args := [d1, d2] }
  | _ => none }
def placeOrderRow : OpenClaim := { program := "ytelcnkclppkicaagreatdoor", sum := "d92ceca57a08f27f242cd15d28be470387b607dc25bde98bfa8356ee444c260b", func := "stolon/stolonlaw07.PlaceOrder", spec := "placeOrder", inPlace := ["internal/bytealg.Compare", "sync/atomic.LoadUint32", "(*internal/sync.Mutex).Lock", "internal/race.Disable", "sync/atomic.CompareAndSwapInt32", "internal/race.Enable", "internal/race.Acquire", "(*internal/sync.Mutex).lockSlow", "internal/sync.runtime_canSpin", "internal/sync.runtime_doSpin", "internal/sync.throw", "internal/sync.runtime_nanotime", "internal/sync.runtime_SemacquireMutex", "sync/atomic.AddInt32", "(*internal/sync.Mutex).Unlock", "internal/race.ReleaseMerge", "(*internal/sync.Mutex).unlockSlow", "internal/sync.fatal", "internal/sync.runtime_Semrelease", "sync/atomic.StoreUint32"], unfollowed := true, recurses := true, named := ["stolon/digest.rounds"], plainKeys := false, apart := false, laid := [("stolon/digest.rounds", laid_stolon_digest_rounds)] }
def PlaceOrderSaid : Prop := placeOrderRow.holds Tryz.pinned (OpenSpec.ofChange placeOrderSpec)

/-- ITS FALSE NEIGHBOUR: 'it returns false'. Refute it at one input. -/
def placeOrderWrong : ChangeSpec := { name := "placeOrder", fn := fun _ => fun
  | [d1, d2] => { results := [.lit (.bool false)], args := [d1, d2] }
  | _ => none }
def PlaceOrderWrongFalsely : Prop := placeOrderRow.holds Tryz.pinned (OpenSpec.ofChange placeOrderWrong)

/-- 'stolonlaw07.PlaceMinimal': WHATEVER THE INPUT: true; the input reads as it did. -/
def placeMinimalSpec : ChangeSpec := { name := "placeMinimal", fn := fun _ => fun
  | [d] => { results := [.lit (.bool true)], args := [d] }
  | _ => none }
def placeMinimalRow : OpenClaim := { program := "ytelcnkclppkicaagreatdoor", sum := "d92ceca57a08f27f242cd15d28be470387b607dc25bde98bfa8356ee444c260b", func := "stolon/stolonlaw07.PlaceMinimal", spec := "placeMinimal", inPlace := ["internal/bytealg.Compare", "sync/atomic.LoadUint32", "(*internal/sync.Mutex).Lock", "internal/race.Disable", "sync/atomic.CompareAndSwapInt32", "internal/race.Enable", "internal/race.Acquire", "(*internal/sync.Mutex).lockSlow", "internal/sync.runtime_canSpin", "internal/sync.runtime_doSpin", "internal/sync.throw", "internal/sync.runtime_nanotime", "internal/sync.runtime_SemacquireMutex", "sync/atomic.AddInt32", "(*internal/sync.Mutex).Unlock", "internal/race.ReleaseMerge", "(*internal/sync.Mutex).unlockSlow", "internal/sync.fatal", "internal/sync.runtime_Semrelease", "sync/atomic.StoreUint32"], unfollowed := true, recurses := true, named := ["stolon/digest.rounds"], plainKeys := false, apart := false, laid := [("stolon/digest.rounds", laid_stolon_digest_rounds)] }
def PlaceMinimalSaid : Prop := placeMinimalRow.holds Tryz.pinned (OpenSpec.ofChange placeMinimalSpec)

/-- ITS FALSE NEIGHBOUR: 'it returns false'. Refute it at one input. -/
def placeMinimalWrong : ChangeSpec := { name := "placeMinimal", fn := fun _ => fun
  | [d] => { results := [.lit (.bool false)], args := [d] }
  | _ => none }
def PlaceMinimalWrongFalsely : Prop := placeMinimalRow.holds Tryz.pinned (OpenSpec.ofChange placeMinimalWrong)

/-- 'stolonlaw07.PlaceSettles': WHATEVER THE INPUT: true; the input reads as it did. -/
def placeSettlesSpec : ChangeSpec := { name := "placeSettles", fn := fun _ => fun
  | [d] => { results := [.lit (.bool true)], args := [d] }
  | _ => none }
def placeSettlesRow : OpenClaim := { program := "ytelcnkclppkicaagreatdoor", sum := "d92ceca57a08f27f242cd15d28be470387b607dc25bde98bfa8356ee444c260b", func := "stolon/stolonlaw07.PlaceSettles", spec := "placeSettles", inPlace := ["internal/bytealg.Compare", "sync/atomic.LoadUint32", "(*internal/sync.Mutex).Lock", "internal/race.Disable", "sync/atomic.CompareAndSwapInt32", "internal/race.Enable", "internal/race.Acquire", "(*internal/sync.Mutex).lockSlow", "internal/sync.runtime_canSpin", "internal/sync.runtime_doSpin", "internal/sync.throw", "internal/sync.runtime_nanotime", "internal/sync.runtime_SemacquireMutex", "sync/atomic.AddInt32", "(*internal/sync.Mutex).Unlock", "internal/race.ReleaseMerge", "(*internal/sync.Mutex).unlockSlow", "internal/sync.fatal", "internal/sync.runtime_Semrelease", "sync/atomic.StoreUint32"], unfollowed := true, recurses := true, named := ["stolon/digest.rounds"], plainKeys := false, apart := false, laid := [("stolon/digest.rounds", laid_stolon_digest_rounds)] }
def PlaceSettlesSaid : Prop := placeSettlesRow.holds Tryz.pinned (OpenSpec.ofChange placeSettlesSpec)

/-- ITS FALSE NEIGHBOUR: 'it returns false'. Refute it at one input. -/
def placeSettlesWrong : ChangeSpec := { name := "placeSettles", fn := fun _ => fun
  | [d] => { results := [.lit (.bool false)], args := [d] }
  | _ => none }
def PlaceSettlesWrongFalsely : Prop := placeSettlesRow.holds Tryz.pinned (OpenSpec.ofChange placeSettlesWrong)

/-- 'stolonlaw07.PlaceSafe': WHATEVER THE INPUT: true; the input reads as it did. -/
def placeSafeSpec : ChangeSpec := { name := "placeSafe", fn := fun _ => fun
  | [d] => { results := [.lit (.bool true)], args := [d] }
  | _ => none }
def placeSafeRow : OpenClaim := { program := "ytelcnkclppkicaagreatdoor", sum := "d92ceca57a08f27f242cd15d28be470387b607dc25bde98bfa8356ee444c260b", func := "stolon/stolonlaw07.PlaceSafe", spec := "placeSafe", inPlace := ["internal/bytealg.Compare", "sync/atomic.LoadUint32", "(*internal/sync.Mutex).Lock", "internal/race.Disable", "sync/atomic.CompareAndSwapInt32", "internal/race.Enable", "internal/race.Acquire", "(*internal/sync.Mutex).lockSlow", "internal/sync.runtime_canSpin", "internal/sync.runtime_doSpin", "internal/sync.throw", "internal/sync.runtime_nanotime", "internal/sync.runtime_SemacquireMutex", "sync/atomic.AddInt32", "(*internal/sync.Mutex).Unlock", "internal/race.ReleaseMerge", "(*internal/sync.Mutex).unlockSlow", "internal/sync.fatal", "internal/sync.runtime_Semrelease", "sync/atomic.StoreUint32"], unfollowed := true, recurses := true, named := ["stolon/digest.rounds"], plainKeys := false, apart := false, laid := [("stolon/digest.rounds", laid_stolon_digest_rounds)] }
def PlaceSafeSaid : Prop := placeSafeRow.holds Tryz.pinned (OpenSpec.ofChange placeSafeSpec)

/-- ITS FALSE NEIGHBOUR: 'it returns false'. Refute it at one input. -/
def placeSafeWrong : ChangeSpec := { name := "placeSafe", fn := fun _ => fun
  | [d] => { results := [.lit (.bool false)], args := [d] }
  | _ => none }
def PlaceSafeWrongFalsely : Prop := placeSafeRow.holds Tryz.pinned (OpenSpec.ofChange placeSafeWrong)

/-- 'stolonlaw07.PlaceDuties': WHATEVER THE INPUT: true; the input reads as it did. -/
def placeDutiesSpec : ChangeSpec := { name := "placeDuties", fn := fun _ => fun
  | [d] => { results := [.lit (.bool true)], args := [d] }
  | _ => none }
def placeDutiesRow : OpenClaim := { program := "ytelcnkclppkicaagreatdoor", sum := "d92ceca57a08f27f242cd15d28be470387b607dc25bde98bfa8356ee444c260b", func := "stolon/stolonlaw07.PlaceDuties", spec := "placeDuties", inPlace := ["internal/bytealg.Compare", "sync/atomic.LoadUint32", "(*internal/sync.Mutex).Lock", "internal/race.Disable", "sync/atomic.CompareAndSwapInt32", "internal/race.Enable", "internal/race.Acquire", "(*internal/sync.Mutex).lockSlow", "internal/sync.runtime_canSpin", "internal/sync.runtime_doSpin", "internal/sync.throw", "internal/sync.runtime_nanotime", "internal/sync.runtime_SemacquireMutex", "sync/atomic.AddInt32", "(*internal/sync.Mutex).Unlock", "internal/race.ReleaseMerge", "(*internal/sync.Mutex).unlockSlow", "internal/sync.fatal", "internal/sync.runtime_Semrelease", "sync/atomic.StoreUint32"], unfollowed := true, recurses := true, named := ["stolon/digest.rounds", "stolon/stolonref02.rounds"], plainKeys := false, apart := false, laid := [("stolon/stolonref02.rounds", laid_stolon_stolonref02_rounds), ("stolon/digest.rounds", laid_stolon_digest_rounds)] }
def PlaceDutiesSaid : Prop := placeDutiesRow.holds Tryz.pinned (OpenSpec.ofChange placeDutiesSpec)

/-- ITS FALSE NEIGHBOUR: 'it returns false'. Refute it at one input. -/
def placeDutiesWrong : ChangeSpec := { name := "placeDuties", fn := fun _ => fun
  | [d] => { results := [.lit (.bool false)], args := [d] }
  | _ => none }
def PlaceDutiesWrongFalsely : Prop := placeDutiesRow.holds Tryz.pinned (OpenSpec.ofChange placeDutiesWrong)

/-- 'stolonlaw07.PlaceRestores': WHATEVER THE INPUT: true; the input reads as it did. -/
def placeRestoresSpec : ChangeSpec := { name := "placeRestores", fn := fun _ => fun
  | [d] => { results := [.lit (.bool true)], args := [d] }
  | _ => none }
def placeRestoresRow : OpenClaim := { program := "ytelcnkclppkicaagreatdoor", sum := "d92ceca57a08f27f242cd15d28be470387b607dc25bde98bfa8356ee444c260b", func := "stolon/stolonlaw07.PlaceRestores", spec := "placeRestores", inPlace := ["internal/bytealg.Compare", "sync/atomic.LoadUint32", "(*internal/sync.Mutex).Lock", "internal/race.Disable", "sync/atomic.CompareAndSwapInt32", "internal/race.Enable", "internal/race.Acquire", "(*internal/sync.Mutex).lockSlow", "internal/sync.runtime_canSpin", "internal/sync.runtime_doSpin", "internal/sync.throw", "internal/sync.runtime_nanotime", "internal/sync.runtime_SemacquireMutex", "sync/atomic.AddInt32", "(*internal/sync.Mutex).Unlock", "internal/race.ReleaseMerge", "(*internal/sync.Mutex).unlockSlow", "internal/sync.fatal", "internal/sync.runtime_Semrelease", "sync/atomic.StoreUint32"], unfollowed := true, recurses := true, named := ["stolon/digest.rounds"], plainKeys := false, apart := false, laid := [("stolon/digest.rounds", laid_stolon_digest_rounds)] }
def PlaceRestoresSaid : Prop := placeRestoresRow.holds Tryz.pinned (OpenSpec.ofChange placeRestoresSpec)

/-- ITS FALSE NEIGHBOUR: 'it returns false'. Refute it at one input. -/
def placeRestoresWrong : ChangeSpec := { name := "placeRestores", fn := fun _ => fun
  | [d] => { results := [.lit (.bool false)], args := [d] }
  | _ => none }
def PlaceRestoresWrongFalsely : Prop := placeRestoresRow.holds Tryz.pinned (OpenSpec.ofChange placeRestoresWrong)

/-- 'stolonlaw07.PlaceGathers': WHATEVER THE INPUT: true; the input reads as it did. -/
def placeGathersSpec : ChangeSpec := { name := "placeGathers", fn := fun _ => fun
  | [d1, d2] => { results := [.lit (.bool true)], args := [d1, d2] }
  | _ => none }
def placeGathersRow : OpenClaim := { program := "ytelcnkclppkicaagreatdoor", sum := "d92ceca57a08f27f242cd15d28be470387b607dc25bde98bfa8356ee444c260b", func := "stolon/stolonlaw07.PlaceGathers", spec := "placeGathers", inPlace := ["internal/bytealg.Compare", "sync/atomic.LoadUint32", "(*internal/sync.Mutex).Lock", "internal/race.Disable", "sync/atomic.CompareAndSwapInt32", "internal/race.Enable", "internal/race.Acquire", "(*internal/sync.Mutex).lockSlow", "internal/sync.runtime_canSpin", "internal/sync.runtime_doSpin", "internal/sync.throw", "internal/sync.runtime_nanotime", "internal/sync.runtime_SemacquireMutex", "sync/atomic.AddInt32", "(*internal/sync.Mutex).Unlock", "internal/race.ReleaseMerge", "(*internal/sync.Mutex).unlockSlow", "internal/sync.fatal", "internal/sync.runtime_Semrelease", "sync/atomic.StoreUint32"], unfollowed := true, recurses := true, named := ["stolon/digest.rounds", "stolon/stolonref02.rounds"], plainKeys := false, apart := false, laid := [("stolon/stolonref02.rounds", laid_stolon_stolonref02_rounds), ("stolon/digest.rounds", laid_stolon_digest_rounds)] }
def PlaceGathersSaid : Prop := placeGathersRow.holds Tryz.pinned (OpenSpec.ofChange placeGathersSpec)

/-- ITS FALSE NEIGHBOUR: 'it returns false'. Refute it at one input. -/
def placeGathersWrong : ChangeSpec := { name := "placeGathers", fn := fun _ => fun
  | [d1, d2] => { results := [.lit (.bool false)], args := [d1, d2] }
  | _ => none }
def PlaceGathersWrongFalsely : Prop := placeGathersRow.holds Tryz.pinned (OpenSpec.ofChange placeGathersWrong)

/-- 'stolonlaw07.PlaceSound': WHATEVER THE INPUT: true; the input reads as it did. -/
def placeSoundSpec : ChangeSpec := { name := "placeSound", fn := fun _ => fun
  | [d1, d2] => { results := [.lit (.bool true)], args := [d1, d2] }
  | _ => none }
def placeSoundRow : OpenClaim := { program := "ytelcnkclppkicaagreatdoor", sum := "d92ceca57a08f27f242cd15d28be470387b607dc25bde98bfa8356ee444c260b", func := "stolon/stolonlaw07.PlaceSound", spec := "placeSound", inPlace := ["internal/bytealg.Compare", "sync/atomic.LoadUint32", "(*internal/sync.Mutex).Lock", "internal/race.Disable", "sync/atomic.CompareAndSwapInt32", "internal/race.Enable", "internal/race.Acquire", "(*internal/sync.Mutex).lockSlow", "internal/sync.runtime_canSpin", "internal/sync.runtime_doSpin", "internal/sync.throw", "internal/sync.runtime_nanotime", "internal/sync.runtime_SemacquireMutex", "sync/atomic.AddInt32", "(*internal/sync.Mutex).Unlock", "internal/race.ReleaseMerge", "(*internal/sync.Mutex).unlockSlow", "internal/sync.fatal", "internal/sync.runtime_Semrelease", "sync/atomic.StoreUint32"], unfollowed := true, recurses := true, named := ["stolon/digest.rounds"], plainKeys := false, apart := false, laid := [("stolon/digest.rounds", laid_stolon_digest_rounds)] }
def PlaceSoundSaid : Prop := placeSoundRow.holds Tryz.pinned (OpenSpec.ofChange placeSoundSpec)

/-- ITS FALSE NEIGHBOUR: 'it returns false'. Refute it at one input. -/
def placeSoundWrong : ChangeSpec := { name := "placeSound", fn := fun _ => fun
  | [d1, d2] => { results := [.lit (.bool false)], args := [d1, d2] }
  | _ => none }
def PlaceSoundWrongFalsely : Prop := placeSoundRow.holds Tryz.pinned (OpenSpec.ofChange placeSoundWrong)

/-- 'stolonlaw07.PlaceClaims': WHATEVER THE INPUT: true; the input reads as it did. -/
def placeClaimsSpec : ChangeSpec := { name := "placeClaims", fn := fun _ => fun
  | [d] => { results := [.lit (.bool true)], args := [d] }
  | _ => none }
def placeClaimsRow : OpenClaim := { program := "ytelcnkclppkicaagreatdoor", sum := "d92ceca57a08f27f242cd15d28be470387b607dc25bde98bfa8356ee444c260b", func := "stolon/stolonlaw07.PlaceClaims", spec := "placeClaims", inPlace := ["internal/bytealg.Compare", "sync/atomic.LoadUint32", "(*internal/sync.Mutex).Lock", "internal/race.Disable", "sync/atomic.CompareAndSwapInt32", "internal/race.Enable", "internal/race.Acquire", "(*internal/sync.Mutex).lockSlow", "internal/sync.runtime_canSpin", "internal/sync.runtime_doSpin", "internal/sync.throw", "internal/sync.runtime_nanotime", "internal/sync.runtime_SemacquireMutex", "sync/atomic.AddInt32", "(*internal/sync.Mutex).Unlock", "internal/race.ReleaseMerge", "(*internal/sync.Mutex).unlockSlow", "internal/sync.fatal", "internal/sync.runtime_Semrelease", "sync/atomic.StoreUint32"], unfollowed := true, recurses := true, named := ["stolon/digest.rounds", "stolon/stolonref02.rounds"], plainKeys := false, apart := false, laid := [("stolon/stolonref02.rounds", laid_stolon_stolonref02_rounds), ("stolon/digest.rounds", laid_stolon_digest_rounds)] }
def PlaceClaimsSaid : Prop := placeClaimsRow.holds Tryz.pinned (OpenSpec.ofChange placeClaimsSpec)

/-- ITS FALSE NEIGHBOUR: 'it returns false'. Refute it at one input. -/
def placeClaimsWrong : ChangeSpec := { name := "placeClaims", fn := fun _ => fun
  | [d] => { results := [.lit (.bool false)], args := [d] }
  | _ => none }
def PlaceClaimsWrongFalsely : Prop := placeClaimsRow.holds Tryz.pinned (OpenSpec.ofChange placeClaimsWrong)

/-- 'stolonlaw07.PlaceLease': WHATEVER THE INPUT: true; the input reads as it did. -/
def placeLeaseSpec : ChangeSpec := { name := "placeLease", fn := fun _ => fun
  | [d] => { results := [.lit (.bool true)], args := [d] }
  | _ => none }
def placeLeaseRow : OpenClaim := { program := "ytelcnkclppkicaagreatdoor", sum := "d92ceca57a08f27f242cd15d28be470387b607dc25bde98bfa8356ee444c260b", func := "stolon/stolonlaw07.PlaceLease", spec := "placeLease", inPlace := ["internal/bytealg.Compare", "sync/atomic.LoadUint32", "(*internal/sync.Mutex).Lock", "internal/race.Disable", "sync/atomic.CompareAndSwapInt32", "internal/race.Enable", "internal/race.Acquire", "(*internal/sync.Mutex).lockSlow", "internal/sync.runtime_canSpin", "internal/sync.runtime_doSpin", "internal/sync.throw", "internal/sync.runtime_nanotime", "internal/sync.runtime_SemacquireMutex", "sync/atomic.AddInt32", "(*internal/sync.Mutex).Unlock", "internal/race.ReleaseMerge", "(*internal/sync.Mutex).unlockSlow", "internal/sync.fatal", "internal/sync.runtime_Semrelease", "sync/atomic.StoreUint32"], unfollowed := true, recurses := true, named := ["stolon/digest.rounds"], plainKeys := false, apart := false, laid := [("stolon/digest.rounds", laid_stolon_digest_rounds)] }
def PlaceLeaseSaid : Prop := placeLeaseRow.holds Tryz.pinned (OpenSpec.ofChange placeLeaseSpec)

/-- ITS FALSE NEIGHBOUR: 'it returns false'. Refute it at one input. -/
def placeLeaseWrong : ChangeSpec := { name := "placeLease", fn := fun _ => fun
  | [d] => { results := [.lit (.bool false)], args := [d] }
  | _ => none }
def PlaceLeaseWrongFalsely : Prop := placeLeaseRow.holds Tryz.pinned (OpenSpec.ofChange placeLeaseWrong)

/-- 'stolonlaw07.PlaceNothing': WHATEVER THE INPUT: true; the input reads as it did. -/
def placeNothingSpec : ChangeSpec := { name := "placeNothing", fn := fun _ => fun
  | [d1, d2] => { results := [.lit (.bool true)], args := [d1, d2] }
  | _ => none }
def placeNothingRow : OpenClaim := { program := "ytelcnkclppkicaagreatdoor", sum := "d92ceca57a08f27f242cd15d28be470387b607dc25bde98bfa8356ee444c260b", func := "stolon/stolonlaw07.PlaceNothing", spec := "placeNothing", inPlace := ["internal/bytealg.Compare", "sync/atomic.LoadUint32", "(*internal/sync.Mutex).Lock", "internal/race.Disable", "sync/atomic.CompareAndSwapInt32", "internal/race.Enable", "internal/race.Acquire", "(*internal/sync.Mutex).lockSlow", "internal/sync.runtime_canSpin", "internal/sync.runtime_doSpin", "internal/sync.throw", "internal/sync.runtime_nanotime", "internal/sync.runtime_SemacquireMutex", "sync/atomic.AddInt32", "(*internal/sync.Mutex).Unlock", "internal/race.ReleaseMerge", "(*internal/sync.Mutex).unlockSlow", "internal/sync.fatal", "internal/sync.runtime_Semrelease", "sync/atomic.StoreUint32"], unfollowed := true, recurses := true, named := ["stolon/digest.rounds"], plainKeys := false, apart := false, laid := [("stolon/digest.rounds", laid_stolon_digest_rounds)] }
def PlaceNothingSaid : Prop := placeNothingRow.holds Tryz.pinned (OpenSpec.ofChange placeNothingSpec)

/-- ITS FALSE NEIGHBOUR: 'it returns false'. Refute it at one input. -/
def placeNothingWrong : ChangeSpec := { name := "placeNothing", fn := fun _ => fun
  | [d1, d2] => { results := [.lit (.bool false)], args := [d1, d2] }
  | _ => none }
def PlaceNothingWrongFalsely : Prop := placeNothingRow.holds Tryz.pinned (OpenSpec.ofChange placeNothingWrong)

/- THE SECOND FORM. 'bulk': how many values and letters a reading holds, each counted each time it is reached (what is shared counts as often as it is met; a slice's spare places count too). A statement '..UptoSaid' is the law's where the arguments, and the package variables that the reading takes, are together of bulk at most 1048576: NARROWER than '..Said'. Prove '..Said' where nothing that the law and all that it calls make is longer than what came in: it says more and counts as full. Else prove '..UptoSaid'. A law counts once. -/
mutual
def uptoBulk {H : Type} : DataW H → Nat
  | .lit (.string bytes) => bytes.length + 1
  | .lit _ => 1
  | .nil => 1
  | .ptr d => uptoBulk d + 1
  | .slice elems spare => uptoBulkAll elems + uptoBulkAll spare + 1
  | .agg parts => uptoBulkAll parts + 1
  | .iface _ d => uptoBulk d + 1
  | .map entries => uptoBulkEntries entries + 1
  | .held _ => 1
def uptoBulkAll {H : Type} : List (DataW H) → Nat
  | [] => 0
  | d :: r => uptoBulk d + uptoBulkAll r
def uptoBulkEntries {H : Type} : List (Lit × DataW H) → Nat
  | [] => 0
  | x :: r => uptoBulkEntry x + uptoBulkEntries r
def uptoBulkEntry {H : Type} : Lit × DataW H → Nat
  | (.string bytes, d) => bytes.length + uptoBulk d + 1
  | (_, d) => uptoBulk d + 1
 end
def uptoSmall : (H : Type) → List (DataW H) → Bool := fun _ ds => decide (uptoBulkAll ds ≤ 1048576)
def OpenSpec.upto (s : _root_.Go.ChangeSpec) : _root_.Go.OpenSpec := { _root_.Go.OpenSpec.ofChange s with cond := some uptoSmall }

/-- 'stolonlaw02.DigestAssembles', WHERE WHAT IT READS IS OF BULK AT MOST 1048576: true; the input reads as it did. -/
def digestAssemblesUptoRow : OpenClaim := { program := "ytelcnkclppkicaagreatdoor", sum := "d92ceca57a08f27f242cd15d28be470387b607dc25bde98bfa8356ee444c260b", func := "stolon/stolonlaw02.DigestAssembles", spec := "digestAssembles", inPlace := ["sync/atomic.LoadUint32", "(*internal/sync.Mutex).Lock", "internal/race.Disable", "sync/atomic.CompareAndSwapInt32", "internal/race.Enable", "internal/race.Acquire", "(*internal/sync.Mutex).lockSlow", "internal/sync.runtime_canSpin", "internal/sync.runtime_doSpin", "internal/sync.throw", "internal/sync.runtime_nanotime", "internal/sync.runtime_SemacquireMutex", "sync/atomic.AddInt32", "(*internal/sync.Mutex).Unlock", "internal/race.ReleaseMerge", "(*internal/sync.Mutex).unlockSlow", "internal/sync.fatal", "internal/sync.runtime_Semrelease", "sync/atomic.StoreUint32"], unfollowed := true, recurses := true, named := ["stolon/digest.rounds", "stolon/stolonref02.rounds"], plainKeys := false, apart := false, laid := [("stolon/stolonref02.rounds", laid_stolon_stolonref02_rounds), ("stolon/digest.rounds", laid_stolon_digest_rounds)], narrowed := true }
def DigestAssemblesUptoSaid : Prop := digestAssemblesUptoRow.holds Tryz.pinned (OpenSpec.upto digestAssemblesSpec)

/-- 'stolonlaw07.PlaceRanks', WHERE WHAT IT READS IS OF BULK AT MOST 1048576: true; the input reads as it did. -/
def placeRanksUptoRow : OpenClaim := { program := "ytelcnkclppkicaagreatdoor", sum := "d92ceca57a08f27f242cd15d28be470387b607dc25bde98bfa8356ee444c260b", func := "stolon/stolonlaw07.PlaceRanks", spec := "placeRanks", inPlace := ["internal/bytealg.Compare", "sync/atomic.LoadUint32", "(*internal/sync.Mutex).Lock", "internal/race.Disable", "sync/atomic.CompareAndSwapInt32", "internal/race.Enable", "internal/race.Acquire", "(*internal/sync.Mutex).lockSlow", "internal/sync.runtime_canSpin", "internal/sync.runtime_doSpin", "internal/sync.throw", "internal/sync.runtime_nanotime", "internal/sync.runtime_SemacquireMutex", "sync/atomic.AddInt32", "(*internal/sync.Mutex).Unlock", "internal/race.ReleaseMerge", "(*internal/sync.Mutex).unlockSlow", "internal/sync.fatal", "internal/sync.runtime_Semrelease", "sync/atomic.StoreUint32"], unfollowed := true, recurses := true, named := ["stolon/digest.rounds", "stolon/stolonref02.rounds"], plainKeys := false, apart := false, laid := [("stolon/stolonref02.rounds", laid_stolon_stolonref02_rounds), ("stolon/digest.rounds", laid_stolon_digest_rounds)], narrowed := true }
def PlaceRanksUptoSaid : Prop := placeRanksUptoRow.holds Tryz.pinned (OpenSpec.upto placeRanksSpec)

/-- 'stolonlaw07.PlaceOrder', WHERE WHAT IT READS IS OF BULK AT MOST 1048576: true; the input reads as it did. -/
def placeOrderUptoRow : OpenClaim := { program := "ytelcnkclppkicaagreatdoor", sum := "d92ceca57a08f27f242cd15d28be470387b607dc25bde98bfa8356ee444c260b", func := "stolon/stolonlaw07.PlaceOrder", spec := "placeOrder", inPlace := ["internal/bytealg.Compare", "sync/atomic.LoadUint32", "(*internal/sync.Mutex).Lock", "internal/race.Disable", "sync/atomic.CompareAndSwapInt32", "internal/race.Enable", "internal/race.Acquire", "(*internal/sync.Mutex).lockSlow", "internal/sync.runtime_canSpin", "internal/sync.runtime_doSpin", "internal/sync.throw", "internal/sync.runtime_nanotime", "internal/sync.runtime_SemacquireMutex", "sync/atomic.AddInt32", "(*internal/sync.Mutex).Unlock", "internal/race.ReleaseMerge", "(*internal/sync.Mutex).unlockSlow", "internal/sync.fatal", "internal/sync.runtime_Semrelease", "sync/atomic.StoreUint32"], unfollowed := true, recurses := true, named := ["stolon/digest.rounds"], plainKeys := false, apart := false, laid := [("stolon/digest.rounds", laid_stolon_digest_rounds)], narrowed := true }
def PlaceOrderUptoSaid : Prop := placeOrderUptoRow.holds Tryz.pinned (OpenSpec.upto placeOrderSpec)

/-- 'stolonlaw07.PlaceMinimal', WHERE WHAT IT READS IS OF BULK AT MOST 1048576: true; the input reads as it did. -/
def placeMinimalUptoRow : OpenClaim := { program := "ytelcnkclppkicaagreatdoor", sum := "d92ceca57a08f27f242cd15d28be470387b607dc25bde98bfa8356ee444c260b", func := "stolon/stolonlaw07.PlaceMinimal", spec := "placeMinimal", inPlace := ["internal/bytealg.Compare", "sync/atomic.LoadUint32", "(*internal/sync.Mutex).Lock", "internal/race.Disable", "sync/atomic.CompareAndSwapInt32", "internal/race.Enable", "internal/race.Acquire", "(*internal/sync.Mutex).lockSlow", "internal/sync.runtime_canSpin", "internal/sync.runtime_doSpin", "internal/sync.throw", "internal/sync.runtime_nanotime", "internal/sync.runtime_SemacquireMutex", "sync/atomic.AddInt32", "(*internal/sync.Mutex).Unlock", "internal/race.ReleaseMerge", "(*internal/sync.Mutex).unlockSlow", "internal/sync.fatal", "internal/sync.runtime_Semrelease", "sync/atomic.StoreUint32"], unfollowed := true, recurses := true, named := ["stolon/digest.rounds"], plainKeys := false, apart := false, laid := [("stolon/digest.rounds", laid_stolon_digest_rounds)], narrowed := true }
def PlaceMinimalUptoSaid : Prop := placeMinimalUptoRow.holds Tryz.pinned (OpenSpec.upto placeMinimalSpec)

/-- 'stolonlaw07.PlaceSettles', WHERE WHAT IT READS IS OF BULK AT MOST 1048576: true; the input reads as it did. -/
def placeSettlesUptoRow : OpenClaim := { program := "ytelcnkclppkicaagreatdoor", sum := "d92ceca57a08f27f242cd15d28be470387b607dc25bde98bfa8356ee444c260b", func := "stolon/stolonlaw07.PlaceSettles", spec := "placeSettles", inPlace := ["internal/bytealg.Compare", "sync/atomic.LoadUint32", "(*internal/sync.Mutex).Lock", "internal/race.Disable", "sync/atomic.CompareAndSwapInt32", "internal/race.Enable", "internal/race.Acquire", "(*internal/sync.Mutex).lockSlow", "internal/sync.runtime_canSpin", "internal/sync.runtime_doSpin", "internal/sync.throw", "internal/sync.runtime_nanotime", "internal/sync.runtime_SemacquireMutex", "sync/atomic.AddInt32", "(*internal/sync.Mutex).Unlock", "internal/race.ReleaseMerge", "(*internal/sync.Mutex).unlockSlow", "internal/sync.fatal", "internal/sync.runtime_Semrelease", "sync/atomic.StoreUint32"], unfollowed := true, recurses := true, named := ["stolon/digest.rounds"], plainKeys := false, apart := false, laid := [("stolon/digest.rounds", laid_stolon_digest_rounds)], narrowed := true }
def PlaceSettlesUptoSaid : Prop := placeSettlesUptoRow.holds Tryz.pinned (OpenSpec.upto placeSettlesSpec)

/-- 'stolonlaw07.PlaceSafe', WHERE WHAT IT READS IS OF BULK AT MOST 1048576: true; the input reads as it did. -/
def placeSafeUptoRow : OpenClaim := { program := "ytelcnkclppkicaagreatdoor", sum := "d92ceca57a08f27f242cd15d28be470387b607dc25bde98bfa8356ee444c260b", func := "stolon/stolonlaw07.PlaceSafe", spec := "placeSafe", inPlace := ["internal/bytealg.Compare", "sync/atomic.LoadUint32", "(*internal/sync.Mutex).Lock", "internal/race.Disable", "sync/atomic.CompareAndSwapInt32", "internal/race.Enable", "internal/race.Acquire", "(*internal/sync.Mutex).lockSlow", "internal/sync.runtime_canSpin", "internal/sync.runtime_doSpin", "internal/sync.throw", "internal/sync.runtime_nanotime", "internal/sync.runtime_SemacquireMutex", "sync/atomic.AddInt32", "(*internal/sync.Mutex).Unlock", "internal/race.ReleaseMerge", "(*internal/sync.Mutex).unlockSlow", "internal/sync.fatal", "internal/sync.runtime_Semrelease", "sync/atomic.StoreUint32"], unfollowed := true, recurses := true, named := ["stolon/digest.rounds"], plainKeys := false, apart := false, laid := [("stolon/digest.rounds", laid_stolon_digest_rounds)], narrowed := true }
def PlaceSafeUptoSaid : Prop := placeSafeUptoRow.holds Tryz.pinned (OpenSpec.upto placeSafeSpec)

/-- 'stolonlaw07.PlaceDuties', WHERE WHAT IT READS IS OF BULK AT MOST 1048576: true; the input reads as it did. -/
def placeDutiesUptoRow : OpenClaim := { program := "ytelcnkclppkicaagreatdoor", sum := "d92ceca57a08f27f242cd15d28be470387b607dc25bde98bfa8356ee444c260b", func := "stolon/stolonlaw07.PlaceDuties", spec := "placeDuties", inPlace := ["internal/bytealg.Compare", "sync/atomic.LoadUint32", "(*internal/sync.Mutex).Lock", "internal/race.Disable", "sync/atomic.CompareAndSwapInt32", "internal/race.Enable", "internal/race.Acquire", "(*internal/sync.Mutex).lockSlow", "internal/sync.runtime_canSpin", "internal/sync.runtime_doSpin", "internal/sync.throw", "internal/sync.runtime_nanotime", "internal/sync.runtime_SemacquireMutex", "sync/atomic.AddInt32", "(*internal/sync.Mutex).Unlock", "internal/race.ReleaseMerge", "(*internal/sync.Mutex).unlockSlow", "internal/sync.fatal", "internal/sync.runtime_Semrelease", "sync/atomic.StoreUint32"], unfollowed := true, recurses := true, named := ["stolon/digest.rounds", "stolon/stolonref02.rounds"], plainKeys := false, apart := false, laid := [("stolon/stolonref02.rounds", laid_stolon_stolonref02_rounds), ("stolon/digest.rounds", laid_stolon_digest_rounds)], narrowed := true }
def PlaceDutiesUptoSaid : Prop := placeDutiesUptoRow.holds Tryz.pinned (OpenSpec.upto placeDutiesSpec)

/-- 'stolonlaw07.PlaceRestores', WHERE WHAT IT READS IS OF BULK AT MOST 1048576: true; the input reads as it did. -/
def placeRestoresUptoRow : OpenClaim := { program := "ytelcnkclppkicaagreatdoor", sum := "d92ceca57a08f27f242cd15d28be470387b607dc25bde98bfa8356ee444c260b", func := "stolon/stolonlaw07.PlaceRestores", spec := "placeRestores", inPlace := ["internal/bytealg.Compare", "sync/atomic.LoadUint32", "(*internal/sync.Mutex).Lock", "internal/race.Disable", "sync/atomic.CompareAndSwapInt32", "internal/race.Enable", "internal/race.Acquire", "(*internal/sync.Mutex).lockSlow", "internal/sync.runtime_canSpin", "internal/sync.runtime_doSpin", "internal/sync.throw", "internal/sync.runtime_nanotime", "internal/sync.runtime_SemacquireMutex", "sync/atomic.AddInt32", "(*internal/sync.Mutex).Unlock", "internal/race.ReleaseMerge", "(*internal/sync.Mutex).unlockSlow", "internal/sync.fatal", "internal/sync.runtime_Semrelease", "sync/atomic.StoreUint32"], unfollowed := true, recurses := true, named := ["stolon/digest.rounds"], plainKeys := false, apart := false, laid := [("stolon/digest.rounds", laid_stolon_digest_rounds)], narrowed := true }
def PlaceRestoresUptoSaid : Prop := placeRestoresUptoRow.holds Tryz.pinned (OpenSpec.upto placeRestoresSpec)

/-- 'stolonlaw07.PlaceGathers', WHERE WHAT IT READS IS OF BULK AT MOST 1048576: true; the input reads as it did. -/
def placeGathersUptoRow : OpenClaim := { program := "ytelcnkclppkicaagreatdoor", sum := "d92ceca57a08f27f242cd15d28be470387b607dc25bde98bfa8356ee444c260b", func := "stolon/stolonlaw07.PlaceGathers", spec := "placeGathers", inPlace := ["internal/bytealg.Compare", "sync/atomic.LoadUint32", "(*internal/sync.Mutex).Lock", "internal/race.Disable", "sync/atomic.CompareAndSwapInt32", "internal/race.Enable", "internal/race.Acquire", "(*internal/sync.Mutex).lockSlow", "internal/sync.runtime_canSpin", "internal/sync.runtime_doSpin", "internal/sync.throw", "internal/sync.runtime_nanotime", "internal/sync.runtime_SemacquireMutex", "sync/atomic.AddInt32", "(*internal/sync.Mutex).Unlock", "internal/race.ReleaseMerge", "(*internal/sync.Mutex).unlockSlow", "internal/sync.fatal", "internal/sync.runtime_Semrelease", "sync/atomic.StoreUint32"], unfollowed := true, recurses := true, named := ["stolon/digest.rounds", "stolon/stolonref02.rounds"], plainKeys := false, apart := false, laid := [("stolon/stolonref02.rounds", laid_stolon_stolonref02_rounds), ("stolon/digest.rounds", laid_stolon_digest_rounds)], narrowed := true }
def PlaceGathersUptoSaid : Prop := placeGathersUptoRow.holds Tryz.pinned (OpenSpec.upto placeGathersSpec)

/-- 'stolonlaw07.PlaceSound', WHERE WHAT IT READS IS OF BULK AT MOST 1048576: true; the input reads as it did. -/
def placeSoundUptoRow : OpenClaim := { program := "ytelcnkclppkicaagreatdoor", sum := "d92ceca57a08f27f242cd15d28be470387b607dc25bde98bfa8356ee444c260b", func := "stolon/stolonlaw07.PlaceSound", spec := "placeSound", inPlace := ["internal/bytealg.Compare", "sync/atomic.LoadUint32", "(*internal/sync.Mutex).Lock", "internal/race.Disable", "sync/atomic.CompareAndSwapInt32", "internal/race.Enable", "internal/race.Acquire", "(*internal/sync.Mutex).lockSlow", "internal/sync.runtime_canSpin", "internal/sync.runtime_doSpin", "internal/sync.throw", "internal/sync.runtime_nanotime", "internal/sync.runtime_SemacquireMutex", "sync/atomic.AddInt32", "(*internal/sync.Mutex).Unlock", "internal/race.ReleaseMerge", "(*internal/sync.Mutex).unlockSlow", "internal/sync.fatal", "internal/sync.runtime_Semrelease", "sync/atomic.StoreUint32"], unfollowed := true, recurses := true, named := ["stolon/digest.rounds"], plainKeys := false, apart := false, laid := [("stolon/digest.rounds", laid_stolon_digest_rounds)], narrowed := true }
def PlaceSoundUptoSaid : Prop := placeSoundUptoRow.holds Tryz.pinned (OpenSpec.upto placeSoundSpec)

/-- 'stolonlaw07.PlaceClaims', WHERE WHAT IT READS IS OF BULK AT MOST 1048576: true; the input reads as it did. -/
def placeClaimsUptoRow : OpenClaim := { program := "ytelcnkclppkicaagreatdoor", sum := "d92ceca57a08f27f242cd15d28be470387b607dc25bde98bfa8356ee444c260b", func := "stolon/stolonlaw07.PlaceClaims", spec := "placeClaims", inPlace := ["internal/bytealg.Compare", "sync/atomic.LoadUint32", "(*internal/sync.Mutex).Lock", "internal/race.Disable", "sync/atomic.CompareAndSwapInt32", "internal/race.Enable", "internal/race.Acquire", "(*internal/sync.Mutex).lockSlow", "internal/sync.runtime_canSpin", "internal/sync.runtime_doSpin", "internal/sync.throw", "internal/sync.runtime_nanotime", "internal/sync.runtime_SemacquireMutex", "sync/atomic.AddInt32", "(*internal/sync.Mutex).Unlock", "internal/race.ReleaseMerge", "(*internal/sync.Mutex).unlockSlow", "internal/sync.fatal", "internal/sync.runtime_Semrelease", "sync/atomic.StoreUint32"], unfollowed := true, recurses := true, named := ["stolon/digest.rounds", "stolon/stolonref02.rounds"], plainKeys := false, apart := false, laid := [("stolon/stolonref02.rounds", laid_stolon_stolonref02_rounds), ("stolon/digest.rounds", laid_stolon_digest_rounds)], narrowed := true }
def PlaceClaimsUptoSaid : Prop := placeClaimsUptoRow.holds Tryz.pinned (OpenSpec.upto placeClaimsSpec)

/-- 'stolonlaw07.PlaceLease', WHERE WHAT IT READS IS OF BULK AT MOST 1048576: true; the input reads as it did. -/
def placeLeaseUptoRow : OpenClaim := { program := "ytelcnkclppkicaagreatdoor", sum := "d92ceca57a08f27f242cd15d28be470387b607dc25bde98bfa8356ee444c260b", func := "stolon/stolonlaw07.PlaceLease", spec := "placeLease", inPlace := ["internal/bytealg.Compare", "sync/atomic.LoadUint32", "(*internal/sync.Mutex).Lock", "internal/race.Disable", "sync/atomic.CompareAndSwapInt32", "internal/race.Enable", "internal/race.Acquire", "(*internal/sync.Mutex).lockSlow", "internal/sync.runtime_canSpin", "internal/sync.runtime_doSpin", "internal/sync.throw", "internal/sync.runtime_nanotime", "internal/sync.runtime_SemacquireMutex", "sync/atomic.AddInt32", "(*internal/sync.Mutex).Unlock", "internal/race.ReleaseMerge", "(*internal/sync.Mutex).unlockSlow", "internal/sync.fatal", "internal/sync.runtime_Semrelease", "sync/atomic.StoreUint32"], unfollowed := true, recurses := true, named := ["stolon/digest.rounds"], plainKeys := false, apart := false, laid := [("stolon/digest.rounds", laid_stolon_digest_rounds)], narrowed := true }
def PlaceLeaseUptoSaid : Prop := placeLeaseUptoRow.holds Tryz.pinned (OpenSpec.upto placeLeaseSpec)

/-- 'stolonlaw07.PlaceNothing', WHERE WHAT IT READS IS OF BULK AT MOST 1048576: true; the input reads as it did. -/
def placeNothingUptoRow : OpenClaim := { program := "ytelcnkclppkicaagreatdoor", sum := "d92ceca57a08f27f242cd15d28be470387b607dc25bde98bfa8356ee444c260b", func := "stolon/stolonlaw07.PlaceNothing", spec := "placeNothing", inPlace := ["internal/bytealg.Compare", "sync/atomic.LoadUint32", "(*internal/sync.Mutex).Lock", "internal/race.Disable", "sync/atomic.CompareAndSwapInt32", "internal/race.Enable", "internal/race.Acquire", "(*internal/sync.Mutex).lockSlow", "internal/sync.runtime_canSpin", "internal/sync.runtime_doSpin", "internal/sync.throw", "internal/sync.runtime_nanotime", "internal/sync.runtime_SemacquireMutex", "sync/atomic.AddInt32", "(*internal/sync.Mutex).Unlock", "internal/race.ReleaseMerge", "(*internal/sync.Mutex).unlockSlow", "internal/sync.fatal", "internal/sync.runtime_Semrelease", "sync/atomic.StoreUint32"], unfollowed := true, recurses := true, named := ["stolon/digest.rounds"], plainKeys := false, apart := false, laid := [("stolon/digest.rounds", laid_stolon_digest_rounds)], narrowed := true }
def PlaceNothingUptoSaid : Prop := placeNothingUptoRow.holds Tryz.pinned (OpenSpec.upto placeNothingSpec)

end Rows
end Go.Proofs.YtelcnkclppkicaaGreatDoor
