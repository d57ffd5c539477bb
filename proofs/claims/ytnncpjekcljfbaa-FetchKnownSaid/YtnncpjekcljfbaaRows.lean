/-
  No cell of these rows narrows 'for every input' (looked for: loops, veiled, ifaces, maps, wideKeys, modest, calm, conditions, laid).
  DERIVED. THE GIVEN ROWS OF THIS SEAT. 16 by the template 'for every input the law returns true; each argument reads behind the call as it read before'; 0 by the template 'total and deterministic' (their statements: YtnncpjekcljfbaaTotals.lean).
  GIVEN WITH THE SEED: the statements are not yours to turn. If you find one false, say at which input.
  Laid BY PROGRAM, IN A SANDBOX (cutbox-rows.mjs): the forced cells as the released guide's own fill.sh prints them over the translation 0812bc1abf2579e1… (all of the seat's roots in one cut). By AI agents, Wed Nov 11 2026. No macro, syntax, notation, axiom, sorry.
-/
import Derived.Test.YtnncpjekcljfbaaChecked
import GoSem.Claim
import GoSem.ClaimJoined
import GoSem.ClaimMapViews
import Derived.JoinedTies
import Derived.KernelRfl
namespace Go.Proofs.Ytnncpjekcljfbaa
/- THE CELL 'sum', in the pinned program and in every row, IS THE sha256 OF THE DUMP (.gsa) THAT YtnncpjekcljfbaaProg.lean LOADS. Nothing in Lean hashes anything: it is a label: what it is worth is what the hold of that sum in a sandbox is worth. -/
noncomputable def Try.pinned : Pinned := { name := "ytnncpjekcljfbaa", sum := "0812bc1abf2579e1eac2ac81be9c28efcf7cfd8ed09d71f308a137b384d98b2c", checked := Try.checked }
namespace Rows
def none {H : Type} : Left H := { results := [], args := [] }

/-- 'bastidelaw09.TreeSets': WHATEVER THE INPUT: true; the input reads as it did. -/
def treeSetsSpec : ChangeSpec := { name := "treeSets", fn := fun _ => fun
  | [d1, d2] => { results := [.lit (.bool true)], args := [d1, d2] }
  | _ => none }
def treeSetsRow : OpenClaim := { program := "ytnncpjekcljfbaa", sum := "0812bc1abf2579e1eac2ac81be9c28efcf7cfd8ed09d71f308a137b384d98b2c", func := "bastide/bastidelaw09.TreeSets", spec := "treeSets", inPlace := ["sync/atomic.AddInt64", "math/bits.Add64", "sync/atomic.LoadUint32", "(*internal/sync.Mutex).Lock", "internal/race.Disable", "sync/atomic.CompareAndSwapInt32", "internal/race.Enable", "internal/race.Acquire", "(*internal/sync.Mutex).lockSlow", "internal/sync.runtime_canSpin", "internal/sync.runtime_doSpin", "internal/sync.throw", "internal/sync.runtime_nanotime", "internal/sync.runtime_SemacquireMutex", "sync/atomic.AddInt32", "(*internal/sync.Mutex).Unlock", "internal/race.ReleaseMerge", "(*internal/sync.Mutex).unlockSlow", "internal/sync.fatal", "internal/sync.runtime_Semrelease", "sync/atomic.StoreUint32"], unfollowed := true, recurses := true, plainKeys := false, apart := false }
def TreeSetsSaid : Prop := treeSetsRow.holds Try.pinned (OpenSpec.ofChange treeSetsSpec)

/-- ITS FALSE NEIGHBOUR: 'it returns false'. Refute it at one input. -/
def treeSetsWrong : ChangeSpec := { name := "treeSets", fn := fun _ => fun
  | [d1, d2] => { results := [.lit (.bool false)], args := [d1, d2] }
  | _ => none }
def TreeSetsWrongFalsely : Prop := treeSetsRow.holds Try.pinned (OpenSpec.ofChange treeSetsWrong)

/-- 'bastidelaw09.TreeOf': WHATEVER THE INPUT: true; the input reads as it did. -/
def treeOfSpec : ChangeSpec := { name := "treeOf", fn := fun _ => fun
  | [d1, d2] => { results := [.lit (.bool true)], args := [d1, d2] }
  | _ => none }
def treeOfRow : OpenClaim := { program := "ytnncpjekcljfbaa", sum := "0812bc1abf2579e1eac2ac81be9c28efcf7cfd8ed09d71f308a137b384d98b2c", func := "bastide/bastidelaw09.TreeOf", spec := "treeOf", inPlace := ["sync/atomic.AddInt64", "math/bits.Add64", "sync/atomic.LoadUint32", "(*internal/sync.Mutex).Lock", "internal/race.Disable", "sync/atomic.CompareAndSwapInt32", "internal/race.Enable", "internal/race.Acquire", "(*internal/sync.Mutex).lockSlow", "internal/sync.runtime_canSpin", "internal/sync.runtime_doSpin", "internal/sync.throw", "internal/sync.runtime_nanotime", "internal/sync.runtime_SemacquireMutex", "sync/atomic.AddInt32", "(*internal/sync.Mutex).Unlock", "internal/race.ReleaseMerge", "(*internal/sync.Mutex).unlockSlow", "internal/sync.fatal", "internal/sync.runtime_Semrelease", "sync/atomic.StoreUint32"], unfollowed := true, recurses := true, plainKeys := false, apart := false }
def TreeOfSaid : Prop := treeOfRow.holds Try.pinned (OpenSpec.ofChange treeOfSpec)

/-- ITS FALSE NEIGHBOUR: 'it returns false'. Refute it at one input. -/
def treeOfWrong : ChangeSpec := { name := "treeOf", fn := fun _ => fun
  | [d1, d2] => { results := [.lit (.bool false)], args := [d1, d2] }
  | _ => none }
def TreeOfWrongFalsely : Prop := treeOfRow.holds Try.pinned (OpenSpec.ofChange treeOfWrong)

/-- 'bastidelaw10.ProofBuilds': WHATEVER THE INPUT: true; the input reads as it did. -/
def proofBuildsSpec : ChangeSpec := { name := "proofBuilds", fn := fun _ => fun
  | [d1, d2, d3] => { results := [.lit (.bool true)], args := [d1, d2, d3] }
  | _ => none }
def proofBuildsRow : OpenClaim := { program := "ytnncpjekcljfbaa", sum := "0812bc1abf2579e1eac2ac81be9c28efcf7cfd8ed09d71f308a137b384d98b2c", func := "bastide/bastidelaw10.ProofBuilds", spec := "proofBuilds", inPlace := ["sync/atomic.AddInt64", "math/bits.Add64", "sync/atomic.LoadUint32", "(*internal/sync.Mutex).Lock", "internal/race.Disable", "sync/atomic.CompareAndSwapInt32", "internal/race.Enable", "internal/race.Acquire", "(*internal/sync.Mutex).lockSlow", "internal/sync.runtime_canSpin", "internal/sync.runtime_doSpin", "internal/sync.throw", "internal/sync.runtime_nanotime", "internal/sync.runtime_SemacquireMutex", "sync/atomic.AddInt32", "(*internal/sync.Mutex).Unlock", "internal/race.ReleaseMerge", "(*internal/sync.Mutex).unlockSlow", "internal/sync.fatal", "internal/sync.runtime_Semrelease", "sync/atomic.StoreUint32"], unfollowed := true, recurses := true, plainKeys := false, apart := false }
def ProofBuildsSaid : Prop := proofBuildsRow.holds Try.pinned (OpenSpec.ofChange proofBuildsSpec)

/-- ITS FALSE NEIGHBOUR: 'it returns false'. Refute it at one input. -/
def proofBuildsWrong : ChangeSpec := { name := "proofBuilds", fn := fun _ => fun
  | [d1, d2, d3] => { results := [.lit (.bool false)], args := [d1, d2, d3] }
  | _ => none }
def ProofBuildsWrongFalsely : Prop := proofBuildsRow.holds Try.pinned (OpenSpec.ofChange proofBuildsWrong)

/-- 'bastidelaw10.ProofChecks': WHATEVER THE INPUT: true; the input reads as it did. -/
def proofChecksSpec : ChangeSpec := { name := "proofChecks", fn := fun _ => fun
  | [d] => { results := [.lit (.bool true)], args := [d] }
  | _ => none }
def proofChecksRow : OpenClaim := { program := "ytnncpjekcljfbaa", sum := "0812bc1abf2579e1eac2ac81be9c28efcf7cfd8ed09d71f308a137b384d98b2c", func := "bastide/bastidelaw10.ProofChecks", spec := "proofChecks", inPlace := ["sync/atomic.AddInt64", "math/bits.Add64", "sync/atomic.LoadUint32", "(*internal/sync.Mutex).Lock", "internal/race.Disable", "sync/atomic.CompareAndSwapInt32", "internal/race.Enable", "internal/race.Acquire", "(*internal/sync.Mutex).lockSlow", "internal/sync.runtime_canSpin", "internal/sync.runtime_doSpin", "internal/sync.throw", "internal/sync.runtime_nanotime", "internal/sync.runtime_SemacquireMutex", "sync/atomic.AddInt32", "(*internal/sync.Mutex).Unlock", "internal/race.ReleaseMerge", "(*internal/sync.Mutex).unlockSlow", "internal/sync.fatal", "internal/sync.runtime_Semrelease", "sync/atomic.StoreUint32"], unfollowed := true, recurses := true, plainKeys := false, apart := false }
def ProofChecksSaid : Prop := proofChecksRow.holds Try.pinned (OpenSpec.ofChange proofChecksSpec)

/-- ITS FALSE NEIGHBOUR: 'it returns false'. Refute it at one input. -/
def proofChecksWrong : ChangeSpec := { name := "proofChecks", fn := fun _ => fun
  | [d] => { results := [.lit (.bool false)], args := [d] }
  | _ => none }
def ProofChecksWrongFalsely : Prop := proofChecksRow.holds Try.pinned (OpenSpec.ofChange proofChecksWrong)

/-- 'bastidelaw10.ProofBack': WHATEVER THE INPUT: true; the input reads as it did. -/
def proofBackSpec : ChangeSpec := { name := "proofBack", fn := fun _ => fun
  | [d1, d2] => { results := [.lit (.bool true)], args := [d1, d2] }
  | _ => none }
def proofBackRow : OpenClaim := { program := "ytnncpjekcljfbaa", sum := "0812bc1abf2579e1eac2ac81be9c28efcf7cfd8ed09d71f308a137b384d98b2c", func := "bastide/bastidelaw10.ProofBack", spec := "proofBack", inPlace := ["sync/atomic.AddInt64", "math/bits.Add64", "sync/atomic.LoadUint32", "(*internal/sync.Mutex).Lock", "internal/race.Disable", "sync/atomic.CompareAndSwapInt32", "internal/race.Enable", "internal/race.Acquire", "(*internal/sync.Mutex).lockSlow", "internal/sync.runtime_canSpin", "internal/sync.runtime_doSpin", "internal/sync.throw", "internal/sync.runtime_nanotime", "internal/sync.runtime_SemacquireMutex", "sync/atomic.AddInt32", "(*internal/sync.Mutex).Unlock", "internal/race.ReleaseMerge", "(*internal/sync.Mutex).unlockSlow", "internal/sync.fatal", "internal/sync.runtime_Semrelease", "sync/atomic.StoreUint32"], unfollowed := true, recurses := true, plainKeys := false, apart := false }
def ProofBackSaid : Prop := proofBackRow.holds Try.pinned (OpenSpec.ofChange proofBackSpec)

/-- ITS FALSE NEIGHBOUR: 'it returns false'. Refute it at one input. -/
def proofBackWrong : ChangeSpec := { name := "proofBack", fn := fun _ => fun
  | [d1, d2] => { results := [.lit (.bool false)], args := [d1, d2] }
  | _ => none }
def ProofBackWrongFalsely : Prop := proofBackRow.holds Try.pinned (OpenSpec.ofChange proofBackWrong)

/-- 'bastidelaw10.ProofShape': WHATEVER THE INPUT: true; the input reads as it did. -/
def proofShapeSpec : ChangeSpec := { name := "proofShape", fn := fun _ => fun
  | [d1, d2, d3] => { results := [.lit (.bool true)], args := [d1, d2, d3] }
  | _ => none }
def proofShapeRow : OpenClaim := { program := "ytnncpjekcljfbaa", sum := "0812bc1abf2579e1eac2ac81be9c28efcf7cfd8ed09d71f308a137b384d98b2c", func := "bastide/bastidelaw10.ProofShape", spec := "proofShape", inPlace := ["sync/atomic.AddInt64", "math/bits.Add64", "sync/atomic.LoadUint32", "(*internal/sync.Mutex).Lock", "internal/race.Disable", "sync/atomic.CompareAndSwapInt32", "internal/race.Enable", "internal/race.Acquire", "(*internal/sync.Mutex).lockSlow", "internal/sync.runtime_canSpin", "internal/sync.runtime_doSpin", "internal/sync.throw", "internal/sync.runtime_nanotime", "internal/sync.runtime_SemacquireMutex", "sync/atomic.AddInt32", "(*internal/sync.Mutex).Unlock", "internal/race.ReleaseMerge", "(*internal/sync.Mutex).unlockSlow", "internal/sync.fatal", "internal/sync.runtime_Semrelease", "sync/atomic.StoreUint32"], unfollowed := true, recurses := true, plainKeys := false, apart := false }
def ProofShapeSaid : Prop := proofShapeRow.holds Try.pinned (OpenSpec.ofChange proofShapeSpec)

/-- ITS FALSE NEIGHBOUR: 'it returns false'. Refute it at one input. -/
def proofShapeWrong : ChangeSpec := { name := "proofShape", fn := fun _ => fun
  | [d1, d2, d3] => { results := [.lit (.bool false)], args := [d1, d2, d3] }
  | _ => none }
def ProofShapeWrongFalsely : Prop := proofShapeRow.holds Try.pinned (OpenSpec.ofChange proofShapeWrong)

/-- 'bastidelaw10.ProofJust': WHATEVER THE INPUT: true; the input reads as it did. -/
def proofJustSpec : ChangeSpec := { name := "proofJust", fn := fun _ => fun
  | [d1, d2] => { results := [.lit (.bool true)], args := [d1, d2] }
  | _ => none }
def proofJustRow : OpenClaim := { program := "ytnncpjekcljfbaa", sum := "0812bc1abf2579e1eac2ac81be9c28efcf7cfd8ed09d71f308a137b384d98b2c", func := "bastide/bastidelaw10.ProofJust", spec := "proofJust", inPlace := ["sync/atomic.AddInt64", "math/bits.Add64", "sync/atomic.LoadUint32", "(*internal/sync.Mutex).Lock", "internal/race.Disable", "sync/atomic.CompareAndSwapInt32", "internal/race.Enable", "internal/race.Acquire", "(*internal/sync.Mutex).lockSlow", "internal/sync.runtime_canSpin", "internal/sync.runtime_doSpin", "internal/sync.throw", "internal/sync.runtime_nanotime", "internal/sync.runtime_SemacquireMutex", "sync/atomic.AddInt32", "(*internal/sync.Mutex).Unlock", "internal/race.ReleaseMerge", "(*internal/sync.Mutex).unlockSlow", "internal/sync.fatal", "internal/sync.runtime_Semrelease", "sync/atomic.StoreUint32"], unfollowed := true, recurses := true, plainKeys := false, apart := false }
def ProofJustSaid : Prop := proofJustRow.holds Try.pinned (OpenSpec.ofChange proofJustSpec)

/-- ITS FALSE NEIGHBOUR: 'it returns false'. Refute it at one input. -/
def proofJustWrong : ChangeSpec := { name := "proofJust", fn := fun _ => fun
  | [d1, d2] => { results := [.lit (.bool false)], args := [d1, d2] }
  | _ => none }
def ProofJustWrongFalsely : Prop := proofJustRow.holds Try.pinned (OpenSpec.ofChange proofJustWrong)

/-- 'bastidelaw10.ProofFits': WHATEVER THE INPUT: true; the input reads as it did. -/
def proofFitsSpec : ChangeSpec := { name := "proofFits", fn := fun _ => fun
  | [d1, d2, d3] => { results := [.lit (.bool true)], args := [d1, d2, d3] }
  | _ => none }
def proofFitsRow : OpenClaim := { program := "ytnncpjekcljfbaa", sum := "0812bc1abf2579e1eac2ac81be9c28efcf7cfd8ed09d71f308a137b384d98b2c", func := "bastide/bastidelaw10.ProofFits", spec := "proofFits", inPlace := ["sync/atomic.AddInt64", "math/bits.Add64", "sync/atomic.LoadUint32", "(*internal/sync.Mutex).Lock", "internal/race.Disable", "sync/atomic.CompareAndSwapInt32", "internal/race.Enable", "internal/race.Acquire", "(*internal/sync.Mutex).lockSlow", "internal/sync.runtime_canSpin", "internal/sync.runtime_doSpin", "internal/sync.throw", "internal/sync.runtime_nanotime", "internal/sync.runtime_SemacquireMutex", "sync/atomic.AddInt32", "(*internal/sync.Mutex).Unlock", "internal/race.ReleaseMerge", "(*internal/sync.Mutex).unlockSlow", "internal/sync.fatal", "internal/sync.runtime_Semrelease", "sync/atomic.StoreUint32"], unfollowed := true, recurses := true, plainKeys := false, apart := false }
def ProofFitsSaid : Prop := proofFitsRow.holds Try.pinned (OpenSpec.ofChange proofFitsSpec)

/-- ITS FALSE NEIGHBOUR: 'it returns false'. Refute it at one input. -/
def proofFitsWrong : ChangeSpec := { name := "proofFits", fn := fun _ => fun
  | [d1, d2, d3] => { results := [.lit (.bool false)], args := [d1, d2, d3] }
  | _ => none }
def ProofFitsWrongFalsely : Prop := proofFitsRow.holds Try.pinned (OpenSpec.ofChange proofFitsWrong)

/-- 'bastidelaw10.ProofParts': WHATEVER THE INPUT: true; the input reads as it did. -/
def proofPartsSpec : ChangeSpec := { name := "proofParts", fn := fun _ => fun
  | [d] => { results := [.lit (.bool true)], args := [d] }
  | _ => none }
def proofPartsRow : OpenClaim := { program := "ytnncpjekcljfbaa", sum := "0812bc1abf2579e1eac2ac81be9c28efcf7cfd8ed09d71f308a137b384d98b2c", func := "bastide/bastidelaw10.ProofParts", spec := "proofParts", inPlace := ["sync/atomic.AddInt64", "math/bits.Add64", "sync/atomic.LoadUint32", "(*internal/sync.Mutex).Lock", "internal/race.Disable", "sync/atomic.CompareAndSwapInt32", "internal/race.Enable", "internal/race.Acquire", "(*internal/sync.Mutex).lockSlow", "internal/sync.runtime_canSpin", "internal/sync.runtime_doSpin", "internal/sync.throw", "internal/sync.runtime_nanotime", "internal/sync.runtime_SemacquireMutex", "sync/atomic.AddInt32", "(*internal/sync.Mutex).Unlock", "internal/race.ReleaseMerge", "(*internal/sync.Mutex).unlockSlow", "internal/sync.fatal", "internal/sync.runtime_Semrelease", "sync/atomic.StoreUint32"], unfollowed := true, recurses := true, plainKeys := false, apart := false }
def ProofPartsSaid : Prop := proofPartsRow.holds Try.pinned (OpenSpec.ofChange proofPartsSpec)

/-- ITS FALSE NEIGHBOUR: 'it returns false'. Refute it at one input. -/
def proofPartsWrong : ChangeSpec := { name := "proofParts", fn := fun _ => fun
  | [d] => { results := [.lit (.bool false)], args := [d] }
  | _ => none }
def ProofPartsWrongFalsely : Prop := proofPartsRow.holds Try.pinned (OpenSpec.ofChange proofPartsWrong)

/-- 'bastidelaw10.ProofKnown': WHATEVER THE INPUT: true; the input reads as it did. -/
def proofKnownSpec : ChangeSpec := { name := "proofKnown", fn := fun _ => fun
  | [] => { results := [.lit (.bool true)], args := [] }
  | _ => none }
def proofKnownRow : OpenClaim := { program := "ytnncpjekcljfbaa", sum := "0812bc1abf2579e1eac2ac81be9c28efcf7cfd8ed09d71f308a137b384d98b2c", func := "bastide/bastidelaw10.ProofKnown", spec := "proofKnown", inPlace := ["sync/atomic.AddInt64", "math/bits.Add64", "sync/atomic.LoadUint32", "(*internal/sync.Mutex).Lock", "internal/race.Disable", "sync/atomic.CompareAndSwapInt32", "internal/race.Enable", "internal/race.Acquire", "(*internal/sync.Mutex).lockSlow", "internal/sync.runtime_canSpin", "internal/sync.runtime_doSpin", "internal/sync.throw", "internal/sync.runtime_nanotime", "internal/sync.runtime_SemacquireMutex", "sync/atomic.AddInt32", "(*internal/sync.Mutex).Unlock", "internal/race.ReleaseMerge", "(*internal/sync.Mutex).unlockSlow", "internal/sync.fatal", "internal/sync.runtime_Semrelease", "sync/atomic.StoreUint32"], unfollowed := true, recurses := true, plainKeys := false, apart := false }
def ProofKnownSaid : Prop := proofKnownRow.holds Try.pinned (OpenSpec.ofChange proofKnownSpec)

/-- ITS FALSE NEIGHBOUR: 'it returns false'. Refute it at one input. -/
def proofKnownWrong : ChangeSpec := { name := "proofKnown", fn := fun _ => fun
  | [] => { results := [.lit (.bool false)], args := [] }
  | _ => none }
def ProofKnownWrongFalsely : Prop := proofKnownRow.holds Try.pinned (OpenSpec.ofChange proofKnownWrong)

/-- 'bastidelaw10.ProofOnly': WHATEVER THE INPUT: true; the input reads as it did. -/
def proofOnlySpec : ChangeSpec := { name := "proofOnly", fn := fun _ => fun
  | [d1, d2, d3] => { results := [.lit (.bool true)], args := [d1, d2, d3] }
  | _ => none }
def proofOnlyRow : OpenClaim := { program := "ytnncpjekcljfbaa", sum := "0812bc1abf2579e1eac2ac81be9c28efcf7cfd8ed09d71f308a137b384d98b2c", func := "bastide/bastidelaw10.ProofOnly", spec := "proofOnly", inPlace := ["sync/atomic.AddInt64", "math/bits.Add64", "sync/atomic.LoadUint32", "(*internal/sync.Mutex).Lock", "internal/race.Disable", "sync/atomic.CompareAndSwapInt32", "internal/race.Enable", "internal/race.Acquire", "(*internal/sync.Mutex).lockSlow", "internal/sync.runtime_canSpin", "internal/sync.runtime_doSpin", "internal/sync.throw", "internal/sync.runtime_nanotime", "internal/sync.runtime_SemacquireMutex", "sync/atomic.AddInt32", "(*internal/sync.Mutex).Unlock", "internal/race.ReleaseMerge", "(*internal/sync.Mutex).unlockSlow", "internal/sync.fatal", "internal/sync.runtime_Semrelease", "sync/atomic.StoreUint32"], unfollowed := true, recurses := true, plainKeys := false, apart := false }
def ProofOnlySaid : Prop := proofOnlyRow.holds Try.pinned (OpenSpec.ofChange proofOnlySpec)

/-- ITS FALSE NEIGHBOUR: 'it returns false'. Refute it at one input. -/
def proofOnlyWrong : ChangeSpec := { name := "proofOnly", fn := fun _ => fun
  | [d1, d2, d3] => { results := [.lit (.bool false)], args := [d1, d2, d3] }
  | _ => none }
def ProofOnlyWrongFalsely : Prop := proofOnlyRow.holds Try.pinned (OpenSpec.ofChange proofOnlyWrong)

/-- 'bastidelaw21.FetchOthers': WHATEVER THE INPUT: true; the input reads as it did. -/
def fetchOthersSpec : ChangeSpec := { name := "fetchOthers", fn := fun _ => fun
  | [d1, d2, d3] => { results := [.lit (.bool true)], args := [d1, d2, d3] }
  | _ => none }
def fetchOthersRow : OpenClaim := { program := "ytnncpjekcljfbaa", sum := "0812bc1abf2579e1eac2ac81be9c28efcf7cfd8ed09d71f308a137b384d98b2c", func := "bastide/bastidelaw21.FetchOthers", spec := "fetchOthers", inPlace := ["sync/atomic.AddInt64", "math/bits.Add64", "sync/atomic.LoadUint32", "(*internal/sync.Mutex).Lock", "internal/race.Disable", "sync/atomic.CompareAndSwapInt32", "internal/race.Enable", "internal/race.Acquire", "(*internal/sync.Mutex).lockSlow", "internal/sync.runtime_canSpin", "internal/sync.runtime_doSpin", "internal/sync.throw", "internal/sync.runtime_nanotime", "internal/sync.runtime_SemacquireMutex", "sync/atomic.AddInt32", "(*internal/sync.Mutex).Unlock", "internal/race.ReleaseMerge", "(*internal/sync.Mutex).unlockSlow", "internal/sync.fatal", "internal/sync.runtime_Semrelease", "sync/atomic.StoreUint32"], unfollowed := true, recurses := true, plainKeys := false, apart := false }
def FetchOthersSaid : Prop := fetchOthersRow.holds Try.pinned (OpenSpec.ofChange fetchOthersSpec)

/-- ITS FALSE NEIGHBOUR: 'it returns false'. Refute it at one input. -/
def fetchOthersWrong : ChangeSpec := { name := "fetchOthers", fn := fun _ => fun
  | [d1, d2, d3] => { results := [.lit (.bool false)], args := [d1, d2, d3] }
  | _ => none }
def FetchOthersWrongFalsely : Prop := fetchOthersRow.holds Try.pinned (OpenSpec.ofChange fetchOthersWrong)

/-- 'bastidelaw21.FetchEnds': WHATEVER THE INPUT: true; the input reads as it did. -/
def fetchEndsSpec : ChangeSpec := { name := "fetchEnds", fn := fun _ => fun
  | [d] => { results := [.lit (.bool true)], args := [d] }
  | _ => none }
def fetchEndsRow : OpenClaim := { program := "ytnncpjekcljfbaa", sum := "0812bc1abf2579e1eac2ac81be9c28efcf7cfd8ed09d71f308a137b384d98b2c", func := "bastide/bastidelaw21.FetchEnds", spec := "fetchEnds", inPlace := ["sync/atomic.AddInt64", "math/bits.Add64", "sync/atomic.LoadUint32", "(*internal/sync.Mutex).Lock", "internal/race.Disable", "sync/atomic.CompareAndSwapInt32", "internal/race.Enable", "internal/race.Acquire", "(*internal/sync.Mutex).lockSlow", "internal/sync.runtime_canSpin", "internal/sync.runtime_doSpin", "internal/sync.throw", "internal/sync.runtime_nanotime", "internal/sync.runtime_SemacquireMutex", "sync/atomic.AddInt32", "(*internal/sync.Mutex).Unlock", "internal/race.ReleaseMerge", "(*internal/sync.Mutex).unlockSlow", "internal/sync.fatal", "internal/sync.runtime_Semrelease", "sync/atomic.StoreUint32"], unfollowed := true, recurses := true, plainKeys := false, apart := false }
def FetchEndsSaid : Prop := fetchEndsRow.holds Try.pinned (OpenSpec.ofChange fetchEndsSpec)

/-- ITS FALSE NEIGHBOUR: 'it returns false'. Refute it at one input. -/
def fetchEndsWrong : ChangeSpec := { name := "fetchEnds", fn := fun _ => fun
  | [d] => { results := [.lit (.bool false)], args := [d] }
  | _ => none }
def FetchEndsWrongFalsely : Prop := fetchEndsRow.holds Try.pinned (OpenSpec.ofChange fetchEndsWrong)

/-- 'bastidelaw21.FetchKnown': WHATEVER THE INPUT: true; the input reads as it did. -/
def fetchKnownSpec : ChangeSpec := { name := "fetchKnown", fn := fun _ => fun
  | [] => { results := [.lit (.bool true)], args := [] }
  | _ => none }
def fetchKnownRow : OpenClaim := { program := "ytnncpjekcljfbaa", sum := "0812bc1abf2579e1eac2ac81be9c28efcf7cfd8ed09d71f308a137b384d98b2c", func := "bastide/bastidelaw21.FetchKnown", spec := "fetchKnown", inPlace := ["sync/atomic.AddInt64", "math/bits.Add64", "sync/atomic.LoadUint32", "(*internal/sync.Mutex).Lock", "internal/race.Disable", "sync/atomic.CompareAndSwapInt32", "internal/race.Enable", "internal/race.Acquire", "(*internal/sync.Mutex).lockSlow", "internal/sync.runtime_canSpin", "internal/sync.runtime_doSpin", "internal/sync.throw", "internal/sync.runtime_nanotime", "internal/sync.runtime_SemacquireMutex", "sync/atomic.AddInt32", "(*internal/sync.Mutex).Unlock", "internal/race.ReleaseMerge", "(*internal/sync.Mutex).unlockSlow", "internal/sync.fatal", "internal/sync.runtime_Semrelease", "sync/atomic.StoreUint32"], unfollowed := true, recurses := true, plainKeys := false, apart := false }
def FetchKnownSaid : Prop := fetchKnownRow.holds Try.pinned (OpenSpec.ofChange fetchKnownSpec)

/-- ITS FALSE NEIGHBOUR: 'it returns false'. Refute it at one input. -/
def fetchKnownWrong : ChangeSpec := { name := "fetchKnown", fn := fun _ => fun
  | [] => { results := [.lit (.bool false)], args := [] }
  | _ => none }
def FetchKnownWrongFalsely : Prop := fetchKnownRow.holds Try.pinned (OpenSpec.ofChange fetchKnownWrong)

/-- 'bastidelaw21.FetchJust': WHATEVER THE INPUT: true; the input reads as it did. -/
def fetchJustSpec : ChangeSpec := { name := "fetchJust", fn := fun _ => fun
  | [d1, d2, d3] => { results := [.lit (.bool true)], args := [d1, d2, d3] }
  | _ => none }
def fetchJustRow : OpenClaim := { program := "ytnncpjekcljfbaa", sum := "0812bc1abf2579e1eac2ac81be9c28efcf7cfd8ed09d71f308a137b384d98b2c", func := "bastide/bastidelaw21.FetchJust", spec := "fetchJust", inPlace := ["sync/atomic.AddInt64", "math/bits.Add64", "sync/atomic.LoadUint32", "(*internal/sync.Mutex).Lock", "internal/race.Disable", "sync/atomic.CompareAndSwapInt32", "internal/race.Enable", "internal/race.Acquire", "(*internal/sync.Mutex).lockSlow", "internal/sync.runtime_canSpin", "internal/sync.runtime_doSpin", "internal/sync.throw", "internal/sync.runtime_nanotime", "internal/sync.runtime_SemacquireMutex", "sync/atomic.AddInt32", "(*internal/sync.Mutex).Unlock", "internal/race.ReleaseMerge", "(*internal/sync.Mutex).unlockSlow", "internal/sync.fatal", "internal/sync.runtime_Semrelease", "sync/atomic.StoreUint32"], unfollowed := true, recurses := true, plainKeys := false, apart := false }
def FetchJustSaid : Prop := fetchJustRow.holds Try.pinned (OpenSpec.ofChange fetchJustSpec)

/-- ITS FALSE NEIGHBOUR: 'it returns false'. Refute it at one input. -/
def fetchJustWrong : ChangeSpec := { name := "fetchJust", fn := fun _ => fun
  | [d1, d2, d3] => { results := [.lit (.bool false)], args := [d1, d2, d3] }
  | _ => none }
def FetchJustWrongFalsely : Prop := fetchJustRow.holds Try.pinned (OpenSpec.ofChange fetchJustWrong)

/-- 'bastidelaw21.FetchHad': WHATEVER THE INPUT: true; the input reads as it did. -/
def fetchHadSpec : ChangeSpec := { name := "fetchHad", fn := fun _ => fun
  | [d1, d2] => { results := [.lit (.bool true)], args := [d1, d2] }
  | _ => none }
def fetchHadRow : OpenClaim := { program := "ytnncpjekcljfbaa", sum := "0812bc1abf2579e1eac2ac81be9c28efcf7cfd8ed09d71f308a137b384d98b2c", func := "bastide/bastidelaw21.FetchHad", spec := "fetchHad", inPlace := ["sync/atomic.AddInt64", "math/bits.Add64", "sync/atomic.LoadUint32", "(*internal/sync.Mutex).Lock", "internal/race.Disable", "sync/atomic.CompareAndSwapInt32", "internal/race.Enable", "internal/race.Acquire", "(*internal/sync.Mutex).lockSlow", "internal/sync.runtime_canSpin", "internal/sync.runtime_doSpin", "internal/sync.throw", "internal/sync.runtime_nanotime", "internal/sync.runtime_SemacquireMutex", "sync/atomic.AddInt32", "(*internal/sync.Mutex).Unlock", "internal/race.ReleaseMerge", "(*internal/sync.Mutex).unlockSlow", "internal/sync.fatal", "internal/sync.runtime_Semrelease", "sync/atomic.StoreUint32"], unfollowed := true, recurses := true, plainKeys := false, apart := false }
def FetchHadSaid : Prop := fetchHadRow.holds Try.pinned (OpenSpec.ofChange fetchHadSpec)

/-- ITS FALSE NEIGHBOUR: 'it returns false'. Refute it at one input. -/
def fetchHadWrong : ChangeSpec := { name := "fetchHad", fn := fun _ => fun
  | [d1, d2] => { results := [.lit (.bool false)], args := [d1, d2] }
  | _ => none }
def FetchHadWrongFalsely : Prop := fetchHadRow.holds Try.pinned (OpenSpec.ofChange fetchHadWrong)

/- THE SECOND FORM. 'bulk': how many values and letters a reading holds, each counted each time it is reached (what is shared counts as often as it is met; a slice's spare places count too). A statement '..UptoSaid' is the law's where the arguments, and the package variables that the reading takes, are together of bulk at most 1048576: NARROWER than '..Said'. Prove '..Said' where nothing that the law and all that it calls make is longer than what came in: it says more and counts as full. Else prove '..UptoSaid'. A law counts once. -/
mutual
def uptoBulk {H : Type} : DataW H → Nat
  | .lit (.string bytes) => bytes.length + 1
  | .lit _ => 1
  | .nil => 1
  | .ptr d => uptoBulk d + 1
  | .slice elems spare => uptoBulkAll elems + uptoBulkAll spare + 1
  | .agg parts => uptoBulkAll parts + 1
  | .iface _ d => uptoBulk d + 1
  | .map entries => uptoBulkEntries entries + 1
  | .held _ => 1
def uptoBulkAll {H : Type} : List (DataW H) → Nat
  | [] => 0
  | d :: r => uptoBulk d + uptoBulkAll r
def uptoBulkEntries {H : Type} : List (Lit × DataW H) → Nat
  | [] => 0
  | x :: r => uptoBulkEntry x + uptoBulkEntries r
def uptoBulkEntry {H : Type} : Lit × DataW H → Nat
  | (.string bytes, d) => bytes.length + uptoBulk d + 1
  | (_, d) => uptoBulk d + 1
 end
def uptoSmall : (H : Type) → List (DataW H) → Bool := fun _ ds => decide (uptoBulkAll ds ≤ 1048576)
def OpenSpec.upto (s : _root_.Go.ChangeSpec) : _root_.Go.OpenSpec := { _root_.Go.OpenSpec.ofChange s with cond := some uptoSmall }

/-- 'bastidelaw09.TreeSets', WHERE WHAT IT READS IS OF BULK AT MOST 1048576: true; the input reads as it did. -/
def treeSetsUptoRow : OpenClaim := { program := "ytnncpjekcljfbaa", sum := "0812bc1abf2579e1eac2ac81be9c28efcf7cfd8ed09d71f308a137b384d98b2c", func := "bastide/bastidelaw09.TreeSets", spec := "treeSets", inPlace := ["sync/atomic.AddInt64", "math/bits.Add64", "sync/atomic.LoadUint32", "(*internal/sync.Mutex).Lock", "internal/race.Disable", "sync/atomic.CompareAndSwapInt32", "internal/race.Enable", "internal/race.Acquire", "(*internal/sync.Mutex).lockSlow", "internal/sync.runtime_canSpin", "internal/sync.runtime_doSpin", "internal/sync.throw", "internal/sync.runtime_nanotime", "internal/sync.runtime_SemacquireMutex", "sync/atomic.AddInt32", "(*internal/sync.Mutex).Unlock", "internal/race.ReleaseMerge", "(*internal/sync.Mutex).unlockSlow", "internal/sync.fatal", "internal/sync.runtime_Semrelease", "sync/atomic.StoreUint32"], unfollowed := true, recurses := true, plainKeys := false, apart := false, narrowed := true }
def TreeSetsUptoSaid : Prop := treeSetsUptoRow.holds Try.pinned (OpenSpec.upto treeSetsSpec)

/-- 'bastidelaw09.TreeOf', WHERE WHAT IT READS IS OF BULK AT MOST 1048576: true; the input reads as it did. -/
def treeOfUptoRow : OpenClaim := { program := "ytnncpjekcljfbaa", sum := "0812bc1abf2579e1eac2ac81be9c28efcf7cfd8ed09d71f308a137b384d98b2c", func := "bastide/bastidelaw09.TreeOf", spec := "treeOf", inPlace := ["sync/atomic.AddInt64", "math/bits.Add64", "sync/atomic.LoadUint32", "(*internal/sync.Mutex).Lock", "internal/race.Disable", "sync/atomic.CompareAndSwapInt32", "internal/race.Enable", "internal/race.Acquire", "(*internal/sync.Mutex).lockSlow", "internal/sync.runtime_canSpin", "internal/sync.runtime_doSpin", "internal/sync.throw", "internal/sync.runtime_nanotime", "internal/sync.runtime_SemacquireMutex", "sync/atomic.AddInt32", "(*internal/sync.Mutex).Unlock", "internal/race.ReleaseMerge", "(*internal/sync.Mutex).unlockSlow", "internal/sync.fatal", "internal/sync.runtime_Semrelease", "sync/atomic.StoreUint32"], unfollowed := true, recurses := true, plainKeys := false, apart := false, narrowed := true }
def TreeOfUptoSaid : Prop := treeOfUptoRow.holds Try.pinned (OpenSpec.upto treeOfSpec)

/-- 'bastidelaw10.ProofBuilds', WHERE WHAT IT READS IS OF BULK AT MOST 1048576: true; the input reads as it did. -/
def proofBuildsUptoRow : OpenClaim := { program := "ytnncpjekcljfbaa", sum := "0812bc1abf2579e1eac2ac81be9c28efcf7cfd8ed09d71f308a137b384d98b2c", func := "bastide/bastidelaw10.ProofBuilds", spec := "proofBuilds", inPlace := ["sync/atomic.AddInt64", "math/bits.Add64", "sync/atomic.LoadUint32", "(*internal/sync.Mutex).Lock", "internal/race.Disable", "sync/atomic.CompareAndSwapInt32", "internal/race.Enable", "internal/race.Acquire", "(*internal/sync.Mutex).lockSlow", "internal/sync.runtime_canSpin", "internal/sync.runtime_doSpin", "internal/sync.throw", "internal/sync.runtime_nanotime", "internal/sync.runtime_SemacquireMutex", "sync/atomic.AddInt32", "(*internal/sync.Mutex).Unlock", "internal/race.ReleaseMerge", "(*internal/sync.Mutex).unlockSlow", "internal/sync.fatal", "internal/sync.runtime_Semrelease", "sync/atomic.StoreUint32"], unfollowed := true, recurses := true, plainKeys := false, apart := false, narrowed := true }
def ProofBuildsUptoSaid : Prop := proofBuildsUptoRow.holds Try.pinned (OpenSpec.upto proofBuildsSpec)

/-- 'bastidelaw10.ProofChecks', WHERE WHAT IT READS IS OF BULK AT MOST 1048576: true; the input reads as it did. -/
def proofChecksUptoRow : OpenClaim := { program := "ytnncpjekcljfbaa", sum := "0812bc1abf2579e1eac2ac81be9c28efcf7cfd8ed09d71f308a137b384d98b2c", func := "bastide/bastidelaw10.ProofChecks", spec := "proofChecks", inPlace := ["sync/atomic.AddInt64", "math/bits.Add64", "sync/atomic.LoadUint32", "(*internal/sync.Mutex).Lock", "internal/race.Disable", "sync/atomic.CompareAndSwapInt32", "internal/race.Enable", "internal/race.Acquire", "(*internal/sync.Mutex).lockSlow", "internal/sync.runtime_canSpin", "internal/sync.runtime_doSpin", "internal/sync.throw", "internal/sync.runtime_nanotime", "internal/sync.runtime_SemacquireMutex", "sync/atomic.AddInt32", "(*internal/sync.Mutex).Unlock", "internal/race.ReleaseMerge", "(*internal/sync.Mutex).unlockSlow", "internal/sync.fatal", "internal/sync.runtime_Semrelease", "sync/atomic.StoreUint32"], unfollowed := true, recurses := true, plainKeys := false, apart := false, narrowed := true }
def ProofChecksUptoSaid : Prop := proofChecksUptoRow.holds Try.pinned (OpenSpec.upto proofChecksSpec)

/-- 'bastidelaw10.ProofBack', WHERE WHAT IT READS IS OF BULK AT MOST 1048576: true; the input reads as it did. -/
def proofBackUptoRow : OpenClaim := { program := "ytnncpjekcljfbaa", sum := "0812bc1abf2579e1eac2ac81be9c28efcf7cfd8ed09d71f308a137b384d98b2c", func := "bastide/bastidelaw10.ProofBack", spec := "proofBack", inPlace := ["sync/atomic.AddInt64", "math/bits.Add64", "sync/atomic.LoadUint32", "(*internal/sync.Mutex).Lock", "internal/race.Disable", "sync/atomic.CompareAndSwapInt32", "internal/race.Enable", "internal/race.Acquire", "(*internal/sync.Mutex).lockSlow", "internal/sync.runtime_canSpin", "internal/sync.runtime_doSpin", "internal/sync.throw", "internal/sync.runtime_nanotime", "internal/sync.runtime_SemacquireMutex", "sync/atomic.AddInt32", "(*internal/sync.Mutex).Unlock", "internal/race.ReleaseMerge", "(*internal/sync.Mutex).unlockSlow", "internal/sync.fatal", "internal/sync.runtime_Semrelease", "sync/atomic.StoreUint32"], unfollowed := true, recurses := true, plainKeys := false, apart := false, narrowed := true }
def ProofBackUptoSaid : Prop := proofBackUptoRow.holds Try.pinned (OpenSpec.upto proofBackSpec)

/-- 'bastidelaw10.ProofShape', WHERE WHAT IT READS IS OF BULK AT MOST 1048576: true; the input reads as it did. -/
def proofShapeUptoRow : OpenClaim := { program := "ytnncpjekcljfbaa", sum := "0812bc1abf2579e1eac2ac81be9c28efcf7cfd8ed09d71f308a137b384d98b2c", func := "bastide/bastidelaw10.ProofShape", spec := "proofShape", inPlace := ["sync/atomic.AddInt64", "math/bits.Add64", "sync/atomic.LoadUint32", "(*internal/sync.Mutex).Lock", "internal/race.Disable", "sync/atomic.CompareAndSwapInt32", "internal/race.Enable", "internal/race.Acquire", "(*internal/sync.Mutex).lockSlow", "internal/sync.runtime_canSpin", "internal/sync.runtime_doSpin", "internal/sync.throw", "internal/sync.runtime_nanotime", "internal/sync.runtime_SemacquireMutex", "sync/atomic.AddInt32", "(*internal/sync.Mutex).Unlock", "internal/race.ReleaseMerge", "(*internal/sync.Mutex).unlockSlow", "internal/sync.fatal", "internal/sync.runtime_Semrelease", "sync/atomic.StoreUint32"], unfollowed := true, recurses := true, plainKeys := false, apart := false, narrowed := true }
def ProofShapeUptoSaid : Prop := proofShapeUptoRow.holds Try.pinned (OpenSpec.upto proofShapeSpec)

/-- 'bastidelaw10.ProofJust', WHERE WHAT IT READS IS OF BULK AT MOST 1048576: true; the input reads as it did. -/
def proofJustUptoRow : OpenClaim := { program := "ytnncpjekcljfbaa", sum := "0812bc1abf2579e1eac2ac81be9c28efcf7cfd8ed09d71f308a137b384d98b2c", func := "bastide/bastidelaw10.ProofJust", spec := "proofJust", inPlace := ["sync/atomic.AddInt64", "math/bits.Add64", "sync/atomic.LoadUint32", "(*internal/sync.Mutex).Lock", "internal/race.Disable", "sync/atomic.CompareAndSwapInt32", "internal/race.Enable", "internal/race.Acquire", "(*internal/sync.Mutex).lockSlow", "internal/sync.runtime_canSpin", "internal/sync.runtime_doSpin", "internal/sync.throw", "internal/sync.runtime_nanotime", "internal/sync.runtime_SemacquireMutex", "sync/atomic.AddInt32", "(*internal/sync.Mutex).Unlock", "internal/race.ReleaseMerge", "(*internal/sync.Mutex).unlockSlow", "internal/sync.fatal", "internal/sync.runtime_Semrelease", "sync/atomic.StoreUint32"], unfollowed := true, recurses := true, plainKeys := false, apart := false, narrowed := true }
def ProofJustUptoSaid : Prop := proofJustUptoRow.holds Try.pinned (OpenSpec.upto proofJustSpec)

/-- 'bastidelaw10.ProofFits', WHERE WHAT IT READS IS OF BULK AT MOST 1048576: true; the input reads as it did. -/
def proofFitsUptoRow : OpenClaim := { program := "ytnncpjekcljfbaa", sum := "0812bc1abf2579e1eac2ac81be9c28efcf7cfd8ed09d71f308a137b384d98b2c", func := "bastide/bastidelaw10.ProofFits", spec := "proofFits", inPlace := ["sync/atomic.AddInt64", "math/bits.Add64", "sync/atomic.LoadUint32", "(*internal/sync.Mutex).Lock", "internal/race.Disable", "sync/atomic.CompareAndSwapInt32", "internal/race.Enable", "internal/race.Acquire", "(*internal/sync.Mutex).lockSlow", "internal/sync.runtime_canSpin", "internal/sync.runtime_doSpin", "internal/sync.throw", "internal/sync.runtime_nanotime", "internal/sync.runtime_SemacquireMutex", "sync/atomic.AddInt32", "(*internal/sync.Mutex).Unlock", "internal/race.ReleaseMerge", "(*internal/sync.Mutex).unlockSlow", "internal/sync.fatal", "internal/sync.runtime_Semrelease", "sync/atomic.StoreUint32"], unfollowed := true, recurses := true, plainKeys := false, apart := false, narrowed := true }
def ProofFitsUptoSaid : Prop := proofFitsUptoRow.holds Try.pinned (OpenSpec.upto proofFitsSpec)

/-- 'bastidelaw10.ProofParts', WHERE WHAT IT READS IS OF BULK AT MOST 1048576: true; the input reads as it did. -/
def proofPartsUptoRow : OpenClaim := { program := "ytnncpjekcljfbaa", sum := "0812bc1abf2579e1eac2ac81be9c28efcf7cfd8ed09d71f308a137b384d98b2c", func := "bastide/bastidelaw10.ProofParts", spec := "proofParts", inPlace := ["sync/atomic.AddInt64", "math/bits.Add64", "sync/atomic.LoadUint32", "(*internal/sync.Mutex).Lock", "internal/race.Disable", "sync/atomic.CompareAndSwapInt32", "internal/race.Enable", "internal/race.Acquire", "(*internal/sync.Mutex).lockSlow", "internal/sync.runtime_canSpin", "internal/sync.runtime_doSpin", "internal/sync.throw", "internal/sync.runtime_nanotime", "internal/sync.runtime_SemacquireMutex", "sync/atomic.AddInt32", "(*internal/sync.Mutex).Unlock", "internal/race.ReleaseMerge", "(*internal/sync.Mutex).unlockSlow", "internal/sync.fatal", "internal/sync.runtime_Semrelease", "sync/atomic.StoreUint32"], unfollowed := true, recurses := true, plainKeys := false, apart := false, narrowed := true }
def ProofPartsUptoSaid : Prop := proofPartsUptoRow.holds Try.pinned (OpenSpec.upto proofPartsSpec)

/-- 'bastidelaw10.ProofKnown', WHERE WHAT IT READS IS OF BULK AT MOST 1048576: true; the input reads as it did. -/
def proofKnownUptoRow : OpenClaim := { program := "ytnncpjekcljfbaa", sum := "0812bc1abf2579e1eac2ac81be9c28efcf7cfd8ed09d71f308a137b384d98b2c", func := "bastide/bastidelaw10.ProofKnown", spec := "proofKnown", inPlace := ["sync/atomic.AddInt64", "math/bits.Add64", "sync/atomic.LoadUint32", "(*internal/sync.Mutex).Lock", "internal/race.Disable", "sync/atomic.CompareAndSwapInt32", "internal/race.Enable", "internal/race.Acquire", "(*internal/sync.Mutex).lockSlow", "internal/sync.runtime_canSpin", "internal/sync.runtime_doSpin", "internal/sync.throw", "internal/sync.runtime_nanotime", "internal/sync.runtime_SemacquireMutex", "sync/atomic.AddInt32", "(*internal/sync.Mutex).Unlock", "internal/race.ReleaseMerge", "(*internal/sync.Mutex).unlockSlow", "internal/sync.fatal", "internal/sync.runtime_Semrelease", "sync/atomic.StoreUint32"], unfollowed := true, recurses := true, plainKeys := false, apart := false, narrowed := true }
def ProofKnownUptoSaid : Prop := proofKnownUptoRow.holds Try.pinned (OpenSpec.upto proofKnownSpec)

/-- 'bastidelaw10.ProofOnly', WHERE WHAT IT READS IS OF BULK AT MOST 1048576: true; the input reads as it did. -/
def proofOnlyUptoRow : OpenClaim := { program := "ytnncpjekcljfbaa", sum := "0812bc1abf2579e1eac2ac81be9c28efcf7cfd8ed09d71f308a137b384d98b2c", func := "bastide/bastidelaw10.ProofOnly", spec := "proofOnly", inPlace := ["sync/atomic.AddInt64", "math/bits.Add64", "sync/atomic.LoadUint32", "(*internal/sync.Mutex).Lock", "internal/race.Disable", "sync/atomic.CompareAndSwapInt32", "internal/race.Enable", "internal/race.Acquire", "(*internal/sync.Mutex).lockSlow", "internal/sync.runtime_canSpin", "internal/sync.runtime_doSpin", "internal/sync.throw", "internal/sync.runtime_nanotime", "internal/sync.runtime_SemacquireMutex", "sync/atomic.AddInt32", "(*internal/sync.Mutex).Unlock", "internal/race.ReleaseMerge", "(*internal/sync.Mutex).unlockSlow", "internal/sync.fatal", "internal/sync.runtime_Semrelease", "sync/atomic.StoreUint32"], unfollowed := true, recurses := true, plainKeys := false, apart := false, narrowed := true }
def ProofOnlyUptoSaid : Prop := proofOnlyUptoRow.holds Try.pinned (OpenSpec.upto proofOnlySpec)

/-- 'bastidelaw21.FetchOthers', WHERE WHAT IT READS IS OF BULK AT MOST 1048576: true; the input reads as it did. -/
def fetchOthersUptoRow : OpenClaim := { program := "ytnncpjekcljfbaa", sum := "0812bc1abf2579e1eac2ac81be9c28efcf7cfd8ed09d71f308a137b384d98b2c", func := "bastide/bastidelaw21.FetchOthers", spec := "fetchOthers", inPlace := ["sync/atomic.AddInt64", "math/bits.Add64", "sync/atomic.LoadUint32", "(*internal/sync.Mutex).Lock", "internal/race.Disable", "sync/atomic.CompareAndSwapInt32", "internal/race.Enable", "internal/race.Acquire", "(*internal/sync.Mutex).lockSlow", "internal/sync.runtime_canSpin", "internal/sync.runtime_doSpin", "internal/sync.throw", "internal/sync.runtime_nanotime", "internal/sync.runtime_SemacquireMutex", "sync/atomic.AddInt32", "(*internal/sync.Mutex).Unlock", "internal/race.ReleaseMerge", "(*internal/sync.Mutex).unlockSlow", "internal/sync.fatal", "internal/sync.runtime_Semrelease", "sync/atomic.StoreUint32"], unfollowed := true, recurses := true, plainKeys := false, apart := false, narrowed := true }
def FetchOthersUptoSaid : Prop := fetchOthersUptoRow.holds Try.pinned (OpenSpec.upto fetchOthersSpec)

/-- 'bastidelaw21.FetchEnds', WHERE WHAT IT READS IS OF BULK AT MOST 1048576: true; the input reads as it did. -/
def fetchEndsUptoRow : OpenClaim := { program := "ytnncpjekcljfbaa", sum := "0812bc1abf2579e1eac2ac81be9c28efcf7cfd8ed09d71f308a137b384d98b2c", func := "bastide/bastidelaw21.FetchEnds", spec := "fetchEnds", inPlace := ["sync/atomic.AddInt64", "math/bits.Add64", "sync/atomic.LoadUint32", "(*internal/sync.Mutex).Lock", "internal/race.Disable", "sync/atomic.CompareAndSwapInt32", "internal/race.Enable", "internal/race.Acquire", "(*internal/sync.Mutex).lockSlow", "internal/sync.runtime_canSpin", "internal/sync.runtime_doSpin", "internal/sync.throw", "internal/sync.runtime_nanotime", "internal/sync.runtime_SemacquireMutex", "sync/atomic.AddInt32", "(*internal/sync.Mutex).Unlock", "internal/race.ReleaseMerge", "(*internal/sync.Mutex).unlockSlow", "internal/sync.fatal", "internal/sync.runtime_Semrelease", "sync/atomic.StoreUint32"], unfollowed := true, recurses := true, plainKeys := false, apart := false, narrowed := true }
def FetchEndsUptoSaid : Prop := fetchEndsUptoRow.holds Try.pinned (OpenSpec.upto fetchEndsSpec)

/-- 'bastidelaw21.FetchKnown', WHERE WHAT IT READS IS OF BULK AT MOST 1048576: true; the input reads as it did. -/
def fetchKnownUptoRow : OpenClaim := { program := "ytnncpjekcljfbaa", sum := "0812bc1abf2579e1eac2ac81be9c28efcf7cfd8ed09d71f308a137b384d98b2c", func := "bastide/bastidelaw21.FetchKnown", spec := "fetchKnown", inPlace := ["sync/atomic.AddInt64", "math/bits.Add64", "sync/atomic.LoadUint32", "(*internal/sync.Mutex).Lock", "internal/race.Disable", "sync/atomic.CompareAndSwapInt32", "internal/race.Enable", "internal/race.Acquire", "(*internal/sync.Mutex).lockSlow", "internal/sync.runtime_canSpin", "internal/sync.runtime_doSpin", "internal/sync.throw", "internal/sync.runtime_nanotime", "internal/sync.runtime_SemacquireMutex", "sync/atomic.AddInt32", "(*internal/sync.Mutex).Unlock", "internal/race.ReleaseMerge", "(*internal/sync.Mutex).unlockSlow", "internal/sync.fatal", "internal/sync.runtime_Semrelease", "sync/atomic.StoreUint32"], unfollowed := true, recurses := true, plainKeys := false, apart := false, narrowed := true }
def FetchKnownUptoSaid : Prop := fetchKnownUptoRow.holds Try.pinned (OpenSpec.upto fetchKnownSpec)

/-- 'bastidelaw21.FetchJust', WHERE WHAT IT READS IS OF BULK AT MOST 1048576: true; the input reads as it did. -/
def fetchJustUptoRow : OpenClaim := { program := "ytnncpjekcljfbaa", sum := "0812bc1abf2579e1eac2ac81be9c28efcf7cfd8ed09d71f308a137b384d98b2c", func := "bastide/bastidelaw21.FetchJust", spec := "fetchJust", inPlace := ["sync/atomic.AddInt64", "math/bits.Add64", "sync/atomic.LoadUint32", "(*internal/sync.Mutex).Lock", "internal/race.Disable", "sync/atomic.CompareAndSwapInt32", "internal/race.Enable", "internal/race.Acquire", "(*internal/sync.Mutex).lockSlow", "internal/sync.runtime_canSpin", "internal/sync.runtime_doSpin", "internal/sync.throw", "internal/sync.runtime_nanotime", "internal/sync.runtime_SemacquireMutex", "sync/atomic.AddInt32", "(*internal/sync.Mutex).Unlock", "internal/race.ReleaseMerge", "(*internal/sync.Mutex).unlockSlow", "internal/sync.fatal", "internal/sync.runtime_Semrelease", "sync/atomic.StoreUint32"], unfollowed := true, recurses := true, plainKeys := false, apart := false, narrowed := true }
def FetchJustUptoSaid : Prop := fetchJustUptoRow.holds Try.pinned (OpenSpec.upto fetchJustSpec)

/-- 'bastidelaw21.FetchHad', WHERE WHAT IT READS IS OF BULK AT MOST 1048576: true; the input reads as it did. -/
def fetchHadUptoRow : OpenClaim := { program := "ytnncpjekcljfbaa", sum := "0812bc1abf2579e1eac2ac81be9c28efcf7cfd8ed09d71f308a137b384d98b2c", func := "bastide/bastidelaw21.FetchHad", spec := "fetchHad", inPlace := ["sync/atomic.AddInt64", "math/bits.Add64", "sync/atomic.LoadUint32", "(*internal/sync.Mutex).Lock", "internal/race.Disable", "sync/atomic.CompareAndSwapInt32", "internal/race.Enable", "internal/race.Acquire", "(*internal/sync.Mutex).lockSlow", "internal/sync.runtime_canSpin", "internal/sync.runtime_doSpin", "internal/sync.throw", "internal/sync.runtime_nanotime", "internal/sync.runtime_SemacquireMutex", "sync/atomic.AddInt32", "(*internal/sync.Mutex).Unlock", "internal/race.ReleaseMerge", "(*internal/sync.Mutex).unlockSlow", "internal/sync.fatal", "internal/sync.runtime_Semrelease", "sync/atomic.StoreUint32"], unfollowed := true, recurses := true, plainKeys := false, apart := false, narrowed := true }
def FetchHadUptoSaid : Prop := fetchHadUptoRow.holds Try.pinned (OpenSpec.upto fetchHadSpec)

end Rows
end Go.Proofs.Ytnncpjekcljfbaa
