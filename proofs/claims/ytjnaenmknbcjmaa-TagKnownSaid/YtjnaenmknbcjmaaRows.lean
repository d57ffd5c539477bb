/-
  No cell of these rows narrows 'for every input' (looked for: loops, veiled, ifaces, maps, wideKeys, modest, calm, conditions, laid).
  DERIVED. THE GIVEN ROWS OF THIS SEAT. 12 by the template 'for every input the law returns true; each argument reads behind the call as it read before'; 0 by the template 'total and deterministic' (their statements: YtjnaenmknbcjmaaTotals.lean).
  GIVEN WITH THE SEED: the statements are not yours to turn. If you find one false, say at which input.
  Laid BY PROGRAM, IN A SANDBOX (cutbox-rows.mjs): the forced cells as the released guide's own fill.sh prints them over the translation 254b2102b11d8304… (all of the seat's roots in one cut). By AI agents, Wed Nov 11 2026. No macro, syntax, notation, axiom, sorry.
-/
import Derived.Test.YtjnaenmknbcjmaaChecked
import GoSem.Claim
import GoSem.ClaimJoined
import GoSem.ClaimMapViews
import Derived.JoinedTies
import Derived.KernelRfl
namespace Go.Proofs.Ytjnaenmknbcjmaa
/- THE CELL 'sum', in the pinned program and in every row, IS THE sha256 OF THE DUMP (.gsa) THAT YtjnaenmknbcjmaaProg.lean LOADS. Nothing in Lean hashes anything: it is a label: what it is worth is what the hold of that sum in a sandbox is worth. -/
noncomputable def Try.pinned : Pinned := { name := "ytjnaenmknbcjmaa", sum := "254b2102b11d8304a15b36c36b6fab51d2ca048855cd2ed54dfb71cd700891b3", checked := Try.checked }
namespace Rows
def none {H : Type} : Left H := { results := [], args := [] }

/-- 'bastidelaw04.TagDeeds': WHATEVER THE INPUT: true; the input reads as it did. -/
def tagDeedsSpec : ChangeSpec := { name := "tagDeeds", fn := fun _ => fun
  | [d] => { results := [.lit (.bool true)], args := [d] }
  | _ => none }
def tagDeedsRow : OpenClaim := { program := "ytjnaenmknbcjmaa", sum := "254b2102b11d8304a15b36c36b6fab51d2ca048855cd2ed54dfb71cd700891b3", func := "bastide/bastidelaw04.TagDeeds", spec := "tagDeeds", inPlace := ["sync/atomic.AddInt64", "sync/atomic.LoadInt64"], plainKeys := false, apart := false }
def TagDeedsSaid : Prop := tagDeedsRow.holds Try.pinned (OpenSpec.ofChange tagDeedsSpec)

/-- ITS FALSE NEIGHBOUR: 'it returns false'. Refute it at one input. -/
def tagDeedsWrong : ChangeSpec := { name := "tagDeeds", fn := fun _ => fun
  | [d] => { results := [.lit (.bool false)], args := [d] }
  | _ => none }
def TagDeedsWrongFalsely : Prop := tagDeedsRow.holds Try.pinned (OpenSpec.ofChange tagDeedsWrong)

/-- 'bastidelaw04.TagJust': WHATEVER THE INPUT: true; the input reads as it did. -/
def tagJustSpec : ChangeSpec := { name := "tagJust", fn := fun _ => fun
  | [d1, d2, d3] => { results := [.lit (.bool true)], args := [d1, d2, d3] }
  | _ => none }
def tagJustRow : OpenClaim := { program := "ytjnaenmknbcjmaa", sum := "254b2102b11d8304a15b36c36b6fab51d2ca048855cd2ed54dfb71cd700891b3", func := "bastide/bastidelaw04.TagJust", spec := "tagJust", inPlace := ["sync/atomic.AddInt64", "sync/atomic.LoadInt64"], plainKeys := false, apart := false }
def TagJustSaid : Prop := tagJustRow.holds Try.pinned (OpenSpec.ofChange tagJustSpec)

/-- ITS FALSE NEIGHBOUR: 'it returns false'. Refute it at one input. -/
def tagJustWrong : ChangeSpec := { name := "tagJust", fn := fun _ => fun
  | [d1, d2, d3] => { results := [.lit (.bool false)], args := [d1, d2, d3] }
  | _ => none }
def TagJustWrongFalsely : Prop := tagJustRow.holds Try.pinned (OpenSpec.ofChange tagJustWrong)

/-- 'bastidelaw04.TagStays': WHATEVER THE INPUT: true; the input reads as it did. -/
def tagStaysSpec : ChangeSpec := { name := "tagStays", fn := fun _ => fun
  | [d1, d2, d3] => { results := [.lit (.bool true)], args := [d1, d2, d3] }
  | _ => none }
def tagStaysRow : OpenClaim := { program := "ytjnaenmknbcjmaa", sum := "254b2102b11d8304a15b36c36b6fab51d2ca048855cd2ed54dfb71cd700891b3", func := "bastide/bastidelaw04.TagStays", spec := "tagStays", inPlace := ["sync/atomic.AddInt64", "sync/atomic.LoadInt64"], plainKeys := false, apart := false }
def TagStaysSaid : Prop := tagStaysRow.holds Try.pinned (OpenSpec.ofChange tagStaysSpec)

/-- ITS FALSE NEIGHBOUR: 'it returns false'. Refute it at one input. -/
def tagStaysWrong : ChangeSpec := { name := "tagStays", fn := fun _ => fun
  | [d1, d2, d3] => { results := [.lit (.bool false)], args := [d1, d2, d3] }
  | _ => none }
def TagStaysWrongFalsely : Prop := tagStaysRow.holds Try.pinned (OpenSpec.ofChange tagStaysWrong)

/-- 'bastidelaw04.TagVector': WHATEVER THE INPUT: true; the input reads as it did. -/
def tagVectorSpec : ChangeSpec := { name := "tagVector", fn := fun _ => fun
  | [d1, d2, d3] => { results := [.lit (.bool true)], args := [d1, d2, d3] }
  | _ => none }
def tagVectorRow : OpenClaim := { program := "ytjnaenmknbcjmaa", sum := "254b2102b11d8304a15b36c36b6fab51d2ca048855cd2ed54dfb71cd700891b3", func := "bastide/bastidelaw04.TagVector", spec := "tagVector", inPlace := ["sync/atomic.AddInt64", "sync/atomic.LoadInt64"], plainKeys := false, apart := false }
def TagVectorSaid : Prop := tagVectorRow.holds Try.pinned (OpenSpec.ofChange tagVectorSpec)

/-- ITS FALSE NEIGHBOUR: 'it returns false'. Refute it at one input. -/
def tagVectorWrong : ChangeSpec := { name := "tagVector", fn := fun _ => fun
  | [d1, d2, d3] => { results := [.lit (.bool false)], args := [d1, d2, d3] }
  | _ => none }
def TagVectorWrongFalsely : Prop := tagVectorRow.holds Try.pinned (OpenSpec.ofChange tagVectorWrong)

/-- 'bastidelaw04.TagOrder': WHATEVER THE INPUT: true; the input reads as it did. -/
def tagOrderSpec : ChangeSpec := { name := "tagOrder", fn := fun _ => fun
  | [d1, d2, d3] => { results := [.lit (.bool true)], args := [d1, d2, d3] }
  | _ => none }
def tagOrderRow : OpenClaim := { program := "ytjnaenmknbcjmaa", sum := "254b2102b11d8304a15b36c36b6fab51d2ca048855cd2ed54dfb71cd700891b3", func := "bastide/bastidelaw04.TagOrder", spec := "tagOrder", inPlace := ["sync/atomic.AddInt64", "sync/atomic.LoadInt64"], plainKeys := false, apart := false }
def TagOrderSaid : Prop := tagOrderRow.holds Try.pinned (OpenSpec.ofChange tagOrderSpec)

/-- ITS FALSE NEIGHBOUR: 'it returns false'. Refute it at one input. -/
def tagOrderWrong : ChangeSpec := { name := "tagOrder", fn := fun _ => fun
  | [d1, d2, d3] => { results := [.lit (.bool false)], args := [d1, d2, d3] }
  | _ => none }
def TagOrderWrongFalsely : Prop := tagOrderRow.holds Try.pinned (OpenSpec.ofChange tagOrderWrong)

/-- 'bastidelaw04.TagAll': WHATEVER THE INPUT: true; the input reads as it did. -/
def tagAllSpec : ChangeSpec := { name := "tagAll", fn := fun _ => fun
  | [d1, d2, d3] => { results := [.lit (.bool true)], args := [d1, d2, d3] }
  | _ => none }
def tagAllRow : OpenClaim := { program := "ytjnaenmknbcjmaa", sum := "254b2102b11d8304a15b36c36b6fab51d2ca048855cd2ed54dfb71cd700891b3", func := "bastide/bastidelaw04.TagAll", spec := "tagAll", inPlace := ["sync/atomic.AddInt64", "sync/atomic.LoadInt64"], plainKeys := false, apart := false }
def TagAllSaid : Prop := tagAllRow.holds Try.pinned (OpenSpec.ofChange tagAllSpec)

/-- ITS FALSE NEIGHBOUR: 'it returns false'. Refute it at one input. -/
def tagAllWrong : ChangeSpec := { name := "tagAll", fn := fun _ => fun
  | [d1, d2, d3] => { results := [.lit (.bool false)], args := [d1, d2, d3] }
  | _ => none }
def TagAllWrongFalsely : Prop := tagAllRow.holds Try.pinned (OpenSpec.ofChange tagAllWrong)

/-- 'bastidelaw04.TagOnce': WHATEVER THE INPUT: true; the input reads as it did. -/
def tagOnceSpec : ChangeSpec := { name := "tagOnce", fn := fun _ => fun
  | [d1, d2, d3] => { results := [.lit (.bool true)], args := [d1, d2, d3] }
  | _ => none }
def tagOnceRow : OpenClaim := { program := "ytjnaenmknbcjmaa", sum := "254b2102b11d8304a15b36c36b6fab51d2ca048855cd2ed54dfb71cd700891b3", func := "bastide/bastidelaw04.TagOnce", spec := "tagOnce", inPlace := ["sync/atomic.AddInt64", "sync/atomic.LoadInt64"], plainKeys := false, apart := false }
def TagOnceSaid : Prop := tagOnceRow.holds Try.pinned (OpenSpec.ofChange tagOnceSpec)

/-- ITS FALSE NEIGHBOUR: 'it returns false'. Refute it at one input. -/
def tagOnceWrong : ChangeSpec := { name := "tagOnce", fn := fun _ => fun
  | [d1, d2, d3] => { results := [.lit (.bool false)], args := [d1, d2, d3] }
  | _ => none }
def TagOnceWrongFalsely : Prop := tagOnceRow.holds Try.pinned (OpenSpec.ofChange tagOnceWrong)

/-- 'bastidelaw04.TagKnown': WHATEVER THE INPUT: true; the input reads as it did. -/
def tagKnownSpec : ChangeSpec := { name := "tagKnown", fn := fun _ => fun
  | [] => { results := [.lit (.bool true)], args := [] }
  | _ => none }
def tagKnownRow : OpenClaim := { program := "ytjnaenmknbcjmaa", sum := "254b2102b11d8304a15b36c36b6fab51d2ca048855cd2ed54dfb71cd700891b3", func := "bastide/bastidelaw04.TagKnown", spec := "tagKnown", inPlace := ["sync/atomic.AddInt64", "sync/atomic.LoadInt64"], plainKeys := false, apart := false }
def TagKnownSaid : Prop := tagKnownRow.holds Try.pinned (OpenSpec.ofChange tagKnownSpec)

/-- ITS FALSE NEIGHBOUR: 'it returns false'. Refute it at one input. -/
def tagKnownWrong : ChangeSpec := { name := "tagKnown", fn := fun _ => fun
  | [] => { results := [.lit (.bool false)], args := [] }
  | _ => none }
def TagKnownWrongFalsely : Prop := tagKnownRow.holds Try.pinned (OpenSpec.ofChange tagKnownWrong)

/-- 'bastidelaw13.BagDeeds': WHATEVER THE INPUT: true; the input reads as it did. -/
def bagDeedsSpec : ChangeSpec := { name := "bagDeeds", fn := fun _ => fun
  | [d] => { results := [.lit (.bool true)], args := [d] }
  | _ => none }
def bagDeedsRow : OpenClaim := { program := "ytjnaenmknbcjmaa", sum := "254b2102b11d8304a15b36c36b6fab51d2ca048855cd2ed54dfb71cd700891b3", func := "bastide/bastidelaw13.BagDeeds", spec := "bagDeeds", inPlace := ["sync/atomic.AddInt64", "sync/atomic.LoadInt64"], unfollowed := true, recurses := true, plainKeys := false, apart := false }
def BagDeedsSaid : Prop := bagDeedsRow.holds Try.pinned (OpenSpec.ofChange bagDeedsSpec)

/-- ITS FALSE NEIGHBOUR: 'it returns false'. Refute it at one input. -/
def bagDeedsWrong : ChangeSpec := { name := "bagDeeds", fn := fun _ => fun
  | [d] => { results := [.lit (.bool false)], args := [d] }
  | _ => none }
def BagDeedsWrongFalsely : Prop := bagDeedsRow.holds Try.pinned (OpenSpec.ofChange bagDeedsWrong)

/-- 'bastidelaw13.BagJust': WHATEVER THE INPUT: true; the input reads as it did. -/
def bagJustSpec : ChangeSpec := { name := "bagJust", fn := fun _ => fun
  | [d] => { results := [.lit (.bool true)], args := [d] }
  | _ => none }
def bagJustRow : OpenClaim := { program := "ytjnaenmknbcjmaa", sum := "254b2102b11d8304a15b36c36b6fab51d2ca048855cd2ed54dfb71cd700891b3", func := "bastide/bastidelaw13.BagJust", spec := "bagJust", inPlace := ["sync/atomic.AddInt64", "sync/atomic.LoadInt64"], unfollowed := true, recurses := true, plainKeys := false, apart := false }
def BagJustSaid : Prop := bagJustRow.holds Try.pinned (OpenSpec.ofChange bagJustSpec)

/-- ITS FALSE NEIGHBOUR: 'it returns false'. Refute it at one input. -/
def bagJustWrong : ChangeSpec := { name := "bagJust", fn := fun _ => fun
  | [d] => { results := [.lit (.bool false)], args := [d] }
  | _ => none }
def BagJustWrongFalsely : Prop := bagJustRow.holds Try.pinned (OpenSpec.ofChange bagJustWrong)

/-- 'bastidelaw13.BagOrder': WHATEVER THE INPUT: true; the input reads as it did. -/
def bagOrderSpec : ChangeSpec := { name := "bagOrder", fn := fun _ => fun
  | [d] => { results := [.lit (.bool true)], args := [d] }
  | _ => none }
def bagOrderRow : OpenClaim := { program := "ytjnaenmknbcjmaa", sum := "254b2102b11d8304a15b36c36b6fab51d2ca048855cd2ed54dfb71cd700891b3", func := "bastide/bastidelaw13.BagOrder", spec := "bagOrder", inPlace := ["sync/atomic.AddInt64", "sync/atomic.LoadInt64"], unfollowed := true, recurses := true, plainKeys := false, apart := false }
def BagOrderSaid : Prop := bagOrderRow.holds Try.pinned (OpenSpec.ofChange bagOrderSpec)

/-- ITS FALSE NEIGHBOUR: 'it returns false'. Refute it at one input. -/
def bagOrderWrong : ChangeSpec := { name := "bagOrder", fn := fun _ => fun
  | [d] => { results := [.lit (.bool false)], args := [d] }
  | _ => none }
def BagOrderWrongFalsely : Prop := bagOrderRow.holds Try.pinned (OpenSpec.ofChange bagOrderWrong)

/-- 'bastidelaw13.BagStay': WHATEVER THE INPUT: true; the input reads as it did. -/
def bagStaySpec : ChangeSpec := { name := "bagStay", fn := fun _ => fun
  | [d1, d2, d3] => { results := [.lit (.bool true)], args := [d1, d2, d3] }
  | _ => none }
def bagStayRow : OpenClaim := { program := "ytjnaenmknbcjmaa", sum := "254b2102b11d8304a15b36c36b6fab51d2ca048855cd2ed54dfb71cd700891b3", func := "bastide/bastidelaw13.BagStay", spec := "bagStay", inPlace := ["sync/atomic.AddInt64", "sync/atomic.LoadInt64"], unfollowed := true, recurses := true, plainKeys := false, apart := false }
def BagStaySaid : Prop := bagStayRow.holds Try.pinned (OpenSpec.ofChange bagStaySpec)

/-- ITS FALSE NEIGHBOUR: 'it returns false'. Refute it at one input. -/
def bagStayWrong : ChangeSpec := { name := "bagStay", fn := fun _ => fun
  | [d1, d2, d3] => { results := [.lit (.bool false)], args := [d1, d2, d3] }
  | _ => none }
def BagStayWrongFalsely : Prop := bagStayRow.holds Try.pinned (OpenSpec.ofChange bagStayWrong)

/- THE SECOND FORM. 'bulk': how many values and letters a reading holds, each counted each time it is reached (what is shared counts as often as it is met; a slice's spare places count too). A statement '..UptoSaid' is the law's where the arguments, and the package variables that the reading takes, are together of bulk at most 1048576: NARROWER than '..Said'. Prove '..Said' where nothing that the law and all that it calls make is longer than what came in: it says more and counts as full. Else prove '..UptoSaid'. A law counts once. -/
mutual
def uptoBulk {H : Type} : DataW H → Nat
  | .lit (.string bytes) => bytes.length + 1
  | .lit _ => 1
  | .nil => 1
  | .ptr d => uptoBulk d + 1
  | .slice elems spare => uptoBulkAll elems + uptoBulkAll spare + 1
  | .agg parts => uptoBulkAll parts + 1
  | .iface _ d => uptoBulk d + 1
  | .map entries => uptoBulkEntries entries + 1
  | .held _ => 1
def uptoBulkAll {H : Type} : List (DataW H) → Nat
  | [] => 0
  | d :: r => uptoBulk d + uptoBulkAll r
def uptoBulkEntries {H : Type} : List (Lit × DataW H) → Nat
  | [] => 0
  | x :: r => uptoBulkEntry x + uptoBulkEntries r
def uptoBulkEntry {H : Type} : Lit × DataW H → Nat
  | (.string bytes, d) => bytes.length + uptoBulk d + 1
  | (_, d) => uptoBulk d + 1
 end
def uptoSmall : (H : Type) → List (DataW H) → Bool := fun _ ds => decide (uptoBulkAll ds ≤ 1048576)
def OpenSpec.upto (s : _root_.Go.ChangeSpec) : _root_.Go.OpenSpec := { _root_.Go.OpenSpec.ofChange s with cond := some uptoSmall }

/-- 'bastidelaw04.TagDeeds', WHERE WHAT IT READS IS OF BULK AT MOST 1048576: true; the input reads as it did. -/
def tagDeedsUptoRow : OpenClaim := { program := "ytjnaenmknbcjmaa", sum := "254b2102b11d8304a15b36c36b6fab51d2ca048855cd2ed54dfb71cd700891b3", func := "bastide/bastidelaw04.TagDeeds", spec := "tagDeeds", inPlace := ["sync/atomic.AddInt64", "sync/atomic.LoadInt64"], plainKeys := false, apart := false, narrowed := true }
def TagDeedsUptoSaid : Prop := tagDeedsUptoRow.holds Try.pinned (OpenSpec.upto tagDeedsSpec)

/-- 'bastidelaw04.TagJust', WHERE WHAT IT READS IS OF BULK AT MOST 1048576: true; the input reads as it did. -/
def tagJustUptoRow : OpenClaim := { program := "ytjnaenmknbcjmaa", sum := "254b2102b11d8304a15b36c36b6fab51d2ca048855cd2ed54dfb71cd700891b3", func := "bastide/bastidelaw04.TagJust", spec := "tagJust", inPlace := ["sync/atomic.AddInt64", "sync/atomic.LoadInt64"], plainKeys := false, apart := false, narrowed := true }
def TagJustUptoSaid : Prop := tagJustUptoRow.holds Try.pinned (OpenSpec.upto tagJustSpec)

/-- 'bastidelaw04.TagStays', WHERE WHAT IT READS IS OF BULK AT MOST 1048576: true; the input reads as it did. -/
def tagStaysUptoRow : OpenClaim := { program := "ytjnaenmknbcjmaa", sum := "254b2102b11d8304a15b36c36b6fab51d2ca048855cd2ed54dfb71cd700891b3", func := "bastide/bastidelaw04.TagStays", spec := "tagStays", inPlace := ["sync/atomic.AddInt64", "sync/atomic.LoadInt64"], plainKeys := false, apart := false, narrowed := true }
def TagStaysUptoSaid : Prop := tagStaysUptoRow.holds Try.pinned (OpenSpec.upto tagStaysSpec)

/-- 'bastidelaw04.TagVector', WHERE WHAT IT READS IS OF BULK AT MOST 1048576: true; the input reads as it did. -/
def tagVectorUptoRow : OpenClaim := { program := "ytjnaenmknbcjmaa", sum := "254b2102b11d8304a15b36c36b6fab51d2ca048855cd2ed54dfb71cd700891b3", func := "bastide/bastidelaw04.TagVector", spec := "tagVector", inPlace := ["sync/atomic.AddInt64", "sync/atomic.LoadInt64"], plainKeys := false, apart := false, narrowed := true }
def TagVectorUptoSaid : Prop := tagVectorUptoRow.holds Try.pinned (OpenSpec.upto tagVectorSpec)

/-- 'bastidelaw04.TagOrder', WHERE WHAT IT READS IS OF BULK AT MOST 1048576: true; the input reads as it did. -/
def tagOrderUptoRow : OpenClaim := { program := "ytjnaenmknbcjmaa", sum := "254b2102b11d8304a15b36c36b6fab51d2ca048855cd2ed54dfb71cd700891b3", func := "bastide/bastidelaw04.TagOrder", spec := "tagOrder", inPlace := ["sync/atomic.AddInt64", "sync/atomic.LoadInt64"], plainKeys := false, apart := false, narrowed := true }
def TagOrderUptoSaid : Prop := tagOrderUptoRow.holds Try.pinned (OpenSpec.upto tagOrderSpec)

/-- 'bastidelaw04.TagAll', WHERE WHAT IT READS IS OF BULK AT MOST 1048576: true; the input reads as it did. -/
def tagAllUptoRow : OpenClaim := { program := "ytjnaenmknbcjmaa", sum := "254b2102b11d8304a15b36c36b6fab51d2ca048855cd2ed54dfb71cd700891b3", func := "bastide/bastidelaw04.TagAll", spec := "tagAll", inPlace := ["sync/atomic.AddInt64", "sync/atomic.LoadInt64"], plainKeys := false, apart := false, narrowed := true }
def TagAllUptoSaid : Prop := tagAllUptoRow.holds Try.pinned (OpenSpec.upto tagAllSpec)

/-- 'bastidelaw04.TagOnce', WHERE WHAT IT READS IS OF BULK AT MOST 1048576: true; the input reads as it did. -/
def tagOnceUptoRow : OpenClaim := { program := "ytjnaenmknbcjmaa", sum := "254b2102b11d8304a15b36c36b6fab51d2ca048855cd2ed54dfb71cd700891b3", func := "bastide/bastidelaw04.TagOnce", spec := "tagOnce", inPlace := ["sync/atomic.AddInt64", "sync/atomic.LoadInt64"], plainKeys := false, apart := false, narrowed := true }
def TagOnceUptoSaid : Prop := tagOnceUptoRow.holds Try.pinned (OpenSpec.upto tagOnceSpec)

/-- 'bastidelaw04.TagKnown', WHERE WHAT IT READS IS OF BULK AT MOST 1048576: true; the input reads as it did. -/
def tagKnownUptoRow : OpenClaim := { program := "ytjnaenmknbcjmaa", sum := "254b2102b11d8304a15b36c36b6fab51d2ca048855cd2ed54dfb71cd700891b3", func := "bastide/bastidelaw04.TagKnown", spec := "tagKnown", inPlace := ["sync/atomic.AddInt64", "sync/atomic.LoadInt64"], plainKeys := false, apart := false, narrowed := true }
def TagKnownUptoSaid : Prop := tagKnownUptoRow.holds Try.pinned (OpenSpec.upto tagKnownSpec)

/-- 'bastidelaw13.BagDeeds', WHERE WHAT IT READS IS OF BULK AT MOST 1048576: true; the input reads as it did. -/
def bagDeedsUptoRow : OpenClaim := { program := "ytjnaenmknbcjmaa", sum := "254b2102b11d8304a15b36c36b6fab51d2ca048855cd2ed54dfb71cd700891b3", func := "bastide/bastidelaw13.BagDeeds", spec := "bagDeeds", inPlace := ["sync/atomic.AddInt64", "sync/atomic.LoadInt64"], unfollowed := true, recurses := true, plainKeys := false, apart := false, narrowed := true }
def BagDeedsUptoSaid : Prop := bagDeedsUptoRow.holds Try.pinned (OpenSpec.upto bagDeedsSpec)

/-- 'bastidelaw13.BagJust', WHERE WHAT IT READS IS OF BULK AT MOST 1048576: true; the input reads as it did. -/
def bagJustUptoRow : OpenClaim := { program := "ytjnaenmknbcjmaa", sum := "254b2102b11d8304a15b36c36b6fab51d2ca048855cd2ed54dfb71cd700891b3", func := "bastide/bastidelaw13.BagJust", spec := "bagJust", inPlace := ["sync/atomic.AddInt64", "sync/atomic.LoadInt64"], unfollowed := true, recurses := true, plainKeys := false, apart := false, narrowed := true }
def BagJustUptoSaid : Prop := bagJustUptoRow.holds Try.pinned (OpenSpec.upto bagJustSpec)

/-- 'bastidelaw13.BagOrder', WHERE WHAT IT READS IS OF BULK AT MOST 1048576: true; the input reads as it did. -/
def bagOrderUptoRow : OpenClaim := { program := "ytjnaenmknbcjmaa", sum := "254b2102b11d8304a15b36c36b6fab51d2ca048855cd2ed54dfb71cd700891b3", func := "bastide/bastidelaw13.BagOrder", spec := "bagOrder", inPlace := ["sync/atomic.AddInt64", "sync/atomic.LoadInt64"], unfollowed := true, recurses := true, plainKeys := false, apart := false, narrowed := true }
def BagOrderUptoSaid : Prop := bagOrderUptoRow.holds Try.pinned (OpenSpec.upto bagOrderSpec)

/-- 'bastidelaw13.BagStay', WHERE WHAT IT READS IS OF BULK AT MOST 1048576: true; the input reads as it did. -/
def bagStayUptoRow : OpenClaim := { program := "ytjnaenmknbcjmaa", sum := "254b2102b11d8304a15b36c36b6fab51d2ca048855cd2ed54dfb71cd700891b3", func := "bastide/bastidelaw13.BagStay", spec := "bagStay", inPlace := ["sync/atomic.AddInt64", "sync/atomic.LoadInt64"], unfollowed := true, recurses := true, plainKeys := false, apart := false, narrowed := true }
def BagStayUptoSaid : Prop := bagStayUptoRow.holds Try.pinned (OpenSpec.upto bagStaySpec)

end Rows
end Go.Proofs.Ytjnaenmknbcjmaa
