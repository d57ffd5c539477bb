/-
  No cell of these rows narrows 'for every input' (looked for: loops, veiled, ifaces, maps, wideKeys, modest, calm, conditions, laid).
  DERIVED. THE GIVEN ROWS OF THIS SEAT. 8 by the template 'for every input the law returns true; each argument reads behind the call as it read before'; 0 by the template 'total and deterministic' (their statements: YtkfekkemfahepaaTotals.lean).
  GIVEN WITH THE SEED: the statements are not yours to turn. If you find one false, say at which input.
  Laid BY PROGRAM, IN A SANDBOX (cutbox-rows.mjs): the forced cells as the released guide's own fill.sh prints them over the translation 9c360bd6ba851024… (all of the seat's roots in one cut). By AI agents, Wed Nov 11 2026. No macro, syntax, notation, axiom, sorry.
-/
import Derived.Test.YtkfekkemfahepaaChecked
import GoSem.Claim
import GoSem.ClaimJoined
import GoSem.ClaimMapViews
import Derived.JoinedTies
import Derived.KernelRfl
namespace Go.Proofs.Ytkfekkemfahepaa
/- THE CELL 'sum', in the pinned program and in every row, IS THE sha256 OF THE DUMP (.gsa) THAT YtkfekkemfahepaaProg.lean LOADS. Nothing in Lean hashes anything: it is a label: what it is worth is what the hold of that sum in a sandbox is worth. -/
noncomputable def Try.pinned : Pinned := { name := "ytkfekkemfahepaa", sum := "9c360bd6ba851024191679e2198ba3c9b9b72ff2601b1d22fd9c7e6dd9f28869", checked := Try.checked }
namespace Rows
def none {H : Type} : Left H := { results := [], args := [] }

/-- 'bastidelaw13.BagDeeds': WHATEVER THE INPUT: true; the input reads as it did. -/
def bagDeedsSpec : ChangeSpec := { name := "bagDeeds", fn := fun _ => fun
  | [d] => { results := [.lit (.bool true)], args := [d] }
  | _ => none }
def bagDeedsRow : OpenClaim := { program := "ytkfekkemfahepaa", sum := "9c360bd6ba851024191679e2198ba3c9b9b72ff2601b1d22fd9c7e6dd9f28869", func := "bastide/bastidelaw13.BagDeeds", spec := "bagDeeds", inPlace := ["sync/atomic.AddInt64", "sync/atomic.LoadInt64"], unfollowed := true, recurses := true, apart := false }
def BagDeedsSaid : Prop := bagDeedsRow.holds Try.pinned (OpenSpec.ofChange bagDeedsSpec)

/-- ITS FALSE NEIGHBOUR: 'it returns false'. Refute it at one input. -/
def bagDeedsWrong : ChangeSpec := { name := "bagDeeds", fn := fun _ => fun
  | [d] => { results := [.lit (.bool false)], args := [d] }
  | _ => none }
def BagDeedsWrongFalsely : Prop := bagDeedsRow.holds Try.pinned (OpenSpec.ofChange bagDeedsWrong)

/-- 'bastidelaw13.BagJust': WHATEVER THE INPUT: true; the input reads as it did. -/
def bagJustSpec : ChangeSpec := { name := "bagJust", fn := fun _ => fun
  | [d] => { results := [.lit (.bool true)], args := [d] }
  | _ => none }
def bagJustRow : OpenClaim := { program := "ytkfekkemfahepaa", sum := "9c360bd6ba851024191679e2198ba3c9b9b72ff2601b1d22fd9c7e6dd9f28869", func := "bastide/bastidelaw13.BagJust", spec := "bagJust", inPlace := ["sync/atomic.AddInt64", "sync/atomic.LoadInt64"], unfollowed := true, recurses := true, apart := false }
def BagJustSaid : Prop := bagJustRow.holds Try.pinned (OpenSpec.ofChange bagJustSpec)

/-- ITS FALSE NEIGHBOUR: 'it returns false'. Refute it at one input. -/
def bagJustWrong : ChangeSpec := { name := "bagJust", fn := fun _ => fun
  | [d] => { results := [.lit (.bool false)], args := [d] }
  | _ => none }
def BagJustWrongFalsely : Prop := bagJustRow.holds Try.pinned (OpenSpec.ofChange bagJustWrong)

/-- 'bastidelaw13.BagOrder': WHATEVER THE INPUT: true; the input reads as it did. -/
def bagOrderSpec : ChangeSpec := { name := "bagOrder", fn := fun _ => fun
  | [d] => { results := [.lit (.bool true)], args := [d] }
  | _ => none }
def bagOrderRow : OpenClaim := { program := "ytkfekkemfahepaa", sum := "9c360bd6ba851024191679e2198ba3c9b9b72ff2601b1d22fd9c7e6dd9f28869", func := "bastide/bastidelaw13.BagOrder", spec := "bagOrder", inPlace := ["sync/atomic.AddInt64", "sync/atomic.LoadInt64"], unfollowed := true, recurses := true, apart := false }
def BagOrderSaid : Prop := bagOrderRow.holds Try.pinned (OpenSpec.ofChange bagOrderSpec)

/-- ITS FALSE NEIGHBOUR: 'it returns false'. Refute it at one input. -/
def bagOrderWrong : ChangeSpec := { name := "bagOrder", fn := fun _ => fun
  | [d] => { results := [.lit (.bool false)], args := [d] }
  | _ => none }
def BagOrderWrongFalsely : Prop := bagOrderRow.holds Try.pinned (OpenSpec.ofChange bagOrderWrong)

/-- 'bastidelaw13.BagStay': WHATEVER THE INPUT: true; the input reads as it did. -/
def bagStaySpec : ChangeSpec := { name := "bagStay", fn := fun _ => fun
  | [d1, d2, d3] => { results := [.lit (.bool true)], args := [d1, d2, d3] }
  | _ => none }
def bagStayRow : OpenClaim := { program := "ytkfekkemfahepaa", sum := "9c360bd6ba851024191679e2198ba3c9b9b72ff2601b1d22fd9c7e6dd9f28869", func := "bastide/bastidelaw13.BagStay", spec := "bagStay", inPlace := ["sync/atomic.AddInt64", "sync/atomic.LoadInt64"], unfollowed := true, recurses := true, apart := false }
def BagStaySaid : Prop := bagStayRow.holds Try.pinned (OpenSpec.ofChange bagStaySpec)

/-- ITS FALSE NEIGHBOUR: 'it returns false'. Refute it at one input. -/
def bagStayWrong : ChangeSpec := { name := "bagStay", fn := fun _ => fun
  | [d1, d2, d3] => { results := [.lit (.bool false)], args := [d1, d2, d3] }
  | _ => none }
def BagStayWrongFalsely : Prop := bagStayRow.holds Try.pinned (OpenSpec.ofChange bagStayWrong)

/-- 'bastidelaw13.BagDouble': WHATEVER THE INPUT: true; the input reads as it did. -/
def bagDoubleSpec : ChangeSpec := { name := "bagDouble", fn := fun _ => fun
  | [d1, d2] => { results := [.lit (.bool true)], args := [d1, d2] }
  | _ => none }
def bagDoubleRow : OpenClaim := { program := "ytkfekkemfahepaa", sum := "9c360bd6ba851024191679e2198ba3c9b9b72ff2601b1d22fd9c7e6dd9f28869", func := "bastide/bastidelaw13.BagDouble", spec := "bagDouble", inPlace := ["sync/atomic.AddInt64", "sync/atomic.LoadInt64"], unfollowed := true, recurses := true, apart := false }
def BagDoubleSaid : Prop := bagDoubleRow.holds Try.pinned (OpenSpec.ofChange bagDoubleSpec)

/-- ITS FALSE NEIGHBOUR: 'it returns false'. Refute it at one input. -/
def bagDoubleWrong : ChangeSpec := { name := "bagDouble", fn := fun _ => fun
  | [d1, d2] => { results := [.lit (.bool false)], args := [d1, d2] }
  | _ => none }
def BagDoubleWrongFalsely : Prop := bagDoubleRow.holds Try.pinned (OpenSpec.ofChange bagDoubleWrong)

/-- 'bastidelaw13.BagNext': WHATEVER THE INPUT: true; the input reads as it did. -/
def bagNextSpec : ChangeSpec := { name := "bagNext", fn := fun _ => fun
  | [d1, d2] => { results := [.lit (.bool true)], args := [d1, d2] }
  | _ => none }
def bagNextRow : OpenClaim := { program := "ytkfekkemfahepaa", sum := "9c360bd6ba851024191679e2198ba3c9b9b72ff2601b1d22fd9c7e6dd9f28869", func := "bastide/bastidelaw13.BagNext", spec := "bagNext", inPlace := ["sync/atomic.AddInt64", "sync/atomic.LoadInt64"], unfollowed := true, recurses := true, apart := false }
def BagNextSaid : Prop := bagNextRow.holds Try.pinned (OpenSpec.ofChange bagNextSpec)

/-- ITS FALSE NEIGHBOUR: 'it returns false'. Refute it at one input. -/
def bagNextWrong : ChangeSpec := { name := "bagNext", fn := fun _ => fun
  | [d1, d2] => { results := [.lit (.bool false)], args := [d1, d2] }
  | _ => none }
def BagNextWrongFalsely : Prop := bagNextRow.holds Try.pinned (OpenSpec.ofChange bagNextWrong)

/-- 'bastidelaw13.BagRefused': WHATEVER THE INPUT: true; the input reads as it did. -/
def bagRefusedSpec : ChangeSpec := { name := "bagRefused", fn := fun _ => fun
  | [d1, d2, d3] => { results := [.lit (.bool true)], args := [d1, d2, d3] }
  | _ => none }
def bagRefusedRow : OpenClaim := { program := "ytkfekkemfahepaa", sum := "9c360bd6ba851024191679e2198ba3c9b9b72ff2601b1d22fd9c7e6dd9f28869", func := "bastide/bastidelaw13.BagRefused", spec := "bagRefused", inPlace := ["sync/atomic.AddInt64", "sync/atomic.LoadInt64"], unfollowed := true, recurses := true, apart := false }
def BagRefusedSaid : Prop := bagRefusedRow.holds Try.pinned (OpenSpec.ofChange bagRefusedSpec)

/-- ITS FALSE NEIGHBOUR: 'it returns false'. Refute it at one input. -/
def bagRefusedWrong : ChangeSpec := { name := "bagRefused", fn := fun _ => fun
  | [d1, d2, d3] => { results := [.lit (.bool false)], args := [d1, d2, d3] }
  | _ => none }
def BagRefusedWrongFalsely : Prop := bagRefusedRow.holds Try.pinned (OpenSpec.ofChange bagRefusedWrong)

/-- 'bastidelaw13.BagKnown': WHATEVER THE INPUT: true; the input reads as it did. -/
def bagKnownSpec : ChangeSpec := { name := "bagKnown", fn := fun _ => fun
  | [] => { results := [.lit (.bool true)], args := [] }
  | _ => none }
def bagKnownRow : OpenClaim := { program := "ytkfekkemfahepaa", sum := "9c360bd6ba851024191679e2198ba3c9b9b72ff2601b1d22fd9c7e6dd9f28869", func := "bastide/bastidelaw13.BagKnown", spec := "bagKnown", inPlace := ["sync/atomic.AddInt64", "sync/atomic.LoadInt64"], unfollowed := true, recurses := true, apart := false }
def BagKnownSaid : Prop := bagKnownRow.holds Try.pinned (OpenSpec.ofChange bagKnownSpec)

/-- ITS FALSE NEIGHBOUR: 'it returns false'. Refute it at one input. -/
def bagKnownWrong : ChangeSpec := { name := "bagKnown", fn := fun _ => fun
  | [] => { results := [.lit (.bool false)], args := [] }
  | _ => none }
def BagKnownWrongFalsely : Prop := bagKnownRow.holds Try.pinned (OpenSpec.ofChange bagKnownWrong)

/- THE SECOND FORM. 'bulk': how many values and letters a reading holds, each counted each time it is reached (what is shared counts as often as it is met; a slice's spare places count too). A statement '..UptoSaid' is the law's where the arguments, and the package variables that the reading takes, are together of bulk at most 1048576: NARROWER than '..Said'. Prove '..Said' where nothing that the law and all that it calls make is longer than what came in: it says more and counts as full. Else prove '..UptoSaid'. A law counts once. -/
mutual
def uptoBulk {H : Type} : DataW H → Nat
  | .lit (.string bytes) => bytes.length + 1
  | .lit _ => 1
  | .nil => 1
  | .ptr d => uptoBulk d + 1
  | .slice elems spare => uptoBulkAll elems + uptoBulkAll spare + 1
  | .agg parts => uptoBulkAll parts + 1
  | .iface _ d => uptoBulk d + 1
  | .map entries => uptoBulkEntries entries + 1
  | .held _ => 1
def uptoBulkAll {H : Type} : List (DataW H) → Nat
  | [] => 0
  | d :: r => uptoBulk d + uptoBulkAll r
def uptoBulkEntries {H : Type} : List (Lit × DataW H) → Nat
  | [] => 0
  | x :: r => uptoBulkEntry x + uptoBulkEntries r
def uptoBulkEntry {H : Type} : Lit × DataW H → Nat
  | (.string bytes, d) => bytes.length + uptoBulk d + 1
  | (_, d) => uptoBulk d + 1
 end
def uptoSmall : (H : Type) → List (DataW H) → Bool := fun _ ds => decide (uptoBulkAll ds ≤ 1048576)
def OpenSpec.upto (s : _root_.Go.ChangeSpec) : _root_.Go.OpenSpec := { _root_.Go.OpenSpec.ofChange s with cond := some uptoSmall }

/-- 'bastidelaw13.BagDeeds', WHERE WHAT IT READS IS OF BULK AT MOST 1048576: true; the input reads as it did. -/
def bagDeedsUptoRow : OpenClaim := { program := "ytkfekkemfahepaa", sum := "9c360bd6ba851024191679e2198ba3c9b9b72ff2601b1d22fd9c7e6dd9f28869", func := "bastide/bastidelaw13.BagDeeds", spec := "bagDeeds", inPlace := ["sync/atomic.AddInt64", "sync/atomic.LoadInt64"], unfollowed := true, recurses := true, apart := false, narrowed := true }
def BagDeedsUptoSaid : Prop := bagDeedsUptoRow.holds Try.pinned (OpenSpec.upto bagDeedsSpec)

/-- 'bastidelaw13.BagJust', WHERE WHAT IT READS IS OF BULK AT MOST 1048576: true; the input reads as it did. -/
def bagJustUptoRow : OpenClaim := { program := "ytkfekkemfahepaa", sum := "9c360bd6ba851024191679e2198ba3c9b9b72ff2601b1d22fd9c7e6dd9f28869", func := "bastide/bastidelaw13.BagJust", spec := "bagJust", inPlace := ["sync/atomic.AddInt64", "sync/atomic.LoadInt64"], unfollowed := true, recurses := true, apart := false, narrowed := true }
def BagJustUptoSaid : Prop := bagJustUptoRow.holds Try.pinned (OpenSpec.upto bagJustSpec)

/-- 'bastidelaw13.BagOrder', WHERE WHAT IT READS IS OF BULK AT MOST 1048576: true; the input reads as it did. -/
def bagOrderUptoRow : OpenClaim := { program := "ytkfekkemfahepaa", sum := "9c360bd6ba851024191679e2198ba3c9b9b72ff2601b1d22fd9c7e6dd9f28869", func := "bastide/bastidelaw13.BagOrder", spec := "bagOrder", inPlace := ["sync/atomic.AddInt64", "sync/atomic.LoadInt64"], unfollowed := true, recurses := true, apart := false, narrowed := true }
def BagOrderUptoSaid : Prop := bagOrderUptoRow.holds Try.pinned (OpenSpec.upto bagOrderSpec)

/-- 'bastidelaw13.BagStay', WHERE WHAT IT READS IS OF BULK AT MOST 1048576: true; the input reads as it did. -/
def bagStayUptoRow : OpenClaim := { program := "ytkfekkemfahepaa", sum := "9c360bd6ba851024191679e2198ba3c9b9b72ff2601b1d22fd9c7e6dd9f28869", func := "bastide/bastidelaw13.BagStay", spec := "bagStay", inPlace := ["sync/atomic.AddInt64", "sync/atomic.LoadInt64"], unfollowed := true, recurses := true, apart := false, narrowed := true }
def BagStayUptoSaid : Prop := bagStayUptoRow.holds Try.pinned (OpenSpec.upto bagStaySpec)

/-- 'bastidelaw13.BagDouble', WHERE WHAT IT READS IS OF BULK AT MOST 1048576: true; the input reads as it did. -/
def bagDoubleUptoRow : OpenClaim := { program := "ytkfekkemfahepaa", sum := "9c360bd6ba851024191679e2198ba3c9b9b72ff2601b1d22fd9c7e6dd9f28869", func := "bastide/bastidelaw13.BagDouble", spec := "bagDouble", inPlace := ["sync/atomic.AddInt64", "sync/atomic.LoadInt64"], unfollowed := true, recurses := true, apart := false, narrowed := true }
def BagDoubleUptoSaid : Prop := bagDoubleUptoRow.holds Try.pinned (OpenSpec.upto bagDoubleSpec)

/-- 'bastidelaw13.BagNext', WHERE WHAT IT READS IS OF BULK AT MOST 1048576: true; the input reads as it did. -/
def bagNextUptoRow : OpenClaim := { program := "ytkfekkemfahepaa", sum := "9c360bd6ba851024191679e2198ba3c9b9b72ff2601b1d22fd9c7e6dd9f28869", func := "bastide/bastidelaw13.BagNext", spec := "bagNext", inPlace := ["sync/atomic.AddInt64", "sync/atomic.LoadInt64"], unfollowed := true, recurses := true, apart := false, narrowed := true }
def BagNextUptoSaid : Prop := bagNextUptoRow.holds Try.pinned (OpenSpec.upto bagNextSpec)

/-- 'bastidelaw13.BagRefused', WHERE WHAT IT READS IS OF BULK AT MOST 1048576: true; the input reads as it did. -/
def bagRefusedUptoRow : OpenClaim := { program := "ytkfekkemfahepaa", sum := "9c360bd6ba851024191679e2198ba3c9b9b72ff2601b1d22fd9c7e6dd9f28869", func := "bastide/bastidelaw13.BagRefused", spec := "bagRefused", inPlace := ["sync/atomic.AddInt64", "sync/atomic.LoadInt64"], unfollowed := true, recurses := true, apart := false, narrowed := true }
def BagRefusedUptoSaid : Prop := bagRefusedUptoRow.holds Try.pinned (OpenSpec.upto bagRefusedSpec)

/-- 'bastidelaw13.BagKnown', WHERE WHAT IT READS IS OF BULK AT MOST 1048576: true; the input reads as it did. -/
def bagKnownUptoRow : OpenClaim := { program := "ytkfekkemfahepaa", sum := "9c360bd6ba851024191679e2198ba3c9b9b72ff2601b1d22fd9c7e6dd9f28869", func := "bastide/bastidelaw13.BagKnown", spec := "bagKnown", inPlace := ["sync/atomic.AddInt64", "sync/atomic.LoadInt64"], unfollowed := true, recurses := true, apart := false, narrowed := true }
def BagKnownUptoSaid : Prop := bagKnownUptoRow.holds Try.pinned (OpenSpec.upto bagKnownSpec)

end Rows
end Go.Proofs.Ytkfekkemfahepaa
