/- Arguments that are lists of numbers. -/
import Derived.Test.YtkfekkemfahepaaBagW
import Derived.Test.YtkfekkemfahepaaOpen
namespace Go.Proofs.Ytkfekkemfahepaa
open Go.RowKit
/-- a slice of ints whose elements are R lies from A on -/
def Ints (w : World) (A : Option Addr) (R : List Int) : Prop :=
  R = [] ∨ ∃ b off, A = some ⟨b, off, none⟩ ∧ ∀ k (h : k < R.length), w.cell? ⟨b, off + k, none⟩ = some (.int .i64 R[k])
theorem Ints.get {w : World} {A : Option Addr} {R : List Int} (h : Ints w A R) {k : Nat} (hk : k < R.length) : ∃ b off, A = some ⟨b, off, none⟩ ∧ w.cell? ⟨b, off + k, none⟩ = some (.int .i64 R[k]) := by
  rcases h with rfl | ⟨b, off, rfl, h⟩
  · simp at hk
  · exact ⟨b, off, rfl, h k hk⟩
theorem Ints.kept {w w' : World} {A : Option Addr} {R : List Int} (h : Ints w A R) (hu : Kept w w') : Ints w' A R := by
  rcases h with rfl | ⟨b, off, rfl, h⟩
  · exact .inl rfl
  · exact .inr ⟨b, off, rfl, fun k hk => hu.cell (h k hk) id⟩
end Go.Proofs.Ytkfekkemfahepaa
