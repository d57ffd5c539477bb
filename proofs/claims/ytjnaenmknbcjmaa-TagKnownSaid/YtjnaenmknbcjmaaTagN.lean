/- Ledgers that are none: contracts of all methods. -/
import Derived.Test.YtjnaenmknbcjmaaTagE
namespace Go.Proofs.Ytjnaenmknbcjmaa
open Go.RowKit

/-- p is no ledger: nil, or a ledger without a map -/
def NoneAt (w : World) (p : Option Addr) : Prop := p = none ∨ ∃ b, p = some ⟨b, 0, none⟩ ∧ w.heap[b]? = some (.cells #[.map none, .int .i64 0] 57 (0, 0))
theorem NoneAt.upd {S : Nat → Prop} {w w' : World} {p : Option Addr} (h : NoneAt w p) (hu : Upd S w w') (hS : ∀ k, ¬ S k) : NoneAt w' p :=
  h.imp id fun ⟨b, hp, hb⟩ => ⟨b, hp, hu.heap hb (hS b)⟩

theorem tag_map_eq' (w : World) (r : Option Nat) : (binOp .eql 50 (.map r) (.map none)).run Try.prog w = .ok (.bool r.isNone) w :=
  run_eql_map_nil w _ _ _ r Try.underlying50
attribute [local go_sem] tag_map_eq'

theorem none_none {w : World} {p : Option Addr} (h : NoneAt w p) :
    Calls Try.prog 60 #[.pointer p] w fun e w' => e = .returned (.bool true) ∧ w = w' := by
  rcases h with rfl | ⟨b, rfl, hb⟩
  · go_enter Try.func60, Try.ntmps60
    go_wp2
    go_ret
    exact ⟨rfl, rfl⟩
  · have hc : w.cell? ⟨b, 0, none⟩ = some (.map none) := by rw [cell_of_row w b 0 _ _ _ hb]; rfl
    clear hb
    go_enter Try.func60, Try.ntmps60
    go_wp2
    go_ret
    exact ⟨rfl, rfl⟩

theorem none_Tag {w : World} {p : Option Addr} (h : NoneAt w p) (f t : Int) (d : Dig) :
    Calls Try.prog 18 #[.pointer p, .int .i64 f, .int .i64 t, .agg (dA d)] w fun e w' => e = .returned (.int .i64 1) ∧ Kept w w' := by
  have h1 : NoneAt (w.alloc (.cells (dA d) 28)) p := h.upd ((Upd.refl (fun _ => False) w).alloc _) (fun _ => id)
  go_enter Try.func18, Try.ntmps18
  go_wp2_with fail
  refine (none_none h1).mono ?_
  rintro e w' ⟨rfl, rfl⟩
  go_wp2
  go_ret
  exact ⟨rfl, (Upd.refl _ w).alloc _⟩

theorem none_Vector {w : World} {p : Option Addr} (h : NoneAt w p) (f : Int) (d : Dig) (A : Option Addr) (n c : Nat) :
    Calls Try.prog 22 #[.pointer p, .int .i64 f, .slice A n c, .agg (dA d)] w fun e w' => e = .returned (.int .i64 1) ∧ Kept w w' := by
  have h1 : NoneAt (w.alloc (.cells (dA d) 28)) p := h.upd ((Upd.refl (fun _ => False) w).alloc _) (fun _ => id)
  go_enter Try.func22, Try.ntmps22
  go_wp2_with fail
  refine (none_none h1).mono ?_
  rintro e w' ⟨rfl, rfl⟩
  go_wp2
  go_ret
  exact ⟨rfl, (Upd.refl _ w).alloc _⟩

theorem none_Check {w : World} {p : Option Addr} (h : NoneAt w p) (f t : Int) (d : Dig) :
    Calls Try.prog 25 #[.pointer p, .int .i64 f, .int .i64 t, .agg (dA d)] w fun e w' => e = .returned (.bool false) ∧ Kept w w' := by
  have h1 : NoneAt (w.alloc (.cells (dA d) 28)) p := h.upd ((Upd.refl (fun _ => False) w).alloc _) (fun _ => id)
  go_enter Try.func25, Try.ntmps25
  go_wp2_with fail
  refine (none_none h1).mono ?_
  rintro e w' ⟨rfl, rfl⟩
  go_wp2
  go_ret
  exact ⟨rfl, (Upd.refl _ w).alloc _⟩

theorem none_Len {w : World} {p : Option Addr} (h : NoneAt w p) :
    Calls Try.prog 27 #[.pointer p] w fun e w' => e = .returned (.int .i64 0) ∧ w = w' := by
  go_enter Try.func27, Try.ntmps27
  go_wp2_with fail
  refine (none_none h).mono ?_
  rintro e w' ⟨rfl, rfl⟩
  go_wp2
  go_ret
  exact ⟨rfl, rfl⟩
theorem none_Asked {w : World} {p : Option Addr} (h : NoneAt w p) :
    Calls Try.prog 29 #[.pointer p] w fun e w' => e = .returned (.int .i64 0) ∧ w = w' := by
  go_enter Try.func29, Try.ntmps29
  go_wp2_with fail
  refine (none_none h).mono ?_
  rintro e w' ⟨rfl, rfl⟩
  go_wp2
  go_ret
  exact ⟨rfl, rfl⟩
end Go.Proofs.Ytjnaenmknbcjmaa
