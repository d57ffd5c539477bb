/- Bags that are none: contracts of all methods. -/
import Derived.Test.YtkfekkemfahepaaBagG
namespace Go.Proofs.Ytkfekkemfahepaa
open Go.RowKit

/-- p is no bag: nil, or one that New did not make -/
def NoneB (w : World) (p : Option Addr) : Prop := p = none ∨ ∃ b, p = some ⟨b, 0, none⟩ ∧ w.heap[b]? = some (.cells #[.bool false, .slice none 0 0, .int .i64 0, .int .i64 0] 61 (0, 0))
theorem NoneB.kept {w w' : World} {p : Option Addr} (h : NoneB w p) (hu : Kept w w') : NoneB w' p := h.imp id fun ⟨b, hp, hb⟩ => ⟨b, hp, hu.heap hb id⟩

theorem noneb_none {w : World} {p : Option Addr} (h : NoneB w p) :
    Calls Try.prog 39 #[.pointer p] w fun e w' => e = .returned (.bool true) ∧ w = w' := by
  rcases h with rfl | ⟨b, rfl, hb⟩
  · go_enter Try.func39, Try.ntmps39
    go_wp2
    go_ret
    exact ⟨rfl, rfl⟩
  · have hc : w.cell? ⟨b, 0, none⟩ = some (.bool false) := by rw [cell_of_row w b 0 _ _ _ hb]; rfl
    clear hb
    go_enter Try.func39, Try.ntmps39
    go_wp2
    go_ret
    exact ⟨rfl, rfl⟩
theorem noneb_Put {w : World} {p : Option Addr} (h : NoneB w p) (x : EnvC) :
    Calls Try.prog 13 #[.pointer p, .agg (envA x)] w fun e w' => e = .returned (.int .i64 1) ∧ Kept w w' := by
  have hk : Kept w (w.alloc (.cells (envA x) 29)) := (Upd.refl _ w).alloc _
  go_enter Try.func13, Try.ntmps13
  go_wp2_with fail
  refine (noneb_none (h.kept hk)).mono ?_
  rintro e w' ⟨rfl, rfl⟩
  go_wp2
  go_ret
  exact ⟨rfl, hk⟩
theorem noneb_Look {w : World} {p : Option Addr} (h : NoneB w p) (i : Int) :
    Calls Try.prog 18 #[.pointer p, .int .i64 i] w fun e w' => e = .returned (.tuple #[.agg (envA envZ), .int .i64 1]) ∧ Kept w w' := by
  have hg := EnvAt.new w envZ
  have hk : Kept w (w.alloc (.cells (envA envZ) 29)) := (Upd.refl _ w).alloc _
  go_enter Try.func18, Try.ntmps18
  go_wp2_with fail
  have h2 := h.kept hk
  generalize w.alloc (.cells (envA envZ) 29) = W2 at *
  refine (noneb_none h2).mono ?_
  rintro e w' ⟨rfl, rfl⟩
  have p1 := hg.row
  have HG := Lib.hid (hg.setRow envZ)
  have HK := Lib.hid (hk.setRow (g := w.heap.size) (envA envZ) fun h => by omega)
  clear hg hk h h2
  go_wp2
  refine bodyPost_ret (v := .tuple #[.agg (envA envZ), .int .i64 1]) ?_ rfl ⟨rfl, HK.out⟩
  rw [results_seg2 (P := Try.prog) (fn := Try.f18) rfl _ _ ⟨w.heap.size, 0, none⟩ 3 _ _ rfl rfl Try.underlying29 rfl sizeOf29 HG.out.s1, HG.out.s2]
  try rfl
theorem noneb_Take {w : World} {p : Option Addr} (h : NoneB w p) (i : Int) :
    Calls Try.prog 20 #[.pointer p, .int .i64 i] w fun e w' => e = .returned (.tuple #[.agg (envA envZ), .int .i64 1]) ∧ Kept w w' := by
  have hg := EnvAt.new w envZ
  have hk : Kept w (w.alloc (.cells (envA envZ) 29)) := (Upd.refl _ w).alloc _
  go_enter Try.func20, Try.ntmps20
  go_wp2_with fail
  have h2 := h.kept hk
  generalize w.alloc (.cells (envA envZ) 29) = W2 at *
  refine (noneb_Look h2 i).mono ?_
  rintro e W3 ⟨rfl, hu⟩
  have p2 := (hg.kept hu).row
  have p3 := (hg.kept hu).lt
  have hg3 : EnvAt (W3.alloc (.cells (envA envZ) 29)) w.heap.size envZ := (hg.kept hu).kept ((Upd.refl _ W3).alloc _)
  have p1 := hg3.row
  have HG := Lib.hid ((hg.kept hu).setRow envZ)
  have HK := Lib.hid ((hk.then hu fun _ _ h => h).setRow (g := w.heap.size) (envA envZ) fun h => by omega)
  clear hg hk hu hg3 h h2
  go_wp2
  refine bodyPost_ret (v := .tuple #[.agg (envA envZ), .int .i64 1]) ?_ rfl ⟨rfl, HK.out.alloc _⟩
  have HG2 : EnvAt ((W3.setRow w.heap.size (envA envZ)).alloc (.cells (envA envZ) 29)) w.heap.size envZ := HG.out.kept ((Upd.refl _ _).alloc _)
  rw [results_seg2 (P := Try.prog) (fn := Try.f20) rfl _ _ ⟨w.heap.size, 0, none⟩ 3 _ _ rfl rfl Try.underlying29 rfl sizeOf29 HG2.s1, HG2.s2]
  try rfl
theorem noneb_Drop {w : World} {p : Option Addr} (h : NoneB w p) (i : Int) :
    Calls Try.prog 22 #[.pointer p, .int .i64 i] w fun e w' => e = .returned (.int .i64 1) ∧ Kept w w' := by
  go_enter Try.func22, Try.ntmps22
  go_wp2_with fail
  refine (noneb_Take h i).mono ?_
  rintro e W3 ⟨rfl, hu⟩
  have HU := Lib.hid hu
  clear hu h
  go_wp2
  go_ret
  exact ⟨rfl, HU.out.alloc _⟩
theorem noneb_Double {w : World} {p : Option Addr} (h : NoneB w p) (i : Int) :
    Calls Try.prog 24 #[.pointer p, .int .i64 i] w fun e w' => e = .returned (.int .i64 1) ∧ Kept w w' := by
  go_enter Try.func24, Try.ntmps24
  go_wp2_with fail
  refine (noneb_Look h i).mono ?_
  rintro e W3 ⟨rfl, hu⟩
  have HU := Lib.hid hu
  clear hu h
  go_wp2
  go_ret
  exact ⟨rfl, HU.out.alloc _⟩
theorem noneb_Next {w : World} {p : Option Addr} (h : NoneB w p) (set : Int) :
    Calls Try.prog 26 #[.pointer p, .int .i64 set] w fun e w' => e = .returned (.int .i64 (-1)) ∧ Kept w w' := by
  have hk : Kept w (w.alloc (.cells #[.int .i64 set] 3)) := (Upd.refl _ w).alloc _
  go_enter Try.func26, Try.ntmps26
  go_wp2_with fail
  refine (noneb_none (h.kept hk)).mono ?_
  rintro e w' ⟨rfl, rfl⟩
  go_wp2
  go_ret
  exact ⟨rfl, hk⟩
theorem noneb_Len {w : World} {p : Option Addr} (h : NoneB w p) : Calls Try.prog 28 #[.pointer p] w fun e w' => e = .returned (.int .i64 0) ∧ w = w' := by
  go_enter Try.func28, Try.ntmps28
  go_wp2_with fail
  refine (noneb_none h).mono ?_
  rintro e w' ⟨rfl, rfl⟩
  go_wp2
  go_ret
  exact ⟨rfl, rfl⟩
theorem noneb_Sent {w : World} {p : Option Addr} (h : NoneB w p) : Calls Try.prog 30 #[.pointer p] w fun e w' => e = .returned (.int .i64 0) ∧ w = w' := by
  go_enter Try.func30, Try.ntmps30
  go_wp2_with fail
  refine (noneb_none h).mono ?_
  rintro e w' ⟨rfl, rfl⟩
  go_wp2
  go_ret
  exact ⟨rfl, rfl⟩
theorem noneb_Lost {w : World} {p : Option Addr} (h : NoneB w p) : Calls Try.prog 32 #[.pointer p] w fun e w' => e = .returned (.int .i64 0) ∧ w = w' := by
  go_enter Try.func32, Try.ntmps32
  go_wp2_with fail
  refine (noneb_none h).mono ?_
  rintro e w' ⟨rfl, rfl⟩
  go_wp2
  go_ret
  exact ⟨rfl, rfl⟩

/-! ### bytes made -/
def makeRow (t : TypeId) (l c : Value) : Sem Next := do pure (.value (← Instr.makeSlice t l c))
@[go_sem ↓] theorem exec_make_bytes (ρ : Operand → Value) (dst : Option Tmp) (l c : Operand) (ty : TypeId) (pos : String) (after : Array Edge) (guard : Option (Nat × Bool)) :
    execOp ρ ⟨dst, .makeSlice 27 l c, ty, pos, after, guard⟩ = makeRow 27 (ρ l) (ρ c) := rfl
def zerosN (n : Nat) : Array Value := madeCells #[.int .u8 0] n
theorem run_make_n (n : Nat) (hn : n ≤ 16777216) (W : World) : (makeRow 27 (.int .i64 n) (.int .i64 n)).run Try.prog W = .ok (.value (.slice (some ⟨W.heap.size, 0, none⟩) n n)) (W.alloc (.cells (zerosN n) 5)) := by
  obtain ⟨i0, hi, hz0, hz1, hz2⟩ := u8_info
  have h := run_makeSlice (P := Try.prog) W 27 5 i0 (.int .u8 0) Try.underlying27 hi hz0 .i64 .i64 (n : Int) n (by omega) (Int.le_refl _) (by rw [hz1]; omega) (by rw [hz2]; omega) (by omega)
  have hn' : ((n : Int)).toNat = n := by omega
  rw [hz1, hn', Nat.mul_one] at h
  simp only [makeRow, Sem.run_bind, h, Result.andThen_ok, Sem.run_pure]
  rfl
@[go_sem] theorem run_make_long (W : World) : (makeRow 27 (.int .i64 65537) (.int .i64 65537)).run Try.prog W = .ok (.value (.slice (some ⟨W.heap.size, 0, none⟩) 65537 65537)) (W.alloc (.cells (zerosN 65537) 5)) := run_make_n 65537 (by omega) W
@[go_sem] theorem run_make_most (W : World) : (makeRow 27 (.int .i64 65536) (.int .i64 65536)).run Try.prog W = .ok (.value (.slice (some ⟨W.heap.size, 0, none⟩) 65536 65536)) (W.alloc (.cells (zerosN 65536) 5)) := run_make_n 65536 (by omega) W
theorem zeros_note {W : World} {g n : Nat} (f t : Int) (hn : n ≤ 140737488351232) (h : W.heap[g]? = some (.cells (zerosN n) 5 (0, 0))) : NoteAt W ⟨f, t, some ⟨g, 0, none⟩, n, n⟩ (f, t, List.replicate n 0) := by
  refine ⟨rfl, rfl, by simp, .inr ⟨g, 0, rfl, fun k hk => ?_⟩, by simpa using hn⟩
  rw [List.length_replicate] at hk
  rw [cell_of_row _ _ _ _ _ _ h]
  simp [zerosN, madeCells, hk, Nat.mod_one]
end Go.Proofs.Ytkfekkemfahepaa
