/- MADE BY agg.py: whole loads, stores and comparisons of this seat's struct and array types are kept behind names. -/
import Derived.Test.YtkfekkemfahepaaBase
namespace Go.Proofs.Ytkfekkemfahepaa
open Go.RowKit
section
variable (ρ : Operand → Value) (dst : Option Tmp) (x y : Operand) (yt ty : TypeId) (pos : String) (after : Array Edge) (guard : Option (Nat × Bool)) (W : World) (a : Addr)
/-! 28: From (3 cells) -/
@[go_sem ↓] theorem exec_load28 : execOp ρ ⟨dst, .load 28 x, ty, pos, after, guard⟩ = loadRow 28 (ρ x) := rfl
@[go_sem ↓] theorem exec_store28 : execOp ρ ⟨dst, .store 28 x y, ty, pos, after, guard⟩ = storeRow 28 (ρ x) (ρ y) := rfl
@[go_sem ↓] theorem exec_eql28 : execOp ρ ⟨dst, .binOp .eql 28 x y yt, ty, pos, after, guard⟩ = eqRow .eql 28 x y (ρ x) (ρ y) := rfl
@[go_sem ↓] theorem exec_neq28 : execOp ρ ⟨dst, .binOp .neq 28 x y yt, ty, pos, after, guard⟩ = eqRow .neq 28 x y (ρ x) (ρ y) := rfl
theorem sizeOf28 : (Try.prog.info? 28).map (·.size) = some 3 := by kernel_rfl
@[go_sem] theorem row_load28 (h : segB W a 3 = true) : (loadRow 28 (.pointer (some a))).run Try.prog W = .ok (.value (.agg (segV W a 3))) W := run_loadRow 28 3 _ Try.underlying28 rfl sizeOf28 W a h
@[go_sem] theorem row_store28 (g : Nat) (cs : Array Value) (h : rowB W g 3 = true) (hs : cs.size = 3) (h1 : oneB cs = true) : (storeRow 28 (.pointer (some ⟨g, 0, none⟩)) (.agg cs)).run Try.prog W = .ok .skip (W.setRow g cs) := run_storeRow 28 3 sizeOf28 W g cs h hs h1
/-! 29: bastide/api.Envelope (3 cells) -/
@[go_sem ↓] theorem exec_load29 : execOp ρ ⟨dst, .load 29 x, ty, pos, after, guard⟩ = loadRow 29 (ρ x) := rfl
@[go_sem ↓] theorem exec_store29 : execOp ρ ⟨dst, .store 29 x y, ty, pos, after, guard⟩ = storeRow 29 (ρ x) (ρ y) := rfl
@[go_sem ↓] theorem exec_eql29 : execOp ρ ⟨dst, .binOp .eql 29 x y yt, ty, pos, after, guard⟩ = eqRow .eql 29 x y (ρ x) (ρ y) := rfl
@[go_sem ↓] theorem exec_neq29 : execOp ρ ⟨dst, .binOp .neq 29 x y yt, ty, pos, after, guard⟩ = eqRow .neq 29 x y (ρ x) (ρ y) := rfl
theorem sizeOf29 : (Try.prog.info? 29).map (·.size) = some 3 := by kernel_rfl
@[go_sem] theorem row_load29 (h : segB W a 3 = true) : (loadRow 29 (.pointer (some a))).run Try.prog W = .ok (.value (.agg (segV W a 3))) W := run_loadRow 29 3 _ Try.underlying29 rfl sizeOf29 W a h
@[go_sem] theorem row_store29 (g : Nat) (cs : Array Value) (h : rowB W g 3 = true) (hs : cs.size = 3) (h1 : oneB cs = true) : (storeRow 29 (.pointer (some ⟨g, 0, none⟩)) (.agg cs)).run Try.prog W = .ok .skip (W.setRow g cs) := run_storeRow 29 3 sizeOf29 W g cs h hs h1
/-! 30: Kind (6 cells) -/
@[go_sem ↓] theorem exec_load30 : execOp ρ ⟨dst, .load 30 x, ty, pos, after, guard⟩ = loadRow 30 (ρ x) := rfl
@[go_sem ↓] theorem exec_store30 : execOp ρ ⟨dst, .store 30 x y, ty, pos, after, guard⟩ = storeRow 30 (ρ x) (ρ y) := rfl
@[go_sem ↓] theorem exec_eql30 : execOp ρ ⟨dst, .binOp .eql 30 x y yt, ty, pos, after, guard⟩ = eqRow .eql 30 x y (ρ x) (ρ y) := rfl
@[go_sem ↓] theorem exec_neq30 : execOp ρ ⟨dst, .binOp .neq 30 x y yt, ty, pos, after, guard⟩ = eqRow .neq 30 x y (ρ x) (ρ y) := rfl
theorem sizeOf30 : (Try.prog.info? 30).map (·.size) = some 6 := by kernel_rfl
@[go_sem] theorem row_load30 (h : segB W a 6 = true) : (loadRow 30 (.pointer (some a))).run Try.prog W = .ok (.value (.agg (segV W a 6))) W := run_loadRow 30 6 _ Try.underlying30 rfl sizeOf30 W a h
@[go_sem] theorem row_store30 (g : Nat) (cs : Array Value) (h : rowB W g 6 = true) (hs : cs.size = 6) (h1 : oneB cs = true) : (storeRow 30 (.pointer (some ⟨g, 0, none⟩)) (.agg cs)).run Try.prog W = .ok .skip (W.setRow g cs) := run_storeRow 30 6 sizeOf30 W g cs h hs h1
/-! 31: bastide/bastidelaw13.Deed (6 cells) -/
@[go_sem ↓] theorem exec_load31 : execOp ρ ⟨dst, .load 31 x, ty, pos, after, guard⟩ = loadRow 31 (ρ x) := rfl
@[go_sem ↓] theorem exec_store31 : execOp ρ ⟨dst, .store 31 x y, ty, pos, after, guard⟩ = storeRow 31 (ρ x) (ρ y) := rfl
@[go_sem ↓] theorem exec_eql31 : execOp ρ ⟨dst, .binOp .eql 31 x y yt, ty, pos, after, guard⟩ = eqRow .eql 31 x y (ρ x) (ρ y) := rfl
@[go_sem ↓] theorem exec_neq31 : execOp ρ ⟨dst, .binOp .neq 31 x y yt, ty, pos, after, guard⟩ = eqRow .neq 31 x y (ρ x) (ρ y) := rfl
theorem sizeOf31 : (Try.prog.info? 31).map (·.size) = some 6 := by kernel_rfl
@[go_sem] theorem row_load31 (h : segB W a 6 = true) : (loadRow 31 (.pointer (some a))).run Try.prog W = .ok (.value (.agg (segV W a 6))) W := run_loadRow 31 6 _ Try.underlying31 rfl sizeOf31 W a h
@[go_sem] theorem row_store31 (g : Nat) (cs : Array Value) (h : rowB W g 6 = true) (hs : cs.size = 6) (h1 : oneB cs = true) : (storeRow 31 (.pointer (some ⟨g, 0, none⟩)) (.agg cs)).run Try.prog W = .ok .skip (W.setRow g cs) := run_storeRow 31 6 sizeOf31 W g cs h hs h1
/-! 58: _ (1 cells) -/
@[go_sem ↓] theorem exec_load58 : execOp ρ ⟨dst, .load 58 x, ty, pos, after, guard⟩ = loadRow 58 (ρ x) := rfl
@[go_sem ↓] theorem exec_store58 : execOp ρ ⟨dst, .store 58 x y, ty, pos, after, guard⟩ = storeRow 58 (ρ x) (ρ y) := rfl
@[go_sem ↓] theorem exec_eql58 : execOp ρ ⟨dst, .binOp .eql 58 x y yt, ty, pos, after, guard⟩ = eqRow .eql 58 x y (ρ x) (ρ y) := rfl
@[go_sem ↓] theorem exec_neq58 : execOp ρ ⟨dst, .binOp .neq 58 x y yt, ty, pos, after, guard⟩ = eqRow .neq 58 x y (ρ x) (ρ y) := rfl
theorem sizeOf58 : (Try.prog.info? 58).map (·.size) = some 1 := by kernel_rfl
@[go_sem] theorem row_load58 (h : segB W a 1 = true) : (loadRow 58 (.pointer (some a))).run Try.prog W = .ok (.value (.agg (segV W a 1))) W := run_loadRow 58 1 _ Try.underlying58 rfl sizeOf58 W a h
@[go_sem] theorem row_store58 (g : Nat) (cs : Array Value) (h : rowB W g 1 = true) (hs : cs.size = 1) (h1 : oneB cs = true) : (storeRow 58 (.pointer (some ⟨g, 0, none⟩)) (.agg cs)).run Try.prog W = .ok .skip (W.setRow g cs) := run_storeRow 58 1 sizeOf58 W g cs h hs h1
/-! 59: sync/atomic.Int64 (1 cells) -/
@[go_sem ↓] theorem exec_load59 : execOp ρ ⟨dst, .load 59 x, ty, pos, after, guard⟩ = loadRow 59 (ρ x) := rfl
@[go_sem ↓] theorem exec_store59 : execOp ρ ⟨dst, .store 59 x y, ty, pos, after, guard⟩ = storeRow 59 (ρ x) (ρ y) := rfl
@[go_sem ↓] theorem exec_eql59 : execOp ρ ⟨dst, .binOp .eql 59 x y yt, ty, pos, after, guard⟩ = eqRow .eql 59 x y (ρ x) (ρ y) := rfl
@[go_sem ↓] theorem exec_neq59 : execOp ρ ⟨dst, .binOp .neq 59 x y yt, ty, pos, after, guard⟩ = eqRow .neq 59 x y (ρ x) (ρ y) := rfl
theorem sizeOf59 : (Try.prog.info? 59).map (·.size) = some 1 := by kernel_rfl
@[go_sem] theorem row_load59 (h : segB W a 1 = true) : (loadRow 59 (.pointer (some a))).run Try.prog W = .ok (.value (.agg (segV W a 1))) W := run_loadRow 59 1 _ Try.underlying59 rfl sizeOf59 W a h
@[go_sem] theorem row_store59 (g : Nat) (cs : Array Value) (h : rowB W g 1 = true) (hs : cs.size = 1) (h1 : oneB cs = true) : (storeRow 59 (.pointer (some ⟨g, 0, none⟩)) (.agg cs)).run Try.prog W = .ok .skip (W.setRow g cs) := run_storeRow 59 1 sizeOf59 W g cs h hs h1
/-! 60: begun (4 cells) -/
@[go_sem ↓] theorem exec_load60 : execOp ρ ⟨dst, .load 60 x, ty, pos, after, guard⟩ = loadRow 60 (ρ x) := rfl
@[go_sem ↓] theorem exec_store60 : execOp ρ ⟨dst, .store 60 x y, ty, pos, after, guard⟩ = storeRow 60 (ρ x) (ρ y) := rfl
@[go_sem ↓] theorem exec_eql60 : execOp ρ ⟨dst, .binOp .eql 60 x y yt, ty, pos, after, guard⟩ = eqRow .eql 60 x y (ρ x) (ρ y) := rfl
@[go_sem ↓] theorem exec_neq60 : execOp ρ ⟨dst, .binOp .neq 60 x y yt, ty, pos, after, guard⟩ = eqRow .neq 60 x y (ρ x) (ρ y) := rfl
theorem sizeOf60 : (Try.prog.info? 60).map (·.size) = some 4 := by kernel_rfl
@[go_sem] theorem row_load60 (h : segB W a 4 = true) : (loadRow 60 (.pointer (some a))).run Try.prog W = .ok (.value (.agg (segV W a 4))) W := run_loadRow 60 4 _ Try.underlying60 rfl sizeOf60 W a h
@[go_sem] theorem row_store60 (g : Nat) (cs : Array Value) (h : rowB W g 4 = true) (hs : cs.size = 4) (h1 : oneB cs = true) : (storeRow 60 (.pointer (some ⟨g, 0, none⟩)) (.agg cs)).run Try.prog W = .ok .skip (W.setRow g cs) := run_storeRow 60 4 sizeOf60 W g cs h hs h1
/-! 61: bastide/bag.Bag (4 cells) -/
@[go_sem ↓] theorem exec_load61 : execOp ρ ⟨dst, .load 61 x, ty, pos, after, guard⟩ = loadRow 61 (ρ x) := rfl
@[go_sem ↓] theorem exec_store61 : execOp ρ ⟨dst, .store 61 x y, ty, pos, after, guard⟩ = storeRow 61 (ρ x) (ρ y) := rfl
@[go_sem ↓] theorem exec_eql61 : execOp ρ ⟨dst, .binOp .eql 61 x y yt, ty, pos, after, guard⟩ = eqRow .eql 61 x y (ρ x) (ρ y) := rfl
@[go_sem ↓] theorem exec_neq61 : execOp ρ ⟨dst, .binOp .neq 61 x y yt, ty, pos, after, guard⟩ = eqRow .neq 61 x y (ρ x) (ρ y) := rfl
theorem sizeOf61 : (Try.prog.info? 61).map (·.size) = some 4 := by kernel_rfl
@[go_sem] theorem row_load61 (h : segB W a 4 = true) : (loadRow 61 (.pointer (some a))).run Try.prog W = .ok (.value (.agg (segV W a 4))) W := run_loadRow 61 4 _ Try.underlying61 rfl sizeOf61 W a h
@[go_sem] theorem row_store61 (g : Nat) (cs : Array Value) (h : rowB W g 4 = true) (hs : cs.size = 4) (h1 : oneB cs = true) : (storeRow 61 (.pointer (some ⟨g, 0, none⟩)) (.agg cs)).run Try.prog W = .ok .skip (W.setRow g cs) := run_storeRow 61 4 sizeOf61 W g cs h hs h1
/-! 62: L (3 cells) -/
@[go_sem ↓] theorem exec_load62 : execOp ρ ⟨dst, .load 62 x, ty, pos, after, guard⟩ = loadRow 62 (ρ x) := rfl
@[go_sem ↓] theorem exec_store62 : execOp ρ ⟨dst, .store 62 x y, ty, pos, after, guard⟩ = storeRow 62 (ρ x) (ρ y) := rfl
@[go_sem ↓] theorem exec_eql62 : execOp ρ ⟨dst, .binOp .eql 62 x y yt, ty, pos, after, guard⟩ = eqRow .eql 62 x y (ρ x) (ρ y) := rfl
@[go_sem ↓] theorem exec_neq62 : execOp ρ ⟨dst, .binOp .neq 62 x y yt, ty, pos, after, guard⟩ = eqRow .neq 62 x y (ρ x) (ρ y) := rfl
theorem sizeOf62 : (Try.prog.info? 62).map (·.size) = some 3 := by kernel_rfl
@[go_sem] theorem row_load62 (h : segB W a 3 = true) : (loadRow 62 (.pointer (some a))).run Try.prog W = .ok (.value (.agg (segV W a 3))) W := run_loadRow 62 3 _ Try.underlying62 rfl sizeOf62 W a h
@[go_sem] theorem row_store62 (g : Nat) (cs : Array Value) (h : rowB W g 3 = true) (hs : cs.size = 3) (h1 : oneB cs = true) : (storeRow 62 (.pointer (some ⟨g, 0, none⟩)) (.agg cs)).run Try.prog W = .ok .skip (W.setRow g cs) := run_storeRow 62 3 sizeOf62 W g cs h hs h1
/-! 63: bastide/bastideref13.Bag (3 cells) -/
@[go_sem ↓] theorem exec_load63 : execOp ρ ⟨dst, .load 63 x, ty, pos, after, guard⟩ = loadRow 63 (ρ x) := rfl
@[go_sem ↓] theorem exec_store63 : execOp ρ ⟨dst, .store 63 x y, ty, pos, after, guard⟩ = storeRow 63 (ρ x) (ρ y) := rfl
@[go_sem ↓] theorem exec_eql63 : execOp ρ ⟨dst, .binOp .eql 63 x y yt, ty, pos, after, guard⟩ = eqRow .eql 63 x y (ρ x) (ρ y) := rfl
@[go_sem ↓] theorem exec_neq63 : execOp ρ ⟨dst, .binOp .neq 63 x y yt, ty, pos, after, guard⟩ = eqRow .neq 63 x y (ρ x) (ρ y) := rfl
theorem sizeOf63 : (Try.prog.info? 63).map (·.size) = some 3 := by kernel_rfl
@[go_sem] theorem row_load63 (h : segB W a 3 = true) : (loadRow 63 (.pointer (some a))).run Try.prog W = .ok (.value (.agg (segV W a 3))) W := run_loadRow 63 3 _ Try.underlying63 rfl sizeOf63 W a h
@[go_sem] theorem row_store63 (g : Nat) (cs : Array Value) (h : rowB W g 3 = true) (hs : cs.size = 3) (h1 : oneB cs = true) : (storeRow 63 (.pointer (some ⟨g, 0, none⟩)) (.agg cs)).run Try.prog W = .ok .skip (W.setRow g cs) := run_storeRow 63 3 sizeOf63 W g cs h hs h1
end
end Go.Proofs.Ytkfekkemfahepaa
