/- MADE BY agg.py: whole loads, stores and comparisons of this seat's struct and array types are kept behind names. -/
import Derived.Test.YtjimamgghkgdeaaBase
namespace Go.Proofs.Ytjimamgghkgdeaa
open Go.RowKit
section
variable (ρ : Operand → Value) (dst : Option Tmp) (x y : Operand) (yt ty : TypeId) (pos : String) (after : Array Edge) (guard : Option (Nat × Bool)) (W : World) (a : Addr)
/-! 33: At (2 cells) -/
@[go_sem ↓] theorem exec_load33 : execOp ρ ⟨dst, .load 33 x, ty, pos, after, guard⟩ = loadRow 33 (ρ x) := rfl
@[go_sem ↓] theorem exec_store33 : execOp ρ ⟨dst, .store 33 x y, ty, pos, after, guard⟩ = storeRow 33 (ρ x) (ρ y) := rfl
@[go_sem ↓] theorem exec_eql33 : execOp ρ ⟨dst, .binOp .eql 33 x y yt, ty, pos, after, guard⟩ = eqRow .eql 33 x y (ρ x) (ρ y) := rfl
@[go_sem ↓] theorem exec_neq33 : execOp ρ ⟨dst, .binOp .neq 33 x y yt, ty, pos, after, guard⟩ = eqRow .neq 33 x y (ρ x) (ρ y) := rfl
theorem sizeOf33 : (Try.prog.info? 33).map (·.size) = some 2 := by kernel_rfl
@[go_sem] theorem row_load33 (h : segB W a 2 = true) : (loadRow 33 (.pointer (some a))).run Try.prog W = .ok (.value (.agg (segV W a 2))) W := run_loadRow 33 2 _ Try.underlying33 rfl sizeOf33 W a h
@[go_sem] theorem row_store33 (g : Nat) (cs : Array Value) (h : rowB W g 2 = true) (hs : cs.size = 2) (h1 : oneB cs = true) : (storeRow 33 (.pointer (some ⟨g, 0, none⟩)) (.agg cs)).run Try.prog W = .ok .skip (W.setRow g cs) := run_storeRow 33 2 sizeOf33 W g cs h hs h1
/-! 34: bastide/bastidelaw09.Set (2 cells) -/
@[go_sem ↓] theorem exec_load34 : execOp ρ ⟨dst, .load 34 x, ty, pos, after, guard⟩ = loadRow 34 (ρ x) := rfl
@[go_sem ↓] theorem exec_store34 : execOp ρ ⟨dst, .store 34 x y, ty, pos, after, guard⟩ = storeRow 34 (ρ x) (ρ y) := rfl
@[go_sem ↓] theorem exec_eql34 : execOp ρ ⟨dst, .binOp .eql 34 x y yt, ty, pos, after, guard⟩ = eqRow .eql 34 x y (ρ x) (ρ y) := rfl
@[go_sem ↓] theorem exec_neq34 : execOp ρ ⟨dst, .binOp .neq 34 x y yt, ty, pos, after, guard⟩ = eqRow .neq 34 x y (ρ x) (ρ y) := rfl
theorem sizeOf34 : (Try.prog.info? 34).map (·.size) = some 2 := by kernel_rfl
@[go_sem] theorem row_load34 (h : segB W a 2 = true) : (loadRow 34 (.pointer (some a))).run Try.prog W = .ok (.value (.agg (segV W a 2))) W := run_loadRow 34 2 _ Try.underlying34 rfl sizeOf34 W a h
@[go_sem] theorem row_store34 (g : Nat) (cs : Array Value) (h : rowB W g 2 = true) (hs : cs.size = 2) (h1 : oneB cs = true) : (storeRow 34 (.pointer (some ⟨g, 0, none⟩)) (.agg cs)).run Try.prog W = .ok .skip (W.setRow g cs) := run_storeRow 34 2 sizeOf34 W g cs h hs h1
/-! 39: [32]uint8 (32 cells) -/
@[go_sem ↓] theorem exec_load39 : execOp ρ ⟨dst, .load 39 x, ty, pos, after, guard⟩ = loadRow 39 (ρ x) := rfl
@[go_sem ↓] theorem exec_store39 : execOp ρ ⟨dst, .store 39 x y, ty, pos, after, guard⟩ = storeRow 39 (ρ x) (ρ y) := rfl
@[go_sem ↓] theorem exec_eql39 : execOp ρ ⟨dst, .binOp .eql 39 x y yt, ty, pos, after, guard⟩ = eqRow .eql 39 x y (ρ x) (ρ y) := rfl
@[go_sem ↓] theorem exec_neq39 : execOp ρ ⟨dst, .binOp .neq 39 x y yt, ty, pos, after, guard⟩ = eqRow .neq 39 x y (ρ x) (ρ y) := rfl
@[go_sem ↓] theorem exec_index39 : execOp ρ ⟨dst, .index 39 x y, ty, pos, after, guard⟩ = indexRow 39 (ρ x) (ρ y) := rfl
theorem sizeOf39 : (Try.prog.info? 39).map (·.size) = some 32 := by kernel_rfl
@[go_sem] theorem row_load39 (h : segB W a 32 = true) : (loadRow 39 (.pointer (some a))).run Try.prog W = .ok (.value (.agg (segV W a 32))) W := run_loadRow 39 32 _ Try.underlying39 rfl sizeOf39 W a h
@[go_sem] theorem row_store39 (g : Nat) (cs : Array Value) (h : rowB W g 32 = true) (hs : cs.size = 32) (h1 : oneB cs = true) : (storeRow 39 (.pointer (some ⟨g, 0, none⟩)) (.agg cs)).run Try.prog W = .ok .skip (W.setRow g cs) := run_storeRow 39 32 sizeOf39 W g cs h hs h1
/-! 40: bastide/api.Digest (32 cells) -/
@[go_sem ↓] theorem exec_load40 : execOp ρ ⟨dst, .load 40 x, ty, pos, after, guard⟩ = loadRow 40 (ρ x) := rfl
@[go_sem ↓] theorem exec_store40 : execOp ρ ⟨dst, .store 40 x y, ty, pos, after, guard⟩ = storeRow 40 (ρ x) (ρ y) := rfl
@[go_sem ↓] theorem exec_eql40 : execOp ρ ⟨dst, .binOp .eql 40 x y yt, ty, pos, after, guard⟩ = eqRow .eql 40 x y (ρ x) (ρ y) := rfl
@[go_sem ↓] theorem exec_neq40 : execOp ρ ⟨dst, .binOp .neq 40 x y yt, ty, pos, after, guard⟩ = eqRow .neq 40 x y (ρ x) (ρ y) := rfl
@[go_sem ↓] theorem exec_index40 : execOp ρ ⟨dst, .index 40 x y, ty, pos, after, guard⟩ = indexRow 40 (ρ x) (ρ y) := rfl
theorem sizeOf40 : (Try.prog.info? 40).map (·.size) = some 32 := by kernel_rfl
@[go_sem] theorem row_load40 (h : segB W a 32 = true) : (loadRow 40 (.pointer (some a))).run Try.prog W = .ok (.value (.agg (segV W a 32))) W := run_loadRow 40 32 _ Try.underlying40 rfl sizeOf40 W a h
@[go_sem] theorem row_store40 (g : Nat) (cs : Array Value) (h : rowB W g 32 = true) (hs : cs.size = 32) (h1 : oneB cs = true) : (storeRow 40 (.pointer (some ⟨g, 0, none⟩)) (.agg cs)).run Try.prog W = .ok .skip (W.setRow g cs) := run_storeRow 40 32 sizeOf40 W g cs h hs h1
/-! 65: [2]int (2 cells) -/
@[go_sem ↓] theorem exec_load65 : execOp ρ ⟨dst, .load 65 x, ty, pos, after, guard⟩ = loadRow 65 (ρ x) := rfl
@[go_sem ↓] theorem exec_store65 : execOp ρ ⟨dst, .store 65 x y, ty, pos, after, guard⟩ = storeRow 65 (ρ x) (ρ y) := rfl
@[go_sem ↓] theorem exec_eql65 : execOp ρ ⟨dst, .binOp .eql 65 x y yt, ty, pos, after, guard⟩ = eqRow .eql 65 x y (ρ x) (ρ y) := rfl
@[go_sem ↓] theorem exec_neq65 : execOp ρ ⟨dst, .binOp .neq 65 x y yt, ty, pos, after, guard⟩ = eqRow .neq 65 x y (ρ x) (ρ y) := rfl
@[go_sem ↓] theorem exec_index65 : execOp ρ ⟨dst, .index 65 x y, ty, pos, after, guard⟩ = indexRow 65 (ρ x) (ρ y) := rfl
theorem sizeOf65 : (Try.prog.info? 65).map (·.size) = some 2 := by kernel_rfl
@[go_sem] theorem row_load65 (h : segB W a 2 = true) : (loadRow 65 (.pointer (some a))).run Try.prog W = .ok (.value (.agg (segV W a 2))) W := run_loadRow 65 2 _ Try.underlying65 rfl sizeOf65 W a h
@[go_sem] theorem row_store65 (g : Nat) (cs : Array Value) (h : rowB W g 2 = true) (hs : cs.size = 2) (h1 : oneB cs = true) : (storeRow 65 (.pointer (some ⟨g, 0, none⟩)) (.agg cs)).run Try.prog W = .ok .skip (W.setRow g cs) := run_storeRow 65 2 sizeOf65 W g cs h hs h1
/-! 72: _ (1 cells) -/
@[go_sem ↓] theorem exec_load72 : execOp ρ ⟨dst, .load 72 x, ty, pos, after, guard⟩ = loadRow 72 (ρ x) := rfl
@[go_sem ↓] theorem exec_store72 : execOp ρ ⟨dst, .store 72 x y, ty, pos, after, guard⟩ = storeRow 72 (ρ x) (ρ y) := rfl
@[go_sem ↓] theorem exec_eql72 : execOp ρ ⟨dst, .binOp .eql 72 x y yt, ty, pos, after, guard⟩ = eqRow .eql 72 x y (ρ x) (ρ y) := rfl
@[go_sem ↓] theorem exec_neq72 : execOp ρ ⟨dst, .binOp .neq 72 x y yt, ty, pos, after, guard⟩ = eqRow .neq 72 x y (ρ x) (ρ y) := rfl
theorem sizeOf72 : (Try.prog.info? 72).map (·.size) = some 1 := by kernel_rfl
@[go_sem] theorem row_load72 (h : segB W a 1 = true) : (loadRow 72 (.pointer (some a))).run Try.prog W = .ok (.value (.agg (segV W a 1))) W := run_loadRow 72 1 _ Try.underlying72 rfl sizeOf72 W a h
@[go_sem] theorem row_store72 (g : Nat) (cs : Array Value) (h : rowB W g 1 = true) (hs : cs.size = 1) (h1 : oneB cs = true) : (storeRow 72 (.pointer (some ⟨g, 0, none⟩)) (.agg cs)).run Try.prog W = .ok .skip (W.setRow g cs) := run_storeRow 72 1 sizeOf72 W g cs h hs h1
/-! 73: sync/atomic.Int64 (1 cells) -/
@[go_sem ↓] theorem exec_load73 : execOp ρ ⟨dst, .load 73 x, ty, pos, after, guard⟩ = loadRow 73 (ρ x) := rfl
@[go_sem ↓] theorem exec_store73 : execOp ρ ⟨dst, .store 73 x y, ty, pos, after, guard⟩ = storeRow 73 (ρ x) (ρ y) := rfl
@[go_sem ↓] theorem exec_eql73 : execOp ρ ⟨dst, .binOp .eql 73 x y yt, ty, pos, after, guard⟩ = eqRow .eql 73 x y (ρ x) (ρ y) := rfl
@[go_sem ↓] theorem exec_neq73 : execOp ρ ⟨dst, .binOp .neq 73 x y yt, ty, pos, after, guard⟩ = eqRow .neq 73 x y (ρ x) (ρ y) := rfl
theorem sizeOf73 : (Try.prog.info? 73).map (·.size) = some 1 := by kernel_rfl
@[go_sem] theorem row_load73 (h : segB W a 1 = true) : (loadRow 73 (.pointer (some a))).run Try.prog W = .ok (.value (.agg (segV W a 1))) W := run_loadRow 73 1 _ Try.underlying73 rfl sizeOf73 W a h
@[go_sem] theorem row_store73 (g : Nat) (cs : Array Value) (h : rowB W g 1 = true) (hs : cs.size = 1) (h1 : oneB cs = true) : (storeRow 73 (.pointer (some ⟨g, 0, none⟩)) (.agg cs)).run Try.prog W = .ok .skip (W.setRow g cs) := run_storeRow 73 1 sizeOf73 W g cs h hs h1
/-! 74: inputs (3 cells) -/
@[go_sem ↓] theorem exec_load74 : execOp ρ ⟨dst, .load 74 x, ty, pos, after, guard⟩ = loadRow 74 (ρ x) := rfl
@[go_sem ↓] theorem exec_store74 : execOp ρ ⟨dst, .store 74 x y, ty, pos, after, guard⟩ = storeRow 74 (ρ x) (ρ y) := rfl
@[go_sem ↓] theorem exec_eql74 : execOp ρ ⟨dst, .binOp .eql 74 x y yt, ty, pos, after, guard⟩ = eqRow .eql 74 x y (ρ x) (ρ y) := rfl
@[go_sem ↓] theorem exec_neq74 : execOp ρ ⟨dst, .binOp .neq 74 x y yt, ty, pos, after, guard⟩ = eqRow .neq 74 x y (ρ x) (ρ y) := rfl
theorem sizeOf74 : (Try.prog.info? 74).map (·.size) = some 3 := by kernel_rfl
@[go_sem] theorem row_load74 (h : segB W a 3 = true) : (loadRow 74 (.pointer (some a))).run Try.prog W = .ok (.value (.agg (segV W a 3))) W := run_loadRow 74 3 _ Try.underlying74 rfl sizeOf74 W a h
@[go_sem] theorem row_store74 (g : Nat) (cs : Array Value) (h : rowB W g 3 = true) (hs : cs.size = 3) (h1 : oneB cs = true) : (storeRow 74 (.pointer (some ⟨g, 0, none⟩)) (.agg cs)).run Try.prog W = .ok .skip (W.setRow g cs) := run_storeRow 74 3 sizeOf74 W g cs h hs h1
/-! 75: bastide/ink.Book (3 cells) -/
@[go_sem ↓] theorem exec_load75 : execOp ρ ⟨dst, .load 75 x, ty, pos, after, guard⟩ = loadRow 75 (ρ x) := rfl
@[go_sem ↓] theorem exec_store75 : execOp ρ ⟨dst, .store 75 x y, ty, pos, after, guard⟩ = storeRow 75 (ρ x) (ρ y) := rfl
@[go_sem ↓] theorem exec_eql75 : execOp ρ ⟨dst, .binOp .eql 75 x y yt, ty, pos, after, guard⟩ = eqRow .eql 75 x y (ρ x) (ρ y) := rfl
@[go_sem ↓] theorem exec_neq75 : execOp ρ ⟨dst, .binOp .neq 75 x y yt, ty, pos, after, guard⟩ = eqRow .neq 75 x y (ρ x) (ρ y) := rfl
theorem sizeOf75 : (Try.prog.info? 75).map (·.size) = some 3 := by kernel_rfl
@[go_sem] theorem row_load75 (h : segB W a 3 = true) : (loadRow 75 (.pointer (some a))).run Try.prog W = .ok (.value (.agg (segV W a 3))) W := run_loadRow 75 3 _ Try.underlying75 rfl sizeOf75 W a h
@[go_sem] theorem row_store75 (g : Nat) (cs : Array Value) (h : rowB W g 3 = true) (hs : cs.size = 3) (h1 : oneB cs = true) : (storeRow 75 (.pointer (some ⟨g, 0, none⟩)) (.agg cs)).run Try.prog W = .ok .skip (W.setRow g cs) := run_storeRow 75 3 sizeOf75 W g cs h hs h1
/-! 78: _ (1 cells) -/
@[go_sem ↓] theorem exec_load78 : execOp ρ ⟨dst, .load 78 x, ty, pos, after, guard⟩ = loadRow 78 (ρ x) := rfl
@[go_sem ↓] theorem exec_store78 : execOp ρ ⟨dst, .store 78 x y, ty, pos, after, guard⟩ = storeRow 78 (ρ x) (ρ y) := rfl
@[go_sem ↓] theorem exec_eql78 : execOp ρ ⟨dst, .binOp .eql 78 x y yt, ty, pos, after, guard⟩ = eqRow .eql 78 x y (ρ x) (ρ y) := rfl
@[go_sem ↓] theorem exec_neq78 : execOp ρ ⟨dst, .binOp .neq 78 x y yt, ty, pos, after, guard⟩ = eqRow .neq 78 x y (ρ x) (ρ y) := rfl
theorem sizeOf78 : (Try.prog.info? 78).map (·.size) = some 1 := by kernel_rfl
@[go_sem] theorem row_load78 (h : segB W a 1 = true) : (loadRow 78 (.pointer (some a))).run Try.prog W = .ok (.value (.agg (segV W a 1))) W := run_loadRow 78 1 _ Try.underlying78 rfl sizeOf78 W a h
@[go_sem] theorem row_store78 (g : Nat) (cs : Array Value) (h : rowB W g 1 = true) (hs : cs.size = 1) (h1 : oneB cs = true) : (storeRow 78 (.pointer (some ⟨g, 0, none⟩)) (.agg cs)).run Try.prog W = .ok .skip (W.setRow g cs) := run_storeRow 78 1 sizeOf78 W g cs h hs h1
/-! 79: sync/atomic.Bool (1 cells) -/
@[go_sem ↓] theorem exec_load79 : execOp ρ ⟨dst, .load 79 x, ty, pos, after, guard⟩ = loadRow 79 (ρ x) := rfl
@[go_sem ↓] theorem exec_store79 : execOp ρ ⟨dst, .store 79 x y, ty, pos, after, guard⟩ = storeRow 79 (ρ x) (ρ y) := rfl
@[go_sem ↓] theorem exec_eql79 : execOp ρ ⟨dst, .binOp .eql 79 x y yt, ty, pos, after, guard⟩ = eqRow .eql 79 x y (ρ x) (ρ y) := rfl
@[go_sem ↓] theorem exec_neq79 : execOp ρ ⟨dst, .binOp .neq 79 x y yt, ty, pos, after, guard⟩ = eqRow .neq 79 x y (ρ x) (ρ y) := rfl
theorem sizeOf79 : (Try.prog.info? 79).map (·.size) = some 1 := by kernel_rfl
@[go_sem] theorem row_load79 (h : segB W a 1 = true) : (loadRow 79 (.pointer (some a))).run Try.prog W = .ok (.value (.agg (segV W a 1))) W := run_loadRow 79 1 _ Try.underlying79 rfl sizeOf79 W a h
@[go_sem] theorem row_store79 (g : Nat) (cs : Array Value) (h : rowB W g 1 = true) (hs : cs.size = 1) (h1 : oneB cs = true) : (storeRow 79 (.pointer (some ⟨g, 0, none⟩)) (.agg cs)).run Try.prog W = .ok .skip (W.setRow g cs) := run_storeRow 79 1 sizeOf79 W g cs h hs h1
/-! 82: _ (2 cells) -/
@[go_sem ↓] theorem exec_load82 : execOp ρ ⟨dst, .load 82 x, ty, pos, after, guard⟩ = loadRow 82 (ρ x) := rfl
@[go_sem ↓] theorem exec_store82 : execOp ρ ⟨dst, .store 82 x y, ty, pos, after, guard⟩ = storeRow 82 (ρ x) (ρ y) := rfl
@[go_sem ↓] theorem exec_eql82 : execOp ρ ⟨dst, .binOp .eql 82 x y yt, ty, pos, after, guard⟩ = eqRow .eql 82 x y (ρ x) (ρ y) := rfl
@[go_sem ↓] theorem exec_neq82 : execOp ρ ⟨dst, .binOp .neq 82 x y yt, ty, pos, after, guard⟩ = eqRow .neq 82 x y (ρ x) (ρ y) := rfl
theorem sizeOf82 : (Try.prog.info? 82).map (·.size) = some 2 := by kernel_rfl
@[go_sem] theorem row_load82 (h : segB W a 2 = true) : (loadRow 82 (.pointer (some a))).run Try.prog W = .ok (.value (.agg (segV W a 2))) W := run_loadRow 82 2 _ Try.underlying82 rfl sizeOf82 W a h
@[go_sem] theorem row_store82 (g : Nat) (cs : Array Value) (h : rowB W g 2 = true) (hs : cs.size = 2) (h1 : oneB cs = true) : (storeRow 82 (.pointer (some ⟨g, 0, none⟩)) (.agg cs)).run Try.prog W = .ok .skip (W.setRow g cs) := run_storeRow 82 2 sizeOf82 W g cs h hs h1
/-! 83: sync.Mutex (2 cells) -/
@[go_sem ↓] theorem exec_load83 : execOp ρ ⟨dst, .load 83 x, ty, pos, after, guard⟩ = loadRow 83 (ρ x) := rfl
@[go_sem ↓] theorem exec_store83 : execOp ρ ⟨dst, .store 83 x y, ty, pos, after, guard⟩ = storeRow 83 (ρ x) (ρ y) := rfl
@[go_sem ↓] theorem exec_eql83 : execOp ρ ⟨dst, .binOp .eql 83 x y yt, ty, pos, after, guard⟩ = eqRow .eql 83 x y (ρ x) (ρ y) := rfl
@[go_sem ↓] theorem exec_neq83 : execOp ρ ⟨dst, .binOp .neq 83 x y yt, ty, pos, after, guard⟩ = eqRow .neq 83 x y (ρ x) (ρ y) := rfl
theorem sizeOf83 : (Try.prog.info? 83).map (·.size) = some 2 := by kernel_rfl
@[go_sem] theorem row_load83 (h : segB W a 2 = true) : (loadRow 83 (.pointer (some a))).run Try.prog W = .ok (.value (.agg (segV W a 2))) W := run_loadRow 83 2 _ Try.underlying83 rfl sizeOf83 W a h
@[go_sem] theorem row_store83 (g : Nat) (cs : Array Value) (h : rowB W g 2 = true) (hs : cs.size = 2) (h1 : oneB cs = true) : (storeRow 83 (.pointer (some ⟨g, 0, none⟩)) (.agg cs)).run Try.prog W = .ok .skip (W.setRow g cs) := run_storeRow 83 2 sizeOf83 W g cs h hs h1
/-! 84: _ (3 cells) -/
@[go_sem ↓] theorem exec_load84 : execOp ρ ⟨dst, .load 84 x, ty, pos, after, guard⟩ = loadRow 84 (ρ x) := rfl
@[go_sem ↓] theorem exec_store84 : execOp ρ ⟨dst, .store 84 x y, ty, pos, after, guard⟩ = storeRow 84 (ρ x) (ρ y) := rfl
@[go_sem ↓] theorem exec_eql84 : execOp ρ ⟨dst, .binOp .eql 84 x y yt, ty, pos, after, guard⟩ = eqRow .eql 84 x y (ρ x) (ρ y) := rfl
@[go_sem ↓] theorem exec_neq84 : execOp ρ ⟨dst, .binOp .neq 84 x y yt, ty, pos, after, guard⟩ = eqRow .neq 84 x y (ρ x) (ρ y) := rfl
theorem sizeOf84 : (Try.prog.info? 84).map (·.size) = some 3 := by kernel_rfl
@[go_sem] theorem row_load84 (h : segB W a 3 = true) : (loadRow 84 (.pointer (some a))).run Try.prog W = .ok (.value (.agg (segV W a 3))) W := run_loadRow 84 3 _ Try.underlying84 rfl sizeOf84 W a h
@[go_sem] theorem row_store84 (g : Nat) (cs : Array Value) (h : rowB W g 3 = true) (hs : cs.size = 3) (h1 : oneB cs = true) : (storeRow 84 (.pointer (some ⟨g, 0, none⟩)) (.agg cs)).run Try.prog W = .ok .skip (W.setRow g cs) := run_storeRow 84 3 sizeOf84 W g cs h hs h1
/-! 85: sync.Once (3 cells) -/
@[go_sem ↓] theorem exec_load85 : execOp ρ ⟨dst, .load 85 x, ty, pos, after, guard⟩ = loadRow 85 (ρ x) := rfl
@[go_sem ↓] theorem exec_store85 : execOp ρ ⟨dst, .store 85 x y, ty, pos, after, guard⟩ = storeRow 85 (ρ x) (ρ y) := rfl
@[go_sem ↓] theorem exec_eql85 : execOp ρ ⟨dst, .binOp .eql 85 x y yt, ty, pos, after, guard⟩ = eqRow .eql 85 x y (ρ x) (ρ y) := rfl
@[go_sem ↓] theorem exec_neq85 : execOp ρ ⟨dst, .binOp .neq 85 x y yt, ty, pos, after, guard⟩ = eqRow .neq 85 x y (ρ x) (ρ y) := rfl
theorem sizeOf85 : (Try.prog.info? 85).map (·.size) = some 3 := by kernel_rfl
@[go_sem] theorem row_load85 (h : segB W a 3 = true) : (loadRow 85 (.pointer (some a))).run Try.prog W = .ok (.value (.agg (segV W a 3))) W := run_loadRow 85 3 _ Try.underlying85 rfl sizeOf85 W a h
@[go_sem] theorem row_store85 (g : Nat) (cs : Array Value) (h : rowB W g 3 = true) (hs : cs.size = 3) (h1 : oneB cs = true) : (storeRow 85 (.pointer (some ⟨g, 0, none⟩)) (.agg cs)).run Try.prog W = .ok .skip (W.setRow g cs) := run_storeRow 85 3 sizeOf85 W g cs h hs h1
/-! 88: book (7 cells) -/
@[go_sem ↓] theorem exec_load88 : execOp ρ ⟨dst, .load 88 x, ty, pos, after, guard⟩ = loadRow 88 (ρ x) := rfl
@[go_sem ↓] theorem exec_store88 : execOp ρ ⟨dst, .store 88 x y, ty, pos, after, guard⟩ = storeRow 88 (ρ x) (ρ y) := rfl
@[go_sem ↓] theorem exec_eql88 : execOp ρ ⟨dst, .binOp .eql 88 x y yt, ty, pos, after, guard⟩ = eqRow .eql 88 x y (ρ x) (ρ y) := rfl
@[go_sem ↓] theorem exec_neq88 : execOp ρ ⟨dst, .binOp .neq 88 x y yt, ty, pos, after, guard⟩ = eqRow .neq 88 x y (ρ x) (ρ y) := rfl
theorem sizeOf88 : (Try.prog.info? 88).map (·.size) = some 7 := by kernel_rfl
@[go_sem] theorem row_load88 (h : segB W a 7 = true) : (loadRow 88 (.pointer (some a))).run Try.prog W = .ok (.value (.agg (segV W a 7))) W := run_loadRow 88 7 _ Try.underlying88 rfl sizeOf88 W a h
@[go_sem] theorem row_store88 (g : Nat) (cs : Array Value) (h : rowB W g 7 = true) (hs : cs.size = 7) (h1 : oneB cs = true) : (storeRow 88 (.pointer (some ⟨g, 0, none⟩)) (.agg cs)).run Try.prog W = .ok .skip (W.setRow g cs) := run_storeRow 88 7 sizeOf88 W g cs h hs h1
/-! 89: bastide/tree.Tree (7 cells) -/
@[go_sem ↓] theorem exec_load89 : execOp ρ ⟨dst, .load 89 x, ty, pos, after, guard⟩ = loadRow 89 (ρ x) := rfl
@[go_sem ↓] theorem exec_store89 : execOp ρ ⟨dst, .store 89 x y, ty, pos, after, guard⟩ = storeRow 89 (ρ x) (ρ y) := rfl
@[go_sem ↓] theorem exec_eql89 : execOp ρ ⟨dst, .binOp .eql 89 x y yt, ty, pos, after, guard⟩ = eqRow .eql 89 x y (ρ x) (ρ y) := rfl
@[go_sem ↓] theorem exec_neq89 : execOp ρ ⟨dst, .binOp .neq 89 x y yt, ty, pos, after, guard⟩ = eqRow .neq 89 x y (ρ x) (ρ y) := rfl
theorem sizeOf89 : (Try.prog.info? 89).map (·.size) = some 7 := by kernel_rfl
@[go_sem] theorem row_load89 (h : segB W a 7 = true) : (loadRow 89 (.pointer (some a))).run Try.prog W = .ok (.value (.agg (segV W a 7))) W := run_loadRow 89 7 _ Try.underlying89 rfl sizeOf89 W a h
@[go_sem] theorem row_store89 (g : Nat) (cs : Array Value) (h : rowB W g 7 = true) (hs : cs.size = 7) (h1 : oneB cs = true) : (storeRow 89 (.pointer (some ⟨g, 0, none⟩)) (.agg cs)).run Try.prog W = .ok .skip (W.setRow g cs) := run_storeRow 89 7 sizeOf89 W g cs h hs h1
/-! 99: L (2 cells) -/
@[go_sem ↓] theorem exec_load99 : execOp ρ ⟨dst, .load 99 x, ty, pos, after, guard⟩ = loadRow 99 (ρ x) := rfl
@[go_sem ↓] theorem exec_store99 : execOp ρ ⟨dst, .store 99 x y, ty, pos, after, guard⟩ = storeRow 99 (ρ x) (ρ y) := rfl
@[go_sem ↓] theorem exec_eql99 : execOp ρ ⟨dst, .binOp .eql 99 x y yt, ty, pos, after, guard⟩ = eqRow .eql 99 x y (ρ x) (ρ y) := rfl
@[go_sem ↓] theorem exec_neq99 : execOp ρ ⟨dst, .binOp .neq 99 x y yt, ty, pos, after, guard⟩ = eqRow .neq 99 x y (ρ x) (ρ y) := rfl
theorem sizeOf99 : (Try.prog.info? 99).map (·.size) = some 2 := by kernel_rfl
@[go_sem] theorem row_load99 (h : segB W a 2 = true) : (loadRow 99 (.pointer (some a))).run Try.prog W = .ok (.value (.agg (segV W a 2))) W := run_loadRow 99 2 _ Try.underlying99 rfl sizeOf99 W a h
@[go_sem] theorem row_store99 (g : Nat) (cs : Array Value) (h : rowB W g 2 = true) (hs : cs.size = 2) (h1 : oneB cs = true) : (storeRow 99 (.pointer (some ⟨g, 0, none⟩)) (.agg cs)).run Try.prog W = .ok .skip (W.setRow g cs) := run_storeRow 99 2 sizeOf99 W g cs h hs h1
/-! 100: bastide/bastideref03.Book (2 cells) -/
@[go_sem ↓] theorem exec_load100 : execOp ρ ⟨dst, .load 100 x, ty, pos, after, guard⟩ = loadRow 100 (ρ x) := rfl
@[go_sem ↓] theorem exec_store100 : execOp ρ ⟨dst, .store 100 x y, ty, pos, after, guard⟩ = storeRow 100 (ρ x) (ρ y) := rfl
@[go_sem ↓] theorem exec_eql100 : execOp ρ ⟨dst, .binOp .eql 100 x y yt, ty, pos, after, guard⟩ = eqRow .eql 100 x y (ρ x) (ρ y) := rfl
@[go_sem ↓] theorem exec_neq100 : execOp ρ ⟨dst, .binOp .neq 100 x y yt, ty, pos, after, guard⟩ = eqRow .neq 100 x y (ρ x) (ρ y) := rfl
theorem sizeOf100 : (Try.prog.info? 100).map (·.size) = some 2 := by kernel_rfl
@[go_sem] theorem row_load100 (h : segB W a 2 = true) : (loadRow 100 (.pointer (some a))).run Try.prog W = .ok (.value (.agg (segV W a 2))) W := run_loadRow 100 2 _ Try.underlying100 rfl sizeOf100 W a h
@[go_sem] theorem row_store100 (g : Nat) (cs : Array Value) (h : rowB W g 2 = true) (hs : cs.size = 2) (h1 : oneB cs = true) : (storeRow 100 (.pointer (some ⟨g, 0, none⟩)) (.agg cs)).run Try.prog W = .ok .skip (W.setRow g cs) := run_storeRow 100 2 sizeOf100 W g cs h hs h1
/-! 101: B (2 cells) -/
@[go_sem ↓] theorem exec_load101 : execOp ρ ⟨dst, .load 101 x, ty, pos, after, guard⟩ = loadRow 101 (ρ x) := rfl
@[go_sem ↓] theorem exec_store101 : execOp ρ ⟨dst, .store 101 x y, ty, pos, after, guard⟩ = storeRow 101 (ρ x) (ρ y) := rfl
@[go_sem ↓] theorem exec_eql101 : execOp ρ ⟨dst, .binOp .eql 101 x y yt, ty, pos, after, guard⟩ = eqRow .eql 101 x y (ρ x) (ρ y) := rfl
@[go_sem ↓] theorem exec_neq101 : execOp ρ ⟨dst, .binOp .neq 101 x y yt, ty, pos, after, guard⟩ = eqRow .neq 101 x y (ρ x) (ρ y) := rfl
theorem sizeOf101 : (Try.prog.info? 101).map (·.size) = some 2 := by kernel_rfl
@[go_sem] theorem row_load101 (h : segB W a 2 = true) : (loadRow 101 (.pointer (some a))).run Try.prog W = .ok (.value (.agg (segV W a 2))) W := run_loadRow 101 2 _ Try.underlying101 rfl sizeOf101 W a h
@[go_sem] theorem row_store101 (g : Nat) (cs : Array Value) (h : rowB W g 2 = true) (hs : cs.size = 2) (h1 : oneB cs = true) : (storeRow 101 (.pointer (some ⟨g, 0, none⟩)) (.agg cs)).run Try.prog W = .ok .skip (W.setRow g cs) := run_storeRow 101 2 sizeOf101 W g cs h hs h1
/-! 102: bastide/bastideref09.Tree (2 cells) -/
@[go_sem ↓] theorem exec_load102 : execOp ρ ⟨dst, .load 102 x, ty, pos, after, guard⟩ = loadRow 102 (ρ x) := rfl
@[go_sem ↓] theorem exec_store102 : execOp ρ ⟨dst, .store 102 x y, ty, pos, after, guard⟩ = storeRow 102 (ρ x) (ρ y) := rfl
@[go_sem ↓] theorem exec_eql102 : execOp ρ ⟨dst, .binOp .eql 102 x y yt, ty, pos, after, guard⟩ = eqRow .eql 102 x y (ρ x) (ρ y) := rfl
@[go_sem ↓] theorem exec_neq102 : execOp ρ ⟨dst, .binOp .neq 102 x y yt, ty, pos, after, guard⟩ = eqRow .neq 102 x y (ρ x) (ρ y) := rfl
theorem sizeOf102 : (Try.prog.info? 102).map (·.size) = some 2 := by kernel_rfl
@[go_sem] theorem row_load102 (h : segB W a 2 = true) : (loadRow 102 (.pointer (some a))).run Try.prog W = .ok (.value (.agg (segV W a 2))) W := run_loadRow 102 2 _ Try.underlying102 rfl sizeOf102 W a h
@[go_sem] theorem row_store102 (g : Nat) (cs : Array Value) (h : rowB W g 2 = true) (hs : cs.size = 2) (h1 : oneB cs = true) : (storeRow 102 (.pointer (some ⟨g, 0, none⟩)) (.agg cs)).run Try.prog W = .ok .skip (W.setRow g cs) := run_storeRow 102 2 sizeOf102 W g cs h hs h1
/-! 116: [64]uint32 (64 cells) -/
@[go_sem ↓] theorem exec_load116 : execOp ρ ⟨dst, .load 116 x, ty, pos, after, guard⟩ = loadRow 116 (ρ x) := rfl
@[go_sem ↓] theorem exec_store116 : execOp ρ ⟨dst, .store 116 x y, ty, pos, after, guard⟩ = storeRow 116 (ρ x) (ρ y) := rfl
@[go_sem ↓] theorem exec_eql116 : execOp ρ ⟨dst, .binOp .eql 116 x y yt, ty, pos, after, guard⟩ = eqRow .eql 116 x y (ρ x) (ρ y) := rfl
@[go_sem ↓] theorem exec_neq116 : execOp ρ ⟨dst, .binOp .neq 116 x y yt, ty, pos, after, guard⟩ = eqRow .neq 116 x y (ρ x) (ρ y) := rfl
@[go_sem ↓] theorem exec_index116 : execOp ρ ⟨dst, .index 116 x y, ty, pos, after, guard⟩ = indexRow 116 (ρ x) (ρ y) := rfl
theorem sizeOf116 : (Try.prog.info? 116).map (·.size) = some 64 := by kernel_rfl
@[go_sem] theorem row_load116 (h : segB W a 64 = true) : (loadRow 116 (.pointer (some a))).run Try.prog W = .ok (.value (.agg (segV W a 64))) W := run_loadRow 116 64 _ Try.underlying116 rfl sizeOf116 W a h
@[go_sem] theorem row_store116 (g : Nat) (cs : Array Value) (h : rowB W g 64 = true) (hs : cs.size = 64) (h1 : oneB cs = true) : (storeRow 116 (.pointer (some ⟨g, 0, none⟩)) (.agg cs)).run Try.prog W = .ok .skip (W.setRow g cs) := run_storeRow 116 64 sizeOf116 W g cs h hs h1
/-! 117: [8]uint32 (8 cells) -/
@[go_sem ↓] theorem exec_load117 : execOp ρ ⟨dst, .load 117 x, ty, pos, after, guard⟩ = loadRow 117 (ρ x) := rfl
@[go_sem ↓] theorem exec_store117 : execOp ρ ⟨dst, .store 117 x y, ty, pos, after, guard⟩ = storeRow 117 (ρ x) (ρ y) := rfl
@[go_sem ↓] theorem exec_eql117 : execOp ρ ⟨dst, .binOp .eql 117 x y yt, ty, pos, after, guard⟩ = eqRow .eql 117 x y (ρ x) (ρ y) := rfl
@[go_sem ↓] theorem exec_neq117 : execOp ρ ⟨dst, .binOp .neq 117 x y yt, ty, pos, after, guard⟩ = eqRow .neq 117 x y (ρ x) (ρ y) := rfl
@[go_sem ↓] theorem exec_index117 : execOp ρ ⟨dst, .index 117 x y, ty, pos, after, guard⟩ = indexRow 117 (ρ x) (ρ y) := rfl
theorem sizeOf117 : (Try.prog.info? 117).map (·.size) = some 8 := by kernel_rfl
@[go_sem] theorem row_load117 (h : segB W a 8 = true) : (loadRow 117 (.pointer (some a))).run Try.prog W = .ok (.value (.agg (segV W a 8))) W := run_loadRow 117 8 _ Try.underlying117 rfl sizeOf117 W a h
@[go_sem] theorem row_store117 (g : Nat) (cs : Array Value) (h : rowB W g 8 = true) (hs : cs.size = 8) (h1 : oneB cs = true) : (storeRow 117 (.pointer (some ⟨g, 0, none⟩)) (.agg cs)).run Try.prog W = .ok .skip (W.setRow g cs) := run_storeRow 117 8 sizeOf117 W g cs h hs h1
/-! 118: [64]uint8 (64 cells) -/
@[go_sem ↓] theorem exec_load118 : execOp ρ ⟨dst, .load 118 x, ty, pos, after, guard⟩ = loadRow 118 (ρ x) := rfl
@[go_sem ↓] theorem exec_store118 : execOp ρ ⟨dst, .store 118 x y, ty, pos, after, guard⟩ = storeRow 118 (ρ x) (ρ y) := rfl
@[go_sem ↓] theorem exec_eql118 : execOp ρ ⟨dst, .binOp .eql 118 x y yt, ty, pos, after, guard⟩ = eqRow .eql 118 x y (ρ x) (ρ y) := rfl
@[go_sem ↓] theorem exec_neq118 : execOp ρ ⟨dst, .binOp .neq 118 x y yt, ty, pos, after, guard⟩ = eqRow .neq 118 x y (ρ x) (ρ y) := rfl
@[go_sem ↓] theorem exec_index118 : execOp ρ ⟨dst, .index 118 x y, ty, pos, after, guard⟩ = indexRow 118 (ρ x) (ρ y) := rfl
theorem sizeOf118 : (Try.prog.info? 118).map (·.size) = some 64 := by kernel_rfl
@[go_sem] theorem row_load118 (h : segB W a 64 = true) : (loadRow 118 (.pointer (some a))).run Try.prog W = .ok (.value (.agg (segV W a 64))) W := run_loadRow 118 64 _ Try.underlying118 rfl sizeOf118 W a h
@[go_sem] theorem row_store118 (g : Nat) (cs : Array Value) (h : rowB W g 64 = true) (hs : cs.size = 64) (h1 : oneB cs = true) : (storeRow 118 (.pointer (some ⟨g, 0, none⟩)) (.agg cs)).run Try.prog W = .ok .skip (W.setRow g cs) := run_storeRow 118 64 sizeOf118 W g cs h hs h1
/-! 119: begun (142 cells) -/
@[go_sem ↓] theorem exec_load119 : execOp ρ ⟨dst, .load 119 x, ty, pos, after, guard⟩ = loadRow 119 (ρ x) := rfl
@[go_sem ↓] theorem exec_store119 : execOp ρ ⟨dst, .store 119 x y, ty, pos, after, guard⟩ = storeRow 119 (ρ x) (ρ y) := rfl
@[go_sem ↓] theorem exec_eql119 : execOp ρ ⟨dst, .binOp .eql 119 x y yt, ty, pos, after, guard⟩ = eqRow .eql 119 x y (ρ x) (ρ y) := rfl
@[go_sem ↓] theorem exec_neq119 : execOp ρ ⟨dst, .binOp .neq 119 x y yt, ty, pos, after, guard⟩ = eqRow .neq 119 x y (ρ x) (ρ y) := rfl
theorem sizeOf119 : (Try.prog.info? 119).map (·.size) = some 142 := by kernel_rfl
@[go_sem] theorem row_load119 (h : segB W a 142 = true) : (loadRow 119 (.pointer (some a))).run Try.prog W = .ok (.value (.agg (segV W a 142))) W := run_loadRow 119 142 _ Try.underlying119 rfl sizeOf119 W a h
@[go_sem] theorem row_store119 (g : Nat) (cs : Array Value) (h : rowB W g 142 = true) (hs : cs.size = 142) (h1 : oneB cs = true) : (storeRow 119 (.pointer (some ⟨g, 0, none⟩)) (.agg cs)).run Try.prog W = .ok .skip (W.setRow g cs) := run_storeRow 119 142 sizeOf119 W g cs h hs h1
/-! 120: bastide/sha.Hash (142 cells) -/
@[go_sem ↓] theorem exec_load120 : execOp ρ ⟨dst, .load 120 x, ty, pos, after, guard⟩ = loadRow 120 (ρ x) := rfl
@[go_sem ↓] theorem exec_store120 : execOp ρ ⟨dst, .store 120 x y, ty, pos, after, guard⟩ = storeRow 120 (ρ x) (ρ y) := rfl
@[go_sem ↓] theorem exec_eql120 : execOp ρ ⟨dst, .binOp .eql 120 x y yt, ty, pos, after, guard⟩ = eqRow .eql 120 x y (ρ x) (ρ y) := rfl
@[go_sem ↓] theorem exec_neq120 : execOp ρ ⟨dst, .binOp .neq 120 x y yt, ty, pos, after, guard⟩ = eqRow .neq 120 x y (ρ x) (ρ y) := rfl
theorem sizeOf120 : (Try.prog.info? 120).map (·.size) = some 142 := by kernel_rfl
@[go_sem] theorem row_load120 (h : segB W a 142 = true) : (loadRow 120 (.pointer (some a))).run Try.prog W = .ok (.value (.agg (segV W a 142))) W := run_loadRow 120 142 _ Try.underlying120 rfl sizeOf120 W a h
@[go_sem] theorem row_store120 (g : Nat) (cs : Array Value) (h : rowB W g 142 = true) (hs : cs.size = 142) (h1 : oneB cs = true) : (storeRow 120 (.pointer (some ⟨g, 0, none⟩)) (.agg cs)).run Try.prog W = .ok .skip (W.setRow g cs) := run_storeRow 120 142 sizeOf120 W g cs h hs h1
end
end Go.Proofs.Ytjimamgghkgdeaa
