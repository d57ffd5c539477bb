/- MADE BY agg.py: whole loads, stores and comparisons of this seat's struct and array types are kept behind names. -/
import Derived.Test.YtjnaenmknbcjmaaBase
namespace Go.Proofs.Ytjnaenmknbcjmaa
open Go.RowKit
section
variable (ρ : Operand → Value) (dst : Option Tmp) (x y : Operand) (yt ty : TypeId) (pos : String) (after : Array Edge) (guard : Option (Nat × Bool)) (W : World) (a : Addr)
/-! 27: [32]uint8 (32 cells) -/
@[go_sem ↓] theorem exec_load27 : execOp ρ ⟨dst, .load 27 x, ty, pos, after, guard⟩ = loadRow 27 (ρ x) := rfl
@[go_sem ↓] theorem exec_store27 : execOp ρ ⟨dst, .store 27 x y, ty, pos, after, guard⟩ = storeRow 27 (ρ x) (ρ y) := rfl
@[go_sem ↓] theorem exec_eql27 : execOp ρ ⟨dst, .binOp .eql 27 x y yt, ty, pos, after, guard⟩ = eqRow .eql 27 x y (ρ x) (ρ y) := rfl
@[go_sem ↓] theorem exec_neq27 : execOp ρ ⟨dst, .binOp .neq 27 x y yt, ty, pos, after, guard⟩ = eqRow .neq 27 x y (ρ x) (ρ y) := rfl
@[go_sem ↓] theorem exec_index27 : execOp ρ ⟨dst, .index 27 x y, ty, pos, after, guard⟩ = indexRow 27 (ρ x) (ρ y) := rfl
theorem sizeOf27 : (Try.prog.info? 27).map (·.size) = some 32 := by kernel_rfl
@[go_sem] theorem row_load27 (h : segB W a 32 = true) : (loadRow 27 (.pointer (some a))).run Try.prog W = .ok (.value (.agg (segV W a 32))) W := run_loadRow 27 32 _ Try.underlying27 rfl sizeOf27 W a h
@[go_sem] theorem row_store27 (g : Nat) (cs : Array Value) (h : rowB W g 32 = true) (hs : cs.size = 32) (h1 : oneB cs = true) : (storeRow 27 (.pointer (some ⟨g, 0, none⟩)) (.agg cs)).run Try.prog W = .ok .skip (W.setRow g cs) := run_storeRow 27 32 sizeOf27 W g cs h hs h1
/-! 28: bastide/api.Digest (32 cells) -/
@[go_sem ↓] theorem exec_load28 : execOp ρ ⟨dst, .load 28 x, ty, pos, after, guard⟩ = loadRow 28 (ρ x) := rfl
@[go_sem ↓] theorem exec_store28 : execOp ρ ⟨dst, .store 28 x y, ty, pos, after, guard⟩ = storeRow 28 (ρ x) (ρ y) := rfl
@[go_sem ↓] theorem exec_eql28 : execOp ρ ⟨dst, .binOp .eql 28 x y yt, ty, pos, after, guard⟩ = eqRow .eql 28 x y (ρ x) (ρ y) := rfl
@[go_sem ↓] theorem exec_neq28 : execOp ρ ⟨dst, .binOp .neq 28 x y yt, ty, pos, after, guard⟩ = eqRow .neq 28 x y (ρ x) (ρ y) := rfl
@[go_sem ↓] theorem exec_index28 : execOp ρ ⟨dst, .index 28 x y, ty, pos, after, guard⟩ = indexRow 28 (ρ x) (ρ y) := rfl
theorem sizeOf28 : (Try.prog.info? 28).map (·.size) = some 32 := by kernel_rfl
@[go_sem] theorem row_load28 (h : segB W a 32 = true) : (loadRow 28 (.pointer (some a))).run Try.prog W = .ok (.value (.agg (segV W a 32))) W := run_loadRow 28 32 _ Try.underlying28 rfl sizeOf28 W a h
@[go_sem] theorem row_store28 (g : Nat) (cs : Array Value) (h : rowB W g 32 = true) (hs : cs.size = 32) (h1 : oneB cs = true) : (storeRow 28 (.pointer (some ⟨g, 0, none⟩)) (.agg cs)).run Try.prog W = .ok .skip (W.setRow g cs) := run_storeRow 28 32 sizeOf28 W g cs h hs h1
/-! 31: Kind (7 cells) -/
@[go_sem ↓] theorem exec_load31 : execOp ρ ⟨dst, .load 31 x, ty, pos, after, guard⟩ = loadRow 31 (ρ x) := rfl
@[go_sem ↓] theorem exec_store31 : execOp ρ ⟨dst, .store 31 x y, ty, pos, after, guard⟩ = storeRow 31 (ρ x) (ρ y) := rfl
@[go_sem ↓] theorem exec_eql31 : execOp ρ ⟨dst, .binOp .eql 31 x y yt, ty, pos, after, guard⟩ = eqRow .eql 31 x y (ρ x) (ρ y) := rfl
@[go_sem ↓] theorem exec_neq31 : execOp ρ ⟨dst, .binOp .neq 31 x y yt, ty, pos, after, guard⟩ = eqRow .neq 31 x y (ρ x) (ρ y) := rfl
theorem sizeOf31 : (Try.prog.info? 31).map (·.size) = some 7 := by kernel_rfl
@[go_sem] theorem row_load31 (h : segB W a 7 = true) : (loadRow 31 (.pointer (some a))).run Try.prog W = .ok (.value (.agg (segV W a 7))) W := run_loadRow 31 7 _ Try.underlying31 rfl sizeOf31 W a h
@[go_sem] theorem row_store31 (g : Nat) (cs : Array Value) (h : rowB W g 7 = true) (hs : cs.size = 7) (h1 : oneB cs = true) : (storeRow 31 (.pointer (some ⟨g, 0, none⟩)) (.agg cs)).run Try.prog W = .ok .skip (W.setRow g cs) := run_storeRow 31 7 sizeOf31 W g cs h hs h1
/-! 32: bastide/bastidelaw04.Deed (7 cells) -/
@[go_sem ↓] theorem exec_load32 : execOp ρ ⟨dst, .load 32 x, ty, pos, after, guard⟩ = loadRow 32 (ρ x) := rfl
@[go_sem ↓] theorem exec_store32 : execOp ρ ⟨dst, .store 32 x y, ty, pos, after, guard⟩ = storeRow 32 (ρ x) (ρ y) := rfl
@[go_sem ↓] theorem exec_eql32 : execOp ρ ⟨dst, .binOp .eql 32 x y yt, ty, pos, after, guard⟩ = eqRow .eql 32 x y (ρ x) (ρ y) := rfl
@[go_sem ↓] theorem exec_neq32 : execOp ρ ⟨dst, .binOp .neq 32 x y yt, ty, pos, after, guard⟩ = eqRow .neq 32 x y (ρ x) (ρ y) := rfl
theorem sizeOf32 : (Try.prog.info? 32).map (·.size) = some 7 := by kernel_rfl
@[go_sem] theorem row_load32 (h : segB W a 7 = true) : (loadRow 32 (.pointer (some a))).run Try.prog W = .ok (.value (.agg (segV W a 7))) W := run_loadRow 32 7 _ Try.underlying32 rfl sizeOf32 W a h
@[go_sem] theorem row_store32 (g : Nat) (cs : Array Value) (h : rowB W g 7 = true) (hs : cs.size = 7) (h1 : oneB cs = true) : (storeRow 32 (.pointer (some ⟨g, 0, none⟩)) (.agg cs)).run Try.prog W = .ok .skip (W.setRow g cs) := run_storeRow 32 7 sizeOf32 W g cs h hs h1
/-! 43: [2]int (2 cells) -/
@[go_sem ↓] theorem exec_load43 : execOp ρ ⟨dst, .load 43 x, ty, pos, after, guard⟩ = loadRow 43 (ρ x) := rfl
@[go_sem ↓] theorem exec_store43 : execOp ρ ⟨dst, .store 43 x y, ty, pos, after, guard⟩ = storeRow 43 (ρ x) (ρ y) := rfl
@[go_sem ↓] theorem exec_eql43 : execOp ρ ⟨dst, .binOp .eql 43 x y yt, ty, pos, after, guard⟩ = eqRow .eql 43 x y (ρ x) (ρ y) := rfl
@[go_sem ↓] theorem exec_neq43 : execOp ρ ⟨dst, .binOp .neq 43 x y yt, ty, pos, after, guard⟩ = eqRow .neq 43 x y (ρ x) (ρ y) := rfl
@[go_sem ↓] theorem exec_index43 : execOp ρ ⟨dst, .index 43 x y, ty, pos, after, guard⟩ = indexRow 43 (ρ x) (ρ y) := rfl
theorem sizeOf43 : (Try.prog.info? 43).map (·.size) = some 2 := by kernel_rfl
@[go_sem] theorem row_load43 (h : segB W a 2 = true) : (loadRow 43 (.pointer (some a))).run Try.prog W = .ok (.value (.agg (segV W a 2))) W := run_loadRow 43 2 _ Try.underlying43 rfl sizeOf43 W a h
@[go_sem] theorem row_store43 (g : Nat) (cs : Array Value) (h : rowB W g 2 = true) (hs : cs.size = 2) (h1 : oneB cs = true) : (storeRow 43 (.pointer (some ⟨g, 0, none⟩)) (.agg cs)).run Try.prog W = .ok .skip (W.setRow g cs) := run_storeRow 43 2 sizeOf43 W g cs h hs h1
/-! 54: _ (1 cells) -/
@[go_sem ↓] theorem exec_load54 : execOp ρ ⟨dst, .load 54 x, ty, pos, after, guard⟩ = loadRow 54 (ρ x) := rfl
@[go_sem ↓] theorem exec_store54 : execOp ρ ⟨dst, .store 54 x y, ty, pos, after, guard⟩ = storeRow 54 (ρ x) (ρ y) := rfl
@[go_sem ↓] theorem exec_eql54 : execOp ρ ⟨dst, .binOp .eql 54 x y yt, ty, pos, after, guard⟩ = eqRow .eql 54 x y (ρ x) (ρ y) := rfl
@[go_sem ↓] theorem exec_neq54 : execOp ρ ⟨dst, .binOp .neq 54 x y yt, ty, pos, after, guard⟩ = eqRow .neq 54 x y (ρ x) (ρ y) := rfl
theorem sizeOf54 : (Try.prog.info? 54).map (·.size) = some 1 := by kernel_rfl
@[go_sem] theorem row_load54 (h : segB W a 1 = true) : (loadRow 54 (.pointer (some a))).run Try.prog W = .ok (.value (.agg (segV W a 1))) W := run_loadRow 54 1 _ Try.underlying54 rfl sizeOf54 W a h
@[go_sem] theorem row_store54 (g : Nat) (cs : Array Value) (h : rowB W g 1 = true) (hs : cs.size = 1) (h1 : oneB cs = true) : (storeRow 54 (.pointer (some ⟨g, 0, none⟩)) (.agg cs)).run Try.prog W = .ok .skip (W.setRow g cs) := run_storeRow 54 1 sizeOf54 W g cs h hs h1
/-! 55: sync/atomic.Int64 (1 cells) -/
@[go_sem ↓] theorem exec_load55 : execOp ρ ⟨dst, .load 55 x, ty, pos, after, guard⟩ = loadRow 55 (ρ x) := rfl
@[go_sem ↓] theorem exec_store55 : execOp ρ ⟨dst, .store 55 x y, ty, pos, after, guard⟩ = storeRow 55 (ρ x) (ρ y) := rfl
@[go_sem ↓] theorem exec_eql55 : execOp ρ ⟨dst, .binOp .eql 55 x y yt, ty, pos, after, guard⟩ = eqRow .eql 55 x y (ρ x) (ρ y) := rfl
@[go_sem ↓] theorem exec_neq55 : execOp ρ ⟨dst, .binOp .neq 55 x y yt, ty, pos, after, guard⟩ = eqRow .neq 55 x y (ρ x) (ρ y) := rfl
theorem sizeOf55 : (Try.prog.info? 55).map (·.size) = some 1 := by kernel_rfl
@[go_sem] theorem row_load55 (h : segB W a 1 = true) : (loadRow 55 (.pointer (some a))).run Try.prog W = .ok (.value (.agg (segV W a 1))) W := run_loadRow 55 1 _ Try.underlying55 rfl sizeOf55 W a h
@[go_sem] theorem row_store55 (g : Nat) (cs : Array Value) (h : rowB W g 1 = true) (hs : cs.size = 1) (h1 : oneB cs = true) : (storeRow 55 (.pointer (some ⟨g, 0, none⟩)) (.agg cs)).run Try.prog W = .ok .skip (W.setRow g cs) := run_storeRow 55 1 sizeOf55 W g cs h hs h1
/-! 56: tags (2 cells) -/
@[go_sem ↓] theorem exec_load56 : execOp ρ ⟨dst, .load 56 x, ty, pos, after, guard⟩ = loadRow 56 (ρ x) := rfl
@[go_sem ↓] theorem exec_store56 : execOp ρ ⟨dst, .store 56 x y, ty, pos, after, guard⟩ = storeRow 56 (ρ x) (ρ y) := rfl
@[go_sem ↓] theorem exec_eql56 : execOp ρ ⟨dst, .binOp .eql 56 x y yt, ty, pos, after, guard⟩ = eqRow .eql 56 x y (ρ x) (ρ y) := rfl
@[go_sem ↓] theorem exec_neq56 : execOp ρ ⟨dst, .binOp .neq 56 x y yt, ty, pos, after, guard⟩ = eqRow .neq 56 x y (ρ x) (ρ y) := rfl
theorem sizeOf56 : (Try.prog.info? 56).map (·.size) = some 2 := by kernel_rfl
@[go_sem] theorem row_load56 (h : segB W a 2 = true) : (loadRow 56 (.pointer (some a))).run Try.prog W = .ok (.value (.agg (segV W a 2))) W := run_loadRow 56 2 _ Try.underlying56 rfl sizeOf56 W a h
@[go_sem] theorem row_store56 (g : Nat) (cs : Array Value) (h : rowB W g 2 = true) (hs : cs.size = 2) (h1 : oneB cs = true) : (storeRow 56 (.pointer (some ⟨g, 0, none⟩)) (.agg cs)).run Try.prog W = .ok .skip (W.setRow g cs) := run_storeRow 56 2 sizeOf56 W g cs h hs h1
/-! 57: bastide/tag.Ledger (2 cells) -/
@[go_sem ↓] theorem exec_load57 : execOp ρ ⟨dst, .load 57 x, ty, pos, after, guard⟩ = loadRow 57 (ρ x) := rfl
@[go_sem ↓] theorem exec_store57 : execOp ρ ⟨dst, .store 57 x y, ty, pos, after, guard⟩ = storeRow 57 (ρ x) (ρ y) := rfl
@[go_sem ↓] theorem exec_eql57 : execOp ρ ⟨dst, .binOp .eql 57 x y yt, ty, pos, after, guard⟩ = eqRow .eql 57 x y (ρ x) (ρ y) := rfl
@[go_sem ↓] theorem exec_neq57 : execOp ρ ⟨dst, .binOp .neq 57 x y yt, ty, pos, after, guard⟩ = eqRow .neq 57 x y (ρ x) (ρ y) := rfl
theorem sizeOf57 : (Try.prog.info? 57).map (·.size) = some 2 := by kernel_rfl
@[go_sem] theorem row_load57 (h : segB W a 2 = true) : (loadRow 57 (.pointer (some a))).run Try.prog W = .ok (.value (.agg (segV W a 2))) W := run_loadRow 57 2 _ Try.underlying57 rfl sizeOf57 W a h
@[go_sem] theorem row_store57 (g : Nat) (cs : Array Value) (h : rowB W g 2 = true) (hs : cs.size = 2) (h1 : oneB cs = true) : (storeRow 57 (.pointer (some ⟨g, 0, none⟩)) (.agg cs)).run Try.prog W = .ok .skip (W.setRow g cs) := run_storeRow 57 2 sizeOf57 W g cs h hs h1
/-! 64: From (3 cells) -/
@[go_sem ↓] theorem exec_load64 : execOp ρ ⟨dst, .load 64 x, ty, pos, after, guard⟩ = loadRow 64 (ρ x) := rfl
@[go_sem ↓] theorem exec_store64 : execOp ρ ⟨dst, .store 64 x y, ty, pos, after, guard⟩ = storeRow 64 (ρ x) (ρ y) := rfl
@[go_sem ↓] theorem exec_eql64 : execOp ρ ⟨dst, .binOp .eql 64 x y yt, ty, pos, after, guard⟩ = eqRow .eql 64 x y (ρ x) (ρ y) := rfl
@[go_sem ↓] theorem exec_neq64 : execOp ρ ⟨dst, .binOp .neq 64 x y yt, ty, pos, after, guard⟩ = eqRow .neq 64 x y (ρ x) (ρ y) := rfl
theorem sizeOf64 : (Try.prog.info? 64).map (·.size) = some 3 := by kernel_rfl
@[go_sem] theorem row_load64 (h : segB W a 3 = true) : (loadRow 64 (.pointer (some a))).run Try.prog W = .ok (.value (.agg (segV W a 3))) W := run_loadRow 64 3 _ Try.underlying64 rfl sizeOf64 W a h
@[go_sem] theorem row_store64 (g : Nat) (cs : Array Value) (h : rowB W g 3 = true) (hs : cs.size = 3) (h1 : oneB cs = true) : (storeRow 64 (.pointer (some ⟨g, 0, none⟩)) (.agg cs)).run Try.prog W = .ok .skip (W.setRow g cs) := run_storeRow 64 3 sizeOf64 W g cs h hs h1
/-! 65: bastide/api.Envelope (3 cells) -/
@[go_sem ↓] theorem exec_load65 : execOp ρ ⟨dst, .load 65 x, ty, pos, after, guard⟩ = loadRow 65 (ρ x) := rfl
@[go_sem ↓] theorem exec_store65 : execOp ρ ⟨dst, .store 65 x y, ty, pos, after, guard⟩ = storeRow 65 (ρ x) (ρ y) := rfl
@[go_sem ↓] theorem exec_eql65 : execOp ρ ⟨dst, .binOp .eql 65 x y yt, ty, pos, after, guard⟩ = eqRow .eql 65 x y (ρ x) (ρ y) := rfl
@[go_sem ↓] theorem exec_neq65 : execOp ρ ⟨dst, .binOp .neq 65 x y yt, ty, pos, after, guard⟩ = eqRow .neq 65 x y (ρ x) (ρ y) := rfl
theorem sizeOf65 : (Try.prog.info? 65).map (·.size) = some 3 := by kernel_rfl
@[go_sem] theorem row_load65 (h : segB W a 3 = true) : (loadRow 65 (.pointer (some a))).run Try.prog W = .ok (.value (.agg (segV W a 3))) W := run_loadRow 65 3 _ Try.underlying65 rfl sizeOf65 W a h
@[go_sem] theorem row_store65 (g : Nat) (cs : Array Value) (h : rowB W g 3 = true) (hs : cs.size = 3) (h1 : oneB cs = true) : (storeRow 65 (.pointer (some ⟨g, 0, none⟩)) (.agg cs)).run Try.prog W = .ok .skip (W.setRow g cs) := run_storeRow 65 3 sizeOf65 W g cs h hs h1
/-! 66: Kind (6 cells) -/
@[go_sem ↓] theorem exec_load66 : execOp ρ ⟨dst, .load 66 x, ty, pos, after, guard⟩ = loadRow 66 (ρ x) := rfl
@[go_sem ↓] theorem exec_store66 : execOp ρ ⟨dst, .store 66 x y, ty, pos, after, guard⟩ = storeRow 66 (ρ x) (ρ y) := rfl
@[go_sem ↓] theorem exec_eql66 : execOp ρ ⟨dst, .binOp .eql 66 x y yt, ty, pos, after, guard⟩ = eqRow .eql 66 x y (ρ x) (ρ y) := rfl
@[go_sem ↓] theorem exec_neq66 : execOp ρ ⟨dst, .binOp .neq 66 x y yt, ty, pos, after, guard⟩ = eqRow .neq 66 x y (ρ x) (ρ y) := rfl
theorem sizeOf66 : (Try.prog.info? 66).map (·.size) = some 6 := by kernel_rfl
@[go_sem] theorem row_load66 (h : segB W a 6 = true) : (loadRow 66 (.pointer (some a))).run Try.prog W = .ok (.value (.agg (segV W a 6))) W := run_loadRow 66 6 _ Try.underlying66 rfl sizeOf66 W a h
@[go_sem] theorem row_store66 (g : Nat) (cs : Array Value) (h : rowB W g 6 = true) (hs : cs.size = 6) (h1 : oneB cs = true) : (storeRow 66 (.pointer (some ⟨g, 0, none⟩)) (.agg cs)).run Try.prog W = .ok .skip (W.setRow g cs) := run_storeRow 66 6 sizeOf66 W g cs h hs h1
/-! 67: bastide/bastidelaw13.Deed (6 cells) -/
@[go_sem ↓] theorem exec_load67 : execOp ρ ⟨dst, .load 67 x, ty, pos, after, guard⟩ = loadRow 67 (ρ x) := rfl
@[go_sem ↓] theorem exec_store67 : execOp ρ ⟨dst, .store 67 x y, ty, pos, after, guard⟩ = storeRow 67 (ρ x) (ρ y) := rfl
@[go_sem ↓] theorem exec_eql67 : execOp ρ ⟨dst, .binOp .eql 67 x y yt, ty, pos, after, guard⟩ = eqRow .eql 67 x y (ρ x) (ρ y) := rfl
@[go_sem ↓] theorem exec_neq67 : execOp ρ ⟨dst, .binOp .neq 67 x y yt, ty, pos, after, guard⟩ = eqRow .neq 67 x y (ρ x) (ρ y) := rfl
theorem sizeOf67 : (Try.prog.info? 67).map (·.size) = some 6 := by kernel_rfl
@[go_sem] theorem row_load67 (h : segB W a 6 = true) : (loadRow 67 (.pointer (some a))).run Try.prog W = .ok (.value (.agg (segV W a 6))) W := run_loadRow 67 6 _ Try.underlying67 rfl sizeOf67 W a h
@[go_sem] theorem row_store67 (g : Nat) (cs : Array Value) (h : rowB W g 6 = true) (hs : cs.size = 6) (h1 : oneB cs = true) : (storeRow 67 (.pointer (some ⟨g, 0, none⟩)) (.agg cs)).run Try.prog W = .ok .skip (W.setRow g cs) := run_storeRow 67 6 sizeOf67 W g cs h hs h1
/-! 85: L (2 cells) -/
@[go_sem ↓] theorem exec_load85 : execOp ρ ⟨dst, .load 85 x, ty, pos, after, guard⟩ = loadRow 85 (ρ x) := rfl
@[go_sem ↓] theorem exec_store85 : execOp ρ ⟨dst, .store 85 x y, ty, pos, after, guard⟩ = storeRow 85 (ρ x) (ρ y) := rfl
@[go_sem ↓] theorem exec_eql85 : execOp ρ ⟨dst, .binOp .eql 85 x y yt, ty, pos, after, guard⟩ = eqRow .eql 85 x y (ρ x) (ρ y) := rfl
@[go_sem ↓] theorem exec_neq85 : execOp ρ ⟨dst, .binOp .neq 85 x y yt, ty, pos, after, guard⟩ = eqRow .neq 85 x y (ρ x) (ρ y) := rfl
theorem sizeOf85 : (Try.prog.info? 85).map (·.size) = some 2 := by kernel_rfl
@[go_sem] theorem row_load85 (h : segB W a 2 = true) : (loadRow 85 (.pointer (some a))).run Try.prog W = .ok (.value (.agg (segV W a 2))) W := run_loadRow 85 2 _ Try.underlying85 rfl sizeOf85 W a h
@[go_sem] theorem row_store85 (g : Nat) (cs : Array Value) (h : rowB W g 2 = true) (hs : cs.size = 2) (h1 : oneB cs = true) : (storeRow 85 (.pointer (some ⟨g, 0, none⟩)) (.agg cs)).run Try.prog W = .ok .skip (W.setRow g cs) := run_storeRow 85 2 sizeOf85 W g cs h hs h1
/-! 86: bastide/bastideref04.Ledger (2 cells) -/
@[go_sem ↓] theorem exec_load86 : execOp ρ ⟨dst, .load 86 x, ty, pos, after, guard⟩ = loadRow 86 (ρ x) := rfl
@[go_sem ↓] theorem exec_store86 : execOp ρ ⟨dst, .store 86 x y, ty, pos, after, guard⟩ = storeRow 86 (ρ x) (ρ y) := rfl
@[go_sem ↓] theorem exec_eql86 : execOp ρ ⟨dst, .binOp .eql 86 x y yt, ty, pos, after, guard⟩ = eqRow .eql 86 x y (ρ x) (ρ y) := rfl
@[go_sem ↓] theorem exec_neq86 : execOp ρ ⟨dst, .binOp .neq 86 x y yt, ty, pos, after, guard⟩ = eqRow .neq 86 x y (ρ x) (ρ y) := rfl
theorem sizeOf86 : (Try.prog.info? 86).map (·.size) = some 2 := by kernel_rfl
@[go_sem] theorem row_load86 (h : segB W a 2 = true) : (loadRow 86 (.pointer (some a))).run Try.prog W = .ok (.value (.agg (segV W a 2))) W := run_loadRow 86 2 _ Try.underlying86 rfl sizeOf86 W a h
@[go_sem] theorem row_store86 (g : Nat) (cs : Array Value) (h : rowB W g 2 = true) (hs : cs.size = 2) (h1 : oneB cs = true) : (storeRow 86 (.pointer (some ⟨g, 0, none⟩)) (.agg cs)).run Try.prog W = .ok .skip (W.setRow g cs) := run_storeRow 86 2 sizeOf86 W g cs h hs h1
/-! 88: from (34 cells) -/
@[go_sem ↓] theorem exec_load88 : execOp ρ ⟨dst, .load 88 x, ty, pos, after, guard⟩ = loadRow 88 (ρ x) := rfl
@[go_sem ↓] theorem exec_store88 : execOp ρ ⟨dst, .store 88 x y, ty, pos, after, guard⟩ = storeRow 88 (ρ x) (ρ y) := rfl
@[go_sem ↓] theorem exec_eql88 : execOp ρ ⟨dst, .binOp .eql 88 x y yt, ty, pos, after, guard⟩ = eqRow .eql 88 x y (ρ x) (ρ y) := rfl
@[go_sem ↓] theorem exec_neq88 : execOp ρ ⟨dst, .binOp .neq 88 x y yt, ty, pos, after, guard⟩ = eqRow .neq 88 x y (ρ x) (ρ y) := rfl
theorem sizeOf88 : (Try.prog.info? 88).map (·.size) = some 34 := by kernel_rfl
@[go_sem] theorem row_load88 (h : segB W a 34 = true) : (loadRow 88 (.pointer (some a))).run Try.prog W = .ok (.value (.agg (segV W a 34))) W := run_loadRow 88 34 _ Try.underlying88 rfl sizeOf88 W a h
@[go_sem] theorem row_store88 (g : Nat) (cs : Array Value) (h : rowB W g 34 = true) (hs : cs.size = 34) (h1 : oneB cs = true) : (storeRow 88 (.pointer (some ⟨g, 0, none⟩)) (.agg cs)).run Try.prog W = .ok .skip (W.setRow g cs) := run_storeRow 88 34 sizeOf88 W g cs h hs h1
/-! 89: bastide/tag.entry (34 cells) -/
@[go_sem ↓] theorem exec_load89 : execOp ρ ⟨dst, .load 89 x, ty, pos, after, guard⟩ = loadRow 89 (ρ x) := rfl
@[go_sem ↓] theorem exec_store89 : execOp ρ ⟨dst, .store 89 x y, ty, pos, after, guard⟩ = storeRow 89 (ρ x) (ρ y) := rfl
@[go_sem ↓] theorem exec_eql89 : execOp ρ ⟨dst, .binOp .eql 89 x y yt, ty, pos, after, guard⟩ = eqRow .eql 89 x y (ρ x) (ρ y) := rfl
@[go_sem ↓] theorem exec_neq89 : execOp ρ ⟨dst, .binOp .neq 89 x y yt, ty, pos, after, guard⟩ = eqRow .neq 89 x y (ρ x) (ρ y) := rfl
theorem sizeOf89 : (Try.prog.info? 89).map (·.size) = some 34 := by kernel_rfl
@[go_sem] theorem row_load89 (h : segB W a 34 = true) : (loadRow 89 (.pointer (some a))).run Try.prog W = .ok (.value (.agg (segV W a 34))) W := run_loadRow 89 34 _ Try.underlying89 rfl sizeOf89 W a h
@[go_sem] theorem row_store89 (g : Nat) (cs : Array Value) (h : rowB W g 34 = true) (hs : cs.size = 34) (h1 : oneB cs = true) : (storeRow 89 (.pointer (some ⟨g, 0, none⟩)) (.agg cs)).run Try.prog W = .ok .skip (W.setRow g cs) := run_storeRow 89 34 sizeOf89 W g cs h hs h1
/-! 91: From (34 cells) -/
@[go_sem ↓] theorem exec_load91 : execOp ρ ⟨dst, .load 91 x, ty, pos, after, guard⟩ = loadRow 91 (ρ x) := rfl
@[go_sem ↓] theorem exec_store91 : execOp ρ ⟨dst, .store 91 x y, ty, pos, after, guard⟩ = storeRow 91 (ρ x) (ρ y) := rfl
@[go_sem ↓] theorem exec_eql91 : execOp ρ ⟨dst, .binOp .eql 91 x y yt, ty, pos, after, guard⟩ = eqRow .eql 91 x y (ρ x) (ρ y) := rfl
@[go_sem ↓] theorem exec_neq91 : execOp ρ ⟨dst, .binOp .neq 91 x y yt, ty, pos, after, guard⟩ = eqRow .neq 91 x y (ρ x) (ρ y) := rfl
theorem sizeOf91 : (Try.prog.info? 91).map (·.size) = some 34 := by kernel_rfl
@[go_sem] theorem row_load91 (h : segB W a 34 = true) : (loadRow 91 (.pointer (some a))).run Try.prog W = .ok (.value (.agg (segV W a 34))) W := run_loadRow 91 34 _ Try.underlying91 rfl sizeOf91 W a h
@[go_sem] theorem row_store91 (g : Nat) (cs : Array Value) (h : rowB W g 34 = true) (hs : cs.size = 34) (h1 : oneB cs = true) : (storeRow 91 (.pointer (some ⟨g, 0, none⟩)) (.agg cs)).run Try.prog W = .ok .skip (W.setRow g cs) := run_storeRow 91 34 sizeOf91 W g cs h hs h1
/-! 92: bastide/bastideref04.Tag (34 cells) -/
@[go_sem ↓] theorem exec_load92 : execOp ρ ⟨dst, .load 92 x, ty, pos, after, guard⟩ = loadRow 92 (ρ x) := rfl
@[go_sem ↓] theorem exec_store92 : execOp ρ ⟨dst, .store 92 x y, ty, pos, after, guard⟩ = storeRow 92 (ρ x) (ρ y) := rfl
@[go_sem ↓] theorem exec_eql92 : execOp ρ ⟨dst, .binOp .eql 92 x y yt, ty, pos, after, guard⟩ = eqRow .eql 92 x y (ρ x) (ρ y) := rfl
@[go_sem ↓] theorem exec_neq92 : execOp ρ ⟨dst, .binOp .neq 92 x y yt, ty, pos, after, guard⟩ = eqRow .neq 92 x y (ρ x) (ρ y) := rfl
theorem sizeOf92 : (Try.prog.info? 92).map (·.size) = some 34 := by kernel_rfl
@[go_sem] theorem row_load92 (h : segB W a 34 = true) : (loadRow 92 (.pointer (some a))).run Try.prog W = .ok (.value (.agg (segV W a 34))) W := run_loadRow 92 34 _ Try.underlying92 rfl sizeOf92 W a h
@[go_sem] theorem row_store92 (g : Nat) (cs : Array Value) (h : rowB W g 34 = true) (hs : cs.size = 34) (h1 : oneB cs = true) : (storeRow 92 (.pointer (some ⟨g, 0, none⟩)) (.agg cs)).run Try.prog W = .ok .skip (W.setRow g cs) := run_storeRow 92 34 sizeOf92 W g cs h hs h1
/-! 97: begun (4 cells) -/
@[go_sem ↓] theorem exec_load97 : execOp ρ ⟨dst, .load 97 x, ty, pos, after, guard⟩ = loadRow 97 (ρ x) := rfl
@[go_sem ↓] theorem exec_store97 : execOp ρ ⟨dst, .store 97 x y, ty, pos, after, guard⟩ = storeRow 97 (ρ x) (ρ y) := rfl
@[go_sem ↓] theorem exec_eql97 : execOp ρ ⟨dst, .binOp .eql 97 x y yt, ty, pos, after, guard⟩ = eqRow .eql 97 x y (ρ x) (ρ y) := rfl
@[go_sem ↓] theorem exec_neq97 : execOp ρ ⟨dst, .binOp .neq 97 x y yt, ty, pos, after, guard⟩ = eqRow .neq 97 x y (ρ x) (ρ y) := rfl
theorem sizeOf97 : (Try.prog.info? 97).map (·.size) = some 4 := by kernel_rfl
@[go_sem] theorem row_load97 (h : segB W a 4 = true) : (loadRow 97 (.pointer (some a))).run Try.prog W = .ok (.value (.agg (segV W a 4))) W := run_loadRow 97 4 _ Try.underlying97 rfl sizeOf97 W a h
@[go_sem] theorem row_store97 (g : Nat) (cs : Array Value) (h : rowB W g 4 = true) (hs : cs.size = 4) (h1 : oneB cs = true) : (storeRow 97 (.pointer (some ⟨g, 0, none⟩)) (.agg cs)).run Try.prog W = .ok .skip (W.setRow g cs) := run_storeRow 97 4 sizeOf97 W g cs h hs h1
/-! 98: bastide/bag.Bag (4 cells) -/
@[go_sem ↓] theorem exec_load98 : execOp ρ ⟨dst, .load 98 x, ty, pos, after, guard⟩ = loadRow 98 (ρ x) := rfl
@[go_sem ↓] theorem exec_store98 : execOp ρ ⟨dst, .store 98 x y, ty, pos, after, guard⟩ = storeRow 98 (ρ x) (ρ y) := rfl
@[go_sem ↓] theorem exec_eql98 : execOp ρ ⟨dst, .binOp .eql 98 x y yt, ty, pos, after, guard⟩ = eqRow .eql 98 x y (ρ x) (ρ y) := rfl
@[go_sem ↓] theorem exec_neq98 : execOp ρ ⟨dst, .binOp .neq 98 x y yt, ty, pos, after, guard⟩ = eqRow .neq 98 x y (ρ x) (ρ y) := rfl
theorem sizeOf98 : (Try.prog.info? 98).map (·.size) = some 4 := by kernel_rfl
@[go_sem] theorem row_load98 (h : segB W a 4 = true) : (loadRow 98 (.pointer (some a))).run Try.prog W = .ok (.value (.agg (segV W a 4))) W := run_loadRow 98 4 _ Try.underlying98 rfl sizeOf98 W a h
@[go_sem] theorem row_store98 (g : Nat) (cs : Array Value) (h : rowB W g 4 = true) (hs : cs.size = 4) (h1 : oneB cs = true) : (storeRow 98 (.pointer (some ⟨g, 0, none⟩)) (.agg cs)).run Try.prog W = .ok .skip (W.setRow g cs) := run_storeRow 98 4 sizeOf98 W g cs h hs h1
/-! 99: L (3 cells) -/
@[go_sem ↓] theorem exec_load99 : execOp ρ ⟨dst, .load 99 x, ty, pos, after, guard⟩ = loadRow 99 (ρ x) := rfl
@[go_sem ↓] theorem exec_store99 : execOp ρ ⟨dst, .store 99 x y, ty, pos, after, guard⟩ = storeRow 99 (ρ x) (ρ y) := rfl
@[go_sem ↓] theorem exec_eql99 : execOp ρ ⟨dst, .binOp .eql 99 x y yt, ty, pos, after, guard⟩ = eqRow .eql 99 x y (ρ x) (ρ y) := rfl
@[go_sem ↓] theorem exec_neq99 : execOp ρ ⟨dst, .binOp .neq 99 x y yt, ty, pos, after, guard⟩ = eqRow .neq 99 x y (ρ x) (ρ y) := rfl
theorem sizeOf99 : (Try.prog.info? 99).map (·.size) = some 3 := by kernel_rfl
@[go_sem] theorem row_load99 (h : segB W a 3 = true) : (loadRow 99 (.pointer (some a))).run Try.prog W = .ok (.value (.agg (segV W a 3))) W := run_loadRow 99 3 _ Try.underlying99 rfl sizeOf99 W a h
@[go_sem] theorem row_store99 (g : Nat) (cs : Array Value) (h : rowB W g 3 = true) (hs : cs.size = 3) (h1 : oneB cs = true) : (storeRow 99 (.pointer (some ⟨g, 0, none⟩)) (.agg cs)).run Try.prog W = .ok .skip (W.setRow g cs) := run_storeRow 99 3 sizeOf99 W g cs h hs h1
/-! 100: bastide/bastideref13.Bag (3 cells) -/
@[go_sem ↓] theorem exec_load100 : execOp ρ ⟨dst, .load 100 x, ty, pos, after, guard⟩ = loadRow 100 (ρ x) := rfl
@[go_sem ↓] theorem exec_store100 : execOp ρ ⟨dst, .store 100 x y, ty, pos, after, guard⟩ = storeRow 100 (ρ x) (ρ y) := rfl
@[go_sem ↓] theorem exec_eql100 : execOp ρ ⟨dst, .binOp .eql 100 x y yt, ty, pos, after, guard⟩ = eqRow .eql 100 x y (ρ x) (ρ y) := rfl
@[go_sem ↓] theorem exec_neq100 : execOp ρ ⟨dst, .binOp .neq 100 x y yt, ty, pos, after, guard⟩ = eqRow .neq 100 x y (ρ x) (ρ y) := rfl
theorem sizeOf100 : (Try.prog.info? 100).map (·.size) = some 3 := by kernel_rfl
@[go_sem] theorem row_load100 (h : segB W a 3 = true) : (loadRow 100 (.pointer (some a))).run Try.prog W = .ok (.value (.agg (segV W a 3))) W := run_loadRow 100 3 _ Try.underlying100 rfl sizeOf100 W a h
@[go_sem] theorem row_store100 (g : Nat) (cs : Array Value) (h : rowB W g 3 = true) (hs : cs.size = 3) (h1 : oneB cs = true) : (storeRow 100 (.pointer (some ⟨g, 0, none⟩)) (.agg cs)).run Try.prog W = .ok .skip (W.setRow g cs) := run_storeRow 100 3 sizeOf100 W g cs h hs h1
end
end Go.Proofs.Ytjnaenmknbcjmaa
