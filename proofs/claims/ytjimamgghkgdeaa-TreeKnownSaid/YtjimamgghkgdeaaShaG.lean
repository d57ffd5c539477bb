/- sha: a Hash in memory; New, ready. -/
import Derived.Test.YtjimamgghkgdeaaShaF
import Derived.Test.YtjimamgghkgdeaaOnce
namespace Go.Proofs.Ytjimamgghkgdeaa
open Go.RowKit

/-- three parts -/
theorem mid_get {α : Type} (A B C : List α) (j : Nat) (h : j < B.length) : (A ++ (B ++ C))[A.length + j]? = B[j]? := by
  rw [List.getElem?_append_right (by omega), Nat.add_sub_cancel_left, List.getElem?_append_left h]
theorem mid_splice {α : Type} (A B B' C : List α) (h : B'.length = B.length) : splice (A ++ (B ++ C)) A.length B' = A ++ (B' ++ C) := by
  unfold splice
  rw [List.take_left, h, show A.length + B.length = (A ++ B).length by simp, ← List.append_assoc A B C, List.drop_left]

/-- a Hash's cells: done, locked; numbers; state; block; how many are held, how many came -/
def hashH (d m : Int) : List Value := [.bool true, .int .u32 d, .int .i32 m, .int .u32 0]
def wordV (L : List Int) : List Value := L.map (Value.int .u32)
@[simp] theorem wordV_length (L : List Int) : (wordV L).length = L.length := by simp [wordV]
def hashV (d m : Int) (k st : List Int) (blk : Bytes) (held all : Int) : List Value := hashH d m ++ (wordV k ++ (wordV st ++ (encB blk ++ [.int .i64 held, .int .i64 all])))

structure HashAt (W : World) (g : Nat) (d m : Int) (k st : List Int) (blk : Bytes) (held all : Int) : Prop where
  b : Blk W g 120 (hashV d m k st blk held all)
  lk : k.length = 64
  ls : st.length = 8
  lb : blk.length = 64
section
variable {W W' : World} {g : Nat} {d m : Int} {k st : List Int} {blk : Bytes} {held all : Int} {S : Nat → Prop}
theorem HashAt.upd (h : HashAt W g d m k st blk held all) (hu : Upd S W W') (hs : ¬ S g) : HashAt W' g d m k st blk held all := ⟨h.b.upd hu hs, h.lk, h.ls, h.lb⟩
theorem HashAt.kept (h : HashAt W g d m k st blk held all) (hu : Kept W W') : HashAt W' g d m k st blk held all := h.upd hu id
theorem HashAt.c0 (h : HashAt W g d m k st blk held all) : W.cell? ⟨g, 0, none⟩ = some (.bool true) := h.b.cell rfl
theorem HashAt.c1 (h : HashAt W g d m k st blk held all) : W.cell? ⟨g, 1, none⟩ = some (.int .u32 d) := h.b.cell rfl
theorem HashAt.c2 (h : HashAt W g d m k st blk held all) : W.cell? ⟨g, 2, none⟩ = some (.int .i32 m) := h.b.cell rfl
theorem HashAt.thaw (h : HashAt W g d m k st blk held all) (o : Nat) : W.frozen? ⟨g, o, none⟩ = false := h.b.thaw o
theorem HashAt.len (h : HashAt W g d m k st blk held all) : (hashV d m k st blk held all).length = 142 := by simp [hashV, hashH, h.lk, h.ls, h.lb, encB_length]
theorem HashAt.rk (h : HashAt W g d m k st blk held all) : W.rangeAt g 4 (wordV k) := h.b.range 4 fun j hj => mid_get (hashH d m) (wordV k) _ j hj
theorem hash_st (d m : Int) (k st : List Int) (blk : Bytes) (held all : Int) : hashV d m k st blk held all = (hashH d m ++ wordV k) ++ (wordV st ++ (encB blk ++ [.int .i64 held, .int .i64 all])) := by simp [hashV]
theorem hash_blk (d m : Int) (k st : List Int) (blk : Bytes) (held all : Int) : hashV d m k st blk held all = (hashH d m ++ wordV k ++ wordV st) ++ (encB blk ++ [.int .i64 held, .int .i64 all]) := by simp [hashV]
theorem hash_end (d m : Int) (k st : List Int) (blk : Bytes) (held all : Int) : hashV d m k st blk held all = (hashH d m ++ wordV k ++ wordV st ++ encB blk) ++ ([.int .i64 held, .int .i64 all] ++ []) := by simp [hashV]
theorem HashAt.rs (h : HashAt W g d m k st blk held all) : W.rangeAt g 68 (wordV st) := h.b.range 68 fun j hj => by
  have := mid_get (hashH d m ++ wordV k) (wordV st) (encB blk ++ [.int .i64 held, .int .i64 all]) j hj
  rwa [← hash_st, show (hashH d m ++ wordV k).length = 68 by simp [hashH, h.lk]] at this
theorem HashAt.rb (h : HashAt W g d m k st blk held all) : W.rangeAt g 76 (encB blk) := h.b.range 76 fun j hj => by
  have := mid_get (hashH d m ++ wordV k ++ wordV st) (encB blk) [.int .i64 held, .int .i64 all] j hj
  rwa [← hash_blk, show (hashH d m ++ wordV k ++ wordV st).length = 76 by simp [hashH, h.lk, h.ls]] at this
theorem HashAt.segS (h : HashAt W g d m k st blk held all) : segB W ⟨g, 68, none⟩ 8 = true ∧ segV W ⟨g, 68, none⟩ 8 = w32A st := by
  have := h.b.seg 68 8 (wordV st) (by rw [wordV_length, h.ls]) (fun j hj => by
    have := mid_get (hashH d m ++ wordV k) (wordV st) (encB blk ++ [.int .i64 held, .int .i64 all]) j (by rw [wordV_length, h.ls]; exact hj)
    rwa [← hash_st, show (hashH d m ++ wordV k).length = 68 by simp [hashH, h.lk]] at this)
  exact this
theorem HashAt.segB64 (h : HashAt W g d m k st blk held all) : segB W ⟨g, 76, none⟩ 64 = true ∧ segV W ⟨g, 76, none⟩ 64 = b8A blk := by
  have := h.b.seg 76 64 (encB blk) (by rw [encB_length, h.lb]) (fun j hj => by
    have := mid_get (hashH d m ++ wordV k ++ wordV st) (encB blk) [.int .i64 held, .int .i64 all] j (by rw [encB_length, h.lb]; exact hj)
    rwa [← hash_blk, show (hashH d m ++ wordV k ++ wordV st).length = 76 by simp [hashH, h.lk, h.ls]] at this)
  exact this
theorem HashAt.cend (h : HashAt W g d m k st blk held all) (j : Nat) (hj : j < 2) : W.cell? ⟨g, 140 + j, none⟩ = [Value.int .i64 held, .int .i64 all][j]? := by
  have := mid_get (hashH d m ++ wordV k ++ wordV st ++ encB blk) [.int .i64 held, .int .i64 all] [] j hj
  rw [← hash_end, show (hashH d m ++ wordV k ++ wordV st ++ encB blk).length = 140 by simp [hashH, h.lk, h.ls, h.lb, encB_length]] at this
  have h2 : [Value.int .i64 held, .int .i64 all][j]? = some ([Value.int .i64 held, .int .i64 all][j]'hj) := List.getElem?_eq_getElem hj
  rw [h2] at this ⊢
  exact h.b.cell this
theorem HashAt.cheld (h : HashAt W g d m k st blk held all) : W.cell? ⟨g, 140, none⟩ = some (.int .i64 held) := h.cend 0 (by omega)
theorem HashAt.call (h : HashAt W g d m k st blk held all) : W.cell? ⟨g, 141, none⟩ = some (.int .i64 all) := h.cend 1 (by omega)
theorem HashAt.setHeld (h : HashAt W g d m k st blk held all) (x : Int) : HashAt (W.setCell ⟨g, 140, none⟩ (.int .i64 x)) g d m k st blk x all := by
  refine ⟨?_, h.lk, h.ls, h.lb⟩
  have := h.b.set 140 (.int .i64 x)
  rw [hash_end, List.set_append_right _ _ (by simp [hashH, h.lk, h.ls, h.lb, encB_length])] at this
  rw [hash_end]
  simpa [hashH, h.lk, h.ls, h.lb, encB_length] using this
theorem HashAt.setAll (h : HashAt W g d m k st blk held all) (x : Int) : HashAt (W.setCell ⟨g, 141, none⟩ (.int .i64 x)) g d m k st blk held x := by
  refine ⟨?_, h.lk, h.ls, h.lb⟩
  have := h.b.set 141 (.int .i64 x)
  rw [hash_end, List.set_append_right _ _ (by simp [hashH, h.lk, h.ls, h.lb, encB_length])] at this
  rw [hash_end]
  simpa [hashH, h.lk, h.ls, h.lb, encB_length] using this
theorem HashAt.setD (h : HashAt W g d m k st blk held all) (x : Int) : HashAt (W.setCell ⟨g, 1, none⟩ (.int .u32 x)) g x m k st blk held all := ⟨h.b.set 1 (.int .u32 x), h.lk, h.ls, h.lb⟩
theorem HashAt.setM (h : HashAt W g d m k st blk held all) (x : Int) : HashAt (W.setCell ⟨g, 2, none⟩ (.int .i32 x)) g d x k st blk held all := ⟨h.b.set 2 (.int .i32 x), h.lk, h.ls, h.lb⟩
/-- other numbers -/
theorem HashAt.runK (h : HashAt W g d m k st blk held all) {k' : List Int} (hk : k'.length = 64) :
    ∃ W', (storeRow 116 (.pointer (some ⟨g, 4, none⟩)) (.agg (w32A k'))).run Try.prog W = .ok .skip W' ∧ HashAt W' g d m k' st blk held all ∧ Upd (fun i => i = g) W W' := by
  have hr := run_storeMid (P := Try.prog) h.b 116 64 4 sizeOf116 (w32A k') (by rw [w32A_size, hk]) (by rw [h.len]; omega) (w32A_one _)
  have he : splice (hashV d m k st blk held all) 4 (w32A k').toList = hashV d m k' st blk held all := by
    have := mid_splice (hashH d m) (wordV k) (wordV k') (wordV st ++ (encB blk ++ [.int .i64 held, .int .i64 all])) (by simp [h.lk, hk])
    exact this
  rw [he] at hr
  exact ⟨_, hr, ⟨h.b.setRow _, hk, h.ls, h.lb⟩, (Upd.refl _ _).setRow _ _ fun _ => rfl⟩
theorem HashAt.runS (h : HashAt W g d m k st blk held all) {st' : List Int} (hk : st'.length = 8) :
    ∃ W', (storeRow 117 (.pointer (some ⟨g, 68, none⟩)) (.agg (w32A st'))).run Try.prog W = .ok .skip W' ∧ HashAt W' g d m k st' blk held all ∧ Upd (fun i => i = g) W W' := by
  have hr := run_storeMid (P := Try.prog) h.b 117 8 68 sizeOf117 (w32A st') (by rw [w32A_size, hk]) (by rw [h.len]; omega) (w32A_one _)
  have he : splice (hashV d m k st blk held all) 68 (w32A st').toList = hashV d m k st' blk held all := by
    have := mid_splice (hashH d m ++ wordV k) (wordV st) (wordV st') (encB blk ++ [.int .i64 held, .int .i64 all]) (by simp [h.ls, hk])
    rw [show (hashH d m ++ wordV k).length = 68 by simp [hashH, h.lk], ← hash_st, ← hash_st] at this
    exact this
  rw [he] at hr
  exact ⟨_, hr, ⟨h.b.setRow _, h.lk, hk, h.lb⟩, (Upd.refl _ _).setRow _ _ fun _ => rfl⟩
end

def hash0 : Array Value := (hashV 0 0 zw64 zw8 zb64 0 0).toArray
@[go_sem ↓] theorem exec_build_hash (ρ : Operand → Value) (dst : Option Tmp) (parts : Array (Nat × Operand)) (ty : TypeId) (pos : String) (after : Array Edge) (guard : Option (Nat × Bool)) :
    execOp ρ ⟨dst, .build 120 parts, ty, pos, after, guard⟩ = buildRow 120 (parts.map fun (i, x) => (i, ρ x)) := rfl
@[go_sem] theorem run_build_hash (W : World) : (buildRow 120 #[(0, .bool true)]).run Try.prog W = .ok (.value (.agg hash0)) W := by
  have H := run_build (P := Try.prog) W 120 #[(0, .bool true)] hash0 (by unfold hash0; kernel_rfl)
  simp [buildRow, H, Result.andThen]
theorem sha_New (w : World) : Calls Try.prog 53 #[] w fun e w' => e = .returned (.pointer (some ⟨w.heap.size, 0, none⟩)) ∧ HashAt w' w.heap.size 0 0 zw64 zw8 zb64 0 0 ∧ Kept w w' := by
  have h : HashAt (w.alloc (.cells hash0 120)) w.heap.size 0 0 zw64 zw8 zb64 0 0 := ⟨Blk.new w _ _, by simp [zw64], by simp [zw8], by simp [zb64]⟩
  have hk : Kept w (w.alloc (.cells hash0 120)) := (Upd.refl _ w).alloc _
  have HH := Lib.hid (And.intro h hk)
  clear h hk
  go_enter Try.func53, Try.ntmps53
  go_wp2
  go_ret
  exact ⟨rfl, HH.out.1, HH.out.2⟩
attribute [irreducible] hash0
end Go.Proofs.Ytjimamgghkgdeaa
