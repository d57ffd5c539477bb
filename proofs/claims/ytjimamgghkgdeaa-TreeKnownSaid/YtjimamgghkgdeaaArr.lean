/- Blocks of cells as lists: loads, stores, parts of a block. No program is named. -/
import Derived.Test.YtjimamgghkgdeaaBase
import Derived.Deep.MidRow
import Derived.Laws.CopyOwn
namespace Go.Proofs.Ytjimamgghkgdeaa
open Go.RowKit

/-- block g is these cells, none frozen -/
def Blk (W : World) (g t : Nat) (vs : List Value) : Prop := W.heap[g]? = some (.cells vs.toArray t (0, 0))

section
variable {W W' : World} {g t : Nat} {vs : List Value} {S : Nat → Prop}
theorem Blk.lt (h : Blk W g t vs) : g < W.heap.size := (Array.getElem?_eq_some_iff.1 h).1
theorem Blk.cell (h : Blk W g t vs) {k : Nat} {v : Value} (hk : vs[k]? = some v) : W.cell? ⟨g, k, none⟩ = some v := by
  rw [cell_of_row W g k _ _ _ h]; simpa using hk
theorem Blk.has (h : Blk W g t vs) {k : Nat} (hk : k < vs.length) : ∃ v, W.cell? ⟨g, k, none⟩ = some v := ⟨vs[k], h.cell (by simp [hk])⟩
theorem Blk.thaw (h : Blk W g t vs) (o : Nat) : W.frozen? ⟨g, o, none⟩ = false := frozen_of_row W g o _ _ h
theorem Blk.set (h : Blk W g t vs) (k : Nat) (v : Value) : Blk (W.setCell ⟨g, k, none⟩ v) g t (vs.set k v) := by
  unfold Blk
  rw [heap_setCell_same _ g k _ _ _ h]
  simp
theorem Blk.upd (h : Blk W g t vs) (hu : Upd S W W') (hs : ¬ S g) : Blk W' g t vs := hu.heap h hs
theorem Blk.kept (h : Blk W g t vs) (hu : Kept W W') : Blk W' g t vs := hu.heap h id
theorem Blk.alloc (h : Blk W g t vs) (o : Obj) : Blk (W.alloc o) g t vs := h.kept ((Upd.refl _ W).alloc o)
theorem Blk.drew (h : Blk W g t vs) : Blk W.drew g t vs := h
theorem Blk.new (W : World) (t : Nat) (vs : List Value) : Blk (W.alloc (.cells vs.toArray t)) W.heap.size t vs := heap_alloc_new W _
theorem Blk.far (h : Blk W g t vs) (p : Addr) (v : Value) (hp : g ≠ p.block) : Blk (W.setCell p v) g t vs := by
  unfold Blk
  rw [heap_setCell_other W p g v hp]
  exact h
theorem Blk.range (h : Blk W g t vs) (o : Nat) {cs : List Value} (hc : ∀ j, j < cs.length → vs[o + j]? = cs[j]?) : W.rangeAt g o cs := fun j v hv => by
  refine h.cell ?_
  rw [hc j (List.getElem?_eq_some_iff.1 hv).1]
  exact hv
theorem Blk.seg (h : Blk W g t vs) (o n : Nat) (cs : List Value) (hn : cs.length = n) (hc : ∀ j, j < n → vs[o + j]? = cs[j]?) : segB W ⟨g, o, none⟩ n = true ∧ segV W ⟨g, o, none⟩ n = cs.toArray := by
  have hr : ∀ j v, cs.toArray[j]? = some v → W.cell? ((⟨g, o, none⟩ : Addr).add j) = some v := fun j v hv => by
    rw [add_none]
    have hv' : cs[j]? = some v := by simpa using hv
    have hj : j < n := by have := (List.getElem?_eq_some_iff.1 hv').1; omega
    exact h.cell (by rw [hc j hj]; exact hv')
  exact ⟨segB_of hr (by simpa using hn), segV_of hr (by simpa using hn)⟩

theorem Blk.setRow (h : Blk W g t vs) (cs : List Value) : Blk (W.setRow g cs.toArray) g t cs := setRow_heap W g _ _ t _ h
theorem Upd.setRow {a b : World} (h : Upd S a b) (g : Nat) (cs : Array Value) (hg : g < a.heap.size → S g) : Upd S a (b.setRow g cs) :=
  h.then (T := fun k => k = g) ⟨rfl, rfl, rfl, by simp [World.setRow], fun k _ hne => by simp only [World.setRow, Array.getElem?_modify]; rw [if_neg (fun e => hne e.symm)]⟩ fun _ hi hik => hik ▸ hg (hik ▸ hi)
end

/-- many cells stored from a place of a block on -/
theorem run_storeMid {P : Program} {W : World} {g t : Nat} {vs : List Value} (h : Blk W g t vs) (ty n o : Nat) (hi : (P.info? ty).map (·.size) = some n) (cs : Array Value) (hs : cs.size = n) (ho : o + n ≤ vs.length) (h1 : oneB cs = true) :
    (storeRow ty (.pointer (some ⟨g, o, none⟩)) (.agg cs)).run P W = .ok .skip (W.setRow g (splice vs o cs.toList).toArray) := by
  obtain ⟨i, hi1, hi2⟩ := Option.map_eq_some_iff.1 hi
  have := run_storeCells_at P g o t cs.toList 0 vs.toArray W h (by simp; omega) (fun v hv => by unfold oneB at h1; exact List.all_eq_true.1 h1 v hv)
  simp only [Nat.add_zero] at this
  simp [storeRow, Instr.storeAt, Instr.sureAddr, storeVar, sizeOf, typeInfo, hi1, hi2, Value.cells, hs, this, Result.andThen, splice]

/-- an element of an array that is a value -/
theorem run_indexRow {P : Program} (t e n : Nat) (d : TypeDesc) (hu : P.underlying t = some (.array n e)) (hue : P.underlying e = some d) (hd : (match d with | .struct _ | .array _ _ => true | _ => false) = false)
    (hi : (P.info? e).map (·.size) = some 1) (W : World) (cs : Array Value) (i : Nat) (v : Value) (hlt : i < n) (hv : cs[i]? = some v) :
    (indexRow t (.agg cs) (.int .i64 (i : Int))).run P W = .ok (.value v) W := by
  obtain ⟨ie, hi1, hi2⟩ := Option.map_eq_some_iff.1 hi
  have ha : (isAgg e).run P W = .ok false W := by
    unfold isAgg
    rw [Sem.run_bind, run_underlying hue W]
    cases d <;> simp_all
  simp [indexRow, Instr.index, asIntOf, run_underlying hu, sizeOf, typeInfo, hi1, hi2, part, ha, hlt, hv, Result.andThen]

theorem splice_nil {α : Type} (L : List α) (o : Nat) : splice L o [] = L := by simp [splice]
theorem splice_get {α : Type} (L : List α) (o : Nat) (cs : List α) (j : Nat) (ho : o + cs.length ≤ L.length) : (splice L o cs)[j]? = if o ≤ j ∧ j < o + cs.length then cs[j - o]? else L[j]? := by
  unfold splice
  by_cases h1 : j < o
  · rw [List.getElem?_append_left (by simp; omega), if_neg (by omega), List.getElem?_take_of_lt h1]
  · rw [List.getElem?_append_right (by simp; omega)]
    have hl : (List.take o L).length = o := by simp; omega
    rw [hl]
    by_cases h2 : j < o + cs.length
    · rw [List.getElem?_append_left (by omega), if_pos (by omega)]
    · rw [List.getElem?_append_right (by omega), if_neg (by omega), List.getElem?_drop]
      congr 1; omega
end Go.Proofs.Ytjimamgghkgdeaa
