/- Memory: what a stretch of cells holds; what a call may have turned; digests as values. No program is named. -/
import Derived.Test.YtjimamgghkgdeaaMap
import Derived.StillTailTactics
import Derived.RegionTactic
import Derived.BigRegion
import Derived.Deep.QuietTactic
import Derived.BigQuiet
namespace Go.Proofs.Ytjimamgghkgdeaa
open Go.RowKit

/-! ### stretches of cells -/
/-- n cells lie from a on -/
def segB (W : World) (a : Addr) (n : Nat) : Bool := (List.range n).all fun j => (W.cell? (a.add j)).isSome
/-- .. and hold this -/
def segV (W : World) (a : Addr) (n : Nat) : Array Value := ((List.range n).map fun j => (W.cell? (a.add j)).getD undef).toArray

theorem add_block (a : Addr) (n : Nat) : (a.add n).block = a.block := by unfold Addr.add; split <;> rfl
theorem add_none (b o n : Nat) : (⟨b, o, none⟩ : Addr).add n = ⟨b, o + n, none⟩ := by
  unfold Addr.add; split
  · rename_i h; simp [h]
  · rfl

@[go_sem] theorem segB_drew (W : World) (a : Addr) (n : Nat) : segB W.drew a n = segB W a n := rfl
@[go_sem] theorem segV_drew (W : World) (a : Addr) (n : Nat) : segV W.drew a n = segV W a n := rfl
@[go_sem] theorem segB_drewN (W : World) (m : Nat) (a : Addr) (n : Nat) : segB (W.drewN m) a n = segB W a n := rfl
@[go_sem] theorem segV_drewN (W : World) (m : Nat) (a : Addr) (n : Nat) : segV (W.drewN m) a n = segV W a n := rfl

theorem segB_same {W W' : World} {a : Addr} (n : Nat) (h : W'.heap[a.block]? = W.heap[a.block]?) : segB W' a n = segB W a n := by
  unfold segB
  congr 1
  funext j
  rw [World.cell?_of_block (w := W) (w' := W') (a := a.add j) (by rw [add_block]; exact h)]
theorem segV_same {W W' : World} {a : Addr} (n : Nat) (h : W'.heap[a.block]? = W.heap[a.block]?) : segV W' a n = segV W a n := by
  unfold segV
  congr 2
  funext j
  rw [World.cell?_of_block (w := W) (w' := W') (a := a.add j) (by rw [add_block]; exact h)]

theorem segB_past (W : World) (o : Obj) (b off n : Nat) (h : b < W.heap.size) : segB (W.alloc o) ⟨b, off, none⟩ n = segB W ⟨b, off, none⟩ n := segB_same n (heap_alloc_old W o h)
theorem segV_past (W : World) (o : Obj) (b off n : Nat) (h : b < W.heap.size) : segV (W.alloc o) ⟨b, off, none⟩ n = segV W ⟨b, off, none⟩ n := segV_same n (heap_alloc_old W o h)
theorem segB_far (W : World) (p : Addr) (v : Value) (b off n : Nat) (h : b ≠ p.block) : segB (W.setCell p v) ⟨b, off, none⟩ n = segB W ⟨b, off, none⟩ n := segB_same n (heap_setCell_other W p b v h)
theorem segV_far (W : World) (p : Addr) (v : Value) (b off n : Nat) (h : b ≠ p.block) : segV (W.setCell p v) ⟨b, off, none⟩ n = segV W ⟨b, off, none⟩ n := segV_same n (heap_setCell_other W p b v h)
attribute [go_sem] segB_past segV_past

theorem segB_of {W : World} {a : Addr} {cs : Array Value} {n : Nat} (h : ∀ j v, cs[j]? = some v → W.cell? (a.add j) = some v) (hn : cs.size = n) : segB W a n = true := by
  unfold segB
  rw [List.all_eq_true]
  intro j hj
  have : j < cs.size := by rw [hn]; exact List.mem_range.1 hj
  rw [h j cs[j] (by simp [this])]
  rfl
theorem segV_of {W : World} {a : Addr} {cs : Array Value} {n : Nat} (h : ∀ j v, cs[j]? = some v → W.cell? (a.add j) = some v) (hn : cs.size = n) : segV W a n = cs := by
  unfold segV
  apply Array.ext'
  apply List.ext_getElem?
  intro j
  simp only [List.getElem?_map, Array.getElem?_toList]
  by_cases hj : j < n
  · rw [List.getElem?_range hj]
    have h1 : cs[j]? = some cs[j] := by simp [show j < cs.size by omega]
    simp [h j _ h1, show j < cs.size by omega]
  · rw [List.getElem?_eq_none (by simp; omega)]
    simp; omega
theorem segV_size (W : World) (a : Addr) (n : Nat) : (segV W a n).size = n := by simp [segV]
theorem cell_of_seg {W : World} {a : Addr} {n : Nat} (h : segB W a n = true) (j : Nat) (v : Value) (hv : (segV W a n)[j]? = some v) : W.cell? (a.add j) = some v := by
  have hj : j < n := by have := (Array.getElem?_eq_some_iff.1 hv).1; rw [segV_size] at this; exact this
  unfold segB at h
  have h1 := List.all_eq_true.1 h j (List.mem_range.2 hj)
  unfold segV at hv
  obtain ⟨u, hu⟩ := Option.isSome_iff_exists.1 h1
  simp [hj, hu] at hv
  rw [hu, hv]

theorem seg_block {W : World} {g t : Nat} {fr : Nat × Nat} {cs : Array Value} (h : W.heap[g]? = some (.cells cs t fr)) : ∀ j v, cs[j]? = some v → W.cell? ((⟨g, 0, none⟩ : Addr).add j) = some v := by
  intro j v hv
  rw [add_none, Nat.zero_add, cell_of_row W g j cs t fr h, hv]

theorem segB_new (W : World) (g : Nat) (c : Array Value) (t n : Nat) (hg : g = W.heap.size) (hn : c.size = n) : segB (W.alloc (.cells c t)) ⟨g, 0, none⟩ n = true := by
  subst hg; exact segB_of (seg_block (heap_alloc_new W _)) hn
theorem segV_new (W : World) (g : Nat) (c : Array Value) (t n : Nat) (hg : g = W.heap.size) (hn : c.size = n) : segV (W.alloc (.cells c t)) ⟨g, 0, none⟩ n = c := by
  subst hg; exact segV_of (seg_block (heap_alloc_new W _)) hn
attribute [go_sem] segB_new segV_new

/-! ### operations on whole structs and arrays, kept behind names -/
def allocRow (t : TypeId) : Sem Next := do pure (.value (← Instr.alloc t true (.tuple #[])))
def loadRow (t : TypeId) (v : Value) : Sem Next := do pure (.value (← Instr.loadAt t v))
def buildRow (t : TypeId) (parts : Array (Nat × Value)) : Sem Next := do pure (.value (← Instr.build t parts))
def storeRow (t : TypeId) (a x : Value) : Sem Next := do Instr.storeAt t a x; pure .skip
def eqRow (op : BinOp) (t : TypeId) (xo yo : Operand) (x y : Value) : Sem Next := do pure (.value (← (do eqGuard op t xo yo x y; binOp op t x y)))
def indexRow (t : TypeId) (x i : Value) : Sem Next := do pure (.value (← Instr.index t x i))
def fieldRow (t : TypeId) (x : Value) (i : Nat) : Sem Next := do pure (.value (← Instr.field t x i))
def lookupRow (t : TypeId) (x i : Value) (c : Bool) : Sem Next := do pure (.value (← Instr.lookup t x i c))
def updateRow (t : TypeId) (m k x : Value) : Sem Next := do Instr.mapUpdate t m k x; pure .skip

theorem run_loadRow {P : Program} (t n : Nat) (d : TypeDesc) (hu : P.underlying t = some d) (hd : (match d with | .struct _ | .array _ _ => true | _ => false) = true) (hi : (P.info? t).map (·.size) = some n)
    (W : World) (a : Addr) (h : segB W a n = true) : (loadRow t (.pointer (some a))).run P W = .ok (.value (.agg (segV W a n))) W := by
  obtain ⟨i, hi1, hi2⟩ := Option.map_eq_some_iff.1 hi
  have h1 := run_loadCells_list (P := P) (w := W) a (segV W a n).toList (fun j v hv => cell_of_seg h j v (by simpa using hv))
  have h2 : (segV W a n).toList.length = n := by simp [segV_size]
  rw [h2] at h1
  cases d <;> simp at hd <;> simp [loadRow, Instr.loadAt, Instr.sureAddr, loadVar, isAgg, run_underlying hu, sizeOf, typeInfo, hi1, hi2, h1, Result.andThen]

/-- each value is one cell's -/
def oneB (cs : Array Value) : Bool := cs.toList.all (·.oneCell')
/-- block g is n cells, none frozen -/
def rowB (W : World) (g n : Nat) : Bool := match W.heap[g]? with
  | some (.cells c _ (0, 0)) => c.size == n
  | _ => false
theorem rowB_of {W : World} {g t n : Nat} {c : Array Value} (h : W.heap[g]? = some (.cells c t (0, 0))) (hn : c.size = n) : rowB W g n = true := by simp [rowB, h, hn]
theorem rowB_inv {W : World} {g n : Nat} (h : rowB W g n = true) : ∃ c t, W.heap[g]? = some (.cells c t (0, 0)) ∧ c.size = n := by
  unfold rowB at h
  split at h
  · rename_i c t he; exact ⟨c, t, he, by simpa using h⟩
  · cases h
@[go_sem] theorem rowB_drew (W : World) (g n : Nat) : rowB W.drew g n = rowB W g n := rfl
@[go_sem] theorem rowB_drewN (W : World) (m g n : Nat) : rowB (W.drewN m) g n = rowB W g n := rfl
theorem rowB_same {W W' : World} {g : Nat} (n : Nat) (h : W'.heap[g]? = W.heap[g]?) : rowB W' g n = rowB W g n := by unfold rowB; rw [h]
@[go_sem] theorem rowB_past (W : World) (o : Obj) (g n : Nat) (h : g < W.heap.size) : rowB (W.alloc o) g n = rowB W g n := rowB_same n (heap_alloc_old W o h)
@[go_sem] theorem rowB_new (W : World) (c : Array Value) (t g n : Nat) (hg : g = W.heap.size) (hn : c.size = n) : rowB (W.alloc (.cells c t)) g n = true := by
  subst hg; exact rowB_of (heap_alloc_new W _) hn
@[go_sem] theorem setRow_drew (W : World) (g : Nat) (cs : Array Value) : W.drew.setRow g cs = (W.setRow g cs).drew := rfl
@[go_sem] theorem setRow_new (W : World) (c cs : Array Value) (t g : Nat) (hg : g = W.heap.size) : (W.alloc (.cells c t)).setRow g cs = W.alloc (.cells cs t) := by
  subst hg
  simp only [World.setRow, World.alloc, World.mk.injEq, and_self, and_true]
  apply Array.ext_getElem?
  intro i
  simp only [Array.getElem?_modify, Array.getElem?_push]
  by_cases h : W.heap.size = i
  · subst h; simp
  · have h' : ¬ i = W.heap.size := fun e => h e.symm
    simp [h, h']
@[go_sem] theorem setRow_past (W : World) (o : Obj) (cs : Array Value) (g : Nat) (hg : g < W.heap.size) : (W.alloc o).setRow g cs = (W.setRow g cs).alloc o := by
  simp only [World.setRow, World.alloc, World.mk.injEq, and_self, and_true]
  apply Array.ext_getElem?
  intro i
  simp only [Array.getElem?_modify, Array.getElem?_push, Array.size_modify]
  by_cases h : g = i
  · subst h; simp [show ¬ g = W.heap.size by omega]
  · simp [h]

theorem run_storeRow {P : Program} (t n : Nat) (hi : (P.info? t).map (·.size) = some n) (W : World) (g : Nat) (cs : Array Value) (h : rowB W g n = true) (hs : cs.size = n) (h1 : oneB cs = true) :
    (storeRow t (.pointer (some ⟨g, 0, none⟩)) (.agg cs)).run P W = .ok .skip (W.setRow g cs) := by
  obtain ⟨c, t', hg, hc⟩ := rowB_inv h
  simp only [storeRow, Instr.storeAt, Instr.sureAddr, Sem.run_bind, Sem.run_pure, Result.andThen_ok, run_storeVar_row W g t' t c cs hg (by rw [hi, hs]) (by omega) (by rw [← Array.all_toList]; exact h1)]

theorem run_allocRow {P : Program} (t : TypeId) (z : Value) (hz : (P.info? t).bind (·.zero) = some z) (W : World) :
    (allocRow t).run P W = .ok (.value (.pointer (some ⟨W.heap.size, 0, none⟩))) (W.alloc (.cells z.cells t)) := by
  obtain ⟨i, hi, hz'⟩ := Option.bind_eq_some_iff.1 hz
  simp [allocRow, Instr.alloc, zeroValue, typeInfo, hi, hz', newVar, newRow, Result.andThen]

/-- a result that lies in memory -/
theorem results_seg {P : Program} {fn : Func} {p : Tmp} {ty : TypeId} (h : fn.results = #[.cell p ty]) (tmps : Array Value) (w : World) (a : Addr) (n : Nat) (d : TypeDesc) (hp : tmps.getD p undef = .pointer (some a))
    (hu : P.underlying ty = some d) (hd : (match d with | .struct _ | .array _ _ => true | _ => false) = true) (hi : (P.info? ty).map (·.size) = some n) (hs : segB w a n = true) :
    (results fn tmps).run P w = .ok (.agg (segV w a n)) w := by
  have hp' : tmps[p]?.getD undef = .pointer (some a) := by simpa using hp
  have h1 := run_loadRow (P := P) ty n d hu hd hi w a hs
  simp only [loadRow, Instr.loadAt, Instr.sureAddr, Sem.run_bind, Sem.run_pure, Result.andThen_ok] at h1
  cases hr : (loadVar ty a).run P w with
  | halt x w' => rw [hr] at h1; simp [Result.andThen] at h1
  | ok v w' =>
    rw [hr] at h1
    simp [Result.andThen] at h1
    obtain ⟨rfl, rfl⟩ := h1
    simp [results, h, hp', asAddr, hr]

/-! ### what a call may have turned -/
structure Upd (S : Nat → Prop) (w w' : World) : Prop where
  os : w'.os = w.os
  tape : w'.tape = w.tape
  output : w'.output = w.output
  size : w.heap.size ≤ w'.heap.size
  block : ∀ k, k < w.heap.size → ¬ S k → w'.heap[k]? = w.heap[k]?

/-- nothing that was there -/
abbrev Kept (w w' : World) : Prop := Upd (fun _ => False) w w'

theorem Upd.refl (S : Nat → Prop) (w : World) : Upd S w w := ⟨rfl, rfl, rfl, Nat.le_refl _, fun _ _ _ => rfl⟩
theorem Upd.trans {S : Nat → Prop} {a b c : World} (h : Upd S a b) (k : Upd S b c) : Upd S a c :=
  ⟨k.os.trans h.os, k.tape.trans h.tape, k.output.trans h.output, Nat.le_trans h.size k.size, fun i hi hs => (k.block i (Nat.lt_of_lt_of_le hi h.size) hs).trans (h.block i hi hs)⟩
theorem Upd.mono {S T : Nat → Prop} {a b : World} (h : Upd S a b) (hst : ∀ k, k < a.heap.size → S k → T k) : Upd T a b := ⟨h.os, h.tape, h.output, h.size, fun k hk hn => h.block k hk fun hs => hn (hst k hk hs)⟩
theorem Kept.to {S : Nat → Prop} {a b : World} (h : Kept a b) : Upd S a b := h.mono fun _ _ h => h.elim
/-- steps one behind the other: what the later ones turn may be new -/
theorem Upd.then {S T : Nat → Prop} {a b c : World} (h : Upd S a b) (k : Upd T b c) (hT : ∀ i, i < a.heap.size → T i → S i) : Upd S a c :=
  ⟨k.os.trans h.os, k.tape.trans h.tape, k.output.trans h.output, Nat.le_trans h.size k.size, fun i hi hs => (k.block i (Nat.lt_of_lt_of_le hi h.size) fun ht => hs (hT i hi ht)).trans (h.block i hi hs)⟩
theorem Upd.drew {S : Nat → Prop} {a b : World} (h : Upd S a b) : Upd S a b.drew := ⟨h.os, h.tape, h.output, h.size, h.block⟩
theorem Upd.drewN {S : Nat → Prop} {a b : World} (h : Upd S a b) (n : Nat) : Upd S a (b.drewN n) := ⟨h.os, h.tape, h.output, h.size, h.block⟩
theorem Upd.alloc {S : Nat → Prop} {a b : World} (h : Upd S a b) (o : Obj) : Upd S a (b.alloc o) :=
  h.then (T := S) ⟨rfl, rfl, rfl, by simp, fun _ hk _ => heap_alloc_old b o hk⟩ fun _ _ h => h
theorem Upd.setCell {S : Nat → Prop} {a b : World} (h : Upd S a b) {p : Addr} (v : Value) (hp : p.block < a.heap.size → S p.block) : Upd S a (b.setCell p v) :=
  h.then (T := fun k => k = p.block) ⟨rfl, rfl, rfl, by simp, fun k _ hne => heap_setCell_other b p k v hne⟩ fun _ hi hik => hik ▸ hp (hik ▸ hi)
theorem Upd.of_grown {a b : World} {row : Option Nat} (h : a.grownBy b row) : Upd (fun k => some k = row) a b := ⟨h.os, h.tape, h.output, h.size, h.block⟩
theorem Upd.grown {S : Nat → Prop} {a b c : World} {row : Option Nat} (h : Upd S a b) (hg : b.grownBy c row) (hr : ∀ k, k < a.heap.size → some k = row → S k) : Upd S a c :=
  h.then (Upd.of_grown hg) hr
theorem Upd.below {w w' : World} (h : Kept w w') : Below w.heap.size w w' := ⟨h.os, h.tape, h.output, h.size, fun k hk => h.block k hk id⟩
theorem Upd.lt {S : Nat → Prop} {a b : World} (h : Upd S a b) {k : Nat} (hk : k < a.heap.size) : k < b.heap.size := Nat.lt_of_lt_of_le hk h.size
theorem Upd.cell {S : Nat → Prop} {a b : World} (h : Upd S a b) {p : Addr} {v : Value} (hc : a.cell? p = some v) (hs : ¬ S p.block) : b.cell? p = some v :=
  (World.cell?_of_block (w := a) (h.block p.block (World.block_lt_of_cell? _ _ hc) hs)).trans hc
theorem Upd.heap {S : Nat → Prop} {a b : World} (h : Upd S a b) {k : Nat} {o : Obj} (hc : a.heap[k]? = some o) (hs : ¬ S k) : b.heap[k]? = some o :=
  (h.block k (Array.getElem?_eq_some_iff.1 hc).1 hs).trans hc

/-! ### digests -/
/-- 32 bytes -/
abbrev Dig : Type := { l : List UInt8 // l.length = 32 }
def encB (d : List UInt8) : List Value := d.map fun b => .int .u8 b.toNat
theorem encB_length (d : List UInt8) : (encB d).length = d.length := by simp [encB]
theorem encB_inj : ∀ {a b : List UInt8}, encB a = encB b → a = b
  | [], [], _ => rfl
  | [], _ :: _, h => by simp [encB] at h
  | _ :: _, [], h => by simp [encB] at h
  | x :: a, y :: b, h => by
    simp only [encB, List.map_cons, List.cons.injEq, Value.int.injEq, true_and] at h
    rw [encB_inj h.2, UInt8.toNat_inj.1 (by omega : x.toNat = y.toNat)]
/-- a digest's cells -/
def dA (d : Dig) : Array Value := (encB d.1).toArray
/-- the zero digest -/
def dig0 : Dig := ⟨List.replicate 32 0, by simp⟩
@[simp, go_sem] theorem dA_size (d : Dig) : (dA d).size = 32 := by simp [dA, encB_length, d.2]
theorem dA_inj {d e : Dig} (h : dA d = dA e) : d = e := Subtype.ext (encB_inj (by simpa [dA] using h))
@[simp, go_sem] theorem dA_one (d : Dig) : oneB (dA d) = true := by
  simp only [oneB, dA, encB, List.all_map, List.all_eq_true]
  intro b _
  rfl
theorem u8_wf (b : UInt8) : (Lit.int .u8 (b.toNat : Int)).wf = true := by
  have := b.toNat_lt
  simp [Lit.wf, IntKind.min, IntKind.max, IntKind.signed, IntKind.bits]
  omega

/-! ### a part of several cells laid into a struct or an array that is built -/
theorem foldl_set (off : Nat) : ∀ (cs : List Value) (k : Nat) (acc : Array Value) (i : Nat),
    ((cs.zipIdx k).foldl (fun acc (p : Value × Nat) => acc.setIfInBounds (off + p.2) p.1) acc)[i]? = if off + k ≤ i ∧ i < off + k + cs.length ∧ i < acc.size then cs[i - (off + k)]? else acc[i]?
  | [], k, acc, i => by simp; omega
  | c :: cs, k, acc, i => by
    simp only [List.zipIdx_cons, List.foldl_cons]
    rw [foldl_set off cs (k + 1)]
    simp only [Array.size_setIfInBounds, Array.getElem?_setIfInBounds, List.length_cons]
    by_cases h1 : i = off + k
    · subst h1
      rw [if_neg (by omega)]
      by_cases h2 : off + k < acc.size
      · simp [h2]
      · simp [h2]
    · by_cases h2 : off + k + 1 ≤ i ∧ i < off + k + cs.length + 1 ∧ i < acc.size
      · rw [if_pos (by omega), if_pos (by omega)]
        have : i - (off + k) = (i - (off + (k + 1))) + 1 := by omega
        rw [this, List.getElem?_cons_succ]
      · rw [if_neg (by omega), if_neg (by omega), if_neg (by omega)]

theorem fill_last (off : Nat) (cs acc : Array Value) (h : off + cs.size = acc.size) :
    cs.zipIdx.foldl (fun acc (p : Value × Nat) => acc.setIfInBounds (off + p.2) p.1) acc = acc.extract 0 off ++ cs := by
  rw [← Array.foldl_toList, Array.toList_zipIdx]
  apply Array.ext_getElem?
  intro i
  rw [foldl_set]
  simp only [Array.length_toList, Array.getElem?_toList, Nat.add_zero]
  by_cases h1 : i < off
  · rw [if_neg (by omega), Array.getElem?_append_left (by simp; omega)]
    simp [Array.getElem?_extract, h1]; omega
  · rw [Array.getElem?_append_right (by simp; omega)]
    have hs : (acc.extract 0 off).size = off := by simp; omega
    rw [hs]
    by_cases h2 : i < acc.size
    · rw [if_pos (by omega)]
    · rw [if_neg (by omega), Array.getElem?_eq_none (by omega), Array.getElem?_eq_none (by omega)]
end Go.Proofs.Ytjimamgghkgdeaa
