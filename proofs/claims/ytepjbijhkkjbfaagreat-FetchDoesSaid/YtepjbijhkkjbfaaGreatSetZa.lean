import Derived.Test.YtepjbijhkkjbfaaGreatRows
import Derived.WalkKit
import Derived.WalkSpells
import Derived.WalkLawsBesides
import Derived.Maps.OwnSet
import Derived.StillTailTactics
import Derived.RegionTactic
import Derived.BigRegion
import Derived.Deep.QuietTactic
import Derived.BigQuiet
import Derived.StillTail
import Derived.Deep.AppendLies
import Derived.Great.BuildSlice
import Derived.ArgAppend
import Derived.Deep.AppendSrc
import Derived.Deep.Upon
import Derived.Deep.MidRow
import Derived.Laws.CopyOwn
import Derived.OrdersHeld
import Derived.Tactics
import Derived.Tactics2
import Derived.Defers
import Derived.Laws.Pointers
import Derived.Laws.LoneSync
import Derived.RegionCalls
import Derived.ChangeAlike
import Derived.Lib.Hide
import Derived.ProofKit
import Derived.OpenShut
import Derived.SizedLaws
import Derived.Deep.Slices
set_option linter.unusedVariables false
set_option linter.unusedSimpArgs false
namespace Go.Proofs.YtepjbijhkkjbfaaGreat
open Go.RowKit
open Go.Maps (Keyed)
def putL {κ : Type} [DecidableEq κ] (k : κ) (v : Value) : List (κ × Value) → List (κ × Value)
  | [] => [(k, v)]
  | (x, y) :: l => if x = k then (k, v) :: l else (x, y) :: putL k v l
def getL {κ : Type} [DecidableEq κ] (k : κ) : List (κ × Value) → Option Value
  | [] => none
  | (x, y) :: l => if x = k then some y else getL k l
structure KeyEnc (P : Program) (k : TypeId) {κ : Type} (ok : κ → Prop) (enc : κ → Value) : Prop where
  law : Keyed P k
  key : ∀ x, ok x → ∃ l, keyOf P k (enc x) = some l
  inj : ∀ x y, ok x → ok y → enc x = enc y → x = y
def MapAt {κ : Type} (ok : κ → Prop) (enc : κ → Value) (w : World) (r : Nat) (L : List (κ × Value)) : Prop :=
  ∃ es clock, w.heap[r]? = some (.map es clock) ∧ es.toList.map (fun e => (e.key, e.val)) = L.map (fun p => (enc p.1, p.2)) ∧
    (L.map (·.1)).Nodup ∧ ∀ p ∈ L, ok p.1
section
variable {P : Program} {k : TypeId} {κ : Type} [DecidableEq κ] {ok : κ → Prop} {enc : κ → Value} {w w' : World} {r : Nat} {L : List (κ × Value)}
omit [DecidableEq κ] in
theorem MapAt.lt (h : MapAt ok enc w r L) : r < w.heap.size := by
  obtain ⟨es, c, h1, _⟩ := h; exact (Array.getElem?_eq_some_iff.1 h1).1
omit [DecidableEq κ] in
theorem MapAt.kept (h : MapAt ok enc w r L) (hk : w'.heap[r]? = w.heap[r]?) : MapAt ok enc w' r L := by
  obtain ⟨es, c, h1, h2⟩ := h; exact ⟨es, c, hk.trans h1, h2⟩
omit [DecidableEq κ] in
theorem MapAt.new (w : World) : MapAt ok enc (w.alloc (.map #[] 0)) w.heap.size [] :=
  ⟨#[], 0, heap_alloc_new w _, by simp, by simp, by simp⟩
omit [DecidableEq κ] in
theorem mapAt_find (K : KeyEnc P k ok enc) (W : World) {es : List MapEntry} (he : es.map (fun e => (e.key, e.val)) = L.map (fun p => (enc p.1, p.2))) (hok : ∀ p ∈ L, ok p.1) {x : κ} (hx : ok x) :
    ((Instr.findKey k (enc x) es).run P W = .ok none W ∧ ∀ p ∈ L, p.1 ≠ x) ∨
    ∃ j v e, (Instr.findKey k (enc x) es).run P W = .ok (some (j, v)) W ∧ L[j]? = some (x, v) ∧ es[j]? = some e ∧ e.key = enc x ∧ e.val = v := by
  obtain ⟨l, hl⟩ := K.key x hx; have hall : ∀ e ∈ es, ∃ l, keyOf P k e.key = some l := by
    intro e hm; have : (e.key, e.val) ∈ L.map (fun p => (enc p.1, p.2)) := by rw [← he]; exact List.mem_map.2 ⟨e, hm, rfl⟩
    obtain ⟨p, hp, hpe⟩ := List.mem_map.1 this; simp only [Prod.mk.injEq] at hpe; rw [← hpe.1]; exact K.key _ (hok p hp)
  rcases K.law.find W hl es hall with ⟨h1, h2⟩ | ⟨j, e, h1, h2, h3⟩
  · refine .inl ⟨h1, fun p hp hpx => ?_⟩
    have : (enc p.1, p.2) ∈ es.map (fun e => (e.key, e.val)) := by rw [he]; exact List.mem_map.2 ⟨p, hp, rfl⟩
    obtain ⟨e, hm, hee⟩ := List.mem_map.1 this; simp only [Prod.mk.injEq] at hee; exact h2 e hm (by rw [hee.1, hpx])
  · have h4 : (es.map (fun e => (e.key, e.val)))[j]? = some (e.key, e.val) := by simp [h2]
    rw [he] at h4; simp only [List.getElem?_map, Option.map_eq_some_iff, Prod.mk.injEq] at h4; obtain ⟨p, hp, hp1, hp2⟩ := h4; have hpx : p.1 = x := K.inj _ _ (hok p (List.mem_of_getElem? hp)) hx (by rw [hp1, h3]); exact .inr ⟨j, e.val, e, h1, by rw [hp, ← hpx, ← hp2], h2, h3, rfl⟩
theorem getL_none {x : κ} (h : ∀ p ∈ L, p.1 ≠ x) : getL x L = none := by
  induction L with
  | nil => rfl
  | cons p l ih =>
    obtain ⟨a, b⟩ := p; simp only [getL]; rw [if_neg (h (a, b) (by simp))]; exact ih fun p hp => h p (by simp [hp])
theorem getL_at {x : κ} {v : Value} (hn : (L.map (·.1)).Nodup) (j : Nat) (h : L[j]? = some (x, v)) : getL x L = some v := by
  induction L generalizing j with
  | nil => simp at h
  | cons p l ih =>
    obtain ⟨a, b⟩ := p; simp only [List.map_cons, List.nodup_cons] at hn; simp only [getL]; cases j with
    | zero => simp at h; simp [h]
    | succ j =>
      simp only [List.getElem?_cons_succ] at h; have hm : x ∈ l.map (·.1) := List.mem_map.2 ⟨(x, v), List.mem_of_getElem? h, rfl⟩; rw [if_neg (by rintro rfl; exact hn.1 hm)]; exact ih hn.2 j h
theorem putL_none {x : κ} {v : Value} (h : ∀ p ∈ L, p.1 ≠ x) : putL x v L = L ++ [(x, v)] := by
  induction L with
  | nil => rfl
  | cons p l ih =>
    obtain ⟨a, b⟩ := p; simp only [putL]; rw [if_neg (h (a, b) (by simp)), ih fun p hp => h p (by simp [hp])]
    rfl
theorem putL_at {x : κ} {u v : Value} (hn : (L.map (·.1)).Nodup) (j : Nat) (h : L[j]? = some (x, u)) : putL x v L = L.set j (x, v) := by
  induction L generalizing j with
  | nil => simp at h
  | cons p l ih =>
    obtain ⟨a, b⟩ := p; simp only [List.map_cons, List.nodup_cons] at hn; simp only [putL]; cases j with
    | zero => simp at h; simp [h]
    | succ j =>
      simp only [List.getElem?_cons_succ] at h; have hm : x ∈ l.map (·.1) := List.mem_map.2 ⟨(x, u), List.mem_of_getElem? h, rfl⟩; rw [if_neg (by rintro rfl; exact hn.1 hm)]; simp [ih hn.2 j h]
theorem keys_putL (x : κ) (v : Value) : (putL x v L).map (·.1) = if x ∈ L.map (·.1) then L.map (·.1) else L.map (·.1) ++ [x] := by
  induction L with
  | nil => simp [putL]
  | cons p l ih =>
    obtain ⟨a, b⟩ := p; simp only [putL]
    by_cases h : a = x
    · simp [h]
    · rw [if_neg h]
      have h' : ¬ x = a := fun e => h e.symm; simp only [List.map_cons, ih, List.mem_cons, h', false_or]
      split <;> simp
theorem run_lookup_at (K : KeyEnc P k ok enc) {t e : TypeId} (ht : P.underlying t = some (.map k e)) {z : Value} (hz : ∀ W : World, (zeroValue e).run P W = .ok z W) (h : MapAt ok enc w r L) {x : κ} (hx : ok x) (c : Bool) :
    (Instr.lookup t (.map (some r)) (enc x) c).run P w = .ok (if c then .tuple #[(getL x L).getD z, .bool (getL x L).isSome] else (getL x L).getD z) w := by
  obtain ⟨es, cl, hb, he, hn, hok⟩ := h; obtain ⟨l, hl⟩ := K.key x hx; rcases mapAt_find K w he hok hx with ⟨h1, h2⟩ | ⟨j, v, e, h1, h2, _⟩
  · simp [Instr.lookup, run_underlying ht, MapKept.run_getObj_map hb, K.law.check w _ hl, h1, hz, Result.andThen, getL_none h2]
  · simp [Instr.lookup, run_underlying ht, MapKept.run_getObj_map hb, K.law.check w _ hl, h1, Result.andThen, getL_at hn j h2]
theorem run_update_at (K : KeyEnc P k ok enc) {t e : TypeId} (ht : P.underlying t = some (.map k e)) (h : MapAt ok enc w r L) {x : κ} (hx : ok x) (v : Value) :
    ∃ w', (Instr.mapUpdate t (.map (some r)) (enc x) v).run P w = .ok () w' ∧ MapAt ok enc w' r (putL x v L) ∧ w.grownBy w' (some r) ∧ w'.heap.size = w.heap.size := by
  obtain ⟨es, cl, hb, he, hn, hok⟩ := h; obtain ⟨l, hl⟩ := K.key x hx; have hg : ∀ o : Obj, w.grownBy { w with heap := w.heap.setIfInBounds r o } (some r) := fun o =>
    ⟨rfl, rfl, rfl, by simp, fun i _ hi => by simp only [Array.getElem?_setIfInBounds]; rw [if_neg (by rintro rfl; exact hi rfl)]⟩
  have hlt : r < w.heap.size := (Array.getElem?_eq_some_iff.1 hb).1; have hokp : ∀ p ∈ putL x v L, ok p.1 := by
    intro p hp; have : p.1 ∈ (putL x v L).map (·.1) := List.mem_map.2 ⟨p, hp, rfl⟩; rw [keys_putL] at this
    split at this
    · obtain ⟨q, hq, hqp⟩ := List.mem_map.1 this
      rw [← hqp]; exact hok q hq
    · rcases List.mem_append.1 this with h | h
      · obtain ⟨q, hq, hqp⟩ := List.mem_map.1 h
        rw [← hqp]; exact hok q hq
      · simp at h; rw [h]; exact hx
  have hnd : ((putL x v L).map (·.1)).Nodup := by
    rw [keys_putL]
    split
    · exact hn
    · rename_i hx'
      rw [List.nodup_append]; exact ⟨hn, by simp, by rintro a ha b hb rfl; simp at hb; subst hb; exact hx' ha⟩
  rcases mapAt_find K w he hok hx with ⟨h1, h2⟩ | ⟨j, u, e, h1, h2, h3, h4, h5⟩
  · refine ⟨_, by simp [Instr.mapUpdate, run_underlying ht, MapKept.run_getObj_map hb, K.law.check w _ hl, h1, MapKept.run_setObj_map _ hb, Result.andThen]; rfl, ⟨_, _, (MapKept.heap_set hb).1, ?_, hnd, hokp⟩, hg _, by simp⟩
    rw [putL_none h2]; simp [he]
  · have hj : es[j]? = some e := by simpa using h3
    refine ⟨_, by simp [Instr.mapUpdate, run_underlying ht, MapKept.run_getObj_map hb, K.law.check w _ hl, h1, hj, h4, K.law.stays w hl, MapKept.run_setObj_map _ hb, Result.andThen]; rfl, ⟨_, _, (MapKept.heap_set hb).1, ?_, hnd, hokp⟩, hg _, by simp⟩; rw [putL_at hn j h2, List.map_set, ← he]; apply List.ext_getElem?; intro i; simp only [List.getElem?_map, Array.getElem?_toList, Array.getElem?_modify, List.getElem?_set, List.length_map, Array.length_toList]
    by_cases hij : j = i
    · subst hij
      have hlt' : j < es.size := (Array.getElem?_eq_some_iff.1 hj).1; simp [hj, hlt']
    · simp [hij]
omit [DecidableEq κ] in
end
end Go.Proofs.YtepjbijhkkjbfaaGreat
namespace Go.Proofs.YtepjbijhkkjbfaaGreat
open Go.RowKit
def segB (W : World) (a : Addr) (n : Nat) : Bool := (List.range n).all fun j => (W.cell? (a.add j)).isSome
def segV (W : World) (a : Addr) (n : Nat) : Array Value := ((List.range n).map fun j => (W.cell? (a.add j)).getD undef).toArray
theorem add_block (a : Addr) (n : Nat) : (a.add n).block = a.block := by unfold Addr.add; split <;> rfl
theorem add_none (b o n : Nat) : (⟨b, o, none⟩ : Addr).add n = ⟨b, o + n, none⟩ := by
  unfold Addr.add; split
  · rename_i h; simp [h]
  · rfl
@[go_sem] theorem segB_drew (W : World) (a : Addr) (n : Nat) : segB W.drew a n = segB W a n := rfl
@[go_sem] theorem segV_drew (W : World) (a : Addr) (n : Nat) : segV W.drew a n = segV W a n := rfl
@[go_sem] theorem segB_drewN (W : World) (m : Nat) (a : Addr) (n : Nat) : segB (W.drewN m) a n = segB W a n := rfl
@[go_sem] theorem segV_drewN (W : World) (m : Nat) (a : Addr) (n : Nat) : segV (W.drewN m) a n = segV W a n := rfl
theorem segB_same {W W' : World} {a : Addr} (n : Nat) (h : W'.heap[a.block]? = W.heap[a.block]?) : segB W' a n = segB W a n := by
  unfold segB
  congr 1
  funext j
  rw [World.cell?_of_block (w := W) (w' := W') (a := a.add j) (by rw [add_block]; exact h)]
theorem segV_same {W W' : World} {a : Addr} (n : Nat) (h : W'.heap[a.block]? = W.heap[a.block]?) : segV W' a n = segV W a n := by
  unfold segV
  congr 2
  funext j
  rw [World.cell?_of_block (w := W) (w' := W') (a := a.add j) (by rw [add_block]; exact h)]
theorem segB_past (W : World) (o : Obj) (b off n : Nat) (h : b < W.heap.size) : segB (W.alloc o) ⟨b, off, none⟩ n = segB W ⟨b, off, none⟩ n := segB_same n (heap_alloc_old W o h)
theorem segV_past (W : World) (o : Obj) (b off n : Nat) (h : b < W.heap.size) : segV (W.alloc o) ⟨b, off, none⟩ n = segV W ⟨b, off, none⟩ n := segV_same n (heap_alloc_old W o h)
attribute [go_sem] segB_past segV_past
theorem segB_of {W : World} {a : Addr} {cs : Array Value} {n : Nat} (h : ∀ j v, cs[j]? = some v → W.cell? (a.add j) = some v) (hn : cs.size = n) : segB W a n = true := by
  unfold segB; rw [List.all_eq_true]; intro j hj; have : j < cs.size := by rw [hn]; exact List.mem_range.1 hj
  rw [h j cs[j] (by simp [this])]
  rfl
theorem segV_of {W : World} {a : Addr} {cs : Array Value} {n : Nat} (h : ∀ j v, cs[j]? = some v → W.cell? (a.add j) = some v) (hn : cs.size = n) : segV W a n = cs := by
  unfold segV; apply Array.ext'; apply List.ext_getElem?; intro j; simp only [List.getElem?_map, Array.getElem?_toList]
  by_cases hj : j < n
  · rw [List.getElem?_range hj]
    have h1 : cs[j]? = some cs[j] := by simp [show j < cs.size by omega]
    simp [h j _ h1, show j < cs.size by omega]
  · rw [List.getElem?_eq_none (by simp; omega)]
    simp; omega
theorem segV_size (W : World) (a : Addr) (n : Nat) : (segV W a n).size = n := by simp [segV]
theorem cell_of_seg {W : World} {a : Addr} {n : Nat} (h : segB W a n = true) (j : Nat) (v : Value) (hv : (segV W a n)[j]? = some v) : W.cell? (a.add j) = some v := by
  have hj : j < n := by have := (Array.getElem?_eq_some_iff.1 hv).1; rw [segV_size] at this; exact this
  unfold segB at h; have h1 := List.all_eq_true.1 h j (List.mem_range.2 hj); unfold segV at hv; obtain ⟨u, hu⟩ := Option.isSome_iff_exists.1 h1; simp [hj, hu] at hv; rw [hu, hv]
theorem seg_block {W : World} {g t : Nat} {fr : Nat × Nat} {cs : Array Value} (h : W.heap[g]? = some (.cells cs t fr)) : ∀ j v, cs[j]? = some v → W.cell? ((⟨g, 0, none⟩ : Addr).add j) = some v := by
  intro j v hv; rw [add_none, Nat.zero_add, cell_of_row W g j cs t fr h, hv]
theorem segB_new (W : World) (g : Nat) (c : Array Value) (t n : Nat) (hg : g = W.heap.size) (hn : c.size = n) : segB (W.alloc (.cells c t)) ⟨g, 0, none⟩ n = true := by
  subst hg; exact segB_of (seg_block (heap_alloc_new W _)) hn
theorem segV_new (W : World) (g : Nat) (c : Array Value) (t n : Nat) (hg : g = W.heap.size) (hn : c.size = n) : segV (W.alloc (.cells c t)) ⟨g, 0, none⟩ n = c := by
  subst hg; exact segV_of (seg_block (heap_alloc_new W _)) hn
attribute [go_sem] segB_new segV_new
def allocRow (t : TypeId) : Sem Next := do pure (.value (← Instr.alloc t true (.tuple #[])))
def loadRow (t : TypeId) (v : Value) : Sem Next := do pure (.value (← Instr.loadAt t v))
def buildRow (t : TypeId) (parts : Array (Nat × Value)) : Sem Next := do pure (.value (← Instr.build t parts))
def storeRow (t : TypeId) (a x : Value) : Sem Next := do Instr.storeAt t a x; pure .skip
def eqRow (op : BinOp) (t : TypeId) (xo yo : Operand) (x y : Value) : Sem Next := do pure (.value (← (do eqGuard op t xo yo x y; binOp op t x y)))
def indexRow (t : TypeId) (x i : Value) : Sem Next := do pure (.value (← Instr.index t x i))
theorem run_loadRow {P : Program} (t n : Nat) (d : TypeDesc) (hu : P.underlying t = some d) (hd : (match d with | .struct _ | .array _ _ => true | _ => false) = true) (hi : (P.info? t).map (·.size) = some n)
    (W : World) (a : Addr) (h : segB W a n = true) : (loadRow t (.pointer (some a))).run P W = .ok (.value (.agg (segV W a n))) W := by
  obtain ⟨i, hi1, hi2⟩ := Option.map_eq_some_iff.1 hi; have h1 := run_loadCells_list (P := P) (w := W) a (segV W a n).toList (fun j v hv => cell_of_seg h j v (by simpa using hv)); have h2 : (segV W a n).toList.length = n := by simp [segV_size]
  rw [h2] at h1; cases d <;> simp at hd <;> simp [loadRow, Instr.loadAt, Instr.sureAddr, loadVar, isAgg, run_underlying hu, sizeOf, typeInfo, hi1, hi2, h1, Result.andThen]
def oneB (cs : Array Value) : Bool := cs.toList.all (·.oneCell')
def rowB (W : World) (g n : Nat) : Bool := match W.heap[g]? with
  | some (.cells c _ (0, 0)) => c.size == n
  | _ => false
theorem rowB_of {W : World} {g t n : Nat} {c : Array Value} (h : W.heap[g]? = some (.cells c t (0, 0))) (hn : c.size = n) : rowB W g n = true := by simp [rowB, h, hn]
theorem rowB_inv {W : World} {g n : Nat} (h : rowB W g n = true) : ∃ c t, W.heap[g]? = some (.cells c t (0, 0)) ∧ c.size = n := by
  unfold rowB at h
  split at h
  · rename_i c t he; exact ⟨c, t, he, by simpa using h⟩
  · cases h
@[go_sem] theorem rowB_drew (W : World) (g n : Nat) : rowB W.drew g n = rowB W g n := rfl
@[go_sem] theorem rowB_drewN (W : World) (m g n : Nat) : rowB (W.drewN m) g n = rowB W g n := rfl
theorem rowB_same {W W' : World} {g : Nat} (n : Nat) (h : W'.heap[g]? = W.heap[g]?) : rowB W' g n = rowB W g n := by unfold rowB; rw [h]
@[go_sem] theorem rowB_past (W : World) (o : Obj) (g n : Nat) (h : g < W.heap.size) : rowB (W.alloc o) g n = rowB W g n := rowB_same n (heap_alloc_old W o h)
@[go_sem] theorem rowB_new (W : World) (c : Array Value) (t g n : Nat) (hg : g = W.heap.size) (hn : c.size = n) : rowB (W.alloc (.cells c t)) g n = true := by
  subst hg; exact rowB_of (heap_alloc_new W _) hn
@[go_sem] theorem setRow_drew (W : World) (g : Nat) (cs : Array Value) : W.drew.setRow g cs = (W.setRow g cs).drew := rfl
@[go_sem] theorem setRow_new (W : World) (c cs : Array Value) (t g : Nat) (hg : g = W.heap.size) : (W.alloc (.cells c t)).setRow g cs = W.alloc (.cells cs t) := by
  subst hg; simp only [World.setRow, World.alloc, World.mk.injEq, and_self, and_true]; apply Array.ext_getElem?; intro i; simp only [Array.getElem?_modify, Array.getElem?_push]
  by_cases h : W.heap.size = i
  · subst h; simp
  · have h' : ¬ i = W.heap.size := fun e => h e.symm
    simp [h, h']
@[go_sem] theorem setRow_past (W : World) (o : Obj) (cs : Array Value) (g : Nat) (hg : g < W.heap.size) : (W.alloc o).setRow g cs = (W.setRow g cs).alloc o := by
  simp only [World.setRow, World.alloc, World.mk.injEq, and_self, and_true]; apply Array.ext_getElem?; intro i; simp only [Array.getElem?_modify, Array.getElem?_push, Array.size_modify]
  by_cases h : g = i
  · subst h; simp [show ¬ g = W.heap.size by omega]
  · simp [h]
theorem run_storeRow {P : Program} (t n : Nat) (hi : (P.info? t).map (·.size) = some n) (W : World) (g : Nat) (cs : Array Value) (h : rowB W g n = true) (hs : cs.size = n) (h1 : oneB cs = true) :
    (storeRow t (.pointer (some ⟨g, 0, none⟩)) (.agg cs)).run P W = .ok .skip (W.setRow g cs) := by
  obtain ⟨c, t', hg, hc⟩ := rowB_inv h; simp only [storeRow, Instr.storeAt, Instr.sureAddr, Sem.run_bind, Sem.run_pure, Result.andThen_ok, run_storeVar_row W g t' t c cs hg (by rw [hi, hs]) (by omega) (by rw [← Array.all_toList]; exact h1)]
theorem run_allocRow {P : Program} (t : TypeId) (z : Value) (hz : (P.info? t).bind (·.zero) = some z) (W : World) :
    (allocRow t).run P W = .ok (.value (.pointer (some ⟨W.heap.size, 0, none⟩))) (W.alloc (.cells z.cells t)) := by
  obtain ⟨i, hi, hz'⟩ := Option.bind_eq_some_iff.1 hz; simp [allocRow, Instr.alloc, zeroValue, typeInfo, hi, hz', newVar, newRow, Result.andThen]
theorem results_seg {P : Program} {fn : Func} {p : Tmp} {ty : TypeId} (h : fn.results = #[.cell p ty]) (tmps : Array Value) (w : World) (a : Addr) (n : Nat) (d : TypeDesc) (hp : tmps.getD p undef = .pointer (some a))
    (hu : P.underlying ty = some d) (hd : (match d with | .struct _ | .array _ _ => true | _ => false) = true) (hi : (P.info? ty).map (·.size) = some n) (hs : segB w a n = true) :
    (results fn tmps).run P w = .ok (.agg (segV w a n)) w := by
  have hp' : tmps[p]?.getD undef = .pointer (some a) := by simpa using hp
  have h1 := run_loadRow (P := P) ty n d hu hd hi w a hs; simp only [loadRow, Instr.loadAt, Instr.sureAddr, Sem.run_bind, Sem.run_pure, Result.andThen_ok] at h1; cases hr : (loadVar ty a).run P w with
  | halt x w' => rw [hr] at h1; simp [Result.andThen] at h1
  | ok v w' =>
    rw [hr] at h1; simp [Result.andThen] at h1; obtain ⟨rfl, rfl⟩ := h1; simp [results, h, hp', asAddr, hr]
structure Upd (S : Nat → Prop) (w w' : World) : Prop where
  os : w'.os = w.os
  tape : w'.tape = w.tape
  output : w'.output = w.output
  size : w.heap.size ≤ w'.heap.size
  block : ∀ k, k < w.heap.size → ¬ S k → w'.heap[k]? = w.heap[k]?
abbrev Kept (w w' : World) : Prop := Upd (fun _ => False) w w'
theorem Upd.refl (S : Nat → Prop) (w : World) : Upd S w w := ⟨rfl, rfl, rfl, Nat.le_refl _, fun _ _ _ => rfl⟩
theorem Upd.trans {S : Nat → Prop} {a b c : World} (h : Upd S a b) (k : Upd S b c) : Upd S a c :=
  ⟨k.os.trans h.os, k.tape.trans h.tape, k.output.trans h.output, Nat.le_trans h.size k.size, fun i hi hs => (k.block i (Nat.lt_of_lt_of_le hi h.size) hs).trans (h.block i hi hs)⟩
theorem Upd.mono {S T : Nat → Prop} {a b : World} (h : Upd S a b) (hst : ∀ k, k < a.heap.size → S k → T k) : Upd T a b := ⟨h.os, h.tape, h.output, h.size, fun k hk hn => h.block k hk fun hs => hn (hst k hk hs)⟩
theorem Kept.to {S : Nat → Prop} {a b : World} (h : Kept a b) : Upd S a b := h.mono fun _ _ h => h.elim
theorem Upd.then {S T : Nat → Prop} {a b c : World} (h : Upd S a b) (k : Upd T b c) (hT : ∀ i, i < a.heap.size → T i → S i) : Upd S a c :=
  ⟨k.os.trans h.os, k.tape.trans h.tape, k.output.trans h.output, Nat.le_trans h.size k.size, fun i hi hs => (k.block i (Nat.lt_of_lt_of_le hi h.size) fun ht => hs (hT i hi ht)).trans (h.block i hi hs)⟩
theorem Upd.drew {S : Nat → Prop} {a b : World} (h : Upd S a b) : Upd S a b.drew := ⟨h.os, h.tape, h.output, h.size, h.block⟩
theorem Upd.alloc {S : Nat → Prop} {a b : World} (h : Upd S a b) (o : Obj) : Upd S a (b.alloc o) :=
  h.then (T := S) ⟨rfl, rfl, rfl, by simp, fun _ hk _ => heap_alloc_old b o hk⟩ fun _ _ h => h
theorem Upd.setCell {S : Nat → Prop} {a b : World} (h : Upd S a b) {p : Addr} (v : Value) (hp : p.block < a.heap.size → S p.block) : Upd S a (b.setCell p v) :=
  h.then (T := fun k => k = p.block) ⟨rfl, rfl, rfl, by simp, fun k _ hne => heap_setCell_other b p k v hne⟩ fun _ hi hik => hik ▸ hp (hik ▸ hi)
theorem Upd.of_grown {a b : World} {row : Option Nat} (h : a.grownBy b row) : Upd (fun k => some k = row) a b := ⟨h.os, h.tape, h.output, h.size, h.block⟩
theorem Upd.grown {S : Nat → Prop} {a b c : World} {row : Option Nat} (h : Upd S a b) (hg : b.grownBy c row) (hr : ∀ k, k < a.heap.size → some k = row → S k) : Upd S a c :=
  h.then (Upd.of_grown hg) hr
theorem Upd.below {w w' : World} (h : Kept w w') : Below w.heap.size w w' := ⟨h.os, h.tape, h.output, h.size, fun k hk => h.block k hk id⟩
theorem Upd.cell {S : Nat → Prop} {a b : World} (h : Upd S a b) {p : Addr} {v : Value} (hc : a.cell? p = some v) (hs : ¬ S p.block) : b.cell? p = some v :=
  (World.cell?_of_block (w := a) (h.block p.block (World.block_lt_of_cell? _ _ hc) hs)).trans hc
theorem Upd.heap {S : Nat → Prop} {a b : World} (h : Upd S a b) {k : Nat} {o : Obj} (hc : a.heap[k]? = some o) (hs : ¬ S k) : b.heap[k]? = some o :=
  (h.block k (Array.getElem?_eq_some_iff.1 hc).1 hs).trans hc
abbrev Dig : Type := { l : List UInt8 // l.length = 32 }
def encB (d : List UInt8) : List Value := d.map fun b => .int .u8 b.toNat
theorem encB_length (d : List UInt8) : (encB d).length = d.length := by simp [encB]
theorem encB_inj : ∀ {a b : List UInt8}, encB a = encB b → a = b
  | [], [], _ => rfl
  | [], _ :: _, h => by simp [encB] at h
  | _ :: _, [], h => by simp [encB] at h
  | x :: a, y :: b, h => by
    simp only [encB, List.map_cons, List.cons.injEq, Value.int.injEq, true_and] at h; rw [encB_inj h.2, UInt8.toNat_inj.1 (by omega : x.toNat = y.toNat)]
def dA (d : Dig) : Array Value := (encB d.1).toArray
def dig0 : Dig := ⟨List.replicate 32 0, by simp⟩
@[simp, go_sem] theorem dA_size (d : Dig) : (dA d).size = 32 := by simp [dA, encB_length, d.2]
theorem dA_inj {d e : Dig} (h : dA d = dA e) : d = e := Subtype.ext (encB_inj (by simpa [dA] using h))
@[simp, go_sem] theorem dA_one (d : Dig) : oneB (dA d) = true := by
  simp only [oneB, dA, encB, List.all_map, List.all_eq_true]; intro b _
  rfl
theorem u8_wf (b : UInt8) : (Lit.int .u8 (b.toNat : Int)).wf = true := by
  have := b.toNat_lt; simp [Lit.wf, IntKind.min, IntKind.max, IntKind.signed, IntKind.bits]; omega
theorem foldl_set (off : Nat) : ∀ (cs : List Value) (k : Nat) (acc : Array Value) (i : Nat),
    ((cs.zipIdx k).foldl (fun acc (p : Value × Nat) => acc.setIfInBounds (off + p.2) p.1) acc)[i]? = if off + k ≤ i ∧ i < off + k + cs.length ∧ i < acc.size then cs[i - (off + k)]? else acc[i]?
  | [], k, acc, i => by simp; omega
  | c :: cs, k, acc, i => by
    simp only [List.zipIdx_cons, List.foldl_cons]; rw [foldl_set off cs (k + 1)]; simp only [Array.size_setIfInBounds, Array.getElem?_setIfInBounds, List.length_cons]
    by_cases h1 : i = off + k
    · subst h1
      rw [if_neg (by omega)]
      by_cases h2 : off + k < acc.size
      · simp [h2]
      · simp [h2]
    · by_cases h2 : off + k + 1 ≤ i ∧ i < off + k + cs.length + 1 ∧ i < acc.size
      · rw [if_pos (by omega), if_pos (by omega)]
        have : i - (off + k) = (i - (off + (k + 1))) + 1 := by omega
        rw [this, List.getElem?_cons_succ]
      · rw [if_neg (by omega), if_neg (by omega), if_neg (by omega)]
theorem fill_last (off : Nat) (cs acc : Array Value) (h : off + cs.size = acc.size) :
    cs.zipIdx.foldl (fun acc (p : Value × Nat) => acc.setIfInBounds (off + p.2) p.1) acc = acc.extract 0 off ++ cs := by
  rw [← Array.foldl_toList, Array.toList_zipIdx]; apply Array.ext_getElem?; intro i; rw [foldl_set]; simp only [Array.length_toList, Array.getElem?_toList, Nat.add_zero]
  by_cases h1 : i < off
  · rw [if_neg (by omega), Array.getElem?_append_left (by simp; omega)]
    simp [Array.getElem?_extract, h1]; omega
  · rw [Array.getElem?_append_right (by simp; omega)]
    have hs : (acc.extract 0 off).size = off := by simp; omega
    rw [hs]
    by_cases h2 : i < acc.size
    · rw [if_pos (by omega)]
    · rw [if_neg (by omega), Array.getElem?_eq_none (by omega), Array.getElem?_eq_none (by omega)]
end Go.Proofs.YtepjbijhkkjbfaaGreat
namespace Go.Proofs.YtepjbijhkkjbfaaGreat
open Go.RowKit
section
variable (ρ : Operand → Value) (dst : Option Tmp) (x y : Operand) (yt ty : TypeId) (pos : String) (after : Array Edge) (guard : Option (Nat × Bool)) (W : World) (a : Addr)
@[go_sem ↓] theorem exec_load22 : execOp ρ ⟨dst, .load 22 x, ty, pos, after, guard⟩ = loadRow 22 (ρ x) := rfl
@[go_sem ↓] theorem exec_store22 : execOp ρ ⟨dst, .store 22 x y, ty, pos, after, guard⟩ = storeRow 22 (ρ x) (ρ y) := rfl
@[go_sem ↓] theorem exec_eql22 : execOp ρ ⟨dst, .binOp .eql 22 x y yt, ty, pos, after, guard⟩ = eqRow .eql 22 x y (ρ x) (ρ y) := rfl
@[go_sem ↓] theorem exec_neq22 : execOp ρ ⟨dst, .binOp .neq 22 x y yt, ty, pos, after, guard⟩ = eqRow .neq 22 x y (ρ x) (ρ y) := rfl
@[go_sem ↓] theorem exec_index22 : execOp ρ ⟨dst, .index 22 x y, ty, pos, after, guard⟩ = indexRow 22 (ρ x) (ρ y) := rfl
theorem sizeOf22 : (Tryz.prog.info? 22).map (·.size) = some 32 := by kernel_rfl
@[go_sem] theorem row_load22 (h : segB W a 32 = true) : (loadRow 22 (.pointer (some a))).run Tryz.prog W = .ok (.value (.agg (segV W a 32))) W := run_loadRow 22 32 _ Tryz.underlying22 rfl sizeOf22 W a h
@[go_sem] theorem row_store22 (g : Nat) (cs : Array Value) (h : rowB W g 32 = true) (hs : cs.size = 32) (h1 : oneB cs = true) : (storeRow 22 (.pointer (some ⟨g, 0, none⟩)) (.agg cs)).run Tryz.prog W = .ok .skip (W.setRow g cs) := run_storeRow 22 32 sizeOf22 W g cs h hs h1
@[go_sem ↓] theorem exec_load23 : execOp ρ ⟨dst, .load 23 x, ty, pos, after, guard⟩ = loadRow 23 (ρ x) := rfl
@[go_sem ↓] theorem exec_store23 : execOp ρ ⟨dst, .store 23 x y, ty, pos, after, guard⟩ = storeRow 23 (ρ x) (ρ y) := rfl
@[go_sem ↓] theorem exec_eql23 : execOp ρ ⟨dst, .binOp .eql 23 x y yt, ty, pos, after, guard⟩ = eqRow .eql 23 x y (ρ x) (ρ y) := rfl
@[go_sem ↓] theorem exec_neq23 : execOp ρ ⟨dst, .binOp .neq 23 x y yt, ty, pos, after, guard⟩ = eqRow .neq 23 x y (ρ x) (ρ y) := rfl
@[go_sem ↓] theorem exec_index23 : execOp ρ ⟨dst, .index 23 x y, ty, pos, after, guard⟩ = indexRow 23 (ρ x) (ρ y) := rfl
theorem sizeOf23 : (Tryz.prog.info? 23).map (·.size) = some 32 := by kernel_rfl
@[go_sem] theorem row_load23 (h : segB W a 32 = true) : (loadRow 23 (.pointer (some a))).run Tryz.prog W = .ok (.value (.agg (segV W a 32))) W := run_loadRow 23 32 _ Tryz.underlying23 rfl sizeOf23 W a h
@[go_sem] theorem row_store23 (g : Nat) (cs : Array Value) (h : rowB W g 32 = true) (hs : cs.size = 32) (h1 : oneB cs = true) : (storeRow 23 (.pointer (some ⟨g, 0, none⟩)) (.agg cs)).run Tryz.prog W = .ok .skip (W.setRow g cs) := run_storeRow 23 32 sizeOf23 W g cs h hs h1
@[go_sem ↓] theorem exec_load25 : execOp ρ ⟨dst, .load 25 x, ty, pos, after, guard⟩ = loadRow 25 (ρ x) := rfl
@[go_sem ↓] theorem exec_store25 : execOp ρ ⟨dst, .store 25 x y, ty, pos, after, guard⟩ = storeRow 25 (ρ x) (ρ y) := rfl
@[go_sem ↓] theorem exec_eql25 : execOp ρ ⟨dst, .binOp .eql 25 x y yt, ty, pos, after, guard⟩ = eqRow .eql 25 x y (ρ x) (ρ y) := rfl
@[go_sem ↓] theorem exec_neq25 : execOp ρ ⟨dst, .binOp .neq 25 x y yt, ty, pos, after, guard⟩ = eqRow .neq 25 x y (ρ x) (ρ y) := rfl
theorem sizeOf25 : (Tryz.prog.info? 25).map (·.size) = some 34 := by kernel_rfl
@[go_sem] theorem row_load25 (h : segB W a 34 = true) : (loadRow 25 (.pointer (some a))).run Tryz.prog W = .ok (.value (.agg (segV W a 34))) W := run_loadRow 25 34 _ Tryz.underlying25 rfl sizeOf25 W a h
@[go_sem] theorem row_store25 (g : Nat) (cs : Array Value) (h : rowB W g 34 = true) (hs : cs.size = 34) (h1 : oneB cs = true) : (storeRow 25 (.pointer (some ⟨g, 0, none⟩)) (.agg cs)).run Tryz.prog W = .ok .skip (W.setRow g cs) := run_storeRow 25 34 sizeOf25 W g cs h hs h1
@[go_sem ↓] theorem exec_load26 : execOp ρ ⟨dst, .load 26 x, ty, pos, after, guard⟩ = loadRow 26 (ρ x) := rfl
@[go_sem ↓] theorem exec_store26 : execOp ρ ⟨dst, .store 26 x y, ty, pos, after, guard⟩ = storeRow 26 (ρ x) (ρ y) := rfl
@[go_sem ↓] theorem exec_eql26 : execOp ρ ⟨dst, .binOp .eql 26 x y yt, ty, pos, after, guard⟩ = eqRow .eql 26 x y (ρ x) (ρ y) := rfl
@[go_sem ↓] theorem exec_neq26 : execOp ρ ⟨dst, .binOp .neq 26 x y yt, ty, pos, after, guard⟩ = eqRow .neq 26 x y (ρ x) (ρ y) := rfl
theorem sizeOf26 : (Tryz.prog.info? 26).map (·.size) = some 34 := by kernel_rfl
@[go_sem] theorem row_load26 (h : segB W a 34 = true) : (loadRow 26 (.pointer (some a))).run Tryz.prog W = .ok (.value (.agg (segV W a 34))) W := run_loadRow 26 34 _ Tryz.underlying26 rfl sizeOf26 W a h
@[go_sem] theorem row_store26 (g : Nat) (cs : Array Value) (h : rowB W g 34 = true) (hs : cs.size = 34) (h1 : oneB cs = true) : (storeRow 26 (.pointer (some ⟨g, 0, none⟩)) (.agg cs)).run Tryz.prog W = .ok .skip (W.setRow g cs) := run_storeRow 26 34 sizeOf26 W g cs h hs h1
@[go_sem ↓] theorem exec_load46 : execOp ρ ⟨dst, .load 46 x, ty, pos, after, guard⟩ = loadRow 46 (ρ x) := rfl
@[go_sem ↓] theorem exec_store46 : execOp ρ ⟨dst, .store 46 x y, ty, pos, after, guard⟩ = storeRow 46 (ρ x) (ρ y) := rfl
@[go_sem ↓] theorem exec_eql46 : execOp ρ ⟨dst, .binOp .eql 46 x y yt, ty, pos, after, guard⟩ = eqRow .eql 46 x y (ρ x) (ρ y) := rfl
@[go_sem ↓] theorem exec_neq46 : execOp ρ ⟨dst, .binOp .neq 46 x y yt, ty, pos, after, guard⟩ = eqRow .neq 46 x y (ρ x) (ρ y) := rfl
theorem sizeOf46 : (Tryz.prog.info? 46).map (·.size) = some 5 := by kernel_rfl
@[go_sem] theorem row_load46 (h : segB W a 5 = true) : (loadRow 46 (.pointer (some a))).run Tryz.prog W = .ok (.value (.agg (segV W a 5))) W := run_loadRow 46 5 _ Tryz.underlying46 rfl sizeOf46 W a h
@[go_sem] theorem row_store46 (g : Nat) (cs : Array Value) (h : rowB W g 5 = true) (hs : cs.size = 5) (h1 : oneB cs = true) : (storeRow 46 (.pointer (some ⟨g, 0, none⟩)) (.agg cs)).run Tryz.prog W = .ok .skip (W.setRow g cs) := run_storeRow 46 5 sizeOf46 W g cs h hs h1
@[go_sem ↓] theorem exec_load47 : execOp ρ ⟨dst, .load 47 x, ty, pos, after, guard⟩ = loadRow 47 (ρ x) := rfl
@[go_sem ↓] theorem exec_store47 : execOp ρ ⟨dst, .store 47 x y, ty, pos, after, guard⟩ = storeRow 47 (ρ x) (ρ y) := rfl
@[go_sem ↓] theorem exec_eql47 : execOp ρ ⟨dst, .binOp .eql 47 x y yt, ty, pos, after, guard⟩ = eqRow .eql 47 x y (ρ x) (ρ y) := rfl
@[go_sem ↓] theorem exec_neq47 : execOp ρ ⟨dst, .binOp .neq 47 x y yt, ty, pos, after, guard⟩ = eqRow .neq 47 x y (ρ x) (ρ y) := rfl
theorem sizeOf47 : (Tryz.prog.info? 47).map (·.size) = some 5 := by kernel_rfl
@[go_sem] theorem row_load47 (h : segB W a 5 = true) : (loadRow 47 (.pointer (some a))).run Tryz.prog W = .ok (.value (.agg (segV W a 5))) W := run_loadRow 47 5 _ Tryz.underlying47 rfl sizeOf47 W a h
@[go_sem] theorem row_store47 (g : Nat) (cs : Array Value) (h : rowB W g 5 = true) (hs : cs.size = 5) (h1 : oneB cs = true) : (storeRow 47 (.pointer (some ⟨g, 0, none⟩)) (.agg cs)).run Tryz.prog W = .ok .skip (W.setRow g cs) := run_storeRow 47 5 sizeOf47 W g cs h hs h1
@[go_sem ↓] theorem exec_load64 : execOp ρ ⟨dst, .load 64 x, ty, pos, after, guard⟩ = loadRow 64 (ρ x) := rfl
@[go_sem ↓] theorem exec_store64 : execOp ρ ⟨dst, .store 64 x y, ty, pos, after, guard⟩ = storeRow 64 (ρ x) (ρ y) := rfl
@[go_sem ↓] theorem exec_eql64 : execOp ρ ⟨dst, .binOp .eql 64 x y yt, ty, pos, after, guard⟩ = eqRow .eql 64 x y (ρ x) (ρ y) := rfl
@[go_sem ↓] theorem exec_neq64 : execOp ρ ⟨dst, .binOp .neq 64 x y yt, ty, pos, after, guard⟩ = eqRow .neq 64 x y (ρ x) (ρ y) := rfl
theorem sizeOf64 : (Tryz.prog.info? 64).map (·.size) = some 38 := by kernel_rfl
@[go_sem] theorem row_load64 (h : segB W a 38 = true) : (loadRow 64 (.pointer (some a))).run Tryz.prog W = .ok (.value (.agg (segV W a 38))) W := run_loadRow 64 38 _ Tryz.underlying64 rfl sizeOf64 W a h
@[go_sem] theorem row_store64 (g : Nat) (cs : Array Value) (h : rowB W g 38 = true) (hs : cs.size = 38) (h1 : oneB cs = true) : (storeRow 64 (.pointer (some ⟨g, 0, none⟩)) (.agg cs)).run Tryz.prog W = .ok .skip (W.setRow g cs) := run_storeRow 64 38 sizeOf64 W g cs h hs h1
@[go_sem ↓] theorem exec_load65 : execOp ρ ⟨dst, .load 65 x, ty, pos, after, guard⟩ = loadRow 65 (ρ x) := rfl
@[go_sem ↓] theorem exec_store65 : execOp ρ ⟨dst, .store 65 x y, ty, pos, after, guard⟩ = storeRow 65 (ρ x) (ρ y) := rfl
@[go_sem ↓] theorem exec_eql65 : execOp ρ ⟨dst, .binOp .eql 65 x y yt, ty, pos, after, guard⟩ = eqRow .eql 65 x y (ρ x) (ρ y) := rfl
@[go_sem ↓] theorem exec_neq65 : execOp ρ ⟨dst, .binOp .neq 65 x y yt, ty, pos, after, guard⟩ = eqRow .neq 65 x y (ρ x) (ρ y) := rfl
theorem sizeOf65 : (Tryz.prog.info? 65).map (·.size) = some 38 := by kernel_rfl
@[go_sem] theorem row_load65 (h : segB W a 38 = true) : (loadRow 65 (.pointer (some a))).run Tryz.prog W = .ok (.value (.agg (segV W a 38))) W := run_loadRow 65 38 _ Tryz.underlying65 rfl sizeOf65 W a h
@[go_sem] theorem row_store65 (g : Nat) (cs : Array Value) (h : rowB W g 38 = true) (hs : cs.size = 38) (h1 : oneB cs = true) : (storeRow 65 (.pointer (some ⟨g, 0, none⟩)) (.agg cs)).run Tryz.prog W = .ok .skip (W.setRow g cs) := run_storeRow 65 38 sizeOf65 W g cs h hs h1
@[go_sem ↓] theorem exec_load69 : execOp ρ ⟨dst, .load 69 x, ty, pos, after, guard⟩ = loadRow 69 (ρ x) := rfl
@[go_sem ↓] theorem exec_store69 : execOp ρ ⟨dst, .store 69 x y, ty, pos, after, guard⟩ = storeRow 69 (ρ x) (ρ y) := rfl
@[go_sem ↓] theorem exec_eql69 : execOp ρ ⟨dst, .binOp .eql 69 x y yt, ty, pos, after, guard⟩ = eqRow .eql 69 x y (ρ x) (ρ y) := rfl
@[go_sem ↓] theorem exec_neq69 : execOp ρ ⟨dst, .binOp .neq 69 x y yt, ty, pos, after, guard⟩ = eqRow .neq 69 x y (ρ x) (ρ y) := rfl
theorem sizeOf69 : (Tryz.prog.info? 69).map (·.size) = some 2 := by kernel_rfl
@[go_sem] theorem row_load69 (h : segB W a 2 = true) : (loadRow 69 (.pointer (some a))).run Tryz.prog W = .ok (.value (.agg (segV W a 2))) W := run_loadRow 69 2 _ Tryz.underlying69 rfl sizeOf69 W a h
@[go_sem] theorem row_store69 (g : Nat) (cs : Array Value) (h : rowB W g 2 = true) (hs : cs.size = 2) (h1 : oneB cs = true) : (storeRow 69 (.pointer (some ⟨g, 0, none⟩)) (.agg cs)).run Tryz.prog W = .ok .skip (W.setRow g cs) := run_storeRow 69 2 sizeOf69 W g cs h hs h1
@[go_sem ↓] theorem exec_load70 : execOp ρ ⟨dst, .load 70 x, ty, pos, after, guard⟩ = loadRow 70 (ρ x) := rfl
@[go_sem ↓] theorem exec_store70 : execOp ρ ⟨dst, .store 70 x y, ty, pos, after, guard⟩ = storeRow 70 (ρ x) (ρ y) := rfl
@[go_sem ↓] theorem exec_eql70 : execOp ρ ⟨dst, .binOp .eql 70 x y yt, ty, pos, after, guard⟩ = eqRow .eql 70 x y (ρ x) (ρ y) := rfl
@[go_sem ↓] theorem exec_neq70 : execOp ρ ⟨dst, .binOp .neq 70 x y yt, ty, pos, after, guard⟩ = eqRow .neq 70 x y (ρ x) (ρ y) := rfl
theorem sizeOf70 : (Tryz.prog.info? 70).map (·.size) = some 2 := by kernel_rfl
@[go_sem] theorem row_load70 (h : segB W a 2 = true) : (loadRow 70 (.pointer (some a))).run Tryz.prog W = .ok (.value (.agg (segV W a 2))) W := run_loadRow 70 2 _ Tryz.underlying70 rfl sizeOf70 W a h
@[go_sem] theorem row_store70 (g : Nat) (cs : Array Value) (h : rowB W g 2 = true) (hs : cs.size = 2) (h1 : oneB cs = true) : (storeRow 70 (.pointer (some ⟨g, 0, none⟩)) (.agg cs)).run Tryz.prog W = .ok .skip (W.setRow g cs) := run_storeRow 70 2 sizeOf70 W g cs h hs h1
@[go_sem ↓] theorem exec_load76 : execOp ρ ⟨dst, .load 76 x, ty, pos, after, guard⟩ = loadRow 76 (ρ x) := rfl
@[go_sem ↓] theorem exec_store76 : execOp ρ ⟨dst, .store 76 x y, ty, pos, after, guard⟩ = storeRow 76 (ρ x) (ρ y) := rfl
@[go_sem ↓] theorem exec_eql76 : execOp ρ ⟨dst, .binOp .eql 76 x y yt, ty, pos, after, guard⟩ = eqRow .eql 76 x y (ρ x) (ρ y) := rfl
@[go_sem ↓] theorem exec_neq76 : execOp ρ ⟨dst, .binOp .neq 76 x y yt, ty, pos, after, guard⟩ = eqRow .neq 76 x y (ρ x) (ρ y) := rfl
theorem sizeOf76 : (Tryz.prog.info? 76).map (·.size) = some 1 := by kernel_rfl
@[go_sem] theorem row_load76 (h : segB W a 1 = true) : (loadRow 76 (.pointer (some a))).run Tryz.prog W = .ok (.value (.agg (segV W a 1))) W := run_loadRow 76 1 _ Tryz.underlying76 rfl sizeOf76 W a h
@[go_sem] theorem row_store76 (g : Nat) (cs : Array Value) (h : rowB W g 1 = true) (hs : cs.size = 1) (h1 : oneB cs = true) : (storeRow 76 (.pointer (some ⟨g, 0, none⟩)) (.agg cs)).run Tryz.prog W = .ok .skip (W.setRow g cs) := run_storeRow 76 1 sizeOf76 W g cs h hs h1
@[go_sem ↓] theorem exec_load77 : execOp ρ ⟨dst, .load 77 x, ty, pos, after, guard⟩ = loadRow 77 (ρ x) := rfl
@[go_sem ↓] theorem exec_store77 : execOp ρ ⟨dst, .store 77 x y, ty, pos, after, guard⟩ = storeRow 77 (ρ x) (ρ y) := rfl
@[go_sem ↓] theorem exec_eql77 : execOp ρ ⟨dst, .binOp .eql 77 x y yt, ty, pos, after, guard⟩ = eqRow .eql 77 x y (ρ x) (ρ y) := rfl
@[go_sem ↓] theorem exec_neq77 : execOp ρ ⟨dst, .binOp .neq 77 x y yt, ty, pos, after, guard⟩ = eqRow .neq 77 x y (ρ x) (ρ y) := rfl
theorem sizeOf77 : (Tryz.prog.info? 77).map (·.size) = some 1 := by kernel_rfl
@[go_sem] theorem row_load77 (h : segB W a 1 = true) : (loadRow 77 (.pointer (some a))).run Tryz.prog W = .ok (.value (.agg (segV W a 1))) W := run_loadRow 77 1 _ Tryz.underlying77 rfl sizeOf77 W a h
@[go_sem] theorem row_store77 (g : Nat) (cs : Array Value) (h : rowB W g 1 = true) (hs : cs.size = 1) (h1 : oneB cs = true) : (storeRow 77 (.pointer (some ⟨g, 0, none⟩)) (.agg cs)).run Tryz.prog W = .ok .skip (W.setRow g cs) := run_storeRow 77 1 sizeOf77 W g cs h hs h1
@[go_sem ↓] theorem exec_load78 : execOp ρ ⟨dst, .load 78 x, ty, pos, after, guard⟩ = loadRow 78 (ρ x) := rfl
@[go_sem ↓] theorem exec_store78 : execOp ρ ⟨dst, .store 78 x y, ty, pos, after, guard⟩ = storeRow 78 (ρ x) (ρ y) := rfl
@[go_sem ↓] theorem exec_eql78 : execOp ρ ⟨dst, .binOp .eql 78 x y yt, ty, pos, after, guard⟩ = eqRow .eql 78 x y (ρ x) (ρ y) := rfl
@[go_sem ↓] theorem exec_neq78 : execOp ρ ⟨dst, .binOp .neq 78 x y yt, ty, pos, after, guard⟩ = eqRow .neq 78 x y (ρ x) (ρ y) := rfl
theorem sizeOf78 : (Tryz.prog.info? 78).map (·.size) = some 3 := by kernel_rfl
@[go_sem] theorem row_load78 (h : segB W a 3 = true) : (loadRow 78 (.pointer (some a))).run Tryz.prog W = .ok (.value (.agg (segV W a 3))) W := run_loadRow 78 3 _ Tryz.underlying78 rfl sizeOf78 W a h
@[go_sem] theorem row_store78 (g : Nat) (cs : Array Value) (h : rowB W g 3 = true) (hs : cs.size = 3) (h1 : oneB cs = true) : (storeRow 78 (.pointer (some ⟨g, 0, none⟩)) (.agg cs)).run Tryz.prog W = .ok .skip (W.setRow g cs) := run_storeRow 78 3 sizeOf78 W g cs h hs h1
@[go_sem ↓] theorem exec_load79 : execOp ρ ⟨dst, .load 79 x, ty, pos, after, guard⟩ = loadRow 79 (ρ x) := rfl
@[go_sem ↓] theorem exec_store79 : execOp ρ ⟨dst, .store 79 x y, ty, pos, after, guard⟩ = storeRow 79 (ρ x) (ρ y) := rfl
@[go_sem ↓] theorem exec_eql79 : execOp ρ ⟨dst, .binOp .eql 79 x y yt, ty, pos, after, guard⟩ = eqRow .eql 79 x y (ρ x) (ρ y) := rfl
@[go_sem ↓] theorem exec_neq79 : execOp ρ ⟨dst, .binOp .neq 79 x y yt, ty, pos, after, guard⟩ = eqRow .neq 79 x y (ρ x) (ρ y) := rfl
theorem sizeOf79 : (Tryz.prog.info? 79).map (·.size) = some 3 := by kernel_rfl
@[go_sem] theorem row_load79 (h : segB W a 3 = true) : (loadRow 79 (.pointer (some a))).run Tryz.prog W = .ok (.value (.agg (segV W a 3))) W := run_loadRow 79 3 _ Tryz.underlying79 rfl sizeOf79 W a h
@[go_sem] theorem row_store79 (g : Nat) (cs : Array Value) (h : rowB W g 3 = true) (hs : cs.size = 3) (h1 : oneB cs = true) : (storeRow 79 (.pointer (some ⟨g, 0, none⟩)) (.agg cs)).run Tryz.prog W = .ok .skip (W.setRow g cs) := run_storeRow 79 3 sizeOf79 W g cs h hs h1
@[go_sem ↓] theorem exec_load83 : execOp ρ ⟨dst, .load 83 x, ty, pos, after, guard⟩ = loadRow 83 (ρ x) := rfl
@[go_sem ↓] theorem exec_store83 : execOp ρ ⟨dst, .store 83 x y, ty, pos, after, guard⟩ = storeRow 83 (ρ x) (ρ y) := rfl
@[go_sem ↓] theorem exec_eql83 : execOp ρ ⟨dst, .binOp .eql 83 x y yt, ty, pos, after, guard⟩ = eqRow .eql 83 x y (ρ x) (ρ y) := rfl
@[go_sem ↓] theorem exec_neq83 : execOp ρ ⟨dst, .binOp .neq 83 x y yt, ty, pos, after, guard⟩ = eqRow .neq 83 x y (ρ x) (ρ y) := rfl
theorem sizeOf83 : (Tryz.prog.info? 83).map (·.size) = some 40 := by kernel_rfl
@[go_sem] theorem row_load83 (h : segB W a 40 = true) : (loadRow 83 (.pointer (some a))).run Tryz.prog W = .ok (.value (.agg (segV W a 40))) W := run_loadRow 83 40 _ Tryz.underlying83 rfl sizeOf83 W a h
@[go_sem] theorem row_store83 (g : Nat) (cs : Array Value) (h : rowB W g 40 = true) (hs : cs.size = 40) (h1 : oneB cs = true) : (storeRow 83 (.pointer (some ⟨g, 0, none⟩)) (.agg cs)).run Tryz.prog W = .ok .skip (W.setRow g cs) := run_storeRow 83 40 sizeOf83 W g cs h hs h1
@[go_sem ↓] theorem exec_load84 : execOp ρ ⟨dst, .load 84 x, ty, pos, after, guard⟩ = loadRow 84 (ρ x) := rfl
@[go_sem ↓] theorem exec_store84 : execOp ρ ⟨dst, .store 84 x y, ty, pos, after, guard⟩ = storeRow 84 (ρ x) (ρ y) := rfl
@[go_sem ↓] theorem exec_eql84 : execOp ρ ⟨dst, .binOp .eql 84 x y yt, ty, pos, after, guard⟩ = eqRow .eql 84 x y (ρ x) (ρ y) := rfl
@[go_sem ↓] theorem exec_neq84 : execOp ρ ⟨dst, .binOp .neq 84 x y yt, ty, pos, after, guard⟩ = eqRow .neq 84 x y (ρ x) (ρ y) := rfl
theorem sizeOf84 : (Tryz.prog.info? 84).map (·.size) = some 40 := by kernel_rfl
@[go_sem] theorem row_load84 (h : segB W a 40 = true) : (loadRow 84 (.pointer (some a))).run Tryz.prog W = .ok (.value (.agg (segV W a 40))) W := run_loadRow 84 40 _ Tryz.underlying84 rfl sizeOf84 W a h
@[go_sem] theorem row_store84 (g : Nat) (cs : Array Value) (h : rowB W g 40 = true) (hs : cs.size = 40) (h1 : oneB cs = true) : (storeRow 84 (.pointer (some ⟨g, 0, none⟩)) (.agg cs)).run Tryz.prog W = .ok .skip (W.setRow g cs) := run_storeRow 84 40 sizeOf84 W g cs h hs h1
@[go_sem ↓] theorem exec_load87 : execOp ρ ⟨dst, .load 87 x, ty, pos, after, guard⟩ = loadRow 87 (ρ x) := rfl
@[go_sem ↓] theorem exec_store87 : execOp ρ ⟨dst, .store 87 x y, ty, pos, after, guard⟩ = storeRow 87 (ρ x) (ρ y) := rfl
@[go_sem ↓] theorem exec_eql87 : execOp ρ ⟨dst, .binOp .eql 87 x y yt, ty, pos, after, guard⟩ = eqRow .eql 87 x y (ρ x) (ρ y) := rfl
@[go_sem ↓] theorem exec_neq87 : execOp ρ ⟨dst, .binOp .neq 87 x y yt, ty, pos, after, guard⟩ = eqRow .neq 87 x y (ρ x) (ρ y) := rfl
theorem sizeOf87 : (Tryz.prog.info? 87).map (·.size) = some 2 := by kernel_rfl
@[go_sem] theorem row_load87 (h : segB W a 2 = true) : (loadRow 87 (.pointer (some a))).run Tryz.prog W = .ok (.value (.agg (segV W a 2))) W := run_loadRow 87 2 _ Tryz.underlying87 rfl sizeOf87 W a h
@[go_sem] theorem row_store87 (g : Nat) (cs : Array Value) (h : rowB W g 2 = true) (hs : cs.size = 2) (h1 : oneB cs = true) : (storeRow 87 (.pointer (some ⟨g, 0, none⟩)) (.agg cs)).run Tryz.prog W = .ok .skip (W.setRow g cs) := run_storeRow 87 2 sizeOf87 W g cs h hs h1
@[go_sem ↓] theorem exec_load88 : execOp ρ ⟨dst, .load 88 x, ty, pos, after, guard⟩ = loadRow 88 (ρ x) := rfl
@[go_sem ↓] theorem exec_store88 : execOp ρ ⟨dst, .store 88 x y, ty, pos, after, guard⟩ = storeRow 88 (ρ x) (ρ y) := rfl
@[go_sem ↓] theorem exec_eql88 : execOp ρ ⟨dst, .binOp .eql 88 x y yt, ty, pos, after, guard⟩ = eqRow .eql 88 x y (ρ x) (ρ y) := rfl
@[go_sem ↓] theorem exec_neq88 : execOp ρ ⟨dst, .binOp .neq 88 x y yt, ty, pos, after, guard⟩ = eqRow .neq 88 x y (ρ x) (ρ y) := rfl
theorem sizeOf88 : (Tryz.prog.info? 88).map (·.size) = some 2 := by kernel_rfl
@[go_sem] theorem row_load88 (h : segB W a 2 = true) : (loadRow 88 (.pointer (some a))).run Tryz.prog W = .ok (.value (.agg (segV W a 2))) W := run_loadRow 88 2 _ Tryz.underlying88 rfl sizeOf88 W a h
@[go_sem] theorem row_store88 (g : Nat) (cs : Array Value) (h : rowB W g 2 = true) (hs : cs.size = 2) (h1 : oneB cs = true) : (storeRow 88 (.pointer (some ⟨g, 0, none⟩)) (.agg cs)).run Tryz.prog W = .ok .skip (W.setRow g cs) := run_storeRow 88 2 sizeOf88 W g cs h hs h1
@[go_sem ↓] theorem exec_load94 : execOp ρ ⟨dst, .load 94 x, ty, pos, after, guard⟩ = loadRow 94 (ρ x) := rfl
@[go_sem ↓] theorem exec_store94 : execOp ρ ⟨dst, .store 94 x y, ty, pos, after, guard⟩ = storeRow 94 (ρ x) (ρ y) := rfl
@[go_sem ↓] theorem exec_eql94 : execOp ρ ⟨dst, .binOp .eql 94 x y yt, ty, pos, after, guard⟩ = eqRow .eql 94 x y (ρ x) (ρ y) := rfl
@[go_sem ↓] theorem exec_neq94 : execOp ρ ⟨dst, .binOp .neq 94 x y yt, ty, pos, after, guard⟩ = eqRow .neq 94 x y (ρ x) (ρ y) := rfl
@[go_sem ↓] theorem exec_index94 : execOp ρ ⟨dst, .index 94 x y, ty, pos, after, guard⟩ = indexRow 94 (ρ x) (ρ y) := rfl
theorem sizeOf94 : (Tryz.prog.info? 94).map (·.size) = some 2 := by kernel_rfl
@[go_sem] theorem row_load94 (h : segB W a 2 = true) : (loadRow 94 (.pointer (some a))).run Tryz.prog W = .ok (.value (.agg (segV W a 2))) W := run_loadRow 94 2 _ Tryz.underlying94 rfl sizeOf94 W a h
@[go_sem] theorem row_store94 (g : Nat) (cs : Array Value) (h : rowB W g 2 = true) (hs : cs.size = 2) (h1 : oneB cs = true) : (storeRow 94 (.pointer (some ⟨g, 0, none⟩)) (.agg cs)).run Tryz.prog W = .ok .skip (W.setRow g cs) := run_storeRow 94 2 sizeOf94 W g cs h hs h1
@[go_sem ↓] theorem exec_load120 : execOp ρ ⟨dst, .load 120 x, ty, pos, after, guard⟩ = loadRow 120 (ρ x) := rfl
@[go_sem ↓] theorem exec_store120 : execOp ρ ⟨dst, .store 120 x y, ty, pos, after, guard⟩ = storeRow 120 (ρ x) (ρ y) := rfl
@[go_sem ↓] theorem exec_eql120 : execOp ρ ⟨dst, .binOp .eql 120 x y yt, ty, pos, after, guard⟩ = eqRow .eql 120 x y (ρ x) (ρ y) := rfl
@[go_sem ↓] theorem exec_neq120 : execOp ρ ⟨dst, .binOp .neq 120 x y yt, ty, pos, after, guard⟩ = eqRow .neq 120 x y (ρ x) (ρ y) := rfl
theorem sizeOf120 : (Tryz.prog.info? 120).map (·.size) = some 1 := by kernel_rfl
@[go_sem] theorem row_load120 (h : segB W a 1 = true) : (loadRow 120 (.pointer (some a))).run Tryz.prog W = .ok (.value (.agg (segV W a 1))) W := run_loadRow 120 1 _ Tryz.underlying120 rfl sizeOf120 W a h
@[go_sem] theorem row_store120 (g : Nat) (cs : Array Value) (h : rowB W g 1 = true) (hs : cs.size = 1) (h1 : oneB cs = true) : (storeRow 120 (.pointer (some ⟨g, 0, none⟩)) (.agg cs)).run Tryz.prog W = .ok .skip (W.setRow g cs) := run_storeRow 120 1 sizeOf120 W g cs h hs h1
@[go_sem ↓] theorem exec_load121 : execOp ρ ⟨dst, .load 121 x, ty, pos, after, guard⟩ = loadRow 121 (ρ x) := rfl
@[go_sem ↓] theorem exec_store121 : execOp ρ ⟨dst, .store 121 x y, ty, pos, after, guard⟩ = storeRow 121 (ρ x) (ρ y) := rfl
@[go_sem ↓] theorem exec_eql121 : execOp ρ ⟨dst, .binOp .eql 121 x y yt, ty, pos, after, guard⟩ = eqRow .eql 121 x y (ρ x) (ρ y) := rfl
@[go_sem ↓] theorem exec_neq121 : execOp ρ ⟨dst, .binOp .neq 121 x y yt, ty, pos, after, guard⟩ = eqRow .neq 121 x y (ρ x) (ρ y) := rfl
theorem sizeOf121 : (Tryz.prog.info? 121).map (·.size) = some 1 := by kernel_rfl
@[go_sem] theorem row_load121 (h : segB W a 1 = true) : (loadRow 121 (.pointer (some a))).run Tryz.prog W = .ok (.value (.agg (segV W a 1))) W := run_loadRow 121 1 _ Tryz.underlying121 rfl sizeOf121 W a h
@[go_sem] theorem row_store121 (g : Nat) (cs : Array Value) (h : rowB W g 1 = true) (hs : cs.size = 1) (h1 : oneB cs = true) : (storeRow 121 (.pointer (some ⟨g, 0, none⟩)) (.agg cs)).run Tryz.prog W = .ok .skip (W.setRow g cs) := run_storeRow 121 1 sizeOf121 W g cs h hs h1
@[go_sem ↓] theorem exec_load124 : execOp ρ ⟨dst, .load 124 x, ty, pos, after, guard⟩ = loadRow 124 (ρ x) := rfl
@[go_sem ↓] theorem exec_store124 : execOp ρ ⟨dst, .store 124 x y, ty, pos, after, guard⟩ = storeRow 124 (ρ x) (ρ y) := rfl
@[go_sem ↓] theorem exec_eql124 : execOp ρ ⟨dst, .binOp .eql 124 x y yt, ty, pos, after, guard⟩ = eqRow .eql 124 x y (ρ x) (ρ y) := rfl
@[go_sem ↓] theorem exec_neq124 : execOp ρ ⟨dst, .binOp .neq 124 x y yt, ty, pos, after, guard⟩ = eqRow .neq 124 x y (ρ x) (ρ y) := rfl
theorem sizeOf124 : (Tryz.prog.info? 124).map (·.size) = some 2 := by kernel_rfl
@[go_sem] theorem row_load124 (h : segB W a 2 = true) : (loadRow 124 (.pointer (some a))).run Tryz.prog W = .ok (.value (.agg (segV W a 2))) W := run_loadRow 124 2 _ Tryz.underlying124 rfl sizeOf124 W a h
@[go_sem] theorem row_store124 (g : Nat) (cs : Array Value) (h : rowB W g 2 = true) (hs : cs.size = 2) (h1 : oneB cs = true) : (storeRow 124 (.pointer (some ⟨g, 0, none⟩)) (.agg cs)).run Tryz.prog W = .ok .skip (W.setRow g cs) := run_storeRow 124 2 sizeOf124 W g cs h hs h1
@[go_sem ↓] theorem exec_load125 : execOp ρ ⟨dst, .load 125 x, ty, pos, after, guard⟩ = loadRow 125 (ρ x) := rfl
@[go_sem ↓] theorem exec_store125 : execOp ρ ⟨dst, .store 125 x y, ty, pos, after, guard⟩ = storeRow 125 (ρ x) (ρ y) := rfl
@[go_sem ↓] theorem exec_eql125 : execOp ρ ⟨dst, .binOp .eql 125 x y yt, ty, pos, after, guard⟩ = eqRow .eql 125 x y (ρ x) (ρ y) := rfl
@[go_sem ↓] theorem exec_neq125 : execOp ρ ⟨dst, .binOp .neq 125 x y yt, ty, pos, after, guard⟩ = eqRow .neq 125 x y (ρ x) (ρ y) := rfl
theorem sizeOf125 : (Tryz.prog.info? 125).map (·.size) = some 2 := by kernel_rfl
@[go_sem] theorem row_load125 (h : segB W a 2 = true) : (loadRow 125 (.pointer (some a))).run Tryz.prog W = .ok (.value (.agg (segV W a 2))) W := run_loadRow 125 2 _ Tryz.underlying125 rfl sizeOf125 W a h
@[go_sem] theorem row_store125 (g : Nat) (cs : Array Value) (h : rowB W g 2 = true) (hs : cs.size = 2) (h1 : oneB cs = true) : (storeRow 125 (.pointer (some ⟨g, 0, none⟩)) (.agg cs)).run Tryz.prog W = .ok .skip (W.setRow g cs) := run_storeRow 125 2 sizeOf125 W g cs h hs h1
@[go_sem ↓] theorem exec_load126 : execOp ρ ⟨dst, .load 126 x, ty, pos, after, guard⟩ = loadRow 126 (ρ x) := rfl
@[go_sem ↓] theorem exec_store126 : execOp ρ ⟨dst, .store 126 x y, ty, pos, after, guard⟩ = storeRow 126 (ρ x) (ρ y) := rfl
@[go_sem ↓] theorem exec_eql126 : execOp ρ ⟨dst, .binOp .eql 126 x y yt, ty, pos, after, guard⟩ = eqRow .eql 126 x y (ρ x) (ρ y) := rfl
@[go_sem ↓] theorem exec_neq126 : execOp ρ ⟨dst, .binOp .neq 126 x y yt, ty, pos, after, guard⟩ = eqRow .neq 126 x y (ρ x) (ρ y) := rfl
theorem sizeOf126 : (Tryz.prog.info? 126).map (·.size) = some 3 := by kernel_rfl
@[go_sem] theorem row_load126 (h : segB W a 3 = true) : (loadRow 126 (.pointer (some a))).run Tryz.prog W = .ok (.value (.agg (segV W a 3))) W := run_loadRow 126 3 _ Tryz.underlying126 rfl sizeOf126 W a h
@[go_sem] theorem row_store126 (g : Nat) (cs : Array Value) (h : rowB W g 3 = true) (hs : cs.size = 3) (h1 : oneB cs = true) : (storeRow 126 (.pointer (some ⟨g, 0, none⟩)) (.agg cs)).run Tryz.prog W = .ok .skip (W.setRow g cs) := run_storeRow 126 3 sizeOf126 W g cs h hs h1
@[go_sem ↓] theorem exec_load127 : execOp ρ ⟨dst, .load 127 x, ty, pos, after, guard⟩ = loadRow 127 (ρ x) := rfl
@[go_sem ↓] theorem exec_store127 : execOp ρ ⟨dst, .store 127 x y, ty, pos, after, guard⟩ = storeRow 127 (ρ x) (ρ y) := rfl
@[go_sem ↓] theorem exec_eql127 : execOp ρ ⟨dst, .binOp .eql 127 x y yt, ty, pos, after, guard⟩ = eqRow .eql 127 x y (ρ x) (ρ y) := rfl
@[go_sem ↓] theorem exec_neq127 : execOp ρ ⟨dst, .binOp .neq 127 x y yt, ty, pos, after, guard⟩ = eqRow .neq 127 x y (ρ x) (ρ y) := rfl
theorem sizeOf127 : (Tryz.prog.info? 127).map (·.size) = some 3 := by kernel_rfl
@[go_sem] theorem row_load127 (h : segB W a 3 = true) : (loadRow 127 (.pointer (some a))).run Tryz.prog W = .ok (.value (.agg (segV W a 3))) W := run_loadRow 127 3 _ Tryz.underlying127 rfl sizeOf127 W a h
@[go_sem] theorem row_store127 (g : Nat) (cs : Array Value) (h : rowB W g 3 = true) (hs : cs.size = 3) (h1 : oneB cs = true) : (storeRow 127 (.pointer (some ⟨g, 0, none⟩)) (.agg cs)).run Tryz.prog W = .ok .skip (W.setRow g cs) := run_storeRow 127 3 sizeOf127 W g cs h hs h1
@[go_sem ↓] theorem exec_load129 : execOp ρ ⟨dst, .load 129 x, ty, pos, after, guard⟩ = loadRow 129 (ρ x) := rfl
@[go_sem ↓] theorem exec_store129 : execOp ρ ⟨dst, .store 129 x y, ty, pos, after, guard⟩ = storeRow 129 (ρ x) (ρ y) := rfl
@[go_sem ↓] theorem exec_eql129 : execOp ρ ⟨dst, .binOp .eql 129 x y yt, ty, pos, after, guard⟩ = eqRow .eql 129 x y (ρ x) (ρ y) := rfl
@[go_sem ↓] theorem exec_neq129 : execOp ρ ⟨dst, .binOp .neq 129 x y yt, ty, pos, after, guard⟩ = eqRow .neq 129 x y (ρ x) (ρ y) := rfl
theorem sizeOf129 : (Tryz.prog.info? 129).map (·.size) = some 7 := by kernel_rfl
@[go_sem] theorem row_load129 (h : segB W a 7 = true) : (loadRow 129 (.pointer (some a))).run Tryz.prog W = .ok (.value (.agg (segV W a 7))) W := run_loadRow 129 7 _ Tryz.underlying129 rfl sizeOf129 W a h
@[go_sem] theorem row_store129 (g : Nat) (cs : Array Value) (h : rowB W g 7 = true) (hs : cs.size = 7) (h1 : oneB cs = true) : (storeRow 129 (.pointer (some ⟨g, 0, none⟩)) (.agg cs)).run Tryz.prog W = .ok .skip (W.setRow g cs) := run_storeRow 129 7 sizeOf129 W g cs h hs h1
@[go_sem ↓] theorem exec_load130 : execOp ρ ⟨dst, .load 130 x, ty, pos, after, guard⟩ = loadRow 130 (ρ x) := rfl
@[go_sem ↓] theorem exec_store130 : execOp ρ ⟨dst, .store 130 x y, ty, pos, after, guard⟩ = storeRow 130 (ρ x) (ρ y) := rfl
@[go_sem ↓] theorem exec_eql130 : execOp ρ ⟨dst, .binOp .eql 130 x y yt, ty, pos, after, guard⟩ = eqRow .eql 130 x y (ρ x) (ρ y) := rfl
@[go_sem ↓] theorem exec_neq130 : execOp ρ ⟨dst, .binOp .neq 130 x y yt, ty, pos, after, guard⟩ = eqRow .neq 130 x y (ρ x) (ρ y) := rfl
theorem sizeOf130 : (Tryz.prog.info? 130).map (·.size) = some 7 := by kernel_rfl
@[go_sem] theorem row_load130 (h : segB W a 7 = true) : (loadRow 130 (.pointer (some a))).run Tryz.prog W = .ok (.value (.agg (segV W a 7))) W := run_loadRow 130 7 _ Tryz.underlying130 rfl sizeOf130 W a h
@[go_sem] theorem row_store130 (g : Nat) (cs : Array Value) (h : rowB W g 7 = true) (hs : cs.size = 7) (h1 : oneB cs = true) : (storeRow 130 (.pointer (some ⟨g, 0, none⟩)) (.agg cs)).run Tryz.prog W = .ok .skip (W.setRow g cs) := run_storeRow 130 7 sizeOf130 W g cs h hs h1
@[go_sem ↓] theorem exec_load152 : execOp ρ ⟨dst, .load 152 x, ty, pos, after, guard⟩ = loadRow 152 (ρ x) := rfl
@[go_sem ↓] theorem exec_store152 : execOp ρ ⟨dst, .store 152 x y, ty, pos, after, guard⟩ = storeRow 152 (ρ x) (ρ y) := rfl
@[go_sem ↓] theorem exec_eql152 : execOp ρ ⟨dst, .binOp .eql 152 x y yt, ty, pos, after, guard⟩ = eqRow .eql 152 x y (ρ x) (ρ y) := rfl
@[go_sem ↓] theorem exec_neq152 : execOp ρ ⟨dst, .binOp .neq 152 x y yt, ty, pos, after, guard⟩ = eqRow .neq 152 x y (ρ x) (ρ y) := rfl
@[go_sem ↓] theorem exec_index152 : execOp ρ ⟨dst, .index 152 x y, ty, pos, after, guard⟩ = indexRow 152 (ρ x) (ρ y) := rfl
theorem sizeOf152 : (Tryz.prog.info? 152).map (·.size) = some 64 := by kernel_rfl
@[go_sem] theorem row_load152 (h : segB W a 64 = true) : (loadRow 152 (.pointer (some a))).run Tryz.prog W = .ok (.value (.agg (segV W a 64))) W := run_loadRow 152 64 _ Tryz.underlying152 rfl sizeOf152 W a h
@[go_sem] theorem row_store152 (g : Nat) (cs : Array Value) (h : rowB W g 64 = true) (hs : cs.size = 64) (h1 : oneB cs = true) : (storeRow 152 (.pointer (some ⟨g, 0, none⟩)) (.agg cs)).run Tryz.prog W = .ok .skip (W.setRow g cs) := run_storeRow 152 64 sizeOf152 W g cs h hs h1
@[go_sem ↓] theorem exec_load153 : execOp ρ ⟨dst, .load 153 x, ty, pos, after, guard⟩ = loadRow 153 (ρ x) := rfl
@[go_sem ↓] theorem exec_store153 : execOp ρ ⟨dst, .store 153 x y, ty, pos, after, guard⟩ = storeRow 153 (ρ x) (ρ y) := rfl
@[go_sem ↓] theorem exec_eql153 : execOp ρ ⟨dst, .binOp .eql 153 x y yt, ty, pos, after, guard⟩ = eqRow .eql 153 x y (ρ x) (ρ y) := rfl
@[go_sem ↓] theorem exec_neq153 : execOp ρ ⟨dst, .binOp .neq 153 x y yt, ty, pos, after, guard⟩ = eqRow .neq 153 x y (ρ x) (ρ y) := rfl
@[go_sem ↓] theorem exec_index153 : execOp ρ ⟨dst, .index 153 x y, ty, pos, after, guard⟩ = indexRow 153 (ρ x) (ρ y) := rfl
theorem sizeOf153 : (Tryz.prog.info? 153).map (·.size) = some 8 := by kernel_rfl
@[go_sem] theorem row_load153 (h : segB W a 8 = true) : (loadRow 153 (.pointer (some a))).run Tryz.prog W = .ok (.value (.agg (segV W a 8))) W := run_loadRow 153 8 _ Tryz.underlying153 rfl sizeOf153 W a h
@[go_sem] theorem row_store153 (g : Nat) (cs : Array Value) (h : rowB W g 8 = true) (hs : cs.size = 8) (h1 : oneB cs = true) : (storeRow 153 (.pointer (some ⟨g, 0, none⟩)) (.agg cs)).run Tryz.prog W = .ok .skip (W.setRow g cs) := run_storeRow 153 8 sizeOf153 W g cs h hs h1
@[go_sem ↓] theorem exec_load154 : execOp ρ ⟨dst, .load 154 x, ty, pos, after, guard⟩ = loadRow 154 (ρ x) := rfl
@[go_sem ↓] theorem exec_store154 : execOp ρ ⟨dst, .store 154 x y, ty, pos, after, guard⟩ = storeRow 154 (ρ x) (ρ y) := rfl
@[go_sem ↓] theorem exec_eql154 : execOp ρ ⟨dst, .binOp .eql 154 x y yt, ty, pos, after, guard⟩ = eqRow .eql 154 x y (ρ x) (ρ y) := rfl
@[go_sem ↓] theorem exec_neq154 : execOp ρ ⟨dst, .binOp .neq 154 x y yt, ty, pos, after, guard⟩ = eqRow .neq 154 x y (ρ x) (ρ y) := rfl
@[go_sem ↓] theorem exec_index154 : execOp ρ ⟨dst, .index 154 x y, ty, pos, after, guard⟩ = indexRow 154 (ρ x) (ρ y) := rfl
theorem sizeOf154 : (Tryz.prog.info? 154).map (·.size) = some 64 := by kernel_rfl
@[go_sem] theorem row_load154 (h : segB W a 64 = true) : (loadRow 154 (.pointer (some a))).run Tryz.prog W = .ok (.value (.agg (segV W a 64))) W := run_loadRow 154 64 _ Tryz.underlying154 rfl sizeOf154 W a h
@[go_sem] theorem row_store154 (g : Nat) (cs : Array Value) (h : rowB W g 64 = true) (hs : cs.size = 64) (h1 : oneB cs = true) : (storeRow 154 (.pointer (some ⟨g, 0, none⟩)) (.agg cs)).run Tryz.prog W = .ok .skip (W.setRow g cs) := run_storeRow 154 64 sizeOf154 W g cs h hs h1
@[go_sem ↓] theorem exec_load155 : execOp ρ ⟨dst, .load 155 x, ty, pos, after, guard⟩ = loadRow 155 (ρ x) := rfl
@[go_sem ↓] theorem exec_store155 : execOp ρ ⟨dst, .store 155 x y, ty, pos, after, guard⟩ = storeRow 155 (ρ x) (ρ y) := rfl
@[go_sem ↓] theorem exec_eql155 : execOp ρ ⟨dst, .binOp .eql 155 x y yt, ty, pos, after, guard⟩ = eqRow .eql 155 x y (ρ x) (ρ y) := rfl
@[go_sem ↓] theorem exec_neq155 : execOp ρ ⟨dst, .binOp .neq 155 x y yt, ty, pos, after, guard⟩ = eqRow .neq 155 x y (ρ x) (ρ y) := rfl
theorem sizeOf155 : (Tryz.prog.info? 155).map (·.size) = some 142 := by kernel_rfl
@[go_sem] theorem row_load155 (h : segB W a 142 = true) : (loadRow 155 (.pointer (some a))).run Tryz.prog W = .ok (.value (.agg (segV W a 142))) W := run_loadRow 155 142 _ Tryz.underlying155 rfl sizeOf155 W a h
@[go_sem] theorem row_store155 (g : Nat) (cs : Array Value) (h : rowB W g 142 = true) (hs : cs.size = 142) (h1 : oneB cs = true) : (storeRow 155 (.pointer (some ⟨g, 0, none⟩)) (.agg cs)).run Tryz.prog W = .ok .skip (W.setRow g cs) := run_storeRow 155 142 sizeOf155 W g cs h hs h1
@[go_sem ↓] theorem exec_load156 : execOp ρ ⟨dst, .load 156 x, ty, pos, after, guard⟩ = loadRow 156 (ρ x) := rfl
@[go_sem ↓] theorem exec_store156 : execOp ρ ⟨dst, .store 156 x y, ty, pos, after, guard⟩ = storeRow 156 (ρ x) (ρ y) := rfl
@[go_sem ↓] theorem exec_eql156 : execOp ρ ⟨dst, .binOp .eql 156 x y yt, ty, pos, after, guard⟩ = eqRow .eql 156 x y (ρ x) (ρ y) := rfl
@[go_sem ↓] theorem exec_neq156 : execOp ρ ⟨dst, .binOp .neq 156 x y yt, ty, pos, after, guard⟩ = eqRow .neq 156 x y (ρ x) (ρ y) := rfl
theorem sizeOf156 : (Tryz.prog.info? 156).map (·.size) = some 142 := by kernel_rfl
@[go_sem] theorem row_load156 (h : segB W a 142 = true) : (loadRow 156 (.pointer (some a))).run Tryz.prog W = .ok (.value (.agg (segV W a 142))) W := run_loadRow 156 142 _ Tryz.underlying156 rfl sizeOf156 W a h
@[go_sem] theorem row_store156 (g : Nat) (cs : Array Value) (h : rowB W g 142 = true) (hs : cs.size = 142) (h1 : oneB cs = true) : (storeRow 156 (.pointer (some ⟨g, 0, none⟩)) (.agg cs)).run Tryz.prog W = .ok .skip (W.setRow g cs) := run_storeRow 156 142 sizeOf156 W g cs h hs h1
end
end Go.Proofs.YtepjbijhkkjbfaaGreat
namespace Go.Proofs.YtepjbijhkkjbfaaGreat
section
variable {P : Program} {ops : Array Oper} {md : Region.Mode} {S : World → Prop}
def GoodRun (P : Program) (S : World → Prop) (v : Value) : Result Next → Prop
  | .ok (.value u) w' => u = v ∧ S w'
  | .ok .skip w' => v = undef ∧ S w'
  | .ok (.enter f args) w' => Calls P f args w' fun e w'' => e = .returned v ∧ S w''
  | _ => False
@[go_sem] theorem goodRun_value (P : Program) (S : World → Prop) (v u : Value) (w : World) : GoodRun P S v (.ok (.value u) w) = (u = v ∧ S w) := rfl
@[go_sem] theorem goodRun_enter (P : Program) (S : World → Prop) (v : Value) (f : FuncId) (args : Array Value) (w : World) : GoodRun P S v (.ok (.enter f args) w) = Calls P f args w fun e w'' => e = .returned v ∧ S w'' := rfl
def MildAt (P : Program) (S : World → Prop) (o : Oper) (a : Act) (v : Value) : Prop := ∀ w, S w → GoodRun P S v ((execOp a.eval o).run P w)
def mdOp (P : Program) (ops : Array Oper) (S : World → Prop) (i : Nat) (K : Act → Prop) (a : Act) : Prop :=
  match ops[i]? with
  | none => K a
  | some o => if Region.wanted o (yielded ops a.tmps) then ∃ v, MildAt P S o a v ∧ K (a.put o.dst v) else K (a.put o.dst undef)
def wpMild (P : Program) (ops : Array Oper) (S : World → Prop) (Q : Act → Prop) : List Oper → Act → Prop
  | [], a => Q a
  | o :: rest, a => if Region.wanted o (yielded ops a.tmps) then ∃ v, MildAt P S o a v ∧ wpMild P ops S Q rest (a.put o.dst v) else wpMild P ops S Q rest (a.put o.dst undef)
theorem wpMild_nil {Q : Act → Prop} {a : Act} (h : Q a) : wpMild P ops S Q [] a := h
theorem wpMild_step {Q : Act → Prop} {a : Act} {o : Oper} {rest : List Oper}
    (h : ∀ K : Act → Prop, (∀ a, wpMild P ops S Q rest a → K a) → if Region.wanted o (yielded ops a.tmps) then ∃ v, MildAt P S o a v ∧ K (a.put o.dst v) else K (a.put o.dst undef)) : wpMild P ops S Q (o :: rest) a :=
  h _ (fun _ h => h)
theorem mdOp_mono {i : Nat} {a : Act} {K K' : Act → Prop} (h : ∀ a, K a → K' a) (hh : mdOp P ops S i K a) : mdOp P ops S i K' a := by
  unfold mdOp at *
  split
  · exact h _ (by simpa [*] using hh)
  · rename_i o ho
    simp only [ho] at hh
    split
    · rename_i hw; simp only [hw, if_true] at hh; obtain ⟨v, h1, h2⟩ := hh; exact ⟨v, h1, h _ h2⟩
    · rename_i hw; simp only [hw] at hh; exact h _ hh
theorem wpOp_of_mdOp {i : Nat} {a : Act} {w : World} {K : Act → Prop} {K' : Act → World → Prop} {Q' : Exit → Act → World → Prop} (hS : S w) (h : ∀ a w, S w → K a → K' a w) (hh : mdOp P ops S i K a) : wpOp P ops Q' i K' a w := by
  unfold mdOp at hh; unfold wpOp
  split
  · rename_i ho; simp only [ho] at hh; exact h _ _ hS hh
  · rename_i o ho
    simp only [ho] at hh
    split
    · rename_i hw
      simp only [hw, if_true] at hh; obtain ⟨v, hm, hk⟩ := hh; refine .inl ?_; unfold Oper.wp; have h1 := hm w hS; generalize (execOp a.eval o).run P w = r at *; cases r with
      | ok n w' =>
        cases n <;> simp only [GoodRun] at h1 <;> simp only [Oper.upon]
        case value u => obtain ⟨rfl, h2⟩ := h1; exact h _ _ h2 hk
        case skip => obtain ⟨rfl, h2⟩ := h1; exact h _ _ h2 hk
        case enter f args => exact h1.mono fun e w'' ⟨he, hs⟩ => by subst he; exact h _ _ hs hk
      | halt x w' => simp only [GoodRun] at h1
    · rename_i hw; simp only [hw] at hh; exact h _ _ hS hh
def YieldsM (P : Program) (ops : Array Oper) (S : World → Prop) (o : Oper) (v : Value) (a : Act) : Prop :=
  (Region.wanted o (yielded ops a.tmps) = true ∧ MildAt P S o a v) ∨ (Region.wanted o (yielded ops a.tmps) = false ∧ v = undef)
theorem YieldsM.mdOp {i : Nat} {o : Oper} {v : Value} {a : Act} (hi : ops[i]? = some o) (hy : YieldsM P ops S o v a) {K : Act → Prop} (h : K (a.put o.dst v)) : mdOp P ops S i K a := by
  unfold Proofs.YtepjbijhkkjbfaaGreat.mdOp; simp only [hi]; rcases hy with ⟨hw, hv⟩ | ⟨hw, rfl⟩
  · simp only [hw, if_true]; exact ⟨v, hv, h⟩
  · simp only [hw, Bool.false_eq_true, if_false]; exact h
theorem YieldsM.of_same {o : Oper} {v : Value} {a a' : Act} (hy : YieldsM P ops S o v a) (he : execOp a'.eval o = execOp a.eval o)
    (hw : Region.wanted o (yielded ops a'.tmps) = Region.wanted o (yielded ops a.tmps)) : YieldsM P ops S o v a' := by
  unfold YieldsM MildAt at *; rw [he, hw]; exact hy
theorem yieldsM_of_mdOp {i : Nat} {o : Oper} {a : Act} {K : Act → Prop} (hi : ops[i]? = some o) (h : mdOp P ops S i K a) : ∃ v, YieldsM P ops S o v a ∧ K (a.put o.dst v) := by
  unfold mdOp at h; simp only [hi] at h
  by_cases hw : Region.wanted o (yielded ops a.tmps) = true
  · simp only [hw, if_true] at h
    obtain ⟨v, h1, h2⟩ := h; exact ⟨v, .inl ⟨hw, h1⟩, h2⟩
  · simp only [hw] at h
    exact ⟨undef, .inr ⟨by simpa using hw, rfl⟩, h⟩
theorem mdOp_put {j : Nat} {oi oj : Oper} {v : Value} (hj : ops[j]? = some oj) (hap : oi.apart ops oj = true)
    (hsi : ∀ cs b, oi.op ≠ .select cs b) (hsj : ∀ cs b, oj.op ≠ .select cs b) {K : Act → Prop} {a : Act}
    (hy : YieldsM P ops S oi v a) (h : mdOp P ops S j K (a.put oi.dst v)) :
    mdOp P ops S j (fun a' => YieldsM P ops S oi v a' ∧ K (a'.put oi.dst v)) a := by
  obtain ⟨h1, h2, h3⟩ := Oper.apart_spec hap; have keep : ∀ (a : Act), YieldsM P ops S oi v a → ∀ u, YieldsM P ops S oi v (a.put oj.dst u) := fun a hy u =>
    hy.of_same (execOp_put oi hsi a oj.dst u h3) (wanted_put oi a oj.dst u h3)
  unfold mdOp at *; simp only [hj] at *; rw [wanted_put oj a oi.dst v h1] at h
  split
  · rename_i hw
    simp only [hw, if_true] at h; obtain ⟨u, hm, hk⟩ := h; refine ⟨u, ?_, keep a hy u, by rw [← Act.put_comm a v u h2]; exact hk⟩; unfold MildAt at *
    rwa [execOp_put oj hsj a oi.dst v h1] at hm
  · rename_i hw
    simp only [hw] at h; exact ⟨keep a hy _, by rw [← Act.put_comm a v undef h2]; exact h⟩
def wpAnyM (P : Program) (md : Region.Mode) (ops : Array Oper) (S : World → Prop) (n : Nat) (L : Array Bool → Act → Prop) : Nat → Array Bool → Act → Prop
  | 0, listed, a => L listed a
  | f + 1, listed, a =>
    Region.ready md ops listed ≠ [] ∧ ∀ i ∈ Region.ready md ops listed, i < n ∧ mdOp P ops S i (wpAnyM P md ops S n L f (listed.setIfInBounds i true)) a
theorem wpAny_of_mild {n g : Nat} {L : Array Bool → Act → Prop} {Q' : Exit → Act → World → Prop} (hL : ∀ listed a w, S w → L listed a → wpAny P md ops Q' g listed a w) :
    ∀ (f : Nat) (listed : Array Bool) (a : Act) (w : World), S w → wpAnyM P md ops S n L f listed a → wpAny P md ops Q' (f + g) listed a w
  | 0, listed, a, w, hS, h => by rw [Nat.zero_add]; exact hL _ _ _ hS h
  | f + 1, listed, a, w, hS, h => by
    rw [show f + 1 + g = (f + g) + 1 by omega]; exact ⟨fun h0 => absurd h0 h.1, fun i hi => wpOp_of_mdOp hS (fun a' w' hS' h' => wpAny_of_mild hL f _ a' w' hS' h') (h.2 i hi).2⟩
theorem wpAnyM_first {n i : Nat} {oi : Oper} {v : Value} {L : Array Bool → Act → Prop} (hi : ops[i]? = some oi) (hsel : ∀ (j : Nat) (o : Oper) cs b, ops[j]? = some o → o.op ≠ .select cs b)
    (hwait : ∀ (listed : Array Bool), HeadInv md ops n listed → ∀ k, k < n → listed.getD k true = false → ∀ t, n ≤ t → t ∉ Region.ready md ops listed) (hin : i < n)
    (hdone : ∀ listed a, L listed a → ∀ j ∈ Region.ready md ops listed, n ≤ j) :
    ∀ (f : Nat) (listed : Array Bool) (a : Act), HeadInv md ops n listed →
      (∀ j oj, ops[j]? = some oj → j ≠ i → listed.getD j true = false → (∀ e ∈ oj.after, Region.binds md e = true → e.on ≠ i) → oi.apart ops oj = true) →
      i ∈ Region.ready md ops listed → YieldsM P ops S oi v a →
      wpAnyM P md ops S n L f (listed.setIfInBounds i true) (a.put oi.dst v) → wpAnyM P md ops S n L (f + 1) listed a := by
  intro f
  induction f with
  | zero =>
    intro listed a inv _ hr hy H; have hun := (mem_ready.1 hr).1; refine ⟨fun h => (by rw [h] at hr; cases hr), fun j hj => ?_⟩; have hjn : j < n := by
      rcases Nat.lt_or_ge j n with h | h
      · exact h
      · exact absurd hj (hwait listed inv i hin hun j h)
    refine ⟨hjn, ?_⟩
    by_cases hji : j = i
    · subst hji; exact hy.mdOp hi H
    · have := hdone _ _ H j (ready_mono hj hji)
      omega
  | succ f ih =>
    intro listed a inv hfree hr hy H; have hun := (mem_ready.1 hr).1; refine ⟨fun h => (by rw [h] at hr; cases hr), fun j hj => ?_⟩; have hjn : j < n := by
      rcases Nat.lt_or_ge j n with h | h
      · exact h
      · exact absurd hj (hwait listed inv i hin hun j h)
    refine ⟨hjn, ?_⟩
    by_cases hji : j = i
    · subst hji; exact hy.mdOp hi H
    · have h1 := (H.2 j (ready_mono hj hji)).2
      obtain ⟨hjun, oj, hoj, hall⟩ := mem_ready.1 hj; have hnot : ∀ e ∈ oj.after, Region.binds md e = true → e.on ≠ i := fun e he hb heq => by
        have h1 := hall e he hb; rw [heq, getD_both hun] at h1; cases h1
      have h2 := mdOp_put hoj (hfree j oj hoj hji hjun hnot) (fun cs b => hsel i oi cs b hi) (fun cs b => hsel j oj cs b hoj) hy h1; have hfree' : ∀ k ok, ops[k]? = some ok → k ≠ i → (listed.setIfInBounds j true).getD k true = false →
          (∀ e ∈ ok.after, Region.binds md e = true → e.on ≠ i) → oi.apart ops ok = true := fun k ok hk hki hun hno => by
        refine hfree k ok hk hki ?_ hno
        by_cases hjk : j = k
        · subst hjk; exact hjun
        · rw [getD_set_ne true hjk] at hun; exact hun
      refine mdOp_mono (fun a' h3 => ih (listed.setIfInBounds j true) a' (inv.set hj hjn) hfree' (ready_mono hr (Ne.symm hji)) h3.1 ?_) h2; rw [Array.setIfInBounds_comm _ _ hji]; exact h3.2
theorem wpAnyM_lex {n g : Nat} {Lq : Act → Prop} (hsel : Region.noSelect ops = true)
    (hwait : ∀ (listed : Array Bool), HeadInv md ops n listed → ∀ k, k < n → listed.getD k true = false → ∀ t, n ≤ t → t ∉ Region.ready md ops listed) :
    ∀ (l : List Oper) (k : Nat) (listed : Array Bool) (a : Act), (∀ j, j < l.length → l[j]? = ops[k + j]?) → k + l.length = n → HeadInv md ops n listed →
    Region.lexHead md ops g l.length k listed = true → wpMild P ops S Lq l a →
    wpAnyM P md ops S n (fun listed' a' => Region.seqB md ops g n listed' = true ∧ Lq a') l.length listed a
  | [], k, listed, a, _, hk, _, hB, h => by
    have : k = n := by simpa using hk
    subst this; exact ⟨by simpa [Region.lexHead] using hB, h⟩
  | o :: l, k, listed, a, hl, hk, inv, hB, h => by
    have h0 : ops[k]? = some o := by simpa using (hl 0 (by simp)).symm
    simp only [List.length_cons, Region.lexHead, Bool.and_eq_true] at hB; obtain ⟨⟨hr, hf⟩, hB'⟩ := hB; have hkn : k < n := by simp only [List.length_cons] at hk; omega
    have hr' : k ∈ Region.ready md ops listed := by simpa using hr
    have hst : mdOp P ops S k (wpMild P ops S Lq l) a := by unfold mdOp; simp only [h0]; exact h
    obtain ⟨v, hy, hK⟩ := yieldsM_of_mdOp h0 hst; exact wpAnyM_first h0 (Region.noSelect_spec hsel) hwait hkn (fun listed' a' hL => seqB_ready hL.1) l.length listed a inv (Region.free_spec h0 hf) hr' hy
      (wpAnyM_lex hsel hwait l (k + 1) _ _ (fun j hj => by have := hl (j + 1) (by simp; omega); simpa [Nat.add_assoc, Nat.add_comm 1 j] using this) (by simp only [List.length_cons] at hk; omega) (inv.set hr' hkn) hB' hK)
theorem wp_region_mild {id : Nat} {Q : Exit → Act → World → Prop} {a : Act} {w : World} {l : List Oper} (n : Nat) (hm : P.follows .mixedOrders = true) (hB : Region.lexTailB .any l.toArray n = true) (S : World → Prop) (hS : S w.drew)
    (h : wpMild P l.toArray S (fun a' => ∀ w', S w' → wpList P l.toArray Q (l.drop n) a' w') (l.take n) a) : (Code.region id l.toArray true).wp P Q a w := by
  simp only [Region.lexTailB, Bool.and_eq_true, decide_eq_true_eq] at hB; obtain ⟨⟨⟨⟨hsel, hn⟩, hs⟩, hc⟩, hlex⟩ := hB; have hn' : n < l.length := by simpa using hn
  have htl : (l.take n).length = n := by simp; omega
  have hdl : (l.drop n).length = l.toArray.size - n := by simp
  have inv0 : HeadInv .any l.toArray n (Array.replicate l.toArray.size false) :=
    ⟨by simp, fun j oj _ hl => (by rw [getD_replicate_false] at hl; cases hl), fun t _ ht => getD_in (by simpa using ht) (getD_replicate_false _ _)⟩
  have H := wpAnyM_lex (md := .any) (g := l.toArray.size - n) hsel (fun listed inv k hk hun t ht => tail_waits hs hc hn inv _ k rfl hk hun t ht) (l.take n) 0 _ a (fun j hj => by
    have hj' : j < n := by rw [htl] at hj; exact hj
    simp [hj']) (by simpa using htl) inv0 (by rw [htl]; exact hlex) h
  refine wp_region_any hm ?_; have := wpAny_of_mild (Q' := Q) (g := l.toArray.size - n) (fun listed a' w' hS' hL => by
    have := wpAny_of_seq (md := .any) (Q' := Q) (l.drop n) n listed a' w' (fun j => by simp [List.getElem?_drop]) (by rw [hdl]; exact hL.1) (hL.2 w' hS')
    rwa [hdl] at this) _ _ _ w.drew hS H
  rw [htl, show n + (l.toArray.size - n) = l.toArray.size by omega] at this; exact this
theorem wp_region_mild_all {id : Nat} {Q : Exit → Act → World → Prop} {a : Act} {w : World} {l : List Oper} (hm : P.follows .mixedOrders = true)
    (hB : (Region.noSelect l.toArray && Region.lexHead .any l.toArray 0 l.length 0 (Array.replicate l.length false)) = true) (S : World → Prop) (hS : S w.drew)
    (h : wpMild P l.toArray S (fun a' => ∀ w', S w' → Q .normal a' w') l a) : (Code.region id l.toArray true).wp P Q a w := by
  simp only [Bool.and_eq_true] at hB; obtain ⟨hsel, hlex⟩ := hB; have inv0 : HeadInv .any l.toArray l.length (Array.replicate l.length false) :=
    ⟨by simp, fun j oj _ hl => (by rw [getD_replicate_false] at hl; cases hl), fun t h1 ht => absurd ht (by simpa using h1)⟩
  have H := wpAnyM_lex (md := .any) (n := l.length) (g := 0) hsel (fun listed inv k hk hun t ht hr => by
    obtain ⟨_, o, ho, _⟩ := mem_ready.1 hr; have : t < l.length := by simpa using (Array.getElem?_eq_some_iff.1 ho).1
    omega) l 0 _ a (fun j hj => by simp) (by simp) inv0 hlex h
  refine wp_region_any hm ?_; have := wpAny_of_mild (Q' := Q) (g := 0) (fun listed a' w' hS' hL => ⟨by
    simpa [Region.seqB] using hL.1, hL.2 w' hS'⟩) _ _ _ w.drew hS H
  simpa using this
end
end Go.Proofs.YtepjbijhkkjbfaaGreat
namespace Go.Proofs.YtepjbijhkkjbfaaGreat
open Go.RowKit
section
variable {α : Type} {f : α → Array Value} {n : Nat}
def rowsOf (f : α → Array Value) (l : List α) : List Value := l.flatMap fun x => (f x).toList
theorem rowsOf_cons (x : α) (l : List α) : rowsOf f (x :: l) = (f x).toList ++ rowsOf f l := rfl
theorem rowsOf_length (hf : ∀ x, (f x).size = n) (l : List α) : (rowsOf f l).length = l.length * n := by
  induction l with
  | nil => simp [rowsOf]
  | cons x l ih => rw [rowsOf_cons, List.length_append, ih, Array.length_toList, hf, List.length_cons, Nat.add_mul]; omega
theorem rowsOf_get (hf : ∀ x, (f x).size = n) : ∀ (l : List α) (k j : Nat) (h : k < l.length), j < n → (rowsOf f l)[k * n + j]? = (f l[k])[j]?
  | x :: l, 0, j, _, hj => by
    rw [rowsOf_cons, List.getElem?_append_left (by rw [Array.length_toList, hf]; omega)]; simp
  | x :: l, k + 1, j, h, hj => by
    have hm : (k + 1) * n = k * n + n := by rw [Nat.add_mul, Nat.one_mul]
    rw [rowsOf_cons, List.getElem?_append_right (by rw [Array.length_toList, hf]; omega), Array.length_toList, hf]; rw [show (k + 1) * n + j - n = k * n + j by omega]; exact rowsOf_get hf l k j (by simpa using h) hj
theorem rowsOf_snoc (l : List α) (x : α) : rowsOf f l ++ (f x).toList = rowsOf f (l ++ [x]) := by simp [rowsOf]
def OwnRows (f : α → Array Value) (n : Nat) (W : World) (B t : Nat) (v : Value) (l : List α) : Prop := W.ownsRow B t n v l.length (rowsOf f l)
variable {W W' : World} {B t : Nat} {v : Value} {l : List α}
theorem OwnRows.nil (W : World) (B t : Nat) : OwnRows f n W B t (.slice none 0 0) [] := World.ownsRow_nil _ _ _ _
theorem OwnRows.form (h : OwnRows f n W B t v l) : ∃ A c, v = .slice A l.length c := by
  rcases Nat.eq_zero_or_pos l.length with h0 | h0
  · rcases h.2 with ⟨rfl, _⟩ | ⟨g, cap, cur, rfl, _⟩
    · exact ⟨_, _, by rw [h0]⟩
    · exact ⟨_, _, rfl⟩
  · obtain ⟨g, cap, rfl, _, _⟩ := World.ownsRow.form h h0
    exact ⟨_, _, rfl⟩
theorem OwnRows.get (hf : ∀ x, (f x).size = n) (h : OwnRows f n W B t v l) {k : Nat} (hk : k < l.length) :
    ∃ g c, v = .slice (some ⟨g, 0, none⟩) l.length c ∧ B ≤ g ∧ g < W.heap.size ∧ segB W ⟨g, k * n, none⟩ n = true ∧ segV W ⟨g, k * n, none⟩ n = f l[k] := by
  obtain ⟨g, cap, rfl, hb, hlt⟩ := World.ownsRow.form h (by omega); have hc : ∀ j u, (f l[k])[j]? = some u → W.cell? ((⟨g, k * n, none⟩ : Addr).add j) = some u := fun j u hu => by
    have hj : j < n := by have := (Array.getElem?_eq_some_iff.1 hu).1; rwa [hf] at this
    have := World.ownsRow.cells h (g := g) rfl (k * n + j) u (by rw [rowsOf_get hf l k j hk hj]; exact hu); rw [add_none] at this ⊢
    rwa [Nat.zero_add] at this
  exact ⟨g, cap, rfl, hb, hlt, segB_of hc (hf _), segV_of hc (hf _)⟩
theorem OwnRows.upd {S : Nat → Prop} (h : OwnRows f n W B t v l) (hu : Upd S W W') (hs : ∀ k, v.ownBlock = some k → ¬ S k) : OwnRows f n W' B t v l := by
  refine ⟨h.1, h.2.imp id fun ⟨g, cap, cur, hv, hb, hg, hr⟩ => ⟨g, cap, cur, hv, hb, ?_, hr⟩⟩; subst hv; exact (hu.block g (Array.getElem?_eq_some_iff.1 hg).1 (hs g rfl)).trans hg
theorem OwnRows.alloc (h : OwnRows f n W B t v l) (o : Obj) : OwnRows f n (W.alloc o) B t v l := h.upd ((Upd.refl (fun _ => False) W).alloc o) fun _ _ h => h
theorem OwnRows.drew (h : OwnRows f n W B t v l) : OwnRows f n W.drew B t v l := h.upd (Upd.refl (fun _ => False) W).drew fun _ _ h => h
theorem run_append_rows {P : Program} (hf : ∀ x, (f x).size = n) (ts ty : TypeId) (i : TypeInfo) (z : Value) (bytes : Nat) (ht : P.underlying ts = some (.slice t)) (hi : P.info? t = some i) (hz : i.zero = some z)
    (hsize : i.size = n) (hby : i.bytes = bytes) (hzs : z.cells.size = n) (hn : 0 < n) (h1 : ∀ x, oneB (f x) = true)
    (h : OwnRows f n W B t v l) (x : α) (g c : Nat) (tg : TypeId) (fr : Nat × Nat) (hg : W.heap[g]? = some (.cells (f x) tg fr)) (h63 : l.length + 1 ≤ maxLen) (hbytes : (l.length + 1) * bytes ≤ 140737488355328) (hB : B ≤ W.heap.size) :
    ∃ v' W', (Builtin.append_ #[ts, ts] ty #[v, .slice (some ⟨g, 0, none⟩) 1 c]).run P W = .ok v' W' ∧ OwnRows f n W' B t v' (l ++ [x]) ∧ Upd (fun k => v.ownBlock = some k) W W' ∧ (v'.ownBlock = v.ownBlock ∨ v'.ownBlock = some W.heap.size) := by
  obtain ⟨v', W', hr, ho, hgr, _, hb⟩ := run_append_own_at (P := P) W B ts ty t i z n bytes ht hi hz hsize hby hzs hn v l.length (rowsOf f l) h ⟨g, 0, none⟩ 1 c (f x).toList (by rw [Array.length_toList, hf, Nat.one_mul])
    (fun j u hu => seg_block hg j u (by simpa using hu)) (fun u hu => by have := h1 x; unfold oneB at this; exact List.all_eq_true.1 this u hu) h63 hbytes hB
  refine ⟨v', W', hr, ?_, (Upd.of_grown hgr).mono fun k _ hk => hk.symm, hb⟩; unfold OwnRows; rw [rowsOf_snoc] at ho; rw [List.length_append, List.length_singleton]; exact ho
end
section
variable {P : Program} {α : Type} {f : α → Array Value} {n : Nat} {W : World} {B t : Nat} {v : Value} {l : List α} {o : Oper} {a : Act} {K : Act → World → Prop} {Q : Exit → Act → World → Prop} {ops : Array Oper} {rest : List Oper}
structure RowType (P : Program) (f : α → Array Value) (n ts t bytes : Nat) : Prop where
  size : ∀ x, (f x).size = n
  one : ∀ x, oneB (f x) = true
  slice : P.underlying ts = some (.slice t)
  info : ∃ z, (P.info? t).map (fun i => (i.size, i.bytes, i.zero)) = some (n, bytes, some z) ∧ z.cells.size = n
  pos : 0 < n
theorem wp_append_rows {ts bytes : Nat} (R : RowType P f n ts t bytes) (s x : Operand) (ho : o.op = .call { callee := .builtin .append, args := #[s, x], argTypes := #[ts, ts] }) (hs : a.eval s = v) (h : OwnRows f n W B t v l)
    (e : α) (g c : Nat) (tg : TypeId) (fr : Nat × Nat) (hx : a.eval x = .slice (some ⟨g, 0, none⟩) 1 c) (hg : W.heap[g]? = some (.cells (f e) tg fr)) (h63 : l.length + 1 ≤ maxLen) (hbytes : (l.length + 1) * bytes ≤ 140737488355328) (hB : B ≤ W.heap.size)
    (hk : ∀ v' W', OwnRows f n W' B t v' (l ++ [e]) → Upd (fun k => v.ownBlock = some k) W W' → (v'.ownBlock = v.ownBlock ∨ v'.ownBlock = some W.heap.size) → K (a.put o.dst v') W') : o.wp P a W K Q := by
  obtain ⟨z, hinf, hzs⟩ := R.info; obtain ⟨i, hi, hinf⟩ := Option.map_eq_some_iff.1 hinf; simp only [Prod.mk.injEq] at hinf; obtain ⟨hsz, hby, hz⟩ := hinf; obtain ⟨v', W', hr, h2, h3, h4⟩ := run_append_rows (P := P) R.size ts o.type i z bytes R.slice hi hz hsz hby hzs R.pos R.one h e g c tg fr hg h63 hbytes hB; unfold Oper.wp execOp; simp only [ho, resolve, invoke, builtin, Sem.run_bind, Sem.run_pure, Result.andThen_ok, List.map_toArray, List.map_cons, List.map_nil, hs, hx, hr]; exact hk v' W' h2 h3 h4
theorem step_append_rows {E : Prop} {ts bytes : Nat} (R : RowType P f n ts t bytes) (hgd : o.guard = none) (s x : Operand) (ho : o.op = .call { callee := .builtin .append, args := #[s, x], argTypes := #[ts, ts] }) (hs : a.eval s = v) (h : OwnRows f n W B t v l)
    (e : α) (g c : Nat) (tg : TypeId) (fr : Nat × Nat) (hx : a.eval x = .slice (some ⟨g, 0, none⟩) 1 c) (hg : W.heap[g]? = some (.cells (f e) tg fr)) (h63 : l.length + 1 ≤ maxLen) (hbytes : (l.length + 1) * bytes ≤ 140737488355328) (hB : B ≤ W.heap.size)
    (hk : ∀ v' W', OwnRows f n W' B t v' (l ++ [e]) → Upd (fun k => v.ownBlock = some k) W W' → (v'.ownBlock = v.ownBlock ∨ v'.ownBlock = some W.heap.size) → K (a.put o.dst v') W') :
    if Region.wanted o (yielded ops a.tmps) = true then o.wp P a W K Q else E := by
  rw [if_pos (by unfold Region.wanted; rw [hgd])]; exact wp_append_rows R s x ho hs h e g c tg fr hx hg h63 hbytes hB hk
theorem wpList_append_rows {ts bytes : Nat} (R : RowType P f n ts t bytes) (hgd : o.guard = none) (s x : Operand) (ho : o.op = .call { callee := .builtin .append, args := #[s, x], argTypes := #[ts, ts] }) (hs : a.eval s = v) (h : OwnRows f n W B t v l)
    (e : α) (g c : Nat) (tg : TypeId) (fr : Nat × Nat) (hx : a.eval x = .slice (some ⟨g, 0, none⟩) 1 c) (hg : W.heap[g]? = some (.cells (f e) tg fr)) (h63 : l.length + 1 ≤ maxLen) (hbytes : (l.length + 1) * bytes ≤ 140737488355328) (hB : B ≤ W.heap.size)
    (hk : ∀ v' W', OwnRows f n W' B t v' (l ++ [e]) → Upd (fun k => v.ownBlock = some k) W W' → (v'.ownBlock = v.ownBlock ∨ v'.ownBlock = some W.heap.size) → wpList P ops Q rest (a.put o.dst v') W') : wpList P ops Q (o :: rest) a W :=
  wpList_plain hgd fun _ hK => wp_append_rows R s x ho hs h e g c tg fr hx hg h63 hbytes hB fun v' W' h2 h3 h4 => hK _ _ (hk v' W' h2 h3 h4)
end
def sliceRow (t : TypeId) (len : Nat) (parts : Array (Nat × Value)) : Sem Next := do pure (.value (← Instr.buildSlice t len parts))
theorem run_sliceRow {P : Program} (ts t : TypeId) (n : Nat) (z : Value) (cs : Array Value) (hu : P.underlying ts = some (.slice t)) (hie : (P.info? t).map (fun i => (i.size, i.zero)) = some (n, some z)) (hs : 0 < n) (hsm : n ≤ 1000) (hzs : z.cells.size = n) (hcs : cs.size = n) (W : World) :
    (sliceRow ts 1 #[(0, .agg cs)]).run P W = .ok (.value (.slice (some ⟨W.heap.size, 0, none⟩) 1 1)) (W.alloc (.cells cs t)) := by
  obtain ⟨ie, hie1, hie2⟩ := Option.map_eq_some_iff.1 hie; simp only [Prod.mk.injEq] at hie2; obtain ⟨rfl, hz⟩ := hie2; have hl := fill_last 0 cs ((Array.range (1 * ie.size)).map (z.cells[· % z.cells.size]!)) (by simp [hcs]); have h := run_buildSlice (P := P) W ts t 1 #[(0, .agg cs)] cs ie z hu hie1 hz (by omega) (by omega) (by
    have hsz : ((Array.range (1 * ie.size)).map (z.cells[· % z.cells.size]!)).size = ie.size := by simp
    generalize (Array.range (1 * ie.size)).map (z.cells[· % z.cells.size]!) = zz at *; simp [Instr.fill, Value.cells, hcs, hsz]; simp at hl; rw [hcs] at hl; exact hl)
  simp [sliceRow, h, Result.andThen]
end Go.Proofs.YtepjbijhkkjbfaaGreat
namespace Go.Proofs.YtepjbijhkkjbfaaGreat
open Go.RowKit
section
variable {α : Type} {f : α → Array Value} {n : Nat}
variable {W W' : World} {B t : Nat} {v : Value} {l : List α}
end
section
variable {P : Program} {α : Type} {f : α → Array Value} {n : Nat} {W : World} {B t : Nat} {v : Value} {l : List α} {o : Oper} {a : Act} {K : Act → World → Prop} {Q : Exit → Act → World → Prop} {ops : Array Oper} {rest : List Oper}
end
end Go.Proofs.YtepjbijhkkjbfaaGreat
namespace Go.Proofs.YtepjbijhkkjbfaaGreat
open Go.RowKit
def Blk (W : World) (g t : Nat) (vs : List Value) : Prop := W.heap[g]? = some (.cells vs.toArray t (0, 0))
section
variable {W W' : World} {g t : Nat} {vs : List Value} {S : Nat → Prop}
theorem Blk.lt (h : Blk W g t vs) : g < W.heap.size := (Array.getElem?_eq_some_iff.1 h).1
theorem Blk.cell (h : Blk W g t vs) {k : Nat} {v : Value} (hk : vs[k]? = some v) : W.cell? ⟨g, k, none⟩ = some v := by
  rw [cell_of_row W g k _ _ _ h]; simpa using hk
theorem Blk.thaw (h : Blk W g t vs) (o : Nat) : W.frozen? ⟨g, o, none⟩ = false := frozen_of_row W g o _ _ h
theorem Blk.set (h : Blk W g t vs) (k : Nat) (v : Value) : Blk (W.setCell ⟨g, k, none⟩ v) g t (vs.set k v) := by
  unfold Blk; rw [heap_setCell_same _ g k _ _ _ h]; simp
theorem Blk.upd (h : Blk W g t vs) (hu : Upd S W W') (hs : ¬ S g) : Blk W' g t vs := hu.heap h hs
theorem Blk.kept (h : Blk W g t vs) (hu : Kept W W') : Blk W' g t vs := hu.heap h id
theorem Blk.alloc (h : Blk W g t vs) (o : Obj) : Blk (W.alloc o) g t vs := h.kept ((Upd.refl _ W).alloc o)
theorem Blk.drew (h : Blk W g t vs) : Blk W.drew g t vs := h
theorem Blk.new (W : World) (t : Nat) (vs : List Value) : Blk (W.alloc (.cells vs.toArray t)) W.heap.size t vs := heap_alloc_new W _
theorem Blk.far (h : Blk W g t vs) (p : Addr) (v : Value) (hp : g ≠ p.block) : Blk (W.setCell p v) g t vs := by
  unfold Blk; rw [heap_setCell_other W p g v hp]; exact h
theorem Blk.range (h : Blk W g t vs) (o : Nat) {cs : List Value} (hc : ∀ j, j < cs.length → vs[o + j]? = cs[j]?) : W.rangeAt g o cs := fun j v hv => by
  refine h.cell ?_; rw [hc j (List.getElem?_eq_some_iff.1 hv).1]; exact hv
theorem Blk.seg (h : Blk W g t vs) (o n : Nat) (cs : List Value) (hn : cs.length = n) (hc : ∀ j, j < n → vs[o + j]? = cs[j]?) : segB W ⟨g, o, none⟩ n = true ∧ segV W ⟨g, o, none⟩ n = cs.toArray := by
  have hr : ∀ j v, cs.toArray[j]? = some v → W.cell? ((⟨g, o, none⟩ : Addr).add j) = some v := fun j v hv => by
    rw [add_none]; have hv' : cs[j]? = some v := by simpa using hv
    have hj : j < n := by have := (List.getElem?_eq_some_iff.1 hv').1; omega
    exact h.cell (by rw [hc j hj]; exact hv')
  exact ⟨segB_of hr (by simpa using hn), segV_of hr (by simpa using hn)⟩
theorem Blk.setRow (h : Blk W g t vs) (cs : List Value) : Blk (W.setRow g cs.toArray) g t cs := setRow_heap W g _ _ t _ h
theorem Upd.setRow {a b : World} (h : Upd S a b) (g : Nat) (cs : Array Value) (hg : g < a.heap.size → S g) : Upd S a (b.setRow g cs) :=
  h.then (T := fun k => k = g) ⟨rfl, rfl, rfl, by simp [World.setRow], fun k _ hne => by simp only [World.setRow, Array.getElem?_modify]; rw [if_neg (fun e => hne e.symm)]⟩ fun _ hi hik => hik ▸ hg (hik ▸ hi)
end
theorem run_storeMid {P : Program} {W : World} {g t : Nat} {vs : List Value} (h : Blk W g t vs) (ty n o : Nat) (hi : (P.info? ty).map (·.size) = some n) (cs : Array Value) (hs : cs.size = n) (ho : o + n ≤ vs.length) (h1 : oneB cs = true) :
    (storeRow ty (.pointer (some ⟨g, o, none⟩)) (.agg cs)).run P W = .ok .skip (W.setRow g (splice vs o cs.toList).toArray) := by
  obtain ⟨i, hi1, hi2⟩ := Option.map_eq_some_iff.1 hi; have := run_storeCells_at P g o t cs.toList 0 vs.toArray W h (by simp; omega) (fun v hv => by unfold oneB at h1; exact List.all_eq_true.1 h1 v hv); simp only [Nat.add_zero] at this; simp [storeRow, Instr.storeAt, Instr.sureAddr, storeVar, sizeOf, typeInfo, hi1, hi2, Value.cells, hs, this, Result.andThen, splice]
theorem run_indexRow {P : Program} (t e n : Nat) (d : TypeDesc) (hu : P.underlying t = some (.array n e)) (hue : P.underlying e = some d) (hd : (match d with | .struct _ | .array _ _ => true | _ => false) = false)
    (hi : (P.info? e).map (·.size) = some 1) (W : World) (cs : Array Value) (i : Nat) (v : Value) (hlt : i < n) (hv : cs[i]? = some v) :
    (indexRow t (.agg cs) (.int .i64 (i : Int))).run P W = .ok (.value v) W := by
  obtain ⟨ie, hi1, hi2⟩ := Option.map_eq_some_iff.1 hi; have ha : (isAgg e).run P W = .ok false W := by
    unfold isAgg; rw [Sem.run_bind, run_underlying hue W]; cases d <;> simp_all
  simp [indexRow, Instr.index, asIntOf, run_underlying hu, sizeOf, typeInfo, hi1, hi2, part, ha, hlt, hv, Result.andThen]
theorem splice_get {α : Type} (L : List α) (o : Nat) (cs : List α) (j : Nat) (ho : o + cs.length ≤ L.length) : (splice L o cs)[j]? = if o ≤ j ∧ j < o + cs.length then cs[j - o]? else L[j]? := by
  unfold splice
  by_cases h1 : j < o
  · rw [List.getElem?_append_left (by simp; omega), if_neg (by omega), List.getElem?_take_of_lt h1]
  · rw [List.getElem?_append_right (by simp; omega)]
    have hl : (List.take o L).length = o := by simp; omega
    rw [hl]
    by_cases h2 : j < o + cs.length
    · rw [List.getElem?_append_left (by omega), if_pos (by omega)]
    · rw [List.getElem?_append_right (by omega), if_neg (by omega), List.getElem?_drop]
      congr 1; omega
end Go.Proofs.YtepjbijhkkjbfaaGreat
namespace Go.Proofs.YtepjbijhkkjbfaaGreat
abbrev Bytes := List UInt8
section
variable (H : Bytes → Dig)
def leafIn (r : Bytes) : Bytes := 0 :: r
def upIn (ds : List Dig) : Bytes := 1 :: ds.flatMap fun d => d.1
def leafM (r : Bytes) : Dig := H (leafIn r)
def upM (ds : List Dig) : Dig := H (upIn ds)
def group (l : List Dig) (i : Nat) : List Dig := (l.drop (4 * i)).take 4
def up4 (n : Nat) : Nat := (n + 3) / 4
def aboveM (l : List Dig) : List Dig := (List.range (up4 l.length)).map fun i => upM H (group l i)
def levelsM (l : List Dig) : List (List Dig) := if h : 1 < l.length then l :: levelsM (aboveM H l) else [l]
termination_by l.length
decreasing_by simp [aboveM, up4]; omega
def insM (l : List Dig) : List Bytes := if h : 1 < l.length then (List.range (up4 l.length)).map (fun i => upIn (group l i)) ++ insM (aboveM H l) else []
termination_by l.length
decreasing_by simp [aboveM, up4]; omega
def setM : List (List Dig) → Nat → Dig → List (List Dig)
  | [], _, _ => []
  | [l], i, d => [l.set i d]
  | l :: l' :: ls, i, d => l.set i d :: setM (l' :: ls) (i / 4) (upM H (group (l.set i d) (i / 4)))
def setIns : List (List Dig) → Nat → Dig → List Bytes
  | [], _, _ => []
  | [_], _, _ => []
  | l :: l' :: ls, i, d => upIn (group (l.set i d) (i / 4)) :: setIns (l' :: ls) (i / 4) (upM H (group (l.set i d) (i / 4)))
def depthM (n : Nat) : Nat := if h : 1 < n then 1 + depthM (up4 n) else 1
termination_by n
decreasing_by simp [up4]; omega
end
variable {H : Bytes → Dig}
theorem up4_lt {n : Nat} (h : 1 < n) : up4 n < n := by unfold up4; omega
theorem up4_pos {n : Nat} (h : 0 < n) : 0 < up4 n := by unfold up4; omega
@[simp] theorem aboveM_length (l : List Dig) : (aboveM H l).length = up4 l.length := by simp [aboveM]
theorem aboveM_get (l : List Dig) (i : Nat) (h : i < (aboveM H l).length) : (aboveM H l)[i] = upM H (group l i) := by simp [aboveM]
theorem levelsM_one {l : List Dig} (h : l.length ≤ 1) : levelsM H l = [l] := by rw [levelsM]; simp; omega
theorem levelsM_more {l : List Dig} (h : 1 < l.length) : levelsM H l = l :: levelsM H (aboveM H l) := by rw [levelsM]; simp [h]
theorem insM_one {l : List Dig} (h : l.length ≤ 1) : insM H l = [] := by rw [insM]; simp; omega
theorem insM_more {l : List Dig} (h : 1 < l.length) : insM H l = (List.range (up4 l.length)).map (fun i => upIn (group l i)) ++ insM H (aboveM H l) := by rw [insM]; simp [h]
theorem levelsM_ne (l : List Dig) : levelsM H l ≠ [] := by rw [levelsM]; split <;> simp
theorem group_length (l : List Dig) (i : Nat) : (group l i).length = min 4 (l.length - 4 * i) := by simp [group]
theorem group_get (l : List Dig) (i j : Nat) (h : j < (group l i).length) : (group l i)[j] = l[4 * i + j]'(by rw [group_length] at h; omega) := by simp [group]
theorem group_set_ne {l : List Dig} {i k : Nat} {d : Dig} (h : k ≠ i / 4) : group (l.set i d) k = group l k := by
  unfold group; apply List.ext_getElem?; intro j; simp only [List.getElem?_take, List.getElem?_drop, List.getElem?_set]
  by_cases hj : j < 4
  · rw [if_pos hj, if_pos hj, if_neg (by omega)]
  · rw [if_neg hj, if_neg hj]
theorem aboveM_set {l : List Dig} {i : Nat} {d : Dig} (hi : i < l.length) : aboveM H (l.set i d) = (aboveM H l).set (i / 4) (upM H (group (l.set i d) (i / 4))) := by
  apply List.ext_getElem
  · simp
  intro k h1 h2; rw [aboveM_get, List.getElem_set]
  by_cases hk : k = i / 4
  · subst hk; simp
  · rw [if_neg (fun e => hk e.symm), aboveM_get, group_set_ne hk]
theorem levelsM_set (n : Nat) : ∀ {l : List Dig} {i : Nat} {d : Dig}, l.length = n → i < l.length → levelsM H (l.set i d) = setM H (levelsM H l) i d := by
  induction n using Nat.strongRecOn with
  | _ n ih =>
    intro l i d hn hi
    by_cases h : 1 < l.length
    · rw [levelsM_more (l := l.set i d) (by simpa using h), levelsM_more h, aboveM_set hi]
      have h2 := ih (up4 l.length) (by rw [← hn]; exact up4_lt h) (l := aboveM H l) (i := i / 4) (d := upM H (group (l.set i d) (i / 4))) (by simp) (by simp [up4]; omega); rw [h2]; obtain ⟨a, r, e⟩ := List.exists_cons_of_ne_nil (levelsM_ne (H := H) (aboveM H l)); rw [e]
      rfl
    · rw [levelsM_one (l := l.set i d) (by simp; omega), levelsM_one (by omega)]
      rfl
theorem setIns_sub (n : Nat) : ∀ {l : List Dig} {i : Nat} {d : Dig}, l.length = n → i < l.length → ∀ r ∈ setIns H (levelsM H l) i d, r ∈ insM H (l.set i d) := by
  induction n using Nat.strongRecOn with
  | _ n ih =>
    intro l i d hn hi r hr
    by_cases h : 1 < l.length
    · rw [levelsM_more h] at hr
      obtain ⟨a, q, e⟩ := List.exists_cons_of_ne_nil (levelsM_ne (H := H) (aboveM H l)); rw [insM_more (by simpa using h)]; rw [e] at hr; simp only [setIns, List.mem_cons] at hr; rcases hr with rfl | hr
      · refine List.mem_append.2 (.inl (List.mem_map.2 ⟨i / 4, ?_, rfl⟩))
        simp [up4]; omega
      · refine List.mem_append.2 (.inr ?_)
        rw [aboveM_set hi]; refine ih (up4 l.length) (by rw [← hn]; exact up4_lt h) (by simp) (by simp [up4]; omega) r ?_; rw [e]; exact hr
    · rw [levelsM_one (by omega)] at hr
      simp [setIns] at hr
theorem insM_set (n : Nat) : ∀ {l : List Dig} {i : Nat} {d : Dig}, l.length = n → i < l.length → ∀ r ∈ insM H (l.set i d), r ∈ setIns H (levelsM H l) i d ∨ r ∈ insM H l := by
  induction n using Nat.strongRecOn with
  | _ n ih =>
    intro l i d hn hi r hr
    by_cases h : 1 < l.length
    · rw [insM_more (by simpa using h)] at hr
      rw [levelsM_more h, insM_more h]; obtain ⟨a, q, e⟩ := List.exists_cons_of_ne_nil (levelsM_ne (H := H) (aboveM H l)); rcases List.mem_append.1 hr with hr | hr
      · obtain ⟨k, hk, rfl⟩ := List.mem_map.1 hr
        by_cases hki : k = i / 4
        · subst hki
          left; rw [e]; simp [setIns]
        · right
          rw [group_set_ne hki]; exact List.mem_append.2 (.inl (List.mem_map.2 ⟨k, by simpa using hk, rfl⟩))
      · rw [aboveM_set hi] at hr
        rcases ih (up4 l.length) (by rw [← hn]; exact up4_lt h) (by simp) (by simp [up4]; omega) r hr with h2 | h2
        · left
          rw [e] at h2 ⊢; simp only [setIns, List.mem_cons]; exact .inr h2
        · exact .inr (List.mem_append.2 (.inr h2))
    · rw [insM_one (by simp; omega)] at hr
      simp at hr
theorem levelsM_depth (n : Nat) : ∀ {l : List Dig}, l.length = n → (levelsM H l).length = depthM n := by
  induction n using Nat.strongRecOn with
  | _ n ih =>
    intro l hn
    by_cases h : 1 < n
    · rw [levelsM_more (by omega), depthM, dif_pos h, List.length_cons, ih (up4 n) (up4_lt h) (by simp [hn])]; omega
    · rw [levelsM_one (by omega), depthM, dif_neg h]; rfl
theorem levelsM_last (n : Nat) : ∀ {l : List Dig}, l.length = n → 0 < n → ∃ r, (levelsM H l).getLast? = some [r] := by
  induction n using Nat.strongRecOn with
  | _ n ih =>
    intro l hn h0
    by_cases h : 1 < n
    · obtain ⟨r, hr⟩ := ih (up4 n) (up4_lt h) (l := aboveM H l) (by simp [hn]) (up4_pos h0)
      refine ⟨r, ?_⟩; rw [levelsM_more (by omega)]; obtain ⟨a, q, e⟩ := List.exists_cons_of_ne_nil (levelsM_ne (H := H) (aboveM H l)); rw [e] at hr ⊢; simpa using hr
    · rw [levelsM_one (by omega)]
      match l, hn with
      | [r], _ => exact ⟨r, rfl⟩
      | [], hn => simp at hn; omega
      | _ :: _ :: _, hn => simp at hn; omega
def rootM (H : Bytes → Dig) (l : List Dig) : Dig := (((levelsM H l).getLast?.getD []).head?).getD dig0
theorem rootM_last {l : List Dig} (h : l ≠ []) : (levelsM H l).getLast? = some [rootM H l] := by
  obtain ⟨r, hr⟩ := levelsM_last (H := H) l.length rfl (List.length_pos_iff.2 h); simp [rootM, hr]
theorem flat_inj : ∀ {a b : List Dig}, a.flatMap (fun d => d.1) = b.flatMap (fun d => d.1) → a = b
  | [], [], _ => rfl
  | [], e :: b, h => by
    have := congrArg List.length h; rw [List.flatMap_cons, List.length_append, e.2] at this; simp at this; omega
  | d :: a, [], h => by
    have := congrArg List.length h; rw [List.flatMap_cons, List.length_append, d.2] at this; simp at this
  | d :: a, e :: b, h => by
    simp only [List.flatMap_cons] at h; have h2 := List.append_inj h (by rw [d.2, e.2]); rw [Subtype.ext h2.1, flat_inj h2.2]
theorem upIn_inj {a b : List Dig} (h : upIn a = upIn b) : a = b := flat_inj (List.cons.inj h).2
theorem leafIn_inj {a b : Bytes} (h : leafIn a = leafIn b) : a = b := (List.cons.inj h).2
def noteM (L : List Bytes) (r : Bytes) : List Bytes := if r ∈ L then L else L ++ [r]
def notesM (L : List Bytes) (l : List Bytes) : List Bytes := l.foldl noteM L
theorem mem_noteM {L : List Bytes} {r x : Bytes} : x ∈ noteM L r ↔ x ∈ L ∨ x = r := by
  unfold noteM
  split
  · rename_i h
    constructor
    · exact .inl
    · rintro (h2 | rfl)
      · exact h2
      · exact h
  · simp
theorem mem_notesM {l : List Bytes} : ∀ {L : List Bytes} {x : Bytes}, x ∈ notesM L l ↔ x ∈ L ∨ x ∈ l := by
  induction l with
  | nil => intro L x; simp [notesM]
  | cons r l ih =>
    intro L x; rw [notesM, List.foldl_cons, ← notesM, ih, mem_noteM]; simp [or_assoc]
theorem noteM_nodup {L : List Bytes} (r : Bytes) (h : L.Nodup) : (noteM L r).Nodup := by
  unfold noteM
  split
  · exact h
  · rename_i hr
    rw [List.nodup_append]; exact ⟨h, by simp, by rintro a ha b hb rfl; simp at hb; subst hb; exact hr ha⟩
theorem notesM_append (L a b : List Bytes) : notesM L (a ++ b) = notesM (notesM L a) b := by simp [notesM]
theorem noteM_mem {L : List Bytes} {r : Bytes} (h : r ∈ L) : noteM L r = L := by simp [noteM, h]
end Go.Proofs.YtepjbijhkkjbfaaGreat
namespace Go.Proofs.YtepjbijhkkjbfaaGreat
section
variable {P : Program} {ops : Array Oper} {S : World → Prop}
def ordB (ops : Array Oper) : List (Nat × Bool) → Array Bool → Bool
  | [], listed => (Region.ready .any ops listed).isEmpty
  | (i, true) :: l, listed => (Region.ready .any ops listed).contains i && Region.free .any ops listed i && ordB ops l (listed.setIfInBounds i true)
  | (i, false) :: l, listed => decide (Region.ready .any ops listed = [i]) && ordB ops l (listed.setIfInBounds i true)
def ordOps (ops : List Oper) : List (Nat × Bool) → List (Oper × Bool)
  | [] => []
  | (i, b) :: l => (ops.getD i default, b) :: ordOps ops l
def HeldAt (P : Program) (S : World → Prop) (o : Oper) (a : Act) (v : Value) : Prop := ∀ w, S w → (execOp a.eval o).run P w = .ok (.value v) w
def wpOrd (P : Program) (ops : Array Oper) (S : World → Prop) (Q : Act → World → Prop) : List (Oper × Bool) → Act → World → Prop
  | [], a, w => Q a w
  | (o, true) :: l, a, w => if Region.wanted o (yielded ops a.tmps) then ∃ v, HeldAt P S o a v ∧ wpOrd P ops S Q l (a.put o.dst v) w else wpOrd P ops S Q l (a.put o.dst undef) w
  | (o, false) :: l, a, w => if Region.wanted o (yielded ops a.tmps) then o.wp P a w (fun a' w' => S w' ∧ wpOrd P ops S Q l a' w') (fun _ _ _ => False) else wpOrd P ops S Q l (a.put o.dst undef) w
section
variable {Q : Act → World → Prop} {a : Act} {w : World} {l : List (Oper × Bool)} {o : Oper}
theorem wpOrd_nil (h : Q a w) : wpOrd P ops S Q [] a w := h
theorem wpOrd_held (h : ∀ K : Act → Prop, (∀ a, wpOrd P ops S Q l a w → K a) → if Region.wanted o (yielded ops a.tmps) then ∃ v, HeldAt P S o a v ∧ K (a.put o.dst v) else K (a.put o.dst undef)) : wpOrd P ops S Q ((o, true) :: l) a w :=
  h _ (fun _ h => h)
theorem wpOrd_step (h : ∀ K : Act → World → Prop, (∀ a w, S w → wpOrd P ops S Q l a w → K a w) → if Region.wanted o (yielded ops a.tmps) then o.wp P a w K (fun _ _ _ => False) else K (a.put o.dst undef) w) (hS : S w) : wpOrd P ops S Q ((o, false) :: l) a w := by
  have := h (fun a w => S w ∧ wpOrd P ops S Q l a w) (fun _ _ h1 h2 => ⟨h1, h2⟩); unfold wpOrd
  split
  · rename_i hw; rw [if_pos hw] at this; exact this
  · rename_i hw; rw [if_neg hw] at this; exact this.2
end
def Norm (Q : Exit → Act → World → Prop) : Exit → Act → World → Prop
  | .normal, a, w => Q .normal a w
  | _, _, _ => False
theorem Oper.wp_weaken {o : Oper} {a : Act} {w : World} {K : Act → World → Prop} {Q : Exit → Act → World → Prop} (h : o.wp P a w K (fun _ _ _ => False)) : o.wp P a w K (Norm Q) := by
  unfold Oper.wp at *; generalize (execOp a.eval o).run P w = r at *; cases r with
  | ok n w' =>
    cases n <;> simp only [Oper.upon] at h ⊢ <;>
      first
        | exact h
        | exact Calls.mono h (fun e w'' he => by
            cases e with
            | returned v => exact he
            | panicked c => exact he.elim
            | outgrown => obtain ⟨_, _, hf⟩ := he; exact hf.elim)
        | exact Rows.mono h (fun _ _ he => he)
  | halt x w' => cases x <;> simp only [Oper.upon] at h
theorem wpAnyH_of_ord {Q : Exit → Act → World → Prop} (hsel : Region.noSelect ops = true) :
    ∀ (idx : List (Nat × Bool)) (listed : Array Bool) (a : Act) (w : World), S w → ordB ops idx listed = true →
      wpOrd P ops S (fun a w => Q .normal a w) (ordOps ops.toList idx) a w → wpAnyH P .any ops (Norm Q) S idx.length listed a w
  | [], listed, a, w, hS, hB, h => ⟨by simpa [ordB] using hB, h⟩
  | (i, true) :: idx, listed, a, w, hS, hB, h => by
    simp only [ordB, Bool.and_eq_true] at hB; obtain ⟨⟨hr, hf⟩, hB⟩ := hB; have hr' : i ∈ Region.ready .any ops listed := by simpa using hr
    obtain ⟨_, o, ho, _⟩ := mem_ready.1 hr'; have hod : ops.toList.getD i default = o := by simp [List.getD, ho]
    simp only [ordOps, hod, wpOrd] at h
    by_cases hw : Region.wanted o (yielded ops a.tmps) = true
    · simp only [hw, if_true] at h
      obtain ⟨v, hv, hk⟩ := h; exact wpAnyH_take ho hsel hf hr (fun _ _ _ h => h.elim) (.inl ⟨hw, hv⟩) hS (wpAnyH_of_ord hsel idx _ _ _ hS hB hk)
    · simp only [hw] at h
      exact wpAnyH_take (v := undef) ho hsel hf hr (fun _ _ _ h => h.elim) (.inr ⟨by simpa using hw, rfl⟩) hS (wpAnyH_of_ord hsel idx _ _ _ hS hB h)
  | (i, false) :: idx, listed, a, w, hS, hB, h => by
    simp only [ordB, Bool.and_eq_true, decide_eq_true_eq] at hB; obtain ⟨hr, hB⟩ := hB; have hr' : i ∈ Region.ready .any ops listed := by rw [hr]; simp
    obtain ⟨_, o, ho, _⟩ := mem_ready.1 hr'; have hod : ops.toList.getD i default = o := by simp [List.getD, ho]
    simp only [ordOps, hod, wpOrd] at h; refine wpAnyH_all (rs := [i]) hr (by simp) fun j hj => ?_; obtain rfl : j = i := by simpa using hj
    unfold wpOp; simp only [ho]
    by_cases hw : Region.wanted o (yielded ops a.tmps) = true
    · simp only [hw, if_true] at h ⊢
      refine .inl (Oper.wp_weaken (Oper.wp_mono (fun a' w' h' => ⟨h'.1, ?_⟩) h)); exact wpAnyH_of_ord hsel idx _ _ _ h'.1 hB h'.2
    · simp only [hw] at h ⊢
      exact ⟨hS, wpAnyH_of_ord hsel idx _ _ _ hS hB h⟩
theorem Norm.le {Q : Exit → Act → World → Prop} : ∀ (e : Exit) (a : Act) (w : World), Norm Q e a w → Q e a w := fun e a w h => by
  cases e <;> first | exact h | exact (h : False).elim
theorem wp_region_ord {id : Nat} {Q : Exit → Act → World → Prop} {a : Act} {w : World} {l : List Oper} (idx : List (Nat × Bool)) (hm : P.follows .mixedOrders = true)
    (hB : (Region.noSelect l.toArray && decide (idx.length = l.length) && ordB l.toArray idx (Array.replicate l.length false)) = true) (S : World → Prop) (hS : S w.drew)
    (h : wpOrd P l.toArray S (fun a w => Q .normal a w) (ordOps l idx) a w.drew) : (Code.region id l.toArray true).wp P Q a w := by
  simp only [Bool.and_eq_true, decide_eq_true_eq] at hB; obtain ⟨⟨hsel, hl⟩, hB⟩ := hB; have H := wpAnyH_of_ord (P := P) (S := S) (Q := Q) hsel idx (Array.replicate l.length false) a w.drew hS hB (by simpa using h); rw [hl] at H; exact Code.wp_mono Norm.le (wp_region_held (S := S) hm (by simpa using H))
end
end Go.Proofs.YtepjbijhkkjbfaaGreat
namespace Go.Proofs.YtepjbijhkkjbfaaGreat
open Go.RowKit
theorem once_disable (w : World) : (callFunc 106 #[]).run Tryz.prog w = .ok (.value (.tuple #[])) w := run_call_mark0 Tryz.func106 (by kernel_rfl) (by kernel_rfl) (by kernel_rfl) .disable (by kernel_rfl) w
theorem once_enable (w : World) : (callFunc 108 #[]).run Tryz.prog w = .ok (.value (.tuple #[])) w := run_call_mark0 Tryz.func108 (by kernel_rfl) (by kernel_rfl) (by kernel_rfl) .enable (by kernel_rfl) w
theorem once_acquire (a : Addr) (w : World) : (callFunc 109 #[.pointer (some a)]).run Tryz.prog w = .ok (.value (.tuple #[])) w := run_call_marked Tryz.func109 (by kernel_rfl) (by kernel_rfl) (by kernel_rfl) .acquire (by kernel_rfl) a w
theorem once_release (a : Addr) (w : World) : (callFunc 111 #[.pointer (some a)]).run Tryz.prog w = .ok (.value (.tuple #[])) w := run_call_marked Tryz.func111 (by kernel_rfl) (by kernel_rfl) (by kernel_rfl) .releaseMerge (by kernel_rfl) a w
theorem store_deferred (a : Addr) (x : Value) (u : FrameMode) (w : World) (hc : w.cell? a = some x) (hz : w.frozen? a = false) :
    CallsD Tryz.prog 94 #[.pointer (some a), .bool true] u w fun e u' w' => u' = u ∧ (e = .returned (.tuple #[]) ∧ w' = w.drew.setCell a (.int .u32 1)) := by
  have hc' : w.drew.cell? a = some x := by go_simp
  have hz' : w.drew.frozen? a = false := by go_simp
  have hst := run_call_store (P := Tryz.prog) Tryz.func103 (by kernel_rfl) (by kernel_rfl) (by kernel_rfl) (by kernel_rfl) (k := .u32) (y := 1) hc' hz'
  go_enter_d Tryz.func94, Tryz.ntmps94
  go_wp2
  go_region_calls
  all_goals (go_end0; exact ⟨rfl, rfl⟩)
set_option maxRecDepth 100000 in
theorem unlock_deferred (a : Addr) (u : FrameMode) (w : World) (hc : w.cell? a = some (.int .i32 1)) (hz : w.frozen? a = false) :
    CallsD Tryz.prog 93 #[.pointer (some a)] u w fun e u' w' => u' = u ∧ (e = .returned (.tuple #[]) ∧ w' = w.setCell a (.int .i32 0)) := by
  have hd := once_disable; have he := once_enable; have hr := once_release; have hadd := run_call_add (P := Tryz.prog) Tryz.func112 (by kernel_rfl) (by kernel_rfl) (by kernel_rfl) .i32 (by kernel_rfl) (y := -1) (s := 0) hc hz (by simp [go_sem]; rfl); have hcv := run_convert_to_unsafe (P := Tryz.prog) (src := 182) (dst := 186) Tryz.underlying182 Tryz.underlying186 (by kernel_rfl) hc
  go_enter_d Tryz.func93, Tryz.ntmps93
  go_wp2
  go_end0
  go_wp2
  go_end0
  exact ⟨rfl, rfl⟩
theorem bool_load (b o : Nat) (x : Int) (w : World) (hc : w.cell? ⟨b, o, none⟩ = some (.int .u32 x)) : Calls Tryz.prog 82 #[.pointer (some ⟨b, o, none⟩)] w fun e w' => e = .returned (.bool (decide (x ≠ 0))) ∧ w = w' := by
  have hl := run_call_load (P := Tryz.prog) Tryz.func91 (by kernel_rfl) (by kernel_rfl) (by kernel_rfl) .u32 (by kernel_rfl) hc
  by_cases h0 : x = 0
  · subst h0
    go_enter Tryz.func82, Tryz.ntmps82
    go_wp2
    go_ret
    exact ⟨rfl, rfl⟩
  · have h1 : (x != 0) = true := by simp [h0]
    have HD : Hid (decide (x ≠ 0) = true) := by show _ = _; simp [h0]
    rw [HD.out]
    go_enter Tryz.func82, Tryz.ntmps82
    go_wp2
    go_ret
    exact ⟨rfl, rfl⟩
set_option maxRecDepth 100000 in
theorem lock_free (a : Addr) (w : World) (hc : w.cell? a = some (.int .i32 0)) (hz : w.frozen? a = false) :
    Calls Tryz.prog 92 #[.pointer (some a)] w fun e w' => e = .returned (.tuple #[]) ∧ w' = w.setCell a (.int .i32 1) := by
  have hd := once_disable; have he := once_enable; have ha := once_acquire; have hcas := run_call_cas_hit (P := Tryz.prog) Tryz.func107 (by kernel_rfl) (by kernel_rfl) (by kernel_rfl) .i32 (by kernel_rfl) (y := 1) hc hz; have hc' : (w.setCell a (.int .i32 1)).cell? a = some (.int .i32 1) := World.cell?_setCell_same w a _ hc; have hcv := run_convert_to_unsafe (P := Tryz.prog) (src := 182) (dst := 186) Tryz.underlying182 Tryz.underlying186 (by kernel_rfl) hc'
  go_enter Tryz.func92, Tryz.ntmps92
  go_wp2
  first | go_end0 | (simp only [Exit.inBlock, Exit.then]; refine bodyPost_ret (results_none rfl _ _ _) rfl ?_) | refine bodyPost_ret (results_none rfl _ _ _) rfl ?_
  go_wp2
  go_end0
  exact ⟨rfl, rfl⟩
set_option maxRecDepth 100000 in
set_option maxHeartbeats 1600000 in
theorem slow_hash {w : World} {b off : Nat} {pl : Addr} {Q : World → Prop}
    (h0 : w.cell? ⟨b, off, none⟩ = some (.int .u32 0)) (h1 : w.cell? ⟨b, off + 1, none⟩ = some (.int .i32 0)) (f1 : w.frozen? ⟨b, off + 1, none⟩ = false)
    (hf : Calls Tryz.prog 87 #[.pointer (some pl)] (w.setCell ⟨b, off + 1, none⟩ (.int .i32 1)) fun e W => e = .returned (.tuple #[]) ∧ Q W)
    (hq : ∀ W, Q W → W.cell? ⟨b, off, none⟩ = some (.int .u32 0) ∧ W.cell? ⟨b, off + 1, none⟩ = some (.int .i32 1) ∧ W.frozen? ⟨b, off, none⟩ = false ∧ W.frozen? ⟨b, off + 1, none⟩ = false) :
    Calls Tryz.prog 83 #[.pointer (some ⟨b, off, none⟩), .func (.func 87) #[] #[.pointer (some pl)]] w fun e w' => e = .returned (.tuple #[]) ∧ ∃ W, Q W ∧ (W.drew.setCell ⟨b, off, none⟩ (.int .u32 1)).setCell ⟨b, off + 1, none⟩ (.int .i32 0) = w' := by
  have hl : (w.setCell ⟨b, off + 1, none⟩ (.int .i32 1)).cell? ⟨b, off, none⟩ = some (.int .u32 0) := (World.cell?_setCell_other _ ⟨b, off + 1, none⟩ ⟨b, off, none⟩ _ (by simp)).trans h0; have hnot : ∀ (x : Bool) (w : World), (Op.unary .not (.bool x)).run Tryz.prog w = .ok (.bool (!x)) w := fun _ _ => rfl; have HF := Lib.hid hf; have HQ := Lib.hid hq; clear hf hq
  go_enter_defers Tryz.func83, Tryz.ntmps83
  go_wp2_with fail; refine (lock_free ⟨b, off + 1, none⟩ _ h1 f1).mono ?_; rintro e w' ⟨rfl, rfl⟩; generalize w.setCell ⟨b, off + 1, none⟩ (.int .i32 1) = W1 at *; go_wp2_with fail; refine (bool_load _ _ _ _ hl).mono ?_; rintro e w' ⟨rfl, rfl⟩; go_wp2_with fail; refine HF.out.mono ?_; rintro e W ⟨rfl, hW⟩; obtain ⟨q0, q1, q2, q3⟩ := HQ.out W hW; have HW := Lib.hid hW; clear hW; go_wp2_with fail; refine leaves_cons (f := 94) (args := #[.pointer (some ⟨b, off, none⟩), .bool true]) (by simp) (by simp [go_sem]) ?_; refine (store_deferred ⟨b, off, none⟩ (.int .u32 0) .returning _ q0 (by simp [q2])).mono ?_; rintro e u' w'' ⟨rfl, rfl, rfl⟩; refine leaves_cons (f := 93) (args := #[.pointer (some ⟨b, off + 1, none⟩)]) (by simp [settle]) (by simp [go_sem]) ?_; refine (unlock_deferred ⟨b, off + 1, none⟩ _ _ ?_ (by simp [q3])).mono ?_
  · refine (World.cell?_setCell_other _ ⟨b, off, none⟩ ⟨b, off + 1, none⟩ _ (by simp)).trans ?_
    rw [World.cell?_drew]; exact q1
  rintro e u' w'' ⟨rfl, rfl, rfl⟩; simp only [Leaves, settle, results, Tryz.results83]; exact ⟨.tuple #[], by simp, rfl, W, HW.out, rfl⟩
theorem do_hash {w : World} {b off : Nat} {pl : Addr} {Q : World → Prop}
    (h0 : w.cell? ⟨b, off, none⟩ = some (.int .u32 0)) (h1 : w.cell? ⟨b, off + 1, none⟩ = some (.int .i32 0)) (f1 : w.frozen? ⟨b, off + 1, none⟩ = false)
    (hf : Calls Tryz.prog 87 #[.pointer (some pl)] (w.setCell ⟨b, off + 1, none⟩ (.int .i32 1)) fun e W => e = .returned (.tuple #[]) ∧ Q W)
    (hq : ∀ W, Q W → W.cell? ⟨b, off, none⟩ = some (.int .u32 0) ∧ W.cell? ⟨b, off + 1, none⟩ = some (.int .i32 1) ∧ W.frozen? ⟨b, off, none⟩ = false ∧ W.frozen? ⟨b, off + 1, none⟩ = false) :
    Calls Tryz.prog 75 #[.pointer (some ⟨b, off, none⟩), .func (.func 87) #[] #[.pointer (some pl)]] w fun e w' => e = .returned (.tuple #[]) ∧ ∃ W, Q W ∧ (W.drew.setCell ⟨b, off, none⟩ (.int .u32 1)).setCell ⟨b, off + 1, none⟩ (.int .i32 0) = w' := by
  have hnot : ∀ (x : Bool) (w : World), (Op.unary .not (.bool x)).run Tryz.prog w = .ok (.bool (!x)) w := fun _ _ => rfl; have HS := Lib.hid (slow_hash h0 h1 f1 hf hq); have HL := Lib.hid (bool_load _ _ _ _ h0); clear h0 h1 f1 hf hq
  go_enter Tryz.func75, Tryz.ntmps75
  go_wp2_with fail; refine HL.out.mono ?_; rintro e w' ⟨rfl, rfl⟩; go_wp2_with fail; refine HS.out.mono ?_; rintro e w' ⟨rfl, W, hW, rfl⟩; have HW := Lib.hid hW; clear hW HS HL; generalize hE : (W.drew.setCell ⟨b, off, none⟩ (.int .u32 1)).setCell ⟨b, off + 1, none⟩ (.int .i32 0) = w2 at *; have HE := Lib.hid hE; clear hE; go_wp2
  go_end0
  exact ⟨rfl, W, HW.out, HE.out⟩
theorem do_done (b off : Nat) (fv : Value) (w : World) (h0 : w.cell? ⟨b, off, none⟩ = some (.int .u32 1)) :
    Calls Tryz.prog 75 #[.pointer (some ⟨b, off, none⟩), fv] w fun e w' => e = .returned (.tuple #[]) ∧ w = w' := by
  have hnot : ∀ (x : Bool) (w : World), (Op.unary .not (.bool x)).run Tryz.prog w = .ok (.bool (!x)) w := fun _ _ => rfl; have HL := Lib.hid (bool_load _ _ _ _ h0); clear h0
  go_enter Tryz.func75, Tryz.ntmps75
  go_wp2_with fail; refine HL.out.mono ?_; rintro e w' ⟨rfl, rfl⟩; go_wp2
  go_end0
  exact ⟨rfl, rfl⟩
end Go.Proofs.YtepjbijhkkjbfaaGreat
namespace Go.Proofs.YtepjbijhkkjbfaaGreat
open Go.ChangeShapes Go.WideShapes Go.ChangeAt Go.RowKit
theorem own_knob : ownKnob Tryz.prog.godebug = none := by kernel_rfl
theorem laid_out : laidOutB Tryz.prog = true := by kernel_rfl
section
variable {H : Type} {enc : TypeId × Value → H}
theorem trodAll_below {P : Program} (hl : laidOutB P = true) {W W' : World} (hb : Below W.heap.size W W') : ∀ {ts : List TypeId} {vs : List Value} {ds : List (DataW H)} {ps : List MemPlace},
    (∀ t ∈ ts, P.readableRec t = true ∧ t < P.types.size) → DataW.TrodAll enc P W 0 (fun _ => true) true ts vs ds ps → (∀ x ∈ ps, x.block < W.heap.size) →
    DataW.TrodAll enc P W' 0 (fun b => decide (b < W.heap.size)) true ts vs ds ps
  | [], _, _, _, _, h, _ => by
    obtain ⟨rfl, rfl, rfl⟩ := trodAll_nil h; exact trodAll_mk0
  | t :: ts, _, _, _, hr, h, hlt => by
    obtain ⟨v, vs', d, ds', p, q, rfl, rfl, rfl, h1, h2⟩ := trodAll_cons h; exact trodAll_cons_mk (Below.trod hl (hr t (by simp)).1 (hr t (by simp)).2 h1 hb fun x hx => hlt x (by simp [hx])) (trodAll_below hl hb (fun t ht => hr t (by simp [ht])) h2 fun x hx => hlt x (by simp [hx]))
theorem law_post {f : Func} {s : ChangeSpec} {W W' : World} {args : Array Value} {ds : List (DataW H)} {before : List MemPlace} (hW : DataW.Whole enc Tryz.prog f.params.toList s.vars false W args.toList ds [] before)
    (hv : s.vars = []) (hres : f.resultTypes = #[4]) (hr : ∀ t ∈ f.params.toList, Tryz.prog.readableRec t = true ∧ t < Tryz.prog.types.size)
    (hfn : s.fn H (ds ++ []) = { results := [.lit (.bool true)], args := ds }) (hk : Kept W W') : s.post enc Tryz.prog f false true false false W args (.bool true) W' := by
  have hlt : ∀ p ∈ before, p.block < W.heap.size := fun p hp => hW.lt p hp; have hW' := hW; obtain ⟨p, q, hA, hV, rfl, hz, hn⟩ := hW'; rw [hv] at hV; obtain ⟨_, rfl⟩ := trodVars_none hV; simp only [List.append_nil] at hW hlt; refine ⟨ds, [], p, [], p, [], hW, ?_, ?_, ?_, hk.below.frame _, fun h => by cases h⟩
  · rw [hfn, hres]
    exact trodAll_cons_mk (shut_bool Tryz.underlying4 true) trodAll_mk0
  · rw [hfn]
    exact trodAll_below laid_out hk.below hr hA hlt
  · rw [hfn, hv]
    rfl
theorem ok_agg {P : Program} {W : World} {base : Nat} {t : TypeId} {v : Value} (ht : (match P.underlying t with | some (.struct _) | some (.array _ _) => true | _ => false) = true) (h : Value.okWide P W .any base t v) : ∃ cs, v = .agg cs ∧ cs.size = P.cellsOf t := by
  unfold Value.okWide at h
  split at h
  · obtain ⟨cs, h1, h2, _⟩ := h; exact ⟨cs, h1, h2⟩
  · obtain ⟨cs, h1, h2, _⟩ := h; exact ⟨cs, h1, h2⟩
  · rename_i h1 h2
    split at ht
    · rename_i fs he; exact (h1 _ he).elim
    · rename_i n e he; exact (h2 _ _ he).elim
    · cases ht
set_option maxRecDepth 100000 in
theorem law_lifted (os : Os) (started : os.Started) {k : FuncId} {f : Func} (hf : Tryz.prog.funcs[k]? = some f) (hno : Tryz.prog.inits.idxOf? k = none) {s : ChangeSpec} (hv : s.vars = [])
    (hres : f.resultTypes = #[4]) (hr0 : (f.params.toList.all fun t => Tryz.prog.readableRec t && decide (t < Tryz.prog.types.size)) = true)
    (hfn : ∀ ds : List (DataW H), ds.length = f.params.size → s.fn H (ds ++ []) = { results := [.lit (.bool true)], args := ds })
    (witness : ∃ (w : World) (tape : Tape) (i : Input), w.os = os ∧ (w.forCall tape i).Shaped Tryz.checked.prog ∧ i.vars = [] ∧ Input.okWide Tryz.checked.prog (w.forCall tape i) .any w.heap.size k i ∧
      s.pre6 enc Tryz.checked.prog f [] false (w.forCall tape i).memory i.args ∧ ({} : Assume).holds Tryz.checked.prog (lone (Frame.enter Tryz.checked.prog k i.args .normal) [] (w.forCall tape i)))
    (walk : ∀ (W : World) (base : Nat) (args : Array Value) (ds : List (DataW H)) (ps : List MemPlace),
      (∀ (j : Nat) t v, f.params[j]? = some t → args[j]? = some v → Value.okWide Tryz.prog W .any base t v) →
      DataW.TrodAll enc Tryz.prog W 0 (fun _ => true) true f.params.toList args.toList ds ps →
      (DataW.weightsEach Tryz.prog f.params.toList ds).all (· ≤ reachBytes) = true →
      Calls Tryz.prog k args W fun e W' => e = .returned (.bool true) ∧ Kept W W') :
    ReturnsInHanded {} Tryz.checked os k .any (s.pre6 enc Tryz.prog f [] false) (s.post enc Tryz.prog f false true false false) := by
  have hr : ∀ t ∈ f.params.toList, Tryz.prog.readableRec t = true ∧ t < Tryz.prog.types.size := fun t ht => by
    have := List.all_eq_true.1 hr0 t ht; simpa only [Bool.and_eq_true, decide_eq_true_eq] using this
  refine returnsInHanded_of_change_sized (C := Tryz.checked) own_knob started hno hf witness ?_; intro W base args ds gs before hval hW _ hsz _; obtain ⟨p, q, hA, hV, hb, hz, hn⟩ := id hW; have hV' := hV; rw [hv] at hV'; obtain ⟨rfl, rfl⟩ := trodVars_none hV'; have hlen : ds.length = f.params.size := by
    have : ∀ (ts : List TypeId) (vs : List Value) (ds : List (DataW H)) (ps : List MemPlace), DataW.TrodAll enc Tryz.prog W 0 (fun _ => true) true ts vs ds ps → ds.length = ts.length := by
      intro ts
      induction ts with
      | nil => intro vs ds ps h; obtain ⟨_, rfl, _⟩ := trodAll_nil h; rfl
      | cons t ts ih => intro vs ds ps h; obtain ⟨v, vs', d, ds', p, q, _, rfl, _, _, h2⟩ := trodAll_cons h; simp [ih _ _ _ h2]
    simpa using this _ _ _ _ hA
  refine (walk W base args ds p hval hA ?_).mono fun e W' ⟨he, hk⟩ => ⟨_, he, law_post hW hv hres hr (hfn ds hlen) hk⟩; have hvt : s.plain.varTypes Tryz.prog = [] := by
    have : s.plain.vars = [] := hv; simp [DataSpec.varTypes, this]
  have h2 := hsz; rw [show s.plain.varTypes Tryz.checked.prog = [] from hvt, List.append_nil, List.append_nil] at h2; exact h2
end
end Go.Proofs.YtepjbijhkkjbfaaGreat
namespace Go.Proofs.YtepjbijhkkjbfaaGreat
open Go.ChangeShapes Go.WideShapes Go.ChangeAt Go.RowKit Go.Deep
section
variable {H : Type} {enc : TypeId × Value → H} {P : Program} {W : World}
theorem weightsAll_mem {e : TypeId} {n : Nat} : ∀ {l : List (DataW H)} {d : DataW H}, d ∈ l → n ∈ d.weights P e → n ∈ DataW.weightsAll P e l
  | x :: l, d, hd, hn => by
    simp only [DataW.weightsAll, List.mem_append]; rcases List.mem_cons.1 hd with rfl | hd
    · exact .inl hn
    · exact .inr (weightsAll_mem hd hn)
def ReadsAs (enc : TypeId × Value → H) (P : Program) (W : World) (t : TypeId) (cs : List Value) : Prop :=
  ∃ fuel x, DataW.trod enc P W 0 (fun _ => true) true fuel t cs = some x ∧ ∀ n ∈ x.1.weights P t, n ≤ reachBytes
theorem ReadsAs.of_trod {ts : List TypeId} {ds : List (DataW H)} (hsz : (DataW.weightsEach P ts ds).all (· ≤ reachBytes) = true) {j : Nat} {t : TypeId} {v : Value} {d : DataW H} {ps : List MemPlace} (ht : ts[j]? = some t) (hd : ds[j]? = some d)
    (h : DataW.Trod enc P W 0 (fun _ => true) true t v d ps) : ReadsAs enc P W t v.cells.toList := by
  obtain ⟨fuel, hf⟩ := h; exact ⟨fuel, _, hf, fun n hn => by simpa using List.all_eq_true.1 hsz _ (DataW.weights_mem_each ht hd n hn)⟩
theorem ReadsAs.int {t : TypeId} {k : IntKind} (ht : P.underlying t = some (.int k)) {cs : List Value} (h : ReadsAs enc P W t cs) : ∃ n, cs = [.int k n] ∧ (Lit.int k n).wf = true := by
  obtain ⟨fuel, x, h, _⟩ := h; obtain ⟨a, e0, _, wa⟩ := DataW.trod_int ht h; exact ⟨a, e0, wa⟩
theorem ReadsAs.bool {t : TypeId} (ht : P.underlying t = some .bool) {cs : List Value} (h : ReadsAs enc P W t cs) : ∃ b, cs = [.bool b] := by
  obtain ⟨fuel, x, h, _⟩ := h; cases fuel with
  | zero => simp [DataW.trod] at h
  | succ n =>
    unfold DataW.trod at h; rw [ht] at h
    split at h <;> simp_all
theorem ReadsAs.struct {t : TypeId} {fs : Array Field} (ht : P.underlying t = some (.struct fs)) {cs : List Value} (h : ReadsAs enc P W t cs) :
    cs.length = P.cellsOf t ∧ ∀ (i : Nat) (f : Field), fs[i]? = some f → ReadsAs enc P W f.type ((cs.drop f.offset).take (P.cellsOf f.type)) := by
  obtain ⟨fuel, x, h, hw⟩ := h; obtain ⟨xs, n, _, rfl, hl, hx, hf⟩ := DataW.trod_struct ht h; refine ⟨hl, fun i f hi => ?_⟩; have hlt : i < xs.length := by rw [hx]; exact (Array.getElem?_eq_some_iff.1 hi).1
  refine ⟨n, xs[i], by rw [hf i f hi]; simp [hlt], fun m hm => hw m ?_⟩; simp only [DataW.weights, ht]; exact DataW.weights_mem_each (j := i) (t := f.type) (d := xs[i].1) (by simp [hi]) (by simp [hlt]) m hm
theorem ReadsAs.array {t e : TypeId} {n : Nat} (ht : P.underlying t = some (.array n e)) (he : P.cellsOf e = 1) {cs : List Value} (h : ReadsAs enc P W t cs) :
    cs.length = P.cellsOf t ∧ ∀ i, i < n → ReadsAs enc P W e ((cs.drop i).take 1) := by
  obtain ⟨fuel, x, h, hw⟩ := h; obtain ⟨xs, m, _, rfl, hl, hx, hf⟩ := DataW.trod_array ht h; refine ⟨hl, fun i hi => ?_⟩; have hlt : i < xs.length := by omega
  have h1 := hf i hi; rw [he, Nat.mul_one] at h1; refine ⟨m, xs[i], by rw [h1]; simp [hlt], fun k hk => hw k ?_⟩; simp only [DataW.weights, ht]; exact weightsAll_mem (List.mem_map.2 ⟨xs[i], List.getElem_mem hlt, rfl⟩) hk
theorem ReadsAs.slice {t e : TypeId} {n : Nat} (ht : P.underlying t = some (.slice e)) (hn : P.cellsOf e = n) (h0 : 0 < n) {cs : List Value} (h : ReadsAs enc P W t cs) :
    ∃ A len cap, cs = [.slice A len cap] ∧ len ≤ cap ∧ len ≤ maxLen ∧ len * P.bytesOf e ≤ reachBytes ∧
      ∀ i, i < len → ∃ b off cs', A = some ⟨b, off, none⟩ ∧ cs'.length = n ∧ (∀ j, j < n → W.cell? ⟨b, off + i * n + j, none⟩ = cs'[j]?) ∧ ReadsAs enc P W e cs' := by
  obtain ⟨fuel, x, h, hw⟩ := h; rcases open_slice ht h with ⟨rfl, _⟩ | ⟨a, len, cap, m, k, D, Pl, rfl, _, hl, hm, hmm, rfl, hi⟩
  · exact ⟨none, 0, 0, rfl, Nat.le_refl _, Nat.zero_le _, by simp, fun i hi => absurd hi (Nat.not_lt_zero i)⟩
  · have hm' : m = cap := by simpa using hmm
    simp only [DataW.weights, ht] at hw; have key : ∀ i, i < len → ∃ b off cs', a = ⟨b, off, none⟩ ∧ cs'.length = n ∧ (∀ j, j < n → W.cell? ⟨b, off + i * n + j, none⟩ = cs'[j]?) ∧ ReadsAs enc P W e cs' := by
      intro i hil; obtain ⟨cs', hc, ht'⟩ := hi i (by omega); rw [hn] at hc; obtain ⟨_, hcl, hat⟩ := World.cells?_some hc; have hsp : a = ⟨a.block, a.off, none⟩ := by
        obtain ⟨cs0, hc0, _⟩ := hi 0 (by omega); rw [hn] at hc0; obtain ⟨_, hcl0, hat0⟩ := World.cells?_some hc0; have h1 := hat0 0 h0; rw [Nat.zero_mul, List.getElem?_eq_getElem (by omega)] at h1; obtain ⟨b, o, s⟩ := a; cases s with
        | none => rfl
        | some s => simp [World.cell?, Addr.add] at h1; split at h1 <;> simp_all
      refine ⟨a.block, a.off, cs', hsp, hcl, fun j hj => ?_, _, _, ht', fun q hq => hw q ?_⟩
      · have h1 := hat j hj
        rw [hsp] at h1; rw [add_none, add_none] at h1; exact h1
      · simp only [List.mem_cons, List.mem_append]
        exact .inr (.inl (weightsAll_mem (List.mem_map.2 ⟨i, List.mem_range.2 hil, rfl⟩) hq))
    refine ⟨some a, len, cap, rfl, hl, by omega, ?_, fun i hil => ?_⟩
    · have h1 := hw _ (List.mem_cons_self ..)
      simp only [List.length_map, List.length_range] at h1; exact Nat.le_trans (Nat.mul_le_mul_right _ (Nat.le_add_right _ _)) h1
    · obtain ⟨b, off, cs', rfl, h1, h2, h3⟩ := key i hil
      exact ⟨b, off, cs', rfl, h1, h2, h3⟩
end
end Go.Proofs.YtepjbijhkkjbfaaGreat
