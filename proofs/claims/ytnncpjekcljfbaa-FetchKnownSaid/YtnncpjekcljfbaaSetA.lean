/- The texts of this hand-in, merged: Map Base Agg Mild Own Cut Arr Lev Ord Fork Fork3 Once Frame Open. -/
import Derived.Test.YtnncpjekcljfbaaRows
import Derived.WalkKit
import Derived.WalkSpells
import Derived.WalkLawsBesides
import Derived.Maps.OwnSet
import Derived.StillTailTactics
import Derived.RegionTactic
import Derived.BigRegion
import Derived.Deep.QuietTactic
import Derived.BigQuiet
import Derived.StillTail
import Derived.Deep.AppendLies
import Derived.Great.BuildSlice
import Derived.ArgAppend
import Derived.Deep.AppendSrc
import Derived.Deep.Upon
import Derived.Deep.MidRow
import Derived.Laws.CopyOwn
import Derived.OrdersHeld
import Derived.Tactics
import Derived.Tactics2
import Derived.Defers
import Derived.Laws.Pointers
import Derived.Laws.LoneSync
import Derived.RegionCalls
import Derived.ChangeAlike
import Derived.Lib.Hide
import Derived.ProofKit
import Derived.OpenShut
import Derived.SizedLaws
import Derived.Deep.Slices
/- Maps of the call's own, as lists of keys and elements: what make, m[k] = v, v, ok := m[k] and len do. No program is named. -/
namespace Go.Proofs.Ytnncpjekcljfbaa
open Go.RowKit
open Go.Maps (Keyed)

/-- the element under a key; later ones are kept -/
def putL {κ : Type} [DecidableEq κ] (k : κ) (v : Value) : List (κ × Value) → List (κ × Value)
  | [] => [(k, v)]
  | (x, y) :: l => if x = k then (k, v) :: l else (x, y) :: putL k v l

def getL {κ : Type} [DecidableEq κ] (k : κ) : List (κ × Value) → Option Value
  | [] => none
  | (x, y) :: l => if x = k then some y else getL k l

/-- how keys are written as values, and that the program takes them as keys -/
structure KeyEnc (P : Program) (k : TypeId) {κ : Type} (ok : κ → Prop) (enc : κ → Value) : Prop where
  law : Keyed P k
  key : ∀ x, ok x → ∃ l, keyOf P k (enc x) = some l
  inj : ∀ x y, ok x → ok y → enc x = enc y → x = y

/-- block r is a map whose entries are L, in the order in which they came -/
def MapAt {κ : Type} (ok : κ → Prop) (enc : κ → Value) (w : World) (r : Nat) (L : List (κ × Value)) : Prop :=
  ∃ es clock, w.heap[r]? = some (.map es clock) ∧ es.toList.map (fun e => (e.key, e.val)) = L.map (fun p => (enc p.1, p.2)) ∧
    (L.map (·.1)).Nodup ∧ ∀ p ∈ L, ok p.1

section
variable {P : Program} {k : TypeId} {κ : Type} [DecidableEq κ] {ok : κ → Prop} {enc : κ → Value} {w w' : World} {r : Nat} {L : List (κ × Value)}

omit [DecidableEq κ] in
theorem MapAt.lt (h : MapAt ok enc w r L) : r < w.heap.size := by
  obtain ⟨es, c, h1, _⟩ := h
  exact (Array.getElem?_eq_some_iff.1 h1).1

omit [DecidableEq κ] in
theorem MapAt.kept (h : MapAt ok enc w r L) (hk : w'.heap[r]? = w.heap[r]?) : MapAt ok enc w' r L := by
  obtain ⟨es, c, h1, h2⟩ := h
  exact ⟨es, c, hk.trans h1, h2⟩

omit [DecidableEq κ] in
theorem MapAt.new (w : World) : MapAt ok enc (w.alloc (.map #[] 0)) w.heap.size [] :=
  ⟨#[], 0, heap_alloc_new w _, by simp, by simp, by simp⟩

omit [DecidableEq κ] in
theorem mapAt_find (K : KeyEnc P k ok enc) (W : World) {es : List MapEntry} (he : es.map (fun e => (e.key, e.val)) = L.map (fun p => (enc p.1, p.2))) (hok : ∀ p ∈ L, ok p.1) {x : κ} (hx : ok x) :
    ((Instr.findKey k (enc x) es).run P W = .ok none W ∧ ∀ p ∈ L, p.1 ≠ x) ∨
    ∃ j v e, (Instr.findKey k (enc x) es).run P W = .ok (some (j, v)) W ∧ L[j]? = some (x, v) ∧ es[j]? = some e ∧ e.key = enc x ∧ e.val = v := by
  obtain ⟨l, hl⟩ := K.key x hx
  have hall : ∀ e ∈ es, ∃ l, keyOf P k e.key = some l := by
    intro e hm
    have : (e.key, e.val) ∈ L.map (fun p => (enc p.1, p.2)) := by rw [← he]; exact List.mem_map.2 ⟨e, hm, rfl⟩
    obtain ⟨p, hp, hpe⟩ := List.mem_map.1 this
    simp only [Prod.mk.injEq] at hpe
    rw [← hpe.1]
    exact K.key _ (hok p hp)
  rcases K.law.find W hl es hall with ⟨h1, h2⟩ | ⟨j, e, h1, h2, h3⟩
  · refine .inl ⟨h1, fun p hp hpx => ?_⟩
    have : (enc p.1, p.2) ∈ es.map (fun e => (e.key, e.val)) := by rw [he]; exact List.mem_map.2 ⟨p, hp, rfl⟩
    obtain ⟨e, hm, hee⟩ := List.mem_map.1 this
    simp only [Prod.mk.injEq] at hee
    exact h2 e hm (by rw [hee.1, hpx])
  · have h4 : (es.map (fun e => (e.key, e.val)))[j]? = some (e.key, e.val) := by simp [h2]
    rw [he] at h4
    simp only [List.getElem?_map, Option.map_eq_some_iff, Prod.mk.injEq] at h4
    obtain ⟨p, hp, hp1, hp2⟩ := h4
    have hpx : p.1 = x := K.inj _ _ (hok p (List.mem_of_getElem? hp)) hx (by rw [hp1, h3])
    exact .inr ⟨j, e.val, e, h1, by rw [hp, ← hpx, ← hp2], h2, h3, rfl⟩

theorem getL_none {x : κ} (h : ∀ p ∈ L, p.1 ≠ x) : getL x L = none := by
  induction L with
  | nil => rfl
  | cons p l ih =>
    obtain ⟨a, b⟩ := p
    simp only [getL]
    rw [if_neg (h (a, b) (by simp))]
    exact ih fun p hp => h p (by simp [hp])

theorem getL_at {x : κ} {v : Value} (hn : (L.map (·.1)).Nodup) (j : Nat) (h : L[j]? = some (x, v)) : getL x L = some v := by
  induction L generalizing j with
  | nil => simp at h
  | cons p l ih =>
    obtain ⟨a, b⟩ := p
    simp only [List.map_cons, List.nodup_cons] at hn
    simp only [getL]
    cases j with
    | zero => simp at h; simp [h]
    | succ j =>
      simp only [List.getElem?_cons_succ] at h
      have hm : x ∈ l.map (·.1) := List.mem_map.2 ⟨(x, v), List.mem_of_getElem? h, rfl⟩
      rw [if_neg (by rintro rfl; exact hn.1 hm)]
      exact ih hn.2 j h

theorem putL_none {x : κ} {v : Value} (h : ∀ p ∈ L, p.1 ≠ x) : putL x v L = L ++ [(x, v)] := by
  induction L with
  | nil => rfl
  | cons p l ih =>
    obtain ⟨a, b⟩ := p
    simp only [putL]
    rw [if_neg (h (a, b) (by simp)), ih fun p hp => h p (by simp [hp])]
    rfl

theorem putL_at {x : κ} {u v : Value} (hn : (L.map (·.1)).Nodup) (j : Nat) (h : L[j]? = some (x, u)) : putL x v L = L.set j (x, v) := by
  induction L generalizing j with
  | nil => simp at h
  | cons p l ih =>
    obtain ⟨a, b⟩ := p
    simp only [List.map_cons, List.nodup_cons] at hn
    simp only [putL]
    cases j with
    | zero => simp at h; simp [h]
    | succ j =>
      simp only [List.getElem?_cons_succ] at h
      have hm : x ∈ l.map (·.1) := List.mem_map.2 ⟨(x, u), List.mem_of_getElem? h, rfl⟩
      rw [if_neg (by rintro rfl; exact hn.1 hm)]
      simp [ih hn.2 j h]

theorem keys_putL (x : κ) (v : Value) : (putL x v L).map (·.1) = if x ∈ L.map (·.1) then L.map (·.1) else L.map (·.1) ++ [x] := by
  induction L with
  | nil => simp [putL]
  | cons p l ih =>
    obtain ⟨a, b⟩ := p
    simp only [putL]
    by_cases h : a = x
    · simp [h]
    · rw [if_neg h]
      have h' : ¬ x = a := fun e => h e.symm
      simp only [List.map_cons, ih, List.mem_cons, h', false_or]
      split <;> simp

/-- v, ok := m[k] -/
theorem run_lookup_at (K : KeyEnc P k ok enc) {t e : TypeId} (ht : P.underlying t = some (.map k e)) {z : Value} (hz : ∀ W : World, (zeroValue e).run P W = .ok z W) (h : MapAt ok enc w r L) {x : κ} (hx : ok x) (c : Bool) :
    (Instr.lookup t (.map (some r)) (enc x) c).run P w = .ok (if c then .tuple #[(getL x L).getD z, .bool (getL x L).isSome] else (getL x L).getD z) w := by
  obtain ⟨es, cl, hb, he, hn, hok⟩ := h
  obtain ⟨l, hl⟩ := K.key x hx
  rcases mapAt_find K w he hok hx with ⟨h1, h2⟩ | ⟨j, v, e, h1, h2, _⟩
  · simp [Instr.lookup, run_underlying ht, MapKept.run_getObj_map hb, K.law.check w _ hl, h1, hz, Result.andThen, getL_none h2]
  · simp [Instr.lookup, run_underlying ht, MapKept.run_getObj_map hb, K.law.check w _ hl, h1, Result.andThen, getL_at hn j h2]

/-- m[k] = v -/
theorem run_update_at (K : KeyEnc P k ok enc) {t e : TypeId} (ht : P.underlying t = some (.map k e)) (h : MapAt ok enc w r L) {x : κ} (hx : ok x) (v : Value) :
    ∃ w', (Instr.mapUpdate t (.map (some r)) (enc x) v).run P w = .ok () w' ∧ MapAt ok enc w' r (putL x v L) ∧ w.grownBy w' (some r) ∧ w'.heap.size = w.heap.size := by
  obtain ⟨es, cl, hb, he, hn, hok⟩ := h
  obtain ⟨l, hl⟩ := K.key x hx
  have hg : ∀ o : Obj, w.grownBy { w with heap := w.heap.setIfInBounds r o } (some r) := fun o =>
    ⟨rfl, rfl, rfl, by simp, fun i _ hi => by simp only [Array.getElem?_setIfInBounds]; rw [if_neg (by rintro rfl; exact hi rfl)]⟩
  have hlt : r < w.heap.size := (Array.getElem?_eq_some_iff.1 hb).1
  have hokp : ∀ p ∈ putL x v L, ok p.1 := by
    intro p hp
    have : p.1 ∈ (putL x v L).map (·.1) := List.mem_map.2 ⟨p, hp, rfl⟩
    rw [keys_putL] at this
    split at this
    · obtain ⟨q, hq, hqp⟩ := List.mem_map.1 this
      rw [← hqp]; exact hok q hq
    · rcases List.mem_append.1 this with h | h
      · obtain ⟨q, hq, hqp⟩ := List.mem_map.1 h
        rw [← hqp]; exact hok q hq
      · simp at h; rw [h]; exact hx
  have hnd : ((putL x v L).map (·.1)).Nodup := by
    rw [keys_putL]
    split
    · exact hn
    · rename_i hx'
      rw [List.nodup_append]
      exact ⟨hn, by simp, by rintro a ha b hb rfl; simp at hb; subst hb; exact hx' ha⟩
  rcases mapAt_find K w he hok hx with ⟨h1, h2⟩ | ⟨j, u, e, h1, h2, h3, h4, h5⟩
  · refine ⟨_, by simp [Instr.mapUpdate, run_underlying ht, MapKept.run_getObj_map hb, K.law.check w _ hl, h1, MapKept.run_setObj_map _ hb, Result.andThen]; rfl, ⟨_, _, (MapKept.heap_set hb).1, ?_, hnd, hokp⟩, hg _, by simp⟩
    rw [putL_none h2]
    simp [he]
  · have hj : es[j]? = some e := by simpa using h3
    refine ⟨_, by simp [Instr.mapUpdate, run_underlying ht, MapKept.run_getObj_map hb, K.law.check w _ hl, h1, hj, h4, K.law.stays w hl, MapKept.run_setObj_map _ hb, Result.andThen]; rfl, ⟨_, _, (MapKept.heap_set hb).1, ?_, hnd, hokp⟩, hg _, by simp⟩
    rw [putL_at hn j h2, List.map_set, ← he]
    apply List.ext_getElem?
    intro i
    simp only [List.getElem?_map, Array.getElem?_toList, Array.getElem?_modify, List.getElem?_set, List.length_map, Array.length_toList]
    by_cases hij : j = i
    · subst hij
      have hlt' : j < es.size := (Array.getElem?_eq_some_iff.1 hj).1
      simp [hlt']
    · simp [hij]

omit [DecidableEq κ] in
/-- len(m) -/
theorem run_len_at {t e : TypeId} (ht : P.underlying t = some (.map k e)) (h : MapAt ok enc w r L) (ty : TypeId) : (Builtin.len_ #[t] ty #[.map (some r)]).run P w = .ok (.int .i64 L.length) w := by
  obtain ⟨es, cl, hb, he, _⟩ := h
  have hl : es.size = L.length := by simpa using congrArg List.length he
  simp [Builtin.len_, run_underlying ht, MapKept.run_getObj_map hb, hl, goInt]

end

/-- m[k] = v, for the walk -/
theorem wpList_update_at {P : Program} {k : TypeId} {κ : Type} [DecidableEq κ] {ok : κ → Prop} {enc : κ → Value} (w : World) {ops : Array Oper} {rest : List Oper} {o : Oper} {a : Act} {Q : Exit → Act → World → Prop}
    (hg : o.guard = none) (m x v : Operand) (t : TypeId) (hop : o.op = Op.mapUpdate t m x v) (e : TypeId) (ht : P.underlying t = some (.map k e)) (K : KeyEnc P k ok enc)
    (r : Nat) (L : List (κ × Value)) (h : MapAt ok enc w r L) (y : κ) (hy : ok y) (hm : a.eval m = .map (some r)) (hx : a.eval x = enc y)
    (hK : ∀ w', MapAt ok enc w' r (putL y (a.eval v) L) → w.grownBy w' (some r) → w'.heap.size = w.heap.size → wpList P ops Q rest (a.put o.dst undef) w') :
    wpList P ops Q (o :: rest) a w := by
  refine wpList_plain hg fun K' hK' => ?_
  obtain ⟨w', hrun, r1, r2, r3⟩ := run_update_at K ht h hy (a.eval v)
  unfold Oper.wp
  simp [execOp, hop, hm, hx, hrun, Result.andThen]
  exact hK' _ _ (hK w' r1 r2 r3)
end Go.Proofs.Ytnncpjekcljfbaa
/- Memory: what a stretch of cells holds; what a call may have turned; digests as values. No program is named. -/
namespace Go.Proofs.Ytnncpjekcljfbaa
open Go.RowKit

/-! ### stretches of cells -/
/-- n cells lie from a on -/
def segB (W : World) (a : Addr) (n : Nat) : Bool := (List.range n).all fun j => (W.cell? (a.add j)).isSome
/-- .. and hold this -/
def segV (W : World) (a : Addr) (n : Nat) : Array Value := ((List.range n).map fun j => (W.cell? (a.add j)).getD undef).toArray

theorem add_block (a : Addr) (n : Nat) : (a.add n).block = a.block := by unfold Addr.add; split <;> rfl
theorem add_none (b o n : Nat) : (⟨b, o, none⟩ : Addr).add n = ⟨b, o + n, none⟩ := by
  unfold Addr.add; split
  · rename_i h; simp
  · rfl

@[go_sem] theorem segB_drew (W : World) (a : Addr) (n : Nat) : segB W.drew a n = segB W a n := rfl
@[go_sem] theorem segV_drew (W : World) (a : Addr) (n : Nat) : segV W.drew a n = segV W a n := rfl
@[go_sem] theorem segB_drewN (W : World) (m : Nat) (a : Addr) (n : Nat) : segB (W.drewN m) a n = segB W a n := rfl
@[go_sem] theorem segV_drewN (W : World) (m : Nat) (a : Addr) (n : Nat) : segV (W.drewN m) a n = segV W a n := rfl

theorem segB_same {W W' : World} {a : Addr} (n : Nat) (h : W'.heap[a.block]? = W.heap[a.block]?) : segB W' a n = segB W a n := by
  unfold segB
  congr 1
  funext j
  rw [World.cell?_of_block (w := W) (w' := W') (a := a.add j) (by rw [add_block]; exact h)]
theorem segV_same {W W' : World} {a : Addr} (n : Nat) (h : W'.heap[a.block]? = W.heap[a.block]?) : segV W' a n = segV W a n := by
  unfold segV
  congr 2
  funext j
  rw [World.cell?_of_block (w := W) (w' := W') (a := a.add j) (by rw [add_block]; exact h)]

theorem segB_past (W : World) (o : Obj) (b off n : Nat) (h : b < W.heap.size) : segB (W.alloc o) ⟨b, off, none⟩ n = segB W ⟨b, off, none⟩ n := segB_same n (heap_alloc_old W o h)
theorem segV_past (W : World) (o : Obj) (b off n : Nat) (h : b < W.heap.size) : segV (W.alloc o) ⟨b, off, none⟩ n = segV W ⟨b, off, none⟩ n := segV_same n (heap_alloc_old W o h)
theorem segB_far (W : World) (p : Addr) (v : Value) (b off n : Nat) (h : b ≠ p.block) : segB (W.setCell p v) ⟨b, off, none⟩ n = segB W ⟨b, off, none⟩ n := segB_same n (heap_setCell_other W p b v h)
theorem segV_far (W : World) (p : Addr) (v : Value) (b off n : Nat) (h : b ≠ p.block) : segV (W.setCell p v) ⟨b, off, none⟩ n = segV W ⟨b, off, none⟩ n := segV_same n (heap_setCell_other W p b v h)
attribute [go_sem] segB_past segV_past

theorem segB_of {W : World} {a : Addr} {cs : Array Value} {n : Nat} (h : ∀ j v, cs[j]? = some v → W.cell? (a.add j) = some v) (hn : cs.size = n) : segB W a n = true := by
  unfold segB
  rw [List.all_eq_true]
  intro j hj
  have : j < cs.size := by rw [hn]; exact List.mem_range.1 hj
  rw [h j cs[j] (by simp [this])]
  rfl
theorem segV_of {W : World} {a : Addr} {cs : Array Value} {n : Nat} (h : ∀ j v, cs[j]? = some v → W.cell? (a.add j) = some v) (hn : cs.size = n) : segV W a n = cs := by
  unfold segV
  apply Array.ext'
  apply List.ext_getElem?
  intro j
  simp only [List.getElem?_map, Array.getElem?_toList]
  by_cases hj : j < n
  · rw [List.getElem?_range hj]
    have h1 : cs[j]? = some cs[j] := by simp [show j < cs.size by omega]
    simp [h j _ h1, show j < cs.size by omega]
  · rw [List.getElem?_eq_none (by simp; omega)]
    simp; omega
theorem segV_size (W : World) (a : Addr) (n : Nat) : (segV W a n).size = n := by simp [segV]
theorem cell_of_seg {W : World} {a : Addr} {n : Nat} (h : segB W a n = true) (j : Nat) (v : Value) (hv : (segV W a n)[j]? = some v) : W.cell? (a.add j) = some v := by
  have hj : j < n := by have := (Array.getElem?_eq_some_iff.1 hv).1; rw [segV_size] at this; exact this
  unfold segB at h
  have h1 := List.all_eq_true.1 h j (List.mem_range.2 hj)
  unfold segV at hv
  obtain ⟨u, hu⟩ := Option.isSome_iff_exists.1 h1
  simp [hj, hu] at hv
  rw [hu, hv]

theorem seg_block {W : World} {g t : Nat} {fr : Nat × Nat} {cs : Array Value} (h : W.heap[g]? = some (.cells cs t fr)) : ∀ j v, cs[j]? = some v → W.cell? ((⟨g, 0, none⟩ : Addr).add j) = some v := by
  intro j v hv
  rw [add_none, Nat.zero_add, cell_of_row W g j cs t fr h, hv]

theorem segB_new (W : World) (g : Nat) (c : Array Value) (t n : Nat) (hg : g = W.heap.size) (hn : c.size = n) : segB (W.alloc (.cells c t)) ⟨g, 0, none⟩ n = true := by
  subst hg; exact segB_of (seg_block (heap_alloc_new W _)) hn
theorem segV_new (W : World) (g : Nat) (c : Array Value) (t n : Nat) (hg : g = W.heap.size) (hn : c.size = n) : segV (W.alloc (.cells c t)) ⟨g, 0, none⟩ n = c := by
  subst hg; exact segV_of (seg_block (heap_alloc_new W _)) hn
attribute [go_sem] segB_new segV_new

/-! ### operations on whole structs and arrays, kept behind names -/
def allocRow (t : TypeId) : Sem Next := do pure (.value (← Instr.alloc t true (.tuple #[])))
def loadRow (t : TypeId) (v : Value) : Sem Next := do pure (.value (← Instr.loadAt t v))
def buildRow (t : TypeId) (parts : Array (Nat × Value)) : Sem Next := do pure (.value (← Instr.build t parts))
def storeRow (t : TypeId) (a x : Value) : Sem Next := do Instr.storeAt t a x; pure .skip
def eqRow (op : BinOp) (t : TypeId) (xo yo : Operand) (x y : Value) : Sem Next := do pure (.value (← (do eqGuard op t xo yo x y; binOp op t x y)))
def indexRow (t : TypeId) (x i : Value) : Sem Next := do pure (.value (← Instr.index t x i))
def fieldRow (t : TypeId) (x : Value) (i : Nat) : Sem Next := do pure (.value (← Instr.field t x i))
def lookupRow (t : TypeId) (x i : Value) (c : Bool) : Sem Next := do pure (.value (← Instr.lookup t x i c))
def updateRow (t : TypeId) (m k x : Value) : Sem Next := do Instr.mapUpdate t m k x; pure .skip

theorem run_loadRow {P : Program} (t n : Nat) (d : TypeDesc) (hu : P.underlying t = some d) (hd : (match d with | .struct _ | .array _ _ => true | _ => false) = true) (hi : (P.info? t).map (·.size) = some n)
    (W : World) (a : Addr) (h : segB W a n = true) : (loadRow t (.pointer (some a))).run P W = .ok (.value (.agg (segV W a n))) W := by
  obtain ⟨i, hi1, hi2⟩ := Option.map_eq_some_iff.1 hi
  have h1 := run_loadCells_list (P := P) (w := W) a (segV W a n).toList (fun j v hv => cell_of_seg h j v (by simpa using hv))
  have h2 : (segV W a n).toList.length = n := by simp [segV_size]
  rw [h2] at h1
  cases d <;> simp at hd <;> simp [loadRow, Instr.loadAt, Instr.sureAddr, loadVar, isAgg, run_underlying hu, sizeOf, typeInfo, hi1, hi2, h1, Result.andThen]

/-- each value is one cell's -/
def oneB (cs : Array Value) : Bool := cs.toList.all (·.oneCell')
/-- block g is n cells, none frozen -/
def rowB (W : World) (g n : Nat) : Bool := match W.heap[g]? with
  | some (.cells c _ (0, 0)) => c.size == n
  | _ => false
theorem rowB_of {W : World} {g t n : Nat} {c : Array Value} (h : W.heap[g]? = some (.cells c t (0, 0))) (hn : c.size = n) : rowB W g n = true := by simp [rowB, h, hn]
theorem rowB_inv {W : World} {g n : Nat} (h : rowB W g n = true) : ∃ c t, W.heap[g]? = some (.cells c t (0, 0)) ∧ c.size = n := by
  unfold rowB at h
  split at h
  · rename_i c t he; exact ⟨c, t, he, by simpa using h⟩
  · cases h
@[go_sem] theorem rowB_drew (W : World) (g n : Nat) : rowB W.drew g n = rowB W g n := rfl
@[go_sem] theorem rowB_drewN (W : World) (m g n : Nat) : rowB (W.drewN m) g n = rowB W g n := rfl
theorem rowB_same {W W' : World} {g : Nat} (n : Nat) (h : W'.heap[g]? = W.heap[g]?) : rowB W' g n = rowB W g n := by unfold rowB; rw [h]
@[go_sem] theorem rowB_past (W : World) (o : Obj) (g n : Nat) (h : g < W.heap.size) : rowB (W.alloc o) g n = rowB W g n := rowB_same n (heap_alloc_old W o h)
@[go_sem] theorem rowB_new (W : World) (c : Array Value) (t g n : Nat) (hg : g = W.heap.size) (hn : c.size = n) : rowB (W.alloc (.cells c t)) g n = true := by
  subst hg; exact rowB_of (heap_alloc_new W _) hn
@[go_sem] theorem setRow_drew (W : World) (g : Nat) (cs : Array Value) : W.drew.setRow g cs = (W.setRow g cs).drew := rfl
@[go_sem] theorem setRow_new (W : World) (c cs : Array Value) (t g : Nat) (hg : g = W.heap.size) : (W.alloc (.cells c t)).setRow g cs = W.alloc (.cells cs t) := by
  subst hg
  simp only [World.setRow, World.alloc, World.mk.injEq, and_self, and_true]
  apply Array.ext_getElem?
  intro i
  simp only [Array.getElem?_modify, Array.getElem?_push]
  by_cases h : W.heap.size = i
  · subst h; simp
  · have h' : ¬ i = W.heap.size := fun e => h e.symm
    simp [h, h']
@[go_sem] theorem setRow_past (W : World) (o : Obj) (cs : Array Value) (g : Nat) (hg : g < W.heap.size) : (W.alloc o).setRow g cs = (W.setRow g cs).alloc o := by
  simp only [World.setRow, World.alloc, World.mk.injEq, and_self, and_true]
  apply Array.ext_getElem?
  intro i
  simp only [Array.getElem?_modify, Array.getElem?_push, Array.size_modify]
  by_cases h : g = i
  · subst h; simp [show ¬ g = W.heap.size by omega]
  · simp [h]

theorem run_storeRow {P : Program} (t n : Nat) (hi : (P.info? t).map (·.size) = some n) (W : World) (g : Nat) (cs : Array Value) (h : rowB W g n = true) (hs : cs.size = n) (h1 : oneB cs = true) :
    (storeRow t (.pointer (some ⟨g, 0, none⟩)) (.agg cs)).run P W = .ok .skip (W.setRow g cs) := by
  obtain ⟨c, t', hg, hc⟩ := rowB_inv h
  simp only [storeRow, Instr.storeAt, Instr.sureAddr, Sem.run_bind, Sem.run_pure, Result.andThen_ok, run_storeVar_row W g t' t c cs hg (by rw [hi, hs]) (by omega) (by rw [← Array.all_toList]; exact h1)]

theorem run_allocRow {P : Program} (t : TypeId) (z : Value) (hz : (P.info? t).bind (·.zero) = some z) (W : World) :
    (allocRow t).run P W = .ok (.value (.pointer (some ⟨W.heap.size, 0, none⟩))) (W.alloc (.cells z.cells t)) := by
  obtain ⟨i, hi, hz'⟩ := Option.bind_eq_some_iff.1 hz
  simp [allocRow, Instr.alloc, zeroValue, typeInfo, hi, hz', newVar, newRow, Result.andThen]

/-- a result that lies in memory -/
theorem results_seg {P : Program} {fn : Func} {p : Tmp} {ty : TypeId} (h : fn.results = #[.cell p ty]) (tmps : Array Value) (w : World) (a : Addr) (n : Nat) (d : TypeDesc) (hp : tmps.getD p undef = .pointer (some a))
    (hu : P.underlying ty = some d) (hd : (match d with | .struct _ | .array _ _ => true | _ => false) = true) (hi : (P.info? ty).map (·.size) = some n) (hs : segB w a n = true) :
    (results fn tmps).run P w = .ok (.agg (segV w a n)) w := by
  have hp' : tmps[p]?.getD undef = .pointer (some a) := by simpa using hp
  have h1 := run_loadRow (P := P) ty n d hu hd hi w a hs
  simp only [loadRow, Instr.loadAt, Instr.sureAddr, Sem.run_bind, Sem.run_pure, Result.andThen_ok] at h1
  cases hr : (loadVar ty a).run P w with
  | halt x w' => rw [hr] at h1; simp [Result.andThen] at h1
  | ok v w' =>
    rw [hr] at h1
    simp [Result.andThen] at h1
    obtain ⟨rfl, rfl⟩ := h1
    simp [results, h, hp', asAddr, hr]

/-! ### what a call may have turned -/
structure Upd (S : Nat → Prop) (w w' : World) : Prop where
  os : w'.os = w.os
  tape : w'.tape = w.tape
  output : w'.output = w.output
  size : w.heap.size ≤ w'.heap.size
  block : ∀ k, k < w.heap.size → ¬ S k → w'.heap[k]? = w.heap[k]?

/-- nothing that was there -/
abbrev Kept (w w' : World) : Prop := Upd (fun _ => False) w w'

theorem Upd.refl (S : Nat → Prop) (w : World) : Upd S w w := ⟨rfl, rfl, rfl, Nat.le_refl _, fun _ _ _ => rfl⟩
theorem Upd.trans {S : Nat → Prop} {a b c : World} (h : Upd S a b) (k : Upd S b c) : Upd S a c :=
  ⟨k.os.trans h.os, k.tape.trans h.tape, k.output.trans h.output, Nat.le_trans h.size k.size, fun i hi hs => (k.block i (Nat.lt_of_lt_of_le hi h.size) hs).trans (h.block i hi hs)⟩
theorem Upd.mono {S T : Nat → Prop} {a b : World} (h : Upd S a b) (hst : ∀ k, k < a.heap.size → S k → T k) : Upd T a b := ⟨h.os, h.tape, h.output, h.size, fun k hk hn => h.block k hk fun hs => hn (hst k hk hs)⟩
theorem Kept.to {S : Nat → Prop} {a b : World} (h : Kept a b) : Upd S a b := h.mono fun _ _ h => h.elim
/-- steps one behind the other: what the later ones turn may be new -/
theorem Upd.then {S T : Nat → Prop} {a b c : World} (h : Upd S a b) (k : Upd T b c) (hT : ∀ i, i < a.heap.size → T i → S i) : Upd S a c :=
  ⟨k.os.trans h.os, k.tape.trans h.tape, k.output.trans h.output, Nat.le_trans h.size k.size, fun i hi hs => (k.block i (Nat.lt_of_lt_of_le hi h.size) fun ht => hs (hT i hi ht)).trans (h.block i hi hs)⟩
theorem Upd.drew {S : Nat → Prop} {a b : World} (h : Upd S a b) : Upd S a b.drew := ⟨h.os, h.tape, h.output, h.size, h.block⟩
theorem Upd.drewN {S : Nat → Prop} {a b : World} (h : Upd S a b) (n : Nat) : Upd S a (b.drewN n) := ⟨h.os, h.tape, h.output, h.size, h.block⟩
theorem Upd.alloc {S : Nat → Prop} {a b : World} (h : Upd S a b) (o : Obj) : Upd S a (b.alloc o) :=
  h.then (T := S) ⟨rfl, rfl, rfl, by simp, fun _ hk _ => heap_alloc_old b o hk⟩ fun _ _ h => h
theorem Upd.setCell {S : Nat → Prop} {a b : World} (h : Upd S a b) {p : Addr} (v : Value) (hp : p.block < a.heap.size → S p.block) : Upd S a (b.setCell p v) :=
  h.then (T := fun k => k = p.block) ⟨rfl, rfl, rfl, by simp, fun k _ hne => heap_setCell_other b p k v hne⟩ fun _ hi hik => hik ▸ hp (hik ▸ hi)
theorem Upd.of_grown {a b : World} {row : Option Nat} (h : a.grownBy b row) : Upd (fun k => some k = row) a b := ⟨h.os, h.tape, h.output, h.size, h.block⟩
theorem Upd.grown {S : Nat → Prop} {a b c : World} {row : Option Nat} (h : Upd S a b) (hg : b.grownBy c row) (hr : ∀ k, k < a.heap.size → some k = row → S k) : Upd S a c :=
  h.then (Upd.of_grown hg) hr
theorem Upd.below {w w' : World} (h : Kept w w') : Below w.heap.size w w' := ⟨h.os, h.tape, h.output, h.size, fun k hk => h.block k hk id⟩
theorem Upd.lt {S : Nat → Prop} {a b : World} (h : Upd S a b) {k : Nat} (hk : k < a.heap.size) : k < b.heap.size := Nat.lt_of_lt_of_le hk h.size
theorem Upd.cell {S : Nat → Prop} {a b : World} (h : Upd S a b) {p : Addr} {v : Value} (hc : a.cell? p = some v) (hs : ¬ S p.block) : b.cell? p = some v :=
  (World.cell?_of_block (w := a) (h.block p.block (World.block_lt_of_cell? _ _ hc) hs)).trans hc
theorem Upd.heap {S : Nat → Prop} {a b : World} (h : Upd S a b) {k : Nat} {o : Obj} (hc : a.heap[k]? = some o) (hs : ¬ S k) : b.heap[k]? = some o :=
  (h.block k (Array.getElem?_eq_some_iff.1 hc).1 hs).trans hc

/-! ### digests -/
/-- 32 bytes -/
abbrev Dig : Type := { l : List UInt8 // l.length = 32 }
def encB (d : List UInt8) : List Value := d.map fun b => .int .u8 b.toNat
theorem encB_length (d : List UInt8) : (encB d).length = d.length := by simp [encB]
theorem encB_inj : ∀ {a b : List UInt8}, encB a = encB b → a = b
  | [], [], _ => rfl
  | [], _ :: _, h => by simp [encB] at h
  | _ :: _, [], h => by simp [encB] at h
  | x :: a, y :: b, h => by
    simp only [encB, List.map_cons, List.cons.injEq, Value.int.injEq, true_and] at h
    rw [encB_inj h.2, UInt8.toNat_inj.1 (by omega : x.toNat = y.toNat)]
/-- a digest's cells -/
def dA (d : Dig) : Array Value := (encB d.1).toArray
/-- the zero digest -/
def dig0 : Dig := ⟨List.replicate 32 0, by simp⟩
@[simp, go_sem] theorem dA_size (d : Dig) : (dA d).size = 32 := by simp [dA, encB_length, d.2]
theorem dA_inj {d e : Dig} (h : dA d = dA e) : d = e := Subtype.ext (encB_inj (by simpa [dA] using h))
@[simp, go_sem] theorem dA_one (d : Dig) : oneB (dA d) = true := by
  simp only [oneB, dA, encB, List.all_map, List.all_eq_true]
  intro b _
  rfl
theorem u8_wf (b : UInt8) : (Lit.int .u8 (b.toNat : Int)).wf = true := by
  have := b.toNat_lt
  simp [Lit.wf, IntKind.min, IntKind.max, IntKind.signed, IntKind.bits]
  omega

/-! ### a part of several cells laid into a struct or an array that is built -/
theorem foldl_set (off : Nat) : ∀ (cs : List Value) (k : Nat) (acc : Array Value) (i : Nat),
    ((cs.zipIdx k).foldl (fun acc (p : Value × Nat) => acc.setIfInBounds (off + p.2) p.1) acc)[i]? = if off + k ≤ i ∧ i < off + k + cs.length ∧ i < acc.size then cs[i - (off + k)]? else acc[i]?
  | [], k, acc, i => by simp; omega
  | c :: cs, k, acc, i => by
    simp only [List.zipIdx_cons, List.foldl_cons]
    rw [foldl_set off cs (k + 1)]
    simp only [Array.size_setIfInBounds, Array.getElem?_setIfInBounds, List.length_cons]
    by_cases h1 : i = off + k
    · subst h1
      rw [if_neg (by omega)]
      by_cases h2 : off + k < acc.size
      · simp [h2]
      · simp [h2]
    · by_cases h2 : off + k + 1 ≤ i ∧ i < off + k + cs.length + 1 ∧ i < acc.size
      · rw [if_pos (by omega), if_pos (by omega)]
        have : i - (off + k) = (i - (off + (k + 1))) + 1 := by omega
        rw [this, List.getElem?_cons_succ]
      · rw [if_neg (by omega), if_neg (by omega), if_neg (by omega)]

theorem fill_last (off : Nat) (cs acc : Array Value) (h : off + cs.size = acc.size) :
    cs.zipIdx.foldl (fun acc (p : Value × Nat) => acc.setIfInBounds (off + p.2) p.1) acc = acc.extract 0 off ++ cs := by
  rw [← Array.foldl_toList, Array.toList_zipIdx]
  apply Array.ext_getElem?
  intro i
  rw [foldl_set]
  simp only [Array.length_toList, Array.getElem?_toList, Nat.add_zero]
  by_cases h1 : i < off
  · rw [if_neg (by omega), Array.getElem?_append_left (by simp; omega)]
    simp [Array.getElem?_extract]; omega
  · rw [Array.getElem?_append_right (by simp; omega)]
    have hs : (acc.extract 0 off).size = off := by simp; omega
    rw [hs]
    by_cases h2 : i < acc.size
    · rw [if_pos (by omega)]
    · rw [if_neg (by omega), Array.getElem?_eq_none (by omega), Array.getElem?_eq_none (by omega)]
end Go.Proofs.Ytnncpjekcljfbaa
/- MADE BY agg.py: whole loads, stores and comparisons of this seat's struct and array types are kept behind names. -/
namespace Go.Proofs.Ytnncpjekcljfbaa
open Go.RowKit
section
variable (ρ : Operand → Value) (dst : Option Tmp) (x y : Operand) (yt ty : TypeId) (pos : String) (after : Array Edge) (guard : Option (Nat × Bool)) (W : World) (a : Addr)
/-! 37: At (2 cells) -/
@[go_sem ↓] theorem exec_load37 : execOp ρ ⟨dst, .load 37 x, ty, pos, after, guard⟩ = loadRow 37 (ρ x) := rfl
@[go_sem ↓] theorem exec_store37 : execOp ρ ⟨dst, .store 37 x y, ty, pos, after, guard⟩ = storeRow 37 (ρ x) (ρ y) := rfl
@[go_sem ↓] theorem exec_eql37 : execOp ρ ⟨dst, .binOp .eql 37 x y yt, ty, pos, after, guard⟩ = eqRow .eql 37 x y (ρ x) (ρ y) := rfl
@[go_sem ↓] theorem exec_neq37 : execOp ρ ⟨dst, .binOp .neq 37 x y yt, ty, pos, after, guard⟩ = eqRow .neq 37 x y (ρ x) (ρ y) := rfl
theorem sizeOf37 : (Try.prog.info? 37).map (·.size) = some 2 := by kernel_rfl
@[go_sem] theorem row_load37 (h : segB W a 2 = true) : (loadRow 37 (.pointer (some a))).run Try.prog W = .ok (.value (.agg (segV W a 2))) W := run_loadRow 37 2 _ Try.underlying37 rfl sizeOf37 W a h
@[go_sem] theorem row_store37 (g : Nat) (cs : Array Value) (h : rowB W g 2 = true) (hs : cs.size = 2) (h1 : oneB cs = true) : (storeRow 37 (.pointer (some ⟨g, 0, none⟩)) (.agg cs)).run Try.prog W = .ok .skip (W.setRow g cs) := run_storeRow 37 2 sizeOf37 W g cs h hs h1
/-! 38: bastide/bastidelaw09.Set (2 cells) -/
@[go_sem ↓] theorem exec_load38 : execOp ρ ⟨dst, .load 38 x, ty, pos, after, guard⟩ = loadRow 38 (ρ x) := rfl
@[go_sem ↓] theorem exec_store38 : execOp ρ ⟨dst, .store 38 x y, ty, pos, after, guard⟩ = storeRow 38 (ρ x) (ρ y) := rfl
@[go_sem ↓] theorem exec_eql38 : execOp ρ ⟨dst, .binOp .eql 38 x y yt, ty, pos, after, guard⟩ = eqRow .eql 38 x y (ρ x) (ρ y) := rfl
@[go_sem ↓] theorem exec_neq38 : execOp ρ ⟨dst, .binOp .neq 38 x y yt, ty, pos, after, guard⟩ = eqRow .neq 38 x y (ρ x) (ρ y) := rfl
theorem sizeOf38 : (Try.prog.info? 38).map (·.size) = some 2 := by kernel_rfl
@[go_sem] theorem row_load38 (h : segB W a 2 = true) : (loadRow 38 (.pointer (some a))).run Try.prog W = .ok (.value (.agg (segV W a 2))) W := run_loadRow 38 2 _ Try.underlying38 rfl sizeOf38 W a h
@[go_sem] theorem row_store38 (g : Nat) (cs : Array Value) (h : rowB W g 2 = true) (hs : cs.size = 2) (h1 : oneB cs = true) : (storeRow 38 (.pointer (some ⟨g, 0, none⟩)) (.agg cs)).run Try.prog W = .ok .skip (W.setRow g cs) := run_storeRow 38 2 sizeOf38 W g cs h hs h1
/-! 45: [32]uint8 (32 cells) -/
@[go_sem ↓] theorem exec_load45 : execOp ρ ⟨dst, .load 45 x, ty, pos, after, guard⟩ = loadRow 45 (ρ x) := rfl
@[go_sem ↓] theorem exec_store45 : execOp ρ ⟨dst, .store 45 x y, ty, pos, after, guard⟩ = storeRow 45 (ρ x) (ρ y) := rfl
@[go_sem ↓] theorem exec_eql45 : execOp ρ ⟨dst, .binOp .eql 45 x y yt, ty, pos, after, guard⟩ = eqRow .eql 45 x y (ρ x) (ρ y) := rfl
@[go_sem ↓] theorem exec_neq45 : execOp ρ ⟨dst, .binOp .neq 45 x y yt, ty, pos, after, guard⟩ = eqRow .neq 45 x y (ρ x) (ρ y) := rfl
@[go_sem ↓] theorem exec_index45 : execOp ρ ⟨dst, .index 45 x y, ty, pos, after, guard⟩ = indexRow 45 (ρ x) (ρ y) := rfl
theorem sizeOf45 : (Try.prog.info? 45).map (·.size) = some 32 := by kernel_rfl
@[go_sem] theorem row_load45 (h : segB W a 32 = true) : (loadRow 45 (.pointer (some a))).run Try.prog W = .ok (.value (.agg (segV W a 32))) W := run_loadRow 45 32 _ Try.underlying45 rfl sizeOf45 W a h
@[go_sem] theorem row_store45 (g : Nat) (cs : Array Value) (h : rowB W g 32 = true) (hs : cs.size = 32) (h1 : oneB cs = true) : (storeRow 45 (.pointer (some ⟨g, 0, none⟩)) (.agg cs)).run Try.prog W = .ok .skip (W.setRow g cs) := run_storeRow 45 32 sizeOf45 W g cs h hs h1
/-! 46: bastide/api.Digest (32 cells) -/
@[go_sem ↓] theorem exec_load46 : execOp ρ ⟨dst, .load 46 x, ty, pos, after, guard⟩ = loadRow 46 (ρ x) := rfl
@[go_sem ↓] theorem exec_store46 : execOp ρ ⟨dst, .store 46 x y, ty, pos, after, guard⟩ = storeRow 46 (ρ x) (ρ y) := rfl
@[go_sem ↓] theorem exec_eql46 : execOp ρ ⟨dst, .binOp .eql 46 x y yt, ty, pos, after, guard⟩ = eqRow .eql 46 x y (ρ x) (ρ y) := rfl
@[go_sem ↓] theorem exec_neq46 : execOp ρ ⟨dst, .binOp .neq 46 x y yt, ty, pos, after, guard⟩ = eqRow .neq 46 x y (ρ x) (ρ y) := rfl
@[go_sem ↓] theorem exec_index46 : execOp ρ ⟨dst, .index 46 x y, ty, pos, after, guard⟩ = indexRow 46 (ρ x) (ρ y) := rfl
theorem sizeOf46 : (Try.prog.info? 46).map (·.size) = some 32 := by kernel_rfl
@[go_sem] theorem row_load46 (h : segB W a 32 = true) : (loadRow 46 (.pointer (some a))).run Try.prog W = .ok (.value (.agg (segV W a 32))) W := run_loadRow 46 32 _ Try.underlying46 rfl sizeOf46 W a h
@[go_sem] theorem row_store46 (g : Nat) (cs : Array Value) (h : rowB W g 32 = true) (hs : cs.size = 32) (h1 : oneB cs = true) : (storeRow 46 (.pointer (some ⟨g, 0, none⟩)) (.agg cs)).run Try.prog W = .ok .skip (W.setRow g cs) := run_storeRow 46 32 sizeOf46 W g cs h hs h1
/-! 60: [2]int (2 cells) -/
@[go_sem ↓] theorem exec_load60 : execOp ρ ⟨dst, .load 60 x, ty, pos, after, guard⟩ = loadRow 60 (ρ x) := rfl
@[go_sem ↓] theorem exec_store60 : execOp ρ ⟨dst, .store 60 x y, ty, pos, after, guard⟩ = storeRow 60 (ρ x) (ρ y) := rfl
@[go_sem ↓] theorem exec_eql60 : execOp ρ ⟨dst, .binOp .eql 60 x y yt, ty, pos, after, guard⟩ = eqRow .eql 60 x y (ρ x) (ρ y) := rfl
@[go_sem ↓] theorem exec_neq60 : execOp ρ ⟨dst, .binOp .neq 60 x y yt, ty, pos, after, guard⟩ = eqRow .neq 60 x y (ρ x) (ρ y) := rfl
@[go_sem ↓] theorem exec_index60 : execOp ρ ⟨dst, .index 60 x y, ty, pos, after, guard⟩ = indexRow 60 (ρ x) (ρ y) := rfl
theorem sizeOf60 : (Try.prog.info? 60).map (·.size) = some 2 := by kernel_rfl
@[go_sem] theorem row_load60 (h : segB W a 2 = true) : (loadRow 60 (.pointer (some a))).run Try.prog W = .ok (.value (.agg (segV W a 2))) W := run_loadRow 60 2 _ Try.underlying60 rfl sizeOf60 W a h
@[go_sem] theorem row_store60 (g : Nat) (cs : Array Value) (h : rowB W g 2 = true) (hs : cs.size = 2) (h1 : oneB cs = true) : (storeRow 60 (.pointer (some ⟨g, 0, none⟩)) (.agg cs)).run Try.prog W = .ok .skip (W.setRow g cs) := run_storeRow 60 2 sizeOf60 W g cs h hs h1
/-! 71: Root (36 cells) -/
@[go_sem ↓] theorem exec_load71 : execOp ρ ⟨dst, .load 71 x, ty, pos, after, guard⟩ = loadRow 71 (ρ x) := rfl
@[go_sem ↓] theorem exec_store71 : execOp ρ ⟨dst, .store 71 x y, ty, pos, after, guard⟩ = storeRow 71 (ρ x) (ρ y) := rfl
@[go_sem ↓] theorem exec_eql71 : execOp ρ ⟨dst, .binOp .eql 71 x y yt, ty, pos, after, guard⟩ = eqRow .eql 71 x y (ρ x) (ρ y) := rfl
@[go_sem ↓] theorem exec_neq71 : execOp ρ ⟨dst, .binOp .neq 71 x y yt, ty, pos, after, guard⟩ = eqRow .neq 71 x y (ρ x) (ρ y) := rfl
theorem sizeOf71 : (Try.prog.info? 71).map (·.size) = some 36 := by kernel_rfl
@[go_sem] theorem row_load71 (h : segB W a 36 = true) : (loadRow 71 (.pointer (some a))).run Try.prog W = .ok (.value (.agg (segV W a 36))) W := run_loadRow 71 36 _ Try.underlying71 rfl sizeOf71 W a h
@[go_sem] theorem row_store71 (g : Nat) (cs : Array Value) (h : rowB W g 36 = true) (hs : cs.size = 36) (h1 : oneB cs = true) : (storeRow 71 (.pointer (some ⟨g, 0, none⟩)) (.agg cs)).run Try.prog W = .ok .skip (W.setRow g cs) := run_storeRow 71 36 sizeOf71 W g cs h hs h1
/-! 72: bastide/bastidelaw10.Claim (36 cells) -/
@[go_sem ↓] theorem exec_load72 : execOp ρ ⟨dst, .load 72 x, ty, pos, after, guard⟩ = loadRow 72 (ρ x) := rfl
@[go_sem ↓] theorem exec_store72 : execOp ρ ⟨dst, .store 72 x y, ty, pos, after, guard⟩ = storeRow 72 (ρ x) (ρ y) := rfl
@[go_sem ↓] theorem exec_eql72 : execOp ρ ⟨dst, .binOp .eql 72 x y yt, ty, pos, after, guard⟩ = eqRow .eql 72 x y (ρ x) (ρ y) := rfl
@[go_sem ↓] theorem exec_neq72 : execOp ρ ⟨dst, .binOp .neq 72 x y yt, ty, pos, after, guard⟩ = eqRow .neq 72 x y (ρ x) (ρ y) := rfl
theorem sizeOf72 : (Try.prog.info? 72).map (·.size) = some 36 := by kernel_rfl
@[go_sem] theorem row_load72 (h : segB W a 36 = true) : (loadRow 72 (.pointer (some a))).run Try.prog W = .ok (.value (.agg (segV W a 36))) W := run_loadRow 72 36 _ Try.underlying72 rfl sizeOf72 W a h
@[go_sem] theorem row_store72 (g : Nat) (cs : Array Value) (h : rowB W g 36 = true) (hs : cs.size = 36) (h1 : oneB cs = true) : (storeRow 72 (.pointer (some ⟨g, 0, none⟩)) (.agg cs)).run Try.prog W = .ok .skip (W.setRow g cs) := run_storeRow 72 36 sizeOf72 W g cs h hs h1
/-! 93: _ (1 cells) -/
@[go_sem ↓] theorem exec_load93 : execOp ρ ⟨dst, .load 93 x, ty, pos, after, guard⟩ = loadRow 93 (ρ x) := rfl
@[go_sem ↓] theorem exec_store93 : execOp ρ ⟨dst, .store 93 x y, ty, pos, after, guard⟩ = storeRow 93 (ρ x) (ρ y) := rfl
@[go_sem ↓] theorem exec_eql93 : execOp ρ ⟨dst, .binOp .eql 93 x y yt, ty, pos, after, guard⟩ = eqRow .eql 93 x y (ρ x) (ρ y) := rfl
@[go_sem ↓] theorem exec_neq93 : execOp ρ ⟨dst, .binOp .neq 93 x y yt, ty, pos, after, guard⟩ = eqRow .neq 93 x y (ρ x) (ρ y) := rfl
theorem sizeOf93 : (Try.prog.info? 93).map (·.size) = some 1 := by kernel_rfl
@[go_sem] theorem row_load93 (h : segB W a 1 = true) : (loadRow 93 (.pointer (some a))).run Try.prog W = .ok (.value (.agg (segV W a 1))) W := run_loadRow 93 1 _ Try.underlying93 rfl sizeOf93 W a h
@[go_sem] theorem row_store93 (g : Nat) (cs : Array Value) (h : rowB W g 1 = true) (hs : cs.size = 1) (h1 : oneB cs = true) : (storeRow 93 (.pointer (some ⟨g, 0, none⟩)) (.agg cs)).run Try.prog W = .ok .skip (W.setRow g cs) := run_storeRow 93 1 sizeOf93 W g cs h hs h1
/-! 94: sync/atomic.Bool (1 cells) -/
@[go_sem ↓] theorem exec_load94 : execOp ρ ⟨dst, .load 94 x, ty, pos, after, guard⟩ = loadRow 94 (ρ x) := rfl
@[go_sem ↓] theorem exec_store94 : execOp ρ ⟨dst, .store 94 x y, ty, pos, after, guard⟩ = storeRow 94 (ρ x) (ρ y) := rfl
@[go_sem ↓] theorem exec_eql94 : execOp ρ ⟨dst, .binOp .eql 94 x y yt, ty, pos, after, guard⟩ = eqRow .eql 94 x y (ρ x) (ρ y) := rfl
@[go_sem ↓] theorem exec_neq94 : execOp ρ ⟨dst, .binOp .neq 94 x y yt, ty, pos, after, guard⟩ = eqRow .neq 94 x y (ρ x) (ρ y) := rfl
theorem sizeOf94 : (Try.prog.info? 94).map (·.size) = some 1 := by kernel_rfl
@[go_sem] theorem row_load94 (h : segB W a 1 = true) : (loadRow 94 (.pointer (some a))).run Try.prog W = .ok (.value (.agg (segV W a 1))) W := run_loadRow 94 1 _ Try.underlying94 rfl sizeOf94 W a h
@[go_sem] theorem row_store94 (g : Nat) (cs : Array Value) (h : rowB W g 1 = true) (hs : cs.size = 1) (h1 : oneB cs = true) : (storeRow 94 (.pointer (some ⟨g, 0, none⟩)) (.agg cs)).run Try.prog W = .ok .skip (W.setRow g cs) := run_storeRow 94 1 sizeOf94 W g cs h hs h1
/-! 97: _ (2 cells) -/
@[go_sem ↓] theorem exec_load97 : execOp ρ ⟨dst, .load 97 x, ty, pos, after, guard⟩ = loadRow 97 (ρ x) := rfl
@[go_sem ↓] theorem exec_store97 : execOp ρ ⟨dst, .store 97 x y, ty, pos, after, guard⟩ = storeRow 97 (ρ x) (ρ y) := rfl
@[go_sem ↓] theorem exec_eql97 : execOp ρ ⟨dst, .binOp .eql 97 x y yt, ty, pos, after, guard⟩ = eqRow .eql 97 x y (ρ x) (ρ y) := rfl
@[go_sem ↓] theorem exec_neq97 : execOp ρ ⟨dst, .binOp .neq 97 x y yt, ty, pos, after, guard⟩ = eqRow .neq 97 x y (ρ x) (ρ y) := rfl
theorem sizeOf97 : (Try.prog.info? 97).map (·.size) = some 2 := by kernel_rfl
@[go_sem] theorem row_load97 (h : segB W a 2 = true) : (loadRow 97 (.pointer (some a))).run Try.prog W = .ok (.value (.agg (segV W a 2))) W := run_loadRow 97 2 _ Try.underlying97 rfl sizeOf97 W a h
@[go_sem] theorem row_store97 (g : Nat) (cs : Array Value) (h : rowB W g 2 = true) (hs : cs.size = 2) (h1 : oneB cs = true) : (storeRow 97 (.pointer (some ⟨g, 0, none⟩)) (.agg cs)).run Try.prog W = .ok .skip (W.setRow g cs) := run_storeRow 97 2 sizeOf97 W g cs h hs h1
/-! 98: sync.Mutex (2 cells) -/
@[go_sem ↓] theorem exec_load98 : execOp ρ ⟨dst, .load 98 x, ty, pos, after, guard⟩ = loadRow 98 (ρ x) := rfl
@[go_sem ↓] theorem exec_store98 : execOp ρ ⟨dst, .store 98 x y, ty, pos, after, guard⟩ = storeRow 98 (ρ x) (ρ y) := rfl
@[go_sem ↓] theorem exec_eql98 : execOp ρ ⟨dst, .binOp .eql 98 x y yt, ty, pos, after, guard⟩ = eqRow .eql 98 x y (ρ x) (ρ y) := rfl
@[go_sem ↓] theorem exec_neq98 : execOp ρ ⟨dst, .binOp .neq 98 x y yt, ty, pos, after, guard⟩ = eqRow .neq 98 x y (ρ x) (ρ y) := rfl
theorem sizeOf98 : (Try.prog.info? 98).map (·.size) = some 2 := by kernel_rfl
@[go_sem] theorem row_load98 (h : segB W a 2 = true) : (loadRow 98 (.pointer (some a))).run Try.prog W = .ok (.value (.agg (segV W a 2))) W := run_loadRow 98 2 _ Try.underlying98 rfl sizeOf98 W a h
@[go_sem] theorem row_store98 (g : Nat) (cs : Array Value) (h : rowB W g 2 = true) (hs : cs.size = 2) (h1 : oneB cs = true) : (storeRow 98 (.pointer (some ⟨g, 0, none⟩)) (.agg cs)).run Try.prog W = .ok .skip (W.setRow g cs) := run_storeRow 98 2 sizeOf98 W g cs h hs h1
/-! 99: _ (3 cells) -/
@[go_sem ↓] theorem exec_load99 : execOp ρ ⟨dst, .load 99 x, ty, pos, after, guard⟩ = loadRow 99 (ρ x) := rfl
@[go_sem ↓] theorem exec_store99 : execOp ρ ⟨dst, .store 99 x y, ty, pos, after, guard⟩ = storeRow 99 (ρ x) (ρ y) := rfl
@[go_sem ↓] theorem exec_eql99 : execOp ρ ⟨dst, .binOp .eql 99 x y yt, ty, pos, after, guard⟩ = eqRow .eql 99 x y (ρ x) (ρ y) := rfl
@[go_sem ↓] theorem exec_neq99 : execOp ρ ⟨dst, .binOp .neq 99 x y yt, ty, pos, after, guard⟩ = eqRow .neq 99 x y (ρ x) (ρ y) := rfl
theorem sizeOf99 : (Try.prog.info? 99).map (·.size) = some 3 := by kernel_rfl
@[go_sem] theorem row_load99 (h : segB W a 3 = true) : (loadRow 99 (.pointer (some a))).run Try.prog W = .ok (.value (.agg (segV W a 3))) W := run_loadRow 99 3 _ Try.underlying99 rfl sizeOf99 W a h
@[go_sem] theorem row_store99 (g : Nat) (cs : Array Value) (h : rowB W g 3 = true) (hs : cs.size = 3) (h1 : oneB cs = true) : (storeRow 99 (.pointer (some ⟨g, 0, none⟩)) (.agg cs)).run Try.prog W = .ok .skip (W.setRow g cs) := run_storeRow 99 3 sizeOf99 W g cs h hs h1
/-! 100: sync.Once (3 cells) -/
@[go_sem ↓] theorem exec_load100 : execOp ρ ⟨dst, .load 100 x, ty, pos, after, guard⟩ = loadRow 100 (ρ x) := rfl
@[go_sem ↓] theorem exec_store100 : execOp ρ ⟨dst, .store 100 x y, ty, pos, after, guard⟩ = storeRow 100 (ρ x) (ρ y) := rfl
@[go_sem ↓] theorem exec_eql100 : execOp ρ ⟨dst, .binOp .eql 100 x y yt, ty, pos, after, guard⟩ = eqRow .eql 100 x y (ρ x) (ρ y) := rfl
@[go_sem ↓] theorem exec_neq100 : execOp ρ ⟨dst, .binOp .neq 100 x y yt, ty, pos, after, guard⟩ = eqRow .neq 100 x y (ρ x) (ρ y) := rfl
theorem sizeOf100 : (Try.prog.info? 100).map (·.size) = some 3 := by kernel_rfl
@[go_sem] theorem row_load100 (h : segB W a 3 = true) : (loadRow 100 (.pointer (some a))).run Try.prog W = .ok (.value (.agg (segV W a 3))) W := run_loadRow 100 3 _ Try.underlying100 rfl sizeOf100 W a h
@[go_sem] theorem row_store100 (g : Nat) (cs : Array Value) (h : rowB W g 3 = true) (hs : cs.size = 3) (h1 : oneB cs = true) : (storeRow 100 (.pointer (some ⟨g, 0, none⟩)) (.agg cs)).run Try.prog W = .ok .skip (W.setRow g cs) := run_storeRow 100 3 sizeOf100 W g cs h hs h1
/-! 102: book (7 cells) -/
@[go_sem ↓] theorem exec_load102 : execOp ρ ⟨dst, .load 102 x, ty, pos, after, guard⟩ = loadRow 102 (ρ x) := rfl
@[go_sem ↓] theorem exec_store102 : execOp ρ ⟨dst, .store 102 x y, ty, pos, after, guard⟩ = storeRow 102 (ρ x) (ρ y) := rfl
@[go_sem ↓] theorem exec_eql102 : execOp ρ ⟨dst, .binOp .eql 102 x y yt, ty, pos, after, guard⟩ = eqRow .eql 102 x y (ρ x) (ρ y) := rfl
@[go_sem ↓] theorem exec_neq102 : execOp ρ ⟨dst, .binOp .neq 102 x y yt, ty, pos, after, guard⟩ = eqRow .neq 102 x y (ρ x) (ρ y) := rfl
theorem sizeOf102 : (Try.prog.info? 102).map (·.size) = some 7 := by kernel_rfl
@[go_sem] theorem row_load102 (h : segB W a 7 = true) : (loadRow 102 (.pointer (some a))).run Try.prog W = .ok (.value (.agg (segV W a 7))) W := run_loadRow 102 7 _ Try.underlying102 rfl sizeOf102 W a h
@[go_sem] theorem row_store102 (g : Nat) (cs : Array Value) (h : rowB W g 7 = true) (hs : cs.size = 7) (h1 : oneB cs = true) : (storeRow 102 (.pointer (some ⟨g, 0, none⟩)) (.agg cs)).run Try.prog W = .ok .skip (W.setRow g cs) := run_storeRow 102 7 sizeOf102 W g cs h hs h1
/-! 103: bastide/tree.Tree (7 cells) -/
@[go_sem ↓] theorem exec_load103 : execOp ρ ⟨dst, .load 103 x, ty, pos, after, guard⟩ = loadRow 103 (ρ x) := rfl
@[go_sem ↓] theorem exec_store103 : execOp ρ ⟨dst, .store 103 x y, ty, pos, after, guard⟩ = storeRow 103 (ρ x) (ρ y) := rfl
@[go_sem ↓] theorem exec_eql103 : execOp ρ ⟨dst, .binOp .eql 103 x y yt, ty, pos, after, guard⟩ = eqRow .eql 103 x y (ρ x) (ρ y) := rfl
@[go_sem ↓] theorem exec_neq103 : execOp ρ ⟨dst, .binOp .neq 103 x y yt, ty, pos, after, guard⟩ = eqRow .neq 103 x y (ρ x) (ρ y) := rfl
theorem sizeOf103 : (Try.prog.info? 103).map (·.size) = some 7 := by kernel_rfl
@[go_sem] theorem row_load103 (h : segB W a 7 = true) : (loadRow 103 (.pointer (some a))).run Try.prog W = .ok (.value (.agg (segV W a 7))) W := run_loadRow 103 7 _ Try.underlying103 rfl sizeOf103 W a h
@[go_sem] theorem row_store103 (g : Nat) (cs : Array Value) (h : rowB W g 7 = true) (hs : cs.size = 7) (h1 : oneB cs = true) : (storeRow 103 (.pointer (some ⟨g, 0, none⟩)) (.agg cs)).run Try.prog W = .ok .skip (W.setRow g cs) := run_storeRow 103 7 sizeOf103 W g cs h hs h1
/-! 104: [2][]uint8 (2 cells) -/
@[go_sem ↓] theorem exec_load104 : execOp ρ ⟨dst, .load 104 x, ty, pos, after, guard⟩ = loadRow 104 (ρ x) := rfl
@[go_sem ↓] theorem exec_store104 : execOp ρ ⟨dst, .store 104 x y, ty, pos, after, guard⟩ = storeRow 104 (ρ x) (ρ y) := rfl
@[go_sem ↓] theorem exec_eql104 : execOp ρ ⟨dst, .binOp .eql 104 x y yt, ty, pos, after, guard⟩ = eqRow .eql 104 x y (ρ x) (ρ y) := rfl
@[go_sem ↓] theorem exec_neq104 : execOp ρ ⟨dst, .binOp .neq 104 x y yt, ty, pos, after, guard⟩ = eqRow .neq 104 x y (ρ x) (ρ y) := rfl
@[go_sem ↓] theorem exec_index104 : execOp ρ ⟨dst, .index 104 x y, ty, pos, after, guard⟩ = indexRow 104 (ρ x) (ρ y) := rfl
theorem sizeOf104 : (Try.prog.info? 104).map (·.size) = some 2 := by kernel_rfl
@[go_sem] theorem row_load104 (h : segB W a 2 = true) : (loadRow 104 (.pointer (some a))).run Try.prog W = .ok (.value (.agg (segV W a 2))) W := run_loadRow 104 2 _ Try.underlying104 rfl sizeOf104 W a h
@[go_sem] theorem row_store104 (g : Nat) (cs : Array Value) (h : rowB W g 2 = true) (hs : cs.size = 2) (h1 : oneB cs = true) : (storeRow 104 (.pointer (some ⟨g, 0, none⟩)) (.agg cs)).run Try.prog W = .ok .skip (W.setRow g cs) := run_storeRow 104 2 sizeOf104 W g cs h hs h1
/-! 122: _ (1 cells) -/
@[go_sem ↓] theorem exec_load122 : execOp ρ ⟨dst, .load 122 x, ty, pos, after, guard⟩ = loadRow 122 (ρ x) := rfl
@[go_sem ↓] theorem exec_store122 : execOp ρ ⟨dst, .store 122 x y, ty, pos, after, guard⟩ = storeRow 122 (ρ x) (ρ y) := rfl
@[go_sem ↓] theorem exec_eql122 : execOp ρ ⟨dst, .binOp .eql 122 x y yt, ty, pos, after, guard⟩ = eqRow .eql 122 x y (ρ x) (ρ y) := rfl
@[go_sem ↓] theorem exec_neq122 : execOp ρ ⟨dst, .binOp .neq 122 x y yt, ty, pos, after, guard⟩ = eqRow .neq 122 x y (ρ x) (ρ y) := rfl
theorem sizeOf122 : (Try.prog.info? 122).map (·.size) = some 1 := by kernel_rfl
@[go_sem] theorem row_load122 (h : segB W a 1 = true) : (loadRow 122 (.pointer (some a))).run Try.prog W = .ok (.value (.agg (segV W a 1))) W := run_loadRow 122 1 _ Try.underlying122 rfl sizeOf122 W a h
@[go_sem] theorem row_store122 (g : Nat) (cs : Array Value) (h : rowB W g 1 = true) (hs : cs.size = 1) (h1 : oneB cs = true) : (storeRow 122 (.pointer (some ⟨g, 0, none⟩)) (.agg cs)).run Try.prog W = .ok .skip (W.setRow g cs) := run_storeRow 122 1 sizeOf122 W g cs h hs h1
/-! 123: sync/atomic.Int64 (1 cells) -/
@[go_sem ↓] theorem exec_load123 : execOp ρ ⟨dst, .load 123 x, ty, pos, after, guard⟩ = loadRow 123 (ρ x) := rfl
@[go_sem ↓] theorem exec_store123 : execOp ρ ⟨dst, .store 123 x y, ty, pos, after, guard⟩ = storeRow 123 (ρ x) (ρ y) := rfl
@[go_sem ↓] theorem exec_eql123 : execOp ρ ⟨dst, .binOp .eql 123 x y yt, ty, pos, after, guard⟩ = eqRow .eql 123 x y (ρ x) (ρ y) := rfl
@[go_sem ↓] theorem exec_neq123 : execOp ρ ⟨dst, .binOp .neq 123 x y yt, ty, pos, after, guard⟩ = eqRow .neq 123 x y (ρ x) (ρ y) := rfl
theorem sizeOf123 : (Try.prog.info? 123).map (·.size) = some 1 := by kernel_rfl
@[go_sem] theorem row_load123 (h : segB W a 1 = true) : (loadRow 123 (.pointer (some a))).run Try.prog W = .ok (.value (.agg (segV W a 1))) W := run_loadRow 123 1 _ Try.underlying123 rfl sizeOf123 W a h
@[go_sem] theorem row_store123 (g : Nat) (cs : Array Value) (h : rowB W g 1 = true) (hs : cs.size = 1) (h1 : oneB cs = true) : (storeRow 123 (.pointer (some ⟨g, 0, none⟩)) (.agg cs)).run Try.prog W = .ok .skip (W.setRow g cs) := run_storeRow 123 1 sizeOf123 W g cs h hs h1
/-! 124: inputs (3 cells) -/
@[go_sem ↓] theorem exec_load124 : execOp ρ ⟨dst, .load 124 x, ty, pos, after, guard⟩ = loadRow 124 (ρ x) := rfl
@[go_sem ↓] theorem exec_store124 : execOp ρ ⟨dst, .store 124 x y, ty, pos, after, guard⟩ = storeRow 124 (ρ x) (ρ y) := rfl
@[go_sem ↓] theorem exec_eql124 : execOp ρ ⟨dst, .binOp .eql 124 x y yt, ty, pos, after, guard⟩ = eqRow .eql 124 x y (ρ x) (ρ y) := rfl
@[go_sem ↓] theorem exec_neq124 : execOp ρ ⟨dst, .binOp .neq 124 x y yt, ty, pos, after, guard⟩ = eqRow .neq 124 x y (ρ x) (ρ y) := rfl
theorem sizeOf124 : (Try.prog.info? 124).map (·.size) = some 3 := by kernel_rfl
@[go_sem] theorem row_load124 (h : segB W a 3 = true) : (loadRow 124 (.pointer (some a))).run Try.prog W = .ok (.value (.agg (segV W a 3))) W := run_loadRow 124 3 _ Try.underlying124 rfl sizeOf124 W a h
@[go_sem] theorem row_store124 (g : Nat) (cs : Array Value) (h : rowB W g 3 = true) (hs : cs.size = 3) (h1 : oneB cs = true) : (storeRow 124 (.pointer (some ⟨g, 0, none⟩)) (.agg cs)).run Try.prog W = .ok .skip (W.setRow g cs) := run_storeRow 124 3 sizeOf124 W g cs h hs h1
/-! 125: bastide/ink.Book (3 cells) -/
@[go_sem ↓] theorem exec_load125 : execOp ρ ⟨dst, .load 125 x, ty, pos, after, guard⟩ = loadRow 125 (ρ x) := rfl
@[go_sem ↓] theorem exec_store125 : execOp ρ ⟨dst, .store 125 x y, ty, pos, after, guard⟩ = storeRow 125 (ρ x) (ρ y) := rfl
@[go_sem ↓] theorem exec_eql125 : execOp ρ ⟨dst, .binOp .eql 125 x y yt, ty, pos, after, guard⟩ = eqRow .eql 125 x y (ρ x) (ρ y) := rfl
@[go_sem ↓] theorem exec_neq125 : execOp ρ ⟨dst, .binOp .neq 125 x y yt, ty, pos, after, guard⟩ = eqRow .neq 125 x y (ρ x) (ρ y) := rfl
theorem sizeOf125 : (Try.prog.info? 125).map (·.size) = some 3 := by kernel_rfl
@[go_sem] theorem row_load125 (h : segB W a 3 = true) : (loadRow 125 (.pointer (some a))).run Try.prog W = .ok (.value (.agg (segV W a 3))) W := run_loadRow 125 3 _ Try.underlying125 rfl sizeOf125 W a h
@[go_sem] theorem row_store125 (g : Nat) (cs : Array Value) (h : rowB W g 3 = true) (hs : cs.size = 3) (h1 : oneB cs = true) : (storeRow 125 (.pointer (some ⟨g, 0, none⟩)) (.agg cs)).run Try.prog W = .ok .skip (W.setRow g cs) := run_storeRow 125 3 sizeOf125 W g cs h hs h1
/-! 130: book (38 cells) -/
@[go_sem ↓] theorem exec_load130 : execOp ρ ⟨dst, .load 130 x, ty, pos, after, guard⟩ = loadRow 130 (ρ x) := rfl
@[go_sem ↓] theorem exec_store130 : execOp ρ ⟨dst, .store 130 x y, ty, pos, after, guard⟩ = storeRow 130 (ρ x) (ρ y) := rfl
@[go_sem ↓] theorem exec_eql130 : execOp ρ ⟨dst, .binOp .eql 130 x y yt, ty, pos, after, guard⟩ = eqRow .eql 130 x y (ρ x) (ρ y) := rfl
@[go_sem ↓] theorem exec_neq130 : execOp ρ ⟨dst, .binOp .neq 130 x y yt, ty, pos, after, guard⟩ = eqRow .neq 130 x y (ρ x) (ρ y) := rfl
theorem sizeOf130 : (Try.prog.info? 130).map (·.size) = some 38 := by kernel_rfl
@[go_sem] theorem row_load130 (h : segB W a 38 = true) : (loadRow 130 (.pointer (some a))).run Try.prog W = .ok (.value (.agg (segV W a 38))) W := run_loadRow 130 38 _ Try.underlying130 rfl sizeOf130 W a h
@[go_sem] theorem row_store130 (g : Nat) (cs : Array Value) (h : rowB W g 38 = true) (hs : cs.size = 38) (h1 : oneB cs = true) : (storeRow 130 (.pointer (some ⟨g, 0, none⟩)) (.agg cs)).run Try.prog W = .ok .skip (W.setRow g cs) := run_storeRow 130 38 sizeOf130 W g cs h hs h1
/-! 131: bastide/fetch.Fetch (38 cells) -/
@[go_sem ↓] theorem exec_load131 : execOp ρ ⟨dst, .load 131 x, ty, pos, after, guard⟩ = loadRow 131 (ρ x) := rfl
@[go_sem ↓] theorem exec_store131 : execOp ρ ⟨dst, .store 131 x y, ty, pos, after, guard⟩ = storeRow 131 (ρ x) (ρ y) := rfl
@[go_sem ↓] theorem exec_eql131 : execOp ρ ⟨dst, .binOp .eql 131 x y yt, ty, pos, after, guard⟩ = eqRow .eql 131 x y (ρ x) (ρ y) := rfl
@[go_sem ↓] theorem exec_neq131 : execOp ρ ⟨dst, .binOp .neq 131 x y yt, ty, pos, after, guard⟩ = eqRow .neq 131 x y (ρ x) (ρ y) := rfl
theorem sizeOf131 : (Try.prog.info? 131).map (·.size) = some 38 := by kernel_rfl
@[go_sem] theorem row_load131 (h : segB W a 38 = true) : (loadRow 131 (.pointer (some a))).run Try.prog W = .ok (.value (.agg (segV W a 38))) W := run_loadRow 131 38 _ Try.underlying131 rfl sizeOf131 W a h
@[go_sem] theorem row_store131 (g : Nat) (cs : Array Value) (h : rowB W g 38 = true) (hs : cs.size = 38) (h1 : oneB cs = true) : (storeRow 131 (.pointer (some ⟨g, 0, none⟩)) (.agg cs)).run Try.prog W = .ok .skip (W.setRow g cs) := run_storeRow 131 38 sizeOf131 W g cs h hs h1
/-! 133: IsParts (5 cells) -/
@[go_sem ↓] theorem exec_load133 : execOp ρ ⟨dst, .load 133 x, ty, pos, after, guard⟩ = loadRow 133 (ρ x) := rfl
@[go_sem ↓] theorem exec_store133 : execOp ρ ⟨dst, .store 133 x y, ty, pos, after, guard⟩ = storeRow 133 (ρ x) (ρ y) := rfl
@[go_sem ↓] theorem exec_eql133 : execOp ρ ⟨dst, .binOp .eql 133 x y yt, ty, pos, after, guard⟩ = eqRow .eql 133 x y (ρ x) (ρ y) := rfl
@[go_sem ↓] theorem exec_neq133 : execOp ρ ⟨dst, .binOp .neq 133 x y yt, ty, pos, after, guard⟩ = eqRow .neq 133 x y (ρ x) (ρ y) := rfl
theorem sizeOf133 : (Try.prog.info? 133).map (·.size) = some 5 := by kernel_rfl
@[go_sem] theorem row_load133 (h : segB W a 5 = true) : (loadRow 133 (.pointer (some a))).run Try.prog W = .ok (.value (.agg (segV W a 5))) W := run_loadRow 133 5 _ Try.underlying133 rfl sizeOf133 W a h
@[go_sem] theorem row_store133 (g : Nat) (cs : Array Value) (h : rowB W g 5 = true) (hs : cs.size = 5) (h1 : oneB cs = true) : (storeRow 133 (.pointer (some ⟨g, 0, none⟩)) (.agg cs)).run Try.prog W = .ok .skip (W.setRow g cs) := run_storeRow 133 5 sizeOf133 W g cs h hs h1
/-! 134: bastide/bastidelaw21.Deed (5 cells) -/
@[go_sem ↓] theorem exec_load134 : execOp ρ ⟨dst, .load 134 x, ty, pos, after, guard⟩ = loadRow 134 (ρ x) := rfl
@[go_sem ↓] theorem exec_store134 : execOp ρ ⟨dst, .store 134 x y, ty, pos, after, guard⟩ = storeRow 134 (ρ x) (ρ y) := rfl
@[go_sem ↓] theorem exec_eql134 : execOp ρ ⟨dst, .binOp .eql 134 x y yt, ty, pos, after, guard⟩ = eqRow .eql 134 x y (ρ x) (ρ y) := rfl
@[go_sem ↓] theorem exec_neq134 : execOp ρ ⟨dst, .binOp .neq 134 x y yt, ty, pos, after, guard⟩ = eqRow .neq 134 x y (ρ x) (ρ y) := rfl
theorem sizeOf134 : (Try.prog.info? 134).map (·.size) = some 5 := by kernel_rfl
@[go_sem] theorem row_load134 (h : segB W a 5 = true) : (loadRow 134 (.pointer (some a))).run Try.prog W = .ok (.value (.agg (segV W a 5))) W := run_loadRow 134 5 _ Try.underlying134 rfl sizeOf134 W a h
@[go_sem] theorem row_store134 (g : Nat) (cs : Array Value) (h : rowB W g 5 = true) (hs : cs.size = 5) (h1 : oneB cs = true) : (storeRow 134 (.pointer (some ⟨g, 0, none⟩)) (.agg cs)).run Try.prog W = .ok .skip (W.setRow g cs) := run_storeRow 134 5 sizeOf134 W g cs h hs h1
/-! 137: L (2 cells) -/
@[go_sem ↓] theorem exec_load137 : execOp ρ ⟨dst, .load 137 x, ty, pos, after, guard⟩ = loadRow 137 (ρ x) := rfl
@[go_sem ↓] theorem exec_store137 : execOp ρ ⟨dst, .store 137 x y, ty, pos, after, guard⟩ = storeRow 137 (ρ x) (ρ y) := rfl
@[go_sem ↓] theorem exec_eql137 : execOp ρ ⟨dst, .binOp .eql 137 x y yt, ty, pos, after, guard⟩ = eqRow .eql 137 x y (ρ x) (ρ y) := rfl
@[go_sem ↓] theorem exec_neq137 : execOp ρ ⟨dst, .binOp .neq 137 x y yt, ty, pos, after, guard⟩ = eqRow .neq 137 x y (ρ x) (ρ y) := rfl
theorem sizeOf137 : (Try.prog.info? 137).map (·.size) = some 2 := by kernel_rfl
@[go_sem] theorem row_load137 (h : segB W a 2 = true) : (loadRow 137 (.pointer (some a))).run Try.prog W = .ok (.value (.agg (segV W a 2))) W := run_loadRow 137 2 _ Try.underlying137 rfl sizeOf137 W a h
@[go_sem] theorem row_store137 (g : Nat) (cs : Array Value) (h : rowB W g 2 = true) (hs : cs.size = 2) (h1 : oneB cs = true) : (storeRow 137 (.pointer (some ⟨g, 0, none⟩)) (.agg cs)).run Try.prog W = .ok .skip (W.setRow g cs) := run_storeRow 137 2 sizeOf137 W g cs h hs h1
/-! 138: bastide/bastideref03.Book (2 cells) -/
@[go_sem ↓] theorem exec_load138 : execOp ρ ⟨dst, .load 138 x, ty, pos, after, guard⟩ = loadRow 138 (ρ x) := rfl
@[go_sem ↓] theorem exec_store138 : execOp ρ ⟨dst, .store 138 x y, ty, pos, after, guard⟩ = storeRow 138 (ρ x) (ρ y) := rfl
@[go_sem ↓] theorem exec_eql138 : execOp ρ ⟨dst, .binOp .eql 138 x y yt, ty, pos, after, guard⟩ = eqRow .eql 138 x y (ρ x) (ρ y) := rfl
@[go_sem ↓] theorem exec_neq138 : execOp ρ ⟨dst, .binOp .neq 138 x y yt, ty, pos, after, guard⟩ = eqRow .neq 138 x y (ρ x) (ρ y) := rfl
theorem sizeOf138 : (Try.prog.info? 138).map (·.size) = some 2 := by kernel_rfl
@[go_sem] theorem row_load138 (h : segB W a 2 = true) : (loadRow 138 (.pointer (some a))).run Try.prog W = .ok (.value (.agg (segV W a 2))) W := run_loadRow 138 2 _ Try.underlying138 rfl sizeOf138 W a h
@[go_sem] theorem row_store138 (g : Nat) (cs : Array Value) (h : rowB W g 2 = true) (hs : cs.size = 2) (h1 : oneB cs = true) : (storeRow 138 (.pointer (some ⟨g, 0, none⟩)) (.agg cs)).run Try.prog W = .ok .skip (W.setRow g cs) := run_storeRow 138 2 sizeOf138 W g cs h hs h1
/-! 142: B (2 cells) -/
@[go_sem ↓] theorem exec_load142 : execOp ρ ⟨dst, .load 142 x, ty, pos, after, guard⟩ = loadRow 142 (ρ x) := rfl
@[go_sem ↓] theorem exec_store142 : execOp ρ ⟨dst, .store 142 x y, ty, pos, after, guard⟩ = storeRow 142 (ρ x) (ρ y) := rfl
@[go_sem ↓] theorem exec_eql142 : execOp ρ ⟨dst, .binOp .eql 142 x y yt, ty, pos, after, guard⟩ = eqRow .eql 142 x y (ρ x) (ρ y) := rfl
@[go_sem ↓] theorem exec_neq142 : execOp ρ ⟨dst, .binOp .neq 142 x y yt, ty, pos, after, guard⟩ = eqRow .neq 142 x y (ρ x) (ρ y) := rfl
theorem sizeOf142 : (Try.prog.info? 142).map (·.size) = some 2 := by kernel_rfl
@[go_sem] theorem row_load142 (h : segB W a 2 = true) : (loadRow 142 (.pointer (some a))).run Try.prog W = .ok (.value (.agg (segV W a 2))) W := run_loadRow 142 2 _ Try.underlying142 rfl sizeOf142 W a h
@[go_sem] theorem row_store142 (g : Nat) (cs : Array Value) (h : rowB W g 2 = true) (hs : cs.size = 2) (h1 : oneB cs = true) : (storeRow 142 (.pointer (some ⟨g, 0, none⟩)) (.agg cs)).run Try.prog W = .ok .skip (W.setRow g cs) := run_storeRow 142 2 sizeOf142 W g cs h hs h1
/-! 143: bastide/bastideref09.Tree (2 cells) -/
@[go_sem ↓] theorem exec_load143 : execOp ρ ⟨dst, .load 143 x, ty, pos, after, guard⟩ = loadRow 143 (ρ x) := rfl
@[go_sem ↓] theorem exec_store143 : execOp ρ ⟨dst, .store 143 x y, ty, pos, after, guard⟩ = storeRow 143 (ρ x) (ρ y) := rfl
@[go_sem ↓] theorem exec_eql143 : execOp ρ ⟨dst, .binOp .eql 143 x y yt, ty, pos, after, guard⟩ = eqRow .eql 143 x y (ρ x) (ρ y) := rfl
@[go_sem ↓] theorem exec_neq143 : execOp ρ ⟨dst, .binOp .neq 143 x y yt, ty, pos, after, guard⟩ = eqRow .neq 143 x y (ρ x) (ρ y) := rfl
theorem sizeOf143 : (Try.prog.info? 143).map (·.size) = some 2 := by kernel_rfl
@[go_sem] theorem row_load143 (h : segB W a 2 = true) : (loadRow 143 (.pointer (some a))).run Try.prog W = .ok (.value (.agg (segV W a 2))) W := run_loadRow 143 2 _ Try.underlying143 rfl sizeOf143 W a h
@[go_sem] theorem row_store143 (g : Nat) (cs : Array Value) (h : rowB W g 2 = true) (hs : cs.size = 2) (h1 : oneB cs = true) : (storeRow 143 (.pointer (some ⟨g, 0, none⟩)) (.agg cs)).run Try.prog W = .ok .skip (W.setRow g cs) := run_storeRow 143 2 sizeOf143 W g cs h hs h1
/-! 153: level (2 cells) -/
@[go_sem ↓] theorem exec_load153 : execOp ρ ⟨dst, .load 153 x, ty, pos, after, guard⟩ = loadRow 153 (ρ x) := rfl
@[go_sem ↓] theorem exec_store153 : execOp ρ ⟨dst, .store 153 x y, ty, pos, after, guard⟩ = storeRow 153 (ρ x) (ρ y) := rfl
@[go_sem ↓] theorem exec_eql153 : execOp ρ ⟨dst, .binOp .eql 153 x y yt, ty, pos, after, guard⟩ = eqRow .eql 153 x y (ρ x) (ρ y) := rfl
@[go_sem ↓] theorem exec_neq153 : execOp ρ ⟨dst, .binOp .neq 153 x y yt, ty, pos, after, guard⟩ = eqRow .neq 153 x y (ρ x) (ρ y) := rfl
theorem sizeOf153 : (Try.prog.info? 153).map (·.size) = some 2 := by kernel_rfl
@[go_sem] theorem row_load153 (h : segB W a 2 = true) : (loadRow 153 (.pointer (some a))).run Try.prog W = .ok (.value (.agg (segV W a 2))) W := run_loadRow 153 2 _ Try.underlying153 rfl sizeOf153 W a h
@[go_sem] theorem row_store153 (g : Nat) (cs : Array Value) (h : rowB W g 2 = true) (hs : cs.size = 2) (h1 : oneB cs = true) : (storeRow 153 (.pointer (some ⟨g, 0, none⟩)) (.agg cs)).run Try.prog W = .ok .skip (W.setRow g cs) := run_storeRow 153 2 sizeOf153 W g cs h hs h1
/-! 154: bastide/fetch.spot (2 cells) -/
@[go_sem ↓] theorem exec_load154 : execOp ρ ⟨dst, .load 154 x, ty, pos, after, guard⟩ = loadRow 154 (ρ x) := rfl
@[go_sem ↓] theorem exec_store154 : execOp ρ ⟨dst, .store 154 x y, ty, pos, after, guard⟩ = storeRow 154 (ρ x) (ρ y) := rfl
@[go_sem ↓] theorem exec_eql154 : execOp ρ ⟨dst, .binOp .eql 154 x y yt, ty, pos, after, guard⟩ = eqRow .eql 154 x y (ρ x) (ρ y) := rfl
@[go_sem ↓] theorem exec_neq154 : execOp ρ ⟨dst, .binOp .neq 154 x y yt, ty, pos, after, guard⟩ = eqRow .neq 154 x y (ρ x) (ρ y) := rfl
theorem sizeOf154 : (Try.prog.info? 154).map (·.size) = some 2 := by kernel_rfl
@[go_sem] theorem row_load154 (h : segB W a 2 = true) : (loadRow 154 (.pointer (some a))).run Try.prog W = .ok (.value (.agg (segV W a 2))) W := run_loadRow 154 2 _ Try.underlying154 rfl sizeOf154 W a h
@[go_sem] theorem row_store154 (g : Nat) (cs : Array Value) (h : rowB W g 2 = true) (hs : cs.size = 2) (h1 : oneB cs = true) : (storeRow 154 (.pointer (some ⟨g, 0, none⟩)) (.agg cs)).run Try.prog W = .ok .skip (W.setRow g cs) := run_storeRow 154 2 sizeOf154 W g cs h hs h1
/-! 180: [64]uint32 (64 cells) -/
@[go_sem ↓] theorem exec_load180 : execOp ρ ⟨dst, .load 180 x, ty, pos, after, guard⟩ = loadRow 180 (ρ x) := rfl
@[go_sem ↓] theorem exec_store180 : execOp ρ ⟨dst, .store 180 x y, ty, pos, after, guard⟩ = storeRow 180 (ρ x) (ρ y) := rfl
@[go_sem ↓] theorem exec_eql180 : execOp ρ ⟨dst, .binOp .eql 180 x y yt, ty, pos, after, guard⟩ = eqRow .eql 180 x y (ρ x) (ρ y) := rfl
@[go_sem ↓] theorem exec_neq180 : execOp ρ ⟨dst, .binOp .neq 180 x y yt, ty, pos, after, guard⟩ = eqRow .neq 180 x y (ρ x) (ρ y) := rfl
@[go_sem ↓] theorem exec_index180 : execOp ρ ⟨dst, .index 180 x y, ty, pos, after, guard⟩ = indexRow 180 (ρ x) (ρ y) := rfl
theorem sizeOf180 : (Try.prog.info? 180).map (·.size) = some 64 := by kernel_rfl
@[go_sem] theorem row_load180 (h : segB W a 64 = true) : (loadRow 180 (.pointer (some a))).run Try.prog W = .ok (.value (.agg (segV W a 64))) W := run_loadRow 180 64 _ Try.underlying180 rfl sizeOf180 W a h
@[go_sem] theorem row_store180 (g : Nat) (cs : Array Value) (h : rowB W g 64 = true) (hs : cs.size = 64) (h1 : oneB cs = true) : (storeRow 180 (.pointer (some ⟨g, 0, none⟩)) (.agg cs)).run Try.prog W = .ok .skip (W.setRow g cs) := run_storeRow 180 64 sizeOf180 W g cs h hs h1
/-! 181: [8]uint32 (8 cells) -/
@[go_sem ↓] theorem exec_load181 : execOp ρ ⟨dst, .load 181 x, ty, pos, after, guard⟩ = loadRow 181 (ρ x) := rfl
@[go_sem ↓] theorem exec_store181 : execOp ρ ⟨dst, .store 181 x y, ty, pos, after, guard⟩ = storeRow 181 (ρ x) (ρ y) := rfl
@[go_sem ↓] theorem exec_eql181 : execOp ρ ⟨dst, .binOp .eql 181 x y yt, ty, pos, after, guard⟩ = eqRow .eql 181 x y (ρ x) (ρ y) := rfl
@[go_sem ↓] theorem exec_neq181 : execOp ρ ⟨dst, .binOp .neq 181 x y yt, ty, pos, after, guard⟩ = eqRow .neq 181 x y (ρ x) (ρ y) := rfl
@[go_sem ↓] theorem exec_index181 : execOp ρ ⟨dst, .index 181 x y, ty, pos, after, guard⟩ = indexRow 181 (ρ x) (ρ y) := rfl
theorem sizeOf181 : (Try.prog.info? 181).map (·.size) = some 8 := by kernel_rfl
@[go_sem] theorem row_load181 (h : segB W a 8 = true) : (loadRow 181 (.pointer (some a))).run Try.prog W = .ok (.value (.agg (segV W a 8))) W := run_loadRow 181 8 _ Try.underlying181 rfl sizeOf181 W a h
@[go_sem] theorem row_store181 (g : Nat) (cs : Array Value) (h : rowB W g 8 = true) (hs : cs.size = 8) (h1 : oneB cs = true) : (storeRow 181 (.pointer (some ⟨g, 0, none⟩)) (.agg cs)).run Try.prog W = .ok .skip (W.setRow g cs) := run_storeRow 181 8 sizeOf181 W g cs h hs h1
/-! 182: [64]uint8 (64 cells) -/
@[go_sem ↓] theorem exec_load182 : execOp ρ ⟨dst, .load 182 x, ty, pos, after, guard⟩ = loadRow 182 (ρ x) := rfl
@[go_sem ↓] theorem exec_store182 : execOp ρ ⟨dst, .store 182 x y, ty, pos, after, guard⟩ = storeRow 182 (ρ x) (ρ y) := rfl
@[go_sem ↓] theorem exec_eql182 : execOp ρ ⟨dst, .binOp .eql 182 x y yt, ty, pos, after, guard⟩ = eqRow .eql 182 x y (ρ x) (ρ y) := rfl
@[go_sem ↓] theorem exec_neq182 : execOp ρ ⟨dst, .binOp .neq 182 x y yt, ty, pos, after, guard⟩ = eqRow .neq 182 x y (ρ x) (ρ y) := rfl
@[go_sem ↓] theorem exec_index182 : execOp ρ ⟨dst, .index 182 x y, ty, pos, after, guard⟩ = indexRow 182 (ρ x) (ρ y) := rfl
theorem sizeOf182 : (Try.prog.info? 182).map (·.size) = some 64 := by kernel_rfl
@[go_sem] theorem row_load182 (h : segB W a 64 = true) : (loadRow 182 (.pointer (some a))).run Try.prog W = .ok (.value (.agg (segV W a 64))) W := run_loadRow 182 64 _ Try.underlying182 rfl sizeOf182 W a h
@[go_sem] theorem row_store182 (g : Nat) (cs : Array Value) (h : rowB W g 64 = true) (hs : cs.size = 64) (h1 : oneB cs = true) : (storeRow 182 (.pointer (some ⟨g, 0, none⟩)) (.agg cs)).run Try.prog W = .ok .skip (W.setRow g cs) := run_storeRow 182 64 sizeOf182 W g cs h hs h1
/-! 183: begun (142 cells) -/
@[go_sem ↓] theorem exec_load183 : execOp ρ ⟨dst, .load 183 x, ty, pos, after, guard⟩ = loadRow 183 (ρ x) := rfl
@[go_sem ↓] theorem exec_store183 : execOp ρ ⟨dst, .store 183 x y, ty, pos, after, guard⟩ = storeRow 183 (ρ x) (ρ y) := rfl
@[go_sem ↓] theorem exec_eql183 : execOp ρ ⟨dst, .binOp .eql 183 x y yt, ty, pos, after, guard⟩ = eqRow .eql 183 x y (ρ x) (ρ y) := rfl
@[go_sem ↓] theorem exec_neq183 : execOp ρ ⟨dst, .binOp .neq 183 x y yt, ty, pos, after, guard⟩ = eqRow .neq 183 x y (ρ x) (ρ y) := rfl
theorem sizeOf183 : (Try.prog.info? 183).map (·.size) = some 142 := by kernel_rfl
@[go_sem] theorem row_load183 (h : segB W a 142 = true) : (loadRow 183 (.pointer (some a))).run Try.prog W = .ok (.value (.agg (segV W a 142))) W := run_loadRow 183 142 _ Try.underlying183 rfl sizeOf183 W a h
@[go_sem] theorem row_store183 (g : Nat) (cs : Array Value) (h : rowB W g 142 = true) (hs : cs.size = 142) (h1 : oneB cs = true) : (storeRow 183 (.pointer (some ⟨g, 0, none⟩)) (.agg cs)).run Try.prog W = .ok .skip (W.setRow g cs) := run_storeRow 183 142 sizeOf183 W g cs h hs h1
/-! 184: bastide/sha.Hash (142 cells) -/
@[go_sem ↓] theorem exec_load184 : execOp ρ ⟨dst, .load 184 x, ty, pos, after, guard⟩ = loadRow 184 (ρ x) := rfl
@[go_sem ↓] theorem exec_store184 : execOp ρ ⟨dst, .store 184 x y, ty, pos, after, guard⟩ = storeRow 184 (ρ x) (ρ y) := rfl
@[go_sem ↓] theorem exec_eql184 : execOp ρ ⟨dst, .binOp .eql 184 x y yt, ty, pos, after, guard⟩ = eqRow .eql 184 x y (ρ x) (ρ y) := rfl
@[go_sem ↓] theorem exec_neq184 : execOp ρ ⟨dst, .binOp .neq 184 x y yt, ty, pos, after, guard⟩ = eqRow .neq 184 x y (ρ x) (ρ y) := rfl
theorem sizeOf184 : (Try.prog.info? 184).map (·.size) = some 142 := by kernel_rfl
@[go_sem] theorem row_load184 (h : segB W a 142 = true) : (loadRow 184 (.pointer (some a))).run Try.prog W = .ok (.value (.agg (segV W a 142))) W := run_loadRow 184 142 _ Try.underlying184 rfl sizeOf184 W a h
@[go_sem] theorem row_store184 (g : Nat) (cs : Array Value) (h : rowB W g 142 = true) (hs : cs.size = 142) (h1 : oneB cs = true) : (storeRow 184 (.pointer (some ⟨g, 0, none⟩)) (.agg cs)).run Try.prog W = .ok .skip (W.setRow g cs) := run_storeRow 184 142 sizeOf184 W g cs h hs h1
end
end Go.Proofs.Ytnncpjekcljfbaa
/- A region that draws its order, whose operations, but for a tail in one forced order, each give one value in every world that meets a condition S and keep S: it is walked once, in the order of the text. (Loads beside calls that make memory.) No program is named. -/
namespace Go.Proofs.Ytnncpjekcljfbaa
section
variable {P : Program} {ops : Array Oper} {md : Region.Mode} {S : World → Prop}

/-- a step's outcome: the value v, and S still holds -/
def GoodRun (P : Program) (S : World → Prop) (v : Value) : Result Next → Prop
  | .ok (.value u) w' => u = v ∧ S w'
  | .ok .skip w' => v = undef ∧ S w'
  | .ok (.enter f args) w' => Calls P f args w' fun e w'' => e = .returned v ∧ S w''
  | _ => False

@[go_sem] theorem goodRun_value (P : Program) (S : World → Prop) (v u : Value) (w : World) : GoodRun P S v (.ok (.value u) w) = (u = v ∧ S w) := rfl
@[go_sem] theorem goodRun_enter (P : Program) (S : World → Prop) (v : Value) (f : FuncId) (args : Array Value) (w : World) : GoodRun P S v (.ok (.enter f args) w) = Calls P f args w fun e w'' => e = .returned v ∧ S w'' := rfl

def MildAt (P : Program) (S : World → Prop) (o : Oper) (a : Act) (v : Value) : Prop := ∀ w, S w → GoodRun P S v ((execOp a.eval o).run P w)

def mdOp (P : Program) (ops : Array Oper) (S : World → Prop) (i : Nat) (K : Act → Prop) (a : Act) : Prop :=
  match ops[i]? with
  | none => K a
  | some o => if Region.wanted o (yielded ops a.tmps) then ∃ v, MildAt P S o a v ∧ K (a.put o.dst v) else K (a.put o.dst undef)

def wpMild (P : Program) (ops : Array Oper) (S : World → Prop) (Q : Act → Prop) : List Oper → Act → Prop
  | [], a => Q a
  | o :: rest, a => if Region.wanted o (yielded ops a.tmps) then ∃ v, MildAt P S o a v ∧ wpMild P ops S Q rest (a.put o.dst v) else wpMild P ops S Q rest (a.put o.dst undef)

theorem wpMild_nil {Q : Act → Prop} {a : Act} (h : Q a) : wpMild P ops S Q [] a := h
theorem wpMild_step {Q : Act → Prop} {a : Act} {o : Oper} {rest : List Oper}
    (h : ∀ K : Act → Prop, (∀ a, wpMild P ops S Q rest a → K a) → if Region.wanted o (yielded ops a.tmps) then ∃ v, MildAt P S o a v ∧ K (a.put o.dst v) else K (a.put o.dst undef)) : wpMild P ops S Q (o :: rest) a :=
  h _ (fun _ h => h)
/-- .. without a guard -/
theorem wpMild_op {Q : Act → Prop} {a : Act} {o : Oper} {rest : List Oper} {v : Value} (hg : o.guard = none) (hm : MildAt P S o a v) (h : wpMild P ops S Q rest (a.put o.dst v)) : wpMild P ops S Q (o :: rest) a := by
  unfold wpMild
  rw [if_pos (by simp [Region.wanted, hg])]
  exact ⟨v, hm, h⟩
/-- .. with a guard that lets it by -/
theorem wpMild_on {Q : Act → Prop} {a : Act} {o : Oper} {rest : List Oper} {v : Value} (hg : Region.wanted o (yielded ops a.tmps) = true) (hm : MildAt P S o a v) (h : wpMild P ops S Q rest (a.put o.dst v)) : wpMild P ops S Q (o :: rest) a := by
  unfold wpMild
  rw [if_pos hg]
  exact ⟨v, hm, h⟩
/-- .. with a guard that passes it over -/
theorem wpMild_off {Q : Act → Prop} {a : Act} {o : Oper} {rest : List Oper} (hg : Region.wanted o (yielded ops a.tmps) = false) (h : wpMild P ops S Q rest (a.put o.dst undef)) : wpMild P ops S Q (o :: rest) a := by
  unfold wpMild
  rw [if_neg (by rw [hg]; simp)]
  exact h

theorem mdOp_mono {i : Nat} {a : Act} {K K' : Act → Prop} (h : ∀ a, K a → K' a) (hh : mdOp P ops S i K a) : mdOp P ops S i K' a := by
  unfold mdOp at *
  split
  · exact h _ (by simpa [*] using hh)
  · rename_i o ho
    simp only [ho] at hh
    split
    · rename_i hw; simp only [hw, if_true] at hh; obtain ⟨v, h1, h2⟩ := hh; exact ⟨v, h1, h _ h2⟩
    · rename_i hw; simp only [hw] at hh; exact h _ hh

theorem wpOp_of_mdOp {i : Nat} {a : Act} {w : World} {K : Act → Prop} {K' : Act → World → Prop} {Q' : Exit → Act → World → Prop} (hS : S w) (h : ∀ a w, S w → K a → K' a w) (hh : mdOp P ops S i K a) : wpOp P ops Q' i K' a w := by
  unfold mdOp at hh
  unfold wpOp
  split
  · rename_i ho; simp only [ho] at hh; exact h _ _ hS hh
  · rename_i o ho
    simp only [ho] at hh
    split
    · rename_i hw
      simp only [hw, if_true] at hh
      obtain ⟨v, hm, hk⟩ := hh
      refine .inl ?_
      unfold Oper.wp
      have h1 := hm w hS
      generalize (execOp a.eval o).run P w = r at *
      cases r with
      | ok n w' =>
        cases n <;> simp only [GoodRun] at h1 <;> simp only [Oper.upon]
        case value u => obtain ⟨rfl, h2⟩ := h1; exact h _ _ h2 hk
        case skip => obtain ⟨rfl, h2⟩ := h1; exact h _ _ h2 hk
        case enter f args => exact h1.mono fun e w'' ⟨he, hs⟩ => by subst he; exact h _ _ hs hk
      | halt x w' => simp only [GoodRun] at h1
    · rename_i hw; simp only [hw] at hh; exact h _ _ hS hh

def YieldsM (P : Program) (ops : Array Oper) (S : World → Prop) (o : Oper) (v : Value) (a : Act) : Prop :=
  (Region.wanted o (yielded ops a.tmps) = true ∧ MildAt P S o a v) ∨ (Region.wanted o (yielded ops a.tmps) = false ∧ v = undef)

theorem YieldsM.mdOp {i : Nat} {o : Oper} {v : Value} {a : Act} (hi : ops[i]? = some o) (hy : YieldsM P ops S o v a) {K : Act → Prop} (h : K (a.put o.dst v)) : mdOp P ops S i K a := by
  unfold Proofs.Ytnncpjekcljfbaa.mdOp
  simp only [hi]
  rcases hy with ⟨hw, hv⟩ | ⟨hw, rfl⟩
  · simp only [hw, if_true]; exact ⟨v, hv, h⟩
  · simp only [hw, Bool.false_eq_true, if_false]; exact h

theorem YieldsM.of_same {o : Oper} {v : Value} {a a' : Act} (hy : YieldsM P ops S o v a) (he : execOp a'.eval o = execOp a.eval o)
    (hw : Region.wanted o (yielded ops a'.tmps) = Region.wanted o (yielded ops a.tmps)) : YieldsM P ops S o v a' := by
  unfold YieldsM MildAt at *
  rw [he, hw]
  exact hy

theorem yieldsM_of_mdOp {i : Nat} {o : Oper} {a : Act} {K : Act → Prop} (hi : ops[i]? = some o) (h : mdOp P ops S i K a) : ∃ v, YieldsM P ops S o v a ∧ K (a.put o.dst v) := by
  unfold mdOp at h
  simp only [hi] at h
  by_cases hw : Region.wanted o (yielded ops a.tmps) = true
  · simp only [hw, if_true] at h
    obtain ⟨v, h1, h2⟩ := h
    exact ⟨v, .inl ⟨hw, h1⟩, h2⟩
  · simp only [hw] at h
    exact ⟨undef, .inr ⟨by simpa using hw, rfl⟩, h⟩

theorem mdOp_put {j : Nat} {oi oj : Oper} {v : Value} (hj : ops[j]? = some oj) (hap : oi.apart ops oj = true)
    (hsi : ∀ cs b, oi.op ≠ .select cs b) (hsj : ∀ cs b, oj.op ≠ .select cs b) {K : Act → Prop} {a : Act}
    (hy : YieldsM P ops S oi v a) (h : mdOp P ops S j K (a.put oi.dst v)) :
    mdOp P ops S j (fun a' => YieldsM P ops S oi v a' ∧ K (a'.put oi.dst v)) a := by
  obtain ⟨h1, h2, h3⟩ := Oper.apart_spec hap
  have keep : ∀ (a : Act), YieldsM P ops S oi v a → ∀ u, YieldsM P ops S oi v (a.put oj.dst u) := fun a hy u =>
    hy.of_same (execOp_put oi hsi a oj.dst u h3) (wanted_put oi a oj.dst u h3)
  unfold mdOp at *
  simp only [hj] at *
  rw [wanted_put oj a oi.dst v h1] at h
  split
  · rename_i hw
    simp only [hw, if_true] at h
    obtain ⟨u, hm, hk⟩ := h
    refine ⟨u, ?_, keep a hy u, by rw [← Act.put_comm a v u h2]; exact hk⟩
    unfold MildAt at *
    rwa [execOp_put oj hsj a oi.dst v h1] at hm
  · rename_i hw
    simp only [hw] at h
    exact ⟨keep a hy _, by rw [← Act.put_comm a v undef h2]; exact h⟩

/-- whatever order is picked among the first n, till L -/
def wpAnyM (P : Program) (md : Region.Mode) (ops : Array Oper) (S : World → Prop) (n : Nat) (L : Array Bool → Act → Prop) : Nat → Array Bool → Act → Prop
  | 0, listed, a => L listed a
  | f + 1, listed, a =>
    Region.ready md ops listed ≠ [] ∧ ∀ i ∈ Region.ready md ops listed, i < n ∧ mdOp P ops S i (wpAnyM P md ops S n L f (listed.setIfInBounds i true)) a

theorem wpAny_of_mild {n g : Nat} {L : Array Bool → Act → Prop} {Q' : Exit → Act → World → Prop} (hL : ∀ listed a w, S w → L listed a → wpAny P md ops Q' g listed a w) :
    ∀ (f : Nat) (listed : Array Bool) (a : Act) (w : World), S w → wpAnyM P md ops S n L f listed a → wpAny P md ops Q' (f + g) listed a w
  | 0, listed, a, w, hS, h => by rw [Nat.zero_add]; exact hL _ _ _ hS h
  | f + 1, listed, a, w, hS, h => by
    rw [show f + 1 + g = (f + g) + 1 by omega]
    exact ⟨fun h0 => absurd h0 h.1, fun i hi => wpOp_of_mdOp hS (fun a' w' hS' h' => wpAny_of_mild hL f _ a' w' hS' h') (h.2 i hi).2⟩

theorem wpAnyM_first {n i : Nat} {oi : Oper} {v : Value} {L : Array Bool → Act → Prop} (hi : ops[i]? = some oi) (hsel : ∀ (j : Nat) (o : Oper) cs b, ops[j]? = some o → o.op ≠ .select cs b)
    (hwait : ∀ (listed : Array Bool), HeadInv md ops n listed → ∀ k, k < n → listed.getD k true = false → ∀ t, n ≤ t → t ∉ Region.ready md ops listed) (hin : i < n)
    (hdone : ∀ listed a, L listed a → ∀ j ∈ Region.ready md ops listed, n ≤ j) :
    ∀ (f : Nat) (listed : Array Bool) (a : Act), HeadInv md ops n listed →
      (∀ j oj, ops[j]? = some oj → j ≠ i → listed.getD j true = false → (∀ e ∈ oj.after, Region.binds md e = true → e.on ≠ i) → oi.apart ops oj = true) →
      i ∈ Region.ready md ops listed → YieldsM P ops S oi v a →
      wpAnyM P md ops S n L f (listed.setIfInBounds i true) (a.put oi.dst v) → wpAnyM P md ops S n L (f + 1) listed a := by
  intro f
  induction f with
  | zero =>
    intro listed a inv _ hr hy H
    have hun := (mem_ready.1 hr).1
    refine ⟨fun h => (by rw [h] at hr; cases hr), fun j hj => ?_⟩
    have hjn : j < n := by
      rcases Nat.lt_or_ge j n with h | h
      · exact h
      · exact absurd hj (hwait listed inv i hin hun j h)
    refine ⟨hjn, ?_⟩
    by_cases hji : j = i
    · subst hji; exact hy.mdOp hi H
    · have := hdone _ _ H j (ready_mono hj hji)
      omega
  | succ f ih =>
    intro listed a inv hfree hr hy H
    have hun := (mem_ready.1 hr).1
    refine ⟨fun h => (by rw [h] at hr; cases hr), fun j hj => ?_⟩
    have hjn : j < n := by
      rcases Nat.lt_or_ge j n with h | h
      · exact h
      · exact absurd hj (hwait listed inv i hin hun j h)
    refine ⟨hjn, ?_⟩
    by_cases hji : j = i
    · subst hji; exact hy.mdOp hi H
    · have h1 := (H.2 j (ready_mono hj hji)).2
      obtain ⟨hjun, oj, hoj, hall⟩ := mem_ready.1 hj
      have hnot : ∀ e ∈ oj.after, Region.binds md e = true → e.on ≠ i := fun e he hb heq => by
        have h1 := hall e he hb
        rw [heq, getD_both hun] at h1
        cases h1
      have h2 := mdOp_put hoj (hfree j oj hoj hji hjun hnot) (fun cs b => hsel i oi cs b hi) (fun cs b => hsel j oj cs b hoj) hy h1
      have hfree' : ∀ k ok, ops[k]? = some ok → k ≠ i → (listed.setIfInBounds j true).getD k true = false →
          (∀ e ∈ ok.after, Region.binds md e = true → e.on ≠ i) → oi.apart ops ok = true := fun k ok hk hki hun hno => by
        refine hfree k ok hk hki ?_ hno
        by_cases hjk : j = k
        · subst hjk; exact hjun
        · rw [getD_set_ne true hjk] at hun; exact hun
      refine mdOp_mono (fun a' h3 => ih (listed.setIfInBounds j true) a' (inv.set hj hjn) hfree' (ready_mono hr (Ne.symm hji)) h3.1 ?_) h2
      rw [Array.setIfInBounds_comm _ _ hji]
      exact h3.2

theorem wpAnyM_lex {n g : Nat} {Lq : Act → Prop} (hsel : Region.noSelect ops = true)
    (hwait : ∀ (listed : Array Bool), HeadInv md ops n listed → ∀ k, k < n → listed.getD k true = false → ∀ t, n ≤ t → t ∉ Region.ready md ops listed) :
    ∀ (l : List Oper) (k : Nat) (listed : Array Bool) (a : Act), (∀ j, j < l.length → l[j]? = ops[k + j]?) → k + l.length = n → HeadInv md ops n listed →
    Region.lexHead md ops g l.length k listed = true → wpMild P ops S Lq l a →
    wpAnyM P md ops S n (fun listed' a' => Region.seqB md ops g n listed' = true ∧ Lq a') l.length listed a
  | [], k, listed, a, _, hk, _, hB, h => by
    have : k = n := by simpa using hk
    subst this
    exact ⟨by simpa [Region.lexHead] using hB, h⟩
  | o :: l, k, listed, a, hl, hk, inv, hB, h => by
    have h0 : ops[k]? = some o := by simpa using (hl 0 (by simp)).symm
    simp only [List.length_cons, Region.lexHead, Bool.and_eq_true] at hB
    obtain ⟨⟨hr, hf⟩, hB'⟩ := hB
    have hkn : k < n := by simp only [List.length_cons] at hk; omega
    have hr' : k ∈ Region.ready md ops listed := by simpa using hr
    have hst : mdOp P ops S k (wpMild P ops S Lq l) a := by unfold mdOp; simp only [h0]; exact h
    obtain ⟨v, hy, hK⟩ := yieldsM_of_mdOp h0 hst
    exact wpAnyM_first h0 (Region.noSelect_spec hsel) hwait hkn (fun listed' a' hL => seqB_ready hL.1) l.length listed a inv (Region.free_spec h0 hf) hr' hy
      (wpAnyM_lex hsel hwait l (k + 1) _ _ (fun j hj => by have := hl (j + 1) (by simp; omega); simpa [Nat.add_assoc, Nat.add_comm 1 j] using this) (by simp only [List.length_cons] at hk; omega) (inv.set hr' hkn) hB' hK)

/-- THE REGION, WITH A TAIL: the first n operations are mild under S; the rest come in one forced order. -/
theorem wp_region_mild {id : Nat} {Q : Exit → Act → World → Prop} {a : Act} {w : World} {l : List Oper} (n : Nat) (hm : P.follows .mixedOrders = true) (hB : Region.lexTailB .any l.toArray n = true) (S : World → Prop) (hS : S w.drew)
    (h : wpMild P l.toArray S (fun a' => ∀ w', S w' → wpList P l.toArray Q (l.drop n) a' w') (l.take n) a) : (Code.region id l.toArray true).wp P Q a w := by
  simp only [Region.lexTailB, Bool.and_eq_true, decide_eq_true_eq] at hB
  obtain ⟨⟨⟨⟨hsel, hn⟩, hs⟩, hc⟩, hlex⟩ := hB
  have hn' : n < l.length := by simpa using hn
  have htl : (l.take n).length = n := by simp; omega
  have hdl : (l.drop n).length = l.toArray.size - n := by simp
  have inv0 : HeadInv .any l.toArray n (Array.replicate l.toArray.size false) :=
    ⟨by simp, fun j oj _ hl => (by rw [getD_replicate_false] at hl; cases hl), fun t _ ht => getD_in (by simpa using ht) (getD_replicate_false _ _)⟩
  have H := wpAnyM_lex (md := .any) (g := l.toArray.size - n) hsel (fun listed inv k hk hun t ht => tail_waits hs hc hn inv _ k rfl hk hun t ht) (l.take n) 0 _ a (fun j hj => by
    have hj' : j < n := by rw [htl] at hj; exact hj
    simp [hj']) (by simpa using htl) inv0 (by rw [htl]; exact hlex) h
  refine wp_region_any hm ?_
  have := wpAny_of_mild (Q' := Q) (g := l.toArray.size - n) (fun listed a' w' hS' hL => by
    have := wpAny_of_seq (md := .any) (Q' := Q) (l.drop n) n listed a' w' (fun j => by simp [List.getElem?_drop]) (by rw [hdl]; exact hL.1) (hL.2 w' hS')
    rwa [hdl] at this) _ _ _ w.drew hS H
  rw [htl, show n + (l.toArray.size - n) = l.toArray.size by omega] at this
  exact this

/-- all are mild -/
theorem wp_region_mild_all {id : Nat} {Q : Exit → Act → World → Prop} {a : Act} {w : World} {l : List Oper} (hm : P.follows .mixedOrders = true)
    (hB : (Region.noSelect l.toArray && Region.lexHead .any l.toArray 0 l.length 0 (Array.replicate l.length false)) = true) (S : World → Prop) (hS : S w.drew)
    (h : wpMild P l.toArray S (fun a' => ∀ w', S w' → Q .normal a' w') l a) : (Code.region id l.toArray true).wp P Q a w := by
  simp only [Bool.and_eq_true] at hB
  obtain ⟨hsel, hlex⟩ := hB
  have inv0 : HeadInv .any l.toArray l.length (Array.replicate l.length false) :=
    ⟨by simp, fun j oj _ hl => (by rw [getD_replicate_false] at hl; cases hl), fun t h1 ht => absurd ht (by simpa using h1)⟩
  have H := wpAnyM_lex (md := .any) (n := l.length) (g := 0) hsel (fun listed inv k hk hun t ht hr => by
    obtain ⟨_, o, ho, _⟩ := mem_ready.1 hr
    have : t < l.length := by simpa using (Array.getElem?_eq_some_iff.1 ho).1
    omega) l 0 _ a (fun j hj => by simp) (by simp) inv0 hlex h
  refine wp_region_any hm ?_
  have := wpAny_of_mild (Q' := Q) (g := 0) (fun listed a' w' hS' hL => ⟨by
    simpa [Region.seqB] using hL.1, hL.2 w' hS'⟩) _ _ _ w.drew hS H
  simpa using this
end
end Go.Proofs.Ytnncpjekcljfbaa
/- Slices of whole rows that the call has made itself: appended to one by one. No program is named. -/
namespace Go.Proofs.Ytnncpjekcljfbaa
open Go.RowKit

section
variable {α : Type} {f : α → Array Value} {n : Nat}

/-- rows one behind the other -/
def rowsOf (f : α → Array Value) (l : List α) : List Value := l.flatMap fun x => (f x).toList
theorem rowsOf_cons (x : α) (l : List α) : rowsOf f (x :: l) = (f x).toList ++ rowsOf f l := rfl
theorem rowsOf_length (hf : ∀ x, (f x).size = n) (l : List α) : (rowsOf f l).length = l.length * n := by
  induction l with
  | nil => simp [rowsOf]
  | cons x l ih => rw [rowsOf_cons, List.length_append, ih, Array.length_toList, hf, List.length_cons, Nat.add_mul]; omega
theorem rowsOf_get (hf : ∀ x, (f x).size = n) : ∀ (l : List α) (k j : Nat) (h : k < l.length), j < n → (rowsOf f l)[k * n + j]? = (f l[k])[j]?
  | x :: l, 0, j, _, hj => by
    rw [rowsOf_cons, List.getElem?_append_left (by rw [Array.length_toList, hf]; omega)]
    simp
  | x :: l, k + 1, j, h, hj => by
    have hm : (k + 1) * n = k * n + n := by rw [Nat.add_mul, Nat.one_mul]
    rw [rowsOf_cons, List.getElem?_append_right (by rw [Array.length_toList, hf]; omega), Array.length_toList, hf]
    rw [show (k + 1) * n + j - n = k * n + j by omega]
    exact rowsOf_get hf l k j (by simpa using h) hj
theorem rowsOf_snoc (l : List α) (x : α) : rowsOf f l ++ (f x).toList = rowsOf f (l ++ [x]) := by simp [rowsOf]

/-- v is a slice of the rows of l, in a row of its own that was made behind B -/
def OwnRows (f : α → Array Value) (n : Nat) (W : World) (B t : Nat) (v : Value) (l : List α) : Prop := W.ownsRow B t n v l.length (rowsOf f l)

variable {W W' : World} {B t : Nat} {v : Value} {l : List α}
theorem OwnRows.nil (W : World) (B t : Nat) : OwnRows f n W B t (.slice none 0 0) [] := World.ownsRow_nil _ _ _ _
theorem OwnRows.form (h : OwnRows f n W B t v l) : ∃ A c, v = .slice A l.length c := by
  rcases Nat.eq_zero_or_pos l.length with h0 | h0
  · rcases h.2 with ⟨rfl, _⟩ | ⟨g, cap, cur, rfl, _⟩
    · exact ⟨_, _, by rw [h0]⟩
    · exact ⟨_, _, rfl⟩
  · obtain ⟨g, cap, rfl, _, _⟩ := World.ownsRow.form h h0
    exact ⟨_, _, rfl⟩
theorem OwnRows.get (hf : ∀ x, (f x).size = n) (h : OwnRows f n W B t v l) {k : Nat} (hk : k < l.length) :
    ∃ g c, v = .slice (some ⟨g, 0, none⟩) l.length c ∧ B ≤ g ∧ g < W.heap.size ∧ segB W ⟨g, k * n, none⟩ n = true ∧ segV W ⟨g, k * n, none⟩ n = f l[k] := by
  obtain ⟨g, cap, rfl, hb, hlt⟩ := World.ownsRow.form h (by omega)
  have hc : ∀ j u, (f l[k])[j]? = some u → W.cell? ((⟨g, k * n, none⟩ : Addr).add j) = some u := fun j u hu => by
    have hj : j < n := by have := (Array.getElem?_eq_some_iff.1 hu).1; rwa [hf] at this
    have := World.ownsRow.cells h (g := g) rfl (k * n + j) u (by rw [rowsOf_get hf l k j hk hj]; exact hu)
    rw [add_none] at this ⊢
    rwa [Nat.zero_add] at this
  exact ⟨g, cap, rfl, hb, hlt, segB_of hc (hf _), segV_of hc (hf _)⟩
theorem OwnRows.far (h : OwnRows f n W B t v l) {k : Nat} (hk : k < B ∨ W.heap.size ≤ k) : v.ownBlock ≠ some k := fun e => by
  have := World.ownsRow.lt h k e
  omega
theorem OwnRows.upd {S : Nat → Prop} (h : OwnRows f n W B t v l) (hu : Upd S W W') (hs : ∀ k, v.ownBlock = some k → ¬ S k) : OwnRows f n W' B t v l := by
  refine ⟨h.1, h.2.imp id fun ⟨g, cap, cur, hv, hb, hg, hr⟩ => ⟨g, cap, cur, hv, hb, ?_, hr⟩⟩
  subst hv
  exact (hu.block g (Array.getElem?_eq_some_iff.1 hg).1 (hs g rfl)).trans hg
theorem OwnRows.alloc (h : OwnRows f n W B t v l) (o : Obj) : OwnRows f n (W.alloc o) B t v l := h.upd ((Upd.refl (fun _ => False) W).alloc o) fun _ _ h => h
theorem OwnRows.drew (h : OwnRows f n W B t v l) : OwnRows f n W.drew B t v l := h.upd (Upd.refl (fun _ => False) W).drew fun _ _ h => h

/-- one row more -/
theorem run_append_rows {P : Program} (hf : ∀ x, (f x).size = n) (ts ty : TypeId) (i : TypeInfo) (z : Value) (bytes : Nat) (ht : P.underlying ts = some (.slice t)) (hi : P.info? t = some i) (hz : i.zero = some z)
    (hsize : i.size = n) (hby : i.bytes = bytes) (hzs : z.cells.size = n) (hn : 0 < n) (h1 : ∀ x, oneB (f x) = true)
    (h : OwnRows f n W B t v l) (x : α) (g c : Nat) (tg : TypeId) (fr : Nat × Nat) (hg : W.heap[g]? = some (.cells (f x) tg fr)) (h63 : l.length + 1 ≤ maxLen) (hbytes : (l.length + 1) * bytes ≤ 140737488355328) (hB : B ≤ W.heap.size) :
    ∃ v' W', (Builtin.append_ #[ts, ts] ty #[v, .slice (some ⟨g, 0, none⟩) 1 c]).run P W = .ok v' W' ∧ OwnRows f n W' B t v' (l ++ [x]) ∧ Upd (fun k => v.ownBlock = some k) W W' ∧ (v'.ownBlock = v.ownBlock ∨ v'.ownBlock = some W.heap.size) := by
  obtain ⟨v', W', hr, ho, hgr, _, hb⟩ := run_append_own_at (P := P) W B ts ty t i z n bytes ht hi hz hsize hby hzs hn v l.length (rowsOf f l) h ⟨g, 0, none⟩ 1 c (f x).toList (by rw [Array.length_toList, hf, Nat.one_mul])
    (fun j u hu => seg_block hg j u (by simpa using hu)) (fun u hu => by have := h1 x; unfold oneB at this; exact List.all_eq_true.1 this u hu) h63 hbytes hB
  refine ⟨v', W', hr, ?_, (Upd.of_grown hgr).mono fun k _ hk => hk.symm, hb⟩
  unfold OwnRows
  rw [rowsOf_snoc] at ho
  rw [List.length_append, List.length_singleton]
  exact ho
end

section
variable {P : Program} {α : Type} {f : α → Array Value} {n : Nat} {W : World} {B t : Nat} {v : Value} {l : List α} {o : Oper} {a : Act} {K : Act → World → Prop} {Q : Exit → Act → World → Prop} {ops : Array Oper} {rest : List Oper}
/-- what is known of a type of rows -/
structure RowType (P : Program) (f : α → Array Value) (n ts t bytes : Nat) : Prop where
  size : ∀ x, (f x).size = n
  one : ∀ x, oneB (f x) = true
  slice : P.underlying ts = some (.slice t)
  info : ∃ z, (P.info? t).map (fun i => (i.size, i.bytes, i.zero)) = some (n, bytes, some z) ∧ z.cells.size = n
  pos : 0 < n

theorem wp_append_rows {ts bytes : Nat} (R : RowType P f n ts t bytes) (s x : Operand) (ho : o.op = .call { callee := .builtin .append, args := #[s, x], argTypes := #[ts, ts] }) (hs : a.eval s = v) (h : OwnRows f n W B t v l)
    (e : α) (g c : Nat) (tg : TypeId) (fr : Nat × Nat) (hx : a.eval x = .slice (some ⟨g, 0, none⟩) 1 c) (hg : W.heap[g]? = some (.cells (f e) tg fr)) (h63 : l.length + 1 ≤ maxLen) (hbytes : (l.length + 1) * bytes ≤ 140737488355328) (hB : B ≤ W.heap.size)
    (hk : ∀ v' W', OwnRows f n W' B t v' (l ++ [e]) → Upd (fun k => v.ownBlock = some k) W W' → (v'.ownBlock = v.ownBlock ∨ v'.ownBlock = some W.heap.size) → K (a.put o.dst v') W') : o.wp P a W K Q := by
  obtain ⟨z, hinf, hzs⟩ := R.info
  obtain ⟨i, hi, hinf⟩ := Option.map_eq_some_iff.1 hinf
  simp only [Prod.mk.injEq] at hinf
  obtain ⟨hsz, hby, hz⟩ := hinf
  obtain ⟨v', W', hr, h2, h3, h4⟩ := run_append_rows (P := P) R.size ts o.type i z bytes R.slice hi hz hsz hby hzs R.pos R.one h e g c tg fr hg h63 hbytes hB
  unfold Oper.wp execOp
  simp only [ho, resolve, invoke, builtin, Sem.run_bind, Sem.run_pure, Result.andThen_ok, List.map_toArray, List.map_cons, List.map_nil, hs, hx, hr]
  exact hk v' W' h2 h3 h4

theorem step_append_rows {E : Prop} {ts bytes : Nat} (R : RowType P f n ts t bytes) (hgd : o.guard = none) (s x : Operand) (ho : o.op = .call { callee := .builtin .append, args := #[s, x], argTypes := #[ts, ts] }) (hs : a.eval s = v) (h : OwnRows f n W B t v l)
    (e : α) (g c : Nat) (tg : TypeId) (fr : Nat × Nat) (hx : a.eval x = .slice (some ⟨g, 0, none⟩) 1 c) (hg : W.heap[g]? = some (.cells (f e) tg fr)) (h63 : l.length + 1 ≤ maxLen) (hbytes : (l.length + 1) * bytes ≤ 140737488355328) (hB : B ≤ W.heap.size)
    (hk : ∀ v' W', OwnRows f n W' B t v' (l ++ [e]) → Upd (fun k => v.ownBlock = some k) W W' → (v'.ownBlock = v.ownBlock ∨ v'.ownBlock = some W.heap.size) → K (a.put o.dst v') W') :
    if Region.wanted o (yielded ops a.tmps) = true then o.wp P a W K Q else E := by
  rw [if_pos (by unfold Region.wanted; rw [hgd])]
  exact wp_append_rows R s x ho hs h e g c tg fr hx hg h63 hbytes hB hk

theorem wpList_append_rows {ts bytes : Nat} (R : RowType P f n ts t bytes) (hgd : o.guard = none) (s x : Operand) (ho : o.op = .call { callee := .builtin .append, args := #[s, x], argTypes := #[ts, ts] }) (hs : a.eval s = v) (h : OwnRows f n W B t v l)
    (e : α) (g c : Nat) (tg : TypeId) (fr : Nat × Nat) (hx : a.eval x = .slice (some ⟨g, 0, none⟩) 1 c) (hg : W.heap[g]? = some (.cells (f e) tg fr)) (h63 : l.length + 1 ≤ maxLen) (hbytes : (l.length + 1) * bytes ≤ 140737488355328) (hB : B ≤ W.heap.size)
    (hk : ∀ v' W', OwnRows f n W' B t v' (l ++ [e]) → Upd (fun k => v.ownBlock = some k) W W' → (v'.ownBlock = v.ownBlock ∨ v'.ownBlock = some W.heap.size) → wpList P ops Q rest (a.put o.dst v') W') : wpList P ops Q (o :: rest) a W :=
  wpList_plain hgd fun _ hK => wp_append_rows R s x ho hs h e g c tg fr hx hg h63 hbytes hB fun v' W' h2 h3 h4 => hK _ _ (hk v' W' h2 h3 h4)
end

/-- a slice that is written out, kept behind a name -/
def sliceRow (t : TypeId) (len : Nat) (parts : Array (Nat × Value)) : Sem Next := do pure (.value (← Instr.buildSlice t len parts))
theorem run_sliceRow {P : Program} (ts t : TypeId) (n : Nat) (z : Value) (cs : Array Value) (hu : P.underlying ts = some (.slice t)) (hie : (P.info? t).map (fun i => (i.size, i.zero)) = some (n, some z)) (hs : 0 < n) (hsm : n ≤ 1000) (hzs : z.cells.size = n) (hcs : cs.size = n) (W : World) :
    (sliceRow ts 1 #[(0, .agg cs)]).run P W = .ok (.value (.slice (some ⟨W.heap.size, 0, none⟩) 1 1)) (W.alloc (.cells cs t)) := by
  obtain ⟨ie, hie1, hie2⟩ := Option.map_eq_some_iff.1 hie
  simp only [Prod.mk.injEq] at hie2
  obtain ⟨rfl, hz⟩ := hie2
  have hl := fill_last 0 cs ((Array.range (1 * ie.size)).map (z.cells[· % z.cells.size]!)) (by simp [hcs])
  have h := run_buildSlice (P := P) W ts t 1 #[(0, .agg cs)] cs ie z hu hie1 hz (by omega) (by omega) (by
    have hsz : ((Array.range (1 * ie.size)).map (z.cells[· % z.cells.size]!)).size = ie.size := by simp
    generalize (Array.range (1 * ie.size)).map (z.cells[· % z.cells.size]!) = zz at *
    simp [Instr.fill, Value.cells, hcs, hsz]
    simp at hl
    rw [hcs] at hl
    exact hl)
  simp [sliceRow, h, Result.andThen]
end Go.Proofs.Ytnncpjekcljfbaa
/- Slices of whole rows that may have been cut down to their length ('s[:i:i]'): appended to, one row taken off. No program is named. -/
namespace Go.Proofs.Ytnncpjekcljfbaa
open Go.RowKit

section
variable {α : Type} {f : α → Array Value} {n : Nat}
theorem rowsOf_append (l m : List α) : rowsOf f (l ++ m) = rowsOf f l ++ rowsOf f m := by simp [rowsOf]
theorem rowsOf_take (hf : ∀ x, (f x).size = n) : ∀ (l : List α) (k : Nat), rowsOf f (l.take k) = (rowsOf f l).take (k * n)
  | [], k => by simp [rowsOf]
  | x :: l, 0 => by simp [rowsOf]
  | x :: l, k + 1 => by
    rw [List.take_succ_cons, rowsOf_cons, rowsOf_cons, rowsOf_take hf l k, List.take_append, Array.length_toList, hf]
    rw [List.take_of_length_le (l := (f x).toList) (by rw [Array.length_toList, hf, Nat.add_mul]; omega), show (k + 1) * n - n = k * n by rw [Nat.add_mul]; omega]
theorem rowsOf_drop (hf : ∀ x, (f x).size = n) : ∀ (l : List α) (k : Nat), rowsOf f (l.drop k) = (rowsOf f l).drop (k * n)
  | [], k => by simp [rowsOf]
  | x :: l, 0 => by simp [rowsOf]
  | x :: l, k + 1 => by
    rw [List.drop_succ_cons, rowsOf_cons, rowsOf_drop hf l k, List.drop_append, Array.length_toList, hf]
    rw [List.drop_of_length_le (l := (f x).toList) (by rw [Array.length_toList, hf, Nat.add_mul]; omega), show (k + 1) * n - n = k * n by rw [Nat.add_mul]; omega, List.nil_append]

theorem OwnRows.mono {W : World} {B B' t : Nat} {v : Value} {l : List α} (h : OwnRows f n W B t v l) (hB : B' ≤ B) : OwnRows f n W B' t v l :=
  ⟨h.1, h.2.imp id fun ⟨g, cap, cur, a1, a2, a3⟩ => ⟨g, cap, cur, a1, Nat.le_trans hB a2, a3⟩⟩
/-- v is a slice of the rows of l behind B: with room that it owns too, or without any -/
def CutRows (f : α → Array Value) (n : Nat) (W : World) (B t : Nat) (v : Value) (l : List α) : Prop :=
  (v = .slice none 0 0 ∧ l = []) ∨ ∃ g cap cur, v = .slice (some ⟨g, 0, none⟩) l.length cap ∧ B ≤ g ∧ W.heap[g]? = some (.cells cur t (0, 0)) ∧ l.length ≤ cap ∧ cap ≤ maxLen ∧ (cur.size = cap * n ∨ cap = l.length) ∧ l.length * n ≤ cur.size ∧ cur.toList.take (l.length * n) = rowsOf f l

variable {W W' : World} {B t : Nat} {v : Value} {l : List α}
theorem CutRows.nil (W : World) (B t : Nat) : CutRows f n W B t (.slice none 0 0) [] := .inl ⟨rfl, rfl⟩
theorem CutRows.of_own (_ : 0 < n) (h : OwnRows f n W B t v l) : CutRows f n W B t v l := by
  rcases h.2 with ⟨h1, h2⟩ | ⟨g, cap, cur, h1, h2, h3, h4, h5, h6, h7⟩
  · exact .inl ⟨h1, List.eq_nil_of_length_eq_zero h2⟩
  · exact .inr ⟨g, cap, cur, h1, h2, h3, h4, h5, .inl h6, by rw [h6]; exact Nat.mul_le_mul_right _ h4, h7⟩
theorem CutRows.form (h : CutRows f n W B t v l) : ∃ A c, v = .slice A l.length c := by
  rcases h with ⟨rfl, rfl⟩ | ⟨g, cap, cur, rfl, _⟩
  · exact ⟨_, _, rfl⟩
  · exact ⟨_, _, rfl⟩
theorem CutRows.lt (h : CutRows f n W B t v l) {k : Nat} (hk : v.ownBlock = some k) : B ≤ k ∧ k < W.heap.size ∧ ∃ cur, W.heap[k]? = some (.cells cur t (0, 0)) := by
  rcases h with ⟨rfl, rfl⟩ | ⟨g, cap, cur, rfl, h1, h2, _⟩
  · simp [Value.ownBlock] at hk
  · simp only [Value.ownBlock, Option.some.injEq] at hk
    subst hk
    exact ⟨h1, (Array.getElem?_eq_some_iff.1 h2).1, _, h2⟩
theorem CutRows.far (h : CutRows f n W B t v l) {k : Nat} (hk : k < B ∨ W.heap.size ≤ k) : v.ownBlock ≠ some k := fun e => by
  have := h.lt e
  omega
theorem CutRows.cells (h : CutRows f n W B t v l) (h0 : 0 < l.length) : ∃ g c, v = .slice (some ⟨g, 0, none⟩) l.length c ∧ B ≤ g ∧ g < W.heap.size ∧ ∀ j u, (rowsOf f l)[j]? = some u → W.cell? ⟨g, j, none⟩ = some u := by
  rcases h with ⟨rfl, rfl⟩ | ⟨g, cap, cur, rfl, h1, h2, h3, h4, h5, h6, h7⟩
  · simp at h0
  · refine ⟨g, cap, rfl, h1, (Array.getElem?_eq_some_iff.1 h2).1, fun j u hu => ?_⟩
    rw [← h7] at hu
    rw [cell_of_row W g j _ _ _ h2]
    have hj := (List.getElem?_eq_some_iff.1 hu).1
    rw [List.length_take] at hj
    rw [List.getElem?_take_of_lt (by omega)] at hu
    simpa using hu
theorem CutRows.get (hf : ∀ x, (f x).size = n) (h : CutRows f n W B t v l) {k : Nat} (hk : k < l.length) :
    ∃ g c, v = .slice (some ⟨g, 0, none⟩) l.length c ∧ B ≤ g ∧ g < W.heap.size ∧ segB W ⟨g, k * n, none⟩ n = true ∧ segV W ⟨g, k * n, none⟩ n = f l[k] := by
  obtain ⟨g, c, rfl, hb, hlt, hcs⟩ := h.cells (by omega)
  have hc : ∀ j u, (f l[k])[j]? = some u → W.cell? ((⟨g, k * n, none⟩ : Addr).add j) = some u := fun j u hu => by
    have hj : j < n := by have := (Array.getElem?_eq_some_iff.1 hu).1; rwa [hf] at this
    rw [add_none]
    exact hcs _ _ (by rw [rowsOf_get hf l k j hk hj]; exact hu)
  exact ⟨g, c, rfl, hb, hlt, segB_of hc (hf _), segV_of hc (hf _)⟩
theorem CutRows.upd {S : Nat → Prop} (h : CutRows f n W B t v l) (hu : Upd S W W') (hs : ∀ k, v.ownBlock = some k → ¬ S k) : CutRows f n W' B t v l := by
  refine h.imp id fun ⟨g, cap, cur, hv, hb, hg, hr⟩ => ⟨g, cap, cur, hv, hb, ?_, hr⟩
  subst hv
  exact (hu.block g (Array.getElem?_eq_some_iff.1 hg).1 (hs g rfl)).trans hg
theorem CutRows.alloc (h : CutRows f n W B t v l) (o : Obj) : CutRows f n (W.alloc o) B t v l := h.upd ((Upd.refl (fun _ => False) W).alloc o) fun _ _ h => h
theorem CutRows.drew (h : CutRows f n W B t v l) : CutRows f n W.drew B t v l := h.upd (Upd.refl (fun _ => False) W).drew fun _ _ h => h
/-- the last row goes -/
theorem CutRows.cut (hf : ∀ x, (f x).size = n) (h : CutRows f n W B t v l) {i : Nat} (hi : i < l.length) : ∃ g c, v = .slice (some ⟨g, 0, none⟩) l.length c ∧ l.length ≤ c ∧ CutRows f n W B t (.slice (some ⟨g, 0, none⟩) i i) (l.take i) := by
  rcases h with ⟨rfl, rfl⟩ | ⟨g, cap, cur, rfl, h1, h2, h3, h4, h5, h6, h7⟩
  · simp at hi
  · have hti : (l.take i).length = i := by rw [List.length_take]; omega
    have him : i * n ≤ l.length * n := Nat.mul_le_mul_right _ (by omega)
    refine ⟨g, cap, rfl, h3, .inr ⟨g, i, cur, by rw [hti], h1, h2, by omega, by omega, .inr hti.symm, by rw [hti]; omega, ?_⟩⟩
    rw [rowsOf_take hf, ← h7, hti, List.take_take, Nat.min_eq_left him]
end

section
variable {P : Program} {α : Type} {f : α → Array Value} {n : Nat} {W : World} {B t : Nat} {v : Value} {l : List α} {o : Oper} {a : Act} {K : Act → World → Prop} {Q : Exit → Act → World → Prop} {ops : Array Oper} {rest : List Oper}

theorem run_append_cut {ts bytes : Nat} (R : RowType P f n ts t bytes) (ty : TypeId) (h : CutRows f n W B t v l) (x : α) (g c : Nat) (tg : TypeId) (fr : Nat × Nat) (hg : W.heap[g]? = some (.cells (f x) tg fr)) (h63 : l.length + 1 ≤ maxLen) (hbytes : (l.length + 1) * bytes ≤ 140737488355328) (hB : B ≤ W.heap.size) :
    ∃ v' W', (Builtin.append_ #[ts, ts] ty #[v, .slice (some ⟨g, 0, none⟩) 1 c]).run P W = .ok v' W' ∧ CutRows f n W' B t v' (l ++ [x]) ∧ Upd (fun k => v.ownBlock = some k) W W' ∧ (∀ k, k < W.heap.size → v'.ownBlock = some k → v.ownBlock = some k) := by
  obtain ⟨z, hinf, hzs⟩ := R.info
  obtain ⟨i, hi, hinf⟩ := Option.map_eq_some_iff.1 hinf
  simp only [Prod.mk.injEq] at hinf
  obtain ⟨hsz, hby, hz⟩ := hinf
  have hown : OwnRows f n W B t v l → ∃ v' W', (Builtin.append_ #[ts, ts] ty #[v, .slice (some ⟨g, 0, none⟩) 1 c]).run P W = .ok v' W' ∧ CutRows f n W' B t v' (l ++ [x]) ∧ Upd (fun k => v.ownBlock = some k) W W' ∧ (∀ k, k < W.heap.size → v'.ownBlock = some k → v.ownBlock = some k) := fun ho => by
    obtain ⟨v', W', hr, h2, h3, h4⟩ := run_append_rows (P := P) R.size ts ty i z bytes R.slice hi hz hsz hby hzs R.pos R.one ho x g c tg fr hg h63 hbytes hB
    exact ⟨v', W', hr, .of_own R.pos h2, h3, fun k hk e => by rcases h4 with h4 | h4 <;> rw [h4] at e; exact e; cases e; omega⟩
  rcases h with ⟨rfl, rfl⟩ | ⟨q, cap, cur, rfl, h1, h2, h3, h4, h5, h6, h7⟩
  · exact hown (OwnRows.nil _ _ _)
  · rcases h5 with h5 | rfl
    · exact hown ⟨by rw [rowsOf_length R.size], .inr ⟨q, cap, cur, rfl, h1, h2, h3, h4, h5, h7⟩⟩
    · obtain ⟨v', W', hr, ho, hgr⟩ := run_append_arg_grows (P := P) W ts ty t i z n bytes R.slice hi hz hsz hby hzs R.pos ⟨q, 0, none⟩ l.length l.length (rowsOf f l) (rowsOf_length R.size l)
        (fun j u hu => by
          rw [← h7] at hu
          have hj := (List.getElem?_eq_some_iff.1 hu).1
          rw [List.length_take] at hj
          rw [List.getElem?_take_of_lt (by omega)] at hu
          exact seg_block h2 j u (by simpa using hu)) ⟨g, 0, none⟩ 1 c (f x).toList (by rw [Array.length_toList, R.size, Nat.one_mul]) (fun j u hu => seg_block hg j u (by simpa using hu)) (by omega) h63 hbytes
      rw [rowsOf_snoc] at ho
      have ho' : OwnRows f n W' W.heap.size t v' (l ++ [x]) := by
        unfold OwnRows
        rw [List.length_append, List.length_singleton]
        exact ho
      exact ⟨v', W', hr, .of_own R.pos (ho'.mono hB), (Upd.of_grown hgr).mono (fun k _ hk => by cases hk), fun k hk e => by have := World.ownsRow.lt ho' k e; omega⟩

/-- one row is taken off: 'append(s[:i:i], s[i+1:]...)' -/
theorem run_append_rest {ts bytes : Nat} (R : RowType P f n ts t bytes) (ty : TypeId) {g c : Nat} (h : CutRows f n W B t (.slice (some ⟨g, 0, none⟩) l.length c) l) (i : Nat) (hi : i < l.length) (A2 : Option Addr) (c2 : Nat) (hA2 : i + 1 < l.length → A2 = some ⟨g, (i + 1) * n, none⟩) (h63 : l.length ≤ maxLen) (hbytes : l.length * bytes ≤ 140737488355328) (hB : B ≤ W.heap.size) :
    ∃ v' W', (Builtin.append_ #[ts, ts] ty #[.slice (some ⟨g, 0, none⟩) i i, .slice A2 (l.length - (i + 1)) c2]).run P W = .ok v' W' ∧ CutRows f n W' B t v' (l.eraseIdx i) ∧ Kept W W' ∧ (∀ k, k < W.heap.size → v'.ownBlock = some k → k = g) := by
  obtain ⟨z, hinf, hzs⟩ := R.info
  obtain ⟨i0, hi0, hinf⟩ := Option.map_eq_some_iff.1 hinf
  simp only [Prod.mk.injEq] at hinf
  obtain ⟨hsz, hby, hz⟩ := hinf
  have he : l.eraseIdx i = l.take i ++ l.drop (i + 1) := List.eraseIdx_eq_take_drop_succ ..
  by_cases hl : i + 1 < l.length
  · obtain ⟨g', c', hv, _, _, hcs⟩ := h.cells (by omega)
    simp only [Value.slice.injEq, Option.some.injEq, Addr.mk.injEq, and_true, true_and] at hv
    obtain ⟨rfl, rfl⟩ := hv
    obtain rfl := hA2 hl
    have hti : (l.take i).length = i := by rw [List.length_take]; omega
    obtain ⟨v', W', hr, ho, hgr⟩ := run_append_arg_grows (P := P) W ts ty t i0 z n bytes R.slice hi0 hz hsz hby hzs R.pos ⟨g, 0, none⟩ i i (rowsOf f (l.take i)) (by rw [rowsOf_length R.size, hti])
      (fun j u hu => by
        rw [rowsOf_take R.size] at hu
        have hj := (List.getElem?_eq_some_iff.1 hu).1
        rw [List.length_take] at hj
        rw [List.getElem?_take_of_lt (by omega)] at hu
        rw [add_none, Nat.zero_add]
        exact hcs j u hu)
      ⟨g, (i + 1) * n, none⟩ (l.length - (i + 1)) c2 (rowsOf f (l.drop (i + 1))) (by rw [rowsOf_length R.size, List.length_drop])
      (fun j u hu => by
        rw [rowsOf_drop R.size, List.getElem?_drop] at hu
        rw [add_none]
        exact hcs _ u hu) (by omega) (by omega) (by rw [show i + (l.length - (i + 1)) = l.length - 1 by omega]; exact Nat.le_trans (Nat.mul_le_mul_right _ (by omega)) hbytes)
    rw [← rowsOf_append, ← he] at ho
    have hel : (l.eraseIdx i).length = i + (l.length - (i + 1)) := by rw [he, List.length_append, hti, List.length_drop]
    have ho' : OwnRows f n W' W.heap.size t v' (l.eraseIdx i) := by
      unfold OwnRows
      rw [hel]
      exact ho
    exact ⟨v', W', hr, .of_own R.pos (ho'.mono hB), (Upd.of_grown hgr).mono (fun k _ hk => by cases hk), fun k hk e => by have := World.ownsRow.lt ho' k e; omega⟩
  · have h0 : l.length - (i + 1) = 0 := by omega
    rw [h0]
    have hsrc : Src P i0.size ts (.slice A2 0 c2) 0 [] W := by
      cases A2 with
      | none => exact Src.ofNil W R.slice c2
      | some ad => exact Src.ofSlice W R.slice ad 0 c2 [] (by simp) (fun j u hu => by simp at hu) (fun u hu => by cases hu)
    have hr := run_append_nothing W ts ts ty t i0 R.slice hi0 (some ⟨g, 0, none⟩) i i (Nat.le_refl _) _ hsrc
    obtain ⟨g', c', hv, _, hcut⟩ := h.cut R.size hi
    simp only [Value.slice.injEq, Option.some.injEq, Addr.mk.injEq, and_true, true_and] at hv
    obtain ⟨rfl, rfl⟩ := hv
    rw [he, List.drop_of_length_le (by omega), List.append_nil]
    exact ⟨_, W, hr, hcut, Upd.refl _ _, fun k _ e => by simpa [Value.ownBlock] using e.symm⟩

theorem step_append {E : Prop} (hgd : o.guard = none) (s x : Operand) {ts : Nat} (ho : o.op = .call { callee := .builtin .append, args := #[s, x], argTypes := #[ts, ts] }) {v1 v2 v' : Value} {W' : World} (hs : a.eval s = v1) (hx : a.eval x = v2)
    (hr : (Builtin.append_ #[ts, ts] o.type #[v1, v2]).run P W = .ok v' W') (hk : K (a.put o.dst v') W') :
    if Region.wanted o (yielded ops a.tmps) = true then o.wp P a W K Q else E := by
  rw [if_pos (by unfold Region.wanted; rw [hgd])]
  unfold Oper.wp execOp
  simp only [ho, resolve, invoke, builtin, Sem.run_bind, Sem.run_pure, Result.andThen_ok, List.map_toArray, List.map_cons, List.map_nil, hs, hx, hr]
  exact hk
theorem wpList_append {ops : Array Oper} {rest : List Oper} (hgd : o.guard = none) (s x : Operand) {ts : Nat} (ho : o.op = .call { callee := .builtin .append, args := #[s, x], argTypes := #[ts, ts] }) {v1 v2 v' : Value} {W' : World} (hs : a.eval s = v1) (hx : a.eval x = v2)
    (hr : (Builtin.append_ #[ts, ts] o.type #[v1, v2]).run P W = .ok v' W') (hk : wpList P ops Q rest (a.put o.dst v') W') : wpList P ops Q (o :: rest) a W := by
  refine wpList_plain hgd fun K hK => ?_
  unfold Oper.wp execOp
  simp only [ho, resolve, invoke, builtin, Sem.run_bind, Sem.run_pure, Result.andThen_ok, List.map_toArray, List.map_cons, List.map_nil, hs, hx, hr]
  exact hK _ _ hk
end
end Go.Proofs.Ytnncpjekcljfbaa
/- Blocks of cells as lists: loads, stores, parts of a block. No program is named. -/
namespace Go.Proofs.Ytnncpjekcljfbaa
open Go.RowKit

/-- block g is these cells, none frozen -/
def Blk (W : World) (g t : Nat) (vs : List Value) : Prop := W.heap[g]? = some (.cells vs.toArray t (0, 0))

section
variable {W W' : World} {g t : Nat} {vs : List Value} {S : Nat → Prop}
theorem Blk.lt (h : Blk W g t vs) : g < W.heap.size := (Array.getElem?_eq_some_iff.1 h).1
theorem Blk.cell (h : Blk W g t vs) {k : Nat} {v : Value} (hk : vs[k]? = some v) : W.cell? ⟨g, k, none⟩ = some v := by
  rw [cell_of_row W g k _ _ _ h]; simpa using hk
theorem Blk.has (h : Blk W g t vs) {k : Nat} (hk : k < vs.length) : ∃ v, W.cell? ⟨g, k, none⟩ = some v := ⟨vs[k], h.cell (by simp [hk])⟩
theorem Blk.thaw (h : Blk W g t vs) (o : Nat) : W.frozen? ⟨g, o, none⟩ = false := frozen_of_row W g o _ _ h
theorem Blk.set (h : Blk W g t vs) (k : Nat) (v : Value) : Blk (W.setCell ⟨g, k, none⟩ v) g t (vs.set k v) := by
  unfold Blk
  rw [heap_setCell_same _ g k _ _ _ h]
  simp
theorem Blk.upd (h : Blk W g t vs) (hu : Upd S W W') (hs : ¬ S g) : Blk W' g t vs := hu.heap h hs
theorem Blk.kept (h : Blk W g t vs) (hu : Kept W W') : Blk W' g t vs := hu.heap h id
theorem Blk.alloc (h : Blk W g t vs) (o : Obj) : Blk (W.alloc o) g t vs := h.kept ((Upd.refl _ W).alloc o)
theorem Blk.drew (h : Blk W g t vs) : Blk W.drew g t vs := h
theorem Blk.new (W : World) (t : Nat) (vs : List Value) : Blk (W.alloc (.cells vs.toArray t)) W.heap.size t vs := heap_alloc_new W _
theorem Blk.far (h : Blk W g t vs) (p : Addr) (v : Value) (hp : g ≠ p.block) : Blk (W.setCell p v) g t vs := by
  unfold Blk
  rw [heap_setCell_other W p g v hp]
  exact h
theorem Blk.range (h : Blk W g t vs) (o : Nat) {cs : List Value} (hc : ∀ j, j < cs.length → vs[o + j]? = cs[j]?) : W.rangeAt g o cs := fun j v hv => by
  refine h.cell ?_
  rw [hc j (List.getElem?_eq_some_iff.1 hv).1]
  exact hv
theorem Blk.seg (h : Blk W g t vs) (o n : Nat) (cs : List Value) (hn : cs.length = n) (hc : ∀ j, j < n → vs[o + j]? = cs[j]?) : segB W ⟨g, o, none⟩ n = true ∧ segV W ⟨g, o, none⟩ n = cs.toArray := by
  have hr : ∀ j v, cs.toArray[j]? = some v → W.cell? ((⟨g, o, none⟩ : Addr).add j) = some v := fun j v hv => by
    rw [add_none]
    have hv' : cs[j]? = some v := by simpa using hv
    have hj : j < n := by have := (List.getElem?_eq_some_iff.1 hv').1; omega
    exact h.cell (by rw [hc j hj]; exact hv')
  exact ⟨segB_of hr (by simpa using hn), segV_of hr (by simpa using hn)⟩

theorem Blk.setRow (h : Blk W g t vs) (cs : List Value) : Blk (W.setRow g cs.toArray) g t cs := setRow_heap W g _ _ t _ h
theorem Upd.setRow {a b : World} (h : Upd S a b) (g : Nat) (cs : Array Value) (hg : g < a.heap.size → S g) : Upd S a (b.setRow g cs) :=
  h.then (T := fun k => k = g) ⟨rfl, rfl, rfl, by simp [World.setRow], fun k _ hne => by simp only [World.setRow, Array.getElem?_modify]; rw [if_neg (fun e => hne e.symm)]⟩ fun _ hi hik => hik ▸ hg (hik ▸ hi)
end

/-- many cells stored from a place of a block on -/
theorem run_storeMid {P : Program} {W : World} {g t : Nat} {vs : List Value} (h : Blk W g t vs) (ty n o : Nat) (hi : (P.info? ty).map (·.size) = some n) (cs : Array Value) (hs : cs.size = n) (ho : o + n ≤ vs.length) (h1 : oneB cs = true) :
    (storeRow ty (.pointer (some ⟨g, o, none⟩)) (.agg cs)).run P W = .ok .skip (W.setRow g (splice vs o cs.toList).toArray) := by
  obtain ⟨i, hi1, hi2⟩ := Option.map_eq_some_iff.1 hi
  have := run_storeCells_at P g o t cs.toList 0 vs.toArray W h (by simp; omega) (fun v hv => by unfold oneB at h1; exact List.all_eq_true.1 h1 v hv)
  simp only [Nat.add_zero] at this
  simp [storeRow, Instr.storeAt, Instr.sureAddr, storeVar, sizeOf, typeInfo, hi1, hi2, Value.cells, hs, this, Result.andThen, splice]

/-- an element of an array that is a value -/
theorem run_indexRow {P : Program} (t e n : Nat) (d : TypeDesc) (hu : P.underlying t = some (.array n e)) (hue : P.underlying e = some d) (hd : (match d with | .struct _ | .array _ _ => true | _ => false) = false)
    (hi : (P.info? e).map (·.size) = some 1) (W : World) (cs : Array Value) (i : Nat) (v : Value) (hlt : i < n) (hv : cs[i]? = some v) :
    (indexRow t (.agg cs) (.int .i64 (i : Int))).run P W = .ok (.value v) W := by
  obtain ⟨ie, hi1, hi2⟩ := Option.map_eq_some_iff.1 hi
  have ha : (isAgg e).run P W = .ok false W := by
    unfold isAgg
    rw [Sem.run_bind, run_underlying hue W]
    cases d <;> simp_all
  simp [indexRow, Instr.index, asIntOf, run_underlying hu, sizeOf, typeInfo, hi1, hi2, part, ha, hlt, hv, Result.andThen]

theorem splice_nil {α : Type} (L : List α) (o : Nat) : splice L o [] = L := by simp [splice]
theorem splice_get {α : Type} (L : List α) (o : Nat) (cs : List α) (j : Nat) (ho : o + cs.length ≤ L.length) : (splice L o cs)[j]? = if o ≤ j ∧ j < o + cs.length then cs[j - o]? else L[j]? := by
  unfold splice
  by_cases h1 : j < o
  · rw [List.getElem?_append_left (by simp; omega), if_neg (by omega), List.getElem?_take_of_lt h1]
  · rw [List.getElem?_append_right (by simp; omega)]
    have hl : (List.take o L).length = o := by simp; omega
    rw [hl]
    by_cases h2 : j < o + cs.length
    · rw [List.getElem?_append_left (by omega), if_pos (by omega)]
    · rw [List.getElem?_append_right (by omega), if_neg (by omega), List.getElem?_drop]
      congr 1; omega
end Go.Proofs.Ytnncpjekcljfbaa
/- Trees of digests, as lists: levels by fours; another leaf; roots that are the same. No program is named. -/
namespace Go.Proofs.Ytnncpjekcljfbaa

/-- bytes -/
abbrev Bytes := List UInt8

section
variable (H : Bytes → Dig)

/-- what a leaf's digest is of -/
def leafIn (r : Bytes) : Bytes := 0 :: r
/-- what a node's digest is of -/
def upIn (ds : List Dig) : Bytes := 1 :: ds.flatMap fun d => d.1
def leafM (r : Bytes) : Dig := H (leafIn r)
def upM (ds : List Dig) : Dig := H (upIn ds)
/-- the digests of a level that a node above has -/
def group (l : List Dig) (i : Nat) : List Dig := (l.drop (4 * i)).take 4
/-- how many nodes are above so many -/
def up4 (n : Nat) : Nat := (n + 3) / 4
def aboveM (l : List Dig) : List Dig := (List.range (up4 l.length)).map fun i => upM H (group l i)
def levelsM (l : List Dig) : List (List Dig) := if _ : 1 < l.length then l :: levelsM (aboveM H l) else [l]
termination_by l.length
decreasing_by simp [aboveM, up4]; omega
/-- what is digested for the levels above the lowest one -/
def insM (l : List Dig) : List Bytes := if _ : 1 < l.length then (List.range (up4 l.length)).map (fun i => upIn (group l i)) ++ insM (aboveM H l) else []
termination_by l.length
decreasing_by simp [aboveM, up4]; omega
/-- levels where one leaf is set -/
def setM : List (List Dig) → Nat → Dig → List (List Dig)
  | [], _, _ => []
  | [l], i, d => [l.set i d]
  | l :: l' :: ls, i, d => l.set i d :: setM (l' :: ls) (i / 4) (upM H (group (l.set i d) (i / 4)))
/-- .. and what is digested for that, ahead of the leaf -/
def setIns : List (List Dig) → Nat → Dig → List Bytes
  | [], _, _ => []
  | [_], _, _ => []
  | l :: l' :: ls, i, d => upIn (group (l.set i d) (i / 4)) :: setIns (l' :: ls) (i / 4) (upM H (group (l.set i d) (i / 4)))
/-- how many levels there are over so many leaves -/
def depthM (n : Nat) : Nat := if h : 1 < n then 1 + depthM (up4 n) else 1
termination_by n
decreasing_by simp [up4]; omega
end

variable {H : Bytes → Dig}

theorem up4_lt {n : Nat} (h : 1 < n) : up4 n < n := by unfold up4; omega
theorem up4_pos {n : Nat} (h : 0 < n) : 0 < up4 n := by unfold up4; omega
@[simp] theorem aboveM_length (l : List Dig) : (aboveM H l).length = up4 l.length := by simp [aboveM]
theorem aboveM_get (l : List Dig) (i : Nat) (h : i < (aboveM H l).length) : (aboveM H l)[i] = upM H (group l i) := by simp [aboveM]

theorem levelsM_one {l : List Dig} (h : l.length ≤ 1) : levelsM H l = [l] := by rw [levelsM]; simp; omega
theorem levelsM_more {l : List Dig} (h : 1 < l.length) : levelsM H l = l :: levelsM H (aboveM H l) := by rw [levelsM]; simp [h]
theorem insM_one {l : List Dig} (h : l.length ≤ 1) : insM H l = [] := by rw [insM]; simp; omega
theorem insM_more {l : List Dig} (h : 1 < l.length) : insM H l = (List.range (up4 l.length)).map (fun i => upIn (group l i)) ++ insM H (aboveM H l) := by rw [insM]; simp [h]
theorem levelsM_ne (l : List Dig) : levelsM H l ≠ [] := by rw [levelsM]; split <;> simp

theorem group_length (l : List Dig) (i : Nat) : (group l i).length = min 4 (l.length - 4 * i) := by simp [group]
theorem group_get (l : List Dig) (i j : Nat) (h : j < (group l i).length) : (group l i)[j] = l[4 * i + j]'(by rw [group_length] at h; omega) := by simp [group]
theorem group_set_ne {l : List Dig} {i k : Nat} {d : Dig} (h : k ≠ i / 4) : group (l.set i d) k = group l k := by
  unfold group
  apply List.ext_getElem?
  intro j
  simp only [List.getElem?_take, List.getElem?_drop, List.getElem?_set]
  by_cases hj : j < 4
  · rw [if_pos hj, if_pos hj, if_neg (by omega)]
  · rw [if_neg hj, if_neg hj]

theorem aboveM_set {l : List Dig} {i : Nat} {d : Dig} (_ : i < l.length) : aboveM H (l.set i d) = (aboveM H l).set (i / 4) (upM H (group (l.set i d) (i / 4))) := by
  apply List.ext_getElem
  · simp
  intro k h1 h2
  rw [aboveM_get, List.getElem_set]
  by_cases hk : k = i / 4
  · subst hk; simp
  · rw [if_neg (fun e => hk e.symm), aboveM_get, group_set_ne hk]

theorem levelsM_set (n : Nat) : ∀ {l : List Dig} {i : Nat} {d : Dig}, l.length = n → i < l.length → levelsM H (l.set i d) = setM H (levelsM H l) i d := by
  induction n using Nat.strongRecOn with
  | _ n ih =>
    intro l i d hn hi
    by_cases h : 1 < l.length
    · rw [levelsM_more (l := l.set i d) (by simpa using h), levelsM_more h, aboveM_set hi]
      have h2 := ih (up4 l.length) (by rw [← hn]; exact up4_lt h) (l := aboveM H l) (i := i / 4) (d := upM H (group (l.set i d) (i / 4))) (by simp) (by simp [up4]; omega)
      rw [h2]
      obtain ⟨a, r, e⟩ := List.exists_cons_of_ne_nil (levelsM_ne (H := H) (aboveM H l))
      rw [e]
      rfl
    · rw [levelsM_one (l := l.set i d) (by simp; omega), levelsM_one (by omega)]
      rfl

/-- what is digested where one leaf is set is what is digested for the new levels -/
theorem setIns_sub (n : Nat) : ∀ {l : List Dig} {i : Nat} {d : Dig}, l.length = n → i < l.length → ∀ r ∈ setIns H (levelsM H l) i d, r ∈ insM H (l.set i d) := by
  induction n using Nat.strongRecOn with
  | _ n ih =>
    intro l i d hn hi r hr
    by_cases h : 1 < l.length
    · rw [levelsM_more h] at hr
      obtain ⟨a, q, e⟩ := List.exists_cons_of_ne_nil (levelsM_ne (H := H) (aboveM H l))
      rw [insM_more (by simpa using h)]
      rw [e] at hr
      simp only [setIns, List.mem_cons] at hr
      rcases hr with rfl | hr
      · refine List.mem_append.2 (.inl (List.mem_map.2 ⟨i / 4, ?_, rfl⟩))
        simp [up4]; omega
      · refine List.mem_append.2 (.inr ?_)
        rw [aboveM_set hi]
        refine ih (up4 l.length) (by rw [← hn]; exact up4_lt h) (by simp) (by simp [up4]; omega) r ?_
        rw [e]; exact hr
    · rw [levelsM_one (by omega)] at hr
      simp [setIns] at hr
/-- .. and the other way round, but for what was digested for the old ones -/
theorem insM_set (n : Nat) : ∀ {l : List Dig} {i : Nat} {d : Dig}, l.length = n → i < l.length → ∀ r ∈ insM H (l.set i d), r ∈ setIns H (levelsM H l) i d ∨ r ∈ insM H l := by
  induction n using Nat.strongRecOn with
  | _ n ih =>
    intro l i d hn hi r hr
    by_cases h : 1 < l.length
    · rw [insM_more (by simpa using h)] at hr
      rw [levelsM_more h, insM_more h]
      obtain ⟨a, q, e⟩ := List.exists_cons_of_ne_nil (levelsM_ne (H := H) (aboveM H l))
      rcases List.mem_append.1 hr with hr | hr
      · obtain ⟨k, hk, rfl⟩ := List.mem_map.1 hr
        by_cases hki : k = i / 4
        · subst hki
          left; rw [e]; simp [setIns]
        · right
          rw [group_set_ne hki]
          exact List.mem_append.2 (.inl (List.mem_map.2 ⟨k, by simpa using hk, rfl⟩))
      · rw [aboveM_set hi] at hr
        rcases ih (up4 l.length) (by rw [← hn]; exact up4_lt h) (by simp) (by simp [up4]; omega) r hr with h2 | h2
        · left
          rw [e] at h2 ⊢
          simp only [setIns, List.mem_cons]
          exact .inr h2
        · exact .inr (List.mem_append.2 (.inr h2))
    · rw [insM_one (by simp; omega)] at hr
      simp at hr

/-! ### the last level, depths -/
theorem levelsM_depth (n : Nat) : ∀ {l : List Dig}, l.length = n → (levelsM H l).length = depthM n := by
  induction n using Nat.strongRecOn with
  | _ n ih =>
    intro l hn
    by_cases h : 1 < n
    · rw [levelsM_more (by omega), depthM, dif_pos h, List.length_cons, ih (up4 n) (up4_lt h) (by simp [hn])]; omega
    · rw [levelsM_one (by omega), depthM, dif_neg h]; rfl
theorem levelsM_last (n : Nat) : ∀ {l : List Dig}, l.length = n → 0 < n → ∃ r, (levelsM H l).getLast? = some [r] := by
  induction n using Nat.strongRecOn with
  | _ n ih =>
    intro l hn h0
    by_cases h : 1 < n
    · obtain ⟨r, hr⟩ := ih (up4 n) (up4_lt h) (l := aboveM H l) (by simp [hn]) (up4_pos h0)
      refine ⟨r, ?_⟩
      rw [levelsM_more (by omega)]
      obtain ⟨a, q, e⟩ := List.exists_cons_of_ne_nil (levelsM_ne (H := H) (aboveM H l))
      rw [e] at hr ⊢
      simpa using hr
    · rw [levelsM_one (by omega)]
      match l, hn with
      | [r], _ => exact ⟨r, rfl⟩
      | [], hn => simp at hn; omega
      | _ :: _ :: _, hn => simp at hn; omega
/-- the root -/
def rootM (H : Bytes → Dig) (l : List Dig) : Dig := (((levelsM H l).getLast?.getD []).head?).getD dig0
theorem rootM_last {l : List Dig} (h : l ≠ []) : (levelsM H l).getLast? = some [rootM H l] := by
  obtain ⟨r, hr⟩ := levelsM_last (H := H) l.length rfl (List.length_pos_iff.2 h)
  simp [rootM, hr]
theorem rootM_more {l : List Dig} (h : 1 < l.length) : rootM H l = rootM H (aboveM H l) := by
  obtain ⟨a, q, e⟩ := List.exists_cons_of_ne_nil (levelsM_ne (H := H) (aboveM H l))
  rw [rootM, levelsM_more h, rootM, e]
  simp
theorem rootM_one (d : Dig) : rootM H [d] = d := by rw [rootM, levelsM_one (by simp)]; rfl

/-- level n + 1 is made of level n -/
theorem levelsM_next : ∀ (n : Nat) (l : List Dig) (m : Nat) (a b : List Dig), l.length = n → (levelsM H l)[m]? = some a → (levelsM H l)[m + 1]? = some b → b = aboveM H a := by
  intro n
  induction n using Nat.strongRecOn with
  | _ n ih =>
    intro l m a b hn ha hb
    by_cases h : 1 < l.length
    · rw [levelsM_more h] at ha hb
      cases m with
      | zero =>
        simp at ha hb
        subst ha
        by_cases h2 : 1 < (aboveM H l).length
        · rw [levelsM_more h2] at hb; simpa using hb.symm
        · rw [levelsM_one (by omega)] at hb; simpa using hb.symm
      | succ m =>
        simp only [List.getElem?_cons_succ] at ha hb
        exact ih _ (by rw [← hn]; exact up4_lt h) (aboveM H l) m a b (by simp) ha hb
    · rw [levelsM_one (by omega)] at hb
      simp at hb

/-! ### the same inputs have the same parts -/
theorem flat_inj : ∀ {a b : List Dig}, a.flatMap (fun d => d.1) = b.flatMap (fun d => d.1) → a = b
  | [], [], _ => rfl
  | [], e :: b, h => by
    have := congrArg List.length h
    rw [List.flatMap_cons, List.length_append, e.2] at this
    simp at this
    omega
  | d :: a, [], h => by
    have := congrArg List.length h
    rw [List.flatMap_cons, List.length_append, d.2] at this
    simp at this
  | d :: a, e :: b, h => by
    simp only [List.flatMap_cons] at h
    have h2 := List.append_inj h (by rw [d.2, e.2])
    rw [Subtype.ext h2.1, flat_inj h2.2]
theorem upIn_inj {a b : List Dig} (h : upIn a = upIn b) : a = b := flat_inj (List.cons.inj h).2
theorem leafIn_inj {a b : Bytes} (h : leafIn a = leafIn b) : a = b := (List.cons.inj h).2
theorem leafIn_upIn (r : Bytes) (ds : List Dig) : leafIn r ≠ upIn ds := by
  intro h
  have := (List.cons.inj h).1
  exact absurd this (by decide)

theorem group_all {l l' : List Dig} (hl : l.length = l'.length) (h : ∀ i, i < up4 l.length → group l i = group l' i) : l = l' := by
  apply List.ext_getElem hl
  intro k h1 h2
  have hg := h (k / 4) (by unfold up4; omega)
  have a1 : k % 4 < (group l (k / 4)).length := by rw [group_length]; omega
  have a2 : k % 4 < (group l' (k / 4)).length := by rw [group_length]; omega
  have e1 := group_get l (k / 4) (k % 4) a1
  have e2 := group_get l' (k / 4) (k % 4) a2
  have hk : 4 * (k / 4) + k % 4 = k := by omega
  simp only [hk] at e1 e2
  rw [← e1, ← e2]
  simp only [hg]

/-- where unlike inputs have unlike digests, trees of as many leaves with the same root have the same leaves -/
theorem rootM_inj (n : Nat) : ∀ {l l' : List Dig}, l.length = n → l'.length = n → 0 < n → (∀ a ∈ insM H l, ∀ b ∈ insM H l', H a = H b → a = b) → rootM H l = rootM H l' → l = l' := by
  induction n using Nat.strongRecOn with
  | _ n ih =>
    intro l l' hn hn' h0 hinj hr
    by_cases h : 1 < n
    · rw [rootM_more (by omega), rootM_more (l := l') (by omega)] at hr
      rw [insM_more (by omega), insM_more (l := l') (by omega)] at hinj
      have h2 := ih (up4 n) (up4_lt h) (l := aboveM H l) (l' := aboveM H l') (by simp [hn]) (by simp [hn']) (up4_pos h0)
        (fun a ha b hb => hinj a (List.mem_append.2 (.inr ha)) b (List.mem_append.2 (.inr hb))) hr
      refine group_all (by rw [hn, hn']) fun i hi => upIn_inj (hinj _ (List.mem_append.2 (.inl (List.mem_map.2 ⟨i, by simpa using hi, rfl⟩))) _ (List.mem_append.2 (.inl (List.mem_map.2 ⟨i, by rw [hn'] ; rw [hn] at hi; simpa using hi, rfl⟩))) ?_)
      have g1 := aboveM_get (H := H) l i (by simpa using hi)
      have g2 := aboveM_get (H := H) l' i (by simp [hn']; rwa [hn] at hi)
      have : upM H (group l i) = upM H (group l' i) := by rw [← g1, ← g2]; simp only [h2]
      exact this
    · match l, l', hn, hn' with
      | [a], [b], _, _ => rw [rootM_one, rootM_one] at hr; rw [hr]
      | [], _, hn, _ => simp at hn; omega
      | [_], [], _, hn' => simp at hn'; omega
      | [_], _ :: _ :: _, _, hn' => simp at hn'; omega
      | _ :: _ :: _, _, hn, _ => simp at hn; omega

/-! ### what a book has noted -/
def noteM (L : List Bytes) (r : Bytes) : List Bytes := if r ∈ L then L else L ++ [r]
def notesM (L : List Bytes) (l : List Bytes) : List Bytes := l.foldl noteM L
theorem mem_noteM {L : List Bytes} {r x : Bytes} : x ∈ noteM L r ↔ x ∈ L ∨ x = r := by
  unfold noteM
  split
  · rename_i h
    constructor
    · exact .inl
    · rintro (h2 | rfl)
      · exact h2
      · exact h
  · simp
theorem mem_notesM {l : List Bytes} : ∀ {L : List Bytes} {x : Bytes}, x ∈ notesM L l ↔ x ∈ L ∨ x ∈ l := by
  induction l with
  | nil => intro L x; simp [notesM]
  | cons r l ih =>
    intro L x
    rw [notesM, List.foldl_cons, ← notesM, ih, mem_noteM]
    simp [or_assoc]
theorem noteM_nodup {L : List Bytes} (r : Bytes) (h : L.Nodup) : (noteM L r).Nodup := by
  unfold noteM
  split
  · exact h
  · rename_i hr
    rw [List.nodup_append]
    exact ⟨h, by simp, by rintro a ha b hb rfl; simp at hb; subst hb; exact hr ha⟩
theorem notesM_nodup {l : List Bytes} : ∀ {L : List Bytes}, L.Nodup → (notesM L l).Nodup := by
  induction l with
  | nil => intro L h; exact h
  | cons r l ih => intro L h; exact ih (noteM_nodup r h)
theorem notesM_append (L a b : List Bytes) : notesM L (a ++ b) = notesM (notesM L a) b := by simp [notesM]
theorem notesM_cons (L : List Bytes) (r : Bytes) (l : List Bytes) : notesM L (r :: l) = notesM (noteM L r) l := rfl
theorem noteM_mem {L : List Bytes} {r : Bytes} (h : r ∈ L) : noteM L r = L := by simp [noteM, h]
theorem notesM_mem {l : List Bytes} : ∀ {L : List Bytes}, (∀ r ∈ l, r ∈ L) → notesM L l = L := by
  induction l with
  | nil => intro L _; rfl
  | cons r l ih =>
    intro L h
    rw [notesM_cons, noteM_mem (h r (by simp))]
    exact ih fun x hx => h x (by simp [hx])
end Go.Proofs.Ytnncpjekcljfbaa
/- A region that draws its order, walked in ONE order: what gives one value in every world that meets a condition S and leaves the world alone is taken as soon as it may come up; all else must be the only one that may. No program is named. -/
namespace Go.Proofs.Ytnncpjekcljfbaa
section
variable {P : Program} {ops : Array Oper} {S : World → Prop}

/-- the order: a number, and whether it is taken ahead (true) or forced (false) -/
def ordB (ops : Array Oper) : List (Nat × Bool) → Array Bool → Bool
  | [], listed => (Region.ready .any ops listed).isEmpty
  | (i, true) :: l, listed => (Region.ready .any ops listed).contains i && Region.free .any ops listed i && ordB ops l (listed.setIfInBounds i true)
  | (i, false) :: l, listed => decide (Region.ready .any ops listed = [i]) && ordB ops l (listed.setIfInBounds i true)

/-- the operations in that order -/
def ordOps (ops : List Oper) : List (Nat × Bool) → List (Oper × Bool)
  | [] => []
  | (i, b) :: l => (ops.getD i default, b) :: ordOps ops l

/-- one value in every world that meets S, and nothing else -/
def HeldAt (P : Program) (S : World → Prop) (o : Oper) (a : Act) (v : Value) : Prop := ∀ w, S w → (execOp a.eval o).run P w = .ok (.value v) w

def wpOrd (P : Program) (ops : Array Oper) (S : World → Prop) (Q : Act → World → Prop) : List (Oper × Bool) → Act → World → Prop
  | [], a, w => Q a w
  | (o, true) :: l, a, w => if Region.wanted o (yielded ops a.tmps) then ∃ v, HeldAt P S o a v ∧ wpOrd P ops S Q l (a.put o.dst v) w else wpOrd P ops S Q l (a.put o.dst undef) w
  | (o, false) :: l, a, w => if Region.wanted o (yielded ops a.tmps) then o.wp P a w (fun a' w' => S w' ∧ wpOrd P ops S Q l a' w') (fun _ _ _ => False) else wpOrd P ops S Q l (a.put o.dst undef) w

section
variable {Q : Act → World → Prop} {a : Act} {w : World} {l : List (Oper × Bool)} {o : Oper}
theorem wpOrd_nil (h : Q a w) : wpOrd P ops S Q [] a w := h
theorem wpOrd_held (h : ∀ K : Act → Prop, (∀ a, wpOrd P ops S Q l a w → K a) → if Region.wanted o (yielded ops a.tmps) then ∃ v, HeldAt P S o a v ∧ K (a.put o.dst v) else K (a.put o.dst undef)) : wpOrd P ops S Q ((o, true) :: l) a w :=
  h _ (fun _ h => h)
theorem wpOrd_step (h : ∀ K : Act → World → Prop, (∀ a w, S w → wpOrd P ops S Q l a w → K a w) → if Region.wanted o (yielded ops a.tmps) then o.wp P a w K (fun _ _ _ => False) else K (a.put o.dst undef) w) (_ : S w) : wpOrd P ops S Q ((o, false) :: l) a w := by
  have := h (fun a w => S w ∧ wpOrd P ops S Q l a w) (fun _ _ h1 h2 => ⟨h1, h2⟩)
  unfold wpOrd
  split
  · rename_i hw; rw [if_pos hw] at this; exact this
  · rename_i hw; rw [if_neg hw] at this; exact this.2
end

/-- only by the common end -/
def Norm (Q : Exit → Act → World → Prop) : Exit → Act → World → Prop
  | .normal, a, w => Q .normal a w
  | _, _, _ => False

theorem Oper.wp_weaken {o : Oper} {a : Act} {w : World} {K : Act → World → Prop} {Q : Exit → Act → World → Prop} (h : o.wp P a w K (fun _ _ _ => False)) : o.wp P a w K (Norm Q) := by
  unfold Oper.wp at *
  generalize (execOp a.eval o).run P w = r at *
  cases r with
  | ok n w' =>
    cases n <;> simp only [Oper.upon] at h ⊢ <;>
      first
        | exact h
        | exact Calls.mono h (fun e w'' he => by
            cases e with
            | returned v => exact he
            | panicked c => exact he.elim
            | outgrown => obtain ⟨_, _, hf⟩ := he; exact hf.elim)
        | exact Rows.mono h (fun _ _ he => he)
  | halt x w' => cases x <;> simp only [Oper.upon] at h

theorem wpAnyH_of_ord {Q : Exit → Act → World → Prop} (hsel : Region.noSelect ops = true) :
    ∀ (idx : List (Nat × Bool)) (listed : Array Bool) (a : Act) (w : World), S w → ordB ops idx listed = true →
      wpOrd P ops S (fun a w => Q .normal a w) (ordOps ops.toList idx) a w → wpAnyH P .any ops (Norm Q) S idx.length listed a w
  | [], listed, a, w, hS, hB, h => ⟨by simpa [ordB] using hB, h⟩
  | (i, true) :: idx, listed, a, w, hS, hB, h => by
    simp only [ordB, Bool.and_eq_true] at hB
    obtain ⟨⟨hr, hf⟩, hB⟩ := hB
    have hr' : i ∈ Region.ready .any ops listed := by simpa using hr
    obtain ⟨_, o, ho, _⟩ := mem_ready.1 hr'
    have hod : ops.toList.getD i default = o := by simp [List.getD, ho]
    simp only [ordOps, hod, wpOrd] at h
    by_cases hw : Region.wanted o (yielded ops a.tmps) = true
    · simp only [hw, if_true] at h
      obtain ⟨v, hv, hk⟩ := h
      exact wpAnyH_take ho hsel hf hr (fun _ _ _ h => h.elim) (.inl ⟨hw, hv⟩) hS (wpAnyH_of_ord hsel idx _ _ _ hS hB hk)
    · simp only [hw] at h
      exact wpAnyH_take (v := undef) ho hsel hf hr (fun _ _ _ h => h.elim) (.inr ⟨by simpa using hw, rfl⟩) hS (wpAnyH_of_ord hsel idx _ _ _ hS hB h)
  | (i, false) :: idx, listed, a, w, hS, hB, h => by
    simp only [ordB, Bool.and_eq_true, decide_eq_true_eq] at hB
    obtain ⟨hr, hB⟩ := hB
    have hr' : i ∈ Region.ready .any ops listed := by rw [hr]; simp
    obtain ⟨_, o, ho, _⟩ := mem_ready.1 hr'
    have hod : ops.toList.getD i default = o := by simp [List.getD, ho]
    simp only [ordOps, hod, wpOrd] at h
    refine wpAnyH_all (rs := [i]) hr (by simp) fun j hj => ?_
    obtain rfl : j = i := by simpa using hj
    unfold wpOp
    simp only [ho]
    by_cases hw : Region.wanted o (yielded ops a.tmps) = true
    · simp only [hw, if_true] at h ⊢
      refine .inl (Oper.wp_weaken (Oper.wp_mono (fun a' w' h' => ⟨h'.1, ?_⟩) h))
      exact wpAnyH_of_ord hsel idx _ _ _ h'.1 hB h'.2
    · simp only [hw] at h ⊢
      exact ⟨hS, wpAnyH_of_ord hsel idx _ _ _ hS hB h⟩

theorem Norm.le {Q : Exit → Act → World → Prop} : ∀ (e : Exit) (a : Act) (w : World), Norm Q e a w → Q e a w := fun e a w h => by
  cases e <;> first | exact h | exact (h : False).elim

/-- THE REGION -/
theorem wp_region_ord {id : Nat} {Q : Exit → Act → World → Prop} {a : Act} {w : World} {l : List Oper} (idx : List (Nat × Bool)) (hm : P.follows .mixedOrders = true)
    (hB : (Region.noSelect l.toArray && decide (idx.length = l.length) && ordB l.toArray idx (Array.replicate l.length false)) = true) (S : World → Prop) (hS : S w.drew)
    (h : wpOrd P l.toArray S (fun a w => Q .normal a w) (ordOps l idx) a w.drew) : (Code.region id l.toArray true).wp P Q a w := by
  simp only [Bool.and_eq_true, decide_eq_true_eq] at hB
  obtain ⟨⟨hsel, hl⟩, hB⟩ := hB
  have H := wpAnyH_of_ord (P := P) (S := S) (Q := Q) hsel idx (Array.replicate l.length false) a w.drew hS hB (by simpa using h)
  rw [hl] at H
  exact Code.wp_mono Norm.le (wp_region_held (S := S) hm (by simpa using H))
end
end Go.Proofs.Ytnncpjekcljfbaa
/- A region that draws its order, walked along a tree: what gives one value in every world that meets S and leaves the world alone is taken ahead; else the one that may come up is taken, or, where two may, each of them in its turn. No program is named. -/
namespace Go.Proofs.Ytnncpjekcljfbaa
inductive OT where
  | done
  | take (i : Nat) (t : OT)
  | one (i : Nat) (t : OT)
  | two (i j : Nat) (t u : OT)
/-- the tree with its operations -/
inductive OO where
  | done
  | take (o : Oper) (t : OO)
  | one (o : Oper) (t : OO)
  | two (o p : Oper) (t u : OO)
def OT.ops (ops : List Oper) : OT → OO
  | .done => .done
  | .take i t => .take (ops.getD i default) (t.ops ops)
  | .one i t => .one (ops.getD i default) (t.ops ops)
  | .two i j t u => .two (ops.getD i default) (ops.getD j default) (t.ops ops) (u.ops ops)
def OT.fits (ops : Array Oper) : OT → Nat → Array Bool → Bool
  | .done, n, listed => n == 0 && (Region.ready .any ops listed).isEmpty
  | .take i t, n + 1, listed => (Region.ready .any ops listed).contains i && Region.free .any ops listed i && t.fits ops n (listed.setIfInBounds i true)
  | .one i t, n + 1, listed => decide (Region.ready .any ops listed = [i]) && t.fits ops n (listed.setIfInBounds i true)
  | .two i j t u, n + 1, listed => decide (Region.ready .any ops listed = [i, j]) && t.fits ops n (listed.setIfInBounds i true) && u.fits ops n (listed.setIfInBounds j true)
  | _, 0, _ => false
section
variable {P : Program} {ops : Array Oper} {S : World → Prop}
def stepOO (P : Program) (ops : Array Oper) (o : Oper) (K : Act → World → Prop) (a : Act) (w : World) : Prop :=
  if Region.wanted o (yielded ops a.tmps) then o.wp P a w K (fun _ _ _ => False) else K (a.put o.dst undef) w
def wpOO (P : Program) (ops : Array Oper) (S : World → Prop) (Q : Act → World → Prop) : OO → Act → World → Prop
  | .done, a, w => Q a w
  | .take o t, a, w => if Region.wanted o (yielded ops a.tmps) then ∃ v, HeldAt P S o a v ∧ wpOO P ops S Q t (a.put o.dst v) w else wpOO P ops S Q t (a.put o.dst undef) w
  | .one o t, a, w => S w ∧ stepOO P ops o (fun a' w' => S w' ∧ wpOO P ops S Q t a' w') a w
  | .two o p t u, a, w => S w ∧ stepOO P ops o (fun a' w' => S w' ∧ wpOO P ops S Q t a' w') a w ∧ stepOO P ops p (fun a' w' => S w' ∧ wpOO P ops S Q u a' w') a w

section
variable {Q : Act → World → Prop} {a : Act} {w : World} {o p : Oper} {t u : OO}
theorem wpOO_nil (h : Q a w) : wpOO P ops S Q .done a w := h
theorem wpOO_held (h : ∀ K : Act → Prop, (∀ a, wpOO P ops S Q t a w → K a) → if Region.wanted o (yielded ops a.tmps) then ∃ v, HeldAt P S o a v ∧ K (a.put o.dst v) else K (a.put o.dst undef)) : wpOO P ops S Q (.take o t) a w := h _ fun _ h => h
theorem stepOO_of {K : Act → World → Prop} (h : if Region.wanted o (yielded ops a.tmps) then o.wp P a w K (fun _ _ _ => False) else K (a.put o.dst undef) w) : stepOO P ops o K a w := h
theorem wpOO_step (h : ∀ K : Act → World → Prop, (∀ a w, S w → wpOO P ops S Q t a w → K a w) → if Region.wanted o (yielded ops a.tmps) then o.wp P a w K (fun _ _ _ => False) else K (a.put o.dst undef) w) (hS : S w) : wpOO P ops S Q (.one o t) a w :=
  ⟨hS, h (fun a w => S w ∧ wpOO P ops S Q t a w) fun _ _ h1 h2 => ⟨h1, h2⟩⟩
theorem wpOO_fork (h : ∀ K : Act → World → Prop, (∀ a w, S w → wpOO P ops S Q t a w → K a w) → if Region.wanted o (yielded ops a.tmps) then o.wp P a w K (fun _ _ _ => False) else K (a.put o.dst undef) w)
    (h2 : ∀ K : Act → World → Prop, (∀ a w, S w → wpOO P ops S Q u a w → K a w) → if Region.wanted p (yielded ops a.tmps) then p.wp P a w K (fun _ _ _ => False) else K (a.put p.dst undef) w) (hS : S w) : wpOO P ops S Q (.two o p t u) a w :=
  ⟨hS, h (fun a w => S w ∧ wpOO P ops S Q t a w) fun _ _ h1 h2 => ⟨h1, h2⟩, h2 (fun a w => S w ∧ wpOO P ops S Q u a w) fun _ _ h1 h2 => ⟨h1, h2⟩⟩
end

theorem wpOp_of_step {Q : Exit → Act → World → Prop} {K : Act → World → Prop} {i : Nat} {o : Oper} {a : Act} {w : World} (ho : ops[i]? = some o) (h : stepOO P ops o K a w) : wpOp P ops (Norm Q) i K a w := by
  unfold wpOp
  simp only [ho]
  unfold stepOO at h
  by_cases hw : Region.wanted o (yielded ops a.tmps) = true
  · simp only [hw, if_true] at h ⊢
    exact .inl (Oper.wp_weaken h)
  · simp only [hw] at h ⊢
    exact h
theorem stepOO_mono {K K' : Act → World → Prop} {o : Oper} {a : Act} {w : World} (hk : ∀ a w, K a w → K' a w) (h : stepOO P ops o K a w) : stepOO P ops o K' a w := by
  unfold stepOO at *
  split
  · rename_i hw; rw [if_pos hw] at h; exact Oper.wp_mono (fun a w h => hk a w h) h
  · rename_i hw; rw [if_neg hw] at h; exact hk _ _ h

theorem wpAnyH_of_tree {Q : Exit → Act → World → Prop} (hsel : Region.noSelect ops = true) :
    ∀ (t : OT) (n : Nat) (listed : Array Bool) (a : Act) (w : World), S w → t.fits ops n listed = true →
      wpOO P ops S (fun a w => Q .normal a w) (t.ops ops.toList) a w → wpAnyH P .any ops (Norm Q) S n listed a w
  | .done, n, listed, a, w, hS, hB, h => by
    simp only [OT.fits, Bool.and_eq_true, beq_iff_eq] at hB
    obtain ⟨rfl, hr⟩ := hB
    exact ⟨by simpa using hr, h⟩
  | .take i t, 0, listed, a, w, hS, hB, h => by simp [OT.fits] at hB
  | .one i t, 0, listed, a, w, hS, hB, h => by simp [OT.fits] at hB
  | .two i j t u, 0, listed, a, w, hS, hB, h => by simp [OT.fits] at hB
  | .take i t, n + 1, listed, a, w, hS, hB, h => by
    simp only [OT.fits, Bool.and_eq_true] at hB
    obtain ⟨⟨hr, hf⟩, hB⟩ := hB
    have hr' : i ∈ Region.ready .any ops listed := by simpa using hr
    obtain ⟨_, o, ho, _⟩ := mem_ready.1 hr'
    have hod : ops.toList.getD i default = o := by simp [List.getD, ho]
    simp only [OT.ops, hod, wpOO] at h
    by_cases hw : Region.wanted o (yielded ops a.tmps) = true
    · simp only [hw, if_true] at h
      obtain ⟨v, hv, hk⟩ := h
      exact wpAnyH_take ho hsel hf hr (fun _ _ _ h => h.elim) (.inl ⟨hw, hv⟩) hS (wpAnyH_of_tree hsel t n _ _ _ hS hB hk)
    · simp only [hw] at h
      exact wpAnyH_take (v := undef) ho hsel hf hr (fun _ _ _ h => h.elim) (.inr ⟨by simpa using hw, rfl⟩) hS (wpAnyH_of_tree hsel t n _ _ _ hS hB h)
  | .one i t, n + 1, listed, a, w, hS, hB, h => by
    simp only [OT.fits, Bool.and_eq_true, decide_eq_true_eq] at hB
    obtain ⟨hr, hB⟩ := hB
    have hr' : i ∈ Region.ready .any ops listed := by rw [hr]; simp
    obtain ⟨_, o, ho, _⟩ := mem_ready.1 hr'
    have hod : ops.toList.getD i default = o := by simp [List.getD, ho]
    simp only [OT.ops, hod, wpOO] at h
    refine wpAnyH_all (rs := [i]) hr (by simp) fun k hk => ?_
    obtain rfl : k = i := by simpa using hk
    exact wpOp_of_step ho (stepOO_mono (fun a' w' h' => ⟨h'.1, wpAnyH_of_tree hsel t n _ _ _ h'.1 hB h'.2⟩) h.2)
  | .two i j t u, n + 1, listed, a, w, hS, hB, h => by
    simp only [OT.fits, Bool.and_eq_true, decide_eq_true_eq] at hB
    obtain ⟨⟨hr, hB⟩, hB2⟩ := hB
    have hr' : i ∈ Region.ready .any ops listed := by rw [hr]; simp
    have hr2 : j ∈ Region.ready .any ops listed := by rw [hr]; simp
    obtain ⟨_, o, ho, _⟩ := mem_ready.1 hr'
    obtain ⟨_, p, hp, _⟩ := mem_ready.1 hr2
    have hod : ops.toList.getD i default = o := by simp [List.getD, ho]
    have hpd : ops.toList.getD j default = p := by simp [List.getD, hp]
    simp only [OT.ops, hod, hpd, wpOO] at h
    refine wpAnyH_all (rs := [i, j]) hr (by simp) fun k hk => ?_
    rcases (by simpa using hk : k = i ∨ k = j) with rfl | rfl
    · exact wpOp_of_step ho (stepOO_mono (fun a' w' h' => ⟨h'.1, wpAnyH_of_tree hsel t n _ _ _ h'.1 hB h'.2⟩) h.2.1)
    · exact wpOp_of_step hp (stepOO_mono (fun a' w' h' => ⟨h'.1, wpAnyH_of_tree hsel u n _ _ _ h'.1 hB2 h'.2⟩) h.2.2)

/-- THE REGION -/
theorem wp_region_tree {id : Nat} {Q : Exit → Act → World → Prop} {a : Act} {w : World} {l : List Oper} (t : OT) (hm : P.follows .mixedOrders = true)
    (hB : (Region.noSelect l.toArray && t.fits l.toArray l.length (Array.replicate l.length false)) = true) (S : World → Prop) (hS : S w.drew)
    (h : wpOO P l.toArray S (fun a w => Q .normal a w) (t.ops l) a w.drew) : (Code.region id l.toArray true).wp P Q a w := by
  simp only [Bool.and_eq_true] at hB
  obtain ⟨hsel, hB⟩ := hB
  have H := wpAnyH_of_tree (P := P) (S := S) (Q := Q) hsel t l.length (Array.replicate l.length false) a w.drew hS hB (by simpa using h)
  exact Code.wp_mono Norm.le (wp_region_held (S := S) hm (by simpa using H))
end
end Go.Proofs.Ytnncpjekcljfbaa
/- As XFork, with forks of three, and the tree's end weakened. No program is named. -/
namespace Go.Proofs.Ytnncpjekcljfbaa
inductive OT3 where
  | done
  | take (i : Nat) (t : OT3)
  | one (i : Nat) (t : OT3)
  | two (i j : Nat) (t u : OT3)
  | three (i j k : Nat) (t u v : OT3)
/-- the tree with its operations -/
inductive OO3 where
  | done
  | take (o : Oper) (t : OO3)
  | one (o : Oper) (t : OO3)
  | two (o p : Oper) (t u : OO3)
  | three (o p r : Oper) (t u v : OO3)
def OT3.ops (ops : List Oper) : OT3 → OO3
  | .done => .done
  | .take i t => .take (ops.getD i default) (t.ops ops)
  | .one i t => .one (ops.getD i default) (t.ops ops)
  | .two i j t u => .two (ops.getD i default) (ops.getD j default) (t.ops ops) (u.ops ops)
  | .three i j k t u v => .three (ops.getD i default) (ops.getD j default) (ops.getD k default) (t.ops ops) (u.ops ops) (v.ops ops)
def OT3.fits (ops : Array Oper) : OT3 → Nat → Array Bool → Bool
  | .done, n, listed => n == 0 && (Region.ready .any ops listed).isEmpty
  | .take i t, n + 1, listed => (Region.ready .any ops listed).contains i && Region.free .any ops listed i && t.fits ops n (listed.setIfInBounds i true)
  | .one i t, n + 1, listed => decide (Region.ready .any ops listed = [i]) && t.fits ops n (listed.setIfInBounds i true)
  | .two i j t u, n + 1, listed => decide (Region.ready .any ops listed = [i, j]) && t.fits ops n (listed.setIfInBounds i true) && u.fits ops n (listed.setIfInBounds j true)
  | .three i j k t u v, n + 1, listed => decide (Region.ready .any ops listed = [i, j, k]) && t.fits ops n (listed.setIfInBounds i true) && u.fits ops n (listed.setIfInBounds j true) && v.fits ops n (listed.setIfInBounds k true)
  | _, 0, _ => false
section
variable {P : Program} {ops : Array Oper} {S : World → Prop}
def wpOT (P : Program) (ops : Array Oper) (S : World → Prop) (Q : Act → World → Prop) : OO3 → Act → World → Prop
  | .done, a, w => Q a w
  | .take o t, a, w => if Region.wanted o (yielded ops a.tmps) then ∃ v, HeldAt P S o a v ∧ wpOT P ops S Q t (a.put o.dst v) w else wpOT P ops S Q t (a.put o.dst undef) w
  | .one o t, a, w => S w ∧ stepOO P ops o (fun a' w' => S w' ∧ wpOT P ops S Q t a' w') a w
  | .two o p t u, a, w => S w ∧ stepOO P ops o (fun a' w' => S w' ∧ wpOT P ops S Q t a' w') a w ∧ stepOO P ops p (fun a' w' => S w' ∧ wpOT P ops S Q u a' w') a w
  | .three o p r t u v, a, w => S w ∧ stepOO P ops o (fun a' w' => S w' ∧ wpOT P ops S Q t a' w') a w ∧ stepOO P ops p (fun a' w' => S w' ∧ wpOT P ops S Q u a' w') a w ∧ stepOO P ops r (fun a' w' => S w' ∧ wpOT P ops S Q v a' w') a w

section
variable {Q : Act → World → Prop} {a : Act} {w : World} {o p r : Oper} {t u v : OO3}
theorem wpOT_nil (h : Q a w) : wpOT P ops S Q .done a w := h
theorem wpOT_held (h : ∀ K : Act → Prop, (∀ a, wpOT P ops S Q t a w → K a) → if Region.wanted o (yielded ops a.tmps) then ∃ v, HeldAt P S o a v ∧ K (a.put o.dst v) else K (a.put o.dst undef)) : wpOT P ops S Q (.take o t) a w := h _ fun _ h => h
theorem wpOT_step (h : ∀ K : Act → World → Prop, (∀ a w, S w → wpOT P ops S Q t a w → K a w) → if Region.wanted o (yielded ops a.tmps) then o.wp P a w K (fun _ _ _ => False) else K (a.put o.dst undef) w) (hS : S w) : wpOT P ops S Q (.one o t) a w :=
  ⟨hS, h (fun a w => S w ∧ wpOT P ops S Q t a w) fun _ _ h1 h2 => ⟨h1, h2⟩⟩
theorem wpOT_fork (h : ∀ K : Act → World → Prop, (∀ a w, S w → wpOT P ops S Q t a w → K a w) → if Region.wanted o (yielded ops a.tmps) then o.wp P a w K (fun _ _ _ => False) else K (a.put o.dst undef) w)
    (h2 : ∀ K : Act → World → Prop, (∀ a w, S w → wpOT P ops S Q u a w → K a w) → if Region.wanted p (yielded ops a.tmps) then p.wp P a w K (fun _ _ _ => False) else K (a.put p.dst undef) w) (hS : S w) : wpOT P ops S Q (.two o p t u) a w :=
  ⟨hS, h (fun a w => S w ∧ wpOT P ops S Q t a w) fun _ _ h1 h2 => ⟨h1, h2⟩, h2 (fun a w => S w ∧ wpOT P ops S Q u a w) fun _ _ h1 h2 => ⟨h1, h2⟩⟩
theorem wpOT_three (h : ∀ K : Act → World → Prop, (∀ a w, S w → wpOT P ops S Q t a w → K a w) → if Region.wanted o (yielded ops a.tmps) then o.wp P a w K (fun _ _ _ => False) else K (a.put o.dst undef) w)
    (h2 : ∀ K : Act → World → Prop, (∀ a w, S w → wpOT P ops S Q u a w → K a w) → if Region.wanted p (yielded ops a.tmps) then p.wp P a w K (fun _ _ _ => False) else K (a.put p.dst undef) w)
    (h3 : ∀ K : Act → World → Prop, (∀ a w, S w → wpOT P ops S Q v a w → K a w) → if Region.wanted r (yielded ops a.tmps) then r.wp P a w K (fun _ _ _ => False) else K (a.put r.dst undef) w) (hS : S w) : wpOT P ops S Q (.three o p r t u v) a w :=
  ⟨hS, h (fun a w => S w ∧ wpOT P ops S Q t a w) fun _ _ h1 h2 => ⟨h1, h2⟩, h2 (fun a w => S w ∧ wpOT P ops S Q u a w) fun _ _ h1 h2 => ⟨h1, h2⟩, h3 (fun a w => S w ∧ wpOT P ops S Q v a w) fun _ _ h1 h2 => ⟨h1, h2⟩⟩
end

theorem wpOT_mono {Q Q' : Act → World → Prop} (hq : ∀ a w, Q a w → Q' a w) : ∀ (t : OO3) (a : Act) (w : World), wpOT P ops S Q t a w → wpOT P ops S Q' t a w
  | .done, a, w, h => hq _ _ h
  | .take o t, a, w, h => by
    simp only [wpOT] at h ⊢
    split
    · rename_i hw; rw [if_pos hw] at h; obtain ⟨v, h1, h2⟩ := h; exact ⟨v, h1, wpOT_mono hq t _ _ h2⟩
    · rename_i hw; rw [if_neg hw] at h; exact wpOT_mono hq t _ _ h
  | .one o t, a, w, h => ⟨h.1, stepOO_mono (fun _ _ h => ⟨h.1, wpOT_mono hq t _ _ h.2⟩) h.2⟩
  | .two o p t u, a, w, h => ⟨h.1, stepOO_mono (fun _ _ h => ⟨h.1, wpOT_mono hq t _ _ h.2⟩) h.2.1, stepOO_mono (fun _ _ h => ⟨h.1, wpOT_mono hq u _ _ h.2⟩) h.2.2⟩
  | .three o p r t u v, a, w, h => ⟨h.1, stepOO_mono (fun _ _ h => ⟨h.1, wpOT_mono hq t _ _ h.2⟩) h.2.1, stepOO_mono (fun _ _ h => ⟨h.1, wpOT_mono hq u _ _ h.2⟩) h.2.2.1, stepOO_mono (fun _ _ h => ⟨h.1, wpOT_mono hq v _ _ h.2⟩) h.2.2.2⟩
theorem wpAnyH_of_tree3 {Q : Exit → Act → World → Prop} (hsel : Region.noSelect ops = true) :
    ∀ (t : OT3) (n : Nat) (listed : Array Bool) (a : Act) (w : World), S w → t.fits ops n listed = true →
      wpOT P ops S (fun a w => Q .normal a w) (t.ops ops.toList) a w → wpAnyH P .any ops (Norm Q) S n listed a w
  | .done, n, listed, a, w, hS, hB, h => by
    simp only [OT3.fits, Bool.and_eq_true, beq_iff_eq] at hB
    obtain ⟨rfl, hr⟩ := hB
    exact ⟨by simpa using hr, h⟩
  | .take i t, 0, listed, a, w, hS, hB, h => by simp [OT3.fits] at hB
  | .one i t, 0, listed, a, w, hS, hB, h => by simp [OT3.fits] at hB
  | .two i j t u, 0, listed, a, w, hS, hB, h => by simp [OT3.fits] at hB
  | .three i j k t u v, 0, listed, a, w, hS, hB, h => by simp [OT3.fits] at hB
  | .take i t, n + 1, listed, a, w, hS, hB, h => by
    simp only [OT3.fits, Bool.and_eq_true] at hB
    obtain ⟨⟨hr, hf⟩, hB⟩ := hB
    have hr' : i ∈ Region.ready .any ops listed := by simpa using hr
    obtain ⟨_, o, ho, _⟩ := mem_ready.1 hr'
    have hod : ops.toList.getD i default = o := by simp [List.getD, ho]
    simp only [OT3.ops, hod, wpOT] at h
    by_cases hw : Region.wanted o (yielded ops a.tmps) = true
    · simp only [hw, if_true] at h
      obtain ⟨v, hv, hk⟩ := h
      exact wpAnyH_take ho hsel hf hr (fun _ _ _ h => h.elim) (.inl ⟨hw, hv⟩) hS (wpAnyH_of_tree3 hsel t n _ _ _ hS hB hk)
    · simp only [hw] at h
      exact wpAnyH_take (v := undef) ho hsel hf hr (fun _ _ _ h => h.elim) (.inr ⟨by simpa using hw, rfl⟩) hS (wpAnyH_of_tree3 hsel t n _ _ _ hS hB h)
  | .one i t, n + 1, listed, a, w, hS, hB, h => by
    simp only [OT3.fits, Bool.and_eq_true, decide_eq_true_eq] at hB
    obtain ⟨hr, hB⟩ := hB
    have hr' : i ∈ Region.ready .any ops listed := by rw [hr]; simp
    obtain ⟨_, o, ho, _⟩ := mem_ready.1 hr'
    have hod : ops.toList.getD i default = o := by simp [List.getD, ho]
    simp only [OT3.ops, hod, wpOT] at h
    refine wpAnyH_all (rs := [i]) hr (by simp) fun k hk => ?_
    obtain rfl : k = i := by simpa using hk
    exact wpOp_of_step ho (stepOO_mono (fun a' w' h' => ⟨h'.1, wpAnyH_of_tree3 hsel t n _ _ _ h'.1 hB h'.2⟩) h.2)
  | .two i j t u, n + 1, listed, a, w, hS, hB, h => by
    simp only [OT3.fits, Bool.and_eq_true, decide_eq_true_eq] at hB
    obtain ⟨⟨hr, hB⟩, hB2⟩ := hB
    have hr' : i ∈ Region.ready .any ops listed := by rw [hr]; simp
    have hr2 : j ∈ Region.ready .any ops listed := by rw [hr]; simp
    obtain ⟨_, o, ho, _⟩ := mem_ready.1 hr'
    obtain ⟨_, p, hp, _⟩ := mem_ready.1 hr2
    have hod : ops.toList.getD i default = o := by simp [List.getD, ho]
    have hpd : ops.toList.getD j default = p := by simp [List.getD, hp]
    simp only [OT3.ops, hod, hpd, wpOT] at h
    refine wpAnyH_all (rs := [i, j]) hr (by simp) fun k hk => ?_
    rcases (by simpa using hk : k = i ∨ k = j) with rfl | rfl
    · exact wpOp_of_step ho (stepOO_mono (fun a' w' h' => ⟨h'.1, wpAnyH_of_tree3 hsel t n _ _ _ h'.1 hB h'.2⟩) h.2.1)
    · exact wpOp_of_step hp (stepOO_mono (fun a' w' h' => ⟨h'.1, wpAnyH_of_tree3 hsel u n _ _ _ h'.1 hB2 h'.2⟩) h.2.2)

  | .three i j k t u v, n + 1, listed, a, w, hS, hB, h => by
    simp only [OT3.fits, Bool.and_eq_true, decide_eq_true_eq] at hB
    obtain ⟨⟨⟨hr, hB⟩, hB2⟩, hB3⟩ := hB
    have hr' : i ∈ Region.ready .any ops listed := by rw [hr]; simp
    have hr2 : j ∈ Region.ready .any ops listed := by rw [hr]; simp
    have hr3 : k ∈ Region.ready .any ops listed := by rw [hr]; simp
    obtain ⟨_, o, ho, _⟩ := mem_ready.1 hr'
    obtain ⟨_, p, hp, _⟩ := mem_ready.1 hr2
    obtain ⟨_, q, hq, _⟩ := mem_ready.1 hr3
    have hod : ops.toList.getD i default = o := by simp [List.getD, ho]
    have hpd : ops.toList.getD j default = p := by simp [List.getD, hp]
    have hqd : ops.toList.getD k default = q := by simp [List.getD, hq]
    simp only [OT3.ops, hod, hpd, hqd, wpOT] at h
    refine wpAnyH_all (rs := [i, j, k]) hr (by simp) fun m hm => ?_
    rcases (by simpa using hm : m = i ∨ m = j ∨ m = k) with rfl | rfl | rfl
    · exact wpOp_of_step ho (stepOO_mono (fun a' w' h' => ⟨h'.1, wpAnyH_of_tree3 hsel t n _ _ _ h'.1 hB h'.2⟩) h.2.1)
    · exact wpOp_of_step hp (stepOO_mono (fun a' w' h' => ⟨h'.1, wpAnyH_of_tree3 hsel u n _ _ _ h'.1 hB2 h'.2⟩) h.2.2.1)
    · exact wpOp_of_step hq (stepOO_mono (fun a' w' h' => ⟨h'.1, wpAnyH_of_tree3 hsel v n _ _ _ h'.1 hB3 h'.2⟩) h.2.2.2)

/-- THE REGION -/
theorem wp_region_tree3 {id : Nat} {Q : Exit → Act → World → Prop} {a : Act} {w : World} {l : List Oper} (t : OT3) (hm : P.follows .mixedOrders = true)
    (hB : (Region.noSelect l.toArray && t.fits l.toArray l.length (Array.replicate l.length false)) = true) (S : World → Prop) (hS : S w.drew)
    (h : wpOT P l.toArray S (fun a w => Q .normal a w) (t.ops l) a w.drew) : (Code.region id l.toArray true).wp P Q a w := by
  simp only [Bool.and_eq_true] at hB
  obtain ⟨hsel, hB⟩ := hB
  have H := wpAnyH_of_tree3 (P := P) (S := S) (Q := Q) hsel t l.length (Array.replicate l.length false) a w.drew hS hB (by simpa using h)
  exact Code.wp_mono Norm.le (wp_region_held (S := S) hm (by simpa using H))
end
end Go.Proofs.Ytnncpjekcljfbaa
/- sync.Once and the mutex, one goroutine. -/
namespace Go.Proofs.Ytnncpjekcljfbaa
open Go.RowKit

theorem once_disable (w : World) : (callFunc 140 #[]).run Try.prog w = .ok (.value (.tuple #[])) w := run_call_mark0 Try.func140 (by kernel_rfl) (by kernel_rfl) (by kernel_rfl) .disable (by kernel_rfl) w
theorem once_enable (w : World) : (callFunc 142 #[]).run Try.prog w = .ok (.value (.tuple #[])) w := run_call_mark0 Try.func142 (by kernel_rfl) (by kernel_rfl) (by kernel_rfl) .enable (by kernel_rfl) w
theorem once_acquire (a : Addr) (w : World) : (callFunc 143 #[.pointer (some a)]).run Try.prog w = .ok (.value (.tuple #[])) w := run_call_marked Try.func143 (by kernel_rfl) (by kernel_rfl) (by kernel_rfl) .acquire (by kernel_rfl) a w
theorem once_release (a : Addr) (w : World) : (callFunc 145 #[.pointer (some a)]).run Try.prog w = .ok (.value (.tuple #[])) w := run_call_marked Try.func145 (by kernel_rfl) (by kernel_rfl) (by kernel_rfl) .releaseMerge (by kernel_rfl) a w

theorem store_deferred (a : Addr) (x : Value) (u : FrameMode) (w : World) (hc : w.cell? a = some x) (hz : w.frozen? a = false) :
    CallsD Try.prog 125 #[.pointer (some a), .bool true] u w fun e u' w' => u' = u ∧ (e = .returned (.tuple #[]) ∧ w' = w.drew.setCell a (.int .u32 1)) := by
  have hc' : w.drew.cell? a = some x := by go_simp
  have hz' : w.drew.frozen? a = false := by go_simp
  have hst := run_call_store (P := Try.prog) Try.func135 (by kernel_rfl) (by kernel_rfl) (by kernel_rfl) (by kernel_rfl) (k := .u32) (y := 1) hc' hz'
  go_enter_d Try.func125, Try.ntmps125
  go_wp2
  go_region_calls
  all_goals (go_end0; exact ⟨rfl, rfl⟩)

set_option maxRecDepth 100000 in
theorem unlock_deferred (a : Addr) (u : FrameMode) (w : World) (hc : w.cell? a = some (.int .i32 1)) (hz : w.frozen? a = false) :
    CallsD Try.prog 124 #[.pointer (some a)] u w fun e u' w' => u' = u ∧ (e = .returned (.tuple #[]) ∧ w' = w.setCell a (.int .i32 0)) := by
  have hd := once_disable
  have he := once_enable
  have hr := once_release
  have hadd := run_call_add (P := Try.prog) Try.func146 (by kernel_rfl) (by kernel_rfl) (by kernel_rfl) .i32 (by kernel_rfl) (y := -1) (s := 0) hc hz (by simp [go_sem]; rfl)
  have hcv := run_convert_to_unsafe (P := Try.prog) (src := 206) (dst := 210) Try.underlying206 Try.underlying210 (by kernel_rfl) hc
  go_enter_d Try.func124, Try.ntmps124
  go_wp2
  go_end0
  go_wp2
  go_end0
  exact ⟨rfl, rfl⟩

theorem bool_load (b o : Nat) (x : Int) (w : World) (hc : w.cell? ⟨b, o, none⟩ = some (.int .u32 x)) : Calls Try.prog 114 #[.pointer (some ⟨b, o, none⟩)] w fun e w' => e = .returned (.bool (decide (x ≠ 0))) ∧ w = w' := by
  have hl := run_call_load (P := Try.prog) Try.func122 (by kernel_rfl) (by kernel_rfl) (by kernel_rfl) .u32 (by kernel_rfl) hc
  by_cases h0 : x = 0
  · subst h0
    go_enter Try.func114, Try.ntmps114
    go_wp2
    go_ret
    exact ⟨rfl, rfl⟩
  · have h1 : (x != 0) = true := by simp [h0]
    have HD : Hid (decide (x ≠ 0) = true) := by show _ = _; simp [h0]
    rw [HD.out]
    go_enter Try.func114, Try.ntmps114
    go_wp2
    go_ret
    exact ⟨rfl, rfl⟩

set_option maxRecDepth 100000 in
theorem lock_free (a : Addr) (w : World) (hc : w.cell? a = some (.int .i32 0)) (hz : w.frozen? a = false) :
    Calls Try.prog 123 #[.pointer (some a)] w fun e w' => e = .returned (.tuple #[]) ∧ w' = w.setCell a (.int .i32 1) := by
  have hd := once_disable
  have he := once_enable
  have ha := once_acquire
  have hcas := run_call_cas_hit (P := Try.prog) Try.func141 (by kernel_rfl) (by kernel_rfl) (by kernel_rfl) .i32 (by kernel_rfl) (y := 1) hc hz
  have hc' : (w.setCell a (.int .i32 1)).cell? a = some (.int .i32 1) := World.cell?_setCell_same w a _ hc
  have hcv := run_convert_to_unsafe (P := Try.prog) (src := 206) (dst := 210) Try.underlying206 Try.underlying210 (by kernel_rfl) hc'
  go_enter Try.func123, Try.ntmps123
  go_wp2
  first | go_end0 | (simp only [Exit.inBlock, Exit.then]; refine bodyPost_ret (results_none rfl _ _ _) rfl ?_) | refine bodyPost_ret (results_none rfl _ _ _) rfl ?_
  go_wp2
  go_end0
  exact ⟨rfl, rfl⟩

set_option maxRecDepth 100000 in
set_option maxHeartbeats 1600000 in
/-- doSlow: not yet done, the lock free -/
theorem slow_hash {w : World} {b off : Nat} {pl : Addr} {Q : World → Prop}
    (h0 : w.cell? ⟨b, off, none⟩ = some (.int .u32 0)) (h1 : w.cell? ⟨b, off + 1, none⟩ = some (.int .i32 0)) (f1 : w.frozen? ⟨b, off + 1, none⟩ = false)
    (hf : Calls Try.prog 126 #[.pointer (some pl)] (w.setCell ⟨b, off + 1, none⟩ (.int .i32 1)) fun e W => e = .returned (.tuple #[]) ∧ Q W)
    (hq : ∀ W, Q W → W.cell? ⟨b, off, none⟩ = some (.int .u32 0) ∧ W.cell? ⟨b, off + 1, none⟩ = some (.int .i32 1) ∧ W.frozen? ⟨b, off, none⟩ = false ∧ W.frozen? ⟨b, off + 1, none⟩ = false) :
    Calls Try.prog 115 #[.pointer (some ⟨b, off, none⟩), .func (.func 126) #[] #[.pointer (some pl)]] w fun e w' => e = .returned (.tuple #[]) ∧ ∃ W, Q W ∧ (W.drew.setCell ⟨b, off, none⟩ (.int .u32 1)).setCell ⟨b, off + 1, none⟩ (.int .i32 0) = w' := by
  have hl : (w.setCell ⟨b, off + 1, none⟩ (.int .i32 1)).cell? ⟨b, off, none⟩ = some (.int .u32 0) := (World.cell?_setCell_other _ ⟨b, off + 1, none⟩ ⟨b, off, none⟩ _ (by simp)).trans h0
  have hnot : ∀ (x : Bool) (w : World), (Op.unary .not (.bool x)).run Try.prog w = .ok (.bool (!x)) w := fun _ _ => rfl
  have HF := Lib.hid hf
  have HQ := Lib.hid hq
  clear hf hq
  go_enter_defers Try.func115, Try.ntmps115
  go_wp2_with fail
  refine (lock_free ⟨b, off + 1, none⟩ _ h1 f1).mono ?_
  rintro e w' ⟨rfl, rfl⟩
  generalize w.setCell ⟨b, off + 1, none⟩ (.int .i32 1) = W1 at *
  go_wp2_with fail
  refine (bool_load _ _ _ _ hl).mono ?_
  rintro e w' ⟨rfl, rfl⟩
  go_wp2_with fail
  refine HF.out.mono ?_
  rintro e W ⟨rfl, hW⟩
  obtain ⟨q0, q1, q2, q3⟩ := HQ.out W hW
  have HW := Lib.hid hW
  clear hW
  go_wp2_with fail
  refine leaves_cons (f := 125) (args := #[.pointer (some ⟨b, off, none⟩), .bool true]) (by simp) (by simp [go_sem]) ?_
  refine (store_deferred ⟨b, off, none⟩ (.int .u32 0) .returning _ q0 (by simp [q2])).mono ?_
  rintro e u' w'' ⟨rfl, rfl, rfl⟩
  refine leaves_cons (f := 124) (args := #[.pointer (some ⟨b, off + 1, none⟩)]) (by simp [settle]) (by simp [go_sem]) ?_
  refine (unlock_deferred ⟨b, off + 1, none⟩ _ _ ?_ (by simp [q3])).mono ?_
  · refine (World.cell?_setCell_other _ ⟨b, off, none⟩ ⟨b, off + 1, none⟩ _ (by simp)).trans ?_
    rw [World.cell?_drew]
    exact q1
  rintro e u' w'' ⟨rfl, rfl, rfl⟩
  simp only [Leaves, settle, results, Try.results115]
  exact ⟨.tuple #[], by simp, rfl, W, HW.out, rfl⟩

/-- Do: not yet done, the lock free -/
theorem do_hash {w : World} {b off : Nat} {pl : Addr} {Q : World → Prop}
    (h0 : w.cell? ⟨b, off, none⟩ = some (.int .u32 0)) (h1 : w.cell? ⟨b, off + 1, none⟩ = some (.int .i32 0)) (f1 : w.frozen? ⟨b, off + 1, none⟩ = false)
    (hf : Calls Try.prog 126 #[.pointer (some pl)] (w.setCell ⟨b, off + 1, none⟩ (.int .i32 1)) fun e W => e = .returned (.tuple #[]) ∧ Q W)
    (hq : ∀ W, Q W → W.cell? ⟨b, off, none⟩ = some (.int .u32 0) ∧ W.cell? ⟨b, off + 1, none⟩ = some (.int .i32 1) ∧ W.frozen? ⟨b, off, none⟩ = false ∧ W.frozen? ⟨b, off + 1, none⟩ = false) :
    Calls Try.prog 102 #[.pointer (some ⟨b, off, none⟩), .func (.func 126) #[] #[.pointer (some pl)]] w fun e w' => e = .returned (.tuple #[]) ∧ ∃ W, Q W ∧ (W.drew.setCell ⟨b, off, none⟩ (.int .u32 1)).setCell ⟨b, off + 1, none⟩ (.int .i32 0) = w' := by
  have hnot : ∀ (x : Bool) (w : World), (Op.unary .not (.bool x)).run Try.prog w = .ok (.bool (!x)) w := fun _ _ => rfl
  have HS := Lib.hid (slow_hash h0 h1 f1 hf hq)
  have HL := Lib.hid (bool_load _ _ _ _ h0)
  clear h0 h1 f1 hf hq
  go_enter Try.func102, Try.ntmps102
  go_wp2_with fail
  refine HL.out.mono ?_
  rintro e w' ⟨rfl, rfl⟩
  go_wp2_with fail
  refine HS.out.mono ?_
  rintro e w' ⟨rfl, W, hW, rfl⟩
  have HW := Lib.hid hW
  clear hW HS HL
  generalize hE : (W.drew.setCell ⟨b, off, none⟩ (.int .u32 1)).setCell ⟨b, off + 1, none⟩ (.int .i32 0) = w2 at *
  have HE := Lib.hid hE
  clear hE
  go_wp2
  go_end0
  exact ⟨rfl, W, HW.out, HE.out⟩

/-- Do: done already -/
theorem do_done (b off : Nat) (fv : Value) (w : World) (h0 : w.cell? ⟨b, off, none⟩ = some (.int .u32 1)) :
    Calls Try.prog 102 #[.pointer (some ⟨b, off, none⟩), fv] w fun e w' => e = .returned (.tuple #[]) ∧ w = w' := by
  have hnot : ∀ (x : Bool) (w : World), (Op.unary .not (.bool x)).run Try.prog w = .ok (.bool (!x)) w := fun _ _ => rfl
  have HL := Lib.hid (bool_load _ _ _ _ h0)
  clear h0
  go_enter Try.func102, Try.ntmps102
  go_wp2_with fail
  refine HL.out.mono ?_
  rintro e w' ⟨rfl, rfl⟩
  go_wp2
  go_end0
  exact ⟨rfl, rfl⟩
end Go.Proofs.Ytnncpjekcljfbaa
/- The frame of a statement's proof: what is left is the walk. -/
namespace Go.Proofs.Ytnncpjekcljfbaa
open Go.ChangeShapes Go.WideShapes Go.ChangeAt Go.RowKit

theorem own_knob : ownKnob Try.prog.godebug = none := by kernel_rfl
theorem laid_out : laidOutB Try.prog = true := by kernel_rfl

section
variable {H : Type} {enc : TypeId × Value → H}

theorem trodAll_below {P : Program} (hl : laidOutB P = true) {W W' : World} (hb : Below W.heap.size W W') : ∀ {ts : List TypeId} {vs : List Value} {ds : List (DataW H)} {ps : List MemPlace},
    (∀ t ∈ ts, P.readableRec t = true ∧ t < P.types.size) → DataW.TrodAll enc P W 0 (fun _ => true) true ts vs ds ps → (∀ x ∈ ps, x.block < W.heap.size) →
    DataW.TrodAll enc P W' 0 (fun b => decide (b < W.heap.size)) true ts vs ds ps
  | [], _, _, _, _, h, _ => by
    obtain ⟨rfl, rfl, rfl⟩ := trodAll_nil h
    exact trodAll_mk0
  | t :: ts, _, _, _, hr, h, hlt => by
    obtain ⟨v, vs', d, ds', p, q, rfl, rfl, rfl, h1, h2⟩ := trodAll_cons h
    exact trodAll_cons_mk (Below.trod hl (hr t (by simp)).1 (hr t (by simp)).2 h1 hb fun x hx => hlt x (by simp [hx])) (trodAll_below hl hb (fun t ht => hr t (by simp [ht])) h2 fun x hx => hlt x (by simp [hx]))

theorem law_post {f : Func} {s : ChangeSpec} {W W' : World} {args : Array Value} {ds : List (DataW H)} {before : List MemPlace} (hW : DataW.Whole enc Try.prog f.params.toList s.vars false W args.toList ds [] before)
    (hv : s.vars = []) (hres : f.resultTypes = #[4]) (hr : ∀ t ∈ f.params.toList, Try.prog.readableRec t = true ∧ t < Try.prog.types.size)
    (hfn : s.fn H (ds ++ []) = { results := [.lit (.bool true)], args := ds }) (hk : Kept W W') : s.post enc Try.prog f false true false false W args (.bool true) W' := by
  have hlt : ∀ p ∈ before, p.block < W.heap.size := fun p hp => hW.lt p hp
  have hW' := hW
  obtain ⟨p, q, hA, hV, rfl, hz, hn⟩ := hW'
  rw [hv] at hV
  obtain ⟨_, rfl⟩ := trodVars_none hV
  simp only [List.append_nil] at hW hlt
  refine ⟨ds, [], p, [], p, [], hW, ?_, ?_, ?_, hk.below.frame _, fun h => by cases h⟩
  · rw [hfn, hres]
    exact trodAll_cons_mk (shut_bool Try.underlying4 true) trodAll_mk0
  · rw [hfn]
    exact trodAll_below laid_out hk.below hr hA hlt
  · rw [hfn, hv]
    rfl

theorem ok_agg {P : Program} {W : World} {base : Nat} {t : TypeId} {v : Value} (ht : (match P.underlying t with | some (.struct _) | some (.array _ _) => true | _ => false) = true) (h : Value.okWide P W .any base t v) : ∃ cs, v = .agg cs ∧ cs.size = P.cellsOf t := by
  unfold Value.okWide at h
  split at h
  · obtain ⟨cs, h1, h2, _⟩ := h; exact ⟨cs, h1, h2⟩
  · obtain ⟨cs, h1, h2, _⟩ := h; exact ⟨cs, h1, h2⟩
  · rename_i h1 h2
    split at ht
    · rename_i fs he; exact (h1 _ he).elim
    · rename_i n e he; exact (h2 _ _ he).elim
    · cases ht

set_option maxRecDepth 100000 in
theorem law_lifted (os : Os) (started : os.Started) {k : FuncId} {f : Func} (hf : Try.prog.funcs[k]? = some f) (hno : Try.prog.inits.idxOf? k = none) {s : ChangeSpec} (hv : s.vars = [])
    (hres : f.resultTypes = #[4]) (hr0 : (f.params.toList.all fun t => Try.prog.readableRec t && decide (t < Try.prog.types.size)) = true)
    (hfn : ∀ ds : List (DataW H), ds.length = f.params.size → s.fn H (ds ++ []) = { results := [.lit (.bool true)], args := ds })
    (witness : ∃ (w : World) (tape : Tape) (i : Input), w.os = os ∧ (w.forCall tape i).Shaped Try.checked.prog ∧ i.vars = [] ∧ Input.okWide Try.checked.prog (w.forCall tape i) .any w.heap.size k i ∧
      s.pre6 enc Try.checked.prog f [] false (w.forCall tape i).memory i.args ∧ ({} : Assume).holds Try.checked.prog (lone (Frame.enter Try.checked.prog k i.args .normal) [] (w.forCall tape i)))
    (walk : ∀ (W : World) (base : Nat) (args : Array Value) (ds : List (DataW H)) (ps : List MemPlace),
      (∀ (j : Nat) t v, f.params[j]? = some t → args[j]? = some v → Value.okWide Try.prog W .any base t v) →
      DataW.TrodAll enc Try.prog W 0 (fun _ => true) true f.params.toList args.toList ds ps →
      (DataW.weightsEach Try.prog f.params.toList ds).all (· ≤ reachBytes) = true →
      Calls Try.prog k args W fun e W' => e = .returned (.bool true) ∧ Kept W W') :
    ReturnsInHanded {} Try.checked os k .any (s.pre6 enc Try.prog f [] false) (s.post enc Try.prog f false true false false) := by
  have hr : ∀ t ∈ f.params.toList, Try.prog.readableRec t = true ∧ t < Try.prog.types.size := fun t ht => by
    have := List.all_eq_true.1 hr0 t ht
    simpa only [Bool.and_eq_true, decide_eq_true_eq] using this
  refine returnsInHanded_of_change_sized (C := Try.checked) own_knob started hno hf witness ?_
  intro W base args ds gs before hval hW _ hsz _
  obtain ⟨p, q, hA, hV, hb, hz, hn⟩ := id hW
  have hV' := hV
  rw [hv] at hV'
  obtain ⟨rfl, rfl⟩ := trodVars_none hV'
  have hlen : ds.length = f.params.size := by
    have : ∀ (ts : List TypeId) (vs : List Value) (ds : List (DataW H)) (ps : List MemPlace), DataW.TrodAll enc Try.prog W 0 (fun _ => true) true ts vs ds ps → ds.length = ts.length := by
      intro ts
      induction ts with
      | nil => intro vs ds ps h; obtain ⟨_, rfl, _⟩ := trodAll_nil h; rfl
      | cons t ts ih => intro vs ds ps h; obtain ⟨v, vs', d, ds', p, q, _, rfl, _, _, h2⟩ := trodAll_cons h; simp [ih _ _ _ h2]
    simpa using this _ _ _ _ hA
  refine (walk W base args ds p hval hA ?_).mono fun e W' ⟨he, hk⟩ => ⟨_, he, law_post hW hv hres hr (hfn ds hlen) hk⟩
  have hvt : s.plain.varTypes Try.prog = [] := by
    have : s.plain.vars = [] := hv
    simp [DataSpec.varTypes, this]
  have h2 := hsz
  rw [show s.plain.varTypes Try.checked.prog = [] from hvt, List.append_nil, List.append_nil] at h2
  exact h2
end
end Go.Proofs.Ytnncpjekcljfbaa
/- Arguments opened: slices of whatever elements, structs, arrays, integers, as they lie in memory; each slice within the form's reach. -/
namespace Go.Proofs.Ytnncpjekcljfbaa
open Go.ChangeShapes Go.WideShapes Go.ChangeAt Go.RowKit Go.Deep

section
variable {H : Type} {enc : TypeId × Value → H} {P : Program} {W : World}

theorem weightsAll_mem {e : TypeId} {n : Nat} : ∀ {l : List (DataW H)} {d : DataW H}, d ∈ l → n ∈ d.weights P e → n ∈ DataW.weightsAll P e l
  | x :: l, d, hd, hn => by
    simp only [DataW.weightsAll, List.mem_append]
    rcases List.mem_cons.1 hd with rfl | hd
    · exact .inl hn
    · exact .inr (weightsAll_mem hd hn)

/-- cells read as data of a type, within the reach (the reading itself is left out) -/
def ReadsAs (enc : TypeId × Value → H) (P : Program) (W : World) (t : TypeId) (cs : List Value) : Prop :=
  ∃ fuel x, DataW.trod enc P W 0 (fun _ => true) true fuel t cs = some x ∧ ∀ n ∈ x.1.weights P t, n ≤ reachBytes

theorem ReadsAs.of_trod {ts : List TypeId} {ds : List (DataW H)} (hsz : (DataW.weightsEach P ts ds).all (· ≤ reachBytes) = true) {j : Nat} {t : TypeId} {v : Value} {d : DataW H} {ps : List MemPlace} (ht : ts[j]? = some t) (hd : ds[j]? = some d)
    (h : DataW.Trod enc P W 0 (fun _ => true) true t v d ps) : ReadsAs enc P W t v.cells.toList := by
  obtain ⟨fuel, hf⟩ := h
  exact ⟨fuel, _, hf, fun n hn => by simpa using List.all_eq_true.1 hsz _ (DataW.weights_mem_each ht hd n hn)⟩

theorem ReadsAs.int {t : TypeId} {k : IntKind} (ht : P.underlying t = some (.int k)) {cs : List Value} (h : ReadsAs enc P W t cs) : ∃ n, cs = [.int k n] ∧ (Lit.int k n).wf = true := by
  obtain ⟨fuel, x, h, _⟩ := h
  obtain ⟨a, e0, _, wa⟩ := DataW.trod_int ht h
  exact ⟨a, e0, wa⟩

theorem ReadsAs.bool {t : TypeId} (ht : P.underlying t = some .bool) {cs : List Value} (h : ReadsAs enc P W t cs) : ∃ b, cs = [.bool b] := by
  obtain ⟨fuel, x, h, _⟩ := h
  cases fuel with
  | zero => simp [DataW.trod] at h
  | succ n =>
    unfold DataW.trod at h
    rw [ht] at h
    split at h <;> simp_all

/-- a struct: each field's cells read as the field's type -/
theorem ReadsAs.struct {t : TypeId} {fs : Array Field} (ht : P.underlying t = some (.struct fs)) {cs : List Value} (h : ReadsAs enc P W t cs) :
    cs.length = P.cellsOf t ∧ ∀ (i : Nat) (f : Field), fs[i]? = some f → ReadsAs enc P W f.type ((cs.drop f.offset).take (P.cellsOf f.type)) := by
  obtain ⟨fuel, x, h, hw⟩ := h
  obtain ⟨xs, n, _, rfl, hl, hx, hf⟩ := DataW.trod_struct ht h
  refine ⟨hl, fun i f hi => ?_⟩
  have hlt : i < xs.length := by rw [hx]; exact (Array.getElem?_eq_some_iff.1 hi).1
  refine ⟨n, xs[i], by rw [hf i f hi]; simp [hlt], fun m hm => hw m ?_⟩
  simp only [DataW.weights, ht]
  exact DataW.weights_mem_each (j := i) (t := f.type) (d := xs[i].1) (by simp [hi]) (by simp [hlt]) m hm

/-- an array of one-cell elements: each cell reads as the element's type -/
theorem ReadsAs.array {t e : TypeId} {n : Nat} (ht : P.underlying t = some (.array n e)) (he : P.cellsOf e = 1) {cs : List Value} (h : ReadsAs enc P W t cs) :
    cs.length = P.cellsOf t ∧ ∀ i, i < n → ReadsAs enc P W e ((cs.drop i).take 1) := by
  obtain ⟨fuel, x, h, hw⟩ := h
  obtain ⟨xs, m, _, rfl, hl, hx, hf⟩ := DataW.trod_array ht h
  refine ⟨hl, fun i hi => ?_⟩
  have hlt : i < xs.length := by omega
  have h1 := hf i hi
  rw [he, Nat.mul_one] at h1
  refine ⟨m, xs[i], by rw [h1]; simp [hlt], fun k hk => hw k ?_⟩
  simp only [DataW.weights, ht]
  exact weightsAll_mem (List.mem_map.2 ⟨xs[i], List.getElem_mem hlt, rfl⟩) hk

/-- a slice: nil, or elements from an address on, each of which reads as the element's type -/
theorem ReadsAs.slice {t e : TypeId} {n : Nat} (ht : P.underlying t = some (.slice e)) (hn : P.cellsOf e = n) (h0 : 0 < n) {cs : List Value} (h : ReadsAs enc P W t cs) :
    ∃ A len cap, cs = [.slice A len cap] ∧ len ≤ cap ∧ len ≤ maxLen ∧ len * P.bytesOf e ≤ reachBytes ∧
      ∀ i, i < len → ∃ b off cs', A = some ⟨b, off, none⟩ ∧ cs'.length = n ∧ (∀ j, j < n → W.cell? ⟨b, off + i * n + j, none⟩ = cs'[j]?) ∧ ReadsAs enc P W e cs' := by
  obtain ⟨fuel, x, h, hw⟩ := h
  rcases open_slice ht h with ⟨rfl, _⟩ | ⟨a, len, cap, m, k, D, Pl, rfl, _, hl, hm, hmm, rfl, hi⟩
  · exact ⟨none, 0, 0, rfl, Nat.le_refl _, Nat.zero_le _, by simp, fun i hi => absurd hi (Nat.not_lt_zero i)⟩
  · have hm' : m = cap := by simpa using hmm
    simp only [DataW.weights, ht] at hw
    have key : ∀ i, i < len → ∃ b off cs', a = ⟨b, off, none⟩ ∧ cs'.length = n ∧ (∀ j, j < n → W.cell? ⟨b, off + i * n + j, none⟩ = cs'[j]?) ∧ ReadsAs enc P W e cs' := by
      intro i hil
      obtain ⟨cs', hc, ht'⟩ := hi i (by omega)
      rw [hn] at hc
      obtain ⟨_, hcl, hat⟩ := World.cells?_some hc
      have hsp : a = ⟨a.block, a.off, none⟩ := by
        obtain ⟨cs0, hc0, _⟩ := hi 0 (by omega)
        rw [hn] at hc0
        obtain ⟨_, hcl0, hat0⟩ := World.cells?_some hc0
        have h1 := hat0 0 h0
        rw [Nat.zero_mul, List.getElem?_eq_getElem (by omega)] at h1
        obtain ⟨b, o, s⟩ := a
        cases s with
        | none => rfl
        | some s => simp [World.cell?, Addr.add] at h1; split at h1 <;> simp_all
      refine ⟨a.block, a.off, cs', hsp, hcl, fun j hj => ?_, _, _, ht', fun q hq => hw q ?_⟩
      · have h1 := hat j hj
        rw [hsp] at h1
        rw [add_none, add_none] at h1
        exact h1
      · simp only [List.mem_cons, List.mem_append]
        exact .inr (.inl (weightsAll_mem (List.mem_map.2 ⟨i, List.mem_range.2 hil, rfl⟩) hq))
    refine ⟨some a, len, cap, rfl, hl, by omega, ?_, fun i hil => ?_⟩
    · have h1 := hw _ (List.mem_cons_self ..)
      simp only [List.length_map, List.length_range] at h1
      exact Nat.le_trans (Nat.mul_le_mul_right _ (Nat.le_add_right _ _)) h1
    · obtain ⟨b, off, cs', rfl, h1, h2, h3⟩ := key i hil
      exact ⟨b, off, cs', rfl, h1, h2, h3⟩

/-- a slice of ints -/
theorem ReadsAs.ints {t e : TypeId} (ht : P.underlying t = some (.slice e)) (he : P.underlying e = some (.int .i64)) (hc : P.cellsOf e = 1) (hb : P.bytesOf e = 8) {cs : List Value} (h : ReadsAs enc P W t cs) :
    ∃ A R cap, cs = [.slice A R.length cap] ∧ R.length * 8 ≤ reachBytes ∧ (∀ x ∈ R, (Lit.int .i64 x).wf = true) ∧
      (R = [] ∨ ∃ b off, A = some ⟨b, off, none⟩ ∧ ∀ k (h : k < R.length), W.cell? ⟨b, off + k, none⟩ = some (.int .i64 R[k])) := by
  obtain ⟨A, len, cap, rfl, hl, _, hw, hi⟩ := h.slice ht hc (by omega)
  rw [hb] at hw
  have hx : ∀ i, i < len → ∃ x, (Lit.int .i64 x).wf = true ∧ ∃ b off, A = some ⟨b, off, none⟩ ∧ W.cell? ⟨b, off + i, none⟩ = some (.int .i64 x) := by
    intro i hil
    obtain ⟨b, off, cs', hA, hl', hcell, hr⟩ := hi i hil
    obtain ⟨x, rfl, wx⟩ := hr.int he
    have := hcell 0 (by omega)
    exact ⟨x, wx, b, off, hA, by simpa using this⟩
  let f : Nat → Int := fun i => if h : i < len then (hx i h).choose else 0
  have hf : ∀ i, i < len → (Lit.int .i64 (f i)).wf = true ∧ ∃ b off, A = some ⟨b, off, none⟩ ∧ W.cell? ⟨b, off + i, none⟩ = some (.int .i64 (f i)) := by
    intro i hil
    have := (hx i hil).choose_spec
    simp only [f, dif_pos hil]
    exact this
  refine ⟨A, (List.range len).map f, cap, by simp, by simpa using hw, ?_, ?_⟩
  · intro x hxm
    obtain ⟨i, him, rfl⟩ := List.mem_map.1 hxm
    exact (hf i (List.mem_range.1 him)).1
  · rcases Nat.eq_zero_or_pos len with h0 | h0
    · left; simp [h0]
    · right
      obtain ⟨_, b, off, hA, _⟩ := hf 0 h0
      refine ⟨b, off, hA, fun k hk => ?_⟩
      simp only [List.length_map, List.length_range] at hk
      obtain ⟨_, b', off', hA', hcell⟩ := hf k hk
      rw [hA] at hA'
      simp only [Option.some.injEq, Addr.mk.injEq, and_true] at hA'
      obtain ⟨rfl, rfl⟩ := hA'
      simpa using hcell
end
end Go.Proofs.Ytnncpjekcljfbaa
