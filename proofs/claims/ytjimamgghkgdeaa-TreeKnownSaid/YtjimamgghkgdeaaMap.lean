/- Maps of the call's own, as lists of keys and elements: what make, m[k] = v, v, ok := m[k] and len do. No program is named. -/
import Derived.Test.YtjimamgghkgdeaaRows
import Derived.WalkKit
import Derived.WalkSpells
import Derived.WalkLawsBesides
import Derived.Maps.OwnSet
namespace Go.Proofs.Ytjimamgghkgdeaa
open Go.RowKit
open Go.Maps (Keyed)

/-- the element under a key; later ones are kept -/
def putL {κ : Type} [DecidableEq κ] (k : κ) (v : Value) : List (κ × Value) → List (κ × Value)
  | [] => [(k, v)]
  | (x, y) :: l => if x = k then (k, v) :: l else (x, y) :: putL k v l

def getL {κ : Type} [DecidableEq κ] (k : κ) : List (κ × Value) → Option Value
  | [] => none
  | (x, y) :: l => if x = k then some y else getL k l

/-- how keys are written as values, and that the program takes them as keys -/
structure KeyEnc (P : Program) (k : TypeId) {κ : Type} (ok : κ → Prop) (enc : κ → Value) : Prop where
  law : Keyed P k
  key : ∀ x, ok x → ∃ l, keyOf P k (enc x) = some l
  inj : ∀ x y, ok x → ok y → enc x = enc y → x = y

/-- block r is a map whose entries are L, in the order in which they came -/
def MapAt {κ : Type} (ok : κ → Prop) (enc : κ → Value) (w : World) (r : Nat) (L : List (κ × Value)) : Prop :=
  ∃ es clock, w.heap[r]? = some (.map es clock) ∧ es.toList.map (fun e => (e.key, e.val)) = L.map (fun p => (enc p.1, p.2)) ∧
    (L.map (·.1)).Nodup ∧ ∀ p ∈ L, ok p.1

section
variable {P : Program} {k : TypeId} {κ : Type} [DecidableEq κ] {ok : κ → Prop} {enc : κ → Value} {w w' : World} {r : Nat} {L : List (κ × Value)}

omit [DecidableEq κ] in
theorem MapAt.lt (h : MapAt ok enc w r L) : r < w.heap.size := by
  obtain ⟨es, c, h1, _⟩ := h
  exact (Array.getElem?_eq_some_iff.1 h1).1

omit [DecidableEq κ] in
theorem MapAt.kept (h : MapAt ok enc w r L) (hk : w'.heap[r]? = w.heap[r]?) : MapAt ok enc w' r L := by
  obtain ⟨es, c, h1, h2⟩ := h
  exact ⟨es, c, hk.trans h1, h2⟩

omit [DecidableEq κ] in
theorem MapAt.new (w : World) : MapAt ok enc (w.alloc (.map #[] 0)) w.heap.size [] :=
  ⟨#[], 0, heap_alloc_new w _, by simp, by simp, by simp⟩

omit [DecidableEq κ] in
theorem mapAt_find (K : KeyEnc P k ok enc) (W : World) {es : List MapEntry} (he : es.map (fun e => (e.key, e.val)) = L.map (fun p => (enc p.1, p.2))) (hok : ∀ p ∈ L, ok p.1) {x : κ} (hx : ok x) :
    ((Instr.findKey k (enc x) es).run P W = .ok none W ∧ ∀ p ∈ L, p.1 ≠ x) ∨
    ∃ j v e, (Instr.findKey k (enc x) es).run P W = .ok (some (j, v)) W ∧ L[j]? = some (x, v) ∧ es[j]? = some e ∧ e.key = enc x ∧ e.val = v := by
  obtain ⟨l, hl⟩ := K.key x hx
  have hall : ∀ e ∈ es, ∃ l, keyOf P k e.key = some l := by
    intro e hm
    have : (e.key, e.val) ∈ L.map (fun p => (enc p.1, p.2)) := by rw [← he]; exact List.mem_map.2 ⟨e, hm, rfl⟩
    obtain ⟨p, hp, hpe⟩ := List.mem_map.1 this
    simp only [Prod.mk.injEq] at hpe
    rw [← hpe.1]
    exact K.key _ (hok p hp)
  rcases K.law.find W hl es hall with ⟨h1, h2⟩ | ⟨j, e, h1, h2, h3⟩
  · refine .inl ⟨h1, fun p hp hpx => ?_⟩
    have : (enc p.1, p.2) ∈ es.map (fun e => (e.key, e.val)) := by rw [he]; exact List.mem_map.2 ⟨p, hp, rfl⟩
    obtain ⟨e, hm, hee⟩ := List.mem_map.1 this
    simp only [Prod.mk.injEq] at hee
    exact h2 e hm (by rw [hee.1, hpx])
  · have h4 : (es.map (fun e => (e.key, e.val)))[j]? = some (e.key, e.val) := by simp [h2]
    rw [he] at h4
    simp only [List.getElem?_map, Option.map_eq_some_iff, Prod.mk.injEq] at h4
    obtain ⟨p, hp, hp1, hp2⟩ := h4
    have hpx : p.1 = x := K.inj _ _ (hok p (List.mem_of_getElem? hp)) hx (by rw [hp1, h3])
    exact .inr ⟨j, e.val, e, h1, by rw [hp, ← hpx, ← hp2], h2, h3, rfl⟩

theorem getL_none {x : κ} (h : ∀ p ∈ L, p.1 ≠ x) : getL x L = none := by
  induction L with
  | nil => rfl
  | cons p l ih =>
    obtain ⟨a, b⟩ := p
    simp only [getL]
    rw [if_neg (h (a, b) (by simp))]
    exact ih fun p hp => h p (by simp [hp])

theorem getL_at {x : κ} {v : Value} (hn : (L.map (·.1)).Nodup) (j : Nat) (h : L[j]? = some (x, v)) : getL x L = some v := by
  induction L generalizing j with
  | nil => simp at h
  | cons p l ih =>
    obtain ⟨a, b⟩ := p
    simp only [List.map_cons, List.nodup_cons] at hn
    simp only [getL]
    cases j with
    | zero => simp at h; simp [h]
    | succ j =>
      simp only [List.getElem?_cons_succ] at h
      have hm : x ∈ l.map (·.1) := List.mem_map.2 ⟨(x, v), List.mem_of_getElem? h, rfl⟩
      rw [if_neg (by rintro rfl; exact hn.1 hm)]
      exact ih hn.2 j h

theorem putL_none {x : κ} {v : Value} (h : ∀ p ∈ L, p.1 ≠ x) : putL x v L = L ++ [(x, v)] := by
  induction L with
  | nil => rfl
  | cons p l ih =>
    obtain ⟨a, b⟩ := p
    simp only [putL]
    rw [if_neg (h (a, b) (by simp)), ih fun p hp => h p (by simp [hp])]
    rfl

theorem putL_at {x : κ} {u v : Value} (hn : (L.map (·.1)).Nodup) (j : Nat) (h : L[j]? = some (x, u)) : putL x v L = L.set j (x, v) := by
  induction L generalizing j with
  | nil => simp at h
  | cons p l ih =>
    obtain ⟨a, b⟩ := p
    simp only [List.map_cons, List.nodup_cons] at hn
    simp only [putL]
    cases j with
    | zero => simp at h; simp [h]
    | succ j =>
      simp only [List.getElem?_cons_succ] at h
      have hm : x ∈ l.map (·.1) := List.mem_map.2 ⟨(x, u), List.mem_of_getElem? h, rfl⟩
      rw [if_neg (by rintro rfl; exact hn.1 hm)]
      simp [ih hn.2 j h]

theorem keys_putL (x : κ) (v : Value) : (putL x v L).map (·.1) = if x ∈ L.map (·.1) then L.map (·.1) else L.map (·.1) ++ [x] := by
  induction L with
  | nil => simp [putL]
  | cons p l ih =>
    obtain ⟨a, b⟩ := p
    simp only [putL]
    by_cases h : a = x
    · simp [h]
    · rw [if_neg h]
      have h' : ¬ x = a := fun e => h e.symm
      simp only [List.map_cons, ih, List.mem_cons, h', false_or]
      split <;> simp

/-- v, ok := m[k] -/
theorem run_lookup_at (K : KeyEnc P k ok enc) {t e : TypeId} (ht : P.underlying t = some (.map k e)) {z : Value} (hz : ∀ W : World, (zeroValue e).run P W = .ok z W) (h : MapAt ok enc w r L) {x : κ} (hx : ok x) (c : Bool) :
    (Instr.lookup t (.map (some r)) (enc x) c).run P w = .ok (if c then .tuple #[(getL x L).getD z, .bool (getL x L).isSome] else (getL x L).getD z) w := by
  obtain ⟨es, cl, hb, he, hn, hok⟩ := h
  obtain ⟨l, hl⟩ := K.key x hx
  rcases mapAt_find K w he hok hx with ⟨h1, h2⟩ | ⟨j, v, e, h1, h2, _⟩
  · simp [Instr.lookup, run_underlying ht, MapKept.run_getObj_map hb, K.law.check w _ hl, h1, hz, Result.andThen, getL_none h2]
  · simp [Instr.lookup, run_underlying ht, MapKept.run_getObj_map hb, K.law.check w _ hl, h1, Result.andThen, getL_at hn j h2]

/-- m[k] = v -/
theorem run_update_at (K : KeyEnc P k ok enc) {t e : TypeId} (ht : P.underlying t = some (.map k e)) (h : MapAt ok enc w r L) {x : κ} (hx : ok x) (v : Value) :
    ∃ w', (Instr.mapUpdate t (.map (some r)) (enc x) v).run P w = .ok () w' ∧ MapAt ok enc w' r (putL x v L) ∧ w.grownBy w' (some r) ∧ w'.heap.size = w.heap.size := by
  obtain ⟨es, cl, hb, he, hn, hok⟩ := h
  obtain ⟨l, hl⟩ := K.key x hx
  have hg : ∀ o : Obj, w.grownBy { w with heap := w.heap.setIfInBounds r o } (some r) := fun o =>
    ⟨rfl, rfl, rfl, by simp, fun i _ hi => by simp only [Array.getElem?_setIfInBounds]; rw [if_neg (by rintro rfl; exact hi rfl)]⟩
  have hlt : r < w.heap.size := (Array.getElem?_eq_some_iff.1 hb).1
  have hokp : ∀ p ∈ putL x v L, ok p.1 := by
    intro p hp
    have : p.1 ∈ (putL x v L).map (·.1) := List.mem_map.2 ⟨p, hp, rfl⟩
    rw [keys_putL] at this
    split at this
    · obtain ⟨q, hq, hqp⟩ := List.mem_map.1 this
      rw [← hqp]; exact hok q hq
    · rcases List.mem_append.1 this with h | h
      · obtain ⟨q, hq, hqp⟩ := List.mem_map.1 h
        rw [← hqp]; exact hok q hq
      · simp at h; rw [h]; exact hx
  have hnd : ((putL x v L).map (·.1)).Nodup := by
    rw [keys_putL]
    split
    · exact hn
    · rename_i hx'
      rw [List.nodup_append]
      exact ⟨hn, by simp, by rintro a ha b hb rfl; simp at hb; subst hb; exact hx' ha⟩
  rcases mapAt_find K w he hok hx with ⟨h1, h2⟩ | ⟨j, u, e, h1, h2, h3, h4, h5⟩
  · refine ⟨_, by simp [Instr.mapUpdate, run_underlying ht, MapKept.run_getObj_map hb, K.law.check w _ hl, h1, MapKept.run_setObj_map _ hb, Result.andThen]; rfl, ⟨_, _, (MapKept.heap_set hb).1, ?_, hnd, hokp⟩, hg _, by simp⟩
    rw [putL_none h2]
    simp [he]
  · have hj : es[j]? = some e := by simpa using h3
    refine ⟨_, by simp [Instr.mapUpdate, run_underlying ht, MapKept.run_getObj_map hb, K.law.check w _ hl, h1, hj, h4, K.law.stays w hl, MapKept.run_setObj_map _ hb, Result.andThen]; rfl, ⟨_, _, (MapKept.heap_set hb).1, ?_, hnd, hokp⟩, hg _, by simp⟩
    rw [putL_at hn j h2, List.map_set, ← he]
    apply List.ext_getElem?
    intro i
    simp only [List.getElem?_map, Array.getElem?_toList, Array.getElem?_modify, List.getElem?_set, List.length_map, Array.length_toList]
    by_cases hij : j = i
    · subst hij
      have hlt' : j < es.size := (Array.getElem?_eq_some_iff.1 hj).1
      simp [hj, hlt']
    · simp [hij]

omit [DecidableEq κ] in
/-- len(m) -/
theorem run_len_at {t e : TypeId} (ht : P.underlying t = some (.map k e)) (h : MapAt ok enc w r L) (ty : TypeId) : (Builtin.len_ #[t] ty #[.map (some r)]).run P w = .ok (.int .i64 L.length) w := by
  obtain ⟨es, cl, hb, he, _⟩ := h
  have hl : es.size = L.length := by simpa using congrArg List.length he
  simp [Builtin.len_, run_underlying ht, MapKept.run_getObj_map hb, hl, goInt]

end

/-- m[k] = v, for the walk -/
theorem wpList_update_at {P : Program} {k : TypeId} {κ : Type} [DecidableEq κ] {ok : κ → Prop} {enc : κ → Value} (w : World) {ops : Array Oper} {rest : List Oper} {o : Oper} {a : Act} {Q : Exit → Act → World → Prop}
    (hg : o.guard = none) (m x v : Operand) (t : TypeId) (hop : o.op = Op.mapUpdate t m x v) (e : TypeId) (ht : P.underlying t = some (.map k e)) (K : KeyEnc P k ok enc)
    (r : Nat) (L : List (κ × Value)) (h : MapAt ok enc w r L) (y : κ) (hy : ok y) (hm : a.eval m = .map (some r)) (hx : a.eval x = enc y)
    (hK : ∀ w', MapAt ok enc w' r (putL y (a.eval v) L) → w.grownBy w' (some r) → w'.heap.size = w.heap.size → wpList P ops Q rest (a.put o.dst undef) w') :
    wpList P ops Q (o :: rest) a w := by
  refine wpList_plain hg fun K' hK' => ?_
  obtain ⟨w', hrun, r1, r2, r3⟩ := run_update_at K ht h hy (a.eval v)
  unfold Oper.wp
  simp [execOp, hop, hm, hx, hrun, Result.andThen]
  exact hK' _ _ (hK w' r1 r2 r3)
end Go.Proofs.Ytjimamgghkgdeaa
