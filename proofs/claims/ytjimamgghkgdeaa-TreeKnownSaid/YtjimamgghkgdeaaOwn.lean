/- Slices of whole rows that the call has made itself: appended to one by one. No program is named. -/
import Derived.Test.YtjimamgghkgdeaaBase
import Derived.Deep.AppendLies
import Derived.Great.BuildSlice
namespace Go.Proofs.Ytjimamgghkgdeaa
open Go.RowKit

section
variable {α : Type} {f : α → Array Value} {n : Nat}

/-- rows one behind the other -/
def rowsOf (f : α → Array Value) (l : List α) : List Value := l.flatMap fun x => (f x).toList
theorem rowsOf_cons (x : α) (l : List α) : rowsOf f (x :: l) = (f x).toList ++ rowsOf f l := rfl
theorem rowsOf_length (hf : ∀ x, (f x).size = n) (l : List α) : (rowsOf f l).length = l.length * n := by
  induction l with
  | nil => simp [rowsOf]
  | cons x l ih => rw [rowsOf_cons, List.length_append, ih, Array.length_toList, hf, List.length_cons, Nat.add_mul]; omega
theorem rowsOf_get (hf : ∀ x, (f x).size = n) : ∀ (l : List α) (k j : Nat) (h : k < l.length), j < n → (rowsOf f l)[k * n + j]? = (f l[k])[j]?
  | x :: l, 0, j, _, hj => by
    rw [rowsOf_cons, List.getElem?_append_left (by rw [Array.length_toList, hf]; omega)]
    simp
  | x :: l, k + 1, j, h, hj => by
    have hm : (k + 1) * n = k * n + n := by rw [Nat.add_mul, Nat.one_mul]
    rw [rowsOf_cons, List.getElem?_append_right (by rw [Array.length_toList, hf]; omega), Array.length_toList, hf]
    rw [show (k + 1) * n + j - n = k * n + j by omega]
    exact rowsOf_get hf l k j (by simpa using h) hj
theorem rowsOf_snoc (l : List α) (x : α) : rowsOf f l ++ (f x).toList = rowsOf f (l ++ [x]) := by simp [rowsOf]

/-- v is a slice of the rows of l, in a row of its own that was made behind B -/
def OwnRows (f : α → Array Value) (n : Nat) (W : World) (B t : Nat) (v : Value) (l : List α) : Prop := W.ownsRow B t n v l.length (rowsOf f l)

variable {W W' : World} {B t : Nat} {v : Value} {l : List α}
theorem OwnRows.nil (W : World) (B t : Nat) : OwnRows f n W B t (.slice none 0 0) [] := World.ownsRow_nil _ _ _ _
theorem OwnRows.form (h : OwnRows f n W B t v l) : ∃ A c, v = .slice A l.length c := by
  rcases Nat.eq_zero_or_pos l.length with h0 | h0
  · rcases h.2 with ⟨rfl, _⟩ | ⟨g, cap, cur, rfl, _⟩
    · exact ⟨_, _, by rw [h0]⟩
    · exact ⟨_, _, rfl⟩
  · obtain ⟨g, cap, rfl, _, _⟩ := World.ownsRow.form h h0
    exact ⟨_, _, rfl⟩
theorem OwnRows.get (hf : ∀ x, (f x).size = n) (h : OwnRows f n W B t v l) {k : Nat} (hk : k < l.length) :
    ∃ g c, v = .slice (some ⟨g, 0, none⟩) l.length c ∧ B ≤ g ∧ g < W.heap.size ∧ segB W ⟨g, k * n, none⟩ n = true ∧ segV W ⟨g, k * n, none⟩ n = f l[k] := by
  obtain ⟨g, cap, rfl, hb, hlt⟩ := World.ownsRow.form h (by omega)
  have hc : ∀ j u, (f l[k])[j]? = some u → W.cell? ((⟨g, k * n, none⟩ : Addr).add j) = some u := fun j u hu => by
    have hj : j < n := by have := (Array.getElem?_eq_some_iff.1 hu).1; rwa [hf] at this
    have := World.ownsRow.cells h (g := g) rfl (k * n + j) u (by rw [rowsOf_get hf l k j hk hj]; exact hu)
    rw [add_none] at this ⊢
    rwa [Nat.zero_add] at this
  exact ⟨g, cap, rfl, hb, hlt, segB_of hc (hf _), segV_of hc (hf _)⟩
theorem OwnRows.far (h : OwnRows f n W B t v l) {k : Nat} (hk : k < B ∨ W.heap.size ≤ k) : v.ownBlock ≠ some k := fun e => by
  have := World.ownsRow.lt h k e
  omega
theorem OwnRows.upd {S : Nat → Prop} (h : OwnRows f n W B t v l) (hu : Upd S W W') (hs : ∀ k, v.ownBlock = some k → ¬ S k) : OwnRows f n W' B t v l := by
  refine ⟨h.1, h.2.imp id fun ⟨g, cap, cur, hv, hb, hg, hr⟩ => ⟨g, cap, cur, hv, hb, ?_, hr⟩⟩
  subst hv
  exact (hu.block g (Array.getElem?_eq_some_iff.1 hg).1 (hs g rfl)).trans hg
theorem OwnRows.alloc (h : OwnRows f n W B t v l) (o : Obj) : OwnRows f n (W.alloc o) B t v l := h.upd ((Upd.refl (fun _ => False) W).alloc o) fun _ _ h => h
theorem OwnRows.drew (h : OwnRows f n W B t v l) : OwnRows f n W.drew B t v l := h.upd (Upd.refl (fun _ => False) W).drew fun _ _ h => h

/-- one row more -/
theorem run_append_rows {P : Program} (hf : ∀ x, (f x).size = n) (ts ty : TypeId) (i : TypeInfo) (z : Value) (bytes : Nat) (ht : P.underlying ts = some (.slice t)) (hi : P.info? t = some i) (hz : i.zero = some z)
    (hsize : i.size = n) (hby : i.bytes = bytes) (hzs : z.cells.size = n) (hn : 0 < n) (h1 : ∀ x, oneB (f x) = true)
    (h : OwnRows f n W B t v l) (x : α) (g c : Nat) (tg : TypeId) (fr : Nat × Nat) (hg : W.heap[g]? = some (.cells (f x) tg fr)) (h63 : l.length + 1 ≤ maxLen) (hbytes : (l.length + 1) * bytes ≤ 140737488355328) (hB : B ≤ W.heap.size) :
    ∃ v' W', (Builtin.append_ #[ts, ts] ty #[v, .slice (some ⟨g, 0, none⟩) 1 c]).run P W = .ok v' W' ∧ OwnRows f n W' B t v' (l ++ [x]) ∧ Upd (fun k => v.ownBlock = some k) W W' ∧ (v'.ownBlock = v.ownBlock ∨ v'.ownBlock = some W.heap.size) := by
  obtain ⟨v', W', hr, ho, hgr, _, hb⟩ := run_append_own_at (P := P) W B ts ty t i z n bytes ht hi hz hsize hby hzs hn v l.length (rowsOf f l) h ⟨g, 0, none⟩ 1 c (f x).toList (by rw [Array.length_toList, hf, Nat.one_mul])
    (fun j u hu => seg_block hg j u (by simpa using hu)) (fun u hu => by have := h1 x; unfold oneB at this; exact List.all_eq_true.1 this u hu) h63 hbytes hB
  refine ⟨v', W', hr, ?_, (Upd.of_grown hgr).mono fun k _ hk => hk.symm, hb⟩
  unfold OwnRows
  rw [rowsOf_snoc] at ho
  rw [List.length_append, List.length_singleton]
  exact ho
end

section
variable {P : Program} {α : Type} {f : α → Array Value} {n : Nat} {W : World} {B t : Nat} {v : Value} {l : List α} {o : Oper} {a : Act} {K : Act → World → Prop} {Q : Exit → Act → World → Prop} {ops : Array Oper} {rest : List Oper}
/-- what is known of a type of rows -/
structure RowType (P : Program) (f : α → Array Value) (n ts t bytes : Nat) : Prop where
  size : ∀ x, (f x).size = n
  one : ∀ x, oneB (f x) = true
  slice : P.underlying ts = some (.slice t)
  info : ∃ z, (P.info? t).map (fun i => (i.size, i.bytes, i.zero)) = some (n, bytes, some z) ∧ z.cells.size = n
  pos : 0 < n

theorem wp_append_rows {ts bytes : Nat} (R : RowType P f n ts t bytes) (s x : Operand) (ho : o.op = .call { callee := .builtin .append, args := #[s, x], argTypes := #[ts, ts] }) (hs : a.eval s = v) (h : OwnRows f n W B t v l)
    (e : α) (g c : Nat) (tg : TypeId) (fr : Nat × Nat) (hx : a.eval x = .slice (some ⟨g, 0, none⟩) 1 c) (hg : W.heap[g]? = some (.cells (f e) tg fr)) (h63 : l.length + 1 ≤ maxLen) (hbytes : (l.length + 1) * bytes ≤ 140737488355328) (hB : B ≤ W.heap.size)
    (hk : ∀ v' W', OwnRows f n W' B t v' (l ++ [e]) → Upd (fun k => v.ownBlock = some k) W W' → (v'.ownBlock = v.ownBlock ∨ v'.ownBlock = some W.heap.size) → K (a.put o.dst v') W') : o.wp P a W K Q := by
  obtain ⟨z, hinf, hzs⟩ := R.info
  obtain ⟨i, hi, hinf⟩ := Option.map_eq_some_iff.1 hinf
  simp only [Prod.mk.injEq] at hinf
  obtain ⟨hsz, hby, hz⟩ := hinf
  obtain ⟨v', W', hr, h2, h3, h4⟩ := run_append_rows (P := P) R.size ts o.type i z bytes R.slice hi hz hsz hby hzs R.pos R.one h e g c tg fr hg h63 hbytes hB
  unfold Oper.wp execOp
  simp only [ho, resolve, invoke, builtin, Sem.run_bind, Sem.run_pure, Result.andThen_ok, List.map_toArray, List.map_cons, List.map_nil, hs, hx, hr]
  exact hk v' W' h2 h3 h4

theorem step_append_rows {E : Prop} {ts bytes : Nat} (R : RowType P f n ts t bytes) (hgd : o.guard = none) (s x : Operand) (ho : o.op = .call { callee := .builtin .append, args := #[s, x], argTypes := #[ts, ts] }) (hs : a.eval s = v) (h : OwnRows f n W B t v l)
    (e : α) (g c : Nat) (tg : TypeId) (fr : Nat × Nat) (hx : a.eval x = .slice (some ⟨g, 0, none⟩) 1 c) (hg : W.heap[g]? = some (.cells (f e) tg fr)) (h63 : l.length + 1 ≤ maxLen) (hbytes : (l.length + 1) * bytes ≤ 140737488355328) (hB : B ≤ W.heap.size)
    (hk : ∀ v' W', OwnRows f n W' B t v' (l ++ [e]) → Upd (fun k => v.ownBlock = some k) W W' → (v'.ownBlock = v.ownBlock ∨ v'.ownBlock = some W.heap.size) → K (a.put o.dst v') W') :
    if Region.wanted o (yielded ops a.tmps) = true then o.wp P a W K Q else E := by
  rw [if_pos (by unfold Region.wanted; rw [hgd])]
  exact wp_append_rows R s x ho hs h e g c tg fr hx hg h63 hbytes hB hk

theorem wpList_append_rows {ts bytes : Nat} (R : RowType P f n ts t bytes) (hgd : o.guard = none) (s x : Operand) (ho : o.op = .call { callee := .builtin .append, args := #[s, x], argTypes := #[ts, ts] }) (hs : a.eval s = v) (h : OwnRows f n W B t v l)
    (e : α) (g c : Nat) (tg : TypeId) (fr : Nat × Nat) (hx : a.eval x = .slice (some ⟨g, 0, none⟩) 1 c) (hg : W.heap[g]? = some (.cells (f e) tg fr)) (h63 : l.length + 1 ≤ maxLen) (hbytes : (l.length + 1) * bytes ≤ 140737488355328) (hB : B ≤ W.heap.size)
    (hk : ∀ v' W', OwnRows f n W' B t v' (l ++ [e]) → Upd (fun k => v.ownBlock = some k) W W' → (v'.ownBlock = v.ownBlock ∨ v'.ownBlock = some W.heap.size) → wpList P ops Q rest (a.put o.dst v') W') : wpList P ops Q (o :: rest) a W :=
  wpList_plain hgd fun _ hK => wp_append_rows R s x ho hs h e g c tg fr hx hg h63 hbytes hB fun v' W' h2 h3 h4 => hK _ _ (hk v' W' h2 h3 h4)
end

/-- a slice that is written out, kept behind a name -/
def sliceRow (t : TypeId) (len : Nat) (parts : Array (Nat × Value)) : Sem Next := do pure (.value (← Instr.buildSlice t len parts))
theorem run_sliceRow {P : Program} (ts t : TypeId) (n : Nat) (z : Value) (cs : Array Value) (hu : P.underlying ts = some (.slice t)) (hie : (P.info? t).map (fun i => (i.size, i.zero)) = some (n, some z)) (hs : 0 < n) (hsm : n ≤ 1000) (hzs : z.cells.size = n) (hcs : cs.size = n) (W : World) :
    (sliceRow ts 1 #[(0, .agg cs)]).run P W = .ok (.value (.slice (some ⟨W.heap.size, 0, none⟩) 1 1)) (W.alloc (.cells cs t)) := by
  obtain ⟨ie, hie1, hie2⟩ := Option.map_eq_some_iff.1 hie
  simp only [Prod.mk.injEq] at hie2
  obtain ⟨rfl, hz⟩ := hie2
  have hl := fill_last 0 cs ((Array.range (1 * ie.size)).map (z.cells[· % z.cells.size]!)) (by simp [hcs])
  have h := run_buildSlice (P := P) W ts t 1 #[(0, .agg cs)] cs ie z hu hie1 hz (by omega) (by omega) (by
    have hsz : ((Array.range (1 * ie.size)).map (z.cells[· % z.cells.size]!)).size = ie.size := by simp
    generalize (Array.range (1 * ie.size)).map (z.cells[· % z.cells.size]!) = zz at *
    simp [Instr.fill, Value.cells, hcs, hsz]
    simp at hl
    rw [hcs] at hl
    exact hl)
  simp [sliceRow, h, Result.andThen]
end Go.Proofs.Ytjimamgghkgdeaa
