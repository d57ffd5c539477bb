/- Slices of whole rows that may have been cut down to their length ('s[:i:i]'): appended to, one row taken off. No program is named. -/
import Derived.Test.YtjimamgghkgdeaaOwn
import Derived.ArgAppend
import Derived.Deep.AppendSrc
import Derived.Deep.Upon
namespace Go.Proofs.Ytjimamgghkgdeaa
open Go.RowKit

section
variable {α : Type} {f : α → Array Value} {n : Nat}
theorem rowsOf_append (l m : List α) : rowsOf f (l ++ m) = rowsOf f l ++ rowsOf f m := by simp [rowsOf]
theorem rowsOf_take (hf : ∀ x, (f x).size = n) : ∀ (l : List α) (k : Nat), rowsOf f (l.take k) = (rowsOf f l).take (k * n)
  | [], k => by simp [rowsOf]
  | x :: l, 0 => by simp [rowsOf]
  | x :: l, k + 1 => by
    rw [List.take_succ_cons, rowsOf_cons, rowsOf_cons, rowsOf_take hf l k, List.take_append, Array.length_toList, hf]
    rw [List.take_of_length_le (l := (f x).toList) (by rw [Array.length_toList, hf, Nat.add_mul]; omega), show (k + 1) * n - n = k * n by rw [Nat.add_mul]; omega]
theorem rowsOf_drop (hf : ∀ x, (f x).size = n) : ∀ (l : List α) (k : Nat), rowsOf f (l.drop k) = (rowsOf f l).drop (k * n)
  | [], k => by simp [rowsOf]
  | x :: l, 0 => by simp [rowsOf]
  | x :: l, k + 1 => by
    rw [List.drop_succ_cons, rowsOf_cons, rowsOf_drop hf l k, List.drop_append, Array.length_toList, hf]
    rw [List.drop_of_length_le (l := (f x).toList) (by rw [Array.length_toList, hf, Nat.add_mul]; omega), show (k + 1) * n - n = k * n by rw [Nat.add_mul]; omega, List.nil_append]

theorem OwnRows.mono {W : World} {B B' t : Nat} {v : Value} {l : List α} (h : OwnRows f n W B t v l) (hB : B' ≤ B) : OwnRows f n W B' t v l :=
  ⟨h.1, h.2.imp id fun ⟨g, cap, cur, a1, a2, a3⟩ => ⟨g, cap, cur, a1, Nat.le_trans hB a2, a3⟩⟩
/-- v is a slice of the rows of l behind B: with room that it owns too, or without any -/
def CutRows (f : α → Array Value) (n : Nat) (W : World) (B t : Nat) (v : Value) (l : List α) : Prop :=
  (v = .slice none 0 0 ∧ l = []) ∨ ∃ g cap cur, v = .slice (some ⟨g, 0, none⟩) l.length cap ∧ B ≤ g ∧ W.heap[g]? = some (.cells cur t (0, 0)) ∧ l.length ≤ cap ∧ cap ≤ maxLen ∧ (cur.size = cap * n ∨ cap = l.length) ∧ l.length * n ≤ cur.size ∧ cur.toList.take (l.length * n) = rowsOf f l

variable {W W' : World} {B t : Nat} {v : Value} {l : List α}
theorem CutRows.nil (W : World) (B t : Nat) : CutRows f n W B t (.slice none 0 0) [] := .inl ⟨rfl, rfl⟩
theorem CutRows.of_own (hn : 0 < n) (h : OwnRows f n W B t v l) : CutRows f n W B t v l := by
  rcases h.2 with ⟨h1, h2⟩ | ⟨g, cap, cur, h1, h2, h3, h4, h5, h6, h7⟩
  · exact .inl ⟨h1, List.eq_nil_of_length_eq_zero h2⟩
  · exact .inr ⟨g, cap, cur, h1, h2, h3, h4, h5, .inl h6, by rw [h6]; exact Nat.mul_le_mul_right _ h4, h7⟩
theorem CutRows.form (h : CutRows f n W B t v l) : ∃ A c, v = .slice A l.length c := by
  rcases h with ⟨rfl, rfl⟩ | ⟨g, cap, cur, rfl, _⟩
  · exact ⟨_, _, rfl⟩
  · exact ⟨_, _, rfl⟩
theorem CutRows.lt (h : CutRows f n W B t v l) {k : Nat} (hk : v.ownBlock = some k) : B ≤ k ∧ k < W.heap.size ∧ ∃ cur, W.heap[k]? = some (.cells cur t (0, 0)) := by
  rcases h with ⟨rfl, rfl⟩ | ⟨g, cap, cur, rfl, h1, h2, _⟩
  · simp [Value.ownBlock] at hk
  · simp only [Value.ownBlock, Option.some.injEq] at hk
    subst hk
    exact ⟨h1, (Array.getElem?_eq_some_iff.1 h2).1, _, h2⟩
theorem CutRows.far (h : CutRows f n W B t v l) {k : Nat} (hk : k < B ∨ W.heap.size ≤ k) : v.ownBlock ≠ some k := fun e => by
  have := h.lt e
  omega
theorem CutRows.cells (h : CutRows f n W B t v l) (h0 : 0 < l.length) : ∃ g c, v = .slice (some ⟨g, 0, none⟩) l.length c ∧ B ≤ g ∧ g < W.heap.size ∧ ∀ j u, (rowsOf f l)[j]? = some u → W.cell? ⟨g, j, none⟩ = some u := by
  rcases h with ⟨rfl, rfl⟩ | ⟨g, cap, cur, rfl, h1, h2, h3, h4, h5, h6, h7⟩
  · simp at h0
  · refine ⟨g, cap, rfl, h1, (Array.getElem?_eq_some_iff.1 h2).1, fun j u hu => ?_⟩
    rw [← h7] at hu
    rw [cell_of_row W g j _ _ _ h2]
    have hj := (List.getElem?_eq_some_iff.1 hu).1
    rw [List.length_take] at hj
    rw [List.getElem?_take_of_lt (by omega)] at hu
    simpa using hu
theorem CutRows.get (hf : ∀ x, (f x).size = n) (h : CutRows f n W B t v l) {k : Nat} (hk : k < l.length) :
    ∃ g c, v = .slice (some ⟨g, 0, none⟩) l.length c ∧ B ≤ g ∧ g < W.heap.size ∧ segB W ⟨g, k * n, none⟩ n = true ∧ segV W ⟨g, k * n, none⟩ n = f l[k] := by
  obtain ⟨g, c, rfl, hb, hlt, hcs⟩ := h.cells (by omega)
  have hc : ∀ j u, (f l[k])[j]? = some u → W.cell? ((⟨g, k * n, none⟩ : Addr).add j) = some u := fun j u hu => by
    have hj : j < n := by have := (Array.getElem?_eq_some_iff.1 hu).1; rwa [hf] at this
    rw [add_none]
    exact hcs _ _ (by rw [rowsOf_get hf l k j hk hj]; exact hu)
  exact ⟨g, c, rfl, hb, hlt, segB_of hc (hf _), segV_of hc (hf _)⟩
theorem CutRows.upd {S : Nat → Prop} (h : CutRows f n W B t v l) (hu : Upd S W W') (hs : ∀ k, v.ownBlock = some k → ¬ S k) : CutRows f n W' B t v l := by
  refine h.imp id fun ⟨g, cap, cur, hv, hb, hg, hr⟩ => ⟨g, cap, cur, hv, hb, ?_, hr⟩
  subst hv
  exact (hu.block g (Array.getElem?_eq_some_iff.1 hg).1 (hs g rfl)).trans hg
theorem CutRows.alloc (h : CutRows f n W B t v l) (o : Obj) : CutRows f n (W.alloc o) B t v l := h.upd ((Upd.refl (fun _ => False) W).alloc o) fun _ _ h => h
theorem CutRows.drew (h : CutRows f n W B t v l) : CutRows f n W.drew B t v l := h.upd (Upd.refl (fun _ => False) W).drew fun _ _ h => h
/-- the last row goes -/
theorem CutRows.cut (hf : ∀ x, (f x).size = n) (h : CutRows f n W B t v l) {i : Nat} (hi : i < l.length) : ∃ g c, v = .slice (some ⟨g, 0, none⟩) l.length c ∧ l.length ≤ c ∧ CutRows f n W B t (.slice (some ⟨g, 0, none⟩) i i) (l.take i) := by
  rcases h with ⟨rfl, rfl⟩ | ⟨g, cap, cur, rfl, h1, h2, h3, h4, h5, h6, h7⟩
  · simp at hi
  · have hti : (l.take i).length = i := by rw [List.length_take]; omega
    have him : i * n ≤ l.length * n := Nat.mul_le_mul_right _ (by omega)
    refine ⟨g, cap, rfl, h3, .inr ⟨g, i, cur, by rw [hti], h1, h2, by omega, by omega, .inr hti.symm, by rw [hti]; omega, ?_⟩⟩
    rw [rowsOf_take hf, ← h7, hti, List.take_take, Nat.min_eq_left him]
end

section
variable {P : Program} {α : Type} {f : α → Array Value} {n : Nat} {W : World} {B t : Nat} {v : Value} {l : List α} {o : Oper} {a : Act} {K : Act → World → Prop} {Q : Exit → Act → World → Prop} {ops : Array Oper} {rest : List Oper}

theorem run_append_cut {ts bytes : Nat} (R : RowType P f n ts t bytes) (ty : TypeId) (h : CutRows f n W B t v l) (x : α) (g c : Nat) (tg : TypeId) (fr : Nat × Nat) (hg : W.heap[g]? = some (.cells (f x) tg fr)) (h63 : l.length + 1 ≤ maxLen) (hbytes : (l.length + 1) * bytes ≤ 140737488355328) (hB : B ≤ W.heap.size) :
    ∃ v' W', (Builtin.append_ #[ts, ts] ty #[v, .slice (some ⟨g, 0, none⟩) 1 c]).run P W = .ok v' W' ∧ CutRows f n W' B t v' (l ++ [x]) ∧ Upd (fun k => v.ownBlock = some k) W W' ∧ (∀ k, k < W.heap.size → v'.ownBlock = some k → v.ownBlock = some k) := by
  obtain ⟨z, hinf, hzs⟩ := R.info
  obtain ⟨i, hi, hinf⟩ := Option.map_eq_some_iff.1 hinf
  simp only [Prod.mk.injEq] at hinf
  obtain ⟨hsz, hby, hz⟩ := hinf
  have hown : OwnRows f n W B t v l → ∃ v' W', (Builtin.append_ #[ts, ts] ty #[v, .slice (some ⟨g, 0, none⟩) 1 c]).run P W = .ok v' W' ∧ CutRows f n W' B t v' (l ++ [x]) ∧ Upd (fun k => v.ownBlock = some k) W W' ∧ (∀ k, k < W.heap.size → v'.ownBlock = some k → v.ownBlock = some k) := fun ho => by
    obtain ⟨v', W', hr, h2, h3, h4⟩ := run_append_rows (P := P) R.size ts ty i z bytes R.slice hi hz hsz hby hzs R.pos R.one ho x g c tg fr hg h63 hbytes hB
    exact ⟨v', W', hr, .of_own R.pos h2, h3, fun k hk e => by rcases h4 with h4 | h4 <;> rw [h4] at e; exact e; cases e; omega⟩
  rcases h with ⟨rfl, rfl⟩ | ⟨q, cap, cur, rfl, h1, h2, h3, h4, h5, h6, h7⟩
  · exact hown (OwnRows.nil _ _ _)
  · rcases h5 with h5 | rfl
    · exact hown ⟨by rw [rowsOf_length R.size], .inr ⟨q, cap, cur, rfl, h1, h2, h3, h4, h5, h7⟩⟩
    · obtain ⟨v', W', hr, ho, hgr⟩ := run_append_arg_grows (P := P) W ts ty t i z n bytes R.slice hi hz hsz hby hzs R.pos ⟨q, 0, none⟩ l.length l.length (rowsOf f l) (rowsOf_length R.size l)
        (fun j u hu => by
          rw [← h7] at hu
          have hj := (List.getElem?_eq_some_iff.1 hu).1
          rw [List.length_take] at hj
          rw [List.getElem?_take_of_lt (by omega)] at hu
          exact seg_block h2 j u (by simpa using hu)) ⟨g, 0, none⟩ 1 c (f x).toList (by rw [Array.length_toList, R.size, Nat.one_mul]) (fun j u hu => seg_block hg j u (by simpa using hu)) (by omega) h63 hbytes
      rw [rowsOf_snoc] at ho
      have ho' : OwnRows f n W' W.heap.size t v' (l ++ [x]) := by
        unfold OwnRows
        rw [List.length_append, List.length_singleton]
        exact ho
      exact ⟨v', W', hr, .of_own R.pos (ho'.mono hB), (Upd.of_grown hgr).mono (fun k _ hk => by cases hk), fun k hk e => by have := World.ownsRow.lt ho' k e; omega⟩

/-- one row is taken off: 'append(s[:i:i], s[i+1:]...)' -/
theorem run_append_rest {ts bytes : Nat} (R : RowType P f n ts t bytes) (ty : TypeId) {g c : Nat} (h : CutRows f n W B t (.slice (some ⟨g, 0, none⟩) l.length c) l) (i : Nat) (hi : i < l.length) (A2 : Option Addr) (c2 : Nat) (hA2 : i + 1 < l.length → A2 = some ⟨g, (i + 1) * n, none⟩) (h63 : l.length ≤ maxLen) (hbytes : l.length * bytes ≤ 140737488355328) (hB : B ≤ W.heap.size) :
    ∃ v' W', (Builtin.append_ #[ts, ts] ty #[.slice (some ⟨g, 0, none⟩) i i, .slice A2 (l.length - (i + 1)) c2]).run P W = .ok v' W' ∧ CutRows f n W' B t v' (l.eraseIdx i) ∧ Kept W W' ∧ (∀ k, k < W.heap.size → v'.ownBlock = some k → k = g) := by
  obtain ⟨z, hinf, hzs⟩ := R.info
  obtain ⟨i0, hi0, hinf⟩ := Option.map_eq_some_iff.1 hinf
  simp only [Prod.mk.injEq] at hinf
  obtain ⟨hsz, hby, hz⟩ := hinf
  have he : l.eraseIdx i = l.take i ++ l.drop (i + 1) := List.eraseIdx_eq_take_drop_succ ..
  by_cases hl : i + 1 < l.length
  · obtain ⟨g', c', hv, _, _, hcs⟩ := h.cells (by omega)
    simp only [Value.slice.injEq, Option.some.injEq, Addr.mk.injEq, and_true, true_and] at hv
    obtain ⟨rfl, rfl⟩ := hv
    obtain rfl := hA2 hl
    have hti : (l.take i).length = i := by rw [List.length_take]; omega
    obtain ⟨v', W', hr, ho, hgr⟩ := run_append_arg_grows (P := P) W ts ty t i0 z n bytes R.slice hi0 hz hsz hby hzs R.pos ⟨g, 0, none⟩ i i (rowsOf f (l.take i)) (by rw [rowsOf_length R.size, hti])
      (fun j u hu => by
        rw [rowsOf_take R.size] at hu
        have hj := (List.getElem?_eq_some_iff.1 hu).1
        rw [List.length_take] at hj
        rw [List.getElem?_take_of_lt (by omega)] at hu
        rw [add_none, Nat.zero_add]
        exact hcs j u hu)
      ⟨g, (i + 1) * n, none⟩ (l.length - (i + 1)) c2 (rowsOf f (l.drop (i + 1))) (by rw [rowsOf_length R.size, List.length_drop])
      (fun j u hu => by
        rw [rowsOf_drop R.size, List.getElem?_drop] at hu
        rw [add_none]
        exact hcs _ u hu) (by omega) (by omega) (by rw [show i + (l.length - (i + 1)) = l.length - 1 by omega]; exact Nat.le_trans (Nat.mul_le_mul_right _ (by omega)) hbytes)
    rw [← rowsOf_append, ← he] at ho
    have hel : (l.eraseIdx i).length = i + (l.length - (i + 1)) := by rw [he, List.length_append, hti, List.length_drop]
    have ho' : OwnRows f n W' W.heap.size t v' (l.eraseIdx i) := by
      unfold OwnRows
      rw [hel]
      exact ho
    exact ⟨v', W', hr, .of_own R.pos (ho'.mono hB), (Upd.of_grown hgr).mono (fun k _ hk => by cases hk), fun k hk e => by have := World.ownsRow.lt ho' k e; omega⟩
  · have h0 : l.length - (i + 1) = 0 := by omega
    rw [h0]
    have hsrc : Src P i0.size ts (.slice A2 0 c2) 0 [] W := by
      cases A2 with
      | none => exact Src.ofNil W R.slice c2
      | some ad => exact Src.ofSlice W R.slice ad 0 c2 [] (by simp) (fun j u hu => by simp at hu) (fun u hu => by cases hu)
    have hr := run_append_nothing W ts ts ty t i0 R.slice hi0 (some ⟨g, 0, none⟩) i i (Nat.le_refl _) _ hsrc
    obtain ⟨g', c', hv, _, hcut⟩ := h.cut R.size hi
    simp only [Value.slice.injEq, Option.some.injEq, Addr.mk.injEq, and_true, true_and] at hv
    obtain ⟨rfl, rfl⟩ := hv
    rw [he, List.drop_of_length_le (by omega), List.append_nil]
    exact ⟨_, W, hr, hcut, Upd.refl _ _, fun k _ e => by simpa [Value.ownBlock] using e.symm⟩

theorem step_append {E : Prop} (hgd : o.guard = none) (s x : Operand) {ts : Nat} (ho : o.op = .call { callee := .builtin .append, args := #[s, x], argTypes := #[ts, ts] }) {v1 v2 v' : Value} {W' : World} (hs : a.eval s = v1) (hx : a.eval x = v2)
    (hr : (Builtin.append_ #[ts, ts] o.type #[v1, v2]).run P W = .ok v' W') (hk : K (a.put o.dst v') W') :
    if Region.wanted o (yielded ops a.tmps) = true then o.wp P a W K Q else E := by
  rw [if_pos (by unfold Region.wanted; rw [hgd])]
  unfold Oper.wp execOp
  simp only [ho, resolve, invoke, builtin, Sem.run_bind, Sem.run_pure, Result.andThen_ok, List.map_toArray, List.map_cons, List.map_nil, hs, hx, hr]
  exact hk
theorem wpList_append {ops : Array Oper} {rest : List Oper} (hgd : o.guard = none) (s x : Operand) {ts : Nat} (ho : o.op = .call { callee := .builtin .append, args := #[s, x], argTypes := #[ts, ts] }) {v1 v2 v' : Value} {W' : World} (hs : a.eval s = v1) (hx : a.eval x = v2)
    (hr : (Builtin.append_ #[ts, ts] o.type #[v1, v2]).run P W = .ok v' W') (hk : wpList P ops Q rest (a.put o.dst v') W') : wpList P ops Q (o :: rest) a W := by
  refine wpList_plain hgd fun K hK => ?_
  unfold Oper.wp execOp
  simp only [ho, resolve, invoke, builtin, Sem.run_bind, Sem.run_pure, Result.andThen_ok, List.map_toArray, List.map_cons, List.map_nil, hs, hx, hr]
  exact hK _ _ hk
end
end Go.Proofs.Ytjimamgghkgdeaa
