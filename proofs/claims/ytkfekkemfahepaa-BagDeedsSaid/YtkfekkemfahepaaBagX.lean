/- Deeds of the statement BagDeeds, as cells and as an argument; its three bags at the beginning. -/
import Derived.Test.YtkfekkemfahepaaBagV
import Derived.Test.YtkfekkemfahepaaBagW
namespace Go.Proofs.Ytkfekkemfahepaa
open Go.ChangeShapes Go.WideShapes Go.ChangeAt Go.RowKit Go.Deep

structure BDeed where
  k : Int
  at_ : Int
  set : Int
  x : EnvC
  m : Note
def bdA (d : BDeed) : Array Value := #[.int .i64 d.k, .int .i64 d.at_, .int .i64 d.set, .int .i64 d.x.f, .int .i64 d.x.t, .slice d.x.A d.x.n d.x.c]
@[go_sem] theorem bdA_size (d : BDeed) : (bdA d).size = 6 := by simp [bdA]
@[go_sem] theorem bdA_one (d : BDeed) : oneB (bdA d) = true := by unfold bdA oneB; exact (by rfl : _ = _)
def bdZ : BDeed := ⟨0, 0, 0, envZ, (0, 0, [])⟩
@[go_sem ↓] theorem exec_alloc_bd (ρ : Operand → Value) (dst : Option Tmp) (ty : TypeId) (pos : String) (after : Array Edge) (guard : Option (Nat × Bool)) :
    execOp ρ ⟨dst, .alloc 31, ty, pos, after, guard⟩ = allocRow 31 := rfl
@[go_sem] theorem run_alloc_bd (W : World) : (allocRow 31).run Try.prog W = .ok (.value (.pointer (some ⟨W.heap.size, 0, none⟩))) (W.alloc (.cells (bdA bdZ) 31)) :=
  run_allocRow _ (.agg (bdA bdZ)) (by kernel_rfl) W

def BdAt (W : World) (g : Nat) (d : BDeed) : Prop := W.heap[g]? = some (.cells (bdA d) 31 (0, 0))
section
variable {W W' : World} {g : Nat} {d : BDeed}
theorem BdAt.c0 (h : BdAt W g d) : W.cell? ⟨g, 0, none⟩ = some (.int .i64 d.k) := by rw [cell_of_row _ _ _ _ _ _ h]; rfl
theorem BdAt.c1 (h : BdAt W g d) : W.cell? ⟨g, 1, none⟩ = some (.int .i64 d.at_) := by rw [cell_of_row _ _ _ _ _ _ h]; rfl
theorem BdAt.c2 (h : BdAt W g d) : W.cell? ⟨g, 2, none⟩ = some (.int .i64 d.set) := by rw [cell_of_row _ _ _ _ _ _ h]; rfl
theorem BdAt.cs (h : BdAt W g d) : ∀ j v, (envA d.x)[j]? = some v → W.cell? ((⟨g, 3, none⟩ : Addr).add j) = some v := fun j v hv => by
  have hj : j < 3 := (Array.getElem?_eq_some_iff.1 hv).1
  rw [add_none, cell_of_row _ _ _ _ _ _ h]
  match j, hj with
  | 0, _ => exact hv
  | 1, _ => exact hv
  | 2, _ => exact hv
theorem BdAt.s1 (h : BdAt W g d) : segB W ⟨g, 3, none⟩ 3 = true := segB_of h.cs (envA_size _)
theorem BdAt.s2 (h : BdAt W g d) : segV W ⟨g, 3, none⟩ 3 = envA d.x := segV_of h.cs (envA_size _)
end

structure BDeedAt (W : World) (b off : Nat) (d : BDeed) : Prop where
  cs : ∀ j v, (bdA d)[j]? = some v → W.cell? ((⟨b, off, none⟩ : Addr).add j) = some v
  note : NoteAt W d.x d.m
structure BOk (d : BDeed) : Prop where
  k : (Lit.int .i64 d.k).wf = true
  at_ : (Lit.int .i64 d.at_).wf = true
  set : (Lit.int .i64 d.set).wf = true
def BDeeds (W : World) (A : Option Addr) (l : List BDeed) : Prop := l = [] ∨ ∃ b off, A = some ⟨b, off, none⟩ ∧ ∀ k (h : k < l.length), BDeedAt W b (off + k * 6) l[k]
theorem BDeeds.get {W : World} {A : Option Addr} {l : List BDeed} (h : BDeeds W A l) {k : Nat} (hk : k < l.length) : ∃ b off, A = some ⟨b, off, none⟩ ∧ BDeedAt W b (off + k * 6) l[k] := by
  rcases h with rfl | ⟨b, off, rfl, h⟩
  · simp at hk
  · exact ⟨b, off, rfl, h k hk⟩
theorem BDeedAt.kept {W W' : World} {b off : Nat} {d : BDeed} (h : BDeedAt W b off d) (hu : Kept W W') : BDeedAt W' b off d := ⟨fun j v hv => hu.cell (h.cs j v hv) id, h.note.kept hu⟩
theorem BDeedAt.s1 {W : World} {b off : Nat} {d : BDeed} (h : BDeedAt W b off d) : segB W ⟨b, off, none⟩ 6 = true := segB_of h.cs (bdA_size _)
theorem BDeedAt.s2 {W : World} {b off : Nat} {d : BDeed} (h : BDeedAt W b off d) : segV W ⟨b, off, none⟩ 6 = bdA d := segV_of h.cs (bdA_size _)

theorem exists_list {α : Type} {p : Nat → α → Prop} : ∀ (n : Nat), (∀ i, i < n → ∃ x, p i x) → ∃ l : List α, l.length = n ∧ ∀ i (h : i < l.length), p i l[i]
  | 0, _ => ⟨[], rfl, fun i h => absurd h (Nat.not_lt_zero i)⟩
  | n + 1, h => by
    obtain ⟨l, hl, hp⟩ := exists_list n fun i hi => h i (by omega)
    obtain ⟨x, hx⟩ := h n (by omega)
    refine ⟨l ++ [x], by simp [hl], fun i hi => ?_⟩
    by_cases hin : i < l.length
    · rw [List.getElem_append_left hin]; exact hp i hin
    · obtain rfl : i = n := by simp at hi; omega
      rw [List.getElem_append_right (by omega)]
      simpa [hl] using hx

set_option maxRecDepth 100000 in
theorem open_bdeeds {H : Type} {enc : TypeId × Value → H} {W : World} {cs : List Value} (h : ReadsAs enc Try.prog W 22 cs) :
    ∃ A l cap, cs = [.slice A l.length cap] ∧ l.length * 64 ≤ reachBytes ∧ BDeeds W A l ∧ ∀ x ∈ l, BOk x := by
  obtain ⟨A, len, cap, rfl, _, _, hw, hi⟩ := h.slice Try.underlying22 (n := 6) (by kernel_rfl) (by omega)
  have h64 : Try.prog.bytesOf 31 = 64 := by kernel_rfl
  rw [h64] at hw
  have key : ∀ i, i < len → ∃ d : BDeed, BOk d ∧ ∃ b off, A = some ⟨b, off, none⟩ ∧ BDeedAt W b (off + i * 6) d := by
    intro i hil
    obtain ⟨b, off, cs', hA, hl, hc, hr⟩ := hi i hil
    obtain ⟨_, hf⟩ := hr.struct Try.underlying31
    match cs', hl with
    | [c0, c1, c2, c3, c4, c5], _ =>
      have e0 := hf 0 _ rfl
      have e1 := hf 1 _ rfl
      have e2 := hf 2 _ rfl
      have e3 := hf 3 _ rfl
      have ri : Try.prog.cellsOf 29 = 3 := by kernel_rfl
      try simp only [int_cells, ri, List.drop_zero, List.drop_succ_cons, List.take_succ_cons, List.take_zero] at e0
      try simp only [int_cells, ri, List.drop_zero, List.drop_succ_cons, List.take_succ_cons, List.take_zero] at e1
      try simp only [int_cells, ri, List.drop_zero, List.drop_succ_cons, List.take_succ_cons, List.take_zero] at e2
      try simp only [int_cells, ri, List.drop_zero, List.drop_succ_cons, List.take_succ_cons, List.take_zero] at e3
      obtain ⟨k, hk, wk⟩ := e0.int Try.underlying3
      obtain ⟨at_, hat, wat⟩ := e1.int Try.underlying3
      obtain ⟨set, hset, wset⟩ := e2.int Try.underlying3
      obtain ⟨x, m, hx, hnote, _, _⟩ := open_env e3
      obtain rfl := (List.cons.inj hk).1
      obtain rfl := (List.cons.inj hat).1
      obtain rfl := (List.cons.inj hset).1
      obtain ⟨rfl, rfl, rfl⟩ : c3 = .int .i64 x.f ∧ c4 = .int .i64 x.t ∧ c5 = .slice x.A x.n x.c := by
        simpa [envA, ri] using hx
      refine ⟨⟨k, at_, set, x, m⟩, ⟨wk, wat, wset⟩, b, off, hA, ⟨fun j v hv => ?_, hnote⟩⟩
      have hj : j < 6 := (Array.getElem?_eq_some_iff.1 hv).1
      rw [add_none, hc j hj]
      simpa [bdA] using hv
  obtain ⟨l, hll, hl⟩ := exists_list len key
  refine ⟨A, l, cap, by rw [hll], by rw [hll]; exact hw, ?_, fun x hx => ?_⟩
  · rcases Nat.eq_zero_or_pos len with h0 | h0
    · exact .inl (List.eq_nil_of_length_eq_zero (by omega))
    · obtain ⟨_, b, off, hA, _⟩ := hl 0 (by omega)
      refine .inr ⟨b, off, hA, fun k hk => ?_⟩
      obtain ⟨_, b', off', hA', hd⟩ := hl k hk
      rw [hA] at hA'
      simp only [Option.some.injEq, Addr.mk.injEq, and_true] at hA'
      obtain ⟨rfl, rfl⟩ := hA'
      exact hd
  · obtain ⟨i, hi, rfl⟩ := List.mem_iff_getElem.1 hx
    exact (hl i hi).1

/-- at the beginning -/
theorem TB.init (w : World) : TB w (((w.alloc (.cells #[.bool true, .slice none 0 0, .int .i64 0, .int .i64 0] 61)).alloc (.cells #[.slice none 0 0, .int .i64 0, .int .i64 0] 63)).alloc (.cells #[.bool true, .slice none 0 0, .int .i64 0, .int .i64 0] 61)) w.heap.size (w.heap.size + 1) (w.heap.size + 2) [] 0 0 [] 0 0 0 [] [] [] := by
  have h1 := heap_alloc_new w (.cells #[.bool true, .slice none 0 0, .int .i64 0, .int .i64 0] 61)
  have hk1 : Kept w (w.alloc (.cells #[.bool true, .slice none 0 0, .int .i64 0, .int .i64 0] 61)) := (Upd.refl _ w).alloc _
  have z1 : (w.alloc (.cells #[.bool true, .slice none 0 0, .int .i64 0, .int .i64 0] 61)).heap.size = w.heap.size + 1 := World.size_alloc ..
  generalize w.alloc (.cells #[.bool true, .slice none 0 0, .int .i64 0, .int .i64 0] 61) = W1 at *
  have h2 := heap_alloc_new W1 (.cells #[.slice none 0 0, .int .i64 0, .int .i64 0] 63)
  have hk2 : Kept W1 (W1.alloc (.cells #[.slice none 0 0, .int .i64 0, .int .i64 0] 63)) := (Upd.refl _ W1).alloc _
  have z2 : (W1.alloc (.cells #[.slice none 0 0, .int .i64 0, .int .i64 0] 63)).heap.size = W1.heap.size + 1 := World.size_alloc ..
  generalize W1.alloc (.cells #[.slice none 0 0, .int .i64 0, .int .i64 0] 63) = W2 at *
  have h3 := heap_alloc_new W2 (.cells #[.bool true, .slice none 0 0, .int .i64 0, .int .i64 0] 61)
  have hk3 : Kept W2 (W2.alloc (.cells #[.bool true, .slice none 0 0, .int .i64 0, .int .i64 0] 61)) := (Upd.refl _ W2).alloc _
  have z3 : (W2.alloc (.cells #[.bool true, .slice none 0 0, .int .i64 0, .int .i64 0] 61)).heap.size = W2.heap.size + 1 := World.size_alloc ..
  generalize W2.alloc (.cells #[.bool true, .slice none 0 0, .int .i64 0, .int .i64 0] 61) = W3 at *
  rw [z1] at h2 z2
  rw [z2] at h3 z3
  refine ⟨⟨w.heap.size + 3, .slice none 0 0, [], .slice none 0 0, [], .slice none 0 0, [], 0, 0, ⟨⟨hk3.heap (hk2.heap h1 id) id, ⟨.nil _ _ _, by simp⟩, by omega, by simp⟩, ⟨hk3.heap h2 id, ⟨.nil _ _ _, by simp⟩, by omega, by simp⟩, ⟨h3, ⟨.nil _ _ _, by simp⟩, by omega, by simp⟩, by omega, by omega, by omega, by omega, fun k hk => (by cases hk), fun k hk => (by cases hk), fun k hk => (by cases hk), by simp, by simp, by simp, by simp⟩, rfl, rfl, rfl, rfl⟩, (hk1.then hk2 fun _ _ h => h).then hk3 fun _ _ h => h, by omega, by omega, by omega, by simp, by simp, by simp⟩

section
variable {w W W' : World} {a r o : Nat} {Na Nr : List Note} {sa la sr lr : Int} {n : Nat} {G : List (Nat × Obj)} {H : List Nat} {Y : List (EnvC × Note)}
/-- a note in memory of its own -/
theorem TB.fresh (h : TB w W a r o Na sa la Nr sr lr n G H Y) (hu : Kept W W') {y : EnvC} {m : Note} (hf : Fresh W.heap.size W' y m) : ∃ qs, TB w W' a r o Na sa la Nr sr lr n G (qs ++ H) ((y, m) :: Y) ∧ (m.2.2 ≠ [] → ∃ q, y.A = some ⟨q, 0, none⟩ ∧ q ∈ qs ∧ w.heap.size ≤ q) := by
  have hsz := h.k.size
  by_cases hne : m.2.2 = []
  · exact ⟨[], (h.kept hu).addY hf, fun e => absurd hne e⟩
  · obtain ⟨q, q1, q2, q3⟩ := hf.far hne
    exact ⟨[q], (h.addH hu q2 q3).addY hf, fun _ => ⟨q, q1, by simp, by omega⟩⟩
/-- its bytes: a row of the kind that may be written -/
def Row8 (W : World) (q n : Nat) : Prop := ∃ cs, W.heap[q]? = some (.cells cs 5 (0, 0)) ∧ ∀ j, j < n → ∃ v, cs[j]? = some (.int .u8 v)
theorem Fresh.row8 {K : Nat} {y : EnvC} {m : Note} {q : Nat} (hf : Fresh K W y m) (hne : m.2.2 ≠ []) (hq : y.A = some ⟨q, 0, none⟩) : Row8 W q m.2.2.length := by
  obtain ⟨b', cs', e1, e2⟩ := hf.own.resolve_left hne
  obtain ⟨b2, off2, e3, e4⟩ := hf.at_.b.resolve_left hne
  rw [hq] at e1 e3
  simp only [Option.some.injEq, Addr.mk.injEq, and_true] at e1 e3
  subst e1
  obtain ⟨rfl, rfl⟩ := e3
  refine ⟨cs', e2, fun j hj => ⟨m.2.2[j], ?_⟩⟩
  have := e4 j hj
  rw [Nat.zero_add, cell_of_row _ _ _ _ _ _ e2] at this
  exact this
theorem Row8.set {q n : Nat} (h : Row8 W q n) (j : Nat) (v : Int) : Row8 (W.setCell ⟨q, j, none⟩ (.int .u8 v)) q n := by
  obtain ⟨cs, h1, h2⟩ := h
  refine ⟨_, heap_setCell_same W q j _ _ _ h1, fun i hi => ?_⟩
  obtain ⟨u, hu⟩ := h2 i hi
  by_cases hij : i = j
  · subst hij
    have hl := (Array.getElem?_eq_some_iff.1 hu).1
    exact ⟨v, by simp [hl]⟩
  · exact ⟨u, by rw [Array.getElem?_setIfInBounds_ne (by omega)]; exact hu⟩
theorem putN_length (N : List Note) (m : Note) : (putN N m).length ≤ N.length + 1 := by unfold putN; split <;> simp
theorem eraseR_length (N : List Note) (i : Int) : (eraseR N i).length ≤ N.length := by
  unfold eraseR; split
  · rw [List.length_eraseIdx]; split <;> omega
  · omega
theorem doubleR_length (N : List Note) (i : Int) : (doubleR N i).length ≤ N.length + 1 := by unfold doubleR; split <;> simp
theorem oneIf_range (e : Int) : 0 ≤ oneIf e ∧ oneIf e ≤ 1 := by unfold oneIf; split <;> omega
end
end Go.Proofs.Ytkfekkemfahepaa
