/- Three ledgers at once (the program's, the document's, another): what a step on one of them leaves of all. -/
import Derived.Test.YtjnaenmknbcjmaaTagH
import Derived.Test.YtjnaenmknbcjmaaTagT
import Derived.Test.YtjnaenmknbcjmaaInts
namespace Go.Proofs.Ytjnaenmknbcjmaa
open Go.ChangeShapes Go.WideShapes Go.ChangeAt Go.RowKit

theorem tagM_length (L : List Ent) (f t : Int) (d : Dig) : (tagM L f t d).1.length ≤ L.length + 1 := by
  unfold tagM; split
  · exact putE_length _ _
  · simp
theorem vecM_length (L : List Ent) (f : Int) (R : List Int) (d : Dig) : (vecM L f R d).1.length ≤ L.length + 34 := by
  unfold vecM; split
  · rename_i h
    simp only [Bool.and_eq_true, decide_eq_true_eq] at h
    have := puts_length f d R L
    have h2 := h.1.2
    show (R.foldl (fun L t => putE (f, t, d) L) L).length ≤ _
    omega
  · simp

/-- the ledgers lie apart, behind N and ahead of B -/
structure Apart (N B ba ra bb bo ro : Nat) : Prop where
  n : N ≤ ba ∧ N ≤ ra ∧ N ≤ bb ∧ N ≤ bo ∧ N ≤ ro ∧ N ≤ B
  b : ba < B ∧ ra < B ∧ bb < B ∧ bo < B ∧ ro < B
  a : ba ≠ bb ∧ ra ≠ bb ∧ bo ≠ bb ∧ ro ≠ bb
  o : ba ≠ bo ∧ ba ≠ ro ∧ ra ≠ bo ∧ ra ≠ ro

/-- all three, in a world that keeps what w had, and the boxes G -/
structure Trio (w W : World) (B ba ra bb bo ro : Nat) (v : Value) (L L' : List Ent) (n m : Int) (G : List (Nat × Obj)) : Prop where
  a : LedAt W ba ra L n
  r : RefAt W B bb v L' m
  o : ∃ Lo, LedAt W bo ro Lo 0
  sz : B ≤ W.heap.size
  ne : Apart w.heap.size B ba ra bb bo ro
  k : Kept w W
  x : ∀ p ∈ G, B ≤ p.1 ∧ v.ownBlock ≠ some p.1 ∧ W.heap[p.1]? = some p.2

section
variable {w W W' : World} {B ba ra bb bo ro : Nat} {v v' : Value} {L L' L2 : List Ent} {n m n2 m2 : Int} {G : List (Nat × Obj)}
theorem Trio.ofA (h : Trio w W B ba ra bb bo ro v L L' n m G) (hL : LedAt W' ba ra L2 n2) {S : Nat → Prop} (hu : Upd S W W') (hS : ∀ k, S k → k = ba ∨ k = ra) : Trio w W' B ba ra bb bo ro v L2 L' n2 m G := by
  obtain ⟨⟨a1, a2, a3, a4, a5, a6⟩, ⟨b1, b2, b3, b4, b5⟩, ⟨c1, c2, c3, c4⟩, d1, d2, d3, d4⟩ := h.ne
  obtain ⟨Lo, ho⟩ := h.o
  have hv : ∀ k, v.ownBlock = some k → ¬ (k = ba ∨ k = ra) := fun k hk e => h.r.rows.far (.inl (by omega : k < B)) hk
  refine ⟨hL, h.r.upd hu (fun e => by have := hS _ e; omega) (fun k hk e => hv k hk (hS k e)), ⟨Lo, ho.upd hu (fun e => by have := hS _ e; omega) (fun e => by have := hS _ e; omega)⟩, Nat.le_trans h.sz hu.size, h.ne, h.k.then hu (fun i hi e => by have := hS _ e; omega), fun p hp => ?_⟩
  obtain ⟨x1, x2, x3⟩ := h.x p hp
  exact ⟨x1, x2, hu.heap x3 (fun e => by have := hS _ e; omega)⟩
theorem Trio.ofO (h : Trio w W B ba ra bb bo ro v L L' n m G) (hL : LedAt W' bo ro L2 0) (hu : Upd (fun k => k = ro) W W') : Trio w W' B ba ra bb bo ro v L L' n m G := by
  obtain ⟨⟨a1, a2, a3, a4, a5, a6⟩, ⟨b1, b2, b3, b4, b5⟩, ⟨c1, c2, c3, c4⟩, d1, d2, d3, d4⟩ := h.ne
  refine ⟨h.a.upd hu (by omega) (by omega), h.r.upd hu (by omega) (fun k hk e => h.r.rows.far (.inl (by omega : k < B)) hk), ⟨_, hL⟩, Nat.le_trans h.sz hu.size, h.ne, h.k.then hu (fun i hi e => by omega), fun p hp => ?_⟩
  obtain ⟨x1, x2, x3⟩ := h.x p hp
  exact ⟨x1, x2, hu.heap x3 (by omega)⟩
theorem Trio.ofR (h : Trio w W B ba ra bb bo ro v L L' n m G) (hT : RefTo W W' B bb v v' L2 m2) : Trio w W' B ba ra bb bo ro v' L L2 n m2 G := by
  obtain ⟨⟨a1, a2, a3, a4, a5, a6⟩, ⟨b1, b2, b3, b4, b5⟩, ⟨c1, c2, c3, c4⟩, d1, d2, d3, d4⟩ := h.ne
  obtain ⟨Lo, ho⟩ := h.o
  have hv : ∀ k, k < B → v.ownBlock ≠ some k := fun k hk => h.r.rows.far (.inl hk)
  refine ⟨h.a.upd hT.upd (fun e => e.elim (by omega) (hv _ b1)) (fun e => e.elim (by omega) (hv _ b2)), hT.ref, ⟨Lo, ho.upd hT.upd (fun e => e.elim (by omega) (hv _ b4)) (fun e => e.elim (by omega) (hv _ b5))⟩, Nat.le_trans h.sz hT.upd.size, h.ne, h.k.then hT.upd (fun i hi e => e.elim (by omega) (hv _ (by omega))), fun p hp => ?_⟩
  obtain ⟨x1, x2, x3⟩ := h.x p hp
  exact ⟨x1, fun e => x2 (hT.new _ (Array.getElem?_eq_some_iff.1 x3).1 e), hT.upd.heap x3 (fun e => e.elim (by omega) x2)⟩
theorem Trio.kept (h : Trio w W B ba ra bb bo ro v L L' n m G) (hu : Kept W W') : Trio w W' B ba ra bb bo ro v L L' n m G := by
  have := h.ofA (h.a.upd hu id id) hu (fun _ e => e.elim)
  exact this
theorem Trio.drew (h : Trio w W B ba ra bb bo ro v L L' n m G) : Trio w W.drew B ba ra bb bo ro v L L' n m G := h.kept (Upd.refl _ _).drew
theorem Trio.alloc (h : Trio w W B ba ra bb bo ro v L L' n m G) (o : Obj) : Trio w (W.alloc o) B ba ra bb bo ro v L L' n m ((W.heap.size, o) :: G) := by
  have h' := h.kept ((Upd.refl _ W).alloc o)
  refine ⟨h'.a, h'.r, h'.o, h'.sz, h'.ne, h'.k, fun p hp => ?_⟩
  rcases List.mem_cons.1 hp with rfl | hp
  · exact ⟨h.sz, h.r.rows.far (.inr (Nat.le_refl _)), heap_alloc_new W o⟩
  · exact h'.x p hp
theorem Trio.s {g : Nat} {d : Dig} (h : Trio w W B ba ra bb bo ro v L L' n m ((g, .cells (dA d) 28) :: G)) : Kept w W ∧ Box W g d := ⟨h.k, (h.x _ List.mem_cons_self).2.2⟩
theorem Trio.less (h : Trio w W B ba ra bb bo ro v L L' n m G) {G' : List (Nat × Obj)} (hG : ∀ p ∈ G', p ∈ G) : Trio w W B ba ra bb bo ro v L L' n m G' :=
  ⟨h.a, h.r, h.o, h.sz, h.ne, h.k, fun p hp => h.x p (hG p hp)⟩
theorem Trio.more (h : Trio w W B ba ra bb bo ro v L L' n m G) {q : Nat × Obj} (h1 : B ≤ q.1) (h2 : v.ownBlock ≠ some q.1) (h3 : W.heap[q.1]? = some q.2) : Trio w W B ba ra bb bo ro v L L' n m (q :: G) :=
  ⟨h.a, h.r, h.o, h.sz, h.ne, h.k, fun p hp => by
    rcases List.mem_cons.1 hp with rfl | hp
    · exact ⟨h1, h2, h3⟩
    · exact h.x p hp⟩
theorem Trio.mores (h : Trio w W B ba ra bb bo ro v L L' n m G) {E : List (Nat × Obj)} (hE : ∀ p ∈ E, B ≤ p.1 ∧ v.ownBlock ≠ some p.1 ∧ W.heap[p.1]? = some p.2) : Trio w W B ba ra bb bo ro v L L' n m (G ++ E) :=
  ⟨h.a, h.r, h.o, h.sz, h.ne, h.k, fun p hp => (List.mem_append.1 hp).elim (h.x p) (hE p)⟩
/-- a row behind B, that is no box, is written -/
theorem Trio.set (h : Trio w W B ba ra bb bo ro v L L' n m G) {g : Nat} (h1 : B ≤ g) (h2 : v.ownBlock ≠ some g) (h3 : ∀ p ∈ G, p.1 ≠ g) (hu : Upd (fun k => k = g) W W') : Trio w W' B ba ra bb bo ro v L L' n m G := by
  obtain ⟨⟨a1, a2, a3, a4, a5, a6⟩, ⟨b1, b2, b3, b4, b5⟩, ⟨c1, c2, c3, c4⟩, d1, d2, d3, d4⟩ := h.ne
  obtain ⟨Lo, ho⟩ := h.o
  refine ⟨h.a.upd hu (by omega) (by omega), h.r.upd hu (by omega) (fun k hk e => h2 (by rw [← e]; exact hk)), ⟨Lo, ho.upd hu (by omega) (by omega)⟩, Nat.le_trans h.sz hu.size, h.ne, h.k.then hu (fun i hi e => by omega), fun p hp => ?_⟩
  obtain ⟨x1, x2, x3⟩ := h.x p hp
  exact ⟨x1, x2, hu.heap x3 (h3 p hp)⟩
end

/-- what CopyInts made -/
theorem ints_made {w W : World} {A : Option Addr} {R : List Int} {c : Nat} (h : W.ownsRow w.heap.size 3 1 (.slice A R.length c) R.length (R.map (Value.int .i64))) :
    ∃ E : List (Nat × Obj), (∀ p ∈ E, w.heap.size ≤ p.1 ∧ W.heap[p.1]? = some p.2) ∧ (∀ W2 : World, (∀ p ∈ E, W2.heap[p.1]? = some p.2) → Ints W2 A R) ∧
      (R.length = 0 ∨ ∃ h cur, A = some ⟨h, 0, none⟩ ∧ E = [(h, .cells cur 3)] ∧ R.length ≤ cur.size) := by
  rcases h.2 with ⟨e, h0⟩ | ⟨g, cap, cur, e, hb, hg, h1, h2, h3, h4⟩
  · exact ⟨[], by simp, fun _ _ => .inl (List.eq_nil_of_length_eq_zero h0), .inl h0⟩
  · simp only [Value.slice.injEq] at e
    obtain ⟨rfl, _, rfl⟩ := e
    refine ⟨[(g, .cells cur 3)], by simpa using ⟨hb, hg⟩, fun W2 h => ?_, .inr ⟨g, cur, rfl, rfl, by omega⟩⟩
    have hg2 := h _ List.mem_cons_self
    refine .inr ⟨g, 0, rfl, fun k hk => ?_⟩
    rw [cell_of_row W2 g _ _ _ _ hg2]
    have : cur[0 + k]? = (cur.toList.take (R.length * 1))[k]? := by rw [List.getElem?_take_of_lt (by omega)]; simp
    rw [this, h4]
    simp [hk]
theorem Ints.lt {w : World} {a : Addr} {R : List Int} (h : Ints w (some a) R) (h0 : 0 < R.length) : a.block < w.heap.size := by
  obtain ⟨b, off, e, hc⟩ := h.get h0
  simp only [Option.some.injEq] at e
  subst e
  unfold World.cell? at hc
  split at hc
  · rename_i hb; exact (Array.getElem?_eq_some_iff.1 hb).1
  · cases hc
end Go.Proofs.Ytjnaenmknbcjmaa
