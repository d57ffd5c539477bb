/- A statement's bag, two lists of notes beside it, and its variables: what each method leaves of all that. -/
import Derived.Test.YtkfekkemfahepaaBagH
namespace Go.Proofs.Ytkfekkemfahepaa
open Go.RowKit

/-- where all lies: the bag at b (its rows v), the lists p and t, apart from each other and from the variables G -/
structure Lies (W : World) (b : Nat) (N : List Note) (s l : Int) (p : Value) (P : List Note) (t : Value) (T : List Note) (G : List (Nat × Obj)) (B : Nat) (v : Value) (zs ps ts : List (EnvC × Note)) : Prop where
  n : zs.map (·.2) = N
  pn : ps.map (·.2) = P
  tn : ts.map (·.2) = T
  bag : BagAt W B b v zs s l
  put : NotesAt W B p ps
  took : NotesAt W B t ts
  sz : B ≤ W.heap.size
  a1 : ∀ k, v.ownBlock = some k → p.ownBlock ≠ some k ∧ t.ownBlock ≠ some k
  a2 : ∀ k, p.ownBlock = some k → t.ownBlock ≠ some k
  a3 : ∀ q ∈ G, q.1 ≠ b ∧ v.ownBlock ≠ some q.1 ∧ p.ownBlock ≠ some q.1 ∧ t.ownBlock ≠ some q.1

structure LB (w W : World) (b : Nat) (N : List Note) (s l : Int) (p : Value) (P : List Note) (t : Value) (T : List Note) (G : List (Nat × Obj)) (Y : List (EnvC × Note)) : Prop where
  ex : ∃ B v zs ps ts, Lies W b N s l p P t T G B v zs ps ts
  k : Kept w W
  lo : w.heap.size ≤ b
  g : ∀ q ∈ G, W.heap[q.1]? = some q.2
  y : ∀ z ∈ Y, Fresh 0 W z.1 z.2

theorem map_erase {α β : Type} {f : α → β} : ∀ (l : List α) (i : Nat), (l.eraseIdx i).map f = (l.map f).eraseIdx i
  | [], i => rfl
  | x :: l, 0 => rfl
  | x :: l, i + 1 => by simp [map_erase l i]
section
variable {w W W' : World} {b : Nat} {N N' : List Note} {s l s' l' : Int} {p t : Value} {P T : List Note} {G : List (Nat × Obj)} {Y : List (EnvC × Note)} {B : Nat} {v v' : Value} {zs zs' ps ts : List (EnvC × Note)}
/-- a call on the bag -/
theorem LB.to (h : LB w W b N s l p P t T G Y) (hl : Lies W b N s l p P t T G B v zs ps ts) (hto : BagTo W W' B b v v' zs' s' l') (hN : zs'.map (·.2) = N') : LB w W' b N' s' l' p P t T G Y := by
  have hlo := h.lo
  have hb := hl.bag.lt
  have hk : ∀ k, k < w.heap.size → ¬ (k = b ∨ v.ownBlock = some k) := fun k hk e => e.elim (by omega) fun e => by have := (hl.bag.notes.rows.lt e).1; omega
  have hu := hto.upd
  have hp : ∀ k, p.ownBlock = some k → ¬ (k = b ∨ v.ownBlock = some k) := fun k hk e => e.elim (fun e => by have := (hl.put.rows.lt hk).1; omega) fun e => (hl.a1 k e).1 hk
  have ht : ∀ k, t.ownBlock = some k → ¬ (k = b ∨ v.ownBlock = some k) := fun k hk e => e.elim (fun e => by have := (hl.took.rows.lt hk).1; omega) fun e => (hl.a1 k e).2 hk
  refine ⟨⟨B, v', zs', ps, ts, hN, hl.pn, hl.tn, hto.bag, hl.put.upd hu hp hl.bag.not8, hl.took.upd hu ht hl.bag.not8, Nat.le_trans hl.sz hu.size, fun k hk' => ⟨fun e => ?_, fun e => ?_⟩, hl.a2, fun q hq => ?_⟩, h.k.then hu (fun i hi e => absurd e (hk i hi)), hlo, fun q hq => ?_, fun z hz => (h.y z hz).upd hu hl.bag.not8⟩
  · exact (hl.a1 k (hto.new k (hl.put.rows.lt e).2.1 hk')).1 e
  · exact (hl.a1 k (hto.new k (hl.took.rows.lt e).2.1 hk')).2 e
  · obtain ⟨q1, q2, q3, q4⟩ := hl.a3 q hq
    exact ⟨q1, fun e => q2 (hto.new _ (Array.getElem?_eq_some_iff.1 (h.g q hq)).1 e), q3, q4⟩
  · obtain ⟨q1, q2, _, _⟩ := hl.a3 q hq
    exact hu.heap (h.g q hq) fun e => e.elim q1 q2
theorem LB.kept (h : LB w W b N s l p P t T G Y) (hu : Kept W W') : LB w W' b N s l p P t T G Y := by
  obtain ⟨B, v, zs, ps, ts, hl⟩ := h.ex
  exact h.to hl ((BagTo.refl hl.bag).kept hu) hl.n
theorem LB.drew (h : LB w W b N s l p P t T G Y) : LB w W.drew b N s l p P t T G Y := h.kept (Upd.refl _ _).drew
theorem LB.alloc (h : LB w W b N s l p P t T G Y) (o : Obj) : LB w (W.alloc o) b N s l p P t T ((W.heap.size, o) :: G) Y := by
  obtain ⟨B, v, zs, ps, ts, hl⟩ := h.ex
  have h' := h.kept ((Upd.refl _ W).alloc o)
  have hk : Kept W (W.alloc o) := (Upd.refl _ W).alloc o
  refine ⟨⟨B, v, zs, ps, ts, hl.n, hl.pn, hl.tn, hl.bag.kept hk, hl.put.kept hk, hl.took.kept hk, Nat.le_trans hl.sz hk.size, hl.a1, hl.a2, fun q hq => ?_⟩, h'.k, h'.lo, fun q hq => ?_, h'.y⟩
  · rcases List.mem_cons.1 hq with rfl | hq
    · exact ⟨by have := hl.bag.size; dsimp only; omega, hl.bag.notes.rows.far (.inr (Nat.le_refl _)), hl.put.rows.far (.inr (Nat.le_refl _)), hl.took.rows.far (.inr (Nat.le_refl _))⟩
    · exact hl.a3 q hq
  · rcases List.mem_cons.1 hq with rfl | hq
    · exact heap_alloc_new W o
    · exact h'.g q hq
theorem LB.less (h : LB w W b N s l p P t T G Y) {G' : List (Nat × Obj)} {Y' : List (EnvC × Note)} (hG : ∀ q ∈ G', q ∈ G) (hY : ∀ z ∈ Y', z ∈ Y) : LB w W b N s l p P t T G' Y' := by
  obtain ⟨B, v, zs, ps, ts, hl⟩ := h.ex
  exact ⟨⟨B, v, zs, ps, ts, hl.n, hl.pn, hl.tn, hl.bag, hl.put, hl.took, hl.sz, hl.a1, hl.a2, fun q hq => hl.a3 q (hG q hq)⟩, h.k, h.lo, fun q hq => h.g q (hG q hq), fun z hz => h.y z (hY z hz)⟩
theorem LB.addY (h : LB w W b N s l p P t T G Y) {y : EnvC} {m : Note} {K : Nat} (hf : Fresh K W y m) : LB w W b N s l p P t T G ((y, m) :: Y) := by
  refine ⟨h.ex, h.k, h.lo, h.g, fun z hz => ?_⟩
  rcases List.mem_cons.1 hz with rfl | hz
  · exact hf.mono (Nat.zero_le _)
  · exact h.y z hz
/-- a variable -/
theorem LB.var (h : LB w W b N s l p P t T G Y) {g : Nat} {x : EnvC} (hq : (g, .cells (envA x) 29) ∈ G) : EnvAt W g x := h.g _ hq

theorem LB.Len (h : LB w W b N s l p P t T G Y) : Calls Try.prog 28 #[.pointer (some ⟨b, 0, none⟩)] W fun e w' => e = .returned (.int .i64 N.length) ∧ W = w' := by
  obtain ⟨B, v, zs, ps, ts, hl⟩ := h.ex
  rw [← hl.n, List.length_map]
  exact bag_Len hl.bag
theorem LB.Sent (h : LB w W b N s l p P t T G Y) : Calls Try.prog 30 #[.pointer (some ⟨b, 0, none⟩)] W fun e w' => e = .returned (.int .i64 s) ∧ W = w' := by
  obtain ⟨B, v, zs, ps, ts, hl⟩ := h.ex
  exact bag_Sent hl.bag
theorem LB.Lost (h : LB w W b N s l p P t T G Y) : Calls Try.prog 32 #[.pointer (some ⟨b, 0, none⟩)] W fun e w' => e = .returned (.int .i64 l) ∧ W = w' := by
  obtain ⟨B, v, zs, ps, ts, hl⟩ := h.ex
  exact bag_Lost hl.bag
theorem LB.Next (h : LB w W b N s l p P t T G Y) (hN : N.length ≤ 4096) (set : Int) : Calls Try.prog 26 #[.pointer (some ⟨b, 0, none⟩), .int .i64 set] W fun e w' => e = .returned (.int .i64 (nextM N set)) ∧ LB w w' b N s l p P t T G Y := by
  obtain ⟨B, v, zs, ps, ts, hl⟩ := h.ex
  refine (bag_Next hl.bag (by rw [← hl.n, List.length_map] at hN; exact hN) set).mono ?_
  rintro e w' ⟨rfl, hu⟩
  rw [hl.n]
  exact ⟨rfl, h.kept hu⟩
theorem LB.Put (h : LB w W b N s l p P t T G Y) (hs0 : 0 ≤ s) (hs1 : s < 4611686018427387904) {x : EnvC} {m : Note} (hx : NoteAt W x m) (h1 : namedB m.1 = true) (h2 : namedB m.2.1 = true) (h3 : m.2.2.length ≤ 65536) (h4 : N.length < 4096) :
    Calls Try.prog 13 #[.pointer (some ⟨b, 0, none⟩), .agg (envA x)] W fun e w' => e = .returned (.int .i64 0) ∧ LB w w' b (N ++ [m]) (s + 1) l p P t T G Y := by
  obtain ⟨B, v, zs, ps, ts, hl⟩ := h.ex
  refine (bag_Put_ok hl.bag hs0 hs1 hl.sz hx h1 h2 h3 (by rw [← hl.n, List.length_map] at h4; exact h4)).mono ?_
  rintro e w' ⟨rfl, v', y, hto⟩
  exact ⟨rfl, h.to hl hto (by rw [List.map_append, hl.n]; rfl)⟩
theorem LB.Put_no (h : LB w W b N s l p P t T G Y) {x : EnvC} {m : Note} (hx : NoteAt W x m) (hno : (namedB m.1 && namedB m.2.1) = false) :
    Calls Try.prog 13 #[.pointer (some ⟨b, 0, none⟩), .agg (envA x)] W fun e w' => e = .returned (.int .i64 2) ∧ LB w w' b N s l p P t T G Y := by
  obtain ⟨B, v, zs, ps, ts, hl⟩ := h.ex
  refine (bag_Put_no hl.bag hx hno).mono ?_
  rintro e w' ⟨rfl, hu⟩
  exact ⟨rfl, h.kept hu⟩
theorem LB.Put_long (h : LB w W b N s l p P t T G Y) {x : EnvC} {m : Note} (hx : NoteAt W x m) (h1 : namedB m.1 = true) (h2 : namedB m.2.1 = true) (h3 : 65536 < m.2.2.length ∨ 4096 ≤ N.length) :
    Calls Try.prog 13 #[.pointer (some ⟨b, 0, none⟩), .agg (envA x)] W fun e w' => e = .returned (.int .i64 (if 65536 < m.2.2.length then 5 else 7)) ∧ LB w w' b N s l p P t T G Y := by
  obtain ⟨B, v, zs, ps, ts, hl⟩ := h.ex
  refine (bag_Put_long hl.bag hx h1 h2 (by rw [← hl.n, List.length_map] at h3; exact h3)).mono ?_
  rintro e w' ⟨rfl, hu⟩
  exact ⟨rfl, h.kept hu⟩
theorem LB.Look (h : LB w W b N s l p P t T G Y) (i : Nat) (hi : i < N.length) :
    Calls Try.prog 18 #[.pointer (some ⟨b, 0, none⟩), .int .i64 i] W fun e w' => ∃ y, e = .returned (.tuple #[.agg (envA y), .int .i64 0]) ∧ LB w w' b N s l p P t T G ((y, N[i]) :: Y) := by
  obtain ⟨B, v, zs, ps, ts, hl⟩ := h.ex
  have hN := hl.n
  subst hN
  refine (bag_Look_ok hl.bag i (by simpa using hi)).mono ?_
  rintro e w' ⟨y, rfl, hf, hu⟩
  exact ⟨y, rfl, (h.kept hu).addY (by simpa using hf)⟩
theorem LB.Look_no (h : LB w W b N s l p P t T G Y) (i : Int) (hi : i < 0 ∨ N.length ≤ i) :
    Calls Try.prog 18 #[.pointer (some ⟨b, 0, none⟩), .int .i64 i] W fun e w' => e = .returned (.tuple #[.agg (envA envZ), .int .i64 9]) ∧ LB w w' b N s l p P t T G Y := by
  obtain ⟨B, v, zs, ps, ts, hl⟩ := h.ex
  refine (bag_Look_no hl.bag i (by rw [← hl.n, List.length_map] at hi; exact hi)).mono ?_
  rintro e w' ⟨rfl, hu⟩
  exact ⟨rfl, h.kept hu⟩
theorem LB.Take (h : LB w W b N s l p P t T G Y) (hN : N.length ≤ 4096) (i : Nat) (hi : i < N.length) :
    Calls Try.prog 20 #[.pointer (some ⟨b, 0, none⟩), .int .i64 i] W fun e w' => ∃ y, e = .returned (.tuple #[.agg (envA y), .int .i64 0]) ∧ LB w w' b (N.eraseIdx i) s l p P t T G ((y, N[i]) :: Y) := by
  obtain ⟨B, v, zs, ps, ts, hl⟩ := h.ex
  have hN' := hl.n
  subst hN'
  refine (bag_Take_ok hl.bag hl.sz (by simpa using hN) i (by simpa using hi)).mono ?_
  rintro e w' ⟨y, v', rfl, hf, hto⟩
  exact ⟨y, rfl, (h.to hl hto (map_erase _ _)).addY (by simpa using hf)⟩
theorem LB.Take_no (h : LB w W b N s l p P t T G Y) (i : Int) (hi : i < 0 ∨ N.length ≤ i) :
    Calls Try.prog 20 #[.pointer (some ⟨b, 0, none⟩), .int .i64 i] W fun e w' => e = .returned (.tuple #[.agg (envA envZ), .int .i64 9]) ∧ LB w w' b N s l p P t T G Y := by
  obtain ⟨B, v, zs, ps, ts, hl⟩ := h.ex
  refine (bag_Take_no hl.bag i (by rw [← hl.n, List.length_map] at hi; exact hi)).mono ?_
  rintro e w' ⟨rfl, hu⟩
  exact ⟨rfl, h.kept hu⟩
theorem LB.Drop (h : LB w W b N s l p P t T G Y) (hN : N.length ≤ 4096) (h0 : 0 ≤ l) (h1 : l < 4611686018427387904) (i : Nat) (hi : i < N.length) :
    Calls Try.prog 22 #[.pointer (some ⟨b, 0, none⟩), .int .i64 i] W fun e w' => e = .returned (.int .i64 0) ∧ LB w w' b (N.eraseIdx i) s (l + 1) p P t T G Y := by
  obtain ⟨B, v, zs, ps, ts, hl⟩ := h.ex
  have hN' := hl.n
  subst hN'
  refine (bag_Drop_ok hl.bag hl.sz (by simpa using hN) h0 h1 i (by simpa using hi)).mono ?_
  rintro e w' ⟨rfl, v', hto⟩
  exact ⟨rfl, h.to hl hto (map_erase _ _)⟩
theorem LB.Drop_no (h : LB w W b N s l p P t T G Y) (i : Int) (hi : i < 0 ∨ N.length ≤ i) :
    Calls Try.prog 22 #[.pointer (some ⟨b, 0, none⟩), .int .i64 i] W fun e w' => e = .returned (.int .i64 9) ∧ LB w w' b N s l p P t T G Y := by
  obtain ⟨B, v, zs, ps, ts, hl⟩ := h.ex
  refine (bag_Drop_no hl.bag i (by rw [← hl.n, List.length_map] at hi; exact hi)).mono ?_
  rintro e w' ⟨rfl, hu⟩
  exact ⟨rfl, h.kept hu⟩
theorem LB.Double (h : LB w W b N s l p P t T G Y) (hs0 : 0 ≤ s) (hs1 : s < 4611686018427387904) (hN : N.length < 4096) (i : Nat) (hi : i < N.length) :
    Calls Try.prog 24 #[.pointer (some ⟨b, 0, none⟩), .int .i64 i] W fun e w' => e = .returned (.int .i64 0) ∧ LB w w' b (N ++ [N[i]]) (s + 1) l p P t T G Y := by
  obtain ⟨B, v, zs, ps, ts, hl⟩ := h.ex
  have hN' := hl.n
  subst hN'
  refine (bag_Double_ok hl.bag hs0 hs1 hl.sz (by simpa using hN) i (by simpa using hi)).mono ?_
  rintro e w' ⟨rfl, v', y, hto⟩
  exact ⟨rfl, h.to hl hto (by simp)⟩
theorem LB.Double_no (h : LB w W b N s l p P t T G Y) (i : Int) (hi : i < 0 ∨ N.length ≤ i) :
    Calls Try.prog 24 #[.pointer (some ⟨b, 0, none⟩), .int .i64 i] W fun e w' => e = .returned (.int .i64 9) ∧ LB w w' b N s l p P t T G Y := by
  obtain ⟨B, v, zs, ps, ts, hl⟩ := h.ex
  refine (bag_Double_no hl.bag i (by rw [← hl.n, List.length_map] at hi; exact hi)).mono ?_
  rintro e w' ⟨rfl, hu⟩
  exact ⟨rfl, h.kept hu⟩
theorem LB.Double_full (h : LB w W b N s l p P t T G Y) (hN : 4096 ≤ N.length) (i : Nat) (hi : i < N.length) :
    Calls Try.prog 24 #[.pointer (some ⟨b, 0, none⟩), .int .i64 i] W fun e w' => e = .returned (.int .i64 7) ∧ LB w w' b N s l p P t T G Y := by
  obtain ⟨B, v, zs, ps, ts, hl⟩ := h.ex
  refine (bag_Double_full hl.bag (by rw [← hl.n, List.length_map] at hN; exact hN) i (by rw [← hl.n, List.length_map] at hi; exact hi)).mono ?_
  rintro e w' ⟨rfl, hu⟩
  exact ⟨rfl, h.kept hu⟩
/-- a new bag -/
theorem LB.New (w W : World) (hk : Kept w W) : Calls Try.prog 11 #[] W fun e w' => ∃ b, e = .returned (.pointer (some ⟨b, 0, none⟩)) ∧ LB w w' b [] 0 0 (.slice none 0 0) [] (.slice none 0 0) [] [] [] := by
  refine (bag_New W).mono ?_
  rintro e w' ⟨rfl, rfl⟩
  refine ⟨_, rfl, ⟨W.heap.size + 1, .slice none 0 0, [], [], [], rfl, rfl, rfl, ⟨heap_alloc_new W _, ⟨.nil _ _ _, by simp⟩, by omega, by simp⟩, ⟨.nil _ _ _, by simp⟩, ⟨.nil _ _ _, by simp⟩, by rw [World.size_alloc]; omega, fun k hk => (by cases hk), fun k hk => (by cases hk), by simp⟩, hk.alloc _, hk.size, by simp, by simp⟩
end
end Go.Proofs.Ytkfekkemfahepaa
