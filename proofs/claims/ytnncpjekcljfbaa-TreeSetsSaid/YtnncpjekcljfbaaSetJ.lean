/- The texts of this hand-in, merged: RefO RefP RefQ RefR RefS RefT. -/
import Derived.Test.YtnncpjekcljfbaaSetI
/- The document's tree in memory: New, Set, what it tells. -/
namespace Go.Proofs.Ytnncpjekcljfbaa
open Go.RowKit

attribute [local irreducible] wpOrd
theorem made_bss (n : Nat) : (madeCells (slA ⟨none, 0, 0⟩) (n * 1)).toList = rowsOf slA (List.replicate n (⟨none, 0, 0⟩ : SlC)) := by
  have h1 : ∀ n, rowsOf slA (List.replicate n (⟨none, 0, 0⟩ : SlC)) = List.replicate n (.slice none 0 0) := by
    intro n
    induction n with
    | zero => rfl
    | succ n ih => rw [List.replicate_succ, rowsOf_cons, ih, List.replicate_succ]; rfl
  rw [h1]
  apply List.ext_getElem
  · simp [madeCells]
  · intro i h2 h3
    simp only [madeCells, Array.getElem_toList, Array.getElem_map, List.getElem_replicate, slA_size, Nat.mod_one]
    rfl
@[go_sem ↓] theorem exec_make_bss (ρ : Operand → Value) (dst : Option Tmp) (l c : Operand) (ty : TypeId) (pos : String) (after : Array Edge) (guard : Option (Nat × Bool)) :
    execOp ρ ⟨dst, .makeSlice 52 l c, ty, pos, after, guard⟩ = makeRow 52 (ρ l) (ρ c) := rfl
set_option maxRecDepth 20000 in
theorem run_make_bss (n : Nat) (hn : n ≤ 100000) (W : World) : ∃ W', (makeRow 52 (.int .i64 n) (.int .i64 n)).run Try.prog W = .ok (.value (.slice (some ⟨W.heap.size, 0, none⟩) n n)) W' ∧ OwnS W' W.heap.size (.slice (some ⟨W.heap.size, 0, none⟩) n n) (List.replicate n ⟨none, 0, 0⟩) ∧ Kept W W' := by
  obtain ⟨i, hi, h2⟩ := Option.map_eq_some_iff.1 bs_info
  simp only [Prod.mk.injEq] at h2
  have h := run_make (P := Try.prog) W 52 35 i (.slice none 0 0) Try.underlying52 hi h2.2.2 .i64 .i64 (n : Int) (n : Int) (by omega) (by omega) (by rw [h2.2.1]; omega) (by omega)
  rw [h2.1, Int.toNat_natCast] at h
  change _ = Result.ok _ (W.alloc (.cells (madeCells (slA ⟨none, 0, 0⟩) (n * 1)) 35)) at h
  refine ⟨W.alloc (.cells (madeCells (slA ⟨none, 0, 0⟩) (n * 1)) 35), by simp only [makeRow, Sem.run_bind, h, Result.andThen_ok, Sem.run_pure], ?_, (Upd.refl _ W).alloc _⟩
  have e := made_bss n
  have el : (List.replicate n (⟨none, 0, 0⟩ : SlC)).length = n := List.length_replicate
  have e1 : (rowsOf slA (List.replicate n (⟨none, 0, 0⟩ : SlC))).length = n * 1 := by rw [rowsOf_length slA_size, el]
  refine ⟨by rw [e1, el], .inr ⟨W.heap.size, n, madeCells (slA ⟨none, 0, 0⟩) (n * 1), by rw [el], Nat.le_refl _, heap_alloc_new W _, by rw [el]; exact Nat.le_refl _, by unfold maxLen; omega, by rw [← Array.length_toList, e, e1], ?_⟩⟩
  rw [el, List.take_of_length_le (by rw [e, e1]; exact Nat.le_refl _), e]

/-- the document's tree: its cell u, its book c, its leaves' row gl -/
structure RTree (W : World) (B u c : Nat) (v : Value) (n0 : Int) (xs : List SlC) (M : List Bytes) (gl n : Nat) (li : List (SlC × Bytes)) : Prop where
  book : RefBook W B c v n0 xs M
  blk : W.heap[u]? = some (.cells #[.pointer (some ⟨c, 0, none⟩), .slice (some ⟨gl, 0, none⟩) n n] 143 (0, 0))
  own : OwnLv W B (.slice (some ⟨gl, 0, none⟩) n n) li
  len : li.length = n
  n1 : 1 ≤ n
  n2 : n ≤ 1024
  sm : ∀ p ∈ li, p.2.length < 65536
  ap : v.ownBlock ≠ some gl
  hB : B ≤ W.heap.size
  nl : ∀ x ∈ leafI li, x ∈ M
  ni : ∀ x ∈ insM shaM (leafD li), x ∈ M
section
variable {w W W' : World} {B u c : Nat} {v v' : Value} {n0 n0' : Int} {xs xs' : List SlC} {M M' : List Bytes} {gl n : Nat} {li : List (SlC × Bytes)} {S : Nat → Prop}
theorem RTree.c0 (h : RTree W B u c v n0 xs M gl n li) : W.cell? ⟨u, 0, none⟩ = some (.pointer (some ⟨c, 0, none⟩)) := by rw [cell_of_row W u 0 _ _ _ h.blk]; rfl
theorem RTree.c1 (h : RTree W B u c v n0 xs M gl n li) : W.cell? ⟨u, 1, none⟩ = some (.slice (some ⟨gl, 0, none⟩) n n) := by rw [cell_of_row W u 1 _ _ _ h.blk]; rfl
theorem RTree.upd (h : RTree W B u c v n0 xs M gl n li) (hu : Upd S W W') (hs : ∀ k, (B ≤ k ∨ k = u ∨ k = c) → (∃ cs t fr, W.heap[k]? = some (.cells cs t fr) ∧ t ≠ 125) → ¬ S k) : RTree W' B u c v n0 xs M gl n li := by
  obtain ⟨h1, h2, h3, h4, h5, h6, h7, h8, h9, h10, h11⟩ := h
  refine ⟨⟨hu.heap h1.blk (hs c (.inr (.inr rfl)) ⟨_, _, _, h1.blk, by decide⟩), OwnRows.upd h1.row hu (fun k e => ?_), h1.len, fun i hi hi' => (h1.each i hi hi').upd hu (fun k e => ?_), h1.sz⟩, hu.heap h2 (hs u (.inr (.inl rfl)) ⟨_, _, _, h2, by decide⟩), ⟨OwnRows.upd h3.1 hu (fun k e => ?_), fun p hp => ⟨(h3.2 p hp).1.upd hu (fun k e => ?_), (h3.2 p hp).2⟩⟩, h4, h5, h6, h7, h8, Nat.le_trans h9 hu.size, h10, h11⟩
  · obtain ⟨cur, hc⟩ := own_cells h1.row e
    exact hs k (.inl (World.ownsRow.lt h1.row k e).1) ⟨_, _, _, hc, by decide⟩
  · obtain ⟨cur, hc⟩ := (h1.each i hi hi').block e
    exact hs k (.inl ((h1.each i hi hi').far k e).1) ⟨_, _, _, hc, by decide⟩
  · obtain ⟨cur, hc⟩ := own_cells h3.1 e
    exact hs k (.inl (World.ownsRow.lt h3.1 k e).1) ⟨_, _, _, hc, by decide⟩
  · obtain ⟨cur, hc⟩ := (h3.2 p hp).1.block e
    exact hs k (.inl ((h3.2 p hp).1.far k e).1) ⟨_, _, _, hc, by decide⟩
theorem RTree.kept (h : RTree W B u c v n0 xs M gl n li) (hu : Kept W W') : RTree W' B u c v n0 xs M gl n li := h.upd hu fun _ _ _ => id
theorem RTree.ink (h : RTree W B u c v n0 xs M gl n li) {b r q : Nat} {L : List Bytes} (hb : BookL W b r q L) (hu : Upd (Book3 b r q) W W') : RTree W' B u c v n0 xs M gl n li := h.upd hu fun _ _ ⟨_, _, _, hc, ht⟩ => hb.not hc ht
theorem RTree.lv (h : RTree W B u c v n0 xs M gl n li) (ht : RTo c v W v' W') : OwnLv W' B (.slice (some ⟨gl, 0, none⟩) n n) li := by
  refine ⟨OwnRows.upd h.own.1 ht.1 (fun k e e2 => ?_), fun p hp => ⟨(h.own.2 p hp).1.upd ht.1 (fun k e => ?_), (h.own.2 p hp).2⟩⟩
  · have e3 : gl = k := Option.some.inj e
    subst e3
    obtain ⟨cur, hc⟩ := own_cells h.own.1 e
    rcases e2 with e2 | e2
    · rw [e2, h.book.blk] at hc
      simp only [Option.some.injEq, Obj.cells.injEq] at hc
      exact absurd hc.2.1 (by decide)
    · exact h.ap e2
  · obtain ⟨cur, hc⟩ := (h.own.2 p hp).1.block e
    exact h.book.far hc (by decide) (by decide)
theorem RTree.ref (h : RTree W B u c v n0 xs M gl n li) (hb : RefBook W' B c v' n0' xs' M') (ht : RTo c v W v' W') (hM : ∀ x ∈ M, x ∈ M') : RTree W' B u c v' n0' xs' M' gl n li := by
  refine ⟨hb, ht.1.heap h.blk (h.book.far h.blk (by decide) (by decide)), h.lv ht, h.len, h.n1, h.n2, h.sm, fun e => ?_, Nat.le_trans h.hB ht.1.size, fun x hx => hM x (h.nl x hx), fun x hx => hM x (h.ni x hx)⟩
  rcases ht.2.1 with e2 | ⟨k, e2, hk⟩
  · rw [e2] at e; exact h.ap e
  · rw [e2] at e
    have := Option.some.inj e
    have := (World.ownsRow.lt h.own.1 gl rfl).2
    omega
theorem RTree.leaves (h : RTree W B u c v n0 xs M gl n li) (ht : RTo c v W v' W') : LeavesAt W' (some ⟨gl, 0, none⟩) li := (h.lv ht).leaves
theorem rt_Levels (h : RTree W B u c v n0 xs M gl n li) (hcnt : M.length ≤ 90000) :
    Calls Try.prog 81 #[.pointer (some ⟨c, 0, none⟩), .slice (some ⟨gl, 0, none⟩) n n] W fun e W' => ∃ vo, e = .returned vo ∧ OwnP W' W.heap.size vo (levelsM shaM (leafD li)) ∧ ∃ v' n' xs', RTree W' B u c v' n' xs' M gl n li ∧ RTo c v W v' W' := by
  have := ref_Levels h.book h.hB hcnt (A := some ⟨gl, 0, none⟩) (l := li) n (fun W' v' ht => h.leaves ht) h.sm (by rw [h.len]; exact h.n1) (by rw [h.len]; exact h.n2)
  rw [h.len] at this
  refine this.mono fun e W' ⟨vo, he, ho, v', n', xs', hb, ht⟩ => ⟨vo, he, ho, v', n', xs', ?_, ht⟩
  rw [notesM_mem h.nl, notesM_mem h.ni] at hb
  exact h.ref hb ht fun _ hx => hx
end
theorem own_baseP {W : World} {B B' : Nat} {v : Value} {P : List (List Dig)} (h : OwnP W B' v P) (hb : B ≤ B') : OwnP W B v P := h.base hb
/-- the rows of a list of lists -/
theorem OwnP.cells {W : World} {B : Nat} {v : Value} {P : List (List Dig)} (h : OwnP W B v P) : ∃ A k, v = .slice A P.length k ∧ P.length ≤ k ∧ ∀ i (hi : i < P.length), ∃ g o A2 k2, A = some ⟨g, o, none⟩ ∧ W.cell? ⟨g, o + i, none⟩ = some (.slice A2 P[i].length k2) ∧ P[i].length ≤ k2 ∧ OwnD W B (.slice A2 P[i].length k2) P[i] := by
  obtain ⟨xs, h1, h2, h3⟩ := h
  have hf : ∃ A c, v = .slice A P.length c ∧ P.length ≤ c := by
    rcases h1.2 with ⟨rfl, h0⟩ | ⟨g, cap, cur, rfl, hb, hg, e1, e2, e3, e4⟩
    · exact ⟨_, _, by rw [← h2, h0], by omega⟩
    · exact ⟨_, _, by rw [h2], by omega⟩
  obtain ⟨A, c, rfl, hcl⟩ := hf
  refine ⟨A, c, rfl, hcl, fun i hi => ?_⟩
  have hix : i < xs.length := by omega
  obtain ⟨g, c2, hv, hg1, hg2, _⟩ := OwnRows.get slA_size h1 hix
  simp only [Value.slice.injEq] at hv
  obtain ⟨rfl, -, -⟩ := hv
  have hcell := World.ownsRow.cells h1 (g := g) rfl i xs[i].v (by
    have := rowsOf_get slA_size xs i 0 hix (by omega)
    rw [Nat.mul_one, Nat.add_zero] at this
    rw [this]; rfl)
  have hd := h3 i hix hi
  obtain ⟨A2, k2, hx, hle, -⟩ := OwnD.digs hd
  rw [hx] at hcell hd
  rw [add_none, Nat.zero_add] at hcell
  exact ⟨g, 0, A2, k2, rfl, by rw [Nat.zero_add]; exact hcell, hle, hd⟩

set_option maxHeartbeats 800000 in
set_option maxRecDepth 20000 in
theorem ref_TNew {w : World} {B c : Nat} {v : Value} {n0 : Int} {xs : List SlC} {M : List Bytes} (h : RefBook w B c v n0 xs M) (hB : B ≤ w.heap.size) (hM : M.length ≤ 80000) (n : Nat) (h1 : 1 ≤ n) (hn : n ≤ 1024) :
    Calls Try.prog 23 #[.pointer (some ⟨c, 0, none⟩), .int .i64 n] w fun e W => ∃ u, e = .returned (.tuple #[.pointer (some ⟨u, 0, none⟩), .int .i64 0]) ∧ w.heap.size ≤ u ∧ ∃ v' n' xs' gl li, RTree W B u c v' n' xs' (notesM (notesM M (List.replicate n (leafIn []))) (insM shaM (List.replicate n (leafM shaM [])))) gl n li ∧ li.map (·.2) = List.replicate n [] ∧ RTo c v w v' W := by
  obtain ⟨w1, hmk, hrow, hk1⟩ := run_make_bss n (by omega) w
  have hk2 : Kept w1 (w1.alloc (.cells #[.pointer (some ⟨c, 0, none⟩), .slice (some ⟨w.heap.size, 0, none⟩) n n] 143)) := (Upd.refl _ w1).alloc _
  have hg2 := heap_alloc_new w1 (.cells #[.pointer (some ⟨c, 0, none⟩), .slice (some ⟨w.heap.size, 0, none⟩) n n] 143)
  obtain ⟨li, hli⟩ : ∃ li, li = List.replicate n ((⟨none, 0, 0⟩ : SlC), ([] : Bytes)) := ⟨_, rfl⟩
  have hl1 : li.map (·.1) = List.replicate n ⟨none, 0, 0⟩ := by rw [hli, List.map_replicate]
  have hl2 : li.map (·.2) = List.replicate n [] := by rw [hli, List.map_replicate]
  have hD : leafD li = List.replicate n (leafM shaM []) := by rw [leafD_map, hl2, List.map_replicate]
  have hI : leafI li = List.replicate n (leafIn []) := by rw [leafI_map, hl2, List.map_replicate]
  have hlen : li.length = n := by rw [hli, List.length_replicate]
  have hmem : ∀ p ∈ li, p = ((⟨none, 0, 0⟩ : SlC), ([] : Bytes)) := fun p hp => by rw [hli] at hp; exact (List.mem_replicate.1 hp).2
  have hown : OwnLv (w1.alloc (.cells #[.pointer (some ⟨c, 0, none⟩), .slice (some ⟨w.heap.size, 0, none⟩) n n] 143)) B (.slice (some ⟨w.heap.size, 0, none⟩) n n) li := by
    refine ⟨own_base (OwnRows.upd (by rw [hl1]; exact hrow) hk2 (fun _ _ h => h)) hB, fun p hp => ?_⟩
    rw [hmem p hp]
    exact ⟨OwnRows.nil (f := fun _ : UInt8 => #[]) _ _ _, by simp⟩
  have hbk := (h.kept hk1).kept hk2
  obtain ⟨u, hu⟩ : ∃ u, u = w1.heap.size := ⟨_, rfl⟩
  have hul : w.heap.size ≤ u := by rw [hu]; exact hk1.size
  have hk12 : Kept w (w1.alloc (.cells #[.pointer (some ⟨c, 0, none⟩), .slice (some ⟨w.heap.size, 0, none⟩) n n] 143)) := hk1.then hk2 (fun _ _ h => h)
  have hap : v.ownBlock ≠ some w.heap.size := fun e => by have := (World.ownsRow.lt h.row _ e).2; omega
  rw [← hu] at hg2
  generalize hW2 : w1.alloc (.cells #[.pointer (some ⟨c, 0, none⟩), .slice (some ⟨w.heap.size, 0, none⟩) n n] 143) = w2 at *
  have c1 : w2.cell? ⟨u, 1, none⟩ = some (.slice (some ⟨w.heap.size, 0, none⟩) n n) := by rw [cell_of_row w2 u 1 _ _ _ hg2]; rfl
  have d1 : decide ((n : Int) < 1) = false := decide_eq_false (by omega)
  have d1n : decide (n < 1) = false := decide_eq_false (by omega)
  have d2 : decide ((1024 : Int) < (n : Int)) = false := decide_eq_false (by omega)
  have d2n : decide (1024 < n) = false := decide_eq_false (by omega)
  have hlv : ∀ W v', RTo c v w2 v' W → OwnLv W B (.slice (some ⟨w.heap.size, 0, none⟩) n n) li := fun W v' ht => by
    refine ⟨OwnRows.upd hown.1 ht.1 (fun k e e2 => ?_), fun p hp => by rw [hmem p hp]; exact ⟨OwnRows.nil (f := fun _ : UInt8 => #[]) _ _ _, by simp⟩⟩
    have e3 : w.heap.size = k := Option.some.inj e
    subst e3
    rcases e2 with e2 | e2
    · have := h.lt; omega
    · exact hap e2
  have HG := ref_Levels hbk (Nat.le_trans hB hk12.size) (by omega) (A := some ⟨w.heap.size, 0, none⟩) (l := li) n (fun W v' ht => (hlv W v' ht).leaves) (fun p hp => by rw [hmem p hp]; simp) (by omega) (by omega)
  rw [hlen, hD, hI] at HG
  have HX := Lib.hid (And.intro hbk (And.intro hg2 (And.intro hlv (And.intro hlen (And.intro h1 (And.intro hn (And.intro hap (And.intro hk12 (And.intro hmem (And.intro hD (And.intro hI (And.intro hl2 (And.intro hul (Nat.le_trans hB hk12.size))))))))))))))
  clear h hB hM h1 hn hrow hk1 hk2 hg2 hli hl1 hl2 hD hI hlen hmem hown hbk hul hk12 hap hlv
  obtain ⟨gl, hgl⟩ : ∃ gl, gl = w.heap.size := ⟨_, rfl⟩
  rw [← hgl] at HG hmk hW2 c1 HX
  replace hgl := Lib.hid hgl
  rw [hu] at c1
  replace hu := Lib.hid hu
  go_enter Try.func23, Try.ntmps23
  go_wp2_with fail
  refine HG.mono ?_
  clear HG
  rintro e w3 ⟨vo, rfl, ho, v3, n3, xs3, hb3, ht3⟩
  have HF : Hid (∃ v' n' xs' gl li, RTree w3 B u c v' n' xs' (notesM (notesM M (List.replicate n (leafIn []))) (insM shaM (List.replicate n (leafM shaM [])))) gl n li ∧ li.map (·.2) = List.replicate n [] ∧ RTo c v w v' w3) := by
    obtain ⟨x1, x2, x3, x4, x5, x6, x7, x8, x9, x10, x11, x12, x13, x14⟩ := HX.out
    refine ⟨v3, n3, xs3, gl, li, ⟨hb3, ht3.1.heap x2 (x1.far x2 (by decide) (by decide)), x3 _ _ ht3, x4, x5, x6, fun p hp => by rw [x9 p hp]; simp, fun e => ?_, Nat.le_trans x14 ht3.1.size, fun x hx => ?_, fun x hx => ?_⟩, x12, (RTo.kept x8).trans ht3⟩
    · rcases ht3.2.1 with e2 | ⟨k, e2, hk⟩
      · rw [e2] at e; exact x7 e
      · rw [e2] at e
        have := Option.some.inj e
        have := (World.ownsRow.lt (x3 w2 v (RTo.kept (Upd.refl _ _))).1 gl rfl).2
        omega
    · rw [x11] at hx; exact mem_notesM.2 (.inl (mem_notesM.2 (.inr hx)))
    · rw [x10] at hx; exact mem_notesM.2 (.inr hx)
  have HU := Lib.hid HX.out.2.2.2.2.2.2.2.2.2.2.2.2.1
  clear ho hb3 ht3 HX
  go_wp2
  go_ret2
  exact ⟨u, by rw [hu.out]; rfl, by rw [← hgl.out]; exact HU.out, HF.out⟩
end Go.Proofs.Ytnncpjekcljfbaa
/- The document's tree: Set. -/
namespace Go.Proofs.Ytnncpjekcljfbaa
open Go.RowKit

attribute [local irreducible] wpOrd
theorem ref_TNew_bad {w : World} {p : Option Addr} (n : Int) (hn : n < 1 ∨ 1024 < n) :
    Calls Try.prog 23 #[.pointer p, .int .i64 n] w fun e W => e = .returned (.tuple #[.pointer none, .int .i64 2]) ∧ w = W := by
  by_cases h1 : n < 1
  · have hn1 : decide (n < 1) = true := decide_eq_true h1
    clear hn h1
    go_enter Try.func23, Try.ntmps23
    go_wp2
    go_ret2
    exact ⟨rfl, rfl⟩
  · have hn1 : decide (n < 1) = false := decide_eq_false h1
    have hn2 : decide (1024 < n) = true := decide_eq_true (by omega)
    clear hn h1
    go_enter Try.func23, Try.ntmps23
    go_wp2
    go_ret2
    exact ⟨rfl, rfl⟩
section
variable {w W : World} {B u c : Nat} {v : Value} {n0 : Int} {xs : List SlC} {M : List Bytes} {gl n : Nat} {li : List (SlC × Bytes)}
theorem ref_TSet_out (h : RTree w B u c v n0 xs M gl n li) (i : Int) (x : Value) (hi : i < 0 ∨ (n : Int) ≤ i) :
    Calls Try.prog 26 #[.pointer (some ⟨u, 0, none⟩), .int .i64 i, x] w fun e W => e = .returned (.int .i64 9) ∧ w = W := by
  have c1 := h.c1
  clear h
  by_cases h1 : i < 0
  · have hd : decide (i < 0) = true := decide_eq_true h1
    clear hi h1
    go_enter Try.func26, Try.ntmps26
    go_wp2
    go_ret
    exact ⟨rfl, rfl⟩
  · have hd : decide (i < 0) = false := decide_eq_false h1
    have hd2 : decide ((n : Int) ≤ i) = true := decide_eq_true (by omega)
    clear hi h1
    go_enter Try.func26, Try.ntmps26
    go_wp2
    go_ret
    exact ⟨rfl, rfl⟩
theorem ref_TSet_long (h : RTree w B u c v n0 xs M gl n li) (i : Nat) (hi : i < n) (A : Option Addr) {m : Nat} (k : Nat) (hm : 65536 ≤ m) :
    Calls Try.prog 26 #[.pointer (some ⟨u, 0, none⟩), .int .i64 i, .slice A m k] w fun e W => e = .returned (.int .i64 5) ∧ w = W := by
  have c1 := h.c1
  have hd : decide ((i : Int) < 0) = false := decide_eq_false (by omega)
  have hd2 : decide ((n : Int) ≤ (i : Int)) = false := decide_eq_false (by omega)
  have hd2n : decide (n ≤ i) = false := decide_eq_false (by omega)
  have hd3 : decide ((65536 : Int) ≤ (m : Int)) = true := decide_eq_true (by omega)
  have hd3n : decide (65536 ≤ m) = true := decide_eq_true hm
  clear h hi hm
  go_enter Try.func26, Try.ntmps26
  go_wp2
  go_ret
  exact ⟨rfl, rfl⟩
theorem leafs_set {l : List (SlC × Bytes)} {i : Nat} {x : SlC} {R : Bytes} : (l.set i (x, R)).map (·.1) = (l.map (·.1)).set i x ∧ (l.set i (x, R)).map (·.2) = (l.map (·.2)).set i R := by
  rw [List.map_set, List.map_set]; exact ⟨rfl, rfl⟩
/-- a block that the document's tree has no bytes in -/
def NoB (xs : List SlC) (li : List (SlC × Bytes)) (g : Nat) : Prop := (∀ x ∈ xs, x.v.ownBlock ≠ some g) ∧ ∀ p ∈ li, p.1.v.ownBlock ≠ some g
/-- what a Set turns, beside what is new -/
def RT2 (c gl : Nat) (v : Value) (w : World) (v' : Value) (W : World) : Prop := Upd (fun k => k = c ∨ v.ownBlock = some k ∨ k = gl) w W ∧ (v'.ownBlock = v.ownBlock ∨ ∃ k, v'.ownBlock = some k ∧ w.heap.size ≤ k)
theorem lv_of (hb : RefBook w B c v n0 xs M) (ho : OwnLv w B (.slice (some ⟨gl, 0, none⟩) n n) li) (ap : v.ownBlock ≠ some gl) {v' : Value} (ht : RTo c v w v' W) : OwnLv W B (.slice (some ⟨gl, 0, none⟩) n n) li := by
  refine ⟨OwnRows.upd ho.1 ht.1 (fun k e e2 => ?_), fun p hp => ⟨(ho.2 p hp).1.upd ht.1 (fun k e => ?_), (ho.2 p hp).2⟩⟩
  · have e3 : gl = k := Option.some.inj e
    subst e3
    obtain ⟨cur, hc⟩ := own_cells ho.1 e
    rcases e2 with e2 | e2
    · rw [e2, hb.blk] at hc
      simp only [Option.some.injEq, Obj.cells.injEq] at hc
      exact absurd hc.2.1 (by decide)
    · exact ap e2
  · obtain ⟨cur, hc⟩ := (ho.2 p hp).1.block e
    exact hb.far hc (by decide) (by decide)
theorem RTree.turn (h : RTree w B u c v n0 xs M gl n li) {i : Nat} {x : SlC} {R : Bytes} (hx : OwnB w B x.v R) (hR : R.length ≤ 140737488351232) (hset : OwnRows slA 1 (w.setCell ⟨gl, i, none⟩ (.slice x.A x.n x.c)) B 35 (.slice (some ⟨gl, 0, none⟩) n n) ((li.map (·.1)).set i x)) :
    RefBook (w.setCell ⟨gl, i, none⟩ (.slice x.A x.n x.c)) B c v n0 xs M ∧ (w.setCell ⟨gl, i, none⟩ (.slice x.A x.n x.c)).heap[u]? = some (.cells #[.pointer (some ⟨c, 0, none⟩), .slice (some ⟨gl, 0, none⟩) n n] 143 (0, 0)) ∧ OwnLv (w.setCell ⟨gl, i, none⟩ (.slice x.A x.n x.c)) B (.slice (some ⟨gl, 0, none⟩) n n) (li.set i (x, R)) := by
  have hu : Upd (fun k => k = gl) w (w.setCell ⟨gl, i, none⟩ (.slice x.A x.n x.c)) := (Upd.refl _ _).setCell (p := ⟨gl, i, none⟩) _ fun _ => rfl
  obtain ⟨cur, hcg⟩ := own_cells h.own.1 (k := gl) rfl
  have hno : ∀ {k : Nat} {cs : Array Value} {t : TypeId} {fr : Nat × Nat}, w.heap[k]? = some (.cells cs t fr) → t ≠ 35 → ¬ k = gl := fun hc ht e => by
    rw [e, hcg] at hc
    simp only [Option.some.injEq, Obj.cells.injEq] at hc
    exact ht hc.2.1.symm
  have hby : ∀ {y : Value} {B' : Nat} {R : Bytes}, OwnB w B' y R → OwnB (w.setCell ⟨gl, i, none⟩ (.slice x.A x.n x.c)) B' y R := fun ho => ho.upd hu (fun k e => by obtain ⟨cur, hc⟩ := ho.block e; exact hno hc (by decide))
  refine ⟨⟨hu.heap h.book.blk (hno h.book.blk (by decide)), OwnRows.upd h.book.row hu (fun k e e2 => h.ap (by rw [e]; exact congrArg some e2)), h.book.len, fun j hj hj' => hby (h.book.each j hj hj'), h.book.sz⟩, hu.heap h.blk (hno h.blk (by decide)), by rw [leafs_set.1]; exact hset, fun p hp => ?_⟩
  rcases List.mem_or_eq_of_mem_set hp with h1 | h1
  · exact ⟨hby (h.own.2 p h1).1, (h.own.2 p h1).2⟩
  · rw [h1]; exact ⟨hby hx, hR⟩
set_option maxHeartbeats 1600000 in
set_option maxRecDepth 20000 in
theorem ref_TSet (h : RTree w B u c v n0 xs M gl n li) (hcnt : M.length ≤ 80000) (i : Nat) (hi : i < n) {A : Option Addr} {R : Bytes} (k : Nat) (hR : Byt w A R) (hl : R.length < 65536) :
    Calls Try.prog 26 #[.pointer (some ⟨u, 0, none⟩), .int .i64 i, .slice A R.length k] w fun e W => e = .returned (.int .i64 0) ∧ ∃ v' n' xs' li', RTree W B u c v' n' xs' (notesM (notesM M (leafI li')) (insM shaM (leafD li'))) gl n li' ∧ li'.map (·.2) = (li.map (·.2)).set i R ∧ RT2 c gl v w v' W ∧ ∀ g, g < w.heap.size → NoB xs li g → NoB xs' li' g := by
  have c1 := h.c1
  have hd : decide ((i : Int) < 0) = false := decide_eq_false (by omega)
  have hd2 : decide ((n : Int) ≤ (i : Int)) = false := decide_eq_false (by omega)
  have hd2n : decide (n ≤ i) = false := decide_eq_false (by omega)
  have hd3 : decide ((65536 : Int) ≤ (R.length : Int)) = false := decide_eq_false (by omega)
  have hd3n : decide (65536 ≤ R.length) = false := decide_eq_false (by omega)
  have hin : (i : Int) < (n : Int) := by omega
  have hi5 : (i : Int) ≤ 1024 := by have := h.n2; omega
  have HH := Lib.hid (And.intro h (And.intro hcnt (And.intro hi (And.intro hR hl))))
  clear h hcnt hR hl
  go_enter Try.func26, Try.ntmps26
  go_wp2_with fail
  clear hd hd2 hd2n hd3 hd3n
  have hug : ¬ u = gl := fun e => by
    obtain ⟨cur, hc⟩ := own_cells HH.out.1.own.1 (k := gl) rfl
    rw [← e, HH.out.1.blk] at hc
    simp only [Option.some.injEq, Obj.cells.injEq] at hc
    exact absurd hc.2.1 (by decide)
  have f1 : ∀ W, Upd (fun k => k = gl) w W → W.cell? ⟨u, 1, none⟩ = some (.slice (some ⟨gl, 0, none⟩) n n) := fun W hW => hW.cell c1 hug
  refine wp_region_ord [(0, true), (1, true), (2, true), (3, true), (4, true), (5, true), (6, false), (7, true), (8, false)] (by kernel_rfl) (by kernel_rfl) (Upd (fun k => k = gl) w) (Upd.refl _ _).drew ?_
  simp only [ordOps, List.getD_cons_zero, List.getD_cons_succ]
  iterate 6 (refine wpOrd_held (fun K hK => ?_); go_simp; first | (apply Exists.intro; refine ⟨fun W hW => ?_, hK _ ?_⟩; (go_simp; first | done | exact rfl); clear hK K) | (refine hK _ ?_; clear hK K))
  have hSd : Upd (fun k => k = gl) w w.drew := (Upd.refl _ _).drew
  have hkd : Kept w w.drew := (Upd.refl _ _).drew
  refine wpOrd_step (fun K hK => ?_) hSd
  go_simp
  refine (ref_CopyBytes k (HH.out.2.2.2.1.kept hkd) (by have := HH.out.2.2.2.2; omega)).mono ?_
  rintro e w2 ⟨vy, rfl, hoy, hu2⟩
  have HFR := Lib.hid (show ∀ k, vy.ownBlock = some k → w.heap.size ≤ k from fun k e => Nat.le_trans hkd.size (hoy.far k e).1)
  have hS2 : Upd (fun k => k = gl) w w2 := hSd.trans hu2.to
  have hk2 : Kept w w2 := hkd.then hu2 (fun _ _ h => h)
  have HT := Lib.hid (And.intro (HH.out.1.kept hk2) (And.intro (OwnB.base hoy (Nat.le_trans HH.out.1.hB hkd.size)) hk2))
  refine hK _ _ hS2 ?_
  clear hK K hSd hkd hoy hu2 hk2
  obtain ⟨Ay, ky, rfl, -, -⟩ := HT.out.2.1.form
  iterate 1 (refine wpOrd_held (fun K hK => ?_); go_simp; first | (apply Exists.intro; refine ⟨fun W hW => ?_, hK _ ?_⟩; (go_simp; first | done | exact rfl); clear hK K) | (refine hK _ ?_; clear hK K))
  have hli : i < (li.map (·.1)).length := by rw [List.length_map, HT.out.1.len]; exact HH.out.2.2.1
  obtain ⟨gq, hgq, hset, hfz⟩ := own_setCell HT.out.1.own.1 (k := i) hli ⟨Ay, R.length, ky⟩
  rw [show (Value.slice (some ⟨gl, 0, none⟩) n n).ownBlock = some gl from rfl] at hgq
  obtain rfl := Option.some.inj hgq
  obtain ⟨cur, hcg⟩ := own_cells HT.out.1.own.1 (k := gl) rfl
  have hgc : ∃ x, w2.cell? ⟨gl, i, none⟩ = some x := by
    obtain ⟨g', o', A', c', hA', hcell, -⟩ := (HT.out.1.leaves (RTo.kept (Upd.refl _ _))).get (k := i) (by rw [HT.out.1.len]; exact HH.out.2.2.1)
    simp only [Option.some.injEq, Addr.mk.injEq, and_true] at hA'
    obtain ⟨rfl, rfl⟩ := hA'
    rw [Nat.zero_add] at hcell
    exact ⟨_, hcell⟩
  obtain ⟨x0, hx0⟩ := hgc
  refine wpOrd_step (fun K hK => ?_) hS2
  go_simp
  have hu3 : Upd (fun k => k = gl) w2 (w2.setCell ⟨gl, i, none⟩ (.slice Ay R.length ky)) := (Upd.refl _ _).setCell (p := ⟨gl, i, none⟩) _ fun _ => rfl
  have hS3 := hS2.trans hu3
  obtain ⟨hb3, hblk3, ho3⟩ := HT.out.1.turn (x := ⟨Ay, R.length, ky⟩) (i := i) HT.out.2.1 (by have := HH.out.2.2.2.2; omega) hset
  have HT3 := Lib.hid (And.intro hb3 (And.intro hblk3 (And.intro ho3 (And.intro HT.out.1.hB (And.intro HT.out.2.2 hu3)))))
  refine hK _ _ hS3 ?_
  clear hK K hset hfz hx0 x0 hcg cur hu3 hb3 hblk3 ho3 hS2 hli f1 hug c1
  refine wpOrd_nil ?_
  clear hS3
  obtain ⟨li', hli'⟩ : ∃ li', li' = li.set i ((⟨Ay, R.length, ky⟩ : SlC), R) := ⟨_, rfl⟩
  rw [← hli'] at HT3
  have hl2 : li'.map (·.2) = (li.map (·.2)).set i R := by rw [hli']; exact leafs_set.2
  have hlen : li'.length = n := by rw [hli', List.length_set]; exact HH.out.1.len
  have hsm : ∀ p ∈ li', p.2.length < 65536 := fun p hp => by
    rw [hli'] at hp
    rcases List.mem_or_eq_of_mem_set hp with h1 | h1
    · exact HH.out.1.sm p h1
    · rw [h1]; exact HH.out.2.2.2.2
  have hno : ∀ g, g < w.heap.size → (∀ p ∈ li, p.1.v.ownBlock ≠ some g) → ∀ p ∈ li', p.1.v.ownBlock ≠ some g := fun g hg h p hp e => by
    rw [hli'] at hp
    rcases List.mem_or_eq_of_mem_set hp with h1 | h1
    · exact h p h1 e
    · rw [h1] at e
      have := HFR.out g e
      omega
  have HL := Lib.hid (And.intro hl2 (And.intro hlen (And.intro hsm hno)))
  have hsz3 : w2.heap.size ≤ (w2.setCell ⟨gl, i, none⟩ (.slice Ay R.length ky)).heap.size := HT3.out.2.2.2.2.2.size
  generalize hW3 : w2.setCell ⟨gl, i, none⟩ (.slice Ay R.length ky) = w3 at *
  clear hl2 hlen hsm hli' hno
  go_wp2_with fail
  have c0 : w3.cell? ⟨u, 0, none⟩ = some (.pointer (some ⟨c, 0, none⟩)) := by rw [cell_of_row w3 u 0 _ _ _ HT3.out.2.1]; rfl
  have c1 : w3.cell? ⟨u, 1, none⟩ = some (.slice (some ⟨gl, 0, none⟩) n n) := by rw [cell_of_row w3 u 1 _ _ _ HT3.out.2.1]; rfl
  have nS : ¬ (u = c ∨ v.ownBlock = some u) := HT3.out.1.far HT3.out.2.1 (by decide) (by decide)
  have f1 : ∀ W, Upd (fun k => k = c ∨ v.ownBlock = some k) w3 W → W.cell? ⟨u, 0, none⟩ = some (.pointer (some ⟨c, 0, none⟩)) := fun W hW => hW.cell c0 nS
  have f2 : ∀ W, Upd (fun k => k = c ∨ v.ownBlock = some k) w3 W → W.cell? ⟨u, 1, none⟩ = some (.slice (some ⟨gl, 0, none⟩) n n) := fun W hW => hW.cell c1 nS
  clear nS c0 c1
  refine wp_region_ord [(0, true), (1, true), (2, true), (3, true), (4, true), (5, true), (6, true), (7, true), (8, false)] (by kernel_rfl) (by kernel_rfl) (Upd (fun k => k = c ∨ v.ownBlock = some k) w3) (Upd.refl _ _).drew ?_
  simp only [ordOps, List.getD_cons_zero, List.getD_cons_succ]
  iterate 8 (refine wpOrd_held (fun K hK => ?_); go_simp; first | (apply Exists.intro; refine ⟨fun W hW => ?_, hK _ ?_⟩; (go_simp; first | done | exact rfl); clear hK K) | (refine hK _ ?_; clear hK K))
  clear f1 f2
  have hSd : Upd (fun k => k = c ∨ v.ownBlock = some k) w3 w3.drew := (Upd.refl _ _).drew
  have hkd : Kept w3 w3.drew := (Upd.refl _ _).drew
  refine wpOrd_step (fun K hK => ?_) hSd
  go_simp
  have HG := ref_Levels (HT3.out.1.kept hkd) (Nat.le_trans HT3.out.2.2.2.1 (Nat.le_trans hsz3 hkd.size)) (by have := HH.out.2.1; omega) (A := some ⟨gl, 0, none⟩) (l := li') n (fun W v' ht => (lv_of HT3.out.1 HT3.out.2.2.1 HH.out.1.ap ((RTo.kept hkd).trans ht)).leaves) HL.out.2.2.1 (by rw [HL.out.2.1]; exact HH.out.1.n1) (by rw [HL.out.2.1]; exact HH.out.1.n2)
  rw [HL.out.2.1] at HG
  refine HG.mono ?_
  clear HG
  rintro e w4 ⟨vo, rfl, -, v4, n4, xs4, hb4, ht4⟩
  have hS4 := hSd.trans ht4.1
  have hto : RTo c v w3 v4 w4 := (RTo.kept hkd).trans ht4
  have HF : Hid (∃ v' n' xs' li', RTree w4 B u c v' n' xs' (notesM (notesM M (leafI li')) (insM shaM (leafD li'))) gl n li' ∧ li'.map (·.2) = (li.map (·.2)).set i R ∧ RT2 c gl v w v' w4 ∧ ∀ g, g < w.heap.size → NoB xs li g → NoB xs' li' g) := by
    obtain ⟨x1, x2, x3, x4, x5, x6⟩ := HT3.out
    refine ⟨v4, n4, xs4, li', ⟨hb4, hto.1.heap x2 (x1.far x2 (by decide) (by decide)), lv_of x1 x3 HH.out.1.ap hto, HL.out.2.1, HH.out.1.n1, HH.out.1.n2, HL.out.2.2.1, fun e => ?_, Nat.le_trans x4 (Nat.le_trans hsz3 hto.1.size), fun x hx => mem_notesM.2 (.inl (mem_notesM.2 (.inr hx))), fun x hx => mem_notesM.2 (.inr hx)⟩, HL.out.1, ⟨(x5.to.trans (x6.mono fun k _ e => .inr (.inr e))).trans (hto.1.mono fun k _ e => e.imp id .inl), ?_⟩, fun g hg hn => ⟨fun x hx e => ?_, HL.out.2.2.2 g hg hn.2⟩⟩
    · rcases hto.2.1 with e2 | ⟨k, e2, hk⟩
      · rw [e2] at e; exact HH.out.1.ap e
      · rw [e2] at e
        have := Option.some.inj e
        have := (World.ownsRow.lt x3.1 gl rfl).2
        omega
    · rcases hto.2.1 with e2 | ⟨k, e2, hk⟩
      · exact .inl e2
      · exact .inr ⟨k, e2, Nat.le_trans x5.size (Nat.le_trans hsz3 hk)⟩
    · obtain ⟨ys, hy, hyx⟩ := hto.2.2 B xs (Nat.le_trans x4 hsz3) x1.row
      obtain rfl := own_uniq hb4.row hy
      rcases hyx x hx with h1 | h1
      · exact hn.1 x h1 e
      · have h2 := h1 g e
        have h3 := x5.size
        omega
  refine hK _ _ hS4 ?_
  clear hK K hSd hkd hb4 ht4 hto
  refine wpOrd_nil ?_
  clear hS4 hsz3 hW3
  go_wp2
  go_ret
  exact ⟨rfl, HF.out⟩
end
end Go.Proofs.Ytnncpjekcljfbaa
/- The document's proofs: four, Build, Parts. -/
namespace Go.Proofs.Ytnncpjekcljfbaa
open Go.RowKit

attribute [local irreducible] wpOrd
theorem grp_elem {D : List Dig} {j k : Nat} (h : k < (group D j).length) : ∃ (h2 : 4 * j + k < D.length), (group D j)[k] = D[4 * j + k] := by
  have h1 := h
  rw [group_length] at h1
  refine ⟨by omega, ?_⟩
  have e : (group D j)[k]? = D[4 * j + k]? := by
    show ((D.drop (4 * j)).take 4)[k]? = _
    rw [List.getElem?_take_of_lt (by omega), List.getElem?_drop]
  rw [List.getElem?_eq_getElem h, List.getElem?_eq_getElem (by omega)] at e
  exact Option.some.inj e
set_option maxHeartbeats 1600000 in
set_option maxRecDepth 20000 in
theorem ref10_four {w : World} {A : Option Addr} {D : List Dig} (c i : Nat) (hD : Digs w A D) (hi : i ≤ 100000) (hl : D.length ≤ 1024) :
    Calls Try.prog 91 #[.slice A D.length c, .int .i64 i] w fun e W => ∃ v, e = .returned v ∧ OwnD W w.heap.size v (group D (i / 4)) ∧ Kept w W := by
  obtain ⟨j, hj⟩ : ∃ j, j = i / 4 := ⟨_, rfl⟩
  obtain ⟨f, hf⟩ : ∃ f, f = j * 4 := ⟨_, rfl⟩
  have hgn : (group D j).length = min 4 (D.length - f) := by rw [group_length, hf, Nat.mul_comm]
  have e1 : (i : Int) / 4 = (j : Int) := by omega
  have e2 : (j : Int) * 4 = (f : Int) := by omega
  have b1 : (i : Int) ≤ 100000 := by omega
  have b2 : (f : Int) ≤ 100000 := by omega
  have b3 : (j : Int) ≤ 100000 := by omega
  have HX := Lib.hid (And.intro hD (And.intro hgn (And.intro hf hl)))
  rw [← hj]
  clear hD hj hf hl hgn hi
  obtain ⟨n, hn⟩ : ∃ n, n = D.length := ⟨_, rfl⟩
  rw [← hn]
  have HN := Lib.hid hn
  clear hn
  go_enter Try.func91, Try.ntmps91
  go_wp2_with fail
  clear e1 e2
  go_loopw [7, 6] (fun u t wr => ∃ p k : Nat, p = f + k ∧ k ≤ (group D j).length ∧ u = .int .i64 p ∧ OwnD wr w.heap.size t ((group D j).take k) ∧ Kept w wr) (fun u _ _ => 200000 - (intOf u).toNat)
  case atStart => exact ⟨f, 0, rfl, Nat.zero_le _, rfl, OwnRows.nil _ _ _, Upd.refl _ _⟩
  case round =>
    obtain ⟨p, k, hp, hk, rfl, hown, hu⟩ := hrel
    have hgn := HX.out.2.1
    have hl := HX.out.2.2.2
    have hnn := HN.out
    rcases Nat.lt_or_ge k (group D j).length with hlt | hge
    · have hd1 : (p : Int) < (f : Int) + 4 := by omega
      have hd2 : (p : Int) < (n : Int) := by omega
      have hd2n : p < n := by omega
      have hp5 : (p : Int) ≤ 1024 := by omega
      obtain ⟨hpl, hpe⟩ := grp_elem hlt
      have hpf : 4 * j + k = p := by have := HX.out.2.2.1; omega
      have hpD : p < D.length := by omega
      obtain ⟨g, o, rfl, s1, s2⟩ := (HX.out.1.kept hu).get hpD
      have htk : (group D j).take (k + 1) = (group D j).take k ++ [D[p]] := by
        rw [List.take_succ_eq_append_getElem hlt, hpe]
        congr 3
      obtain ⟨X, hX⟩ : ∃ X, X = D[p] := ⟨_, rfl⟩
      rw [← hX] at s2 htk
      have hk1 : Kept wr (wr.alloc (.cells (dA X) 46)) := (Upd.refl _ wr).alloc _
      have HQ := Lib.hid (And.intro (OwnRows.upd hown hk1 (fun _ _ h => h)) (And.intro (hu.then hk1 (fun _ _ h => h)) (And.intro (heap_alloc_new wr (.cells (dA X) 46)) (And.intro htk (And.intro (And.intro hp hlt) (show ((group D j).take k).length ≤ 4 by rw [List.length_take]; omega))))))
      clear hown hu hk1 htk hX hpe hpl hpD hpf hlt hk hp hgn hl hnn
      go_wp2_with (at_builtin; refine wpList_append_rows dig_rows rfl (.tmp 24) (.tmp 29) rfl rfl HQ.out.1 X wr.heap.size 1 _ _ rfl HQ.out.2.2.1 (by have := HQ.out.2.2.2.2.2; unfold maxLen; omega) (by have := HQ.out.2.2.2.2.2; omega) HQ.out.2.1.size ?_; intro v' w3 hown' hu' hnew)
      have HF := Lib.hid (And.intro hown' (show Kept w w3 from HQ.out.2.1.then hu' (fun i hi e => by have := (World.ownsRow.lt HQ.out.1 i e).1; omega)))
      clear hown' hu' hnew s1 s2
      go_wp2_with fail
      go_roundw
      case rel => exact ⟨p + 1, k + 1, by have := HQ.out.2.2.2.2.1.1; omega, by have := HQ.out.2.2.2.2.1.2; omega, by show _ = _; go_num, by rw [HQ.out.2.2.2.1]; exact HF.out.1, HF.out.2⟩
      case measure => simp [intOf]; omega
    · have hke : k = (group D j).length := by omega
      rw [hke, List.take_length] at hown
      have HF := Lib.hid (And.intro hown hu)
      by_cases h4 : (p : Int) < (f : Int) + 4
      · have hd2 : ¬ ((p : Int) < (n : Int)) := by omega
        have hd2n : decide (p < n) = false := decide_eq_false (by omega)
        have hp5 : (p : Int) ≤ 200000 := by omega
        clear hown hu hke hgn hl hnn hge hk hp
        go_wp2
        go_ret
        exact ⟨_, rfl, HF.out⟩
      · have hp5 : (p : Int) ≤ 200000 := by omega
        clear hown hu hke hgn hl hnn hge hk hp
        go_wp2
        go_ret
        exact ⟨_, rfl, HF.out⟩
section
variable {w W : World} {B u c : Nat} {v : Value} {n0 : Int} {xs : List SlC} {M : List Bytes} {gl n : Nat} {li : List (SlC × Bytes)}
theorem ref10_Build_out (h : RTree w B u c v n0 xs M gl n li) (i : Int) (hi : i < 0 ∨ (n : Int) ≤ i) :
    Calls Try.prog 48 #[.pointer (some ⟨u, 0, none⟩), .int .i64 i] w fun e W => e = .returned (.tuple #[.slice none 0 0, .int .i64 9]) ∧ w = W := by
  have c1 := h.c1
  clear h
  by_cases h1 : i < 0
  · have hd : decide (i < 0) = true := decide_eq_true h1
    clear hi h1
    go_enter Try.func48, Try.ntmps48
    go_wp2
    go_ret2
    exact ⟨rfl, rfl⟩
  · have hd : decide (i < 0) = false := decide_eq_false h1
    have hd2 : decide ((n : Int) ≤ i) = true := decide_eq_true (by omega)
    clear hi h1
    go_enter Try.func48, Try.ntmps48
    go_wp2
    go_ret2
    exact ⟨rfl, rfl⟩
set_option maxHeartbeats 1600000 in
set_option maxRecDepth 20000 in
theorem ref10_Build (h : RTree w B u c v n0 xs M gl n li) (hcnt : M.length ≤ 90000) (i : Nat) (hi : i < n) :
    Calls Try.prog 48 #[.pointer (some ⟨u, 0, none⟩), .int .i64 i] w fun e W => ∃ vo, e = .returned (.tuple #[vo, .int .i64 0]) ∧ OwnP W w.heap.size vo (proofM (leafD li) (depthM n - 1) i) ∧ ∃ v' n' xs', RTree W B u c v' n' xs' M gl n li ∧ RTo c v w v' W := by
  have c1 := h.c1
  have hd : decide ((i : Int) < 0) = false := decide_eq_false (by omega)
  have hd2 : decide ((n : Int) ≤ (i : Int)) = false := decide_eq_false (by omega)
  have hd2n : decide (n ≤ i) = false := decide_eq_false (by omega)
  have hDl : (leafD li).length = n := by rw [leafD_length, h.len]
  obtain ⟨m, hm⟩ : ∃ m, depthM (leafD li).length = m + 1 := by
    obtain ⟨m, hm, _⟩ := levelsM_top (D := leafD li) (by intro h0; rw [h0] at hDl; have := h.n1; simp at hDl; omega)
    exact ⟨m, hm⟩
  have hm5 : m ≤ 1025 := by have := depthM_le _ (leafD li) rfl; have := h.n2; omega
  have hpl : (levelsM shaM (leafD li)).length = m + 1 := by rw [levelsM_depth _ rfl, hm]
  rw [show depthM n - 1 = m by rw [← hDl]; omega]
  have HT := Lib.hid h
  have HC := Lib.hid hcnt
  have HM := Lib.hid (And.intro hDl (And.intro hm (And.intro hm5 (And.intro hpl (And.intro hi h.n2)))))
  clear h hcnt hDl hm hm5 hpl hi
  go_enter Try.func48, Try.ntmps48
  go_wp2_with fail
  clear c1 hd hd2 hd2n
  -- here: HT : Hid (RTree w ..), hcnt in HC: M.length ≤ 90000; the drawn region's list [(0, true), (1, true), (2, true), (3, true), (4, true), (5, true), (6, true), (7, true), (8, false), (9, true)], its operations after the call 1
  have nS : ¬ (u = c ∨ v.ownBlock = some u) := HT.out.book.far HT.out.blk (by decide) (by decide)
  have f1 : ∀ W, Upd (fun k => k = c ∨ v.ownBlock = some k) w W → W.cell? ⟨u, 0, none⟩ = some (.pointer (some ⟨c, 0, none⟩)) := fun W hW => hW.cell HT.out.c0 nS
  have f2 : ∀ W, Upd (fun k => k = c ∨ v.ownBlock = some k) w W → W.cell? ⟨u, 1, none⟩ = some (.slice (some ⟨gl, 0, none⟩) n n) := fun W hW => hW.cell HT.out.c1 nS
  clear nS
  refine wp_region_ord [(0, true), (1, true), (2, true), (3, true), (4, true), (5, true), (6, true), (7, true), (8, false), (9, true)] (by kernel_rfl) (by kernel_rfl) (Upd (fun k => k = c ∨ v.ownBlock = some k) w) (Upd.refl _ _).drew ?_
  simp only [ordOps, List.getD_cons_zero, List.getD_cons_succ]
  iterate 8 (refine wpOrd_held (fun K hK => ?_); go_simp; first | (apply Exists.intro; refine ⟨fun W hW => ?_, hK _ ?_⟩; (go_simp; first | done | exact rfl); clear hK K) | (refine hK _ ?_; clear hK K))
  have hSd : Upd (fun k => k = c ∨ v.ownBlock = some k) w w.drew := (Upd.refl _ _).drew
  refine wpOrd_step (fun K hK => ?_) hSd
  go_simp
  have hkd : Kept w w.drew := (Upd.refl _ _).drew
  refine (rt_Levels (HT.out.kept hkd) HC.out).mono ?_
  rintro e w2 ⟨vo, rfl, ho, v2, n2, xs2, hT2, ht2⟩
  have hS2 := hSd.trans ht2.1
  have hoP := own_baseP ho hkd.size
  have HT2 := Lib.hid (And.intro hT2 (And.intro ((RTo.kept hkd).trans ht2) hoP))
  obtain ⟨A2, k2, hvo, hk2, hcl2⟩ := hoP.cells
  subst hvo
  refine hK _ _ hS2 ?_
  clear hK K hSd hkd ho hoP hT2 ht2 f1 f2
  iterate 1 (refine wpOrd_held (fun K hK => ?_); go_simp; first | (apply Exists.intro; refine ⟨fun W hW => ?_, hK _ ?_⟩; (go_simp; first | done | exact rfl); clear hK K) | (refine hK _ ?_; clear hK K))
  refine wpOrd_nil ?_
  clear hS2
  obtain ⟨D, hD⟩ : ∃ D, D = leafD li := ⟨_, rfl⟩
  rw [← hD] at HM hk2 hcl2 ⊢
  have HD := Lib.hid hD
  obtain ⟨pl, hpl⟩ : ∃ pl, pl = (levelsM shaM D).length := ⟨_, rfl⟩
  rw [← hpl]
  have e1 : (pl : Int) - 1 = (m : Int) := by have := HM.out.2.2.2.1; omega
  have e2 : (pl : Int) ≤ 1026 := by have := HM.out; omega
  have e3 : 1 ≤ (pl : Int) := by have := HM.out; omega
  have HP := Lib.hid (And.intro hpl hcl2)
  clear hD hpl hcl2 hk2
  go_wp2_with fail
  go_loopw [8, 6, 1] (fun u1 t x wr => ∃ (k : Nat) (done : List (List Dig)) (l : List Dig) (j : Nat), u1 = .int .i64 k ∧ x = .int .i64 j ∧ k ≤ m ∧ OwnP wr w2.heap.size t done ∧ Kept w2 wr ∧ (levelsM shaM D).drop k = levelsM shaM l ∧ proofM D m i = done ++ proofM l (m - k) j ∧ done.length = k ∧ j < l.length ∧ l.length ≤ 1024 ∧ depthM l.length = m - k + 1) (fun u1 _ _ _ => 2000 - (intOf u1).toNat)
  case atStart => exact ⟨0, [], D, i, rfl, rfl, Nat.zero_le _, OwnP.nil _ _, Upd.refl _ _, rfl, rfl, rfl, by rw [HM.out.1]; exact HM.out.2.2.2.2.1, by rw [HM.out.1]; exact HM.out.2.2.2.2.2, HM.out.2.1⟩
  case round =>
    obtain ⟨k, done, l, j, rfl, rfl, hk, hown, hu, hdr, hpr, hdl, hj, hl, hdp⟩ := hrel
    rcases Nat.lt_or_ge k m with hlt | hge
    · have hk1 : (k : Int) < (m : Int) := by omega
      have hk5 : (k : Int) ≤ 1025 := by have := HM.out.2.2.1; omega
      have hkp : (k : Int) < (pl : Int) := by omega
      have hkpn : k < pl := by omega
      have hl1 : 1 < l.length := by
        rcases Nat.lt_or_ge 1 l.length with h2 | h2
        · exact h2
        · have h3 : l.length = 1 := by omega
          rw [h3, depthM_one] at hdp; omega
      obtain ⟨tl, htl, htl2, _⟩ := levelsM_head l
      have hkP : k < (levelsM shaM D).length := by rw [← HP.out.1]; exact hkpn
      have hlv : (levelsM shaM D)[k] = l := by
        have h1 := congrArg (·[0]?) hdr
        simp only [List.getElem?_drop, Nat.add_zero] at h1
        rw [htl, List.getElem?_eq_getElem hkP] at h1
        exact Option.some.inj h1
      have HQ := Lib.hid (And.intro (show (levelsM shaM D).drop (k + 1) = levelsM shaM (aboveM shaM l) by
          rw [← List.drop_drop, hdr, htl, List.drop_one, List.tail_cons, htl2 hl1]) (And.intro (show proofM D m i = (done ++ [group l (j / 4)]) ++ proofM (aboveM shaM l) (m - (k + 1)) (j / 4) by
          rw [hpr, show m - k = (m - (k + 1)) + 1 by omega, proofM, List.append_assoc]; rfl) (And.intro (show (done ++ [group l (j / 4)]).length = k + 1 by simp [hdl]) (And.intro (show j / 4 < (aboveM shaM l).length by rw [aboveM_length]; exact place_up hj) (And.intro (show (aboveM shaM l).length ≤ 1024 by rw [aboveM_length]; unfold up4; omega) (And.intro (show depthM (aboveM shaM l).length = m - (k + 1) + 1 by rw [aboveM_length]; rw [depthM_more hl1] at hdp; omega) (show k + 1 ≤ m by omega)))))))
      obtain ⟨j4, hj4⟩ : ∃ j4, j4 = j / 4 := ⟨_, rfl⟩
      rw [← hj4] at HQ
      have hq : (j : Int) / 4 = (j4 : Int) := by omega
      have hj5 : (j : Int) ≤ 1024 := by omega
      obtain ⟨ys, ho, hxl, hxe⟩ := hown
      obtain ⟨gg, oo, A3, k3, hA2, hcell, hk3, hod⟩ := HP.out.2 k hkP
      subst hA2
      rw [hlv] at hcell hk3 hod
      replace hcell := hu.cell hcell id
      obtain ⟨A4, k4, he4, -, hd4⟩ := OwnD.digs hod
      simp only [Value.slice.injEq] at he4
      obtain ⟨rfl, -, rfl⟩ := he4
      have HF4 := ref10_four k3 j (hd4.kept hu) (by omega) hl
      rw [← hj4] at HF4
      have HR := Lib.hid (And.intro (And.intro ho (And.intro hxl hxe)) (And.intro hu (show done.length ≤ 1025 by have := HM.out.2.2.1; omega)))
      clear ho hxl hxe hu hdr hpr hdl hj hl hdp htl htl2 hlv hj4 hl1 hkP hk3 hod hd4 hlt hk
      generalize l.length = ln at *
      go_wp2_with fail
      refine HF4.mono ?_
      clear HF4
      rintro e w5 ⟨v5, rfl, hv5, hu5⟩
      obtain ⟨A5, c5, rfl, hc5, hd5⟩ := OwnD.digs hv5
      obtain ⟨gp, hgp⟩ : ∃ gp, gp = group l j4 := ⟨_, rfl⟩
      rw [← hgp] at hv5 ⊢
      rw [← hgp] at HQ
      clear hd5 hc5 hgp
      have hk6 : Kept w5 (w5.alloc (.cells (slA ⟨A5, gp.length, c5⟩) 41)) := (Upd.refl _ w5).alloc _
      have hg6 := heap_alloc_new w5 (.cells (slA ⟨A5, gp.length, c5⟩) 41)
      have hu56 : Kept wr (w5.alloc (.cells (slA ⟨A5, gp.length, c5⟩) 41)) := hu5.then hk6 (fun _ _ h => h)
      have hu26 := HR.out.2.1.then hu56 (fun _ _ h => h)
      have H6 := Lib.hid (And.intro (OwnRows.upd HR.out.1.1 hu56 (fun _ _ h => h)) (And.intro hu26 (And.intro (fun i hi hi' => OwnRows.upd (HR.out.1.2.2 i hi hi') hu56 (fun _ _ h => h)) (And.intro (OwnRows.upd (own_base hv5 HR.out.2.1.size) hk6 (fun _ _ h => h)) (And.intro hg6 hu26.size)))))
      clear hv5 hu5 hk6 hg6 hu56 hu26
      generalize hW6 : w5.alloc (.cells (slA ⟨A5, gp.length, c5⟩) 41) = w6 at *
      clear hcell
      go_wp2_with (at_builtin; refine wpList_append_rows sl_rows rfl (.tmp 36) (.tmp 43) rfl rfl H6.out.1 ⟨A5, gp.length, c5⟩ w5.heap.size 1 _ _ rfl H6.out.2.2.2.2.1 (by have := HR.out.1.2.1; have := HR.out.2.2; unfold maxLen; omega) (by have := HR.out.1.2.1; have := HR.out.2.2; omega) H6.out.2.2.2.2.2 ?_; intro v' w7 hown' hu' hnew)
      have hown : OwnP w7 w2.heap.size v' (done ++ [gp]) := by
        refine ⟨_, hown', by rw [List.length_append, List.length_append, HR.out.1.2.1]; rfl, fun i hi hi' => ?_⟩
        have hfar : ∀ {x : Value} {l : List Dig}, OwnD w6 w2.heap.size x l → OwnD w7 w2.heap.size x l := fun ho => OwnRows.upd ho hu' (fun k e e2 => by
          obtain ⟨c1, h1⟩ := own_cells ho e
          obtain ⟨c2, h2⟩ := own_cells H6.out.1 e2
          rw [h1] at h2
          simp only [Option.some.injEq, Obj.cells.injEq] at h2
          exact absurd h2.2.1 (by decide))
        by_cases hi2 : i < ys.length
        · rw [List.getElem_append_left hi2, List.getElem_append_left (by rw [← HR.out.1.2.1]; exact hi2)]
          exact hfar (H6.out.2.2.1 i hi2 _)
        · have hi3 : i = ys.length := by simp at hi; omega
          subst hi3
          have e1 : (ys ++ [(⟨A5, gp.length, c5⟩ : SlC)])[ys.length] = ⟨A5, gp.length, c5⟩ := by simp
          have e2 : (done ++ [gp])[ys.length]'hi' = gp := by simp [HR.out.1.2.1]
          rw [e1, e2]
          exact hfar H6.out.2.2.2.1
      have HF := Lib.hid (And.intro hown (show Kept w2 w7 from H6.out.2.1.then hu' (fun i hi e => by have := (World.ownsRow.lt H6.out.1 i e).1; omega)))
      clear hown hown' hu' hnew H6 HR hW6
      go_wp2_with fail
      go_roundw
      case rel => exact ⟨k + 1, done ++ [gp], aboveM shaM l, j4, by show _ = _; go_num, rfl, HQ.out.2.2.2.2.2.2, HF.out.1, HF.out.2, HQ.out.1, HQ.out.2.1, HQ.out.2.2.1, HQ.out.2.2.2.1, HQ.out.2.2.2.2.1, HQ.out.2.2.2.2.2.1⟩
      case measure => simp [intOf]; omega
    · obtain rfl : k = m := by omega
      have hk1 : ¬ ((k : Int) < (k : Int)) := by omega
      rw [Nat.sub_self, proofM, List.append_nil] at hpr
      rw [← hpr] at hown
      have hk5 : (k : Int) ≤ 1025 := by have := HM.out.2.2.1; omega
      have HF : Hid (OwnP wr w.heap.size u6 (proofM D k i) ∧ ∃ v' n' xs', RTree wr B u c v' n' xs' M gl n li ∧ RTo c v w v' wr) := ⟨own_baseP hown HT2.out.2.1.1.size, _, _, _, HT2.out.1.kept hu, HT2.out.2.1.trans (RTo.kept hu)⟩
      clear hown hu hdr hpr hdl hj hl hdp hge hk
      go_wp2
      go_ret2
      refine ⟨u6, rfl, ?_⟩
      rw [← HD.out]
      obtain ⟨y1, y2, y3, y4, y5, y6⟩ := HF.out
      first | exact ⟨y1, y2, y3, y4, y5, y6⟩ | exact ⟨y1, y2, ⟨y3, y4, y5⟩, y6⟩
theorem ref10_Parts_no (h : RTree w B u c v n0 xs M gl n li) (hcnt : M.length ≤ 90000) (lv pl : Int) (hno : lv < 1 ∨ (depthM n : Int) ≤ lv ∨ pl < 0 ∨ ∃ k : Nat, ∃ l, lv = k ∧ (levelsM shaM (leafD li))[k]? = some l ∧ (l.length : Int) ≤ pl) :
    Calls Try.prog 50 #[.pointer (some ⟨u, 0, none⟩), .int .i64 lv, .int .i64 pl] w fun e W => e = .returned (.tuple #[.slice none 0 0, .int .i64 9]) ∧ ∃ v' n' xs', RTree W B u c v' n' xs' M gl n li ∧ RTo c v w v' W := by
  have hDl : (leafD li).length = n := by rw [leafD_length, h.len]
  have hpl : (levelsM shaM (leafD li)).length = depthM n := by rw [levelsM_depth _ rfl, hDl]
  have HT := Lib.hid h
  have HC := Lib.hid hcnt
  clear h hcnt hDl
  go_enter Try.func50, Try.ntmps50
  go_wp2_with fail
  -- here: HT : Hid (RTree w ..), hcnt in HC: M.length ≤ 90000; the drawn region's list [(0, true), (1, true), (2, true), (3, true), (4, true), (5, true), (6, true), (7, true), (8, false), (9, true)], its operations after the call 1
  have nS : ¬ (u = c ∨ v.ownBlock = some u) := HT.out.book.far HT.out.blk (by decide) (by decide)
  have f1 : ∀ W, Upd (fun k => k = c ∨ v.ownBlock = some k) w W → W.cell? ⟨u, 0, none⟩ = some (.pointer (some ⟨c, 0, none⟩)) := fun W hW => hW.cell HT.out.c0 nS
  have f2 : ∀ W, Upd (fun k => k = c ∨ v.ownBlock = some k) w W → W.cell? ⟨u, 1, none⟩ = some (.slice (some ⟨gl, 0, none⟩) n n) := fun W hW => hW.cell HT.out.c1 nS
  clear nS
  refine wp_region_ord [(0, true), (1, true), (2, true), (3, true), (4, true), (5, true), (6, true), (7, true), (8, false), (9, true)] (by kernel_rfl) (by kernel_rfl) (Upd (fun k => k = c ∨ v.ownBlock = some k) w) (Upd.refl _ _).drew ?_
  simp only [ordOps, List.getD_cons_zero, List.getD_cons_succ]
  iterate 8 (refine wpOrd_held (fun K hK => ?_); go_simp; first | (apply Exists.intro; refine ⟨fun W hW => ?_, hK _ ?_⟩; (go_simp; first | done | exact rfl); clear hK K) | (refine hK _ ?_; clear hK K))
  have hSd : Upd (fun k => k = c ∨ v.ownBlock = some k) w w.drew := (Upd.refl _ _).drew
  refine wpOrd_step (fun K hK => ?_) hSd
  go_simp
  have hkd : Kept w w.drew := (Upd.refl _ _).drew
  refine (rt_Levels (HT.out.kept hkd) HC.out).mono ?_
  rintro e w2 ⟨vo, rfl, ho, v2, n2, xs2, hT2, ht2⟩
  have hS2 := hSd.trans ht2.1
  have hoP := own_baseP ho hkd.size
  have HT2 := Lib.hid (And.intro hT2 (And.intro ((RTo.kept hkd).trans ht2) hoP))
  obtain ⟨A2, k2, hvo, hk2, hcl2⟩ := hoP.cells
  subst hvo
  refine hK _ _ hS2 ?_
  clear hK K hSd hkd ho hoP hT2 ht2 f1 f2
  iterate 1 (refine wpOrd_held (fun K hK => ?_); go_simp; first | (apply Exists.intro; refine ⟨fun W hW => ?_, hK _ ?_⟩; (go_simp; first | done | exact rfl); clear hK K) | (refine hK _ ?_; clear hK K))
  refine wpOrd_nil ?_
  clear hS2
  have HF := Lib.hid (And.intro HT2.out.1 HT2.out.2.1)
  try rw [hpl]
  by_cases h1 : lv < 1
  · have d1 : decide (lv < 1) = true := decide_eq_true h1
    clear hno h1 hpl hcl2 hk2
    go_wp2
    go_ret2
    exact ⟨rfl, _, _, _, HF.out⟩
  · have d1 : decide (lv < 1) = false := decide_eq_false h1
    by_cases h2 : (depthM n : Int) ≤ lv
    · have d2 : decide ((depthM n : Int) ≤ lv) = true := decide_eq_true h2
      clear hno h1 h2 hpl hcl2 hk2
      go_wp2
      go_ret2
      exact ⟨rfl, _, _, _, HF.out⟩
    · have d2 : decide ((depthM n : Int) ≤ lv) = false := decide_eq_false h2
      by_cases h3 : pl < 0
      · have d3 : decide (pl < 0) = true := decide_eq_true h3
        clear hno h1 h2 h3 hpl hcl2 hk2
        go_wp2
        go_ret2
        exact ⟨rfl, _, _, _, HF.out⟩
      · have d3 : decide (pl < 0) = false := decide_eq_false h3
        obtain ⟨k, l, rfl, hl, hle⟩ : ∃ k : Nat, ∃ l, lv = k ∧ (levelsM shaM (leafD li))[k]? = some l ∧ (l.length : Int) ≤ pl := by
          rcases hno with h | h | h | h
          · exact absurd h h1
          · exact absurd h h2
          · exact absurd h h3
          · exact h
        obtain ⟨hk, he⟩ := List.getElem?_eq_some_iff.1 hl
        obtain ⟨g, o, A3, k3, rfl, hcell, -, -⟩ := hcl2 k hk
        rw [he] at hcell
        have hk1 : (k : Int) < (depthM n : Int) := by omega
        have hk1n : k < depthM n := by omega
        have d4 : decide ((l.length : Int) ≤ pl) = true := decide_eq_true hle
        generalize depthM n = dp at *
        generalize l.length = ln at *
        clear hno h1 h2 h3 hpl hcl2 hk2 hk he hl hle
        go_wp2
        go_ret2
        exact ⟨rfl, _, _, _, HF.out⟩
set_option maxHeartbeats 1600000 in
set_option maxRecDepth 20000 in
theorem ref10_Parts (h : RTree w B u c v n0 xs M gl n li) (hcnt : M.length ≤ 90000) (k j : Nat) {l l1 : List Dig} (h0 : (levelsM shaM (leafD li))[k]? = some l) (h1 : (levelsM shaM (leafD li))[k + 1]? = some l1) (hj : j < l1.length) (hjb : j ≤ 1024) (hll : l.length ≤ 1024) :
    Calls Try.prog 50 #[.pointer (some ⟨u, 0, none⟩), .int .i64 (k + 1 : Nat), .int .i64 j] w fun e W => ∃ vo, e = .returned (.tuple #[vo, .int .i64 0]) ∧ OwnD W w.heap.size vo (group l j) ∧ ∃ v' n' xs', RTree W B u c v' n' xs' M gl n li ∧ RTo c v w v' W := by
  have HT := Lib.hid h
  have HC := Lib.hid hcnt
  clear h hcnt
  obtain ⟨k1, hk1⟩ : ∃ k1, k1 = k + 1 := ⟨_, rfl⟩
  rw [← hk1] at h1 ⊢
  replace hk1 := Lib.hid hk1
  go_enter Try.func50, Try.ntmps50
  go_wp2_with fail
  -- here: HT : Hid (RTree w ..), hcnt in HC: M.length ≤ 90000; the drawn region's list [(0, true), (1, true), (2, true), (3, true), (4, true), (5, true), (6, true), (7, true), (8, false), (9, true)], its operations after the call 1
  have nS : ¬ (u = c ∨ v.ownBlock = some u) := HT.out.book.far HT.out.blk (by decide) (by decide)
  have f1 : ∀ W, Upd (fun k => k = c ∨ v.ownBlock = some k) w W → W.cell? ⟨u, 0, none⟩ = some (.pointer (some ⟨c, 0, none⟩)) := fun W hW => hW.cell HT.out.c0 nS
  have f2 : ∀ W, Upd (fun k => k = c ∨ v.ownBlock = some k) w W → W.cell? ⟨u, 1, none⟩ = some (.slice (some ⟨gl, 0, none⟩) n n) := fun W hW => hW.cell HT.out.c1 nS
  clear nS
  refine wp_region_ord [(0, true), (1, true), (2, true), (3, true), (4, true), (5, true), (6, true), (7, true), (8, false), (9, true)] (by kernel_rfl) (by kernel_rfl) (Upd (fun k => k = c ∨ v.ownBlock = some k) w) (Upd.refl _ _).drew ?_
  simp only [ordOps, List.getD_cons_zero, List.getD_cons_succ]
  iterate 8 (refine wpOrd_held (fun K hK => ?_); go_simp; first | (apply Exists.intro; refine ⟨fun W hW => ?_, hK _ ?_⟩; (go_simp; first | done | exact rfl); clear hK K) | (refine hK _ ?_; clear hK K))
  have hSd : Upd (fun k => k = c ∨ v.ownBlock = some k) w w.drew := (Upd.refl _ _).drew
  refine wpOrd_step (fun K hK => ?_) hSd
  go_simp
  have hkd : Kept w w.drew := (Upd.refl _ _).drew
  refine (rt_Levels (HT.out.kept hkd) HC.out).mono ?_
  rintro e w2 ⟨vo, rfl, ho, v2, n2, xs2, hT2, ht2⟩
  have hS2 := hSd.trans ht2.1
  have hoP := own_baseP ho hkd.size
  have HT2 := Lib.hid (And.intro hT2 (And.intro ((RTo.kept hkd).trans ht2) hoP))
  obtain ⟨A2, k2, hvo, hk2, hcl2⟩ := hoP.cells
  subst hvo
  refine hK _ _ hS2 ?_
  clear hK K hSd hkd ho hoP hT2 ht2 f1 f2
  iterate 1 (refine wpOrd_held (fun K hK => ?_); go_simp; first | (apply Exists.intro; refine ⟨fun W hW => ?_, hK _ ?_⟩; (go_simp; first | done | exact rfl); clear hK K) | (refine hK _ ?_; clear hK K))
  refine wpOrd_nil ?_
  clear hS2
  obtain ⟨hk0, he0⟩ := List.getElem?_eq_some_iff.1 h0
  obtain ⟨hkk, he1⟩ := List.getElem?_eq_some_iff.1 h1
  obtain ⟨g, o, A3, k3, rfl, hcell, -, -⟩ := hcl2 k1 hkk
  obtain ⟨g', o', A4, k4, hA4, hcell2, -, hod⟩ := hcl2 k hk0
  simp only [Option.some.injEq, Addr.mk.injEq, and_true] at hA4
  obtain ⟨rfl, rfl⟩ := hA4
  rw [he1] at hcell
  rw [he0] at hcell2 hod
  obtain ⟨A5, k5, he5, -, hd5⟩ := OwnD.digs hod
  simp only [Value.slice.injEq] at he5
  obtain ⟨rfl, -, rfl⟩ := he5
  have HF4 := ref10_four k4 (4 * j) hd5 (by omega) hll
  rw [show 4 * j / 4 = j by omega] at HF4
  obtain ⟨pl, hpl⟩ : ∃ pl, pl = (levelsM shaM (leafD li)).length := ⟨_, rfl⟩
  rw [← hpl] at hkk ⊢
  have hk1o := hk1.out
  have d1 : decide ((k1 : Int) < 1) = false := decide_eq_false (by omega)
  have d1n : decide (k1 < 1) = false := decide_eq_false (by omega)
  have d2 : decide ((pl : Int) ≤ (k1 : Int)) = false := decide_eq_false (by omega)
  have d2n : decide (pl ≤ k1) = false := decide_eq_false (by omega)
  have d3 : decide ((j : Int) < 0) = false := decide_eq_false (by omega)
  have d4 : decide ((l1.length : Int) ≤ (j : Int)) = false := decide_eq_false (by omega)
  have d4n : decide (l1.length ≤ j) = false := decide_eq_false (by omega)
  have e1 : (k1 : Int) - 1 = (k : Int) := by omega
  have e2 : (4 : Int) * (j : Int) = ((4 * j : Nat) : Int) := by omega
  have b1 : (k1 : Int) < (pl : Int) := by omega
  have b2 : (k : Int) < (pl : Int) := by omega
  have b2n : k < pl := by omega
  have b3 : (pl : Int) ≤ 2000 := by
    have h3 : (levelsM shaM (leafD li)).length = depthM (leafD li).length := levelsM_depth _ rfl
    have h4 := depthM_le _ (leafD li) rfl
    have h5 := HT.out.n2
    rw [leafD_length, HT.out.len] at h3 h4
    omega
  have b4 : (j : Int) ≤ 1024 := by omega
  have b5 : (k1 : Int) ≤ 2000 := by omega
  have HF := Lib.hid (And.intro HT2.out.1 HT2.out.2.1)
  generalize l1.length = ln1 at *
  generalize l.length = ln at *
  clear h0 h1 hk1o hpl hk2 hcl2 hk0 he0 he1 hod hd5 hll hj hjb hkk HT2 HT
  obtain ⟨f4, hf4⟩ : ∃ f4, f4 = 4 * j := ⟨_, rfl⟩
  rw [← hf4] at HF4 e2
  clear hf4
  go_wp2_with fail
  refine HF4.mono ?_
  clear HF4
  rintro e w5 ⟨v5, rfl, hv5, hu5⟩
  have HG := Lib.hid (show OwnD w5 w.heap.size v5 (group l j) ∧ ∃ v' n' xs', RTree w5 B u c v' n' xs' M gl n li ∧ RTo c v w v' w5 from ⟨own_base hv5 HF.out.2.1.size, _, _, _, HF.out.1.kept hu5, HF.out.2.trans (RTo.kept hu5)⟩)
  clear hv5 hu5
  go_wp2
  go_ret2
  refine ⟨v5, rfl, ?_⟩
  obtain ⟨y1, y2, y3, y4, y5, y6⟩ := HG.out
  first | exact ⟨y1, y2, y3, y4, y5, y6⟩ | exact ⟨y1, y2, ⟨y3, y4, y5⟩, y6⟩
end
end Go.Proofs.Ytnncpjekcljfbaa
/- Two trees, the program's and the document's. -/
namespace Go.Proofs.Ytnncpjekcljfbaa
open Go.RowKit

/-- both trees, made behind w -/
structure Pair (w W : World) (b r q lo hi t : Nat) (L : List Bytes) (D : List Dig) (B u c : Nat) (v : Value) (n0 : Int) (xs : List SlC) (M : List Bytes) (gl n : Nat) (li : List (SlC × Bytes)) : Prop where
  ink : Ink0 w W b r q L
  tree : TreeAt W lo hi t b D
  rt : RTree W B u c v n0 xs M gl n li
  wlo : w.heap.size ≤ lo
  wc : w.heap.size ≤ c
  clo : c < lo
  lohi : lo ≤ hi
  hiB : hi ≤ B
  hiu : hi ≤ u
section
variable {w W W' : World} {b r q lo hi t : Nat} {L L' : List Bytes} {D D' : List Dig} {B u c : Nat} {v v' : Value} {n0 n0' : Int} {xs xs' : List SlC} {M M' : List Bytes} {gl n : Nat} {li li' : List (SlC × Bytes)}
theorem Pair.kept (h : Pair w W b r q lo hi t L D B u c v n0 xs M gl n li) (hu : Kept W W') : Pair w W' b r q lo hi t L D B u c v n0 xs M gl n li :=
  ⟨h.ink.kept hu, h.tree.kept hu, h.rt.kept hu, h.wlo, h.wc, h.clo, h.lohi, h.hiB, h.hiu⟩
theorem Pair.glB (h : Pair w W b r q lo hi t L D B u c v n0 xs M gl n li) : B ≤ gl := (World.ownsRow.lt h.rt.own.1 gl rfl).1
theorem Pair.far (h : Pair w W b r q lo hi t L D B u c v n0 xs M gl n li) {k : Nat} (hk : k = c ∨ v.ownBlock = some k ∨ k = gl) : w.heap.size ≤ k ∧ (lo ≤ k → ¬ k < hi) := by
  have h1 := h.wlo
  have h2 := h.wc
  have h3 := h.clo
  have h4 := h.hiB
  have h5 := h.glB
  have h6 := h.lohi
  rcases hk with rfl | e | rfl
  · exact ⟨h2, by omega⟩
  · have := (World.ownsRow.lt h.rt.book.row k e).1; omega
  · omega
theorem Pair.aloof (h : Pair w W b r q lo hi t L D B u c v n0 xs M gl n li) : Aloof W (fun k => k = c ∨ v.ownBlock = some k ∨ k = gl) := fun k hk cs ty fr hc => by
  rcases hk with e | e | rfl
  · exact h.rt.book.aloof k (.inl e) cs ty fr hc
  · exact h.rt.book.aloof k (.inr e) cs ty fr hc
  · obtain ⟨cur, h1⟩ := own_cells h.rt.own.1 (k := k) rfl
    rw [h1] at hc
    simp only [Option.some.injEq, Obj.cells.injEq] at hc
    exact .inr (.inr hc.2.1.symm)
theorem BookL.aloofT {b r q : Nat} {L : List Bytes} (hb : BookL W b r q L) {S : Nat → Prop} (hu : Upd S W W') (hs : ∀ k, S k → ∃ cs ty fr, W.heap[k]? = some (.cells cs ty fr) ∧ ty ≠ 125) : BookL W' b r q L := by
  have key : ∀ k, S k → ¬ Book3 b r q k := fun k e => by
    obtain ⟨cs, ty, fr, hc, ht⟩ := hs k e
    exact hb.not hc ht
  exact hb.upd hu (fun e => key _ e (.inl rfl)) (fun e => key _ e (.inr (.inl rfl))) (fun e => key _ e (.inr (.inr rfl)))
/-- a Set of the document's tree -/
theorem Pair.ref (h : Pair w W b r q lo hi t L D B u c v n0 xs M gl n li) (hr : RTree W' B u c v' n0' xs' M' gl n li') (ht : RT2 c gl v W v' W') : Pair w W' b r q lo hi t L D B u c v' n0' xs' M' gl n li' := by
  refine ⟨h.ink.step (h.ink.book.aloofT ht.1 fun k hk => ?_) ht.1 (fun k hk => .inr (h.far hk).1), h.tree.upd ht.1 (fun k h1 h2 _ hk => (h.far hk).2 h1 h2), hr, h.wlo, h.wc, h.clo, h.lohi, h.hiB, h.hiu⟩
  rcases hk with e | e | rfl
  · rw [e]; exact ⟨_, _, _, h.rt.book.blk, by decide⟩
  · obtain ⟨cur, hc⟩ := own_cells h.rt.book.row e; exact ⟨_, _, _, hc, by decide⟩
  · obtain ⟨cur, hc⟩ := own_cells h.rt.own.1 (k := k) rfl; exact ⟨_, _, _, hc, by decide⟩
theorem RTo.to2 (h : RTo c v W v' W') : RT2 c gl v W v' W' := ⟨h.1.mono fun _ _ e => e.imp id .inl, h.2.1⟩
theorem pair_TSet (h : Pair w W b r q lo hi t L D B u c v n0 xs M gl n li) {A : Option Addr} {R : Bytes} (k : Nat) (hR : Byt W A R) (hl : R.length < 65536) (i : Nat) (hi' : i < D.length) :
    Calls Try.prog 25 #[.pointer (some ⟨t, 0, none⟩), .int .i64 i, .slice A R.length k] W fun e W' => e = .returned (.int .i64 0) ∧ Pair w W' b r q lo hi t (notesM (noteM L (leafIn R)) (setIns shaM (levelsM shaM D) i (leafM shaM R))) (D.set i (leafM shaM R)) B u c v n0 xs M gl n li ∧ Upd (fun k => Book3 b r q k ∨ (lo ≤ k ∧ k < hi)) W W' := by
  refine (tree_Set h.ink.book h.tree k hR hl i hi').mono fun e W' ⟨he, hT, hb, hu⟩ => ⟨he, ⟨h.ink.step hb hu (fun k e => e.imp id (fun e => Nat.le_trans h.wlo e.1)), hT, h.rt.upd hu (fun k hk ⟨cs, ty, fr, hc, ht⟩ e => ?_), h.wlo, h.wc, h.clo, h.lohi, h.hiB, h.hiu⟩, hu⟩
  rcases e with e | e
  · exact h.ink.book.not hc ht e
  · have h1 := h.hiB
    have h2 := h.hiu
    have h3 := h.clo
    rcases hk with hk | rfl | rfl <;> omega
theorem pair_USet (h : Pair w W b r q lo hi t L D B u c v n0 xs M gl n li) (hcnt : M.length ≤ 80000) {A : Option Addr} {R : Bytes} (k : Nat) (hR : Byt W A R) (hl : R.length < 65536) (i : Nat) (hi' : i < n) :
    Calls Try.prog 26 #[.pointer (some ⟨u, 0, none⟩), .int .i64 i, .slice A R.length k] W fun e W' => e = .returned (.int .i64 0) ∧ ∃ v' n' xs' li', Pair w W' b r q lo hi t L D B u c v' n' xs' (notesM (notesM M (leafI li')) (insM shaM (leafD li'))) gl n li' ∧ li'.map (·.2) = (li.map (·.2)).set i R ∧ RT2 c gl v W v' W' ∧ ∀ g, g < W.heap.size → NoB xs li g → NoB xs' li' g :=
  (ref_TSet h.rt hcnt i hi' k hR hl).mono fun _ _ ⟨he, v', n', xs', li', hr, hm, ht, hn⟩ => ⟨he, v', n', xs', li', h.ref hr ht, hm, ht, hn⟩
theorem notes2_length (M : List Bytes) (li : List (SlC × Bytes)) : (notesM (notesM M (leafI li)) (insM shaM (leafD li))).length ≤ M.length + 2 * li.length := by
  have h1 := notesM_length (notesM M (leafI li)) (insM shaM (leafD li))
  have h2 := notesM_length M (leafI li)
  have h3 := insM_length _ (leafD li) rfl
  rw [leafI_length] at h2
  rw [leafD_length] at h3
  omega
/-- the program's tree made, the document's book still empty -/
structure Half (w W : World) (b r q lo hi t : Nat) (L : List Bytes) (D : List Dig) (c : Nat) (n0 : Int) : Prop where
  ink : Ink0 w W b r q L
  tree : TreeAt W lo hi t b D
  bk : RefBook W c c (.slice none 0 0) n0 [] []
  wlo : w.heap.size ≤ lo
  wc : w.heap.size ≤ c
  clo : c < lo
  lohi : lo ≤ hi
  sz : hi ≤ W.heap.size
theorem Half.kept (h : Half w W b r q lo hi t L D c n0) (hu : Kept W W') : Half w W' b r q lo hi t L D c n0 :=
  ⟨h.ink.kept hu, h.tree.kept hu, h.bk.kept hu, h.wlo, h.wc, h.clo, h.lohi, Nat.le_trans h.sz hu.size⟩
theorem half_New (hI : Ink0 w W b r q L) (hr : RefBook W c c (.slice none 0 0) n0 [] []) (hc : w.heap.size ≤ c) (n : Nat) (h1 : 1 ≤ n) (hn : n ≤ 1024) :
    Calls Try.prog 21 #[.pointer (some ⟨b, 0, none⟩), .int .i64 n] W fun e W1 => ∃ t, e = .returned (.tuple #[.pointer (some ⟨t, 0, none⟩), .int .i64 0]) ∧ ∃ lo hi, Half w W1 b r q lo hi t (notesM (noteM L (leafIn [])) (insM shaM (List.replicate n (leafM shaM [])))) (List.replicate n (leafM shaM [])) c n0 :=
  (tree_New hI.book n h1 hn).mono fun _ _ ⟨t, he, _, hT, hb, hu⟩ => ⟨t, he, _, _, hI.to hb hu, hT, hr.book hI.book hu, hI.upd.size, hc, hr.lt, hu.size, Nat.le_refl _⟩
theorem pair_New (h : Half w W b r q lo hi t L D c n0) (n : Nat) (h1 : 1 ≤ n) (hn : n ≤ 1024) :
    Calls Try.prog 23 #[.pointer (some ⟨c, 0, none⟩), .int .i64 n] W fun e W2 => ∃ u, e = .returned (.tuple #[.pointer (some ⟨u, 0, none⟩), .int .i64 0]) ∧
      ∃ B v n0 xs gl li, Pair w W2 b r q lo hi t L D B u c v n0 xs (notesM (notesM [] (List.replicate n (leafIn []))) (insM shaM (List.replicate n (leafM shaM [])))) gl n li ∧ li.map (·.2) = List.replicate n [] := by
  have hb : RefBook W W.heap.size c (.slice none 0 0) n0 [] [] := ⟨h.bk.blk, OwnRows.nil _ _ _, rfl, fun i hi => absurd hi (Nat.not_lt_zero i), h.bk.sz⟩
  refine (ref_TNew hb (Nat.le_refl _) (by simp) n h1 hn).mono ?_
  rintro e W2 ⟨u, rfl, hu, v', n', xs', gl, li, hT, hm, ht⟩
  have hcs : ∀ k, (k = c ∨ (Value.slice none 0 0).ownBlock = some k) → k = c := fun k e => e.elim id (fun e => by cases e)
  refine ⟨u, rfl, W.heap.size, v', n', xs', gl, li, ⟨h.ink.step (h.ink.book.ref hb ht.1) ht.1 (fun k e => .inr (by rw [hcs k e]; exact h.wc)), h.tree.upd ht.1 (fun k h1 h2 _ e => by have := hcs k e; have := h.clo; omega), hT, h.wlo, h.wc, h.clo, h.lohi, h.sz, Nat.le_trans h.sz hu⟩, hm⟩
theorem Half.keptW (h : Half w W b r q lo hi t L D c n0) : Kept w W := h.ink.upd
end

/-! ### what the program's proofs tell, of all numbers -/
def buildOk (D : List Dig) (i : Int) : Prop := 0 ≤ i ∧ i < D.length
instance (D : List Dig) (i : Int) : Decidable (buildOk D i) := inferInstanceAs (Decidable (_ ∧ _))
def buildE (D : List Dig) (i : Int) : Int := if buildOk D i then 0 else 9
def buildP (D : List Dig) (i : Int) : List (List Dig) := if buildOk D i then proofM D (depthM D.length - 1) i.toNat else []
/-- the level that is told, if there is one, and the one below -/
def lev (D : List Dig) (k : Nat) : List Dig := ((levelsM shaM D)[k]?).getD []
def partsOk (D : List Dig) (lv pl : Int) : Prop := 1 ≤ lv ∧ lv < depthM D.length ∧ 0 ≤ pl ∧ pl < (lev D lv.toNat).length
instance (D : List Dig) (lv pl : Int) : Decidable (partsOk D lv pl) := inferInstanceAs (Decidable (_ ∧ _ ∧ _ ∧ _))
def partsE (D : List Dig) (lv pl : Int) : Int := if partsOk D lv pl then 0 else 9
def partsP (D : List Dig) (lv pl : Int) : List Dig := if partsOk D lv pl then group (lev D (lv.toNat - 1)) pl.toNat else []
theorem lev_some {D : List Dig} {k : Nat} (h : k < depthM D.length) : (levelsM shaM D)[k]? = some (lev D k) := by
  have h1 : (levelsM shaM D).length = depthM D.length := levelsM_depth _ rfl
  unfold lev
  rw [List.getElem?_eq_getElem (by omega)]; rfl
theorem proof_Build_Z {w : World} {lo hi t b : Nat} {D : List Dig} (h : TreeAt w lo hi t b D) (i : Int) :
    Calls Try.prog 47 #[.pointer (some ⟨t, 0, none⟩), .int .i64 i] w fun e W => ∃ v, e = .returned (.tuple #[v, .int .i64 (buildE D i)]) ∧ OwnP W w.heap.size v (buildP D i) ∧ Kept w W := by
  unfold buildE buildP
  by_cases hk : buildOk D i
  · rw [if_pos hk, if_pos hk]
    obtain ⟨h1, h2⟩ := hk
    obtain ⟨j, rfl⟩ : ∃ j : Nat, i = j := ⟨i.toNat, by omega⟩
    exact proof_Build h j (by omega)
  · rw [if_neg hk, if_neg hk]
    refine (proof_Build_out h i (by unfold buildOk at hk; omega)).mono fun e W ⟨he, hu⟩ => ⟨_, he, OwnP.nil _ _, hu⟩
theorem proof_Parts_Z {w : World} {lo hi t b : Nat} {D : List Dig} (h : TreeAt w lo hi t b D) (lv pl : Int) :
    Calls Try.prog 49 #[.pointer (some ⟨t, 0, none⟩), .int .i64 lv, .int .i64 pl] w fun e W => ∃ v, e = .returned (.tuple #[v, .int .i64 (partsE D lv pl)]) ∧ OwnD W w.heap.size v (partsP D lv pl) ∧ Kept w W := by
  unfold partsE partsP
  by_cases hk : partsOk D lv pl
  · rw [if_pos hk, if_pos hk]
    obtain ⟨h1, h2, h3, h4⟩ := hk
    obtain ⟨k, rfl⟩ : ∃ k : Nat, lv = (k + 1 : Nat) := ⟨lv.toNat - 1, by omega⟩
    obtain ⟨j, rfl⟩ : ∃ j : Nat, pl = j := ⟨pl.toNat, by omega⟩
    rw [show ((k + 1 : Nat) : Int).toNat = k + 1 by omega] at h4 ⊢
    exact proof_Parts h k j (lev_some (by omega)) (lev_some (by omega)) (by omega)
  · rw [if_neg hk, if_neg hk]
    have hend : Calls Try.prog 49 #[.pointer (some ⟨t, 0, none⟩), .int .i64 lv, .int .i64 pl] w fun e W => e = .returned (.tuple #[.slice none 0 0, .int .i64 9]) ∧ Kept w W := by
      by_cases h1 : lv < 1
      · exact proof_Parts_low h lv pl h1
      · by_cases h2 : (depthM D.length : Int) ≤ lv
        · exact proof_Parts_deep h lv pl (by omega) h2
        · obtain ⟨k, rfl⟩ : ∃ k : Nat, lv = k := ⟨lv.toNat, by omega⟩
          refine proof_Parts_off h k pl (lev_some (by omega)) (by omega) ?_
          have h3 : ¬ (1 ≤ (k : Int) ∧ (k : Int) < depthM D.length ∧ 0 ≤ pl ∧ pl < (lev D (k : Int).toNat).length) := hk
          rw [show (k : Int).toNat = k by omega] at h3
          omega
    exact hend.mono fun e W ⟨he, hu⟩ => ⟨_, he, OwnRows.nil _ _ _, hu⟩
section
variable {w W W' : World} {b r q lo hi t : Nat} {L L' : List Bytes} {D D' : List Dig} {B u c : Nat} {v v' : Value} {n0 n0' : Int} {xs xs' : List SlC} {M M' : List Bytes} {gl n : Nat} {li li' : List (SlC × Bytes)}
theorem ref_Build_Z (h : RTree w B u c v n0 xs M gl n li) (hcnt : M.length ≤ 90000) (hD : leafD li = D) (i : Int) :
    Calls Try.prog 48 #[.pointer (some ⟨u, 0, none⟩), .int .i64 i] w fun e W => ∃ vo, e = .returned (.tuple #[vo, .int .i64 (buildE D i)]) ∧ OwnP W w.heap.size vo (buildP D i) ∧ ∃ v' n' xs', RTree W B u c v' n' xs' M gl n li ∧ RTo c v w v' W := by
  have hDl : D.length = n := by rw [← hD, leafD_length, h.len]
  unfold buildE buildP
  by_cases hk : buildOk D i
  · rw [if_pos hk, if_pos hk]
    obtain ⟨h1, h2⟩ := hk
    obtain ⟨j, rfl⟩ : ∃ j : Nat, i = j := ⟨i.toNat, by omega⟩
    have := ref10_Build h hcnt j (by omega)
    rw [hD, show depthM n = depthM D.length by rw [hDl]] at this
    exact this
  · rw [if_neg hk, if_neg hk]
    refine (ref10_Build_out h i (by unfold buildOk at hk; omega)).mono fun e W ⟨he, hu⟩ => ⟨_, he, OwnP.nil _ _, _, _, _, hu ▸ h, RTo.kept (hu ▸ Upd.refl _ _)⟩
theorem ref_Parts_Z (h : RTree w B u c v n0 xs M gl n li) (hcnt : M.length ≤ 90000) (hD : leafD li = D) (lv pl : Int) :
    Calls Try.prog 50 #[.pointer (some ⟨u, 0, none⟩), .int .i64 lv, .int .i64 pl] w fun e W => ∃ vo, e = .returned (.tuple #[vo, .int .i64 (partsE D lv pl)]) ∧ OwnD W w.heap.size vo (partsP D lv pl) ∧ ∃ v' n' xs', RTree W B u c v' n' xs' M gl n li ∧ RTo c v w v' W := by
  have hDl : D.length = n := by rw [← hD, leafD_length, h.len]
  have hle : ∀ (k : Nat) (l : List Dig), (levelsM shaM D)[k]? = some l → l.length ≤ 1024 := fun k l hl => by
    have := levelsM_le _ (l := D) rfl l (List.mem_of_getElem? hl)
    have := h.n2; omega
  unfold partsE partsP
  by_cases hk : partsOk D lv pl
  · rw [if_pos hk, if_pos hk]
    obtain ⟨h1, h2, h3, h4⟩ := hk
    obtain ⟨k, rfl⟩ : ∃ k : Nat, lv = (k + 1 : Nat) := ⟨lv.toNat - 1, by omega⟩
    obtain ⟨j, rfl⟩ : ∃ j : Nat, pl = j := ⟨pl.toNat, by omega⟩
    rw [show ((k + 1 : Nat) : Int).toNat = k + 1 by omega] at h4 ⊢
    have s1 := lev_some (D := D) (k := k) (by omega)
    have s2 := lev_some (D := D) (k := k + 1) (by omega)
    have := hle _ _ s2
    exact ref10_Parts h hcnt k j (by rw [hD]; exact s1) (by rw [hD]; exact s2) (by omega) (by omega) (hle _ _ s1)
  · rw [if_neg hk, if_neg hk]
    refine (ref10_Parts_no h hcnt lv pl ?_).mono fun e W ⟨he, hu⟩ => ⟨_, he, OwnRows.nil _ _ _, hu⟩
    by_cases h1 : lv < 1
    · exact .inl h1
    · by_cases h2 : (depthM n : Int) ≤ lv
      · exact .inr (.inl h2)
      · by_cases h3 : pl < 0
        · exact .inr (.inr (.inl h3))
        · obtain ⟨k, rfl⟩ : ∃ k : Nat, lv = k := ⟨lv.toNat, by omega⟩
          refine .inr (.inr (.inr ⟨k, _, rfl, by rw [hD]; exact lev_some (by rw [hDl]; omega), ?_⟩))
          have h4 : ¬ (1 ≤ (k : Int) ∧ (k : Int) < depthM D.length ∧ 0 ≤ pl ∧ pl < (lev D (k : Int).toNat).length) := hk
          rw [show (k : Int).toNat = k by omega, hDl] at h4
          omega
end
end Go.Proofs.Ytnncpjekcljfbaa
/- The statements' trees: both. -/
namespace Go.Proofs.Ytnncpjekcljfbaa
open Go.RowKit

attribute [local irreducible] wpOrd
theorem results_tmp4 {fn : Func} {t u v x : Tmp} (h : fn.results = #[.tmp t, .tmp u, .tmp v, .tmp x]) (tmps : Array Value) (P : Program) (w : World) :
    (results fn tmps).run P w = .ok (.tuple #[tmps.getD t undef, tmps.getD u undef, tmps.getD v undef, tmps.getD x undef]) w := by
  simp [results, h]
theorem law_both_none {w : World} {A : Option Addr} (c0 : Nat) :
    Calls Try.prog 45 #[.slice A 0 c0] w fun e W => ∃ b, e = .returned (.tuple #[.pointer none, .pointer (some ⟨b, 0, none⟩), .pointer none, .bool false]) ∧ Kept w W := by
  go_enter Try.func45, Try.ntmps45
  go_wp2_with fail
  refine (law_book _).mono ?_
  rintro e w1 ⟨b, r, q, rfl, hI⟩
  have HI := Lib.hid hI
  clear hI
  go_wp2_with fail
  refine (ref_New _).mono ?_
  rintro e w2 ⟨rfl, hr, hu⟩
  have HF := Lib.hid (show Kept w w2 from HI.out.upd.then hu (fun _ _ h => h))
  clear hr hu HI
  go_wp2_with fail
  refine (tree_New_bad 0 (.inl (by omega))).mono ?_
  rintro e w3 ⟨rfl, hu⟩
  replace HF := Lib.hid (HF.out.then hu (fun _ _ h => h))
  clear hu
  go_wp2_with fail
  refine (ref_TNew_bad 0 (.inl (by omega))).mono ?_
  rintro e w4 ⟨rfl, rfl⟩
  go_wp2
  (try simp only [Exit.inBlock, Exit.then])
  refine bodyPost_ret (results_tmp4 rfl _ _ _) rfl ?_
  exact ⟨b, rfl, HF.out⟩
set_option maxHeartbeats 1600000 in
set_option maxRecDepth 20000 in
theorem law_both {w : World} {A : Option Addr} {l : List (SlC × Bytes)} (c0 : Nat) (hl : LeavesAt w A l) (h1 : 1 ≤ l.length) (hlm : l.length ≤ 140737488351232) :
    Calls Try.prog 45 #[.slice A l.length c0] w fun e W => ∃ t b u, e = .returned (.tuple #[.pointer (some ⟨t, 0, none⟩), .pointer (some ⟨b, 0, none⟩), .pointer (some ⟨u, 0, none⟩), .bool true]) ∧ ∃ r q lo hi L B c v n0 xs M gl li, Pair w W b r q lo hi t L ((bytesL l).map (leafM shaM)) B u c v n0 xs M gl (bytesL l).length li ∧ li.map (·.2) = bytesL l ∧ M.length ≤ 10000 := by
  obtain ⟨n, hn⟩ : ∃ n, n = min l.length 40 := ⟨_, rfl⟩
  have hls : (bytesL l).length = n := by rw [bytesL_length, hn]; omega
  have hn1 : 1 ≤ n ∧ n ≤ 40 ∧ n ≤ l.length := by omega
  have e1 : (if (40 : Int) < (l.length : Int) then (40 : Int) else (l.length : Int)) = (n : Int) := by split <;> omega
  have e2 : (if 40 < l.length then (40 : Int) else (l.length : Int)) = (n : Int) := by split <;> omega
  have HN := Lib.hid hn1
  have HX := Lib.hid (And.intro hl (And.intro hls hlm))
  clear hl hls hlm hn hn1 h1
  obtain ⟨ll, hll⟩ : ∃ ll, ll = l.length := ⟨_, rfl⟩
  rw [← hll] at e1 e2 ⊢
  have HLL := Lib.hid hll
  clear hll
  go_enter Try.func45, Try.ntmps45
  go_wp2_with fail
  refine (law_book _).mono ?_
  rintro e w1 ⟨b, r, q, rfl, hI⟩
  have HI := Lib.hid hI
  clear hI
  go_wp2_with fail
  refine (ref_New _).mono ?_
  rintro e w2 ⟨rfl, hr, hu⟩
  obtain ⟨c, hc⟩ : ∃ c, c = w1.heap.size := ⟨_, rfl⟩
  rw [← hc] at hr ⊢
  have HI2 := Lib.hid (And.intro (HI.out.kept hu) (And.intro hr (show w.heap.size ≤ c by rw [hc]; exact HI.out.upd.size)))
  clear hr hu hc HI
  go_wp2_with fail
  clear e1 e2
  refine (half_New HI2.out.1 HI2.out.2.1 HI2.out.2.2 n HN.out.1 (by have := HN.out; omega)).mono ?_
  rintro e w3 ⟨t, rfl, lo, hi, hH⟩
  have HH := Lib.hid hH
  clear hH HI2
  go_wp2_with fail
  refine (pair_New HH.out n HN.out.1 (by have := HN.out; omega)).mono ?_
  rintro e w4 ⟨u, rfl, B, v, n0, xs, gl, li, hP, hli⟩
  have HP := Lib.hid (And.intro hP hli)
  clear hP hli HH
  go_wp2_with fail
  go_loopw [13] (fun u1 wr => ∃ (k : Nat) (Rs : List Bytes) (L' : List Bytes) (v' : Value) (n0' : Int) (xs' : List SlC) (M' : List Bytes) (li' : List (SlC × Bytes)), k ≤ n ∧ u1 = .int .i64 k ∧ Rs.length = n ∧ (∀ j, j < k → Rs[j]? = (bytesL l)[j]?) ∧ Pair w wr b r q lo hi t L' (Rs.map (leafM shaM)) B u c v' n0' xs' M' gl n li' ∧ li'.map (·.2) = Rs ∧ M'.length ≤ 200 + 100 * k) (fun u1 _ => 2000 - (intOf u1).toNat)
  case atStart =>
    refine ⟨0, List.replicate n [], _, v, n0, xs, _, li, Nat.zero_le _, rfl, List.length_replicate, fun j hj => absurd hj (Nat.not_lt_zero j), by rw [List.map_replicate]; exact HP.out.1, HP.out.2, ?_⟩
    have h1 := notesM_length (notesM [] (List.replicate n (leafIn []))) (insM shaM (List.replicate n (leafM shaM [])))
    have h2 := notesM_length [] (List.replicate n (leafIn []))
    have h3 := insM_length _ (List.replicate n (leafM shaM [])) rfl
    rw [List.length_replicate] at h2 h3
    have := HN.out
    simp at h2
    omega
  case round =>
    clear HP
    obtain ⟨k, Rs, L', v', n0', xs', M', li', hk, rfl, hRn, hRk, hP, hli, hM⟩ := hrel
    rcases Nat.lt_or_ge k n with hlt | hge
    · have hk1 : (k : Int) < (n : Int) := by omega
      have hkl : k < l.length := by have := HN.out; omega
      have hbk : (bytesL l)[k]? = some (l[k].2.take 100) := bytesL_get hkl (by have := HN.out; omega)
      obtain ⟨g1, o1, A1, c1, hA1, hcap, hRm, hcell⟩ := leaf_cell HX.out.1 hkl
      have f1 : ∀ W, Kept wr W → W.cell? ⟨g1, o1 + k, none⟩ = some (.slice A1 l[k].2.length c1) := fun W hW => (hcell W (hP.ink.upd.then hW (fun _ _ h => h))).1
      have hby := fun W hW => (hcell W hW).2
      subst hA1
      generalize l[k].2 = R at *
      obtain ⟨z, hz, hm1, hm2⟩ := min_num R.length
      have hzl : (R.take 100).length = z := by rw [List.length_take]; omega
      have hsl : ∀ W : World, (Instr.sliceAt 35 (.slice A1 R.length c1) none (some (.int .i64 (z : Int))) none).run Try.prog W = .ok (.slice A1 z c1) W := fun W => slice_u8_h W A1 R.length c1 z (by omega)
      have hkll : (k : Int) < (ll : Int) := by have := HLL.out; omega
      have hkll2 : k < ll := by have := HLL.out; omega
      have hk40 : (k : Int) ≤ 40 := by have := HN.out; omega
      have HQ := Lib.hid (And.intro hRn (And.intro hRk (And.intro (hP.kept (show Kept wr wr.drew from (Upd.refl _ _).drew)) (And.intro hli (And.intro hM (And.intro hbk (And.intro hlt (And.intro (show ∀ W, Kept w W → Byt W A1 R from hby) hzl))))))))
      clear hRn hRk hP hli hM hbk hlt hkl hk hcap hRm hcell hby hz hzl
      go_wp2_with fail
      refine wp_region_ord [(0, true), (1, true), (2, true), (3, true), (4, true), (5, true), (6, true), (7, true), (8, true), (9, true), (10, true), (11, true)] (by kernel_rfl) (by kernel_rfl) (Kept wr) (Upd.refl _ _).drew ?_
      simp only [ordOps, List.getD_cons_zero, List.getD_cons_succ]
      iterate 12 (refine wpOrd_held (fun K hK => ?_); go_simp; first | (apply Exists.intro; refine ⟨fun W hW => ?_, hK _ ?_⟩; (go_simp; first | done | exact rfl); clear hK K) | (refine hK _ ?_; clear hK K))
      refine wpOrd_nil ?_
      clear f1 hsl hm1 hm2
      generalize wr.drew = wd at *
      have hzz : z ≤ 100 := by have := HQ.out.2.2.2.2.2.2.2.2; rw [List.length_take] at this; omega
      have HZ := Lib.hid hzz
      clear hzz
      go_wp2_with fail
      have HG := pair_TSet HQ.out.2.2.1 c1 ((HQ.out.2.2.2.2.2.2.2.1 _ HQ.out.2.2.1.ink.upd).take 100) (by rw [HQ.out.2.2.2.2.2.2.2.2]; have := HZ.out; omega) k (by rw [List.length_map, HQ.out.1]; exact HQ.out.2.2.2.2.2.2.1)
      rw [HQ.out.2.2.2.2.2.2.2.2] at HG
      refine HG.mono ?_
      clear HG
      rintro e we ⟨rfl, hP, -⟩
      have HPe := Lib.hid hP
      clear hP
      have hbe : Byt we A1 (R.take 100) := (HQ.out.2.2.2.2.2.2.2.1 _ HPe.out.ink.upd).take 100
      go_wp2_with fail
      have HG := pair_USet HPe.out (by have := HQ.out.2.2.2.2.1; have := HN.out; have := HQ.out.2.2.2.2.2.2.1; omega) c1 hbe (by rw [HQ.out.2.2.2.2.2.2.2.2]; have := HZ.out; omega) k HQ.out.2.2.2.2.2.2.1
      rw [HQ.out.2.2.2.2.2.2.2.2] at HG
      refine HG.mono ?_
      clear HG
      rintro e wf ⟨rfl, v5, n5, xs5, li5, hP, hm5, -, -⟩
      have HF := Lib.hid (And.intro hP hm5)
      clear hP hm5 hbe HPe
      go_wp2_with fail
      go_roundw
      case rel =>
        obtain ⟨hRn, hRk, hP, hli, hM, hbk, hlt, -, -⟩ := HQ.out
        refine ⟨k + 1, Rs.set k (R.take 100), _, v5, n5, xs5, _, li5, by omega, by show _ = _; go_num, by rw [List.length_set, hRn], fun j hj => ?_, by rw [List.map_set]; exact HF.out.1, by rw [HF.out.2, hli], ?_⟩
        · by_cases hjk : j = k
          · subst hjk
            rw [List.getElem?_set_self (by omega), hbk]
          · rw [List.getElem?_set_ne (fun e => hjk e.symm)]
            exact hRk j (by omega)
        · have h1 := notes2_length M' li5
          have h2 := HF.out.1.rt.len
          have := HN.out
          omega
      case measure => have := HQ.out.2.2.2.2.2.2.1; have := HN.out; simp [intOf]; omega
    · obtain rfl : k = n := by omega
      have hk1 : ¬ ((k : Int) < (k : Int)) := by omega
      have hRl : Rs = bytesL l := List.ext_getElem? fun j => by
        rcases Nat.lt_or_ge j k with h1 | h1
        · exact hRk j h1
        · rw [List.getElem?_eq_none (by omega), List.getElem?_eq_none (by rw [HX.out.2.1]; exact h1)]
      rw [hRl] at hP hli
      have HF := Lib.hid (And.intro hP (And.intro hli (show M'.length ≤ 10000 by have := HN.out; omega)))
      clear hRn hRk hP hli hM hge hk hRl
      go_wp2
      (try simp only [Exit.inBlock, Exit.then])
      refine bodyPost_ret (results_tmp4 rfl _ _ _) rfl ?_
      refine ⟨t, b, u, rfl, r, q, lo, hi, L', B, c, v', n0', xs', M', gl, li', ?_⟩
      rw [HX.out.2.1]
      exact HF.out
end Go.Proofs.Ytnncpjekcljfbaa
/- Lists of lists in memory of their own, with bounds; digests in them turned. -/
namespace Go.Proofs.Ytnncpjekcljfbaa
open Go.ChangeShapes Go.WideShapes Go.ChangeAt Go.RowKit

theorem proofM_ok : ∀ (k : Nat) (D : List Dig) (i : Nat), i < D.length → ∀ p ∈ proofM D k i, 1 ≤ p.length ∧ p.length ≤ 4
  | 0, D, i, _, p, hp => by simp [proofM] at hp
  | k + 1, D, i, hi, p, hp => by
    rw [proofM] at hp
    rcases List.mem_cons.1 hp with rfl | hp
    · rw [group_len hi]; omega
    · exact proofM_ok k _ _ (by rw [aboveM_length]; exact place_up hi) p hp
theorem buildP_ok (D : List Dig) (i : Int) (hD : D.length ≤ 1024) : (buildP D i).length ≤ 1100 ∧ ∀ p ∈ buildP D i, 1 ≤ p.length ∧ p.length ≤ 4 := by
  unfold buildP
  by_cases h : buildOk D i
  · rw [if_pos h]
    have h2 := depthM_le _ D rfl
    refine ⟨by rw [proofM_length]; omega, proofM_ok _ _ _ ?_⟩
    unfold buildOk at h; omega
  · rw [if_neg h]; simp
theorem partsP_ok (D : List Dig) (lv pl : Int) : (partsP D lv pl).length ≤ 4 := by
  unfold partsP
  split
  · rw [group_length]; omega
  · simp

/-- a list of lists in memory of its own, from B on, below E -/
structure OwnX (W : World) (B E : Nat) (v : Value) (P : List (List Dig)) (xs : List SlC) : Prop where
  row : OwnRows slA 1 W B 41 v xs
  len : xs.length = P.length
  each : ∀ i (h : i < xs.length) (h' : i < P.length), OwnD W B xs[i].v P[i]
  vE : ∀ k, v.ownBlock = some k → k < E
  xE : ∀ i (h : i < xs.length) k, xs[i].v.ownBlock = some k → k < E
section
variable {W W' : World} {B E : Nat} {v : Value} {P : List (List Dig)} {xs : List SlC} {S : Nat → Prop}
theorem OwnP.x (h : OwnP W B v P) : ∃ xs, OwnX W B W.heap.size v P xs := by
  obtain ⟨xs, h1, h2, h3⟩ := h
  exact ⟨xs, h1, h2, h3, fun k e => (World.ownsRow.lt h1 k e).2, fun i hi k e => (World.ownsRow.lt (h3 i hi (by omega)) k e).2⟩
theorem OwnX.own (h : OwnX W B E v P xs) : OwnP W B v P := ⟨xs, h.row, h.len, h.each⟩
theorem OwnX.upd (h : OwnX W B E v P xs) (hu : Upd S W W') (hs : ∀ k, B ≤ k → k < E → (∃ cs ty fr, W.heap[k]? = some (.cells cs ty fr) ∧ (ty = 41 ∨ ty = 46)) → ¬ S k) : OwnX W' B E v P xs := by
  refine ⟨OwnRows.upd h.row hu (fun k e => ?_), h.len, fun i hi hi' => OwnRows.upd (h.each i hi hi') hu (fun k e => ?_), h.vE, h.xE⟩
  · obtain ⟨cur, hc⟩ := own_cells h.row e
    exact hs k (World.ownsRow.lt h.row k e).1 (h.vE k e) ⟨_, _, _, hc, .inl rfl⟩
  · obtain ⟨cur, hc⟩ := own_cells (h.each i hi hi') e
    exact hs k (World.ownsRow.lt (h.each i hi hi') k e).1 (h.xE i hi k e) ⟨_, _, _, hc, .inr rfl⟩
theorem OwnX.kept (h : OwnX W B E v P xs) (hu : Kept W W') : OwnX W' B E v P xs := h.upd hu fun _ _ _ _ => id
theorem OwnX.aloof (h : OwnX W B E v P xs) (hu : Upd S W W') (ha : Aloof W S) : OwnX W' B E v P xs := h.upd hu fun k _ _ ⟨_, ty, _, hc, ht⟩ => ha.not hc (by rcases ht with rfl | rfl <;> decide)
theorem OwnX.form (h : OwnX W B E v P xs) : ∃ A c, v = .slice A P.length c ∧ P.length ≤ c := by
  rcases h.row.2 with ⟨rfl, h0⟩ | ⟨g, cap, cur, rfl, hb, hg, e1, e2, e3, e4⟩
  · exact ⟨_, _, by rw [← h.len, h0], by have := h.len; omega⟩
  · exact ⟨_, _, by rw [h.len], by have := h.len; omega⟩
/-- an own row, where a row of the same block turns -/
theorem OwnD.turnB {l : List Dig} {y : Value} (h : OwnD W B y l) {g : Nat} (hy : y.ownBlock = some g) {cur : List Value} (hg : Blk W g 46 cur) {k : Nat} (hk : k < l.length) (d : Dig) : OwnD (W.setRow g (splice cur (k * 32) (dA d).toList).toArray) B y (l.set k d) := by
  obtain ⟨g', cur', e1, e2, _, e4⟩ := OwnRows.turn dA_size (by omega) h hk d
  rw [hy] at e1
  have e3 := Option.some.inj e1
  subst e3
  have e5 : cur' = cur := by
    unfold Blk at e2 hg
    rw [e2] at hg
    simp only [Option.some.injEq, Obj.cells.injEq, and_true] at hg
    simpa using congrArg Array.toList hg
  rw [e5] at e4
  exact e4
/-- the first digest of a list turned -/
theorem OwnX.turn0 (h : OwnX W B E v P xs) (hP : ∀ p ∈ P, 1 ≤ p.length) {i : Nat} (hi : i < xs.length) (d : Dig) :
    ∃ g cur, xs[i].v.ownBlock = some g ∧ B ≤ g ∧ g < E ∧ Blk W g 46 cur ∧ 0 + 32 ≤ cur.length ∧ ∃ P', P'.length = P.length ∧ (∀ p ∈ P', 1 ≤ p.length) ∧ (∀ j (hj : j < P.length) (hj' : j < P'.length), P'[j].length = P[j].length) ∧ OwnX (W.setRow g (splice cur 0 (dA d).toList).toArray) B E v P' xs := by
  have hiP : i < P.length := by rw [← h.len]; exact hi
  have hd := h.each i hi hiP
  obtain ⟨g, cur, e1, e2, e3, e4⟩ := OwnRows.turn dA_size (by omega) hd (k := 0) (by have := hP _ (List.getElem_mem hiP); omega) d
  rw [Nat.zero_mul] at e3 e4
  have hu : Upd (fun k => k = g) W (W.setRow g (splice cur 0 (dA d).toList).toArray) := (Upd.refl _ _).setRow _ _ fun _ => rfl
  let P' : List (List Dig) := (List.range P.length).map fun j => if (xs[j]?.map (fun x => x.v.ownBlock)).getD none = some g then (P[j]?.getD []).set 0 d else P[j]?.getD []
  have hl' : P'.length = P.length := by simp [P']
  have hget : ∀ j (hj : j < P.length) (hx : j < xs.length) (hj' : j < P'.length), P'[j] = if xs[j].v.ownBlock = some g then P[j].set 0 d else P[j] := fun j hj hx hj' => by
    simp only [P', List.getElem_map, List.getElem_range, List.getElem?_eq_getElem hj, List.getElem?_eq_getElem hx, Option.map_some, Option.getD_some]
  have hlen : ∀ j (hj : j < P.length) (hj' : j < P'.length), P'[j].length = P[j].length := fun j hj hj' => by
    rw [hget j hj (by rw [h.len]; exact hj) hj']
    split
    · rw [List.length_set]
    · rfl
  refine ⟨g, cur, e1, (World.ownsRow.lt hd g e1).1, h.xE i hi g e1, e2, e3, P', hl', fun p hp => ?_, hlen, ⟨OwnRows.upd h.row hu (fun k e e5 => ?_), by rw [hl', h.len], fun j hj hj' => ?_, h.vE, h.xE⟩⟩
  · obtain ⟨j, hj, rfl⟩ := List.getElem_of_mem hp
    rw [hlen j (by rw [← hl']; exact hj) hj]
    exact hP _ (List.getElem_mem _)
  · obtain ⟨c1, h1⟩ := own_cells h.row e
    have e6 : k = g := e5
    subst e6
    have h2 : W.heap[k]? = some (.cells cur.toArray 46 (0, 0)) := e2
    rw [h1] at h2
    simp only [Option.some.injEq, Obj.cells.injEq] at h2
    exact absurd h2.2.1 (by decide)
  · have hjP : j < P.length := by rw [← hl']; exact hj'
    rw [hget j hjP hj hj']
    by_cases hb : xs[j].v.ownBlock = some g
    · rw [if_pos hb]
      have := OwnD.turnB (h.each j hj hjP) hb e2 (k := 0) (by have := hP _ (List.getElem_mem hjP); omega) d
      rw [Nat.zero_mul] at this
      exact this
    · rw [if_neg hb]
      exact OwnRows.upd (h.each j hj hjP) hu (fun k e e5 => hb (by rw [e]; exact congrArg some e5))
/-- a list's cell -/
theorem OwnX.cell (h : OwnX W B E v P xs) {i : Nat} (hi : i < xs.length) (hiP : i < P.length) : ∃ g c A k, v = .slice (some ⟨g, 0, none⟩) P.length c ∧ xs[i] = ⟨A, P[i].length, k⟩ ∧ W.cell? ⟨g, i, none⟩ = some (.slice A P[i].length k) := by
  obtain ⟨g, c2, hv, hg1, hg2, _⟩ := OwnRows.get slA_size h.row hi
  have hcell := World.ownsRow.cells h.row (g := g) (by rw [hv]; rfl) i xs[i].v (by
    have := rowsOf_get slA_size xs i 0 hi (by omega)
    rw [Nat.mul_one, Nat.add_zero] at this
    rw [this]; rfl)
  obtain ⟨A2, k2, hx, hle, -⟩ := OwnD.digs (h.each i hi hiP)
  rw [hx] at hcell
  rw [add_none, Nat.zero_add] at hcell
  refine ⟨g, c2, A2, k2, by rw [hv, h.len], ?_, hcell⟩
  generalize xs[i] = x at *
  obtain ⟨xA, xn, xc⟩ := x
  rw [SlC.v_eq] at hx
  simp only [Value.slice.injEq] at hx
  obtain ⟨rfl, rfl, rfl⟩ := hx
  rfl
end

/-- two numbers in an array -/
def in2 (x y : Int) : Array Value := #[.int .i64 x, .int .i64 y]
@[simp, go_sem] theorem in2_size (x y : Int) : (in2 x y).size = 2 := rfl
@[simp, go_sem] theorem in2_one (x y : Int) : oneB (in2 x y) = true := rfl
section
variable {H : Type} {enc : TypeId × Value → H} {W : World}
theorem in2_cells : Try.prog.cellsOf 60 = 2 := by kernel_rfl
theorem open_in2 {cs : List Value} (h : ReadsAs enc Try.prog W 60 cs) : ∃ x y : Int, cs = [.int .i64 x, .int .i64 y] ∧ (Lit.int .i64 x).wf = true ∧ (Lit.int .i64 y).wf = true := by
  obtain ⟨hl, hi⟩ := h.array Try.underlying60 int_cells
  rw [in2_cells] at hl
  match cs, hl with
  | [c0, c1], _ =>
    obtain ⟨x, h1, w1⟩ := (hi 0 (by omega)).int Try.underlying3
    obtain ⟨y, h2, w2⟩ := (hi 1 (by omega)).int Try.underlying3
    simp at h1 h2
    subst h1 h2
    exact ⟨x, y, rfl, w1, w2⟩
end
end Go.Proofs.Ytnncpjekcljfbaa
