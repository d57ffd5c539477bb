/- Contracts about one note: own, Copy, note, Same, is, named, name, Bring, the atomic counts. -/
import Derived.Test.YtkfekkemfahepaaBagA
import Derived.Test.YtkfekkemfahepaaOrd
namespace Go.Proofs.Ytkfekkemfahepaa
open Go.RowKit

theorem Upd.setRow {S : Nat → Prop} {a b : World} (h : Upd S a b) {g : Nat} (cs : Array Value) (hg : g < a.heap.size → S g) : Upd S a (b.setRow g cs) :=
  ⟨h.os, h.tape, h.output, by simpa using h.size, fun k hk hn => by rw [setRow_other _ _ _ _ (fun e => hn (by subst e; exact hg hk))]; exact h.block k hk hn⟩

/-- block g is a variable that holds the note x -/
def EnvAt (W : World) (g : Nat) (x : EnvC) : Prop := W.heap[g]? = some (.cells (envA x) 29 (0, 0))
section
variable {W W' : World} {g : Nat} {x y : EnvC} {S : Nat → Prop}
theorem EnvAt.lt (h : EnvAt W g x) : g < W.heap.size := (Array.getElem?_eq_some_iff.1 h).1
theorem EnvAt.s1 (h : EnvAt W g x) : segB W ⟨g, 0, none⟩ 3 = true := segB_of (seg_block h) (envA_size x)
theorem EnvAt.s2 (h : EnvAt W g x) : segV W ⟨g, 0, none⟩ 3 = envA x := segV_of (seg_block h) (envA_size x)
theorem EnvAt.c0 (h : EnvAt W g x) : W.cell? ⟨g, 0, none⟩ = some (.int .i64 x.f) := by rw [cell_of_row _ _ _ _ _ _ h]; rfl
theorem EnvAt.c1 (h : EnvAt W g x) : W.cell? ⟨g, 1, none⟩ = some (.int .i64 x.t) := by rw [cell_of_row _ _ _ _ _ _ h]; rfl
theorem EnvAt.c2 (h : EnvAt W g x) : W.cell? ⟨g, 2, none⟩ = some (.slice x.A x.n x.c) := by rw [cell_of_row _ _ _ _ _ _ h]; rfl
theorem EnvAt.thaw (h : EnvAt W g x) (o : Nat) : W.frozen? ⟨g, o, none⟩ = false := frozen_of_row _ _ _ _ _ h
theorem EnvAt.row (h : EnvAt W g x) : rowB W g 3 = true := rowB_of h (envA_size x)
theorem EnvAt.new (W : World) (x : EnvC) : EnvAt (W.alloc (.cells (envA x) 29)) W.heap.size x := heap_alloc_new W _
theorem EnvAt.upd (h : EnvAt W g x) (hu : Upd S W W') (hS : ¬ S g) : EnvAt W' g x := hu.heap h hS
theorem EnvAt.kept (h : EnvAt W g x) (hu : Kept W W') : EnvAt W' g x := h.upd hu id
theorem EnvAt.set2 (h : EnvAt W g x) (A : Option Addr) (n c : Nat) : EnvAt (W.setCell ⟨g, 2, none⟩ (.slice A n c)) g ⟨x.f, x.t, A, n, c⟩ := by
  unfold EnvAt
  rw [heap_setCell_same W g 2 _ _ _ h]
  rfl
theorem EnvAt.setRow (h : EnvAt W g x) (y : EnvC) : EnvAt (W.setRow g (envA y)) g y := setRow_heap _ _ _ _ _ _ h
theorem EnvAt.other (h : EnvAt W g x) {k : Nat} (cs : Array Value) (hk : g ≠ k) : EnvAt (W.setRow k cs) g x := (setRow_other _ _ _ _ hk).trans h
theorem EnvAt.setOther (h : EnvAt W g x) (p : Addr) (v : Value) (hk : g ≠ p.block) : EnvAt (W.setCell p v) g x := (heap_setCell_other W p g v hk).trans h
end

/-- y tells m, in memory that was not there at N -/
structure Fresh (N : Nat) (W : World) (y : EnvC) (m : Note) : Prop where
  at_ : NoteAt W y m
  own : Own8 W y.A m.2.2
  far : m.2.2 ≠ [] → ∃ b, y.A = some ⟨b, 0, none⟩ ∧ N ≤ b ∧ b < W.heap.size
theorem Fresh.kept {N : Nat} {W W' : World} {y : EnvC} {m : Note} (h : Fresh N W y m) (hu : Kept W W') : Fresh N W' y m :=
  ⟨h.at_.kept hu, h.own.kept hu, fun hn => by obtain ⟨b, h1, h2, h3⟩ := h.far hn; exact ⟨b, h1, h2, hu.lt h3⟩⟩
theorem Fresh.upd {N : Nat} {S : Nat → Prop} {W W' : World} {y : EnvC} {m : Note} (h : Fresh N W y m) (hu : Upd S W W') (hS : ∀ k, S k → ∀ cs fr, W.heap[k]? ≠ some (.cells cs 5 fr)) : Fresh N W' y m :=
  ⟨⟨h.at_.f, h.at_.t, h.at_.n, h.at_.b.upd h.own hu hS, h.at_.len⟩, h.own.upd hu hS, fun hn => by obtain ⟨b, h1, h2, h3⟩ := h.far hn; exact ⟨b, h1, h2, hu.lt h3⟩⟩
theorem Fresh.mono {N N' : Nat} {W : World} {y : EnvC} {m : Note} (h : Fresh N W y m) (hN : N' ≤ N) : Fresh N' W y m :=
  ⟨h.at_, h.own, fun hn => by obtain ⟨b, h1, h2, h3⟩ := h.far hn; exact ⟨b, h1, by omega, h3⟩⟩
theorem Fresh.zero (N : Nat) (W : World) : Fresh N W envZ (0, 0, []) := ⟨.zero W, .inl rfl, fun h => absurd rfl h⟩

theorem bag_own {w : World} {x : EnvC} {m : Note} (hx : NoteAt w x m) :
    Calls Try.prog 41 #[.agg (envA x)] w fun e w' => ∃ y, e = .returned (.agg (envA y)) ∧ Fresh w.heap.size w' y m ∧ Kept w w' := by
  obtain ⟨f, t, A, n, c⟩ := x
  obtain ⟨f', t', R⟩ := m
  obtain ⟨h1, h2, h3, hb, hl⟩ := hx
  dsimp only at h1 h2 h3 hb hl
  subst h1 h2 h3
  go_enter Try.func41, Try.ntmps41
  go_wp2_with fail
  have hu1 : Kept w ((w.alloc (.cells (envA ⟨f, t, A, R.length, c⟩) 29)).alloc (.cells (envA envZ) 29)) := ((Upd.refl _ w).alloc _).alloc _
  have hg : EnvAt ((w.alloc (.cells (envA ⟨f, t, A, R.length, c⟩) 29)).alloc (.cells (envA envZ) 29)) w.heap.size ⟨f, t, A, R.length, c⟩ := (heap_alloc_old _ _ (by simp)).trans (heap_alloc_new w _)
  have hg2 : EnvAt ((w.alloc (.cells (envA ⟨f, t, A, R.length, c⟩) 29)).alloc (.cells (envA envZ) 29)) (w.heap.size + 1) envZ := by
    have := EnvAt.new (w.alloc (.cells (envA ⟨f, t, A, R.length, c⟩) 29)) envZ
    rwa [World.size_alloc] at this
  generalize (w.alloc (.cells (envA ⟨f, t, A, R.length, c⟩) 29)).alloc (.cells (envA envZ) 29) = W1 at *
  refine (clone_bytes c (hb.kept hu1) hl).mono ?_
  rintro e W2 ⟨A', c', rfl, hown, hu2⟩
  obtain ⟨b1, b2, b3⟩ := own_bys hown
  have g1 := (hg.kept hu2).set2 A' R.length c'
  have g2 := (hg2.kept hu2).setOther ⟨w.heap.size, 2, none⟩ (.slice A' R.length c') (by simp)
  have p1 := (hg.kept hu2).thaw 2
  have p2 := (hg.kept hu2).c2
  have p3 := g1.s1
  have p4 := g1.s2
  have p5 := g2.row
  have HF : Hid (Kept w W2 ∧ w.heap.size ≤ W1.heap.size) := ⟨hu1.then hu2 (fun _ _ h => h), hu1.size⟩
  have HB : Hid (Fresh W1.heap.size W2 ⟨f, t, A', R.length, c'⟩ (f, t, R)) := ⟨⟨rfl, rfl, rfl, b1, hl⟩, b2, b3⟩
  have HE := Lib.hid (And.intro (hg.kept hu2) (hg2.kept hu2))
  have HG := Lib.hid (g2.setRow ⟨f, t, A', R.length, c'⟩)
  clear hg hg2 hown hb hu1 hu2 b1 b2 b3 g1 g2
  go_wp2
  have hk : Kept w ((W2.setCell ⟨w.heap.size, 2, none⟩ (.slice A' R.length c')).setRow (w.heap.size + 1) (envA ⟨f, t, A', R.length, c'⟩)) := ((HF.out.1).setCell (p := ⟨w.heap.size, 2, none⟩) _ fun h => by simp at h).setRow _ fun h => by omega
  refine bodyPost_ret (v := .agg (envA ⟨f, t, A', R.length, c'⟩)) ?_ rfl ⟨_, rfl, ?_, hk⟩
  · rw [results_seg (P := Try.prog) (fn := Try.f41) rfl _ _ ⟨w.heap.size + 1, 0, none⟩ 3 _ rfl Try.underlying29 rfl sizeOf29 HG.out.s1, HG.out.s2]
  · refine (HB.out.upd (((Upd.refl (fun k => k = w.heap.size ∨ k = w.heap.size + 1) W2).setCell (p := ⟨w.heap.size, 2, none⟩) _ fun _ => .inl rfl).setRow _ fun _ => .inr rfl) fun k hk cs fr e => ?_).mono HF.out.2
    rcases hk with rfl | rfl
    · rw [HE.out.1] at e; cases e
    · rw [HE.out.2] at e; cases e

theorem ref_Copy {w : World} {x : EnvC} {m : Note} (hx : NoteAt w x m) :
    Calls Try.prog 15 #[.agg (envA x)] w fun e w' => ∃ y, e = .returned (.agg (envA y)) ∧ Fresh w.heap.size w' y m ∧ Kept w w' := by
  obtain ⟨f, t, A, n, c⟩ := x
  obtain ⟨f', t', R⟩ := m
  obtain ⟨h1, h2, h3, hb, hl⟩ := hx
  dsimp only at h1 h2 h3 hb hl
  subst h1 h2 h3
  go_enter Try.func15, Try.ntmps15
  go_wp2_with fail
  have hu1 : Kept w ((w.alloc (.cells (envA ⟨f, t, A, R.length, c⟩) 29)).alloc (.cells (envA envZ) 29)).drew := (((Upd.refl _ w).alloc _).alloc _).drew
  have hg : EnvAt ((w.alloc (.cells (envA ⟨f, t, A, R.length, c⟩) 29)).alloc (.cells (envA envZ) 29)).drew w.heap.size ⟨f, t, A, R.length, c⟩ := (heap_alloc_old _ _ (by simp)).trans (heap_alloc_new w _)
  have hg2 : EnvAt ((w.alloc (.cells (envA ⟨f, t, A, R.length, c⟩) 29)).alloc (.cells (envA envZ) 29)).drew (w.heap.size + 1) envZ := by
    have := EnvAt.new (w.alloc (.cells (envA ⟨f, t, A, R.length, c⟩) 29)) envZ
    rwa [World.size_alloc] at this
  refine wp_region_ord [(0, true), (1, true), (2, true), (3, true), (4, true), (5, true), (6, false), (7, true), (8, false)] (by kernel_rfl) (by kernel_rfl) (fun W => EnvAt W w.heap.size ⟨f, t, A, R.length, c⟩) hg ?_
  simp only [ordOps, List.getD_cons_zero, List.getD_cons_succ]
  generalize ((w.alloc (.cells (envA ⟨f, t, A, R.length, c⟩) 29)).alloc (.cells (envA envZ) 29)).drew = W1 at *
  have f0 : ∀ W, EnvAt W w.heap.size ⟨f, t, A, R.length, c⟩ → W.cell? ⟨w.heap.size, 0, none⟩ = some (.int .i64 f) := fun W h => h.c0
  have f1 : ∀ W, EnvAt W w.heap.size ⟨f, t, A, R.length, c⟩ → W.cell? ⟨w.heap.size, 1, none⟩ = some (.int .i64 t) := fun W h => h.c1
  have f2 : ∀ W, EnvAt W w.heap.size ⟨f, t, A, R.length, c⟩ → W.cell? ⟨w.heap.size, 2, none⟩ = some (.slice A R.length c) := fun W h => h.c2
  iterate 6 (refine wpOrd_held (fun K hK => ?_); go_simp; first | (apply Exists.intro; refine ⟨fun W hW => ?_, hK _ ?_⟩; (go_simp; first | done | exact rfl); clear hK K) | (refine hK _ ?_; clear hK K))
  refine wpOrd_step (fun K hK => ?_) hg
  go_simp
  refine (copy_bytes c (hb.kept hu1) hl).mono ?_
  rintro e W2 ⟨A', c', rfl, hown, hu2⟩
  obtain ⟨b1, b2, b3⟩ := own_bys hown
  refine hK _ _ (hg.kept hu2) ?_
  clear hK K
  iterate 1 (refine wpOrd_held (fun K hK => ?_); go_simp; first | (apply Exists.intro; refine ⟨fun W hW => ?_, hK _ ?_⟩; (go_simp; first | done | exact rfl); clear hK K) | (refine hK _ ?_; clear hK K))
  have p5 := (hg2.kept hu2).row
  refine wpOrd_step (fun K hK => ?_) (hg.kept hu2)
  go_simp
  refine hK _ _ ((hg.kept hu2).other _ (by simp)) ?_
  clear hK K
  refine wpOrd_nil ?_
  have HG := Lib.hid ((hg2.kept hu2).setRow ⟨f, t, A', R.length, c'⟩)
  have HB : Hid (Fresh W1.heap.size W2 ⟨f, t, A', R.length, c'⟩ (f, t, R)) := ⟨⟨rfl, rfl, rfl, b1, hl⟩, b2, b3⟩
  have HE := Lib.hid (hg2.kept hu2)
  have HF : Hid (Kept w W2 ∧ w.heap.size ≤ W1.heap.size) := ⟨hu1.then hu2 (fun _ _ h => h), hu1.size⟩
  clear f0 f1 f2 hg hg2 hown hu1 hu2 b1 b2 b3 p5
  go_wp2
  refine bodyPost_ret (v := .agg (envA ⟨f, t, A', R.length, c'⟩)) ?_ rfl ⟨_, rfl, ?_, HF.out.1.setRow _ fun h => by omega⟩
  · rw [results_seg (P := Try.prog) (fn := Try.f15) rfl _ _ ⟨w.heap.size + 1, 0, none⟩ 3 _ rfl Try.underlying29 rfl sizeOf29 HG.out.s1, HG.out.s2]
  · refine (HB.out.upd ((Upd.refl (fun k => k = w.heap.size + 1) W2).setRow _ fun _ => rfl) fun k hk cs fr e => ?_).mono HF.out.2
    subst hk
    rw [HE.out] at e; cases e

theorem law_note (f t b : Int) (w : World) :
    Calls Try.prog 37 #[.int .i64 f, .int .i64 t, .int .u8 b] w fun e w' => ∃ y, e = .returned (.agg (envA y)) ∧ Fresh w.heap.size w' y (f, t, [b]) ∧ Kept w w' := by
  go_enter Try.func37, Try.ntmps37
  go_wp2
  have hg : EnvAt ((w.alloc (.cells (envA ⟨f, t, some ⟨w.heap.size + 1, 0, none⟩, 1, 1⟩) 29)).alloc (.cells #[.int .u8 b] 5)) w.heap.size ⟨f, t, some ⟨w.heap.size + 1, 0, none⟩, 1, 1⟩ := (heap_alloc_old _ _ (by simp)).trans (heap_alloc_new w _)
  have hb : ((w.alloc (.cells (envA ⟨f, t, some ⟨w.heap.size + 1, 0, none⟩, 1, 1⟩) 29)).alloc (.cells #[.int .u8 b] 5)).heap[w.heap.size + 1]? = some (.cells #[.int .u8 b] 5 (0, 0)) := by
    have := heap_alloc_new (w.alloc (.cells (envA ⟨f, t, some ⟨w.heap.size + 1, 0, none⟩, 1, 1⟩) 29)) (.cells #[.int .u8 b] 5)
    rwa [World.size_alloc] at this
  refine bodyPost_ret (v := .agg (envA ⟨f, t, some ⟨w.heap.size + 1, 0, none⟩, 1, 1⟩)) ?_ rfl ⟨_, rfl, ⟨⟨rfl, rfl, rfl, .inr ⟨_, 0, rfl, fun k hk => ?_⟩, by simp⟩, .inr ⟨_, _, rfl, hb⟩, fun _ => ⟨_, rfl, by omega, by simp⟩⟩, ((Upd.refl _ w).alloc _).alloc _⟩
  · rw [results_seg (P := Try.prog) (fn := Try.f37) rfl _ _ ⟨w.heap.size, 0, none⟩ 3 _ rfl Try.underlying29 rfl sizeOf29 hg.s1, hg.s2]
  · rw [cell_of_row _ _ _ _ _ _ hb]
    obtain rfl : k = 0 := by simp at hk; omega
    rfl

theorem ref_Same {w : World} {x y : EnvC} {m k : Note} (hx : NoteAt w x m) (hy : NoteAt w y k) :
    Calls Try.prog 17 #[.agg (envA x), .agg (envA y)] w fun e w' => e = .returned (.bool (decide (m = k))) ∧ Kept w w' := by
  obtain ⟨f, t, A, n, c⟩ := x
  obtain ⟨f', t', R⟩ := m
  obtain ⟨h1, h2, h3, hb, hl⟩ := hx
  dsimp only at h1 h2 h3 hb hl
  subst h1 h2 h3
  obtain ⟨g, u, A2, n2, c2⟩ := y
  obtain ⟨g', u', R2⟩ := k
  obtain ⟨h1, h2, h3, hb2, hl2⟩ := hy
  dsimp only at h1 h2 h3 hb2 hl2
  subst h1 h2 h3
  have hu1 : Kept w ((w.alloc (.cells (envA ⟨f, t, A, R.length, c⟩) 29)).alloc (.cells (envA ⟨g, u, A2, R2.length, c2⟩) 29)) := ((Upd.refl _ w).alloc _).alloc _
  have hg : EnvAt ((w.alloc (.cells (envA ⟨f, t, A, R.length, c⟩) 29)).alloc (.cells (envA ⟨g, u, A2, R2.length, c2⟩) 29)) w.heap.size ⟨f, t, A, R.length, c⟩ := (heap_alloc_old _ _ (by simp)).trans (heap_alloc_new w _)
  have hg2 : EnvAt ((w.alloc (.cells (envA ⟨f, t, A, R.length, c⟩) 29)).alloc (.cells (envA ⟨g, u, A2, R2.length, c2⟩) 29)) (w.heap.size + 1) ⟨g, u, A2, R2.length, c2⟩ := by
    have := EnvAt.new (w.alloc (.cells (envA ⟨f, t, A, R.length, c⟩) 29)) ⟨g, u, A2, R2.length, c2⟩
    rwa [World.size_alloc] at this
  by_cases h1 : f = g
  · subst h1
    by_cases h2 : t = u
    · subst h2
      have hd : decide ((f, t, R) = (f, t, R2)) = decide (R = R2) := by simp
      rw [hd]
      clear hd
      obtain ⟨ans, hans⟩ : ∃ ans, decide (R = R2) = ans := ⟨_, rfl⟩
      rw [hans]
      have HA := Lib.hid hans
      clear hans
      go_enter Try.func17, Try.ntmps17
      go_wp2_with fail
      refine (eq_bytes c c2 (hb.kept hu1) (hb2.kept hu1) hl).mono ?_
      rintro e W ⟨rfl, hu⟩
      rw [HA.out]
      go_wp2
      go_ret
      exact ⟨by simp, hu1.then hu fun _ _ h => h⟩
    · have hd : decide ((f, t, R) = (f, u, R2)) = false := by simp [h2]
      rw [hd]
      clear hd
      go_enter Try.func17, Try.ntmps17
      go_wp2
      go_ret
      exact ⟨by simp, hu1⟩
  · have hd : decide ((f, t, R) = (g, u, R2)) = false := by simp [h1]
    rw [hd]
    clear hd
    go_enter Try.func17, Try.ntmps17
    go_wp2
    go_ret
    exact ⟨by simp, hu1⟩

theorem law_is {w : World} {x : EnvC} {m : Note} (hx : NoteAt w x m) (err f t b : Int) :
    Calls Try.prog 38 #[.agg (envA x), .int .i64 err, .int .i64 f, .int .i64 t, .int .u8 b] w fun e w' => e = .returned (.bool (decide (err = 0) && decide (m = (f, t, [b])))) ∧ Kept w w' := by
  have hg := EnvAt.new w x
  have hu1 : Kept w (w.alloc (.cells (envA x) 29)) := (Upd.refl _ w).alloc _
  by_cases h0 : err = 0
  · subst h0
    obtain ⟨ans, hans⟩ : ∃ ans, decide (m = (f, t, [b])) = ans := ⟨_, rfl⟩
    rw [hans]
    have HA := Lib.hid hans
    clear hans
    go_enter Try.func38, Try.ntmps38
    go_wp2_with fail
    generalize w.alloc (.cells (envA x) 29) = W1 at *
    have f1 : ∀ W, EnvAt W w.heap.size x → segB W ⟨w.heap.size, 0, none⟩ 3 = true := fun W h => h.s1
    have f2 : ∀ W, EnvAt W w.heap.size x → segV W ⟨w.heap.size, 0, none⟩ 3 = envA x := fun W h => h.s2
    have hgd : EnvAt W1.drew w.heap.size x := hg
    have hk1 : Kept w W1.drew := hu1.drew
    refine wp_region_ord [(0, true), (1, true), (2, true), (3, true), (4, true), (5, true), (6, true), (7, false), (8, false), (9, true), (10, true)] (by kernel_rfl) (by kernel_rfl) (fun W => EnvAt W w.heap.size x) hgd ?_
    simp only [ordOps, List.getD_cons_zero, List.getD_cons_succ]
    iterate 7 (refine wpOrd_held (fun K hK => ?_); go_simp; first | (apply Exists.intro; refine ⟨fun W hW => ?_, hK _ ?_⟩; (go_simp; first | done | exact rfl); clear hK K) | (refine hK _ ?_; clear hK K))
    refine wpOrd_step (fun K hK => ?_) hgd
    go_simp
    refine (law_note f t b _).mono ?_
    rintro e W2 ⟨y, rfl, hy, hu2⟩
    have hg2 := hgd.kept hu2
    refine hK _ _ hg2 ?_
    clear hK K
    have hk2 : Kept w W2 := hk1.then hu2 fun _ _ h => h
    refine wpOrd_step (fun K hK => ?_) hg2
    go_simp
    refine (ref_Same (hx.kept hk2) hy.at_).mono ?_
    rintro e W3 ⟨rfl, hu3⟩
    refine hK _ _ (hg2.kept hu3) ?_
    clear hK K
    rw [HA.out]
    iterate 2 (refine wpOrd_held (fun K hK => ?_); go_simp; first | (apply Exists.intro; refine ⟨fun W hW => ?_, hK _ ?_⟩; (go_simp; first | done | exact rfl); clear hK K) | (refine hK _ ?_; clear hK K))
    refine wpOrd_nil ?_
    have HK : Hid (Kept w W3) := hk2.then hu3 fun _ _ h => h
    clear f1 f2 hg hu1 hgd hk1 hu2 hg2 hk2 hu3
    go_wp2
    go_ret
    exact ⟨by simp, HK.out⟩
  · have h0' : decide (err = 0) = false := by simp [h0]
    go_enter Try.func38, Try.ntmps38
    go_wp2_with fail
    refine wp_region_ord [(0, true), (1, true), (2, true), (3, true), (4, true), (5, true), (6, true), (7, false), (8, false), (9, true), (10, true)] (by kernel_rfl) (by kernel_rfl) (fun W => Kept w W) hu1.drew ?_
    simp only [ordOps, List.getD_cons_zero, List.getD_cons_succ]
    iterate 7 (refine wpOrd_held (fun K hK => ?_); go_simp; first | (apply Exists.intro; refine ⟨fun W hW => ?_, hK _ ?_⟩; (go_simp; first | done | exact rfl); clear hK K) | (refine hK _ ?_; clear hK K))
    refine wpOrd_step (fun K hK => ?_) hu1.drew
    go_simp
    refine hK _ _ hu1.drew ?_
    clear hK K
    refine wpOrd_step (fun K hK => ?_) hu1.drew
    go_simp
    refine hK _ _ hu1.drew ?_
    clear hK K
    iterate 2 (refine wpOrd_held (fun K hK => ?_); go_simp; first | (apply Exists.intro; refine ⟨fun W hW => ?_, hK _ ?_⟩; (go_simp; first | done | exact rfl); clear hK K) | (refine hK _ ?_; clear hK K))
    refine wpOrd_nil ?_
    go_wp2
    go_ret
    exact ⟨by simp [h0], hu1.drew⟩
end Go.Proofs.Ytkfekkemfahepaa
