/- The document's bag: its notes in memory; Put, Look, Len, Sent, Lost. -/
import Derived.Test.YtkfekkemfahepaaBagH
namespace Go.Proofs.Ytkfekkemfahepaa
open Go.RowKit

/-- block b is the document's bag -/
structure RefB (W : World) (B b : Nat) (v : Value) (zs : List (EnvC × Note)) (s l : Int) : Prop where
  blk : W.heap[b]? = some (.cells #[v, .int .i64 s, .int .i64 l] 63 (0, 0))
  notes : NotesAt W B v zs
  lt : b < B
  nm : ∀ z ∈ zs, namedB z.2.1 = true ∧ namedB z.2.2.1 = true ∧ z.2.2.2.length ≤ 65536

section
variable {W W' : World} {B b : Nat} {v : Value} {zs : List (EnvC × Note)} {s l : Int} {S : Nat → Prop}
theorem RefB.size (h : RefB W B b v zs s l) : b < W.heap.size := (Array.getElem?_eq_some_iff.1 h.blk).1
theorem RefB.c0 (h : RefB W B b v zs s l) : W.cell? ⟨b, 0, none⟩ = some v := by rw [cell_of_row W b 0 _ _ _ h.blk]; rfl
theorem RefB.c1 (h : RefB W B b v zs s l) : W.cell? ⟨b, 1, none⟩ = some (.int .i64 s) := by rw [cell_of_row W b 1 _ _ _ h.blk]; rfl
theorem RefB.c2 (h : RefB W B b v zs s l) : W.cell? ⟨b, 2, none⟩ = some (.int .i64 l) := by rw [cell_of_row W b 2 _ _ _ h.blk]; rfl
theorem RefB.thaw (h : RefB W B b v zs s l) (o : Nat) : W.frozen? ⟨b, o, none⟩ = false := frozen_of_row W b o _ _ h.blk
theorem RefB.kept (h : RefB W B b v zs s l) (hu : Kept W W') : RefB W' B b v zs s l := ⟨hu.heap h.blk id, h.notes.kept hu, h.lt, h.nm⟩
theorem RefB.alloc (h : RefB W B b v zs s l) (o : Obj) : RefB (W.alloc o) B b v zs s l := h.kept ((Upd.refl _ W).alloc o)
theorem RefB.drew (h : RefB W B b v zs s l) : RefB W.drew B b v zs s l := h.kept (Upd.refl _ W).drew
theorem RefB.not8 (h : RefB W B b v zs s l) : ∀ k, k = b ∨ v.ownBlock = some k → ∀ cs fr, W.heap[k]? ≠ some (.cells cs 5 fr) := by
  rintro k (rfl | hk) cs fr e
  · rw [h.blk] at e; cases e
  · obtain ⟨_, _, cur, hc⟩ := h.notes.rows.lt hk
    rw [hc] at e; cases e
theorem RefB.own_ne (h : RefB W B b v zs s l) : v.ownBlock ≠ some b := h.notes.rows.far (.inl h.lt)
theorem RefB.set2 (h : RefB W B b v zs s l) (l' : Int) : RefB (W.setCell ⟨b, 2, none⟩ (.int .i64 l')) B b v zs s l' := by
  have hu : Upd (fun k => k = b) W (W.setCell ⟨b, 2, none⟩ (.int .i64 l')) := (Upd.refl _ _).setCell (p := ⟨b, 2, none⟩) _ fun _ => rfl
  exact ⟨by rw [heap_setCell_same _ b 2 _ _ _ h.blk]; rfl, h.notes.upd hu (fun k hk e => by subst e; exact h.own_ne hk) (fun k hk => h.not8 k (.inl hk)), h.lt, h.nm⟩
end

structure RefTo (W W' : World) (B b : Nat) (v v' : Value) (zs : List (EnvC × Note)) (s l : Int) : Prop where
  bag : RefB W' B b v' zs s l
  upd : Upd (fun k => k = b ∨ v.ownBlock = some k) W W'
  new : ∀ k, k < W.heap.size → v'.ownBlock = some k → v.ownBlock = some k
section
variable {w w' w2 : World} {B b : Nat} {v v' v2 : Value} {zs ys : List (EnvC × Note)} {s l s2 l2 : Int}
theorem RefTo.refl (h : RefB w B b v zs s l) : RefTo w w B b v v zs s l := ⟨h, Upd.refl _ _, fun _ _ h => h⟩
theorem RefTo.trans (h : RefTo w w' B b v v' zs s l) (k : RefTo w' w2 B b v' v2 ys s2 l2) : RefTo w w2 B b v v2 ys s2 l2 :=
  ⟨k.bag, h.upd.then k.upd fun i hi h' => h'.imp id (h.new i hi), fun i hi h' => h.new i hi (k.new i (Nat.lt_of_lt_of_le hi h.upd.size) h')⟩
theorem RefTo.kept (h : RefTo w w' B b v v' zs s l) (k : Kept w' w2) : RefTo w w2 B b v v' zs s l := h.trans ⟨h.bag.kept k, k.mono fun _ _ h => h.elim, fun _ _ h => h⟩
end

theorem refb_New (w : World) :
    Calls Try.prog 12 #[] w fun e w' => e = .returned (.pointer (some ⟨w.heap.size, 0, none⟩)) ∧ w.alloc (.cells #[.slice none 0 0, .int .i64 0, .int .i64 0] 63) = w' := by
  go_enter Try.func12, Try.ntmps12
  go_wp2
  go_ret
  exact ⟨rfl, rfl⟩
theorem refb_Len {w : World} {B b : Nat} {v : Value} {zs : List (EnvC × Note)} {s l : Int} (h : RefB w B b v zs s l) :
    Calls Try.prog 29 #[.pointer (some ⟨b, 0, none⟩)] w fun e w' => e = .returned (.int .i64 zs.length) ∧ w = w' := by
  have c1 := h.c0
  obtain ⟨A, c, rfl⟩ := h.notes.rows.form
  clear h
  go_enter Try.func29, Try.ntmps29
  go_wp2
  go_ret
  exact ⟨rfl, rfl⟩
theorem refb_Sent {w : World} {B b : Nat} {v : Value} {zs : List (EnvC × Note)} {s l : Int} (h : RefB w B b v zs s l) :
    Calls Try.prog 31 #[.pointer (some ⟨b, 0, none⟩)] w fun e w' => e = .returned (.int .i64 s) ∧ w = w' := by
  have c1 := h.c1
  clear h
  go_enter Try.func31, Try.ntmps31
  go_wp2
  go_ret
  exact ⟨rfl, rfl⟩
theorem refb_Lost {w : World} {B b : Nat} {v : Value} {zs : List (EnvC × Note)} {s l : Int} (h : RefB w B b v zs s l) :
    Calls Try.prog 33 #[.pointer (some ⟨b, 0, none⟩)] w fun e w' => e = .returned (.int .i64 l) ∧ w = w' := by
  have c1 := h.c2
  clear h
  go_enter Try.func33, Try.ntmps33
  go_wp2
  go_ret
  exact ⟨rfl, rfl⟩

set_option maxHeartbeats 2000000 in
set_option maxRecDepth 20000 in
theorem refb_Put_new {w : World} {B b : Nat} {v : Value} {zs : List (EnvC × Note)} {s l : Int} (h : RefB w B b v zs s l) (hs0 : 0 ≤ s) (hs1 : s < 4611686018427387904) (hB : B ≤ w.heap.size) {x : EnvC} {m : Note} (hx : NoteAt w x m)
    (h1 : namedB m.1 = true) (h2 : namedB m.2.1 = true) (h3 : m.2.2.length ≤ 65536) (h4 : zs.length < 4096) :
    Calls Try.prog 16 #[.pointer (some ⟨b, 0, none⟩), .agg (envA x)] w fun e w' => e = .returned (.int .i64 0) ∧ ∃ v' y, (m.2.2 ≠ [] → ∃ q, y.A = some ⟨q, 0, none⟩ ∧ w.heap.size ≤ q) ∧ RefTo w w' B b v v' (zs ++ [(y, m)]) (s + 1) l := by
  have hg := EnvAt.new w x
  have hx1 := hx.kept ((Upd.refl (fun _ => False) w).alloc (.cells (envA x) 29))
  have hb1 := h.alloc (.cells (envA x) 29)
  have HU : Hid (Kept w (w.alloc (.cells (envA x) 29))) := Lib.hid ((Upd.refl _ w).alloc _)
  have hbne : b ≠ w.heap.size := by have := h.size; omega
  have hvg : v.ownBlock ≠ some w.heap.size := h.notes.rows.far (.inr (Nat.le_refl _))
  have hB1 : B ≤ (w.alloc (.cells (envA x) 29)).heap.size := by rw [World.size_alloc]; omega
  go_enter Try.func16, Try.ntmps16
  have c0 := hg.c0
  have c1 := hg.c1
  have c2 := hg.c2
  go_wp2_with fail
  generalize w.alloc (.cells (envA x) 29) = W2 at *
  refine (ref_name _ _).mono ?_
  rw [hx.f, h1]
  rintro e w' ⟨rfl, rfl⟩
  go_wp2_with fail
  refine (ref_name _ _).mono ?_
  rw [hx.t, h2]
  rintro e w' ⟨rfl, rfl⟩
  have hn : ((x.n : Nat) : Int) ≤ 65536 := by have := hx.n; omega
  have d1 := hb1.c0
  obtain ⟨A0, c0', hv⟩ := h.notes.rows.form
  have hzl : ((zs.length : Nat) : Int) ≠ 4096 := by omega
  subst hv
  go_wp2_with fail
  generalize hv : Value.slice A0 zs.length c0' = v at *
  have hlt0 : b < W2.heap.size := hb1.size
  have r3 : ∀ W, Upd (fun k => k = b ∨ v.ownBlock = some k) W2 W → segB W ⟨w.heap.size, 0, none⟩ 3 = true := fun W hW => EnvAt.s1 (hg.upd hW fun h => h.elim (fun h => hbne h.symm) hvg)
  have r4 : ∀ W, Upd (fun k => k = b ∨ v.ownBlock = some k) W2 W → segV W ⟨w.heap.size, 0, none⟩ 3 = envA x := fun W hW => EnvAt.s2 (hg.upd hW fun h => h.elim (fun h => hbne h.symm) hvg)
  clear c0 c1 c2 hn hzl
  refine wp_region_tree (.take 0 (.take 1 (.take 2 (.take 3 (.take 5 (.two 4 6 (.one 6 (.one 7 (.one 8 (.take 9 (.take 10 (.one 11 .done)))))) (.two 4 7 (.one 7 (.one 8 (.take 9 (.take 10 (.one 11 .done))))) (.one 4 (.one 8 (.take 9 (.take 10 (.one 11 .done)))))))))))) (by kernel_rfl) (by kernel_rfl) (Upd (fun k => k = b ∨ v.ownBlock = some k) W2) ((Upd.refl _ _).drew) ?_
  simp only [OT.ops, List.getD_cons_zero, List.getD_cons_succ]
  iterate 5 (refine wpOO_held (fun K hK => ?_); go_simp; first | (apply Exists.intro; refine ⟨fun W hW => ?_, hK _ ?_⟩; (go_simp; first | done | exact rfl); clear hK K) | (refine hK _ ?_; clear hK K))
  clear r3 r4
  have hS0 : Upd (fun k => k = b ∨ v.ownBlock = some k) W2 W2.drew := (Upd.refl _ _).drew
  have hN0 := hb1.drew
  have hk0 : Kept w W2.drew := HU.out.drew
  have hx0 := hx.kept hk0
  have hBs : B ≤ W2.drew.heap.size := hB1
  have d2 : W2.drew.cell? ⟨b, 0, none⟩ = some v := d1
  clear d1 hx1 hb1 hg hx hB1
  generalize W2.drew = W3 at *
  refine wpOO_fork (fun K hK => ?_) (fun K hK => ?_) hS0
  · go_simp
    refine hK _ _ hS0 ?_
    clear hK K
    refine wpOO_step (fun K hK => ?_) hS0
    go_simp
    refine (ref_Copy hx0).mono ?_
    rintro e W4 ⟨y, rfl, hfr, hu4⟩
    have hN4 := hN0.kept hu4
    have hS4 : Upd (fun k => k = b ∨ v.ownBlock = some k) W2 W4 := hS0.then hu4 fun _ _ h => h.elim
    replace hBs := Nat.le_trans hBs hu4.size
    refine hK _ _ hS4 ?_
    clear hK K
    refine wpOO_step (fun K hK => ?_) hS4
    go_simp
    refine hK _ _ (hS4.alloc _) ?_
    clear hK K
    -- here: the world W4.alloc (cells (envA y)), 4, 6, 7 done
    obtain ⟨v', W', hr, hrows, hu', hnew⟩ := run_append_cut envP_rows 45 ((hN4.alloc (.cells (envA y) 29)).notes.rows) (y, m) W4.heap.size 1 _ _ (heap_alloc_new W4 _) (by unfold maxLen; omega) (by omega) (by rw [World.size_alloc]; omega)
    obtain ⟨A', c', rfl⟩ := hrows.form
    rw [List.length_append, List.length_singleton] at hr hrows hnew
    refine wpOO_step (fun K hK => ?_) (hS4.alloc _)
    refine step_append rfl (.tmp 29) (.tmp 32) rfl rfl rfl hr ?_
    have hu3 : Upd (fun k => v.ownBlock = some k) W4 W' := ((Upd.refl (fun k => v.ownBlock = some k) W4).alloc _).trans hu'
    have hS' : Upd (fun k => k = b ∨ v.ownBlock = some k) W2 W' := hS4.then hu3 fun _ _ h => .inr h
    have hbv := hN4.own_ne
    have hbk := hu3.heap hN4.blk hbv
    have hc' : W'.cell? ⟨b, 0, none⟩ = some v := by rw [cell_of_row _ _ _ _ _ _ hbk]; rfl
    have hf' : W'.frozen? ⟨b, 0, none⟩ = false := frozen_of_row W' b 0 _ _ hbk
    refine hK _ _ hS' ?_
    clear hK K
    iterate 2 (refine wpOO_held (fun K hK => ?_); go_simp; first | (apply Exists.intro; refine ⟨fun W hW => ?_, hK _ ?_⟩; (go_simp; first | done | exact rfl); clear hK K) | (refine hK _ ?_; clear hK K))
    refine wpOO_step (fun K hK => ?_) hS'
    go_simp
    refine hK _ _ (hS'.setCell (p := ⟨b, 0, none⟩) _ fun _ => .inl rfl) ?_
    clear hK K
    refine wpOO_nil ?_
    have hbk2 : (W'.setCell ⟨b, 0, none⟩ (.slice A' (zs.length + 1) c')).heap[b]? = some (.cells #[.slice A' (zs.length + 1) c', .int .i64 s, .int .i64 l] 63 (0, 0)) := by rw [heap_setCell_same _ b 0 _ _ _ hbk]; rfl
    have HX := Lib.hid (And.intro hbk2 (And.intro hrows (And.intro hu3 (And.intro hnew (And.intro hN4 (And.intro hfr hu4))))))
    have hW5 : Upd (fun k => k = b ∨ v.ownBlock = some k) W4 (W'.setCell ⟨b, 0, none⟩ (.slice A' (zs.length + 1) c')) := (hu3.mono fun _ _ h => .inr h).setCell (p := ⟨b, 0, none⟩) _ fun _ => .inl rfl
    have HW5 := Lib.hid hW5
    have HRW := Lib.hid (hrows.upd ((Upd.refl (fun k => k = b) W').setCell (p := ⟨b, 0, none⟩) (.slice A' (zs.length + 1) c') fun _ => rfl) fun k hk e => by subst e; exact hrows.far (.inl hN4.lt) hk)
    generalize hw5 : W'.setCell ⟨b, 0, none⟩ (.slice A' (zs.length + 1) c') = W5 at *
    have h2' : W5.cell? ⟨b, 1, none⟩ = some (.int .i64 s) := by rw [cell_of_row _ _ _ _ _ _ hbk2]; rfl
    have hz2' : W5.frozen? ⟨b, 1, none⟩ = false := frozen_of_row W5 b 1 _ _ hbk2
    clear hr hrows hu' hnew hu3 hS' hbv hbk hc' hf' hbk2 hW5 hw5 hN4 hS4 hfr hu4 hBs
    have hfin : RefTo W4 (W5.setCell ⟨b, 1, none⟩ (.int .i64 (s + 1))) B b v (.slice A' (zs.length + 1) c') (zs ++ [(y, m)]) (s + 1) l := by
      obtain ⟨hbk2, hrows, hu3, hnew, hN4, hfr, hu4⟩ := HX.out
      have hu6 : Upd (fun k => k = b ∨ v.ownBlock = some k) W4 (W5.setCell ⟨b, 1, none⟩ (.int .i64 (s + 1))) := HW5.out.setCell (p := ⟨b, 1, none⟩) _ fun _ => .inl rfl
      refine ⟨⟨by rw [heap_setCell_same _ b 1 _ _ _ hbk2]; rfl, ⟨HRW.out.upd ((Upd.refl (fun k => k = b) W5).setCell (p := ⟨b, 1, none⟩) _ fun _ => rfl) fun k hk e => by subst e; exact HRW.out.far (.inl hN4.lt) hk, fun z hz => ?_⟩, hN4.lt, fun z hz => ?_⟩, hu6, fun k hk e => hnew k (by rw [World.size_alloc]; omega) e⟩
      · rcases List.mem_append.1 hz with hz | hz
        · exact (hN4.notes.ok z hz).upd hu6 hN4.not8
        · rw [List.mem_singleton.1 hz]
          exact (hfr.mono (Nat.zero_le _)).upd hu6 hN4.not8
      · rcases List.mem_append.1 hz with hz | hz
        · exact hN4.nm z hz
        · rw [List.mem_singleton.1 hz]
          exact ⟨h1, h2, h3⟩
    have HFIN := Lib.hid hfin
    have HK4 := Lib.hid HX.out.2.2.2.2.2.2
    have HFAR : Hid (m.2.2 ≠ [] → ∃ q, y.A = some ⟨q, 0, none⟩ ∧ w.heap.size ≤ q) := fun hm => by
      obtain ⟨q, q1, q2, _⟩ := HX.out.2.2.2.2.2.1.far hm
      exact ⟨q, q1, Nat.le_trans hk0.size q2⟩
    have HK0 := Lib.hid hk0
    clear hfin HX HW5 HRW hk0
    go_wp2
    go_ret
    exact ⟨rfl, .slice A' (zs.length + 1) c', y, HFAR.out, by rw [hv]; exact (((RefTo.refl h).kept HK0.out).kept HK4.out).trans HFIN.out⟩
  · go_simp
    refine (ref_Copy hx0).mono ?_
    rintro e W4 ⟨y, rfl, hfr, hu4⟩
    have hN4 := hN0.kept hu4
    have hS4 : Upd (fun k => k = b ∨ v.ownBlock = some k) W2 W4 := hS0.then hu4 fun _ _ h => h.elim
    have d4 := hN4.c0
    have d5 := (hN4.alloc (.cells (envA y) 29)).c0
    replace hBs := Nat.le_trans hBs hu4.size
    refine hK _ _ hS4 ?_
    clear hK K
    refine wpOO_fork (fun K hK => ?_) (fun K hK => ?_) hS4
    · go_simp
      refine hK _ _ hS4 ?_
      clear hK K
      refine wpOO_step (fun K hK => ?_) hS4
      go_simp
      refine hK _ _ (hS4.alloc _) ?_
      clear hK K
      -- here: the world W4.alloc (cells (envA y)), 4, 6, 7 done
      obtain ⟨v', W', hr, hrows, hu', hnew⟩ := run_append_cut envP_rows 45 ((hN4.alloc (.cells (envA y) 29)).notes.rows) (y, m) W4.heap.size 1 _ _ (heap_alloc_new W4 _) (by unfold maxLen; omega) (by omega) (by rw [World.size_alloc]; omega)
      obtain ⟨A', c', rfl⟩ := hrows.form
      rw [List.length_append, List.length_singleton] at hr hrows hnew
      refine wpOO_step (fun K hK => ?_) (hS4.alloc _)
      refine step_append rfl (.tmp 29) (.tmp 32) rfl rfl rfl hr ?_
      have hu3 : Upd (fun k => v.ownBlock = some k) W4 W' := ((Upd.refl (fun k => v.ownBlock = some k) W4).alloc _).trans hu'
      have hS' : Upd (fun k => k = b ∨ v.ownBlock = some k) W2 W' := hS4.then hu3 fun _ _ h => .inr h
      have hbv := hN4.own_ne
      have hbk := hu3.heap hN4.blk hbv
      have hc' : W'.cell? ⟨b, 0, none⟩ = some v := by rw [cell_of_row _ _ _ _ _ _ hbk]; rfl
      have hf' : W'.frozen? ⟨b, 0, none⟩ = false := frozen_of_row W' b 0 _ _ hbk
      refine hK _ _ hS' ?_
      clear hK K
      iterate 2 (refine wpOO_held (fun K hK => ?_); go_simp; first | (apply Exists.intro; refine ⟨fun W hW => ?_, hK _ ?_⟩; (go_simp; first | done | exact rfl); clear hK K) | (refine hK _ ?_; clear hK K))
      refine wpOO_step (fun K hK => ?_) hS'
      go_simp
      refine hK _ _ (hS'.setCell (p := ⟨b, 0, none⟩) _ fun _ => .inl rfl) ?_
      clear hK K
      refine wpOO_nil ?_
      have hbk2 : (W'.setCell ⟨b, 0, none⟩ (.slice A' (zs.length + 1) c')).heap[b]? = some (.cells #[.slice A' (zs.length + 1) c', .int .i64 s, .int .i64 l] 63 (0, 0)) := by rw [heap_setCell_same _ b 0 _ _ _ hbk]; rfl
      have HX := Lib.hid (And.intro hbk2 (And.intro hrows (And.intro hu3 (And.intro hnew (And.intro hN4 (And.intro hfr hu4))))))
      have hW5 : Upd (fun k => k = b ∨ v.ownBlock = some k) W4 (W'.setCell ⟨b, 0, none⟩ (.slice A' (zs.length + 1) c')) := (hu3.mono fun _ _ h => .inr h).setCell (p := ⟨b, 0, none⟩) _ fun _ => .inl rfl
      have HW5 := Lib.hid hW5
      have HRW := Lib.hid (hrows.upd ((Upd.refl (fun k => k = b) W').setCell (p := ⟨b, 0, none⟩) (.slice A' (zs.length + 1) c') fun _ => rfl) fun k hk e => by subst e; exact hrows.far (.inl hN4.lt) hk)
      generalize hw5 : W'.setCell ⟨b, 0, none⟩ (.slice A' (zs.length + 1) c') = W5 at *
      have h2' : W5.cell? ⟨b, 1, none⟩ = some (.int .i64 s) := by rw [cell_of_row _ _ _ _ _ _ hbk2]; rfl
      have hz2' : W5.frozen? ⟨b, 1, none⟩ = false := frozen_of_row W5 b 1 _ _ hbk2
      clear hr hrows hu' hnew hu3 hS' hbv hbk hc' hf' hbk2 hW5 hw5 hN4 hS4 hfr hu4 hBs
      have hfin : RefTo W4 (W5.setCell ⟨b, 1, none⟩ (.int .i64 (s + 1))) B b v (.slice A' (zs.length + 1) c') (zs ++ [(y, m)]) (s + 1) l := by
        obtain ⟨hbk2, hrows, hu3, hnew, hN4, hfr, hu4⟩ := HX.out
        have hu6 : Upd (fun k => k = b ∨ v.ownBlock = some k) W4 (W5.setCell ⟨b, 1, none⟩ (.int .i64 (s + 1))) := HW5.out.setCell (p := ⟨b, 1, none⟩) _ fun _ => .inl rfl
        refine ⟨⟨by rw [heap_setCell_same _ b 1 _ _ _ hbk2]; rfl, ⟨HRW.out.upd ((Upd.refl (fun k => k = b) W5).setCell (p := ⟨b, 1, none⟩) _ fun _ => rfl) fun k hk e => by subst e; exact HRW.out.far (.inl hN4.lt) hk, fun z hz => ?_⟩, hN4.lt, fun z hz => ?_⟩, hu6, fun k hk e => hnew k (by rw [World.size_alloc]; omega) e⟩
        · rcases List.mem_append.1 hz with hz | hz
          · exact (hN4.notes.ok z hz).upd hu6 hN4.not8
          · rw [List.mem_singleton.1 hz]
            exact (hfr.mono (Nat.zero_le _)).upd hu6 hN4.not8
        · rcases List.mem_append.1 hz with hz | hz
          · exact hN4.nm z hz
          · rw [List.mem_singleton.1 hz]
            exact ⟨h1, h2, h3⟩
      have HFIN := Lib.hid hfin
      have HK4 := Lib.hid HX.out.2.2.2.2.2.2
      have HFAR : Hid (m.2.2 ≠ [] → ∃ q, y.A = some ⟨q, 0, none⟩ ∧ w.heap.size ≤ q) := fun hm => by
        obtain ⟨q, q1, q2, _⟩ := HX.out.2.2.2.2.2.1.far hm
        exact ⟨q, q1, Nat.le_trans hk0.size q2⟩
      have HK0 := Lib.hid hk0
      clear hfin HX HW5 HRW hk0
      go_wp2
      go_ret
      exact ⟨rfl, .slice A' (zs.length + 1) c', y, HFAR.out, by rw [hv]; exact (((RefTo.refl h).kept HK0.out).kept HK4.out).trans HFIN.out⟩
    · go_simp
      refine hK _ _ (hS4.alloc _) ?_
      clear hK K
      refine wpOO_step (fun K hK => ?_) (hS4.alloc _)
      go_simp
      refine hK _ _ (hS4.alloc _) ?_
      clear hK K
      -- here: the world W4.alloc (cells (envA y)), 4, 6, 7 done
      obtain ⟨v', W', hr, hrows, hu', hnew⟩ := run_append_cut envP_rows 45 ((hN4.alloc (.cells (envA y) 29)).notes.rows) (y, m) W4.heap.size 1 _ _ (heap_alloc_new W4 _) (by unfold maxLen; omega) (by omega) (by rw [World.size_alloc]; omega)
      obtain ⟨A', c', rfl⟩ := hrows.form
      rw [List.length_append, List.length_singleton] at hr hrows hnew
      refine wpOO_step (fun K hK => ?_) (hS4.alloc _)
      refine step_append rfl (.tmp 29) (.tmp 32) rfl rfl rfl hr ?_
      have hu3 : Upd (fun k => v.ownBlock = some k) W4 W' := ((Upd.refl (fun k => v.ownBlock = some k) W4).alloc _).trans hu'
      have hS' : Upd (fun k => k = b ∨ v.ownBlock = some k) W2 W' := hS4.then hu3 fun _ _ h => .inr h
      have hbv := hN4.own_ne
      have hbk := hu3.heap hN4.blk hbv
      have hc' : W'.cell? ⟨b, 0, none⟩ = some v := by rw [cell_of_row _ _ _ _ _ _ hbk]; rfl
      have hf' : W'.frozen? ⟨b, 0, none⟩ = false := frozen_of_row W' b 0 _ _ hbk
      refine hK _ _ hS' ?_
      clear hK K
      iterate 2 (refine wpOO_held (fun K hK => ?_); go_simp; first | (apply Exists.intro; refine ⟨fun W hW => ?_, hK _ ?_⟩; (go_simp; first | done | exact rfl); clear hK K) | (refine hK _ ?_; clear hK K))
      refine wpOO_step (fun K hK => ?_) hS'
      go_simp
      refine hK _ _ (hS'.setCell (p := ⟨b, 0, none⟩) _ fun _ => .inl rfl) ?_
      clear hK K
      refine wpOO_nil ?_
      have hbk2 : (W'.setCell ⟨b, 0, none⟩ (.slice A' (zs.length + 1) c')).heap[b]? = some (.cells #[.slice A' (zs.length + 1) c', .int .i64 s, .int .i64 l] 63 (0, 0)) := by rw [heap_setCell_same _ b 0 _ _ _ hbk]; rfl
      have HX := Lib.hid (And.intro hbk2 (And.intro hrows (And.intro hu3 (And.intro hnew (And.intro hN4 (And.intro hfr hu4))))))
      have hW5 : Upd (fun k => k = b ∨ v.ownBlock = some k) W4 (W'.setCell ⟨b, 0, none⟩ (.slice A' (zs.length + 1) c')) := (hu3.mono fun _ _ h => .inr h).setCell (p := ⟨b, 0, none⟩) _ fun _ => .inl rfl
      have HW5 := Lib.hid hW5
      have HRW := Lib.hid (hrows.upd ((Upd.refl (fun k => k = b) W').setCell (p := ⟨b, 0, none⟩) (.slice A' (zs.length + 1) c') fun _ => rfl) fun k hk e => by subst e; exact hrows.far (.inl hN4.lt) hk)
      generalize hw5 : W'.setCell ⟨b, 0, none⟩ (.slice A' (zs.length + 1) c') = W5 at *
      have h2' : W5.cell? ⟨b, 1, none⟩ = some (.int .i64 s) := by rw [cell_of_row _ _ _ _ _ _ hbk2]; rfl
      have hz2' : W5.frozen? ⟨b, 1, none⟩ = false := frozen_of_row W5 b 1 _ _ hbk2
      clear hr hrows hu' hnew hu3 hS' hbv hbk hc' hf' hbk2 hW5 hw5 hN4 hS4 hfr hu4 hBs
      have hfin : RefTo W4 (W5.setCell ⟨b, 1, none⟩ (.int .i64 (s + 1))) B b v (.slice A' (zs.length + 1) c') (zs ++ [(y, m)]) (s + 1) l := by
        obtain ⟨hbk2, hrows, hu3, hnew, hN4, hfr, hu4⟩ := HX.out
        have hu6 : Upd (fun k => k = b ∨ v.ownBlock = some k) W4 (W5.setCell ⟨b, 1, none⟩ (.int .i64 (s + 1))) := HW5.out.setCell (p := ⟨b, 1, none⟩) _ fun _ => .inl rfl
        refine ⟨⟨by rw [heap_setCell_same _ b 1 _ _ _ hbk2]; rfl, ⟨HRW.out.upd ((Upd.refl (fun k => k = b) W5).setCell (p := ⟨b, 1, none⟩) _ fun _ => rfl) fun k hk e => by subst e; exact HRW.out.far (.inl hN4.lt) hk, fun z hz => ?_⟩, hN4.lt, fun z hz => ?_⟩, hu6, fun k hk e => hnew k (by rw [World.size_alloc]; omega) e⟩
        · rcases List.mem_append.1 hz with hz | hz
          · exact (hN4.notes.ok z hz).upd hu6 hN4.not8
          · rw [List.mem_singleton.1 hz]
            exact (hfr.mono (Nat.zero_le _)).upd hu6 hN4.not8
        · rcases List.mem_append.1 hz with hz | hz
          · exact hN4.nm z hz
          · rw [List.mem_singleton.1 hz]
            exact ⟨h1, h2, h3⟩
      have HFIN := Lib.hid hfin
      have HK4 := Lib.hid HX.out.2.2.2.2.2.2
      have HFAR : Hid (m.2.2 ≠ [] → ∃ q, y.A = some ⟨q, 0, none⟩ ∧ w.heap.size ≤ q) := fun hm => by
        obtain ⟨q, q1, q2, _⟩ := HX.out.2.2.2.2.2.1.far hm
        exact ⟨q, q1, Nat.le_trans hk0.size q2⟩
      have HK0 := Lib.hid hk0
      clear hfin HX HW5 HRW hk0
      go_wp2
      go_ret
      exact ⟨rfl, .slice A' (zs.length + 1) c', y, HFAR.out, by rw [hv]; exact (((RefTo.refl h).kept HK0.out).kept HK4.out).trans HFIN.out⟩


theorem refb_Put_ok {w : World} {B b : Nat} {v : Value} {zs : List (EnvC × Note)} {s l : Int} (h : RefB w B b v zs s l) (hs0 : 0 ≤ s) (hs1 : s < 4611686018427387904) (hB : B ≤ w.heap.size) {x : EnvC} {m : Note} (hx : NoteAt w x m)
    (h1 : namedB m.1 = true) (h2 : namedB m.2.1 = true) (h3 : m.2.2.length ≤ 65536) (h4 : zs.length < 4096) :
    Calls Try.prog 16 #[.pointer (some ⟨b, 0, none⟩), .agg (envA x)] w fun e w' => e = .returned (.int .i64 0) ∧ ∃ v' y, RefTo w w' B b v v' (zs ++ [(y, m)]) (s + 1) l := by
  refine (refb_Put_new h hs0 hs1 hB hx h1 h2 h3 h4).mono ?_
  rintro e w' ⟨rfl, v', y, _, hto⟩
  exact ⟨rfl, v', y, hto⟩

end Go.Proofs.Ytkfekkemfahepaa
