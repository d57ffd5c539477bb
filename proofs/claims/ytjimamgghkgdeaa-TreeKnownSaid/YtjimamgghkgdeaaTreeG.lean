/- tree: New. -/
import Derived.Test.YtjimamgghkgdeaaTreeF
namespace Go.Proofs.Ytjimamgghkgdeaa
open Go.RowKit

/-- a tree's cells -/
def treeV (b : Nat) (n d m : Int) (fv av : Value) : List Value := [.pointer (some ⟨b, 0, none⟩), .int .i64 n, .int .u32 d, .int .i32 m, .int .u32 0, fv, av]
def freshF (g2 g6 g3 : Nat) : Value := .func (.func 43) #[] #[.pointer (some ⟨g2, 0, none⟩), .pointer (some ⟨g6, 0, none⟩), .pointer (some ⟨g3, 0, none⟩)]

set_option maxHeartbeats 2000000 in
set_option maxRecDepth 20000 in
theorem tree_ready1 {w : World} {b r q t : Nat} {L : List Bytes} (h : BookL w b r q L) {g2 g6 g3 n : Nat} {d : Dig} (h2 : Blk w g2 25 [.pointer (some ⟨b, 0, none⟩)]) (h6 : Blk w g6 40 (encB d.1)) (h3 : Blk w g3 3 [.int .i64 (n : Int)]) (h1 : 1 ≤ n) (hn : n ≤ 1024)
    {k m : Int} (ht : Blk w t 89 (treeV b n k m (freshF g2 g6 g3) (.slice none 0 0))) {p : Nat} (hp : Blk w p 27 [.pointer (some ⟨t, 0, none⟩)]) :
    Calls Try.prog 62 #[.pointer (some ⟨p, 0, none⟩)] w fun e W => e = .returned (.tuple #[]) ∧ ∃ v xs, Blk W t 89 (treeV b n k m (freshF g2 g6 g3) v) ∧ OwnRows slA 1 W w.heap.size 35 v xs ∧ Lev W w.heap.size xs (levelsM shaM (List.replicate n d)) ∧ BookL W b r q (notesM L (insM shaM (List.replicate n d))) ∧ Upd (fun i => Book3 b r q i ∨ i = t) w W := by
  have hpt : p ≠ t := by rintro rfl; have h5 := hp; unfold Blk at h5 ht; rw [ht] at h5; cases h5
  have f1 : ∀ W, (Upd (fun i => Book3 b r q i ∨ i = t) w W ∧ ∃ av, Blk W t 89 (treeV b n k m (freshF g2 g6 g3) av)) → W.cell? ⟨p, 0, none⟩ = some (.pointer (some ⟨t, 0, none⟩)) := fun W hW => (hp.upd hW.1 (fun e => e.elim (h.not hp (by decide)) hpt)).cell rfl
  have f2 : ∀ W, (Upd (fun i => Book3 b r q i ∨ i = t) w W ∧ ∃ av, Blk W t 89 (treeV b n k m (freshF g2 g6 g3) av)) → W.cell? ⟨t, 5, none⟩ = some (.func (.func 43) #[] #[.pointer (some ⟨g2, 0, none⟩), .pointer (some ⟨g6, 0, none⟩), .pointer (some ⟨g3, 0, none⟩)]) := fun W hW => by
    obtain ⟨_, av, hb⟩ := hW
    exact hb.cell rfl
  have HX := Lib.hid (And.intro h (And.intro h2 (And.intro h6 (And.intro h3 (And.intro h1 (And.intro hn ht))))))
  clear h h2 h6 h3 h1 hn ht hp
  go_enter Try.func62, Try.ntmps62
  go_wp2_with fail
  refine wp_region_ord [(0, true), (1, true), (2, true), (3, true), (4, true), (5, false), (6, false), (7, false), (8, false)] (by kernel_rfl) (by kernel_rfl) (fun W => Upd (fun i => Book3 b r q i ∨ i = t) w W ∧ ∃ av, Blk W t 89 (treeV b n k m (freshF g2 g6 g3) av)) (And.intro (Upd.refl _ w).drew ⟨_, HX.out.2.2.2.2.2.2.drew⟩) ?_
  simp only [ordOps, List.getD_cons_zero, List.getD_cons_succ]
  iterate 5 (refine wpOrd_held (fun K hK => ?_); go_simp; first | (apply Exists.intro; refine ⟨fun W hW => ?_, hK _ ?_⟩; (go_simp; first | done | exact rfl); clear hK K) | (refine hK _ ?_; clear hK K))
  clear f1 f2
  have hS : Upd (fun i => Book3 b r q i ∨ i = t) w w.drew ∧ ∃ av, Blk w.drew t 89 (treeV b n k m (freshF g2 g6 g3) av) := And.intro (Upd.refl _ w).drew ⟨_, HX.out.2.2.2.2.2.2.drew⟩
  have HB : Hid (Kept w w.drew ∧ w.drew.heap.size = w.heap.size) := ⟨(Upd.refl _ w).drew, rfl⟩
  generalize w.drew = wa at *
  refine wpOrd_step (fun K hK => ?_) hS
  go_simp
  obtain ⟨h, h2, h6, h3, h1, hn, ht⟩ := HX.out
  refine (tree_fresh (h.kept HB.out.1) (h2.kept HB.out.1) (h6.kept HB.out.1) (h3.kept HB.out.1) h1 hn).mono ?_
  rintro e wb ⟨v, xs, rfl, ho, hl, hb, hu⟩
  have htb := (ht.kept HB.out.1).upd hu ((h.kept HB.out.1).not (ht.kept HB.out.1) (by decide))
  have hS1 : Upd (fun i => Book3 b r q i ∨ i = t) w wb ∧ ∃ av, Blk wb t 89 (treeV b n k m (freshF g2 g6 g3) av) := ⟨(HB.out.1.to.trans (hu.mono fun _ _ h => .inl h)), _, htb⟩
  have c6 := htb.cell (k := 6) (v := .slice none 0 0) rfl
  have z6 := htb.thaw 6
  have htc := htb.set 6 v
  rw [show (treeV b n k m (freshF g2 g6 g3) (.slice none 0 0)).set 6 v = treeV b n k m (freshF g2 g6 g3) v from rfl] at htc
  have hS2 : Upd (fun i => Book3 b r q i ∨ i = t) w (wb.setCell ⟨t, 6, none⟩ v) ∧ ∃ av, Blk (wb.setCell ⟨t, 6, none⟩ v) t 89 (treeV b n k m (freshF g2 g6 g3) av) := ⟨hS1.1.setCell (p := ⟨t, 6, none⟩) _ (fun _ => .inr rfl), _, htc⟩
  have hut : Upd (fun i => i = t) wb (wb.setCell ⟨t, 6, none⟩ v) := (Upd.refl _ _).setCell (p := ⟨t, 6, none⟩) _ fun _ => rfl
  have HF : Hid (Blk (wb.setCell ⟨t, 6, none⟩ v) t 89 (treeV b n k m (freshF g2 g6 g3) v) ∧ OwnRows slA 1 (wb.setCell ⟨t, 6, none⟩ v) w.heap.size 35 v xs ∧ Lev (wb.setCell ⟨t, 6, none⟩ v) w.heap.size xs (levelsM shaM (List.replicate n d)) ∧ BookL (wb.setCell ⟨t, 6, none⟩ v) b r q (notesM L (insM shaM (List.replicate n d))) ∧ Upd (fun i => Book3 b r q i ∨ i = t) w (wb.setCell ⟨t, 6, none⟩ v)) := by
    rw [HB.out.2] at ho hl
    have htlt := ht.lt
    refine ⟨htc, OwnRows.upd ho hut (fun i hi e => by have := (World.ownsRow.lt ho i hi).1; omega), hl.upd hut (fun i hi j hj e => by have := (hl.far i hi j hj).1; omega), hb.far htb (by decide) hut, hS2.1⟩
  obtain ⟨A, c, hv⟩ := OwnRows.form ho
  subst hv
  refine hK _ _ hS1 ?_
  clear hK K h h2 h6 h3 h1 hn ht ho hl hb hu htc hut
  iterate 2 (refine wpOrd_step (fun K hK => ?_) hS1; go_simp; refine hK _ _ hS1 ?_; clear hK K)
  refine wpOrd_step (fun K hK => ?_) hS1
  go_simp
  refine hK _ _ hS2 ?_
  clear hK K
  refine wpOrd_nil ?_
  go_wp2
  go_end0
  exact ⟨rfl, _, xs, HF.out⟩
end Go.Proofs.Ytjimamgghkgdeaa
