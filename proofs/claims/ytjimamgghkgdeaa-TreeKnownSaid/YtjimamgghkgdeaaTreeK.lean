/- tree: Root. -/
import Derived.Test.YtjimamgghkgdeaaTreeJ
namespace Go.Proofs.Ytjimamgghkgdeaa
open Go.RowKit

theorem levelsM_le (n : Nat) : ∀ {l : List Dig}, l.length = n → ∀ x ∈ levelsM shaM l, x.length ≤ n := by
  induction n using Nat.strongRecOn with
  | ind n ih =>
    intro l hl x hx
    rcases Nat.lt_or_ge 1 l.length with h | h
    · rw [levelsM_more h] at hx
      rcases List.mem_cons.1 hx with rfl | hx
      · omega
      · have h4 := up4_lt h
        have := ih (up4 l.length) (by omega) (aboveM_length l) x hx
        omega
    · rw [levelsM_one h] at hx
      obtain rfl := List.mem_singleton.1 hx
      omega
theorem depthM_le (n : Nat) : ∀ (l : List Dig), l.length = n → depthM n ≤ n + 1 := by
  induction n using Nat.strongRecOn with
  | ind n ih =>
    intro l hl
    rw [depthM]
    split
    · rename_i h
      have h4 := up4_lt h
      have := ih (up4 n) h4 (aboveM shaM l) (by rw [aboveM_length, hl])
      omega
    · omega
theorem levelsM_top {D : List Dig} (h : D ≠ []) : ∃ m, depthM D.length = m + 1 ∧ (levelsM shaM D)[m]? = some [rootM shaM D] := by
  have h1 := levelsM_depth (H := shaM) _ (l := D) rfl
  have h2 := rootM_last (H := shaM) h
  have h3 := levelsM_ne (H := shaM) D
  have h4 : 0 < (levelsM shaM D).length := List.length_pos_iff.2 h3
  rw [List.getLast?_eq_getElem?] at h2
  exact ⟨depthM D.length - 1, by omega, by rw [← h1]; exact h2⟩

/-- a digest's cells among a row of the call's own -/
theorem OwnD.seg {W : World} {B g n c : Nat} {D : List Dig} (h : OwnD W B (.slice (some ⟨g, 0, none⟩) n c) D) {k : Nat} (hk : k < D.length) : segB W ⟨g, k * 32, none⟩ 32 = true ∧ segV W ⟨g, k * 32, none⟩ 32 = dA D[k] := by
  obtain ⟨g1, c1, hv, _, _, h1, h2⟩ := OwnRows.get dA_size h hk
  simp only [Value.slice.injEq, Option.some.injEq, Addr.mk.injEq] at hv
  obtain ⟨⟨rfl, _⟩, _⟩ := hv
  exact ⟨h1, h2⟩

set_option maxHeartbeats 2000000 in
set_option maxRecDepth 20000 in
theorem tree_Root {w : World} {lo hi t b : Nat} {D : List Dig} (h : TreeAt w lo hi t b D) :
    Calls Try.prog 28 #[.pointer (some ⟨t, 0, none⟩)] w fun e W => e = .returned (.tuple #[.agg (dA (rootM shaM D)), .int .i64 0]) ∧ Kept w W := by
  obtain ⟨fv, v, xs, h⟩ := h
  have hne : D ≠ [] := by have := h.n1; intro h0; rw [h0] at this; simp at this
  obtain ⟨m, hm, hml⟩ := levelsM_top hne
  have hmb : (m : Int) ≤ 1024 := by have := depthM_le _ D rfl; have := h.n2; omega
  obtain ⟨g, c, g2, c2, hv0, hc, ho, -, hg1, hg2, hg3, hg4, hg5, hg6, hg7, hx, -⟩ := h.get hml
  rw [levelsM_depth _ rfl] at hv0
  subst hv0
  have c0 := h.blk.cell (k := 0) rfl
  have c6 := h.blk.cell (k := 6) rfl
  have hlt := Nat.lt_of_lt_of_le hg2 h.sz
  have hlt2 := Nat.lt_of_lt_of_le hg4 h.sz
  have hlt3 := Nat.lt_of_lt_of_le h.thi h.sz
  rw [hm] at c6
  simp only [List.length_singleton] at hc
  clear h hne hml hx hm
  generalize rootM shaM D = d at *
  have hr1 : Blk (w.alloc (.cells (dA dig0) 40)) w.heap.size 40 (encB dig0.1) := Blk.new w _ _
  have hk1 : Kept w (w.alloc (.cells (dA dig0) 40)) := (Upd.refl _ w).alloc _
  generalize hW1 : w.alloc (.cells (dA dig0) 40) = w1 at *
  have c0' := hk1.cell c0 id
  have f1 : ∀ W, Upd (fun k => k = w.heap.size) w1 W → W.cell? ⟨t, 6, none⟩ = some (.slice (some ⟨g, 0, none⟩) (m + 1) c) := fun W hW => hW.cell (hk1.cell c6 id) (by show ¬ t = _; have := hg1; omega)
  have f2 : ∀ W, Upd (fun k => k = w.heap.size) w1 W → W.cell? ⟨g, m, none⟩ = some (.slice (some ⟨g2, 0, none⟩) 1 c2) := fun W hW => hW.cell (hk1.cell hc id) (by show ¬ g = _; omega)
  have hu2 : ∀ W, Upd (fun k => k = w.heap.size) w1 W → Upd (fun k => k = w.heap.size) w W := fun W hW => hk1.to.trans hW
  have f3 : ∀ W, Upd (fun k => k = w.heap.size) w1 W → segB W ⟨g2, 0, none⟩ 32 = true ∧ segV W ⟨g2, 0, none⟩ 32 = dA d := fun W hW => by
    have := OwnD.seg (OwnRows.upd ho (hu2 W hW) (fun k e => by cases e; exact Nat.ne_of_lt hlt2)) (k := 0) (by simp)
    rwa [Nat.zero_mul, List.getElem_cons_zero] at this
  have f4 : ∀ W, Upd (fun k => k = w.heap.size) w1 W → segB W ⟨g2, 0, none⟩ 32 = true := fun W hW => (f3 W hW).1
  have f5 : ∀ W, Upd (fun k => k = w.heap.size) w1 W → segV W ⟨g2, 0, none⟩ 32 = dA d := fun W hW => (f3 W hW).2
  clear c0 c6 hc ho f3 hu2
  have HX := Lib.hid (And.intro hr1 hk1)
  clear hr1 hk1
  have hwm : IntKind.i64.wrap (m : Int) = m := by rw [IntKind.wrap_i64]; omega
  have hmi : (m : Int) < (m : Int) + 1 := by omega
  go_enter Try.func28, Try.ntmps28
  go_wp2_with fail
  refine (tree_none c0').mono ?_
  rintro e W ⟨rfl, rfl⟩
  go_wp2_with fail
  refine wp_region_ord [(0, true), (1, true), (2, true), (3, true), (4, true), (5, true), (6, true), (7, true), (8, true), (9, true), (10, true), (11, true), (12, true), (13, true), (14, false), (15, true)] (by kernel_rfl) (by kernel_rfl) (Upd (fun k => k = w.heap.size) w1) (Upd.refl _ w1).drew ?_
  simp only [ordOps, List.getD_cons_zero, List.getD_cons_succ]
  iterate 14 (refine wpOrd_held (fun K hK => ?_); go_simp; first | (apply Exists.intro; refine ⟨fun W hW => ?_, hK _ ?_⟩; (go_simp; first | done | exact rfl); clear hK K) | (refine hK _ ?_; clear hK K))
  refine wpOrd_step (fun K hK => ?_) (Upd.refl _ w1).drew
  obtain ⟨hr1, hk1⟩ := HX.out
  have hrB := (dig_end d hr1.drew)
  obtain ⟨e1, e2, e3⟩ := hrB
  have HY : Hid (Kept w (w1.drew.setRow w.heap.size (dA d)) ∧ segB (w1.drew.setRow w.heap.size (dA d)) ⟨w.heap.size, 0, none⟩ 32 = true ∧ segV (w1.drew.setRow w.heap.size (dA d)) ⟨w.heap.size, 0, none⟩ 32 = dA d) := ⟨Upd.setRow hk1.drew _ _ (fun h => absurd h (Nat.lt_irrefl _)), e2, e3⟩
  have hS1 : Upd (fun k => k = w.heap.size) w1 (w1.drew.setRow w.heap.size (dA d)) := (Upd.refl _ w1).drew.setRow _ _ fun _ => rfl
  clear hr1 hk1 e2 e3 HX
  generalize w1.drew = w2 at *
  go_simp
  refine hK _ _ hS1 ?_
  clear hK K
  iterate 1 (refine wpOrd_held (fun K hK => ?_); go_simp; first | (apply Exists.intro; refine ⟨fun W hW => ?_, hK _ ?_⟩; (go_simp; first | done | exact rfl); clear hK K) | (refine hK _ ?_; clear hK K))
  refine wpOrd_nil ?_
  clear f1 f2 f4 f5
  go_wp2
  refine bodyPost_ret (v := .tuple #[.agg (dA d), .int .i64 0]) ?_ rfl ⟨rfl, HY.out.1⟩
  rw [results_seg2 (P := Try.prog) (fn := Try.f28) (p := 2) (t := 3) (ty := 40) rfl _ _ ⟨w.heap.size, 0, none⟩ 32 _ (.int .i64 0) rfl rfl Try.underlying40 rfl sizeOf40 HY.out.2.1, HY.out.2.2]
theorem tree_Root_no {w : World} {p : Option Addr} (h : NoTree w p) :
    Calls Try.prog 28 #[.pointer p] w fun e W => e = .returned (.tuple #[.agg (dA dig0), .int .i64 1]) ∧ Kept w W := by
  have hr1 : Blk (w.alloc (.cells (dA dig0) 40)) w.heap.size 40 (encB dig0.1) := Blk.new w _ _
  have hk1 : Kept w (w.alloc (.cells (dA dig0) 40)) := (Upd.refl _ w).alloc _
  generalize hW1 : w.alloc (.cells (dA dig0) 40) = w1 at *
  obtain ⟨hrb, hs1, hs2⟩ := dig_end dig0 hr1
  have HF : Hid (Kept w (w1.setRow w.heap.size (dA dig0)) ∧ segB (w1.setRow w.heap.size (dA dig0)) ⟨w.heap.size, 0, none⟩ 32 = true ∧ segV (w1.setRow w.heap.size (dA dig0)) ⟨w.heap.size, 0, none⟩ 32 = dA dig0) := ⟨Upd.setRow hk1 _ _ (fun h => absurd h (Nat.lt_irrefl _)), hs1, hs2⟩
  replace h := h.kept hk1
  clear hr1 hk1 hs1 hs2
  go_enter Try.func28, Try.ntmps28
  go_wp2_with fail
  refine (tree_none_no h).mono ?_
  rintro e W ⟨rfl, rfl⟩
  go_wp2
  refine bodyPost_ret (v := .tuple #[.agg (dA dig0), .int .i64 1]) ?_ rfl ⟨rfl, HF.out.1⟩
  rw [results_seg2 (P := Try.prog) (fn := Try.f28) (p := 2) (t := 3) (ty := 40) rfl _ _ ⟨w.heap.size, 0, none⟩ 32 _ (.int .i64 1) rfl rfl Try.underlying40 rfl sizeOf40 HF.out.2.1, HF.out.2.2]
end Go.Proofs.Ytjimamgghkgdeaa
