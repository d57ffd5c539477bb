import Derived.Test.YtepjbijhkkjbfaaGreatSetZm
import Derived.RangeFuncNested
import Derived.RangeFuncBound
import Derived.RangeFuncCalls
import Derived.RangeFuncLeaves
import Derived.Shelf.Abstract
import Derived.Shelf.RegionOpen
import Derived.WalkKit
import Derived.OwnWalkIn
import Derived.TacticsInMore
import Derived.LoopNIn
import Derived.LoopIn
set_option linter.unusedVariables false
set_option linter.unusedSimpArgs false
namespace Go.Proofs.YtepjbijhkkjbfaaGreat
open Go.RowKit
variable {Tu : Nat → Prop}
theorem fetV_c {W : World} {f b gs m cs m1 m2 : Nat} {root : Dig} {hv ov : Value} (h : Blk W f 65 (fetV b root gs m cs m1 m2 hv ov)) : W.cell? ⟨f, 0, none⟩ = some (.pointer (some ⟨b, 0, none⟩)) ∧ W.cell? ⟨f, 33, none⟩ = some (.slice (some ⟨gs, 0, none⟩) m cs) ∧ W.cell? ⟨f, 34, none⟩ = some (.map (some m1)) ∧ W.cell? ⟨f, 35, none⟩ = some (.map (some m2)) ∧ W.cell? ⟨f, 36, none⟩ = some hv ∧ W.cell? ⟨f, 37, none⟩ = some ov := by
  have hl : (encB root.1).length = 32 := by rw [encB_length, root.2]
  have h1 : ∀ k, (fetV b root gs m cs m1 m2 hv ov)[33 + k]? = [.slice (some ⟨gs, 0, none⟩) m cs, .map (some m1), .map (some m2), hv, ov][k]? := fun k => by
    rw [fetV, show 33 + k = (32 + k) + 1 by omega, List.getElem?_cons_succ, List.getElem?_append_right (by omega), hl, Nat.add_sub_cancel_left]
  exact ⟨h.cell rfl, h.cell (h1 0), h.cell (h1 1), h.cell (h1 2), h.cell (h1 3), h.cell (h1 4)⟩
@[go_sem] theorem dss_eq_nil (w : World) (a : Option Addr) (n c n' c' : Nat) : (binOp .eql 63 (.slice a n c) (.slice none n' c')).run Tryz.prog w = .ok (.bool a.isNone) w := Lib.run_eql_slice_nil w _ _ a n c n' c' Tryz.underlying63
def downF (gf gd : Nat) : Value := .func (.func 51) #[] #[.pointer (some ⟨gf, 0, none⟩), .pointer (some ⟨gd, 0, none⟩)]
attribute [local irreducible] wpOrd
structure Down (W : World) (f gf gd : Nat) : Prop where
  f : Blk W gf 29 [.pointer (some ⟨f, 0, none⟩)]
  d : Blk W gd 68 [downF gf gd]
theorem Down.quiet {W W' : World} {f gf gd : Nat} {S : Nat → Prop} (h : Down W f gf gd) (hq : Quiet W S) (hu : Upd S W W') : Down W' f gf gd := ⟨hq.blk h.f (by decide) hu, hq.blk h.d (by decide) hu⟩
theorem Down.kept {W W' : World} {f gf gd : Nat} (h : Down W f gf gd) (hu : Kept W W') : Down W' f gf gd := h.quiet (Quiet.nil W) hu
theorem Blk.sp {W : World} {g : Nat} {x : Nat × Nat} (h : Blk W g 70 (spA x).toList) : segB W ⟨g, 0, none⟩ 2 = true ∧ segV W ⟨g, 0, none⟩ 2 = spA x := by
  have := h.seg 0 2 (spA x).toList rfl (fun j _ => by rw [Nat.zero_add]); simpa using this
theorem seg_kept {W W' : World} {a : Addr} {n : Nat} {cs : Array Value} (hn : 0 < n) (h1 : segB W a n = true) (h2 : segV W a n = cs) {S : Nat → Prop} (hu : Upd S W W') (hs : ¬ S a.block) : segB W' a n = true ∧ segV W' a n = cs := by
  have hz : 0 < (segV W a n).size := by rw [segV_size]; exact hn
  have hc := cell_of_seg h1 0 _ (Array.getElem?_eq_getElem hz); have hb := World.block_lt_of_cell? _ _ hc; rw [add_block] at hb; exact ⟨by rw [segB_same n (hu.block _ hb hs)]; exact h1, by rw [segV_same n (hu.block _ hb hs)]; exact h2⟩
theorem cell_off_map {W : World} {a : Addr} {m : Nat} {v : Value} (h : W.cell? a = some v) (hm : ∃ es c, W.heap[m]? = some (.map es c)) : a.block ≠ m := fun e => by
  obtain ⟨es, c, hm⟩ := hm; subst e; simp [World.cell?, hm] at h
section
variable {W W' : World} {B f m1 m2 b r q n gs cs : Nat} {root : Dig} {O : Option (List Bytes)} {s : KM × BM} {hv ov : Value}
theorem FetI.mcell (h : FetI Tu W B f m1 m2 b r q n root O s gs cs hv ov) {a : Addr} {v : Value} (hc : W.cell? a = some v) (hu : Upd (Maps2 m1 m2) W W') : W'.cell? a = some v :=
  hu.cell hc fun e => e.elim (cell_off_map hc h.k.map) (cell_off_map hc h.m.map)
theorem FetI.mseg (h : FetI Tu W B f m1 m2 b r q n root O s gs cs hv ov) {a : Addr} {k : Nat} {vs : Array Value} (hn : 0 < k) (h1 : segB W a k = true) (h2 : segV W a k = vs) (hu : Upd (Maps2 m1 m2) W W') : segB W' a k = true ∧ segV W' a k = vs := by
  have hz : 0 < (segV W a k).size := by rw [segV_size]; exact hn
  have hc := cell_of_seg h1 0 _ (Array.getElem?_eq_getElem hz); exact seg_kept hn h1 h2 hu fun e => by
    rw [← add_block a 0] at e; exact e.elim (cell_off_map hc h.k.map) (cell_off_map hc h.m.map)
end
set_option maxHeartbeats 4000000 in
set_option maxRecDepth 20000 in
theorem fetch_learn1 {B f m1 m2 b r q n gs cs : Nat} {root : Dig} {O : Option (List Bytes)} {hv ov : Value} {gf gd : Nat} : ∀ (l p : Nat) (d : Dig) {w : World} {s : KM × BM} (_ : FetI Tu w B f m1 m2 b r q n root O s gs cs hv ov) (_ : Down w f gf gd) (_ : l < depthM n) (_ : p < sizeL n l),
    Calls Tryz.prog 51 #[.agg (spA (l, p)), .agg (dA d), .pointer (some ⟨gf, 0, none⟩), .pointer (some ⟨gd, 0, none⟩)] w fun e W => (∃ v, e = .returned v) ∧ FetI Tu W B f m1 m2 b r q n root O (learnM n O l p d s) gs cs hv ov ∧ Upd (Maps2 m1 m2) w W := by
  intro l
  induction l using Nat.strongRecOn with
  | ind l ih =>
  intro p d w s h hd hl hp; have hsz := h.sz l; have hdp := depthM_small h.n2; have hsp : spOk (l, p) := ⟨by show l ≤ _; omega, by show p ≤ _; omega⟩; have hS1 : Blk (w.alloc (.cells (spA (l, p)) 70)) w.heap.size 70 (spA (l, p)).toList := Blk.new w _ _; have hk1 : Kept w (w.alloc (.cells (spA (l, p)) 70)) := (Upd.refl _ w).alloc _; generalize hW1 : w.alloc (.cells (spA (l, p)) 70) = w1 at *; have hS2 := hS1.alloc (.cells (dA d) 23); have hD2 : Blk (w1.alloc (.cells (dA d) 23)) w1.heap.size 23 (encB d.1) := Blk.new w1 _ _; have hk2 : Kept w (w1.alloc (.cells (dA d) 23)) := hk1.alloc _; generalize hW2 : w1.alloc (.cells (dA d) 23) = w2 at *; have HX := Lib.hid (And.intro (h.kept hk2) (And.intro (hd.kept hk2) (And.intro hS2 (And.intro hD2 hk2)))); have HL := Lib.hid (And.intro hl (And.intro hp (And.intro hsz (And.intro hdp hsp)))); have HI := Lib.hid ih; clear h hd hl hp hsz hdp hsp hS1 hk1 hS2 hD2 hk2 ih; have hq := HX.out.1.quiet; have f0 : ∀ W, Upd (Maps2 m1 m2) w2 W → W.cell? ⟨gf, 0, none⟩ = some (.pointer (some ⟨f, 0, none⟩)) := fun W hW => (HX.out.2.1.quiet hq hW).f.cell rfl; have f1 : ∀ W, Upd (Maps2 m1 m2) w2 W → W.cell? ⟨f, 34, none⟩ = some (.map (some m1)) := fun W hW => (fetV_c (hq.blk HX.out.1.blk (by decide) hW)).2.2.1; have f2 : ∀ W, Upd (Maps2 m1 m2) w2 W → segB W ⟨w.heap.size, 0, none⟩ 2 = true := fun W hW => (Blk.sp (hq.blk HX.out.2.2.1 (by decide) hW)).1; have f3 : ∀ W, Upd (Maps2 m1 m2) w2 W → segV W ⟨w.heap.size, 0, none⟩ 2 = spA (l, p) := fun W hW => (Blk.sp (hq.blk HX.out.2.2.1 (by decide) hW)).2; have f4 : ∀ W, Upd (Maps2 m1 m2) w2 W → segB W ⟨w1.heap.size, 0, none⟩ 32 = true := fun W hW => (dig_at (hq.blk HX.out.2.2.2.1 (by decide) hW)).1; have f5 : ∀ W, Upd (Maps2 m1 m2) w2 W → segV W ⟨w1.heap.size, 0, none⟩ 32 = dA d := fun W hW => (dig_at (hq.blk HX.out.2.2.2.1 (by decide) hW)).2; clear hq
  go_enter Tryz.func51, Tryz.ntmps51
  go_wp2_with fail; refine wp_region_ord [(0, true), (1, true), (2, true), (3, true), (4, true), (5, true), (6, false)] (by kernel_rfl) (by kernel_rfl) (Upd (Maps2 m1 m2) w2) (Upd.refl _ w2).drew ?_; simp only [ordOps, List.getD_cons_zero, List.getD_cons_succ]
  iterate 6 (refine wpOrd_held (fun K hK => ?_); go_simp; first | (apply Exists.intro; refine ⟨fun W hW => ?_, hK _ ?_⟩; (go_simp; first | done | exact rfl); clear hK K) | (refine hK _ ?_; clear hK K))
  obtain ⟨w3, hrun, h3, hu3⟩ := (HX.out.1.kept (Upd.refl _ w2).drew).putK l p HL.out.2.2.2.2 d; have hS3 : Upd (Maps2 m1 m2) w2 w3 := (Upd.refl _ w2).drew.trans (hu3.mono fun k _ e => .inl e); have hu2 : Upd (Maps2 m1 m2) w2 w2.drew := (Upd.refl _ w2).drew; generalize w2.drew = wd at *; refine wpOrd_step (fun K hK => ?_) hu2; go_simp; refine hK _ _ hS3 ?_; clear hK K hu3 hu2 hrun; refine wpOrd_nil ?_; clear f0 f1 f2 f3 f4 f5; have hq := HX.out.1.quiet; have H3 := Lib.hid (And.intro h3 (And.intro (HX.out.2.1.quiet hq hS3) (And.intro (hq.blk HX.out.2.2.1 (by decide) hS3) (And.intro (hq.blk HX.out.2.2.2.1 (by decide) hS3) (show Upd (Maps2 m1 m2) w w3 from HX.out.2.2.2.2.to.trans hS3))))); clear h3 hq hS3 HX; have f0 : ∀ W, Kept w3 W → W.cell? ⟨gf, 0, none⟩ = some (.pointer (some ⟨f, 0, none⟩)) := fun W hW => (H3.out.2.1.kept hW).f.cell rfl; have f1 : ∀ W, Kept w3 W → W.cell? ⟨f, 37, none⟩ = some ov := fun W hW => (H3.out.1.kept hW).c.2.2.2.2.2; cases O with
  | none =>
    obtain ⟨rfl, rfl⟩ := H3.out.1.old; go_wp2_with fail; refine wp_region_ord [(0, true), (1, true), (2, true), (3, true), (4, true), (5, true), (6, true), (7, true), (8, true), (9, true), (10, true), (11, true), (12, true), (13, true), (14, true), (15, true), (16, true), (17, true), (18, true), (19, true), (20, true), (21, true)] (by kernel_rfl) (by kernel_rfl) (Kept w3) (Upd.refl _ w3).drew ?_; simp only [ordOps, List.getD_cons_zero, List.getD_cons_succ]
    iterate 22 (refine wpOrd_held (fun K hK => ?_); go_simp; first | (apply Exists.intro; refine ⟨fun W hW => ?_, hK _ ?_⟩; (go_simp; first | done | exact rfl); clear hK K) | (refine hK _ ?_; clear hK K))
    refine wpOrd_nil ?_; clear f0 f1; have HF := Lib.hid (And.intro (H3.out.1.kept (Upd.refl _ w3).drew) (show Upd (Maps2 m1 m2) w w3.drew from H3.out.2.2.2.2.drew)); clear H3; go_wp2
    go_end0
    exact ⟨⟨_, rfl⟩, by rw [learnM_none]; exact HF.out.1, HF.out.2⟩
  | some hs =>
    obtain ⟨g, c, g2, c2, hov, o1, o2, o3⟩ := H3.out.1.old.dig HL.out.1 HL.out.2.1; have hli : (l : Int) < (depthM n : Int) := by have := HL.out.1; omega
    have hpi : (p : Int) < (sizeL n l : Int) := by have := HL.out.2.1; omega
    have hl0 : (l : Int) ≤ 2000 := by have := HL.out.1; have := HL.out.2.2.2.1; omega
    have f2 : ∀ W, Kept w3 W → W.cell? ⟨w.heap.size, 0, none⟩ = some (.int .i64 (l : Int)) := fun W hW => (H3.out.2.2.1.kept hW).cell (k := 0) rfl; have f3 : ∀ W, Kept w3 W → W.cell? ⟨w.heap.size, 1, none⟩ = some (.int .i64 (p : Int)) := fun W hW => (H3.out.2.2.1.kept hW).cell (k := 1) rfl; have f4 : ∀ W, Kept w3 W → W.cell? ⟨g, l, none⟩ = some (.slice (some ⟨g2, 0, none⟩) (sizeL n l) c2) := fun W hW => hW.cell o1 id; have f5 : ∀ W, Kept w3 W → segB W ⟨g2, p * 32, none⟩ 32 = true := fun W hW => (seg_kept (by omega) o2 o3 hW id).1; have f6 : ∀ W, Kept w3 W → segV W ⟨g2, p * 32, none⟩ 32 = dA (oldAt hs l p) := fun W hW => (seg_kept (by omega) o2 o3 hW id).2; have f7 : ∀ W, Kept w3 W → segB W ⟨w1.heap.size, 0, none⟩ 32 = true := fun W hW => (dig_at (H3.out.2.2.2.1.kept hW)).1; have f8 : ∀ W, Kept w3 W → segV W ⟨w1.heap.size, 0, none⟩ 32 = dA d := fun W hW => (dig_at (H3.out.2.2.2.1.kept hW)).2; rw [hov] at f1; have HOV := Lib.hid hov; clear o1 o2 o3 hov; obtain ⟨x, hx⟩ : ∃ x, x = oldAt hs l p := ⟨_, rfl⟩; rw [← hx] at f6; have HXX := Lib.hid hx; clear hx
    by_cases hdo : x = d
    rotate_left
    · have hdec : decide (x = d) = false := decide_eq_false hdo
      have HDO := Lib.hid hdo; clear hdo; go_wp2_with fail; refine wp_region_ord [(0, true), (1, true), (2, true), (3, true), (4, true), (5, true), (6, true), (7, true), (8, true), (9, true), (10, true), (11, true), (12, true), (13, true), (14, true), (15, true), (16, true), (17, true), (18, true), (19, true), (20, true), (21, true)] (by kernel_rfl) (by kernel_rfl) (Kept w3) (Upd.refl _ w3).drew ?_; simp only [ordOps, List.getD_cons_zero, List.getD_cons_succ]
      iterate 22 (refine wpOrd_held (fun K hK => ?_); go_simp; first | (apply Exists.intro; refine ⟨fun W hW => ?_, hK _ ?_⟩; (go_simp; first | done | exact rfl); clear hK K) | (refine hK _ ?_; clear hK K))
      refine wpOrd_nil ?_; clear f0 f1 f2 f3 f4 f5 f6 f7 f8; have HF := Lib.hid (And.intro (H3.out.1.kept (Upd.refl _ w3).drew) (show Upd (Maps2 m1 m2) w w3.drew from H3.out.2.2.2.2.drew)); clear H3; go_wp2
      go_end0
      exact ⟨⟨_, rfl⟩, by rw [learnM_ne (by rw [← HXX.out]; exact HDO.out)]; exact HF.out.1, HF.out.2⟩
    · subst hdo
      have hdec : decide (x = x) = true := decide_eq_true rfl; go_wp2_with fail; refine wp_region_ord [(0, true), (1, true), (2, true), (3, true), (4, true), (5, true), (6, true), (7, true), (8, true), (9, true), (10, true), (11, true), (12, true), (13, true), (14, true), (15, true), (16, true), (17, true), (18, true), (19, true), (20, true), (21, true)] (by kernel_rfl) (by kernel_rfl) (Kept w3) (Upd.refl _ w3).drew ?_; simp only [ordOps, List.getD_cons_zero, List.getD_cons_succ]
      iterate 22 (refine wpOrd_held (fun K hK => ?_); go_simp; first | (apply Exists.intro; refine ⟨fun W hW => ?_, hK _ ?_⟩; (go_simp; first | done | exact rfl); clear hK K) | (refine hK _ ?_; clear hK K))
      refine wpOrd_nil ?_; have hu4 : Kept w3 w3.drew := (Upd.refl _ w3).drew; have H4 := Lib.hid (And.intro (H3.out.1.kept hu4) (And.intro (H3.out.2.1.kept hu4) (And.intro (H3.out.2.2.1.kept hu4) (show Upd (Maps2 m1 m2) w w3.drew from H3.out.2.2.2.2.drew)))); clear f0 f1 f2 f3 f4 f5 f6 f7 f8 H3 hu4 hdec; generalize w3.drew = w4 at *; have f0 : ∀ W, Upd (Maps2 m1 m2) w4 W → W.cell? ⟨gf, 0, none⟩ = some (.pointer (some ⟨f, 0, none⟩)) := fun W hW => H4.out.1.mcell (H4.out.2.1.f.cell rfl) hW; have c0 : w4.cell? ⟨w.heap.size, 0, none⟩ = some (.int .i64 (l : Int)) := H4.out.2.2.1.cell (k := 0) rfl; obtain rfl | ⟨l', rfl⟩ : l = 0 ∨ ∃ l', l = l' + 1 := by cases l with | zero => exact .inl rfl | succ l' => exact .inr ⟨l', rfl⟩
      · have hz : ((0 : Nat) : Int) = 0 := rfl
        have hpn : p < n := HL.out.2.1; obtain ⟨g5, c5, ⟨xA, xn, xc⟩, hhv, q1, q2, q3, q4⟩ := H4.out.1.old.leaf hpn; simp only at q1; have hpi2 : (p : Int) < (n : Int) := by omega
        have f1 : ∀ W, Upd (Maps2 m1 m2) w4 W → W.cell? ⟨w.heap.size, 1, none⟩ = some (.int .i64 (p : Int)) := fun W hW => H4.out.1.mcell (H4.out.2.2.1.cell (k := 1) rfl) hW; have f2 : ∀ W, Upd (Maps2 m1 m2) w4 W → W.cell? ⟨f, 35, none⟩ = some (.map (some m2)) := fun W hW => H4.out.1.mcell H4.out.1.c.2.2.2.1 hW; have f3 : ∀ W, Upd (Maps2 m1 m2) w4 W → W.cell? ⟨f, 36, none⟩ = some (.slice (some ⟨g5, 0, none⟩) n c5) := fun W hW => H4.out.1.mcell (by rw [← hhv]; exact H4.out.1.c.2.2.2.2.1) hW; have f4 : ∀ W, Upd (Maps2 m1 m2) w4 W → W.cell? ⟨g5, p, none⟩ = some (.slice xA xn xc) := fun W hW => H4.out.1.mcell q1 hW; have HQ := Lib.hid (And.intro q2 (And.intro q3 q4)); clear q1 q2 q3 q4 hhv; go_wp2_with fail; refine wp_region_ord [(0, true), (1, true), (2, true), (3, true), (4, true), (5, true), (6, true), (7, true), (8, true), (9, true), (10, true), (11, true), (12, true), (13, true), (14, false)] (by kernel_rfl) (by kernel_rfl) (Upd (Maps2 m1 m2) w4) (Upd.refl _ w4).drew ?_; simp only [ordOps, List.getD_cons_zero, List.getD_cons_succ]
        iterate 14 (refine wpOrd_held (fun K hK => ?_); go_simp; first | (apply Exists.intro; refine ⟨fun W hW => ?_, hK _ ?_⟩; (go_simp; first | done | exact rfl); clear hK K) | (refine hK _ ?_; clear hK K))
        have hu4 : Upd (Maps2 m1 m2) w4 w4.drew := (Upd.refl _ w4).drew; have hq4 := (Quiet.nil w4).leaf HQ.out.1 (Upd.refl _ w4).drew; obtain ⟨w5, hrun, h5, hu5⟩ := (H4.out.1.kept (Upd.refl _ w4).drew).putM p (by have := HL.out.2.2.1.2; omega) hq4 HQ.out.2.1 HQ.out.2.2; simp only at hrun; have hS5 : Upd (Maps2 m1 m2) w4 w5 := hu4.trans (hu5.mono fun k _ e => .inr e); have HF := Lib.hid (And.intro h5 (show Upd (Maps2 m1 m2) w w5 from H4.out.2.2.2.trans hS5)); clear h5 hu5 hq4; generalize w4.drew = wd at *; refine wpOrd_step (fun K hK => ?_) hu4; go_simp; refine hK _ _ hS5 ?_; clear hK K hu4 hS5 hrun; refine wpOrd_nil ?_; clear f0 f1 f2 f3 f4 c0 H4; go_wp2
        go_end0
        exact ⟨⟨_, rfl⟩, by rw [learnM_leaf HXX.out.symm]; exact HF.out.1, HF.out.2⟩
      · have hz : ¬ ((l' + 1 : Nat) : Int) = 0 := by omega
        have hl1 : l' + 1 < depthM n := HL.out.1; have HC := fetch_children H4.out.1 l' p hl1 HL.out.2.1; obtain ⟨s1, s2⟩ := Blk.sp H4.out.2.2.1; have c1 : w4.cell? ⟨gf, 0, none⟩ = some (.pointer (some ⟨f, 0, none⟩)) := f0 w4 (Upd.refl _ _); clear f0; go_wp2_with fail; refine HC.mono ?_; clear HC; rintro e w5 ⟨v, rfl, hrow, hu5⟩; have hk1 : 1 ≤ kidsM n l' p ∧ kidsM n l' p ≤ 4 := by
          have h1 : p < up4 (sizeL n l') := HL.out.2.1; unfold kidsM; unfold up4 at h1; omega
        obtain ⟨k0, hk0⟩ : ∃ k0, k0 = kidsM n l' p := ⟨_, rfl⟩; rw [← hk0] at hrow hk1; obtain ⟨gk, ck, hv, -, -, -, -⟩ := OwnRows.get (f := spA) (n := 2) (fun _ => rfl) hrow (k := 0) (by rw [kidsL_length]; omega); rw [kidsL_length] at hv; subst hv; have H5 := Lib.hid (And.intro (H4.out.1.kept hu5) (And.intro (H4.out.2.1.kept hu5) (And.intro hrow (And.intro hk1 (And.intro hk0 (show Upd (Maps2 m1 m2) w w5 from H4.out.2.2.2.then hu5 (fun _ _ h => h.elim))))))); clear hrow hu5 hk1 hk0 c0 c1 s1 s2 H4; go_wp2_with fail
        go_loopw [18] (fun i wr => ∃ k : Nat, k ≤ k0 ∧ i = .int .i64 (k : Int) ∧ FetI Tu wr B f m1 m2 b r q n root (some hs) (kidsFold n hs l' p k (putK s.1 (l' + 1) p x, s.2)) gs cs hv ov ∧ Upd (Maps2 m1 m2) w5 wr) (fun i _ => 10 - (intOf i).toNat)
        case atStart => exact ⟨0, Nat.zero_le _, rfl, H5.out.1, Upd.refl _ _⟩
        case round =>
          obtain ⟨k, hk, rfl, hfet, hup⟩ := hrel; rcases Nat.lt_or_ge k k0 with hlt | hge
          · have hki : (k : Int) < (k0 : Int) := by omega
            have hk5 : (k : Int) ≤ 4 := by have := H5.out.2.2.2.1; omega
            have HR := Lib.hid (And.intro hfet (And.intro hup hlt)); obtain ⟨gk', ck', hv', -, -, t1, t2⟩ := OwnRows.get (f := spA) (n := 2) (fun _ => rfl) H5.out.2.2.1 (k := k) (by rw [kidsL_length]; exact hlt); simp only [Value.slice.injEq, Option.some.injEq, Addr.mk.injEq] at hv'; obtain ⟨⟨rfl, -⟩, -, -⟩ := hv'; rw [kidsL_get] at t2; obtain ⟨t1, t2⟩ := H5.out.1.mseg (by omega) t1 t2 hup; have hmm : 4 * p + k < sizeL n l' := by have h6 := H5.out.2.2.2.2.1; unfold kidsM at h6; omega
            obtain ⟨m, hmk⟩ : ∃ m, m = 4 * p + k := ⟨_, rfl⟩; rw [← hmk] at t2 hmm; have HMK := Lib.hid (And.intro hmk hmm); obtain ⟨g', c', g6, c6, hov, o1, o2, o3⟩ := hfet.old.dig (l := l') (p := m) (by omega) hmm; rw [HOV.out] at hov; simp only [Value.slice.injEq, Option.some.injEq, Addr.mk.injEq] at hov; obtain ⟨⟨rfl, -⟩, -, rfl⟩ := hov; clear hmk; have hrb : (storeRow 70 (.pointer (some ⟨wr.heap.size, 0, none⟩)) (.agg (spA (l', m)))).run Tryz.prog (wr.alloc (.cells #[.int .i64 0, .int .i64 0] 70)) = .ok .skip (wr.alloc (.cells (spA (l', m)) 70)) := by
              rw [row_store70 _ _ _ (rowB_new wr #[.int .i64 0, .int .i64 0] 70 wr.heap.size 2 rfl rfl) rfl rfl, setRow_new _ _ _ _ _ rfl]
            go_wp2_with fail; clear hrb; have hka : Kept wr (wr.alloc (.cells (spA (l', m)) 70)) := (Upd.refl _ wr).alloc _; have hSA : Blk (wr.alloc (.cells (spA (l', m)) 70)) wr.heap.size 70 (spA (l', m)).toList := Blk.new wr _ _; have hfa := hfet.kept hka; have hda := (H5.out.2.1.quiet H5.out.1.quiet hup).kept hka; have o1 := hka.cell o1 id; obtain ⟨o2, o3⟩ := seg_kept (by omega) o2 o3 hka id; have hua : Upd (Maps2 m1 m2) w5 (wr.alloc (.cells (spA (l', m)) 70)) := hup.alloc _; obtain ⟨wa, hwa⟩ : ∃ wa, wa = wr.alloc (.cells (spA (l', m)) 70) := ⟨_, rfl⟩; rw [← hwa] at hSA hfa hda o1 o2 o3 hua; have hli : (l' : Int) < (depthM n : Int) := by omega
            have hmi : (m : Int) < (sizeL n l' : Int) := by omega
            have g0 : ∀ W, Upd (Maps2 m1 m2) wa W → W.cell? ⟨gd, 0, none⟩ = some (.func (.func 51) #[] #[.pointer (some ⟨gf, 0, none⟩), .pointer (some ⟨gd, 0, none⟩)]) := fun W hW => hfa.mcell (hda.d.cell rfl) hW; have g1 : ∀ W, Upd (Maps2 m1 m2) wa W → W.cell? ⟨gf, 0, none⟩ = some (.pointer (some ⟨f, 0, none⟩)) := fun W hW => hfa.mcell (hda.f.cell rfl) hW; have g2 : ∀ W, Upd (Maps2 m1 m2) wa W → W.cell? ⟨f, 37, none⟩ = some (.slice (some ⟨g, 0, none⟩) (depthM n) c) := fun W hW => hfa.mcell (by rw [← HOV.out]; exact hfa.c.2.2.2.2.2) hW; have g3 : ∀ W, Upd (Maps2 m1 m2) wa W → segB W ⟨wr.heap.size, 0, none⟩ 2 = true := fun W hW => (hfa.mseg (by omega) (Blk.sp hSA).1 (Blk.sp hSA).2 hW).1; have g4 : ∀ W, Upd (Maps2 m1 m2) wa W → segV W ⟨wr.heap.size, 0, none⟩ 2 = spA (l', m) := fun W hW => (hfa.mseg (by omega) (Blk.sp hSA).1 (Blk.sp hSA).2 hW).2; have g5 : ∀ W, Upd (Maps2 m1 m2) wa W → W.cell? ⟨wr.heap.size, 0, none⟩ = some (.int .i64 (l' : Int)) := fun W hW => hfa.mcell (hSA.cell (k := 0) rfl) hW; have g6' : ∀ W, Upd (Maps2 m1 m2) wa W → W.cell? ⟨wr.heap.size, 1, none⟩ = some (.int .i64 (m : Int)) := fun W hW => hfa.mcell (hSA.cell (k := 1) rfl) hW; have g7 : ∀ W, Upd (Maps2 m1 m2) wa W → W.cell? ⟨g, l', none⟩ = some (.slice (some ⟨g6, 0, none⟩) (sizeL n l') c6) := fun W hW => hfa.mcell o1 hW; have g8 : ∀ W, Upd (Maps2 m1 m2) wa W → segB W ⟨g6, m * 32, none⟩ 32 = true := fun W hW => (hfa.mseg (by omega) o2 o3 hW).1; have g9 : ∀ W, Upd (Maps2 m1 m2) wa W → segV W ⟨g6, m * 32, none⟩ 32 = dA (oldAt hs l' m) := fun W hW => (hfa.mseg (by omega) o2 o3 hW).2; have HA := Lib.hid (And.intro hfa (And.intro hda (And.intro hua hlt))); clear hfet hup hlt hk hmm hSA hfa hda o1 o2 o3 hua hka HR; rw [← hwa]; clear hwa; have hu6 : Upd (Maps2 m1 m2) wa wa.drew := (Upd.refl _ wa).drew; refine wp_region_ord [(0, true), (1, true), (2, true), (3, true), (4, true), (5, true), (6, true), (7, true), (8, true), (9, true), (10, true), (11, true), (12, true), (13, true), (14, false)] (by kernel_rfl) (by kernel_rfl) (Upd (Maps2 m1 m2) wa) hu6 ?_; simp only [ordOps, List.getD_cons_zero, List.getD_cons_succ]
            iterate 14 (refine wpOrd_held (fun K hK => ?_); go_simp; first | (apply Exists.intro; refine ⟨fun W hW => ?_, hK _ ?_⟩; (go_simp; first | done | exact rfl); clear hK K) | (refine hK _ ?_; clear hK K))
            have hfd := HA.out.1.kept (Upd.refl _ wa).drew; have hdd := HA.out.2.1.kept (Upd.refl _ wa).drew; clear g0 g1 g2 g3 g4 g5 g6' g7 g8 g9; generalize wa.drew = wd at *; refine wpOrd_step (fun K hK => ?_) hu6; go_simp; have HG := HI.out l' (Nat.lt_succ_self l') m (oldAt hs l' m) hfd hdd (by omega) HMK.out.2; clear hfd hdd; refine HG.mono ?_; clear HG; rintro e w6 ⟨⟨v, rfl⟩, hf6, hu7⟩; have hS7 := hu6.trans hu7; refine hK _ _ hS7 ?_; clear hK K; have HF := Lib.hid (And.intro hf6 (show Upd (Maps2 m1 m2) w5 w6 from HA.out.2.2.1.trans hS7)); clear hf6 hu7 hS7 hu6; refine wpOrd_nil ?_; go_wp2_with fail
            go_roundw
            case rel => exact ⟨k + 1, HA.out.2.2.2, by show _ = _; go_num, by rw [kidsFold_succ, ← HMK.out.1]; exact HF.out.1, HF.out.2⟩
            case measure => have := HA.out.2.2.2; have := H5.out.2.2.2.1; simp [intOf]; omega
          · obtain rfl : k = k0 := by omega
            have hki : ¬ (k : Int) < (k : Int) := by omega
            have HF := Lib.hid (And.intro hfet (show Upd (Maps2 m1 m2) w wr from H5.out.2.2.2.2.2.trans hup)); clear hfet hup hge hk; go_wp2
            go_end0
            exact ⟨⟨_, rfl⟩, by rw [learnM_node HXX.out.symm, ← H5.out.2.2.2.2.1]; exact HF.out.1, HF.out.2⟩
end Go.Proofs.YtepjbijhkkjbfaaGreat
namespace Go.Proofs.YtepjbijhkkjbfaaGreat
open Go.RowKit
variable {Tu : Nat → Prop}
set_option maxHeartbeats 2000000 in
set_option maxRecDepth 20000 in
theorem fetch_learn {w : World} {B f m1 m2 b r q n gs cs : Nat} {root : Dig} {O : Option (List Bytes)} {s : KM × BM} {hv ov : Value} (h : FetI Tu w B f m1 m2 b r q n root O s gs cs hv ov) (l p : Nat) (d : Dig) (hl : l < depthM n) (hp : p < sizeL n l) :
    Calls Tryz.prog 27 #[.pointer (some ⟨f, 0, none⟩), .agg (spA (l, p)), .agg (dA d)] w fun e W => (∃ v, e = .returned v) ∧ FetI Tu W B f m1 m2 b r q n root O (learnM n O l p d s) gs cs hv ov ∧ Upd (Maps2 m1 m2) w W := by
  have a1 : Blk (w.alloc (.cells #[.pointer (some ⟨f, 0, none⟩)] 29)) w.heap.size 29 [.pointer (some ⟨f, 0, none⟩)] := Blk.new w _ _; have k1 : Kept w (w.alloc (.cells #[.pointer (some ⟨f, 0, none⟩)] 29)) := (Upd.refl _ w).alloc _; generalize hW1 : w.alloc (.cells #[.pointer (some ⟨f, 0, none⟩)] 29) = w1 at *; have a2 := a1.alloc (.cells (spA (l, p)) 70); have b2 : Blk (w1.alloc (.cells (spA (l, p)) 70)) w1.heap.size 70 (spA (l, p)).toList := Blk.new w1 _ _; have k2 : Kept w (w1.alloc (.cells (spA (l, p)) 70)) := k1.alloc _; generalize hW2 : w1.alloc (.cells (spA (l, p)) 70) = w2 at *; have a3 := a2.alloc (.cells (dA d) 23); have b3 := b2.alloc (.cells (dA d) 23); have c3 : Blk (w2.alloc (.cells (dA d) 23)) w2.heap.size 23 (encB d.1) := Blk.new w2 _ _; have k3 : Kept w (w2.alloc (.cells (dA d) 23)) := k2.alloc _; generalize hW3 : w2.alloc (.cells (dA d) 23) = w3 at *; have a4 := a3.alloc (.cells #[downF w.heap.size w3.heap.size] 68); have b4 := b3.alloc (.cells #[downF w.heap.size w3.heap.size] 68); have c4 := c3.alloc (.cells #[downF w.heap.size w3.heap.size] 68); have d4 : Blk (w3.alloc (.cells #[downF w.heap.size w3.heap.size] 68)) w3.heap.size 68 [downF w.heap.size w3.heap.size] := Blk.new w3 _ _; have k4 : Kept w (w3.alloc (.cells #[downF w.heap.size w3.heap.size] 68)) := k3.alloc _; have HX := Lib.hid (And.intro (h.kept k4) (And.intro (show Down (w3.alloc (.cells #[downF w.heap.size w3.heap.size] 68)) f w.heap.size w3.heap.size from ⟨a4, d4⟩) (And.intro k4 (And.intro hl hp)))); obtain ⟨s1, s2⟩ := Blk.sp b4; obtain ⟨s3, s4⟩ := dig_at c4; clear h a1 k1 a2 b2 k2 a3 b3 c3 k3 a4 b4 c4 d4 k4 hl hp; have hst : (store ⟨w3.heap.size, 0, none⟩ (downF w.heap.size w3.heap.size)).run Tryz.prog (w3.alloc (.cells #[.nilFunc] 68)) = .ok () (w3.alloc (.cells #[downF w.heap.size w3.heap.size] 68)) := by
    have hb : Blk (w3.alloc (.cells #[.nilFunc] 68)) w3.heap.size 68 [.nilFunc] := Blk.new w3 _ _; have hs : (w3.alloc (.cells #[.nilFunc] 68)).setCell ⟨w3.heap.size, 0, none⟩ (downF w.heap.size w3.heap.size) = w3.alloc (.cells #[downF w.heap.size w3.heap.size] 68) := by
      rw [setCell_eq_setRow _ w3.heap.size 0 _ _ (0, 0) _ hb, setRow_new _ _ _ _ _ rfl]
      rfl
    rw [run_store _ _ _ _ _ rfl, hb.cell (k := 0) rfl]; simp only [hb.thaw 0]; show Result.ok () _ = _; rw [hs]
  unfold downF at *
  go_enter Tryz.func27, Tryz.ntmps27
  go_wp2_with fail; have HG := fetch_learn1 l p d HX.out.1 HX.out.2.1 HX.out.2.2.2.1 HX.out.2.2.2.2; unfold downF at HG; refine HG.mono ?_; clear HG; rintro e w5 ⟨⟨v, rfl⟩, h5, hu5⟩; have HF := Lib.hid (And.intro h5 (show Upd (Maps2 m1 m2) w w5 from HX.out.2.2.1.to.trans hu5)); clear h5 hu5 HX s1 s2 s3 s4 hst; go_wp2
  go_end0
  exact ⟨⟨_, rfl⟩, HF.out.1, HF.out.2⟩
end Go.Proofs.YtepjbijhkkjbfaaGreat
namespace Go.Proofs.YtepjbijhkkjbfaaGreat
open Go.RowKit Go.Shelf
attribute [local go_sem] Oper.semAt_some
def upto {α : Type} (f : Nat → α) (k : Nat) : List α := (List.range k).map f
theorem upto_succ {α : Type} (f : Nat → α) (k : Nat) : upto f (k + 1) = upto f k ++ [f k] := by simp [upto, List.range_succ]
theorem upto_length {α : Type} (f : Nat → α) (k : Nat) : (upto f k).length = k := by simp [upto]
def encX (x : Nat × Nat) : Array Value := #[.int .i64 (x.1 : Int), .int .i64 (x.2 : Int)]
set_option maxRecDepth 100000 in
set_option maxHeartbeats 2000000 in
theorem back1_in {α : Type} (g : Nat → α) (en : α → Nat × Nat) (F : Fence) (n : Nat) (h7 : F.fn 56) (hro : F.round = none) (hn : 1 ≤ n) (l Bs n₀ b m cap : Nat) (z : Nat → Nat) (hreach : m ≤ 2000) (hg : ∀ k, k < m → en (g k) = (m - 1 - k, z (m - 1 - k))) (hb : b < n₀) (hB : Bs < n₀) (J Jx : List α → World → Prop)
    (hY : ∀ pre x W, J pre W → pre.length < m → YieldAt F (n - 1) Tryz.prog l (encX (en x)) W fun e W' =>
      (e = .returned (.bool true) ∧ J (pre ++ [x]) W' ∧ Below n₀ W W') ∨ (e = .returned (.bool false) ∧ Jx (pre ++ [x]) W'))
    (W : World) (hBs : W.cell? ⟨Bs, 0, none⟩ = some (.slice (some ⟨b, 0, none⟩) m cap)) (hc : ∀ j, j < m → W.cell? ⟨b, j, none⟩ = some (.int .i64 (z j : Int))) (h0 : J [] W) :
    CallsIn F n Tryz.prog 56 #[.func (.yield l) #[] #[], .pointer (some ⟨Bs, 0, none⟩)] W fun e W' => (∃ v, e = .returned v) ∧
      ((∃ ys, ys = upto g m ∧ J ys W') ∨ (∃ pre, (∃ k, k ≤ m ∧ pre = upto g k) ∧ Jx pre W')) := by
  refine callsIn_of_wp Tryz.func56 rfl h7 ?_ hro; simp only [Tryz.ntmps56, List.size_toArray, List.length_cons, List.length_nil, Nat.reduceAdd, Nat.reduceSub, Array.replicate_succ, Array.replicate_zero, List.push_toArray, List.append_toArray, List.nil_append, List.cons_append]; have hm0 : (m : Int) ≤ 2000 := by omega
  gi_wp2
  gi_loopw [3] (fun i wr => ∃ k : Nat, k ≤ m ∧ i = .int .i64 ((m : Int) - 1 - (k : Int)) ∧ J (upto g k) wr ∧ Below n₀ W wr)
    (fun i _ => ((intOf i) + 1).toNat)
  case atStart => exact ⟨0, Nat.zero_le _, (by first | (show Value.int _ _ = Value.int _ _; congr 1; omega) | rfl | simp), h0, Below.refl _ _⟩
  case round =>
    obtain ⟨k, hk, rfl, hJs, hnx⟩ := hrel; have hcx : wr.cell? ⟨Bs, 0, none⟩ = some (.slice (some ⟨b, 0, none⟩) m cap) := (hnx.cell (p := ⟨Bs, 0, none⟩) hB).trans hBs
    by_cases hlt : k < m
    · obtain ⟨i, hi⟩ : ∃ i, i = m - 1 - k := ⟨_, rfl⟩
      have hcy : wr.cell? ⟨b, i, none⟩ = some (.int .i64 (z i : Int)) := (hnx.cell (p := ⟨b, i, none⟩) hb).trans (hc i (by omega)); have hii : (m : Int) - 1 - (k : Int) = (i : Int) := by omega
      rw [hii]; obtain ⟨fn, tmps, assign, body, hy, hR⟩ := hY _ (g k) wr hJs (by rw [upto_length]; exact hlt); have hgk := hg k hlt; rw [← hi] at hgk; rw [hgk] at hy; unfold encX at hy; dsimp only at hy; have him : (i : Int) < (m : Int) := by omega
      have HH := Lib.hid (And.intro hi (And.intro hii hlt)); clear hi hii hlt hk hgk
      gi_wp2
      refine hR.mono ?_; rintro e W3 (⟨rfl, hJ3, hk3⟩ | ⟨rfl, hJx3⟩)
      · gi_wp2
        go_roundw
        case rel => exact ⟨k + 1, HH.out.2.2, (by have := HH.out.2.1; first | (show Value.int _ _ = Value.int _ _; congr 1; omega) | rfl), (by rw [upto_succ]; exact hJ3), hnx.trans hk3⟩
        case measure => simp [intOf] <;> omega
      · gi_wp2
        refine bodyPost_ret (results_none rfl _ _ _) rfl ?_; exact ⟨⟨_, rfl⟩, .inr ⟨_, ⟨k + 1, HH.out.2.2, by rw [upto_succ]⟩, hJx3⟩⟩
    · obtain rfl : k = m := by omega
      have hneg : ¬ (0 : Int) ≤ (k : Int) - 1 - (k : Int) := by omega
      gi_wp2
      go_end0
      exact ⟨⟨_, rfl⟩, .inl (by first | exact hJs | exact ⟨_, rfl, hJs⟩)⟩
set_option maxHeartbeats 1000000 in
theorem back_in (F : Fence) (n : Nat) (h5 : F.fn 37) (hro : F.round = none) (a : Option Addr) (len cap : Nat) (w : World) :
    CallsIn F n Tryz.prog 37 #[.slice a len cap] w fun e w' => e = .returned (.func (.func 56) #[] #[.pointer (some ⟨w.heap.size, 0, none⟩)]) ∧ w' = w.alloc (.cells #[.slice a len cap] 60) := by
  refine callsIn_of_wp Tryz.func37 rfl h5 ?_ hro; simp only [Tryz.ntmps37, List.size_toArray, List.length_cons, List.length_nil, Nat.reduceAdd, Nat.reduceSub, Array.replicate_succ, Array.replicate_zero, List.push_toArray, List.append_toArray, List.nil_append, List.cons_append]
  gi_wp2
  go_ret
  exact ⟨rfl, rfl⟩
theorem back_stops {α : Type} (g : Nat → α) (en : α → Nat × Nat) (F : Fence) (n : Nat) (h8 : F.fn 56) (hro : F.round = none) (hn : 1 ≤ n) (Bs n₀ b m cap : Nat) (z : Nat → Nat) (hreach : m ≤ 2000) (hg : ∀ k, k < m → en (g k) = (m - 1 - k, z (m - 1 - k))) (w : World) (hBn : Bs < n₀) (hbn : b < n₀) (hn₀ : n₀ ≤ w.heap.size)
    (hcB : w.cell? ⟨Bs, 0, none⟩ = some (.slice (some ⟨b, 0, none⟩) m cap)) (hc : ∀ j, j < m → w.cell? ⟨b, j, none⟩ = some (.int .i64 (z j : Int))) :
    SeqStopsK F n Tryz.prog 56 #[.pointer (some ⟨Bs, 0, none⟩)] (fun x => encX (en x)) (Below n₀) (fun ys => ys = upto g m)
      (fun pre => ∃ k, k ≤ m ∧ pre = upto g k) m w := fun l J Jx W hW _ _ hY h0 => by
  have hc1 := (hW.cell (p := ⟨Bs, 0, none⟩) (show Bs < w.heap.size by omega)).trans hcB; exact back1_in g en F n h8 hro hn l Bs n₀ b m cap z hreach hg hbn hBn J Jx hY W hc1 (fun j hj => (hW.cell (p := ⟨b, j, none⟩) (show b < w.heap.size by omega)).trans (hc j hj)) h0
end Go.Proofs.YtepjbijhkkjbfaaGreat
namespace Go.Proofs.YtepjbijhkkjbfaaGreat
open Go.RowKit Go.Shelf
variable {Tu : Nat → Prop}
attribute [local go_sem] Oper.semAt_some
def askV : Option (Nat × Nat) → Value
  | none => .tuple #[.int .i64 0, .int .i64 0, .bool false]
  | some x => .tuple #[.int .i64 (x.1 : Int), .int .i64 (x.2 : Int), .bool true]
theorem askL_none {n : Nat} {s : KM × BM} {l : Nat} (h : ∀ j, j < sizeL n l → lacksM s l j = false) : askL n s l = none := by
  unfold askL; rw [List.find?_eq_none]; intro x hx; rw [h x (List.mem_range.1 hx)]; simp
theorem askL_some {n : Nat} {s : KM × BM} {l k : Nat} (h : ∀ j, j < k → lacksM s l j = false) (hk : k < sizeL n l) (hl : lacksM s l k = true) : askL n s l = some k := by
  unfold askL; rw [List.find?_range_eq_some]; exact ⟨hl, List.mem_range.2 hk, fun j hj => by rw [h j hj]; rfl⟩
abbrev LvX (n : Nat) : Type := { x : Nat × Nat // x.1 < depthM n ∧ x.2 = sizeL n x.1 }
theorem depthM_pos (n : Nat) : 1 ≤ depthM n := by rw [depthM]; split <;> omega
def backG (n k : Nat) : LvX n := ⟨(depthM n - 1 - k, sizeL n (depthM n - 1 - k)), by have := depthM_pos n; show depthM n - 1 - k < _; omega, rfl⟩
theorem askD_upto {n : Nat} {s : KM × BM} : ∀ k, k ≤ depthM n → (∀ x ∈ upto (backG n) k, askL n s x.1.1 = none) → askM n s = askD n s (depthM n - k)
  | 0, _, _ => rfl
  | k + 1, hk, h => by
    rw [upto_succ] at h; rw [askD_upto k (by omega) fun x hx => h x (List.mem_append_left _ hx)]; obtain ⟨j, hj⟩ : ∃ j, depthM n - k = j + 1 := ⟨depthM n - k - 1, by omega⟩; have h1 := h (backG n k) (List.mem_append_right _ (List.mem_singleton.2 rfl)); have e : (backG n k).1.1 = j := by show depthM n - 1 - k = j; omega
    rw [e] at h1; rw [hj, show depthM n - (k + 1) = j by omega]; simp only [askD, h1]
theorem askD_hit {n : Nat} {s : KM × BM} {k p : Nat} (hk : k < depthM n) (h : ∀ x ∈ upto (backG n) k, askL n s x.1.1 = none) (hp : askL n s (backG n k).1.1 = some p) : askM n s = some ((backG n k).1.1, p) := by
  rw [askD_upto k (by omega) h]; obtain ⟨j, hj⟩ : ∃ j, depthM n - k = j + 1 := ⟨depthM n - k - 1, by omega⟩; have e : (backG n k).1.1 = j := by show depthM n - 1 - k = j; omega
  rw [e] at hp ⊢; rw [hj]; simp only [askD, hp]
def NoneAll (n : Nat) (s : KM × BM) (pre : List (LvX n)) : Prop := ∀ x ∈ pre, askL n s x.1.1 = none
theorem NoneAll.snoc {n : Nat} {s : KM × BM} {pre : List (LvX n)} {x : LvX n} (h : NoneAll n s pre) (hx : askL n s x.1.1 = none) : NoneAll n s (pre ++ [x]) := fun y hy =>
  (List.mem_append.1 hy).elim (h y) (fun e => by rw [List.mem_singleton.1 e]; exact hx)
def HitAt (n : Nat) (s : KM × BM) (pre : List (LvX n)) (l p : Nat) : Prop := ∃ ini last, pre = ini ++ [last] ∧ NoneAll n s ini ∧ askL n s last.1.1 = some p ∧ last.1.1 = l
theorem below_kept {w W : World} (h : Below w.heap.size w W) : Kept w W := ⟨h.os, h.tape, h.output, h.size, fun k hk _ => h.block k hk⟩
theorem box_own {A B : World} {row : Option Nat} {b t : Nat} {v : Value} (h : Boxed A b t v) (hg : A.grownBy B row) (hr : ∀ r, row = some r → ∃ o : Obj, A.heap[r]? = some o ∧ o.isCells = false) : Boxed B b t v :=
  boxed_own (β := Unit) b t (fun _ => v) () A B row h hg hr
theorem box_keep {A B : World} {b t : Nat} {v : Value} (h : Boxed A b t v) (hu : Kept A B) : Boxed B b t v := hu.heap h id
theorem keeps_of_kept {W W' : World} (h : Kept W W') : KeepsOthers W W' := ⟨h.size, fun k o hk _ => h.heap hk id⟩
set_option maxRecDepth 100000 in
set_option maxHeartbeats 4000000 in
theorem fetch_Ask {w : World} {B f m1 m2 b r q n gs cs : Nat} {root : Dig} {O : Option (List Bytes)} {s : KM × BM} {hv ov : Value} (h : FetI Tu w B f m1 m2 b r q n root O s gs cs hv ov) :
    Calls Tryz.prog 11 #[.pointer (some ⟨f, 0, none⟩)] w fun e W => e = .returned (askV (askM n s)) ∧ Kept w W := by
  have x1 := Boxed.new w 29 (.pointer (some ⟨f, 0, none⟩)); have k1 : Kept w (w.alloc (.cells #[.pointer (some ⟨f, 0, none⟩)] 29)) := (Upd.refl _ w).alloc _; generalize hW1 : w.alloc (.cells #[.pointer (some ⟨f, 0, none⟩)] 29) = w1 at *; have x2 := Boxed.new w1 3 (.int .i64 0); have k2 := k1.alloc (.cells #[.int .i64 0] 3); have x1 := x1.alloc (.cells #[.int .i64 0] 3); generalize hW2 : w1.alloc (.cells #[.int .i64 0] 3) = w2 at *; have x3 := Boxed.new w2 3 (.int .i64 0); have k3 := k2.alloc (.cells #[.int .i64 0] 3); have x1 := x1.alloc (.cells #[.int .i64 0] 3); have x2 := x2.alloc (.cells #[.int .i64 0] 3); generalize hW3 : w2.alloc (.cells #[.int .i64 0] 3) = w3 at *; have x4 := Boxed.new w3 4 (.bool false); have k4 := k3.alloc (.cells #[.bool false] 4); have x1 := x1.alloc (.cells #[.bool false] 4); have x2 := x2.alloc (.cells #[.bool false] 4); have x3 := x3.alloc (.cells #[.bool false] 4); generalize hW4 : w3.alloc (.cells #[.bool false] 4) = w4 at *; have c0 := (h.kept k4).c.2.2.1; have c1 := (h.kept k4).c.2.1; have y1 := x1.cell; refine (callsIn_wide (n := 8)).1 ?_; refine callsIn_of_wp_marks Tryz.func11 rfl trivial ?_ rfl; simp only [Tryz.ntmps11, List.size_toArray, List.length_cons, List.length_nil, Nat.reduceAdd, Nat.reduceSub, Array.replicate_succ, Array.replicate_zero, List.push_toArray, List.append_toArray, List.nil_append, List.cons_append]
  gi_wp2_with (refine ⟨trivial, ?_⟩; first | (gi_at_call 36; refine (callsIn_wide.2 (fetch_none c0)).mono ?_; rintro e w' ⟨rfl, rfl⟩) | (gi_at_call 37; refine (back_in Fence.wide _ trivial rfl _ _ _ _).mono ?_; rintro e w' ⟨rfl, rfl⟩))
  have x5 := Boxed.new w4 60 (.slice (some ⟨gs, 0, none⟩) (depthM n) cs); have hgs : gs < w4.heap.size := Nat.lt_of_lt_of_le (World.ownsRow.lt h.szs gs rfl).2 k4.size; have hcz : ∀ j, j < (depthM n) → (w4.alloc (.cells #[.slice (some ⟨gs, 0, none⟩) (depthM n) cs] 60)).cell? ⟨gs, j, none⟩ = some (.int .i64 (sizeL n j : Int)) := fun j hj => ((h.kept k4).kept ((Upd.refl _ w4).alloc _)).size (by omega); have k5 := k4.alloc (.cells #[.slice (some ⟨gs, 0, none⟩) (depthM n) cs] 60); have x1 := x1.alloc (.cells #[.slice (some ⟨gs, 0, none⟩) (depthM n) cs] 60); have x2 := x2.alloc (.cells #[.slice (some ⟨gs, 0, none⟩) (depthM n) cs] 60); have x3 := x3.alloc (.cells #[.slice (some ⟨gs, 0, none⟩) (depthM n) cs] 60); have x4 := x4.alloc (.cells #[.slice (some ⟨gs, 0, none⟩) (depthM n) cs] 60); have hz5 : (w4.alloc (.cells #[.slice (some ⟨gs, 0, none⟩) (depthM n) cs] 60)).heap.size = w4.heap.size + 1 := World.size_alloc _ _; have hdp2 : (depthM n) ≤ 2000 := by have := depthM_small h.n2; omega
  generalize hW5 : w4.alloc (.cells #[.slice (some ⟨gs, 0, none⟩) (depthM n) cs] 60) = w5 at *; have n12 : w1.heap.size ≠ w2.heap.size := by have := x2.lt; have := World.size_alloc w1 (.cells #[.int .i64 0] 3); rw [hW2] at this; omega
  have n23 : w2.heap.size ≠ w3.heap.size := by have := World.size_alloc w2 (.cells #[.int .i64 0] 3); rw [hW3] at this; omega
  have n13 : w1.heap.size ≠ w3.heap.size := by have := World.size_alloc w2 (.cells #[.int .i64 0] 3); rw [hW3] at this; have := World.size_alloc w1 (.cells #[.int .i64 0] 3); rw [hW2] at this; omega
  have hsm : ∀ l, sizeL n l ≤ 1024 := fun l => (h.sz l).2; refine wpIn_rangeFunc_ownG (α := LvX n) rfl (by omega) (gf := 56) (lb := #[.pointer (some ⟨w4.heap.size, 0, none⟩)]) rfl trivial (enters_of Tryz.func56 (by kernel_rfl) rfl)
    (back_stops (backG n) (fun x => x.1) Fence.wide _ trivial rfl (by omega) w4.heap.size w5.heap.size gs (depthM n) cs (sizeL n) hdp2 (fun k hk => rfl) w5 (by omega) (by omega) (Nat.le_refl _) x5.cell hcz) belowK_t (belowK_b (Nat.le_refl _)) (Below.refl _ _) (fun _ => rfl)
    (fun pre W => (NoneAll n s pre ∧ Boxed W w.heap.size 29 (.pointer (some ⟨f, 0, none⟩)) ∧ Boxed W w1.heap.size 3 (.int .i64 0) ∧ Boxed W w2.heap.size 3 (.int .i64 0) ∧ Boxed W w3.heap.size 4 (.bool false) ∧ Boxed W w4.heap.size 60 (.slice (some ⟨gs, 0, none⟩) (depthM n) cs)) ∧ Below w.heap.size w W)
    (fun c pre W => (c = .ret ∧ ∃ lv p : Nat, HitAt n s pre lv p ∧ Boxed W w1.heap.size 3 (.int .i64 (lv : Int)) ∧ Boxed W w2.heap.size 3 (.int .i64 (p : Int)) ∧ Boxed W w3.heap.size 4 (.bool true)) ∧ Below w.heap.size w W)
    (OwnFrom.and (Own.from (fun s A B row hs hg hr => ⟨hs.1, box_own hs.2.1 hg hr, box_own hs.2.2.1 hg hr, box_own hs.2.2.2.1 hg hr, box_own hs.2.2.2.2.1 hg hr, box_own hs.2.2.2.2.2 hg hr⟩) _) (ownFrom_below (Nat.le_refl _) k5.size))
    (fun c => OwnFrom.and (Own.from (fun s A B row hs hg hr => by obtain ⟨hc, lv, p, e1, e4, e5, e6⟩ := hs; exact ⟨hc, lv, p, e1, box_own e4 hg hr, box_own e5 hg hr, box_own e6 hg hr⟩) _) (ownFrom_below (Nat.le_refl _) k5.size))
    ⟨⟨fun _ hx => absurd hx List.not_mem_nil, x1, x2, x3, x4, x5⟩, k5.below⟩
    (fun x => { tmps := #[.pointer (some ⟨f, 0, none⟩), .pointer (some ⟨w.heap.size, 0, none⟩), .pointer (some ⟨w1.heap.size, 0, none⟩), .pointer (some ⟨w2.heap.size, 0, none⟩), .pointer (some ⟨w3.heap.size, 0, none⟩), .int .i64 (x.1.1 : Int), .int .i64 (x.1.2 : Int), undef, .pointer (some ⟨f, 0, none⟩), .bool false, .pointer (some ⟨f, 0, none⟩), .pointer (some ⟨f, 0, none⟩), .pointer (some ⟨f, 33, none⟩), .slice (some ⟨gs, 0, none⟩) (depthM n) cs, .func (.func 56) #[] #[.pointer (some ⟨w4.heap.size, 0, none⟩)], .int .i64 (x.1.1 : Int), .int .i64 (x.1.2 : Int), undef, undef, undef, undef, undef, undef, undef, undef, undef, undef, undef, undef], defers := [] }) ?assign ?body ?done ?stop
  case assign =>
    intro l x W K hK; unfold encX
    gi_wp2
    exact hK
  case body =>
    rintro l pre x W ⟨⟨hp, b1, b2, b3, b4, b5⟩, hB⟩ hlen; have hb5 := b5.lt; have HX2 := Lib.hid x.2; have hlv : x.1.1 ≤ 2000 := by have := HX2.out.1; omega
    have hsz : x.1.2 ≤ 1024 := by rw [HX2.out.2]; exact hsm _
    have hszi : (x.1.2 : Int) ≤ 1024 := by omega
    have hfW : FetI Tu W B f m1 m2 b r q n root O s gs cs hv ov := h.kept (below_kept hB); have hd : 1 ≤ 8 - 1 - 1 := by omega
    clear c0 c1 y1; have HP := Lib.hid (And.intro hp (And.intro b1 (And.intro b2 (And.intro b3 (And.intro b4 (And.intro b5 (And.intro hb5 hB))))))); clear hp b1 b2 b3 b4 b5 hb5 hB hcz hsm hdp2
    gi_wp2
    gi_loopw [18] (fun i wr => ∃ k : Nat, k ≤ x.1.2 ∧ i = .int .i64 (k : Int) ∧ (∀ j, j < k → lacksM s x.1.1 j = false) ∧ Kept W wr) (fun i _ => 3000 - (intOf i).toNat)
    case atStart => exact ⟨0, Nat.zero_le _, rfl, fun j hj => absurd hj (Nat.not_lt_zero j), Upd.refl _ _⟩
    case round =>
      obtain ⟨k, hk, rfl, hno, hu⟩ := hrel; have HN := Lib.hid (And.intro hno (And.intro hu hk)); have y1 := (box_keep HP.out.2.1 hu).cell
      by_cases hlt : k < x.1.2
      · have hki : (k : Int) < (x.1.2 : Int) := by omega
        have hL := fetch_lacks (hfW.kept hu) x.1.1 k hlv (by omega); have HLT := Lib.hid hlt; have z2 := box_keep HP.out.2.2.1 hu; have z3 := box_keep HP.out.2.2.2.1 hu; have z4 := box_keep HP.out.2.2.2.2.1 hu; clear hno hu hk hlt; cases hb : lacksM s x.1.1 k with
        | false =>
          rw [hb] at hL; have HB := Lib.hid hb; clear hb z2 z3 z4
          gi_wp2_with (refine ⟨trivial, ?_⟩; gi_at_call 38; refine (CallsIn.inRound l (callsIn_wide.2 hL)).mono ?_; rintro e w' ⟨rfl, hu'⟩)
          go_roundw
          case rel => exact ⟨k + 1, HLT.out, (by show _ = _; go_num), (fun j hj => by rcases Nat.lt_succ_iff_lt_or_eq.1 hj with h1 | h1; exact HN.out.1 j h1; rw [h1]; exact HB.out), HN.out.2.1.then hu' (fun _ _ h => h)⟩
          case measure => simp [intOf]; omega
        | true =>
          rw [hb] at hL; have HB := Lib.hid hb; clear hb
          gi_wp2_with (refine ⟨trivial, ?_⟩; gi_at_call 38; refine (CallsIn.inRound l (callsIn_wide.2 hL)).mono ?_; rintro e wq ⟨rfl, hu'⟩; have v2 := box_keep z2 hu'; have v3 := box_keep z3 hu'; have v4 := box_keep z4 hu'; have s2 := v2.set (.int .i64 (x.1.1 : Int)); have s3 := v3.other (fun e => n12 e.symm) (.int .i64 (x.1.1 : Int)); have s4 := v4.other (fun e => n13 e.symm) (.int .i64 (x.1.1 : Int)); have t2 := s2.other n12 (.int .i64 (k : Int)); have t3 := s3.set (.int .i64 (k : Int)); have t4 := s4.other (fun e => n23 e.symm) (.int .i64 (k : Int)); have r2 := t2.other n13 (.bool true); have r3 := t3.other n23 (.bool true); have r4 := t4.set (.bool true); have c2 := v2.cell; have z2 := v2.frozen; have c3 := s3.cell; have z3 := s3.frozen; have c4 := t4.cell; have z4 := t4.frozen)
          have hu2 : Kept W wq := HN.out.2.1.then hu' (fun _ _ h => h); have hBq := HP.out.2.2.2.2.2.2.2.trans (hu2.below.mono HP.out.2.2.2.2.2.2.2.size); exact ⟨((keeps_of_kept hu2).trans ((KeepsOthers.setCell wq ⟨w1.heap.size, 0, none⟩ (.int .i64 (x.1.1 : Int))).trans ((KeepsOthers.setCell _ ⟨w2.heap.size, 0, none⟩ (.int .i64 (k : Int))).trans (KeepsOthers.setCell _ ⟨w3.heap.size, 0, none⟩ (.bool true))))).from _, ⟨rfl, x.1.1, k, ⟨pre, x, rfl, HP.out.1, askL_some HN.out.1 (by rw [← HX2.out.2]; exact HLT.out) HB.out, rfl⟩, r2, r3, r4⟩, ((hBq.setCell (p := ⟨w1.heap.size, 0, none⟩) k1.size _).setCell (p := ⟨w2.heap.size, 0, none⟩) k2.size _).setCell (p := ⟨w3.heap.size, 0, none⟩) k3.size _⟩
      · have hke : k = x.1.2 := by omega
        have hki : ¬ (k : Int) < (x.1.2 : Int) := by omega
        have hL := askL_none (n := n) (s := s) (l := x.1.1) (by rw [← HX2.out.2, ← hke]; exact HN.out.1); clear hno hu hk hlt hke
        gi_wp2
        obtain ⟨p1, p2, p3, p4, p5, p7, p8, p6⟩ := HP.out; have hu := HN.out.2.1; exact ⟨(keeps_of_kept hu).from _, (hu.below).mono (by omega), ⟨p1.snoc hL, box_keep p2 hu, box_keep p3 hu, box_keep p4 hu, box_keep p5 hu, box_keep p7 hu⟩, p6.trans (hu.below.mono (p6.size))⟩
  case done =>
    rintro D ys W hD rfl ⟨⟨hne, b1, b2, b3, b4, b5⟩, hB⟩ hK; have hask : askM n s = none := by rw [askD_upto (depthM n) (Nat.le_refl _) hne, Nat.sub_self]; rfl
    have q1 := b2.lt; have s2 := b2.set (.int .i64 0); have s3 := b3.other (fun e => n12 e.symm) (.int .i64 0); have s4 := b4.other (fun e => n13 e.symm) (.int .i64 0); have t2 := s2.other n12 (.int .i64 0); have t3 := s3.set (.int .i64 0); have t4 := s4.other (fun e => n23 e.symm) (.int .i64 0); have r2 := t2.other n13 (.bool false); have r3 := t3.other n23 (.bool false); have r4 := t4.set (.bool false); have hK3 := ((KeepsOthers.setCell W ⟨w1.heap.size, 0, none⟩ (.int .i64 0)).trans ((KeepsOthers.setCell _ ⟨w2.heap.size, 0, none⟩ (.int .i64 0)).trans (KeepsOthers.setCell _ ⟨w3.heap.size, 0, none⟩ (.bool false)))).same D _ hK rfl; have hB3 := ((hB.setCell (p := ⟨w1.heap.size, 0, none⟩) k1.size (.int .i64 0)).setCell (p := ⟨w2.heap.size, 0, none⟩) k2.size (.int .i64 0)).setCell (p := ⟨w3.heap.size, 0, none⟩) k3.size (.bool false); have c2 := b2.cell; have z2 := b2.frozen; have c3 := s3.cell; have z3 := s3.frozen; have c4 := t4.cell; have z4 := t4.frozen; clear c0 c1 y1
    gi_wp2
    refine ⟨by simp, .inl ⟨_, _, rfl, run_takeDeferred hK3, ?_⟩⟩; generalize (((W.setCell ⟨w1.heap.size, 0, none⟩ (.int .i64 0)).setCell ⟨w2.heap.size, 0, none⟩ (.int .i64 0)).setCell ⟨w3.heap.size, 0, none⟩ (.bool false)) = Wz at *; have hkp : ∀ {b t : Nat} {v : Value}, Boxed Wz b t v → (Wz.putObj D (.deferred none)).cell? ⟨b, 0, none⟩ = some v := fun h => (box_own h (grownBy_putObj' _ D (.deferred none)) (fun r e => by cases e; exact ⟨_, hK3, rfl⟩)).cell; have d1 := hkp r2; have d2 := hkp r3; have d3 := hkp r4; refine ⟨askV (askM n s), ?_, rfl, below_kept (hB3.trans (belowK_b (w := w) (Nat.le_refl _) Wz D _ _ (Nat.le_trans k5.size hD) hK3 rfl rfl))⟩; rw [hask]; simp [results, Tryz.f11, go_sem, d1, d2, d3, askV]
  case stop =>
    rintro D c pre W hD ⟨k, hk, rfl⟩ ⟨⟨rfl, lv, p, ⟨ini, last, e1, e2, e3, rfl⟩, e4, e5, e6⟩, hB⟩ hK
    gi_wp2
    refine ⟨by simp, .inl ⟨_, _, rfl, run_takeDeferred hK, ?_⟩⟩; have hkp : ∀ {b t : Nat} {v : Value}, Boxed W b t v → (W.putObj D (.deferred none)).cell? ⟨b, 0, none⟩ = some v := fun h => (box_own h (grownBy_putObj' _ D (.deferred none)) (fun r e => by cases e; exact ⟨_, hK, rfl⟩)).cell; have d1 := hkp e4; have d2 := hkp e5; have d3 := hkp e6; obtain ⟨k', rfl⟩ : ∃ k', k = k' + 1 := by
      cases k with
      | zero => simp [upto] at e1
      | succ k' => exact ⟨k', rfl⟩
    rw [upto_succ] at e1; obtain ⟨rfl, e7⟩ := List.append_inj' e1 rfl; obtain rfl : backG n k' = last := by simpa using e7
    refine ⟨askV (askM n s), ?_, rfl, below_kept (hB.trans (belowK_b (w := w) (Nat.le_refl _) W D _ _ (Nat.le_trans k5.size hD) hK rfl rfl))⟩; rw [askD_hit (by omega) e2 e3]; simp [results, Tryz.f11, go_sem, d1, d2, d3, askV]
end Go.Proofs.YtepjbijhkkjbfaaGreat
