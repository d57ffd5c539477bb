import Derived.Test.YtepjbijhkkjbfaaGreatSetZz
set_option linter.unusedVariables false
set_option linter.unusedSimpArgs false
namespace Go.Proofs.YtepjbijhkkjbfaaGreat
open Go.RowKit
variable {Tu : Nat → Prop}
attribute [local irreducible] wpOrd
section
variable {w : World} {c n : Nat} {root : Dig} {L : List Bytes} {A : Option Addr}
set_option maxHeartbeats 4000000 in
set_option maxRecDepth 20000 in
theorem ref_FBegin0 (hb : RBk Tu w c L (fun _ => False)) (hT : ∀ k, Tu k → k ≤ w.heap.size) (hp : Tu w.heap.size) (hM : L.length ≤ 80000) (h1 : 1 ≤ n) (h2 : n ≤ 1024) (cc : Nat) :
    Calls Tryz.prog 7 #[.pointer (some ⟨c, 0, none⟩), .agg (dA root), .int .i64 (n : Int), .slice A 0 cc] w fun e W => BegP Tu w c n root [] L e W := by
  have k1 : Kept w (w.alloc (.cells (dA root) 23)) := (Upd.refl _ w).alloc _; have r1 : Blk (w.alloc (.cells (dA root) 23)) w.heap.size 23 (encB root.1) := Blk.new w _ _; generalize hW1 : w.alloc (.cells (dA root) 23) = w1 at *; have HX := Lib.hid (And.intro (hb.kept k1) (And.intro r1 hM)); have HT := Lib.hid (show ∀ k, Tu k → k < w1.heap.size from fun k e => Nat.lt_of_le_of_lt (hT k e) r1.lt); have HP := Lib.hid hp; have HN := Lib.hid (And.intro h1 (And.intro h2 (And.intro k1 k1.size))); have d0 : decide ((n : Int) < 1) = false := decide_eq_false (by omega); have d0n : decide (n < 1) = false := decide_eq_false (by omega); have d1 : decide ((1024 : Int) < (n : Int)) = false := decide_eq_false (by omega); have d1n : decide (1024 < n) = false := decide_eq_false (by omega); have f1 : ∀ W, Kept w1 W → segB W ⟨w.heap.size, 0, none⟩ 32 = true := fun W hW => (dig_at (r1.kept hW)).1; have f2 : ∀ W, Kept w1 W → segV W ⟨w.heap.size, 0, none⟩ 32 = dA root := fun W hW => (dig_at (r1.kept hW)).2; clear hb hT hp hM h1 h2 k1 r1
  go_enter Tryz.func7, Tryz.ntmps7
  go_wp2_with fail; clear d0 d0n d1 d1n; apply shared6 (Rdy Tu w1 c n root)
  · intro hrest
    have hS0 : Kept w1 w1.drew := (Upd.refl _ w1).drew; refine wp_region_tree3 (.take 0 (.take 1 (.take 2 (.take 4 (.take 6 (.three 3 5 7 (.two 5 7 (.one 7 (.take 8 (.one 9 (.take 10 .done)))) (.one 5 (.take 8 (.one 9 (.take 10 .done))))) (.two 3 7 (.one 7 (.take 8 (.one 9 (.take 10 .done)))) (.one 3 (.take 8 (.one 9 (.take 10 .done))))) (.two 3 5 (.one 5 (.take 8 (.one 9 (.take 10 .done)))) (.one 3 (.take 8 (.one 9 (.take 10 .done)))))))))) ) (by kernel_rfl) (by kernel_rfl) (Kept w1) hS0 ?_; simp only [OT3.ops, List.getD_cons_zero, List.getD_cons_succ]
    iterate 5 (refine wpOT_held (fun K hK => ?_); go_simp; first | (apply Exists.intro; refine ⟨fun W hW => ?_, hK _ ?_⟩; (go_simp; first | done | exact rfl); clear hK K) | (refine hK _ ?_; clear hK K))
    generalize w1.drew = wd at *; refine wpOT_three (fun K hK => ?_) (fun K hK => ?_) (fun K hK => ?_) hS0
    ·
      go_simp; refine (ref_sizes wd n HN.out.1 HN.out.2.1).mono ?_; rintro e wA ⟨gs, cs, rfl, hrs, hcwA⟩
      replace hrs := own_base hrs (show w1.heap.size ≤ _ from hS0.size)
      have hS1 : Kept w1 wA := hS0.then hcwA (fun _ _ e => e); refine hK _ _ hS1 ?_; clear hK K; refine wpOT_fork (fun K hK => ?_) (fun K hK => ?_) hS1
      ·
        obtain ⟨wB, hmt, hrt, hcwB⟩ := run_make_bools n (by have := HN.out.2.1; omega) wA; go_simp
        replace hrt := own_base hrt (show w1.heap.size ≤ _ from hS1.size)
        obtain ⟨gt, hgt⟩ : ∃ gt, gt = wA.heap.size := ⟨_, rfl⟩; rw [← hgt] at hrt ⊢; clear hgt hmt; have hS2 : Kept w1 wB := hS1.then hcwB (fun _ _ e => e); refine hK _ _ hS2 ?_; clear hK K; refine wpOT_step (fun K hK => ?_) hS2; obtain ⟨wC, hmy, hry, hcwC⟩ := run_make_bss n (by have := HN.out.2.1; omega) wB; go_simp
        replace hry := own_base hry (show w1.heap.size ≤ _ from hS2.size)
        obtain ⟨gy, hgy⟩ : ∃ gy, gy = wB.heap.size := ⟨_, rfl⟩; rw [← hgy] at hry ⊢; clear hgy hmy; have hS3 : Kept w1 wC := hS2.then hcwC (fun _ _ e => e); refine hK _ _ hS3 ?_; clear hK K
        replace hrs := OwnRows.upd hrs hcwB (fun _ _ e => e)
        replace hrs := OwnRows.upd hrs hcwC (fun _ _ e => e)
        replace hrt := OwnRows.upd hrt hcwC (fun _ _ e => e)
        have HR := rdy_of (c := c) (root := root) HT.out (Nat.le_refl _) hS3 hrs hrt hry; have hS4 := hS3.alloc (.cells (rfA c root n (depthM n) gs cs gt gy) 84); clear hcwA hcwB hcwC hrs hrt hry hS0 hS1 hS2
        iterate 1 (refine wpOT_held (fun K hK => ?_); go_simp; first | (apply Exists.intro; refine ⟨fun W hW => ?_, hK _ ?_⟩; (go_simp; first | done | exact rfl); clear hK K) | (refine hK _ ?_; clear hK K))
        refine wpOT_step (fun K hK => ?_) hS3; go_simp; refine hK _ _ hS4 ?_; clear hK K; obtain ⟨g, hg⟩ : ∃ g, g = wC.heap.size := ⟨_, rfl⟩; rw [← hg] at HR ⊢; clear hg; generalize wC.alloc (.cells (rfA c root n (depthM n) gs cs gt gy) 84) = w5 at *
        iterate 1 (refine wpOT_held (fun K hK => ?_); go_simp; first | (apply Exists.intro; refine ⟨fun W hW => ?_, hK _ ?_⟩; (go_simp; first | done | exact rfl); clear hK K) | (refine hK _ ?_; clear hK K))
        refine wpOT_nil ?_; generalize Value.slice (some ⟨gs, 0, none⟩) (depthM n) cs = x33 at HR ⊢; generalize Value.slice (some ⟨gt, 0, none⟩) n n = x35 at HR ⊢; generalize Value.slice (some ⟨gy, 0, none⟩) n n = x37 at HR ⊢; generalize Value.agg (rfA c root n (depthM n) gs cs gt gy) = x38 at HR ⊢; exact hrest x33 x35 x37 x38 g w5 HR
      ·
        obtain ⟨wB, hmy, hry, hcwB⟩ := run_make_bss n (by have := HN.out.2.1; omega) wA; go_simp
        replace hry := own_base hry (show w1.heap.size ≤ _ from hS1.size)
        obtain ⟨gy, hgy⟩ : ∃ gy, gy = wA.heap.size := ⟨_, rfl⟩; rw [← hgy] at hry ⊢; clear hgy hmy; have hS2 : Kept w1 wB := hS1.then hcwB (fun _ _ e => e); refine hK _ _ hS2 ?_; clear hK K; refine wpOT_step (fun K hK => ?_) hS2; obtain ⟨wC, hmt, hrt, hcwC⟩ := run_make_bools n (by have := HN.out.2.1; omega) wB; go_simp
        replace hrt := own_base hrt (show w1.heap.size ≤ _ from hS2.size)
        obtain ⟨gt, hgt⟩ : ∃ gt, gt = wB.heap.size := ⟨_, rfl⟩; rw [← hgt] at hrt ⊢; clear hgt hmt; have hS3 : Kept w1 wC := hS2.then hcwC (fun _ _ e => e); refine hK _ _ hS3 ?_; clear hK K
        replace hrs := OwnRows.upd hrs hcwB (fun _ _ e => e)
        replace hrs := OwnRows.upd hrs hcwC (fun _ _ e => e)
        replace hry := OwnRows.upd hry hcwC (fun _ _ e => e)
        have HR := rdy_of (c := c) (root := root) HT.out (Nat.le_refl _) hS3 hrs hrt hry; have hS4 := hS3.alloc (.cells (rfA c root n (depthM n) gs cs gt gy) 84); clear hcwA hcwB hcwC hrs hrt hry hS0 hS1 hS2
        iterate 1 (refine wpOT_held (fun K hK => ?_); go_simp; first | (apply Exists.intro; refine ⟨fun W hW => ?_, hK _ ?_⟩; (go_simp; first | done | exact rfl); clear hK K) | (refine hK _ ?_; clear hK K))
        refine wpOT_step (fun K hK => ?_) hS3; go_simp; refine hK _ _ hS4 ?_; clear hK K; obtain ⟨g, hg⟩ : ∃ g, g = wC.heap.size := ⟨_, rfl⟩; rw [← hg] at HR ⊢; clear hg; generalize wC.alloc (.cells (rfA c root n (depthM n) gs cs gt gy) 84) = w5 at *
        iterate 1 (refine wpOT_held (fun K hK => ?_); go_simp; first | (apply Exists.intro; refine ⟨fun W hW => ?_, hK _ ?_⟩; (go_simp; first | done | exact rfl); clear hK K) | (refine hK _ ?_; clear hK K))
        refine wpOT_nil ?_; generalize Value.slice (some ⟨gs, 0, none⟩) (depthM n) cs = x33 at HR ⊢; generalize Value.slice (some ⟨gt, 0, none⟩) n n = x35 at HR ⊢; generalize Value.slice (some ⟨gy, 0, none⟩) n n = x37 at HR ⊢; generalize Value.agg (rfA c root n (depthM n) gs cs gt gy) = x38 at HR ⊢; exact hrest x33 x35 x37 x38 g w5 HR
    ·
      obtain ⟨wA, hmt, hrt, hcwA⟩ := run_make_bools n (by have := HN.out.2.1; omega) wd; go_simp
      replace hrt := own_base hrt (show w1.heap.size ≤ _ from hS0.size)
      obtain ⟨gt, hgt⟩ : ∃ gt, gt = wd.heap.size := ⟨_, rfl⟩; rw [← hgt] at hrt ⊢; clear hgt hmt; have hS1 : Kept w1 wA := hS0.then hcwA (fun _ _ e => e); refine hK _ _ hS1 ?_; clear hK K; refine wpOT_fork (fun K hK => ?_) (fun K hK => ?_) hS1
      ·
        go_simp; refine (ref_sizes wA n HN.out.1 HN.out.2.1).mono ?_; rintro e wB ⟨gs, cs, rfl, hrs, hcwB⟩
        replace hrs := own_base hrs (show w1.heap.size ≤ _ from hS1.size)
        have hS2 : Kept w1 wB := hS1.then hcwB (fun _ _ e => e); refine hK _ _ hS2 ?_; clear hK K; refine wpOT_step (fun K hK => ?_) hS2; obtain ⟨wC, hmy, hry, hcwC⟩ := run_make_bss n (by have := HN.out.2.1; omega) wB; go_simp
        replace hry := own_base hry (show w1.heap.size ≤ _ from hS2.size)
        obtain ⟨gy, hgy⟩ : ∃ gy, gy = wB.heap.size := ⟨_, rfl⟩; rw [← hgy] at hry ⊢; clear hgy hmy; have hS3 : Kept w1 wC := hS2.then hcwC (fun _ _ e => e); refine hK _ _ hS3 ?_; clear hK K
        replace hrt := OwnRows.upd hrt hcwB (fun _ _ e => e)
        replace hrt := OwnRows.upd hrt hcwC (fun _ _ e => e)
        replace hrs := OwnRows.upd hrs hcwC (fun _ _ e => e)
        have HR := rdy_of (c := c) (root := root) HT.out (Nat.le_refl _) hS3 hrs hrt hry; have hS4 := hS3.alloc (.cells (rfA c root n (depthM n) gs cs gt gy) 84); clear hcwA hcwB hcwC hrs hrt hry hS0 hS1 hS2
        iterate 1 (refine wpOT_held (fun K hK => ?_); go_simp; first | (apply Exists.intro; refine ⟨fun W hW => ?_, hK _ ?_⟩; (go_simp; first | done | exact rfl); clear hK K) | (refine hK _ ?_; clear hK K))
        refine wpOT_step (fun K hK => ?_) hS3; go_simp; refine hK _ _ hS4 ?_; clear hK K; obtain ⟨g, hg⟩ : ∃ g, g = wC.heap.size := ⟨_, rfl⟩; rw [← hg] at HR ⊢; clear hg; generalize wC.alloc (.cells (rfA c root n (depthM n) gs cs gt gy) 84) = w5 at *
        iterate 1 (refine wpOT_held (fun K hK => ?_); go_simp; first | (apply Exists.intro; refine ⟨fun W hW => ?_, hK _ ?_⟩; (go_simp; first | done | exact rfl); clear hK K) | (refine hK _ ?_; clear hK K))
        refine wpOT_nil ?_; generalize Value.slice (some ⟨gs, 0, none⟩) (depthM n) cs = x33 at HR ⊢; generalize Value.slice (some ⟨gt, 0, none⟩) n n = x35 at HR ⊢; generalize Value.slice (some ⟨gy, 0, none⟩) n n = x37 at HR ⊢; generalize Value.agg (rfA c root n (depthM n) gs cs gt gy) = x38 at HR ⊢; exact hrest x33 x35 x37 x38 g w5 HR
      ·
        obtain ⟨wB, hmy, hry, hcwB⟩ := run_make_bss n (by have := HN.out.2.1; omega) wA; go_simp
        replace hry := own_base hry (show w1.heap.size ≤ _ from hS1.size)
        obtain ⟨gy, hgy⟩ : ∃ gy, gy = wA.heap.size := ⟨_, rfl⟩; rw [← hgy] at hry ⊢; clear hgy hmy; have hS2 : Kept w1 wB := hS1.then hcwB (fun _ _ e => e); refine hK _ _ hS2 ?_; clear hK K; refine wpOT_step (fun K hK => ?_) hS2; go_simp; refine (ref_sizes wB n HN.out.1 HN.out.2.1).mono ?_; rintro e wC ⟨gs, cs, rfl, hrs, hcwC⟩
        replace hrs := own_base hrs (show w1.heap.size ≤ _ from hS2.size)
        have hS3 : Kept w1 wC := hS2.then hcwC (fun _ _ e => e); refine hK _ _ hS3 ?_; clear hK K
        replace hrt := OwnRows.upd hrt hcwB (fun _ _ e => e)
        replace hrt := OwnRows.upd hrt hcwC (fun _ _ e => e)
        replace hry := OwnRows.upd hry hcwC (fun _ _ e => e)
        have HR := rdy_of (c := c) (root := root) HT.out (Nat.le_refl _) hS3 hrs hrt hry; have hS4 := hS3.alloc (.cells (rfA c root n (depthM n) gs cs gt gy) 84); clear hcwA hcwB hcwC hrs hrt hry hS0 hS1 hS2
        iterate 1 (refine wpOT_held (fun K hK => ?_); go_simp; first | (apply Exists.intro; refine ⟨fun W hW => ?_, hK _ ?_⟩; (go_simp; first | done | exact rfl); clear hK K) | (refine hK _ ?_; clear hK K))
        refine wpOT_step (fun K hK => ?_) hS3; go_simp; refine hK _ _ hS4 ?_; clear hK K; obtain ⟨g, hg⟩ : ∃ g, g = wC.heap.size := ⟨_, rfl⟩; rw [← hg] at HR ⊢; clear hg; generalize wC.alloc (.cells (rfA c root n (depthM n) gs cs gt gy) 84) = w5 at *
        iterate 1 (refine wpOT_held (fun K hK => ?_); go_simp; first | (apply Exists.intro; refine ⟨fun W hW => ?_, hK _ ?_⟩; (go_simp; first | done | exact rfl); clear hK K) | (refine hK _ ?_; clear hK K))
        refine wpOT_nil ?_; generalize Value.slice (some ⟨gs, 0, none⟩) (depthM n) cs = x33 at HR ⊢; generalize Value.slice (some ⟨gt, 0, none⟩) n n = x35 at HR ⊢; generalize Value.slice (some ⟨gy, 0, none⟩) n n = x37 at HR ⊢; generalize Value.agg (rfA c root n (depthM n) gs cs gt gy) = x38 at HR ⊢; exact hrest x33 x35 x37 x38 g w5 HR
    ·
      obtain ⟨wA, hmy, hry, hcwA⟩ := run_make_bss n (by have := HN.out.2.1; omega) wd; go_simp
      replace hry := own_base hry (show w1.heap.size ≤ _ from hS0.size)
      obtain ⟨gy, hgy⟩ : ∃ gy, gy = wd.heap.size := ⟨_, rfl⟩; rw [← hgy] at hry ⊢; clear hgy hmy; have hS1 : Kept w1 wA := hS0.then hcwA (fun _ _ e => e); refine hK _ _ hS1 ?_; clear hK K; refine wpOT_fork (fun K hK => ?_) (fun K hK => ?_) hS1
      ·
        go_simp; refine (ref_sizes wA n HN.out.1 HN.out.2.1).mono ?_; rintro e wB ⟨gs, cs, rfl, hrs, hcwB⟩
        replace hrs := own_base hrs (show w1.heap.size ≤ _ from hS1.size)
        have hS2 : Kept w1 wB := hS1.then hcwB (fun _ _ e => e); refine hK _ _ hS2 ?_; clear hK K; refine wpOT_step (fun K hK => ?_) hS2; obtain ⟨wC, hmt, hrt, hcwC⟩ := run_make_bools n (by have := HN.out.2.1; omega) wB; go_simp
        replace hrt := own_base hrt (show w1.heap.size ≤ _ from hS2.size)
        obtain ⟨gt, hgt⟩ : ∃ gt, gt = wB.heap.size := ⟨_, rfl⟩; rw [← hgt] at hrt ⊢; clear hgt hmt; have hS3 : Kept w1 wC := hS2.then hcwC (fun _ _ e => e); refine hK _ _ hS3 ?_; clear hK K
        replace hry := OwnRows.upd hry hcwB (fun _ _ e => e)
        replace hry := OwnRows.upd hry hcwC (fun _ _ e => e)
        replace hrs := OwnRows.upd hrs hcwC (fun _ _ e => e)
        have HR := rdy_of (c := c) (root := root) HT.out (Nat.le_refl _) hS3 hrs hrt hry; have hS4 := hS3.alloc (.cells (rfA c root n (depthM n) gs cs gt gy) 84); clear hcwA hcwB hcwC hrs hrt hry hS0 hS1 hS2
        iterate 1 (refine wpOT_held (fun K hK => ?_); go_simp; first | (apply Exists.intro; refine ⟨fun W hW => ?_, hK _ ?_⟩; (go_simp; first | done | exact rfl); clear hK K) | (refine hK _ ?_; clear hK K))
        refine wpOT_step (fun K hK => ?_) hS3; go_simp; refine hK _ _ hS4 ?_; clear hK K; obtain ⟨g, hg⟩ : ∃ g, g = wC.heap.size := ⟨_, rfl⟩; rw [← hg] at HR ⊢; clear hg; generalize wC.alloc (.cells (rfA c root n (depthM n) gs cs gt gy) 84) = w5 at *
        iterate 1 (refine wpOT_held (fun K hK => ?_); go_simp; first | (apply Exists.intro; refine ⟨fun W hW => ?_, hK _ ?_⟩; (go_simp; first | done | exact rfl); clear hK K) | (refine hK _ ?_; clear hK K))
        refine wpOT_nil ?_; generalize Value.slice (some ⟨gs, 0, none⟩) (depthM n) cs = x33 at HR ⊢; generalize Value.slice (some ⟨gt, 0, none⟩) n n = x35 at HR ⊢; generalize Value.slice (some ⟨gy, 0, none⟩) n n = x37 at HR ⊢; generalize Value.agg (rfA c root n (depthM n) gs cs gt gy) = x38 at HR ⊢; exact hrest x33 x35 x37 x38 g w5 HR
      ·
        obtain ⟨wB, hmt, hrt, hcwB⟩ := run_make_bools n (by have := HN.out.2.1; omega) wA; go_simp
        replace hrt := own_base hrt (show w1.heap.size ≤ _ from hS1.size)
        obtain ⟨gt, hgt⟩ : ∃ gt, gt = wA.heap.size := ⟨_, rfl⟩; rw [← hgt] at hrt ⊢; clear hgt hmt; have hS2 : Kept w1 wB := hS1.then hcwB (fun _ _ e => e); refine hK _ _ hS2 ?_; clear hK K; refine wpOT_step (fun K hK => ?_) hS2; go_simp; refine (ref_sizes wB n HN.out.1 HN.out.2.1).mono ?_; rintro e wC ⟨gs, cs, rfl, hrs, hcwC⟩
        replace hrs := own_base hrs (show w1.heap.size ≤ _ from hS2.size)
        have hS3 : Kept w1 wC := hS2.then hcwC (fun _ _ e => e); refine hK _ _ hS3 ?_; clear hK K
        replace hry := OwnRows.upd hry hcwB (fun _ _ e => e)
        replace hry := OwnRows.upd hry hcwC (fun _ _ e => e)
        replace hrt := OwnRows.upd hrt hcwC (fun _ _ e => e)
        have HR := rdy_of (c := c) (root := root) HT.out (Nat.le_refl _) hS3 hrs hrt hry; have hS4 := hS3.alloc (.cells (rfA c root n (depthM n) gs cs gt gy) 84); clear hcwA hcwB hcwC hrs hrt hry hS0 hS1 hS2
        iterate 1 (refine wpOT_held (fun K hK => ?_); go_simp; first | (apply Exists.intro; refine ⟨fun W hW => ?_, hK _ ?_⟩; (go_simp; first | done | exact rfl); clear hK K) | (refine hK _ ?_; clear hK K))
        refine wpOT_step (fun K hK => ?_) hS3; go_simp; refine hK _ _ hS4 ?_; clear hK K; obtain ⟨g, hg⟩ : ∃ g, g = wC.heap.size := ⟨_, rfl⟩; rw [← hg] at HR ⊢; clear hg; generalize wC.alloc (.cells (rfA c root n (depthM n) gs cs gt gy) 84) = w5 at *
        iterate 1 (refine wpOT_held (fun K hK => ?_); go_simp; first | (apply Exists.intro; refine ⟨fun W hW => ?_, hK _ ?_⟩; (go_simp; first | done | exact rfl); clear hK K) | (refine hK _ ?_; clear hK K))
        refine wpOT_nil ?_; generalize Value.slice (some ⟨gs, 0, none⟩) (depthM n) cs = x33 at HR ⊢; generalize Value.slice (some ⟨gt, 0, none⟩) n n = x35 at HR ⊢; generalize Value.slice (some ⟨gy, 0, none⟩) n n = x37 at HR ⊢; generalize Value.agg (rfA c root n (depthM n) gs cs gt gy) = x38 at HR ⊢; exact hrest x33 x35 x37 x38 g w5 HR
  · rintro x33 x35 x37 x38 g W ⟨gs, cs, gt, gy, -, -, -, -, hR, hu, hlg, hly⟩
    clear f1 f2; have hB0 : RBk Tu W c L (rAv (rfX gs cs gt gy n)) := HX.out.1.av (fun k e => by
      rcases e with e | e
      · exact .inr (by rw [e]; exact hly)
      · cases e) hu
    have HS := Lib.hid (And.intro hR (And.intro hB0 (And.intro (show Upd (fun k => ¬ Tu k) w1 W from hu.to) (show Blk W w.heap.size 23 (encB root.1) from HX.out.2.1.kept hu)))); clear hR hu hlg hly hB0 hW1; go_wp2_with fail
    go_loopw [11] (fun u wr => u = .int .i64 0 ∧ wr = W) (fun u _ => 1)
    case atStart => exact ⟨rfl, by trivial⟩
    case round =>
      obtain ⟨rfl, rfl⟩ := hrel; have HD := Lib.hid (depthM_small HN.out.2.1); have HSZ := Lib.hid (show ∀ j, 1 ≤ sizeL n j ∧ sizeL n j ≤ 1024 from fun j => ⟨sizeL_pos HN.out.1 j, Nat.le_trans (sizeL_le HN.out.1 j) HN.out.2.1⟩); go_wp2_with fail; obtain ⟨hv, hhv⟩ : ∃ hv, hv = Value.slice none 0 0 := ⟨_, rfl⟩; obtain ⟨lv, hlv⟩ : ∃ lv, lv = Value.slice none 0 0 := ⟨_, rfl⟩; obtain ⟨hs, hhs⟩ : ∃ hs : List Bytes, hs = [] := ⟨_, rfl⟩; obtain ⟨P, hPP⟩ : ∃ P : List (List Dig), P = [] := ⟨_, rfl⟩; obtain ⟨li, hli⟩ : ∃ li : List (SlC × Bytes), li = [] := ⟨_, rfl⟩; obtain ⟨lx, hlx⟩ : ∃ lx : List SlC, lx = [] := ⟨_, rfl⟩; obtain ⟨L', hL'⟩ : ∃ L', L' = L := ⟨_, rfl⟩; have HS2 : Hid (RN Tu wr g c n root ⟨gs, cs, .slice none 0 0, [], .slice none 0 0, [], gt, n, gy, n, hv, lv, lx⟩ li hs P 0 0 ∧ RBk Tu wr c L' (rAv ⟨gs, cs, .slice none 0 0, [], .slice none 0 0, [], gt, n, gy, n, hv, lv, lx⟩) ∧ Upd (fun k => ¬ Tu k) w1 wr ∧ Blk wr w.heap.size 23 (encB root.1)) := by
        rw [hhv, hlv, hhs, hPP, hli, hlx, hL']; exact HS.out
      clear HS; have HS := HS2; clear HS2; have HOF : Hid (∀ W kv kx dv dx j1 j2, RN Tu W g c n root ⟨gs, cs, kv, kx, dv, dx, gt, n, gy, n, hv, lv, lx⟩ li hs P j1 j2 → RO Tu W n ⟨gs, cs, kv, kx, dv, dx, gt, n, gy, n, hv, lv, lx⟩ none) := fun W kv kx dv dx j1 j2 h => ⟨hhv, hlv⟩; obtain ⟨O0, hO0⟩ : ∃ O0 : Option (List Bytes), O0 = none := ⟨_, rfl⟩; rw [← hO0] at HOF; have HEND := Lib.hid (show longB [] = false ∧ O0 = (if ([] : List (SlC × Bytes)) = [] then none else some (secs [])) ∧ L'.length ≤ L.length + 2048 from ⟨rfl, by rw [hO0, if_pos rfl], by rw [hL']; omega⟩); clear hhv hlv hhs hPP hli hlx hL' hO0; go_wp2_with fail
      go_loopw [12] (fun u wr => ∃ (j : Nat) (kA : Option Addr) (km kc : Nat) (kx : List SlC) (dA' : Option Addr) (dm dc : Nat) (dx : List SlC), j ≤ depthM n ∧ u = .int .i64 (j : Int) ∧ RN Tu wr g c n root ⟨gs, cs, .slice kA km kc, kx, .slice dA' dm dc, dx, gt, n, gy, n, hv, lv, lx⟩ li hs P j j ∧ RBk Tu wr c L' (rAv ⟨gs, cs, .slice none 0 0, [], .slice none 0 0, [], gt, n, gy, n, hv, lv, lx⟩) ∧ Upd (fun k => ¬ Tu k) w1 wr ∧ Blk wr w.heap.size 23 (encB root.1)) (fun u _ => 3000 - (intOf u).toNat)
      case atStart => exact ⟨0, none, 0, 0, [], none, 0, 0, [], Nat.zero_le _, rfl, HS.out.1, HS.out.2.1, HS.out.2.2.1, HS.out.2.2.2⟩
      case round =>
        clear HS; obtain ⟨j, kA, km, kc, kx, dA', dm, dc, dx, hj, rfl, hR, hB, hu, hrt⟩ := hrel; have c33 := hR.cells.2.1; rcases Nat.lt_or_ge j (depthM n) with hlt | hge
        · have hji : (j : Int) < (depthM n : Int) := by omega
          have hj5 : (j : Int) ≤ 1025 := by have := HD.out; omega
          have hs5 : (sizeL n j : Int) ≤ 1024 := by have := (HSZ.out j).2; omega
          have HJ := Lib.hid hlt; have HL := Lib.hid (And.intro hR (And.intro hB (And.intro hu hrt))); clear hR hB hu hrt hlt hj; go_wp2_with fail; clear c33; have HNT := Lib.hid HL.out.1.kT; have hgs : ¬ (gs = g ∨ (Value.slice kA km kc).ownBlock = some gs) := fun e => by
            obtain ⟨cu, hk⟩ := own_cells HL.out.1.szs (k := gs) rfl; rcases e with e | e
            · exact cells_ne hk HL.out.1.blk (by decide) e
            · obtain ⟨cu2, hk2⟩ := own_cells HL.out.1.kr e
              exact cells_ne hk hk2 (by decide) rfl
          have c33 := HL.out.1.cells.2.1; have csz := HL.out.1.size HJ.out; have f8 : ∀ W, (Upd (fun i => i = g ∨ (Value.slice kA km kc).ownBlock = some i) wr W ∧ W.cell? ⟨g, 33, none⟩ = some (.slice (some ⟨gs, 0, none⟩) (depthM n) cs)) → W.cell? ⟨g, 33, none⟩ = some (.slice (some ⟨gs, 0, none⟩) (depthM n) cs) := fun W hW => hW.2; have f9 : ∀ W, (Upd (fun i => i = g ∨ (Value.slice kA km kc).ownBlock = some i) wr W ∧ W.cell? ⟨g, 33, none⟩ = some (.slice (some ⟨gs, 0, none⟩) (depthM n) cs)) → W.cell? ⟨gs, j, none⟩ = some (.int .i64 (sizeL n j : Int)) := fun W hW => hW.1.cell csz hgs; have hS3 : Upd (fun i => i = g ∨ (Value.slice kA km kc).ownBlock = some i) wr wr.drew ∧ wr.drew.cell? ⟨g, 33, none⟩ = some (.slice (some ⟨gs, 0, none⟩) (depthM n) cs) := ⟨(Upd.refl _ _).drew, c33⟩; clear hgs c33 csz; refine wp_region_tree (.take 0 (.take 1 (.take 2 (.take 3 (.take 5 (.take 6 (.take 7 (.take 8 (.take 9 (.take 10 (.take 11 (.two 4 12 (.one 12 (.one 13 (.one 14 (.take 15 (.take 16 (.one 17 .done)))))) (.two 4 13 (.one 13 (.one 14 (.take 15 (.take 16 (.one 17 .done))))) (.one 4 (.one 14 (.take 15 (.take 16 (.one 17 .done))))))))))))))))) ) (by kernel_rfl) (by kernel_rfl) (fun W => Upd (fun i => i = g ∨ (Value.slice kA km kc).ownBlock = some i) wr W ∧ W.cell? ⟨g, 33, none⟩ = some (.slice (some ⟨gs, 0, none⟩) (depthM n) cs)) hS3 ?_; simp only [OT.ops, List.getD_cons_zero, List.getD_cons_succ]
          iterate 11 (refine wpOO_held (fun K hK => ?_); go_simp; first | (apply Exists.intro; refine ⟨fun W hW => ?_, hK _ ?_⟩; (go_simp; first | done | exact rfl); clear hK K) | (refine hK _ ?_; clear hK K))
          have hF3 := HL.out.1.kept (Upd.refl _ wr).drew; have hT3 : ∀ k, Tu k → k < wr.drew.heap.size := fun k e => Nat.lt_of_lt_of_le (HT.out k e) HL.out.2.2.1.size; have hkd : Kept wr wr.drew := (Upd.refl _ _).drew; generalize wr.drew = W3 at *; refine wpOO_fork (fun K hK => ?_) (fun K hK => ?_) hS3
          · have d3 := hF3.cells.2.2.1
            go_simp; refine hK _ _ hS3 ?_; clear hK K d3; refine wpOO_step (fun K hK => ?_) hS3; obtain ⟨WB, hmk, hx, hkB⟩ := run_make_bools (sizeL n j) (by have := (HSZ.out j).2; omega) W3; have hSB : Upd (fun i => i = g ∨ (Value.slice kA km kc).ownBlock = some i) wr WB ∧ WB.cell? ⟨g, 33, none⟩ = some (.slice (some ⟨gs, 0, none⟩) (depthM n) cs) := ⟨hS3.1.then hkB fun _ _ e => e.elim, (hF3.kept hkB).cells.2.1⟩; go_simp; refine hK _ _ hSB ?_; clear hK K hmk; have d4 := (hF3.kept hkB).cells.2.2.1; refine wpOO_step (fun K hK => ?_) hSB; go_simp; have hk5 : Kept W3 (WB.alloc (.cells (slA ⟨some ⟨W3.heap.size, 0, none⟩, sizeL n j, sizeL n j⟩) 81)) := (hkB.alloc _); have hg5 := heap_alloc_new WB (.cells (slA ⟨some ⟨W3.heap.size, 0, none⟩, sizeL n j, sizeL n j⟩) 81); have hx5 := OwnRows.upd hx ((Upd.refl (fun _ => False) WB).alloc (.cells (slA ⟨some ⟨W3.heap.size, 0, none⟩, sizeL n j, sizeL n j⟩) 81)) (fun _ _ e => e); have hS5 : Upd (fun i => i = g ∨ (Value.slice kA km kc).ownBlock = some i) wr (WB.alloc (.cells (slA ⟨some ⟨W3.heap.size, 0, none⟩, sizeL n j, sizeL n j⟩) 81)) ∧ (WB.alloc (.cells (slA ⟨some ⟨W3.heap.size, 0, none⟩, sizeL n j, sizeL n j⟩) 81)).cell? ⟨g, 33, none⟩ = some (.slice (some ⟨gs, 0, none⟩) (depthM n) cs) := ⟨hS3.1.then hk5 fun _ _ e => e.elim, (hF3.kept hk5).cells.2.1⟩; have d5 := (hF3.kept hk5).cells.2.2.1; refine hK _ _ hS5 ?_; clear hK K d4 hx; refine wpOO_step (fun K hK => ?_) hS5; have hF5 := hF3.kept hk5; refine step_append_rows bl_rows rfl (.tmp 91) (.tmp 100) rfl rfl hF5.kr ⟨some ⟨W3.heap.size, 0, none⟩, sizeL n j, sizeL n j⟩ WB.heap.size 1 _ _ rfl hg5 (by have := HD.out; have := HJ.out; rw [hF5.kl]; unfold maxLen; omega) (by have := HD.out; have := HJ.out; rw [hF5.kl]; omega) (Nat.zero_le _) ?_; intro v' W' hrows hu' hnew; have hS6 : Upd (fun i => i = g ∨ (Value.slice kA km kc).ownBlock = some i) wr W' ∧ W'.cell? ⟨g, 33, none⟩ = some (.slice (some ⟨gs, 0, none⟩) (depthM n) cs) := ⟨hS5.1.then hu' fun _ _ h => .inr h, hu'.cell hF5.cells.2.1 fun e => by
              obtain ⟨cu, hk⟩ := own_cells hF5.kr e; exact cells_ne hk hF5.blk (by decide) rfl⟩
            obtain ⟨hF7, c7, z7, hu7⟩ := hF3.known hT3 hk5 (x := ⟨some ⟨W3.heap.size, 0, none⟩, sizeL n j, sizeL n j⟩) hx5 hrows hu' hnew; refine hK _ _ hS6 ?_; clear hK K
            iterate 2 (refine wpOO_held (fun K hK => ?_); go_simp; first | (apply Exists.intro; refine ⟨fun W hW => ?_, hK _ ?_⟩; (go_simp; first | done | exact rfl); clear hK K) | (refine hK _ ?_; clear hK K))
            refine wpOO_step (fun K hK => ?_) hS6; obtain ⟨A', m', c', rfl⟩ : ∃ A' m' c', v' = .slice A' m' c' := by
              obtain ⟨A', c', h⟩ := OwnRows.form hrows; exact ⟨A', _, c', h⟩
            have hS7 : Upd (fun i => i = g ∨ (Value.slice kA km kc).ownBlock = some i) wr (W'.setCell ⟨g, 34, none⟩ (.slice A' m' c')) ∧ (W'.setCell ⟨g, 34, none⟩ (.slice A' m' c')).cell? ⟨g, 33, none⟩ = some (.slice (some ⟨gs, 0, none⟩) (depthM n) cs) := ⟨hS6.1.setCell (p := ⟨g, 34, none⟩) (.slice A' m' c') (fun _ => .inl rfl), hF7.cells.2.1⟩; have hty : ∀ k, ((Value.slice kA km kc).ownBlock = some k ∨ k = g) → ∃ cs t fr, W3.heap[k]? = some (.cells cs t fr) ∧ t ≠ 88 ∧ t ≠ 42 ∧ t ≠ 5 := fun k e => by
              rcases e with e | rfl
              · obtain ⟨cu, hk⟩ := own_cells hF3.kr e
                exact ⟨_, _, _, hk, by decide, by decide, by decide⟩
              · exact ⟨_, _, _, hF3.blk, by decide, by decide, by decide⟩
            have hnT : ∀ k, ((Value.slice kA km kc).ownBlock = some k ∨ k = g) → ¬ Tu k := fun k e => by
              rcases e with e | rfl
              · obtain ⟨cu, hk⟩ := own_cells hF3.kr e
                exact HNT.out k e
              · exact hF3.gT
            have hrt3 := HL.out.2.2.2.kept hkd; have hrt7 := hrt3.upd hu7 (fun e => by
              rcases e with e | e
              · obtain ⟨cu, hk⟩ := own_cells hF3.kr e
                exact cells_ne hk hrt3 (by decide) rfl
              · exact cells_ne hrt3 hF3.blk (by decide) e)
            have HF := Lib.hid (And.intro hF7 (And.intro ((HL.out.2.1.kept hkd).typ hu7 hty) (And.intro ((HL.out.2.2.1.then hkd fun _ _ e => e.elim).trans (hu7.mono fun k _ e => hnT k e)) hrt7))); go_simp; refine hK _ _ hS7 ?_; clear hK K hS7 hF7 c7 z7 hu7 hS6 hrows hu' hnew hS5 hF5 hg5 hx5 d5 hty hnT hrt3 hrt7 hk5 hSB hkB hF3 hT3 hS3 hkd; refine wpOO_nil ?_; generalize (W'.setCell ⟨g, 34, none⟩ (.slice A' m' c')) = W9 at *; obtain ⟨wr, rfl⟩ : ∃ wr : World, wr = W9 := ⟨_, rfl⟩; obtain ⟨kA2, rfl⟩ : ∃ q, q = A' := ⟨_, rfl⟩; obtain ⟨km2, rfl⟩ : ∃ q, q = m' := ⟨_, rfl⟩; obtain ⟨kc2, rfl⟩ : ∃ q, q = c' := ⟨_, rfl⟩
            replace HL := Lib.hid HF.out
            clear HF
            replace HNT := Lib.hid HL.out.1.dT
            clear f8 f9; go_wp2_with fail; have hgs : ¬ (gs = g ∨ (Value.slice dA' dm dc).ownBlock = some gs) := fun e => by
              obtain ⟨cu, hk⟩ := own_cells HL.out.1.szs (k := gs) rfl; rcases e with e | e
              · exact cells_ne hk HL.out.1.blk (by decide) e
              · obtain ⟨cu2, hk2⟩ := own_cells HL.out.1.dr e
                exact cells_ne hk hk2 (by decide) rfl
            have c33 := HL.out.1.cells.2.1; have csz := HL.out.1.size HJ.out; have f8 : ∀ W, (Upd (fun i => i = g ∨ (Value.slice dA' dm dc).ownBlock = some i) wr W ∧ W.cell? ⟨g, 33, none⟩ = some (.slice (some ⟨gs, 0, none⟩) (depthM n) cs)) → W.cell? ⟨g, 33, none⟩ = some (.slice (some ⟨gs, 0, none⟩) (depthM n) cs) := fun W hW => hW.2; have f9 : ∀ W, (Upd (fun i => i = g ∨ (Value.slice dA' dm dc).ownBlock = some i) wr W ∧ W.cell? ⟨g, 33, none⟩ = some (.slice (some ⟨gs, 0, none⟩) (depthM n) cs)) → W.cell? ⟨gs, j, none⟩ = some (.int .i64 (sizeL n j : Int)) := fun W hW => hW.1.cell csz hgs; have hS3 : Upd (fun i => i = g ∨ (Value.slice dA' dm dc).ownBlock = some i) wr wr.drew ∧ wr.drew.cell? ⟨g, 33, none⟩ = some (.slice (some ⟨gs, 0, none⟩) (depthM n) cs) := ⟨(Upd.refl _ _).drew, c33⟩; clear hgs c33 csz; refine wp_region_tree (.take 0 (.take 1 (.take 2 (.take 3 (.take 5 (.take 6 (.take 7 (.take 8 (.take 9 (.take 10 (.take 11 (.two 4 12 (.one 12 (.one 13 (.one 14 (.take 15 (.take 16 (.one 17 .done)))))) (.two 4 13 (.one 13 (.one 14 (.take 15 (.take 16 (.one 17 .done))))) (.one 4 (.one 14 (.take 15 (.take 16 (.one 17 .done))))))))))))))))) ) (by kernel_rfl) (by kernel_rfl) (fun W => Upd (fun i => i = g ∨ (Value.slice dA' dm dc).ownBlock = some i) wr W ∧ W.cell? ⟨g, 33, none⟩ = some (.slice (some ⟨gs, 0, none⟩) (depthM n) cs)) hS3 ?_; simp only [OT.ops, List.getD_cons_zero, List.getD_cons_succ]
            iterate 11 (refine wpOO_held (fun K hK => ?_); go_simp; first | (apply Exists.intro; refine ⟨fun W hW => ?_, hK _ ?_⟩; (go_simp; first | done | exact rfl); clear hK K) | (refine hK _ ?_; clear hK K))
            have hF3 := HL.out.1.kept (Upd.refl _ wr).drew; have hT3 : ∀ k, Tu k → k < wr.drew.heap.size := fun k e => Nat.lt_of_lt_of_le (HT.out k e) HL.out.2.2.1.size; have hkd : Kept wr wr.drew := (Upd.refl _ _).drew; generalize wr.drew = W3 at *; clear f8 f9; refine wpOO_fork (fun K hK => ?_) (fun K hK => ?_) hS3
            · have d3 := hF3.cells.2.2.2.1
              go_simp; refine hK _ _ hS3 ?_; clear hK K d3; refine wpOO_step (fun K hK => ?_) hS3; obtain ⟨WB, hmk, hx, hkB⟩ := run_make_digs2 (sizeL n j) (by have := (HSZ.out j).2; omega) W3; have hSB : Upd (fun i => i = g ∨ (Value.slice dA' dm dc).ownBlock = some i) wr WB ∧ WB.cell? ⟨g, 33, none⟩ = some (.slice (some ⟨gs, 0, none⟩) (depthM n) cs) := ⟨hS3.1.then hkB fun _ _ e => e.elim, (hF3.kept hkB).cells.2.1⟩; go_simp; refine hK _ _ hSB ?_; clear hK K hmk; have d4 := (hF3.kept hkB).cells.2.2.2.1; refine wpOO_step (fun K hK => ?_) hSB; go_simp; have hk5 : Kept W3 (WB.alloc (.cells (slA ⟨some ⟨W3.heap.size, 0, none⟩, sizeL n j, sizeL n j⟩) 45)) := (hkB.alloc _); have hg5 := heap_alloc_new WB (.cells (slA ⟨some ⟨W3.heap.size, 0, none⟩, sizeL n j, sizeL n j⟩) 45); have hx5 := OwnRows.upd hx ((Upd.refl (fun _ => False) WB).alloc (.cells (slA ⟨some ⟨W3.heap.size, 0, none⟩, sizeL n j, sizeL n j⟩) 45)) (fun _ _ e => e); have hS5 : Upd (fun i => i = g ∨ (Value.slice dA' dm dc).ownBlock = some i) wr (WB.alloc (.cells (slA ⟨some ⟨W3.heap.size, 0, none⟩, sizeL n j, sizeL n j⟩) 45)) ∧ (WB.alloc (.cells (slA ⟨some ⟨W3.heap.size, 0, none⟩, sizeL n j, sizeL n j⟩) 45)).cell? ⟨g, 33, none⟩ = some (.slice (some ⟨gs, 0, none⟩) (depthM n) cs) := ⟨hS3.1.then hk5 fun _ _ e => e.elim, (hF3.kept hk5).cells.2.1⟩; have d5 := (hF3.kept hk5).cells.2.2.2.1; refine hK _ _ hS5 ?_; clear hK K d4 hx; refine wpOO_step (fun K hK => ?_) hS5; have hF5 := hF3.kept hk5; refine step_append_rows sl_rows rfl (.tmp 108) (.tmp 117) rfl rfl hF5.dr ⟨some ⟨W3.heap.size, 0, none⟩, sizeL n j, sizeL n j⟩ WB.heap.size 1 _ _ rfl hg5 (by have := HD.out; have := HJ.out; rw [hF5.dl]; unfold maxLen; omega) (by have := HD.out; have := HJ.out; rw [hF5.dl]; omega) (Nat.zero_le _) ?_; intro v' W' hrows hu' hnew; have hS6 : Upd (fun i => i = g ∨ (Value.slice dA' dm dc).ownBlock = some i) wr W' ∧ W'.cell? ⟨g, 33, none⟩ = some (.slice (some ⟨gs, 0, none⟩) (depthM n) cs) := ⟨hS5.1.then hu' fun _ _ h => .inr h, hu'.cell hF5.cells.2.1 fun e => by
                obtain ⟨cu, hk⟩ := own_cells hF5.dr e; exact cells_ne hk hF5.blk (by decide) rfl⟩
              obtain ⟨hF7, c7, z7, hu7⟩ := hF3.digs hT3 hk5 (x := ⟨some ⟨W3.heap.size, 0, none⟩, sizeL n j, sizeL n j⟩) hx5 hrows hu' hnew; refine hK _ _ hS6 ?_; clear hK K
              iterate 2 (refine wpOO_held (fun K hK => ?_); go_simp; first | (apply Exists.intro; refine ⟨fun W hW => ?_, hK _ ?_⟩; (go_simp; first | done | exact rfl); clear hK K) | (refine hK _ ?_; clear hK K))
              refine wpOO_step (fun K hK => ?_) hS6; obtain ⟨A', m', c', rfl⟩ : ∃ A' m' c', v' = .slice A' m' c' := by
                obtain ⟨A', c', h⟩ := OwnRows.form hrows; exact ⟨A', _, c', h⟩
              have hS7 : Upd (fun i => i = g ∨ (Value.slice dA' dm dc).ownBlock = some i) wr (W'.setCell ⟨g, 35, none⟩ (.slice A' m' c')) ∧ (W'.setCell ⟨g, 35, none⟩ (.slice A' m' c')).cell? ⟨g, 33, none⟩ = some (.slice (some ⟨gs, 0, none⟩) (depthM n) cs) := ⟨hS6.1.setCell (p := ⟨g, 35, none⟩) (.slice A' m' c') (fun _ => .inl rfl), hF7.cells.2.1⟩; have hty : ∀ k, ((Value.slice dA' dm dc).ownBlock = some k ∨ k = g) → ∃ cs t fr, W3.heap[k]? = some (.cells cs t fr) ∧ t ≠ 88 ∧ t ≠ 42 ∧ t ≠ 5 := fun k e => by
                rcases e with e | rfl
                · obtain ⟨cu, hk⟩ := own_cells hF3.dr e
                  exact ⟨_, _, _, hk, by decide, by decide, by decide⟩
                · exact ⟨_, _, _, hF3.blk, by decide, by decide, by decide⟩
              have hnT : ∀ k, ((Value.slice dA' dm dc).ownBlock = some k ∨ k = g) → ¬ Tu k := fun k e => by
                rcases e with e | rfl
                · obtain ⟨cu, hk⟩ := own_cells hF3.dr e
                  exact HNT.out k e
                · exact hF3.gT
              have hrt3 := HL.out.2.2.2.kept hkd; have hrt7 := hrt3.upd hu7 (fun e => by
                rcases e with e | e
                · obtain ⟨cu, hk⟩ := own_cells hF3.dr e
                  exact cells_ne hk hrt3 (by decide) rfl
                · exact cells_ne hrt3 hF3.blk (by decide) e)
              have HF := Lib.hid (And.intro hF7 (And.intro ((HL.out.2.1.kept hkd).typ hu7 hty) (And.intro ((HL.out.2.2.1.then hkd fun _ _ e => e.elim).trans (hu7.mono fun k _ e => hnT k e)) hrt7))); go_simp; refine hK _ _ hS7 ?_; clear hK K hS7 hF7 c7 z7 hu7 hS6 hrows hu' hnew hS5 hF5 hg5 hx5 d5 hty hnT hrt3 hrt7 hk5 hSB hkB hF3 hT3 hS3 hkd; refine wpOO_nil ?_; generalize (W'.setCell ⟨g, 35, none⟩ (.slice A' m' c')) = W9 at *; go_wp2
              go_roundw
              case rel => exact ⟨j + 1, kA2, km2, kc2, _, A', m', c', _, HJ.out, by show _ = _; go_num, HF.out.1, HF.out.2.1, HF.out.2.2.1, HF.out.2.2.2⟩
              case measure => have := HJ.out; have := HD.out; simp [intOf]; omega
            ·
              obtain ⟨WB, hmk, hx, hkB⟩ := run_make_digs2 (sizeL n j) (by have := (HSZ.out j).2; omega) W3; have hSB : Upd (fun i => i = g ∨ (Value.slice dA' dm dc).ownBlock = some i) wr WB ∧ WB.cell? ⟨g, 33, none⟩ = some (.slice (some ⟨gs, 0, none⟩) (depthM n) cs) := ⟨hS3.1.then hkB fun _ _ e => e.elim, (hF3.kept hkB).cells.2.1⟩; go_simp; refine hK _ _ hSB ?_; clear hK K hmk; have d4 := (hF3.kept hkB).cells.2.2.2.1; refine wpOO_fork (fun K hK => ?_) (fun K hK => ?_) hSB
              · go_simp
                refine hK _ _ hSB ?_; clear hK K; refine wpOO_step (fun K hK => ?_) hSB; go_simp; have hk5 : Kept W3 (WB.alloc (.cells (slA ⟨some ⟨W3.heap.size, 0, none⟩, sizeL n j, sizeL n j⟩) 45)) := (hkB.alloc _); have hg5 := heap_alloc_new WB (.cells (slA ⟨some ⟨W3.heap.size, 0, none⟩, sizeL n j, sizeL n j⟩) 45); have hx5 := OwnRows.upd hx ((Upd.refl (fun _ => False) WB).alloc (.cells (slA ⟨some ⟨W3.heap.size, 0, none⟩, sizeL n j, sizeL n j⟩) 45)) (fun _ _ e => e); have hS5 : Upd (fun i => i = g ∨ (Value.slice dA' dm dc).ownBlock = some i) wr (WB.alloc (.cells (slA ⟨some ⟨W3.heap.size, 0, none⟩, sizeL n j, sizeL n j⟩) 45)) ∧ (WB.alloc (.cells (slA ⟨some ⟨W3.heap.size, 0, none⟩, sizeL n j, sizeL n j⟩) 45)).cell? ⟨g, 33, none⟩ = some (.slice (some ⟨gs, 0, none⟩) (depthM n) cs) := ⟨hS3.1.then hk5 fun _ _ e => e.elim, (hF3.kept hk5).cells.2.1⟩; have d5 := (hF3.kept hk5).cells.2.2.2.1; refine hK _ _ hS5 ?_; clear hK K d4 hx; refine wpOO_step (fun K hK => ?_) hS5; have hF5 := hF3.kept hk5; refine step_append_rows sl_rows rfl (.tmp 108) (.tmp 117) rfl rfl hF5.dr ⟨some ⟨W3.heap.size, 0, none⟩, sizeL n j, sizeL n j⟩ WB.heap.size 1 _ _ rfl hg5 (by have := HD.out; have := HJ.out; rw [hF5.dl]; unfold maxLen; omega) (by have := HD.out; have := HJ.out; rw [hF5.dl]; omega) (Nat.zero_le _) ?_; intro v' W' hrows hu' hnew; have hS6 : Upd (fun i => i = g ∨ (Value.slice dA' dm dc).ownBlock = some i) wr W' ∧ W'.cell? ⟨g, 33, none⟩ = some (.slice (some ⟨gs, 0, none⟩) (depthM n) cs) := ⟨hS5.1.then hu' fun _ _ h => .inr h, hu'.cell hF5.cells.2.1 fun e => by
                  obtain ⟨cu, hk⟩ := own_cells hF5.dr e; exact cells_ne hk hF5.blk (by decide) rfl⟩
                obtain ⟨hF7, c7, z7, hu7⟩ := hF3.digs hT3 hk5 (x := ⟨some ⟨W3.heap.size, 0, none⟩, sizeL n j, sizeL n j⟩) hx5 hrows hu' hnew; refine hK _ _ hS6 ?_; clear hK K
                iterate 2 (refine wpOO_held (fun K hK => ?_); go_simp; first | (apply Exists.intro; refine ⟨fun W hW => ?_, hK _ ?_⟩; (go_simp; first | done | exact rfl); clear hK K) | (refine hK _ ?_; clear hK K))
                refine wpOO_step (fun K hK => ?_) hS6; obtain ⟨A', m', c', rfl⟩ : ∃ A' m' c', v' = .slice A' m' c' := by
                  obtain ⟨A', c', h⟩ := OwnRows.form hrows; exact ⟨A', _, c', h⟩
                have hS7 : Upd (fun i => i = g ∨ (Value.slice dA' dm dc).ownBlock = some i) wr (W'.setCell ⟨g, 35, none⟩ (.slice A' m' c')) ∧ (W'.setCell ⟨g, 35, none⟩ (.slice A' m' c')).cell? ⟨g, 33, none⟩ = some (.slice (some ⟨gs, 0, none⟩) (depthM n) cs) := ⟨hS6.1.setCell (p := ⟨g, 35, none⟩) (.slice A' m' c') (fun _ => .inl rfl), hF7.cells.2.1⟩; have hty : ∀ k, ((Value.slice dA' dm dc).ownBlock = some k ∨ k = g) → ∃ cs t fr, W3.heap[k]? = some (.cells cs t fr) ∧ t ≠ 88 ∧ t ≠ 42 ∧ t ≠ 5 := fun k e => by
                  rcases e with e | rfl
                  · obtain ⟨cu, hk⟩ := own_cells hF3.dr e
                    exact ⟨_, _, _, hk, by decide, by decide, by decide⟩
                  · exact ⟨_, _, _, hF3.blk, by decide, by decide, by decide⟩
                have hnT : ∀ k, ((Value.slice dA' dm dc).ownBlock = some k ∨ k = g) → ¬ Tu k := fun k e => by
                  rcases e with e | rfl
                  · obtain ⟨cu, hk⟩ := own_cells hF3.dr e
                    exact HNT.out k e
                  · exact hF3.gT
                have hrt3 := HL.out.2.2.2.kept hkd; have hrt7 := hrt3.upd hu7 (fun e => by
                  rcases e with e | e
                  · obtain ⟨cu, hk⟩ := own_cells hF3.dr e
                    exact cells_ne hk hrt3 (by decide) rfl
                  · exact cells_ne hrt3 hF3.blk (by decide) e)
                have HF := Lib.hid (And.intro hF7 (And.intro ((HL.out.2.1.kept hkd).typ hu7 hty) (And.intro ((HL.out.2.2.1.then hkd fun _ _ e => e.elim).trans (hu7.mono fun k _ e => hnT k e)) hrt7))); go_simp; refine hK _ _ hS7 ?_; clear hK K hS7 hF7 c7 z7 hu7 hS6 hrows hu' hnew hS5 hF5 hg5 hx5 d5 hty hnT hrt3 hrt7 hk5 hSB hkB hF3 hT3 hS3 hkd; refine wpOO_nil ?_; generalize (W'.setCell ⟨g, 35, none⟩ (.slice A' m' c')) = W9 at *; go_wp2
                go_roundw
                case rel => exact ⟨j + 1, kA2, km2, kc2, _, A', m', c', _, HJ.out, by show _ = _; go_num, HF.out.1, HF.out.2.1, HF.out.2.2.1, HF.out.2.2.2⟩
                case measure => have := HJ.out; have := HD.out; simp [intOf]; omega
              ·
                go_simp; have hk5 : Kept W3 (WB.alloc (.cells (slA ⟨some ⟨W3.heap.size, 0, none⟩, sizeL n j, sizeL n j⟩) 45)) := (hkB.alloc _); have hg5 := heap_alloc_new WB (.cells (slA ⟨some ⟨W3.heap.size, 0, none⟩, sizeL n j, sizeL n j⟩) 45); have hx5 := OwnRows.upd hx ((Upd.refl (fun _ => False) WB).alloc (.cells (slA ⟨some ⟨W3.heap.size, 0, none⟩, sizeL n j, sizeL n j⟩) 45)) (fun _ _ e => e); have hS5 : Upd (fun i => i = g ∨ (Value.slice dA' dm dc).ownBlock = some i) wr (WB.alloc (.cells (slA ⟨some ⟨W3.heap.size, 0, none⟩, sizeL n j, sizeL n j⟩) 45)) ∧ (WB.alloc (.cells (slA ⟨some ⟨W3.heap.size, 0, none⟩, sizeL n j, sizeL n j⟩) 45)).cell? ⟨g, 33, none⟩ = some (.slice (some ⟨gs, 0, none⟩) (depthM n) cs) := ⟨hS3.1.then hk5 fun _ _ e => e.elim, (hF3.kept hk5).cells.2.1⟩; have d5 := (hF3.kept hk5).cells.2.2.2.1; refine hK _ _ hS5 ?_; clear hK K d4 hx; refine wpOO_step (fun K hK => ?_) hS5; go_simp; refine hK _ _ hS5 ?_; clear hK K; refine wpOO_step (fun K hK => ?_) hS5; have hF5 := hF3.kept hk5; refine step_append_rows sl_rows rfl (.tmp 108) (.tmp 117) rfl rfl hF5.dr ⟨some ⟨W3.heap.size, 0, none⟩, sizeL n j, sizeL n j⟩ WB.heap.size 1 _ _ rfl hg5 (by have := HD.out; have := HJ.out; rw [hF5.dl]; unfold maxLen; omega) (by have := HD.out; have := HJ.out; rw [hF5.dl]; omega) (Nat.zero_le _) ?_; intro v' W' hrows hu' hnew; have hS6 : Upd (fun i => i = g ∨ (Value.slice dA' dm dc).ownBlock = some i) wr W' ∧ W'.cell? ⟨g, 33, none⟩ = some (.slice (some ⟨gs, 0, none⟩) (depthM n) cs) := ⟨hS5.1.then hu' fun _ _ h => .inr h, hu'.cell hF5.cells.2.1 fun e => by
                  obtain ⟨cu, hk⟩ := own_cells hF5.dr e; exact cells_ne hk hF5.blk (by decide) rfl⟩
                obtain ⟨hF7, c7, z7, hu7⟩ := hF3.digs hT3 hk5 (x := ⟨some ⟨W3.heap.size, 0, none⟩, sizeL n j, sizeL n j⟩) hx5 hrows hu' hnew; refine hK _ _ hS6 ?_; clear hK K
                iterate 2 (refine wpOO_held (fun K hK => ?_); go_simp; first | (apply Exists.intro; refine ⟨fun W hW => ?_, hK _ ?_⟩; (go_simp; first | done | exact rfl); clear hK K) | (refine hK _ ?_; clear hK K))
                refine wpOO_step (fun K hK => ?_) hS6; obtain ⟨A', m', c', rfl⟩ : ∃ A' m' c', v' = .slice A' m' c' := by
                  obtain ⟨A', c', h⟩ := OwnRows.form hrows; exact ⟨A', _, c', h⟩
                have hS7 : Upd (fun i => i = g ∨ (Value.slice dA' dm dc).ownBlock = some i) wr (W'.setCell ⟨g, 35, none⟩ (.slice A' m' c')) ∧ (W'.setCell ⟨g, 35, none⟩ (.slice A' m' c')).cell? ⟨g, 33, none⟩ = some (.slice (some ⟨gs, 0, none⟩) (depthM n) cs) := ⟨hS6.1.setCell (p := ⟨g, 35, none⟩) (.slice A' m' c') (fun _ => .inl rfl), hF7.cells.2.1⟩; have hty : ∀ k, ((Value.slice dA' dm dc).ownBlock = some k ∨ k = g) → ∃ cs t fr, W3.heap[k]? = some (.cells cs t fr) ∧ t ≠ 88 ∧ t ≠ 42 ∧ t ≠ 5 := fun k e => by
                  rcases e with e | rfl
                  · obtain ⟨cu, hk⟩ := own_cells hF3.dr e
                    exact ⟨_, _, _, hk, by decide, by decide, by decide⟩
                  · exact ⟨_, _, _, hF3.blk, by decide, by decide, by decide⟩
                have hnT : ∀ k, ((Value.slice dA' dm dc).ownBlock = some k ∨ k = g) → ¬ Tu k := fun k e => by
                  rcases e with e | rfl
                  · obtain ⟨cu, hk⟩ := own_cells hF3.dr e
                    exact HNT.out k e
                  · exact hF3.gT
                have hrt3 := HL.out.2.2.2.kept hkd; have hrt7 := hrt3.upd hu7 (fun e => by
                  rcases e with e | e
                  · obtain ⟨cu, hk⟩ := own_cells hF3.dr e
                    exact cells_ne hk hrt3 (by decide) rfl
                  · exact cells_ne hrt3 hF3.blk (by decide) e)
                have HF := Lib.hid (And.intro hF7 (And.intro ((HL.out.2.1.kept hkd).typ hu7 hty) (And.intro ((HL.out.2.2.1.then hkd fun _ _ e => e.elim).trans (hu7.mono fun k _ e => hnT k e)) hrt7))); go_simp; refine hK _ _ hS7 ?_; clear hK K hS7 hF7 c7 z7 hu7 hS6 hrows hu' hnew hS5 hF5 hg5 hx5 d5 hty hnT hrt3 hrt7 hk5 hSB hkB hF3 hT3 hS3 hkd; refine wpOO_nil ?_; generalize (W'.setCell ⟨g, 35, none⟩ (.slice A' m' c')) = W9 at *; go_wp2
                go_roundw
                case rel => exact ⟨j + 1, kA2, km2, kc2, _, A', m', c', _, HJ.out, by show _ = _; go_num, HF.out.1, HF.out.2.1, HF.out.2.2.1, HF.out.2.2.2⟩
                case measure => have := HJ.out; have := HD.out; simp [intOf]; omega
          ·
            obtain ⟨WB, hmk, hx, hkB⟩ := run_make_bools (sizeL n j) (by have := (HSZ.out j).2; omega) W3; have hSB : Upd (fun i => i = g ∨ (Value.slice kA km kc).ownBlock = some i) wr WB ∧ WB.cell? ⟨g, 33, none⟩ = some (.slice (some ⟨gs, 0, none⟩) (depthM n) cs) := ⟨hS3.1.then hkB fun _ _ e => e.elim, (hF3.kept hkB).cells.2.1⟩; go_simp; refine hK _ _ hSB ?_; clear hK K hmk; have d4 := (hF3.kept hkB).cells.2.2.1; refine wpOO_fork (fun K hK => ?_) (fun K hK => ?_) hSB
            · go_simp
              refine hK _ _ hSB ?_; clear hK K; refine wpOO_step (fun K hK => ?_) hSB; go_simp; have hk5 : Kept W3 (WB.alloc (.cells (slA ⟨some ⟨W3.heap.size, 0, none⟩, sizeL n j, sizeL n j⟩) 81)) := (hkB.alloc _); have hg5 := heap_alloc_new WB (.cells (slA ⟨some ⟨W3.heap.size, 0, none⟩, sizeL n j, sizeL n j⟩) 81); have hx5 := OwnRows.upd hx ((Upd.refl (fun _ => False) WB).alloc (.cells (slA ⟨some ⟨W3.heap.size, 0, none⟩, sizeL n j, sizeL n j⟩) 81)) (fun _ _ e => e); have hS5 : Upd (fun i => i = g ∨ (Value.slice kA km kc).ownBlock = some i) wr (WB.alloc (.cells (slA ⟨some ⟨W3.heap.size, 0, none⟩, sizeL n j, sizeL n j⟩) 81)) ∧ (WB.alloc (.cells (slA ⟨some ⟨W3.heap.size, 0, none⟩, sizeL n j, sizeL n j⟩) 81)).cell? ⟨g, 33, none⟩ = some (.slice (some ⟨gs, 0, none⟩) (depthM n) cs) := ⟨hS3.1.then hk5 fun _ _ e => e.elim, (hF3.kept hk5).cells.2.1⟩; have d5 := (hF3.kept hk5).cells.2.2.1; refine hK _ _ hS5 ?_; clear hK K d4 hx; refine wpOO_step (fun K hK => ?_) hS5; have hF5 := hF3.kept hk5; refine step_append_rows bl_rows rfl (.tmp 91) (.tmp 100) rfl rfl hF5.kr ⟨some ⟨W3.heap.size, 0, none⟩, sizeL n j, sizeL n j⟩ WB.heap.size 1 _ _ rfl hg5 (by have := HD.out; have := HJ.out; rw [hF5.kl]; unfold maxLen; omega) (by have := HD.out; have := HJ.out; rw [hF5.kl]; omega) (Nat.zero_le _) ?_; intro v' W' hrows hu' hnew; have hS6 : Upd (fun i => i = g ∨ (Value.slice kA km kc).ownBlock = some i) wr W' ∧ W'.cell? ⟨g, 33, none⟩ = some (.slice (some ⟨gs, 0, none⟩) (depthM n) cs) := ⟨hS5.1.then hu' fun _ _ h => .inr h, hu'.cell hF5.cells.2.1 fun e => by
                obtain ⟨cu, hk⟩ := own_cells hF5.kr e; exact cells_ne hk hF5.blk (by decide) rfl⟩
              obtain ⟨hF7, c7, z7, hu7⟩ := hF3.known hT3 hk5 (x := ⟨some ⟨W3.heap.size, 0, none⟩, sizeL n j, sizeL n j⟩) hx5 hrows hu' hnew; refine hK _ _ hS6 ?_; clear hK K
              iterate 2 (refine wpOO_held (fun K hK => ?_); go_simp; first | (apply Exists.intro; refine ⟨fun W hW => ?_, hK _ ?_⟩; (go_simp; first | done | exact rfl); clear hK K) | (refine hK _ ?_; clear hK K))
              refine wpOO_step (fun K hK => ?_) hS6; obtain ⟨A', m', c', rfl⟩ : ∃ A' m' c', v' = .slice A' m' c' := by
                obtain ⟨A', c', h⟩ := OwnRows.form hrows; exact ⟨A', _, c', h⟩
              have hS7 : Upd (fun i => i = g ∨ (Value.slice kA km kc).ownBlock = some i) wr (W'.setCell ⟨g, 34, none⟩ (.slice A' m' c')) ∧ (W'.setCell ⟨g, 34, none⟩ (.slice A' m' c')).cell? ⟨g, 33, none⟩ = some (.slice (some ⟨gs, 0, none⟩) (depthM n) cs) := ⟨hS6.1.setCell (p := ⟨g, 34, none⟩) (.slice A' m' c') (fun _ => .inl rfl), hF7.cells.2.1⟩; have hty : ∀ k, ((Value.slice kA km kc).ownBlock = some k ∨ k = g) → ∃ cs t fr, W3.heap[k]? = some (.cells cs t fr) ∧ t ≠ 88 ∧ t ≠ 42 ∧ t ≠ 5 := fun k e => by
                rcases e with e | rfl
                · obtain ⟨cu, hk⟩ := own_cells hF3.kr e
                  exact ⟨_, _, _, hk, by decide, by decide, by decide⟩
                · exact ⟨_, _, _, hF3.blk, by decide, by decide, by decide⟩
              have hnT : ∀ k, ((Value.slice kA km kc).ownBlock = some k ∨ k = g) → ¬ Tu k := fun k e => by
                rcases e with e | rfl
                · obtain ⟨cu, hk⟩ := own_cells hF3.kr e
                  exact HNT.out k e
                · exact hF3.gT
              have hrt3 := HL.out.2.2.2.kept hkd; have hrt7 := hrt3.upd hu7 (fun e => by
                rcases e with e | e
                · obtain ⟨cu, hk⟩ := own_cells hF3.kr e
                  exact cells_ne hk hrt3 (by decide) rfl
                · exact cells_ne hrt3 hF3.blk (by decide) e)
              have HF := Lib.hid (And.intro hF7 (And.intro ((HL.out.2.1.kept hkd).typ hu7 hty) (And.intro ((HL.out.2.2.1.then hkd fun _ _ e => e.elim).trans (hu7.mono fun k _ e => hnT k e)) hrt7))); go_simp; refine hK _ _ hS7 ?_; clear hK K hS7 hF7 c7 z7 hu7 hS6 hrows hu' hnew hS5 hF5 hg5 hx5 d5 hty hnT hrt3 hrt7 hk5 hSB hkB hF3 hT3 hS3 hkd; refine wpOO_nil ?_; generalize (W'.setCell ⟨g, 34, none⟩ (.slice A' m' c')) = W9 at *; obtain ⟨wr, rfl⟩ : ∃ wr : World, wr = W9 := ⟨_, rfl⟩; obtain ⟨kA2, rfl⟩ : ∃ q, q = A' := ⟨_, rfl⟩; obtain ⟨km2, rfl⟩ : ∃ q, q = m' := ⟨_, rfl⟩; obtain ⟨kc2, rfl⟩ : ∃ q, q = c' := ⟨_, rfl⟩
              replace HL := Lib.hid HF.out
              clear HF
              replace HNT := Lib.hid HL.out.1.dT
              clear f8 f9; go_wp2_with fail; have hgs : ¬ (gs = g ∨ (Value.slice dA' dm dc).ownBlock = some gs) := fun e => by
                obtain ⟨cu, hk⟩ := own_cells HL.out.1.szs (k := gs) rfl; rcases e with e | e
                · exact cells_ne hk HL.out.1.blk (by decide) e
                · obtain ⟨cu2, hk2⟩ := own_cells HL.out.1.dr e
                  exact cells_ne hk hk2 (by decide) rfl
              have c33 := HL.out.1.cells.2.1; have csz := HL.out.1.size HJ.out; have f8 : ∀ W, (Upd (fun i => i = g ∨ (Value.slice dA' dm dc).ownBlock = some i) wr W ∧ W.cell? ⟨g, 33, none⟩ = some (.slice (some ⟨gs, 0, none⟩) (depthM n) cs)) → W.cell? ⟨g, 33, none⟩ = some (.slice (some ⟨gs, 0, none⟩) (depthM n) cs) := fun W hW => hW.2; have f9 : ∀ W, (Upd (fun i => i = g ∨ (Value.slice dA' dm dc).ownBlock = some i) wr W ∧ W.cell? ⟨g, 33, none⟩ = some (.slice (some ⟨gs, 0, none⟩) (depthM n) cs)) → W.cell? ⟨gs, j, none⟩ = some (.int .i64 (sizeL n j : Int)) := fun W hW => hW.1.cell csz hgs; have hS3 : Upd (fun i => i = g ∨ (Value.slice dA' dm dc).ownBlock = some i) wr wr.drew ∧ wr.drew.cell? ⟨g, 33, none⟩ = some (.slice (some ⟨gs, 0, none⟩) (depthM n) cs) := ⟨(Upd.refl _ _).drew, c33⟩; clear hgs c33 csz; refine wp_region_tree (.take 0 (.take 1 (.take 2 (.take 3 (.take 5 (.take 6 (.take 7 (.take 8 (.take 9 (.take 10 (.take 11 (.two 4 12 (.one 12 (.one 13 (.one 14 (.take 15 (.take 16 (.one 17 .done)))))) (.two 4 13 (.one 13 (.one 14 (.take 15 (.take 16 (.one 17 .done))))) (.one 4 (.one 14 (.take 15 (.take 16 (.one 17 .done))))))))))))))))) ) (by kernel_rfl) (by kernel_rfl) (fun W => Upd (fun i => i = g ∨ (Value.slice dA' dm dc).ownBlock = some i) wr W ∧ W.cell? ⟨g, 33, none⟩ = some (.slice (some ⟨gs, 0, none⟩) (depthM n) cs)) hS3 ?_; simp only [OT.ops, List.getD_cons_zero, List.getD_cons_succ]
              iterate 11 (refine wpOO_held (fun K hK => ?_); go_simp; first | (apply Exists.intro; refine ⟨fun W hW => ?_, hK _ ?_⟩; (go_simp; first | done | exact rfl); clear hK K) | (refine hK _ ?_; clear hK K))
              have hF3 := HL.out.1.kept (Upd.refl _ wr).drew; have hT3 : ∀ k, Tu k → k < wr.drew.heap.size := fun k e => Nat.lt_of_lt_of_le (HT.out k e) HL.out.2.2.1.size; have hkd : Kept wr wr.drew := (Upd.refl _ _).drew; generalize wr.drew = W3 at *; clear f8 f9; refine wpOO_fork (fun K hK => ?_) (fun K hK => ?_) hS3
              · have d3 := hF3.cells.2.2.2.1
                go_simp; refine hK _ _ hS3 ?_; clear hK K d3; refine wpOO_step (fun K hK => ?_) hS3; obtain ⟨WB, hmk, hx, hkB⟩ := run_make_digs2 (sizeL n j) (by have := (HSZ.out j).2; omega) W3; have hSB : Upd (fun i => i = g ∨ (Value.slice dA' dm dc).ownBlock = some i) wr WB ∧ WB.cell? ⟨g, 33, none⟩ = some (.slice (some ⟨gs, 0, none⟩) (depthM n) cs) := ⟨hS3.1.then hkB fun _ _ e => e.elim, (hF3.kept hkB).cells.2.1⟩; go_simp; refine hK _ _ hSB ?_; clear hK K hmk; have d4 := (hF3.kept hkB).cells.2.2.2.1; refine wpOO_step (fun K hK => ?_) hSB; go_simp; have hk5 : Kept W3 (WB.alloc (.cells (slA ⟨some ⟨W3.heap.size, 0, none⟩, sizeL n j, sizeL n j⟩) 45)) := (hkB.alloc _); have hg5 := heap_alloc_new WB (.cells (slA ⟨some ⟨W3.heap.size, 0, none⟩, sizeL n j, sizeL n j⟩) 45); have hx5 := OwnRows.upd hx ((Upd.refl (fun _ => False) WB).alloc (.cells (slA ⟨some ⟨W3.heap.size, 0, none⟩, sizeL n j, sizeL n j⟩) 45)) (fun _ _ e => e); have hS5 : Upd (fun i => i = g ∨ (Value.slice dA' dm dc).ownBlock = some i) wr (WB.alloc (.cells (slA ⟨some ⟨W3.heap.size, 0, none⟩, sizeL n j, sizeL n j⟩) 45)) ∧ (WB.alloc (.cells (slA ⟨some ⟨W3.heap.size, 0, none⟩, sizeL n j, sizeL n j⟩) 45)).cell? ⟨g, 33, none⟩ = some (.slice (some ⟨gs, 0, none⟩) (depthM n) cs) := ⟨hS3.1.then hk5 fun _ _ e => e.elim, (hF3.kept hk5).cells.2.1⟩; have d5 := (hF3.kept hk5).cells.2.2.2.1; refine hK _ _ hS5 ?_; clear hK K d4 hx; refine wpOO_step (fun K hK => ?_) hS5; have hF5 := hF3.kept hk5; refine step_append_rows sl_rows rfl (.tmp 108) (.tmp 117) rfl rfl hF5.dr ⟨some ⟨W3.heap.size, 0, none⟩, sizeL n j, sizeL n j⟩ WB.heap.size 1 _ _ rfl hg5 (by have := HD.out; have := HJ.out; rw [hF5.dl]; unfold maxLen; omega) (by have := HD.out; have := HJ.out; rw [hF5.dl]; omega) (Nat.zero_le _) ?_; intro v' W' hrows hu' hnew; have hS6 : Upd (fun i => i = g ∨ (Value.slice dA' dm dc).ownBlock = some i) wr W' ∧ W'.cell? ⟨g, 33, none⟩ = some (.slice (some ⟨gs, 0, none⟩) (depthM n) cs) := ⟨hS5.1.then hu' fun _ _ h => .inr h, hu'.cell hF5.cells.2.1 fun e => by
                  obtain ⟨cu, hk⟩ := own_cells hF5.dr e; exact cells_ne hk hF5.blk (by decide) rfl⟩
                obtain ⟨hF7, c7, z7, hu7⟩ := hF3.digs hT3 hk5 (x := ⟨some ⟨W3.heap.size, 0, none⟩, sizeL n j, sizeL n j⟩) hx5 hrows hu' hnew; refine hK _ _ hS6 ?_; clear hK K
                iterate 2 (refine wpOO_held (fun K hK => ?_); go_simp; first | (apply Exists.intro; refine ⟨fun W hW => ?_, hK _ ?_⟩; (go_simp; first | done | exact rfl); clear hK K) | (refine hK _ ?_; clear hK K))
                refine wpOO_step (fun K hK => ?_) hS6; obtain ⟨A', m', c', rfl⟩ : ∃ A' m' c', v' = .slice A' m' c' := by
                  obtain ⟨A', c', h⟩ := OwnRows.form hrows; exact ⟨A', _, c', h⟩
                have hS7 : Upd (fun i => i = g ∨ (Value.slice dA' dm dc).ownBlock = some i) wr (W'.setCell ⟨g, 35, none⟩ (.slice A' m' c')) ∧ (W'.setCell ⟨g, 35, none⟩ (.slice A' m' c')).cell? ⟨g, 33, none⟩ = some (.slice (some ⟨gs, 0, none⟩) (depthM n) cs) := ⟨hS6.1.setCell (p := ⟨g, 35, none⟩) (.slice A' m' c') (fun _ => .inl rfl), hF7.cells.2.1⟩; have hty : ∀ k, ((Value.slice dA' dm dc).ownBlock = some k ∨ k = g) → ∃ cs t fr, W3.heap[k]? = some (.cells cs t fr) ∧ t ≠ 88 ∧ t ≠ 42 ∧ t ≠ 5 := fun k e => by
                  rcases e with e | rfl
                  · obtain ⟨cu, hk⟩ := own_cells hF3.dr e
                    exact ⟨_, _, _, hk, by decide, by decide, by decide⟩
                  · exact ⟨_, _, _, hF3.blk, by decide, by decide, by decide⟩
                have hnT : ∀ k, ((Value.slice dA' dm dc).ownBlock = some k ∨ k = g) → ¬ Tu k := fun k e => by
                  rcases e with e | rfl
                  · obtain ⟨cu, hk⟩ := own_cells hF3.dr e
                    exact HNT.out k e
                  · exact hF3.gT
                have hrt3 := HL.out.2.2.2.kept hkd; have hrt7 := hrt3.upd hu7 (fun e => by
                  rcases e with e | e
                  · obtain ⟨cu, hk⟩ := own_cells hF3.dr e
                    exact cells_ne hk hrt3 (by decide) rfl
                  · exact cells_ne hrt3 hF3.blk (by decide) e)
                have HF := Lib.hid (And.intro hF7 (And.intro ((HL.out.2.1.kept hkd).typ hu7 hty) (And.intro ((HL.out.2.2.1.then hkd fun _ _ e => e.elim).trans (hu7.mono fun k _ e => hnT k e)) hrt7))); go_simp; refine hK _ _ hS7 ?_; clear hK K hS7 hF7 c7 z7 hu7 hS6 hrows hu' hnew hS5 hF5 hg5 hx5 d5 hty hnT hrt3 hrt7 hk5 hSB hkB hF3 hT3 hS3 hkd; refine wpOO_nil ?_; generalize (W'.setCell ⟨g, 35, none⟩ (.slice A' m' c')) = W9 at *; go_wp2
                go_roundw
                case rel => exact ⟨j + 1, kA2, km2, kc2, _, A', m', c', _, HJ.out, by show _ = _; go_num, HF.out.1, HF.out.2.1, HF.out.2.2.1, HF.out.2.2.2⟩
                case measure => have := HJ.out; have := HD.out; simp [intOf]; omega
              ·
                obtain ⟨WB, hmk, hx, hkB⟩ := run_make_digs2 (sizeL n j) (by have := (HSZ.out j).2; omega) W3; have hSB : Upd (fun i => i = g ∨ (Value.slice dA' dm dc).ownBlock = some i) wr WB ∧ WB.cell? ⟨g, 33, none⟩ = some (.slice (some ⟨gs, 0, none⟩) (depthM n) cs) := ⟨hS3.1.then hkB fun _ _ e => e.elim, (hF3.kept hkB).cells.2.1⟩; go_simp; refine hK _ _ hSB ?_; clear hK K hmk; have d4 := (hF3.kept hkB).cells.2.2.2.1; refine wpOO_fork (fun K hK => ?_) (fun K hK => ?_) hSB
                · go_simp
                  refine hK _ _ hSB ?_; clear hK K; refine wpOO_step (fun K hK => ?_) hSB; go_simp; have hk5 : Kept W3 (WB.alloc (.cells (slA ⟨some ⟨W3.heap.size, 0, none⟩, sizeL n j, sizeL n j⟩) 45)) := (hkB.alloc _); have hg5 := heap_alloc_new WB (.cells (slA ⟨some ⟨W3.heap.size, 0, none⟩, sizeL n j, sizeL n j⟩) 45); have hx5 := OwnRows.upd hx ((Upd.refl (fun _ => False) WB).alloc (.cells (slA ⟨some ⟨W3.heap.size, 0, none⟩, sizeL n j, sizeL n j⟩) 45)) (fun _ _ e => e); have hS5 : Upd (fun i => i = g ∨ (Value.slice dA' dm dc).ownBlock = some i) wr (WB.alloc (.cells (slA ⟨some ⟨W3.heap.size, 0, none⟩, sizeL n j, sizeL n j⟩) 45)) ∧ (WB.alloc (.cells (slA ⟨some ⟨W3.heap.size, 0, none⟩, sizeL n j, sizeL n j⟩) 45)).cell? ⟨g, 33, none⟩ = some (.slice (some ⟨gs, 0, none⟩) (depthM n) cs) := ⟨hS3.1.then hk5 fun _ _ e => e.elim, (hF3.kept hk5).cells.2.1⟩; have d5 := (hF3.kept hk5).cells.2.2.2.1; refine hK _ _ hS5 ?_; clear hK K d4 hx; refine wpOO_step (fun K hK => ?_) hS5; have hF5 := hF3.kept hk5; refine step_append_rows sl_rows rfl (.tmp 108) (.tmp 117) rfl rfl hF5.dr ⟨some ⟨W3.heap.size, 0, none⟩, sizeL n j, sizeL n j⟩ WB.heap.size 1 _ _ rfl hg5 (by have := HD.out; have := HJ.out; rw [hF5.dl]; unfold maxLen; omega) (by have := HD.out; have := HJ.out; rw [hF5.dl]; omega) (Nat.zero_le _) ?_; intro v' W' hrows hu' hnew; have hS6 : Upd (fun i => i = g ∨ (Value.slice dA' dm dc).ownBlock = some i) wr W' ∧ W'.cell? ⟨g, 33, none⟩ = some (.slice (some ⟨gs, 0, none⟩) (depthM n) cs) := ⟨hS5.1.then hu' fun _ _ h => .inr h, hu'.cell hF5.cells.2.1 fun e => by
                    obtain ⟨cu, hk⟩ := own_cells hF5.dr e; exact cells_ne hk hF5.blk (by decide) rfl⟩
                  obtain ⟨hF7, c7, z7, hu7⟩ := hF3.digs hT3 hk5 (x := ⟨some ⟨W3.heap.size, 0, none⟩, sizeL n j, sizeL n j⟩) hx5 hrows hu' hnew; refine hK _ _ hS6 ?_; clear hK K
                  iterate 2 (refine wpOO_held (fun K hK => ?_); go_simp; first | (apply Exists.intro; refine ⟨fun W hW => ?_, hK _ ?_⟩; (go_simp; first | done | exact rfl); clear hK K) | (refine hK _ ?_; clear hK K))
                  refine wpOO_step (fun K hK => ?_) hS6; obtain ⟨A', m', c', rfl⟩ : ∃ A' m' c', v' = .slice A' m' c' := by
                    obtain ⟨A', c', h⟩ := OwnRows.form hrows; exact ⟨A', _, c', h⟩
                  have hS7 : Upd (fun i => i = g ∨ (Value.slice dA' dm dc).ownBlock = some i) wr (W'.setCell ⟨g, 35, none⟩ (.slice A' m' c')) ∧ (W'.setCell ⟨g, 35, none⟩ (.slice A' m' c')).cell? ⟨g, 33, none⟩ = some (.slice (some ⟨gs, 0, none⟩) (depthM n) cs) := ⟨hS6.1.setCell (p := ⟨g, 35, none⟩) (.slice A' m' c') (fun _ => .inl rfl), hF7.cells.2.1⟩; have hty : ∀ k, ((Value.slice dA' dm dc).ownBlock = some k ∨ k = g) → ∃ cs t fr, W3.heap[k]? = some (.cells cs t fr) ∧ t ≠ 88 ∧ t ≠ 42 ∧ t ≠ 5 := fun k e => by
                    rcases e with e | rfl
                    · obtain ⟨cu, hk⟩ := own_cells hF3.dr e
                      exact ⟨_, _, _, hk, by decide, by decide, by decide⟩
                    · exact ⟨_, _, _, hF3.blk, by decide, by decide, by decide⟩
                  have hnT : ∀ k, ((Value.slice dA' dm dc).ownBlock = some k ∨ k = g) → ¬ Tu k := fun k e => by
                    rcases e with e | rfl
                    · obtain ⟨cu, hk⟩ := own_cells hF3.dr e
                      exact HNT.out k e
                    · exact hF3.gT
                  have hrt3 := HL.out.2.2.2.kept hkd; have hrt7 := hrt3.upd hu7 (fun e => by
                    rcases e with e | e
                    · obtain ⟨cu, hk⟩ := own_cells hF3.dr e
                      exact cells_ne hk hrt3 (by decide) rfl
                    · exact cells_ne hrt3 hF3.blk (by decide) e)
                  have HF := Lib.hid (And.intro hF7 (And.intro ((HL.out.2.1.kept hkd).typ hu7 hty) (And.intro ((HL.out.2.2.1.then hkd fun _ _ e => e.elim).trans (hu7.mono fun k _ e => hnT k e)) hrt7))); go_simp; refine hK _ _ hS7 ?_; clear hK K hS7 hF7 c7 z7 hu7 hS6 hrows hu' hnew hS5 hF5 hg5 hx5 d5 hty hnT hrt3 hrt7 hk5 hSB hkB hF3 hT3 hS3 hkd; refine wpOO_nil ?_; generalize (W'.setCell ⟨g, 35, none⟩ (.slice A' m' c')) = W9 at *; go_wp2
                  go_roundw
                  case rel => exact ⟨j + 1, kA2, km2, kc2, _, A', m', c', _, HJ.out, by show _ = _; go_num, HF.out.1, HF.out.2.1, HF.out.2.2.1, HF.out.2.2.2⟩
                  case measure => have := HJ.out; have := HD.out; simp [intOf]; omega
                ·
                  go_simp; have hk5 : Kept W3 (WB.alloc (.cells (slA ⟨some ⟨W3.heap.size, 0, none⟩, sizeL n j, sizeL n j⟩) 45)) := (hkB.alloc _); have hg5 := heap_alloc_new WB (.cells (slA ⟨some ⟨W3.heap.size, 0, none⟩, sizeL n j, sizeL n j⟩) 45); have hx5 := OwnRows.upd hx ((Upd.refl (fun _ => False) WB).alloc (.cells (slA ⟨some ⟨W3.heap.size, 0, none⟩, sizeL n j, sizeL n j⟩) 45)) (fun _ _ e => e); have hS5 : Upd (fun i => i = g ∨ (Value.slice dA' dm dc).ownBlock = some i) wr (WB.alloc (.cells (slA ⟨some ⟨W3.heap.size, 0, none⟩, sizeL n j, sizeL n j⟩) 45)) ∧ (WB.alloc (.cells (slA ⟨some ⟨W3.heap.size, 0, none⟩, sizeL n j, sizeL n j⟩) 45)).cell? ⟨g, 33, none⟩ = some (.slice (some ⟨gs, 0, none⟩) (depthM n) cs) := ⟨hS3.1.then hk5 fun _ _ e => e.elim, (hF3.kept hk5).cells.2.1⟩; have d5 := (hF3.kept hk5).cells.2.2.2.1; refine hK _ _ hS5 ?_; clear hK K d4 hx; refine wpOO_step (fun K hK => ?_) hS5; go_simp; refine hK _ _ hS5 ?_; clear hK K; refine wpOO_step (fun K hK => ?_) hS5; have hF5 := hF3.kept hk5; refine step_append_rows sl_rows rfl (.tmp 108) (.tmp 117) rfl rfl hF5.dr ⟨some ⟨W3.heap.size, 0, none⟩, sizeL n j, sizeL n j⟩ WB.heap.size 1 _ _ rfl hg5 (by have := HD.out; have := HJ.out; rw [hF5.dl]; unfold maxLen; omega) (by have := HD.out; have := HJ.out; rw [hF5.dl]; omega) (Nat.zero_le _) ?_; intro v' W' hrows hu' hnew; have hS6 : Upd (fun i => i = g ∨ (Value.slice dA' dm dc).ownBlock = some i) wr W' ∧ W'.cell? ⟨g, 33, none⟩ = some (.slice (some ⟨gs, 0, none⟩) (depthM n) cs) := ⟨hS5.1.then hu' fun _ _ h => .inr h, hu'.cell hF5.cells.2.1 fun e => by
                    obtain ⟨cu, hk⟩ := own_cells hF5.dr e; exact cells_ne hk hF5.blk (by decide) rfl⟩
                  obtain ⟨hF7, c7, z7, hu7⟩ := hF3.digs hT3 hk5 (x := ⟨some ⟨W3.heap.size, 0, none⟩, sizeL n j, sizeL n j⟩) hx5 hrows hu' hnew; refine hK _ _ hS6 ?_; clear hK K
                  iterate 2 (refine wpOO_held (fun K hK => ?_); go_simp; first | (apply Exists.intro; refine ⟨fun W hW => ?_, hK _ ?_⟩; (go_simp; first | done | exact rfl); clear hK K) | (refine hK _ ?_; clear hK K))
                  refine wpOO_step (fun K hK => ?_) hS6; obtain ⟨A', m', c', rfl⟩ : ∃ A' m' c', v' = .slice A' m' c' := by
                    obtain ⟨A', c', h⟩ := OwnRows.form hrows; exact ⟨A', _, c', h⟩
                  have hS7 : Upd (fun i => i = g ∨ (Value.slice dA' dm dc).ownBlock = some i) wr (W'.setCell ⟨g, 35, none⟩ (.slice A' m' c')) ∧ (W'.setCell ⟨g, 35, none⟩ (.slice A' m' c')).cell? ⟨g, 33, none⟩ = some (.slice (some ⟨gs, 0, none⟩) (depthM n) cs) := ⟨hS6.1.setCell (p := ⟨g, 35, none⟩) (.slice A' m' c') (fun _ => .inl rfl), hF7.cells.2.1⟩; have hty : ∀ k, ((Value.slice dA' dm dc).ownBlock = some k ∨ k = g) → ∃ cs t fr, W3.heap[k]? = some (.cells cs t fr) ∧ t ≠ 88 ∧ t ≠ 42 ∧ t ≠ 5 := fun k e => by
                    rcases e with e | rfl
                    · obtain ⟨cu, hk⟩ := own_cells hF3.dr e
                      exact ⟨_, _, _, hk, by decide, by decide, by decide⟩
                    · exact ⟨_, _, _, hF3.blk, by decide, by decide, by decide⟩
                  have hnT : ∀ k, ((Value.slice dA' dm dc).ownBlock = some k ∨ k = g) → ¬ Tu k := fun k e => by
                    rcases e with e | rfl
                    · obtain ⟨cu, hk⟩ := own_cells hF3.dr e
                      exact HNT.out k e
                    · exact hF3.gT
                  have hrt3 := HL.out.2.2.2.kept hkd; have hrt7 := hrt3.upd hu7 (fun e => by
                    rcases e with e | e
                    · obtain ⟨cu, hk⟩ := own_cells hF3.dr e
                      exact cells_ne hk hrt3 (by decide) rfl
                    · exact cells_ne hrt3 hF3.blk (by decide) e)
                  have HF := Lib.hid (And.intro hF7 (And.intro ((HL.out.2.1.kept hkd).typ hu7 hty) (And.intro ((HL.out.2.2.1.then hkd fun _ _ e => e.elim).trans (hu7.mono fun k _ e => hnT k e)) hrt7))); go_simp; refine hK _ _ hS7 ?_; clear hK K hS7 hF7 c7 z7 hu7 hS6 hrows hu' hnew hS5 hF5 hg5 hx5 d5 hty hnT hrt3 hrt7 hk5 hSB hkB hF3 hT3 hS3 hkd; refine wpOO_nil ?_; generalize (W'.setCell ⟨g, 35, none⟩ (.slice A' m' c')) = W9 at *; go_wp2
                  go_roundw
                  case rel => exact ⟨j + 1, kA2, km2, kc2, _, A', m', c', _, HJ.out, by show _ = _; go_num, HF.out.1, HF.out.2.1, HF.out.2.2.1, HF.out.2.2.2⟩
                  case measure => have := HJ.out; have := HD.out; simp [intOf]; omega
            ·
              go_simp; have hk5 : Kept W3 (WB.alloc (.cells (slA ⟨some ⟨W3.heap.size, 0, none⟩, sizeL n j, sizeL n j⟩) 81)) := (hkB.alloc _); have hg5 := heap_alloc_new WB (.cells (slA ⟨some ⟨W3.heap.size, 0, none⟩, sizeL n j, sizeL n j⟩) 81); have hx5 := OwnRows.upd hx ((Upd.refl (fun _ => False) WB).alloc (.cells (slA ⟨some ⟨W3.heap.size, 0, none⟩, sizeL n j, sizeL n j⟩) 81)) (fun _ _ e => e); have hS5 : Upd (fun i => i = g ∨ (Value.slice kA km kc).ownBlock = some i) wr (WB.alloc (.cells (slA ⟨some ⟨W3.heap.size, 0, none⟩, sizeL n j, sizeL n j⟩) 81)) ∧ (WB.alloc (.cells (slA ⟨some ⟨W3.heap.size, 0, none⟩, sizeL n j, sizeL n j⟩) 81)).cell? ⟨g, 33, none⟩ = some (.slice (some ⟨gs, 0, none⟩) (depthM n) cs) := ⟨hS3.1.then hk5 fun _ _ e => e.elim, (hF3.kept hk5).cells.2.1⟩; have d5 := (hF3.kept hk5).cells.2.2.1; refine hK _ _ hS5 ?_; clear hK K d4 hx; refine wpOO_step (fun K hK => ?_) hS5; go_simp; refine hK _ _ hS5 ?_; clear hK K; refine wpOO_step (fun K hK => ?_) hS5; have hF5 := hF3.kept hk5; refine step_append_rows bl_rows rfl (.tmp 91) (.tmp 100) rfl rfl hF5.kr ⟨some ⟨W3.heap.size, 0, none⟩, sizeL n j, sizeL n j⟩ WB.heap.size 1 _ _ rfl hg5 (by have := HD.out; have := HJ.out; rw [hF5.kl]; unfold maxLen; omega) (by have := HD.out; have := HJ.out; rw [hF5.kl]; omega) (Nat.zero_le _) ?_; intro v' W' hrows hu' hnew; have hS6 : Upd (fun i => i = g ∨ (Value.slice kA km kc).ownBlock = some i) wr W' ∧ W'.cell? ⟨g, 33, none⟩ = some (.slice (some ⟨gs, 0, none⟩) (depthM n) cs) := ⟨hS5.1.then hu' fun _ _ h => .inr h, hu'.cell hF5.cells.2.1 fun e => by
                obtain ⟨cu, hk⟩ := own_cells hF5.kr e; exact cells_ne hk hF5.blk (by decide) rfl⟩
              obtain ⟨hF7, c7, z7, hu7⟩ := hF3.known hT3 hk5 (x := ⟨some ⟨W3.heap.size, 0, none⟩, sizeL n j, sizeL n j⟩) hx5 hrows hu' hnew; refine hK _ _ hS6 ?_; clear hK K
              iterate 2 (refine wpOO_held (fun K hK => ?_); go_simp; first | (apply Exists.intro; refine ⟨fun W hW => ?_, hK _ ?_⟩; (go_simp; first | done | exact rfl); clear hK K) | (refine hK _ ?_; clear hK K))
              refine wpOO_step (fun K hK => ?_) hS6; obtain ⟨A', m', c', rfl⟩ : ∃ A' m' c', v' = .slice A' m' c' := by
                obtain ⟨A', c', h⟩ := OwnRows.form hrows; exact ⟨A', _, c', h⟩
              have hS7 : Upd (fun i => i = g ∨ (Value.slice kA km kc).ownBlock = some i) wr (W'.setCell ⟨g, 34, none⟩ (.slice A' m' c')) ∧ (W'.setCell ⟨g, 34, none⟩ (.slice A' m' c')).cell? ⟨g, 33, none⟩ = some (.slice (some ⟨gs, 0, none⟩) (depthM n) cs) := ⟨hS6.1.setCell (p := ⟨g, 34, none⟩) (.slice A' m' c') (fun _ => .inl rfl), hF7.cells.2.1⟩; have hty : ∀ k, ((Value.slice kA km kc).ownBlock = some k ∨ k = g) → ∃ cs t fr, W3.heap[k]? = some (.cells cs t fr) ∧ t ≠ 88 ∧ t ≠ 42 ∧ t ≠ 5 := fun k e => by
                rcases e with e | rfl
                · obtain ⟨cu, hk⟩ := own_cells hF3.kr e
                  exact ⟨_, _, _, hk, by decide, by decide, by decide⟩
                · exact ⟨_, _, _, hF3.blk, by decide, by decide, by decide⟩
              have hnT : ∀ k, ((Value.slice kA km kc).ownBlock = some k ∨ k = g) → ¬ Tu k := fun k e => by
                rcases e with e | rfl
                · obtain ⟨cu, hk⟩ := own_cells hF3.kr e
                  exact HNT.out k e
                · exact hF3.gT
              have hrt3 := HL.out.2.2.2.kept hkd; have hrt7 := hrt3.upd hu7 (fun e => by
                rcases e with e | e
                · obtain ⟨cu, hk⟩ := own_cells hF3.kr e
                  exact cells_ne hk hrt3 (by decide) rfl
                · exact cells_ne hrt3 hF3.blk (by decide) e)
              have HF := Lib.hid (And.intro hF7 (And.intro ((HL.out.2.1.kept hkd).typ hu7 hty) (And.intro ((HL.out.2.2.1.then hkd fun _ _ e => e.elim).trans (hu7.mono fun k _ e => hnT k e)) hrt7))); go_simp; refine hK _ _ hS7 ?_; clear hK K hS7 hF7 c7 z7 hu7 hS6 hrows hu' hnew hS5 hF5 hg5 hx5 d5 hty hnT hrt3 hrt7 hk5 hSB hkB hF3 hT3 hS3 hkd; refine wpOO_nil ?_; generalize (W'.setCell ⟨g, 34, none⟩ (.slice A' m' c')) = W9 at *; obtain ⟨wr, rfl⟩ : ∃ wr : World, wr = W9 := ⟨_, rfl⟩; obtain ⟨kA2, rfl⟩ : ∃ q, q = A' := ⟨_, rfl⟩; obtain ⟨km2, rfl⟩ : ∃ q, q = m' := ⟨_, rfl⟩; obtain ⟨kc2, rfl⟩ : ∃ q, q = c' := ⟨_, rfl⟩
              replace HL := Lib.hid HF.out
              clear HF
              replace HNT := Lib.hid HL.out.1.dT
              clear f8 f9; go_wp2_with fail; have hgs : ¬ (gs = g ∨ (Value.slice dA' dm dc).ownBlock = some gs) := fun e => by
                obtain ⟨cu, hk⟩ := own_cells HL.out.1.szs (k := gs) rfl; rcases e with e | e
                · exact cells_ne hk HL.out.1.blk (by decide) e
                · obtain ⟨cu2, hk2⟩ := own_cells HL.out.1.dr e
                  exact cells_ne hk hk2 (by decide) rfl
              have c33 := HL.out.1.cells.2.1; have csz := HL.out.1.size HJ.out; have f8 : ∀ W, (Upd (fun i => i = g ∨ (Value.slice dA' dm dc).ownBlock = some i) wr W ∧ W.cell? ⟨g, 33, none⟩ = some (.slice (some ⟨gs, 0, none⟩) (depthM n) cs)) → W.cell? ⟨g, 33, none⟩ = some (.slice (some ⟨gs, 0, none⟩) (depthM n) cs) := fun W hW => hW.2; have f9 : ∀ W, (Upd (fun i => i = g ∨ (Value.slice dA' dm dc).ownBlock = some i) wr W ∧ W.cell? ⟨g, 33, none⟩ = some (.slice (some ⟨gs, 0, none⟩) (depthM n) cs)) → W.cell? ⟨gs, j, none⟩ = some (.int .i64 (sizeL n j : Int)) := fun W hW => hW.1.cell csz hgs; have hS3 : Upd (fun i => i = g ∨ (Value.slice dA' dm dc).ownBlock = some i) wr wr.drew ∧ wr.drew.cell? ⟨g, 33, none⟩ = some (.slice (some ⟨gs, 0, none⟩) (depthM n) cs) := ⟨(Upd.refl _ _).drew, c33⟩; clear hgs c33 csz; refine wp_region_tree (.take 0 (.take 1 (.take 2 (.take 3 (.take 5 (.take 6 (.take 7 (.take 8 (.take 9 (.take 10 (.take 11 (.two 4 12 (.one 12 (.one 13 (.one 14 (.take 15 (.take 16 (.one 17 .done)))))) (.two 4 13 (.one 13 (.one 14 (.take 15 (.take 16 (.one 17 .done))))) (.one 4 (.one 14 (.take 15 (.take 16 (.one 17 .done))))))))))))))))) ) (by kernel_rfl) (by kernel_rfl) (fun W => Upd (fun i => i = g ∨ (Value.slice dA' dm dc).ownBlock = some i) wr W ∧ W.cell? ⟨g, 33, none⟩ = some (.slice (some ⟨gs, 0, none⟩) (depthM n) cs)) hS3 ?_; simp only [OT.ops, List.getD_cons_zero, List.getD_cons_succ]
              iterate 11 (refine wpOO_held (fun K hK => ?_); go_simp; first | (apply Exists.intro; refine ⟨fun W hW => ?_, hK _ ?_⟩; (go_simp; first | done | exact rfl); clear hK K) | (refine hK _ ?_; clear hK K))
              have hF3 := HL.out.1.kept (Upd.refl _ wr).drew; have hT3 : ∀ k, Tu k → k < wr.drew.heap.size := fun k e => Nat.lt_of_lt_of_le (HT.out k e) HL.out.2.2.1.size; have hkd : Kept wr wr.drew := (Upd.refl _ _).drew; generalize wr.drew = W3 at *; clear f8 f9; refine wpOO_fork (fun K hK => ?_) (fun K hK => ?_) hS3
              · have d3 := hF3.cells.2.2.2.1
                go_simp; refine hK _ _ hS3 ?_; clear hK K d3; refine wpOO_step (fun K hK => ?_) hS3; obtain ⟨WB, hmk, hx, hkB⟩ := run_make_digs2 (sizeL n j) (by have := (HSZ.out j).2; omega) W3; have hSB : Upd (fun i => i = g ∨ (Value.slice dA' dm dc).ownBlock = some i) wr WB ∧ WB.cell? ⟨g, 33, none⟩ = some (.slice (some ⟨gs, 0, none⟩) (depthM n) cs) := ⟨hS3.1.then hkB fun _ _ e => e.elim, (hF3.kept hkB).cells.2.1⟩; go_simp; refine hK _ _ hSB ?_; clear hK K hmk; have d4 := (hF3.kept hkB).cells.2.2.2.1; refine wpOO_step (fun K hK => ?_) hSB; go_simp; have hk5 : Kept W3 (WB.alloc (.cells (slA ⟨some ⟨W3.heap.size, 0, none⟩, sizeL n j, sizeL n j⟩) 45)) := (hkB.alloc _); have hg5 := heap_alloc_new WB (.cells (slA ⟨some ⟨W3.heap.size, 0, none⟩, sizeL n j, sizeL n j⟩) 45); have hx5 := OwnRows.upd hx ((Upd.refl (fun _ => False) WB).alloc (.cells (slA ⟨some ⟨W3.heap.size, 0, none⟩, sizeL n j, sizeL n j⟩) 45)) (fun _ _ e => e); have hS5 : Upd (fun i => i = g ∨ (Value.slice dA' dm dc).ownBlock = some i) wr (WB.alloc (.cells (slA ⟨some ⟨W3.heap.size, 0, none⟩, sizeL n j, sizeL n j⟩) 45)) ∧ (WB.alloc (.cells (slA ⟨some ⟨W3.heap.size, 0, none⟩, sizeL n j, sizeL n j⟩) 45)).cell? ⟨g, 33, none⟩ = some (.slice (some ⟨gs, 0, none⟩) (depthM n) cs) := ⟨hS3.1.then hk5 fun _ _ e => e.elim, (hF3.kept hk5).cells.2.1⟩; have d5 := (hF3.kept hk5).cells.2.2.2.1; refine hK _ _ hS5 ?_; clear hK K d4 hx; refine wpOO_step (fun K hK => ?_) hS5; have hF5 := hF3.kept hk5; refine step_append_rows sl_rows rfl (.tmp 108) (.tmp 117) rfl rfl hF5.dr ⟨some ⟨W3.heap.size, 0, none⟩, sizeL n j, sizeL n j⟩ WB.heap.size 1 _ _ rfl hg5 (by have := HD.out; have := HJ.out; rw [hF5.dl]; unfold maxLen; omega) (by have := HD.out; have := HJ.out; rw [hF5.dl]; omega) (Nat.zero_le _) ?_; intro v' W' hrows hu' hnew; have hS6 : Upd (fun i => i = g ∨ (Value.slice dA' dm dc).ownBlock = some i) wr W' ∧ W'.cell? ⟨g, 33, none⟩ = some (.slice (some ⟨gs, 0, none⟩) (depthM n) cs) := ⟨hS5.1.then hu' fun _ _ h => .inr h, hu'.cell hF5.cells.2.1 fun e => by
                  obtain ⟨cu, hk⟩ := own_cells hF5.dr e; exact cells_ne hk hF5.blk (by decide) rfl⟩
                obtain ⟨hF7, c7, z7, hu7⟩ := hF3.digs hT3 hk5 (x := ⟨some ⟨W3.heap.size, 0, none⟩, sizeL n j, sizeL n j⟩) hx5 hrows hu' hnew; refine hK _ _ hS6 ?_; clear hK K
                iterate 2 (refine wpOO_held (fun K hK => ?_); go_simp; first | (apply Exists.intro; refine ⟨fun W hW => ?_, hK _ ?_⟩; (go_simp; first | done | exact rfl); clear hK K) | (refine hK _ ?_; clear hK K))
                refine wpOO_step (fun K hK => ?_) hS6; obtain ⟨A', m', c', rfl⟩ : ∃ A' m' c', v' = .slice A' m' c' := by
                  obtain ⟨A', c', h⟩ := OwnRows.form hrows; exact ⟨A', _, c', h⟩
                have hS7 : Upd (fun i => i = g ∨ (Value.slice dA' dm dc).ownBlock = some i) wr (W'.setCell ⟨g, 35, none⟩ (.slice A' m' c')) ∧ (W'.setCell ⟨g, 35, none⟩ (.slice A' m' c')).cell? ⟨g, 33, none⟩ = some (.slice (some ⟨gs, 0, none⟩) (depthM n) cs) := ⟨hS6.1.setCell (p := ⟨g, 35, none⟩) (.slice A' m' c') (fun _ => .inl rfl), hF7.cells.2.1⟩; have hty : ∀ k, ((Value.slice dA' dm dc).ownBlock = some k ∨ k = g) → ∃ cs t fr, W3.heap[k]? = some (.cells cs t fr) ∧ t ≠ 88 ∧ t ≠ 42 ∧ t ≠ 5 := fun k e => by
                  rcases e with e | rfl
                  · obtain ⟨cu, hk⟩ := own_cells hF3.dr e
                    exact ⟨_, _, _, hk, by decide, by decide, by decide⟩
                  · exact ⟨_, _, _, hF3.blk, by decide, by decide, by decide⟩
                have hnT : ∀ k, ((Value.slice dA' dm dc).ownBlock = some k ∨ k = g) → ¬ Tu k := fun k e => by
                  rcases e with e | rfl
                  · obtain ⟨cu, hk⟩ := own_cells hF3.dr e
                    exact HNT.out k e
                  · exact hF3.gT
                have hrt3 := HL.out.2.2.2.kept hkd; have hrt7 := hrt3.upd hu7 (fun e => by
                  rcases e with e | e
                  · obtain ⟨cu, hk⟩ := own_cells hF3.dr e
                    exact cells_ne hk hrt3 (by decide) rfl
                  · exact cells_ne hrt3 hF3.blk (by decide) e)
                have HF := Lib.hid (And.intro hF7 (And.intro ((HL.out.2.1.kept hkd).typ hu7 hty) (And.intro ((HL.out.2.2.1.then hkd fun _ _ e => e.elim).trans (hu7.mono fun k _ e => hnT k e)) hrt7))); go_simp; refine hK _ _ hS7 ?_; clear hK K hS7 hF7 c7 z7 hu7 hS6 hrows hu' hnew hS5 hF5 hg5 hx5 d5 hty hnT hrt3 hrt7 hk5 hSB hkB hF3 hT3 hS3 hkd; refine wpOO_nil ?_; generalize (W'.setCell ⟨g, 35, none⟩ (.slice A' m' c')) = W9 at *; go_wp2
                go_roundw
                case rel => exact ⟨j + 1, kA2, km2, kc2, _, A', m', c', _, HJ.out, by show _ = _; go_num, HF.out.1, HF.out.2.1, HF.out.2.2.1, HF.out.2.2.2⟩
                case measure => have := HJ.out; have := HD.out; simp [intOf]; omega
              ·
                obtain ⟨WB, hmk, hx, hkB⟩ := run_make_digs2 (sizeL n j) (by have := (HSZ.out j).2; omega) W3; have hSB : Upd (fun i => i = g ∨ (Value.slice dA' dm dc).ownBlock = some i) wr WB ∧ WB.cell? ⟨g, 33, none⟩ = some (.slice (some ⟨gs, 0, none⟩) (depthM n) cs) := ⟨hS3.1.then hkB fun _ _ e => e.elim, (hF3.kept hkB).cells.2.1⟩; go_simp; refine hK _ _ hSB ?_; clear hK K hmk; have d4 := (hF3.kept hkB).cells.2.2.2.1; refine wpOO_fork (fun K hK => ?_) (fun K hK => ?_) hSB
                · go_simp
                  refine hK _ _ hSB ?_; clear hK K; refine wpOO_step (fun K hK => ?_) hSB; go_simp; have hk5 : Kept W3 (WB.alloc (.cells (slA ⟨some ⟨W3.heap.size, 0, none⟩, sizeL n j, sizeL n j⟩) 45)) := (hkB.alloc _); have hg5 := heap_alloc_new WB (.cells (slA ⟨some ⟨W3.heap.size, 0, none⟩, sizeL n j, sizeL n j⟩) 45); have hx5 := OwnRows.upd hx ((Upd.refl (fun _ => False) WB).alloc (.cells (slA ⟨some ⟨W3.heap.size, 0, none⟩, sizeL n j, sizeL n j⟩) 45)) (fun _ _ e => e); have hS5 : Upd (fun i => i = g ∨ (Value.slice dA' dm dc).ownBlock = some i) wr (WB.alloc (.cells (slA ⟨some ⟨W3.heap.size, 0, none⟩, sizeL n j, sizeL n j⟩) 45)) ∧ (WB.alloc (.cells (slA ⟨some ⟨W3.heap.size, 0, none⟩, sizeL n j, sizeL n j⟩) 45)).cell? ⟨g, 33, none⟩ = some (.slice (some ⟨gs, 0, none⟩) (depthM n) cs) := ⟨hS3.1.then hk5 fun _ _ e => e.elim, (hF3.kept hk5).cells.2.1⟩; have d5 := (hF3.kept hk5).cells.2.2.2.1; refine hK _ _ hS5 ?_; clear hK K d4 hx; refine wpOO_step (fun K hK => ?_) hS5; have hF5 := hF3.kept hk5; refine step_append_rows sl_rows rfl (.tmp 108) (.tmp 117) rfl rfl hF5.dr ⟨some ⟨W3.heap.size, 0, none⟩, sizeL n j, sizeL n j⟩ WB.heap.size 1 _ _ rfl hg5 (by have := HD.out; have := HJ.out; rw [hF5.dl]; unfold maxLen; omega) (by have := HD.out; have := HJ.out; rw [hF5.dl]; omega) (Nat.zero_le _) ?_; intro v' W' hrows hu' hnew; have hS6 : Upd (fun i => i = g ∨ (Value.slice dA' dm dc).ownBlock = some i) wr W' ∧ W'.cell? ⟨g, 33, none⟩ = some (.slice (some ⟨gs, 0, none⟩) (depthM n) cs) := ⟨hS5.1.then hu' fun _ _ h => .inr h, hu'.cell hF5.cells.2.1 fun e => by
                    obtain ⟨cu, hk⟩ := own_cells hF5.dr e; exact cells_ne hk hF5.blk (by decide) rfl⟩
                  obtain ⟨hF7, c7, z7, hu7⟩ := hF3.digs hT3 hk5 (x := ⟨some ⟨W3.heap.size, 0, none⟩, sizeL n j, sizeL n j⟩) hx5 hrows hu' hnew; refine hK _ _ hS6 ?_; clear hK K
                  iterate 2 (refine wpOO_held (fun K hK => ?_); go_simp; first | (apply Exists.intro; refine ⟨fun W hW => ?_, hK _ ?_⟩; (go_simp; first | done | exact rfl); clear hK K) | (refine hK _ ?_; clear hK K))
                  refine wpOO_step (fun K hK => ?_) hS6; obtain ⟨A', m', c', rfl⟩ : ∃ A' m' c', v' = .slice A' m' c' := by
                    obtain ⟨A', c', h⟩ := OwnRows.form hrows; exact ⟨A', _, c', h⟩
                  have hS7 : Upd (fun i => i = g ∨ (Value.slice dA' dm dc).ownBlock = some i) wr (W'.setCell ⟨g, 35, none⟩ (.slice A' m' c')) ∧ (W'.setCell ⟨g, 35, none⟩ (.slice A' m' c')).cell? ⟨g, 33, none⟩ = some (.slice (some ⟨gs, 0, none⟩) (depthM n) cs) := ⟨hS6.1.setCell (p := ⟨g, 35, none⟩) (.slice A' m' c') (fun _ => .inl rfl), hF7.cells.2.1⟩; have hty : ∀ k, ((Value.slice dA' dm dc).ownBlock = some k ∨ k = g) → ∃ cs t fr, W3.heap[k]? = some (.cells cs t fr) ∧ t ≠ 88 ∧ t ≠ 42 ∧ t ≠ 5 := fun k e => by
                    rcases e with e | rfl
                    · obtain ⟨cu, hk⟩ := own_cells hF3.dr e
                      exact ⟨_, _, _, hk, by decide, by decide, by decide⟩
                    · exact ⟨_, _, _, hF3.blk, by decide, by decide, by decide⟩
                  have hnT : ∀ k, ((Value.slice dA' dm dc).ownBlock = some k ∨ k = g) → ¬ Tu k := fun k e => by
                    rcases e with e | rfl
                    · obtain ⟨cu, hk⟩ := own_cells hF3.dr e
                      exact HNT.out k e
                    · exact hF3.gT
                  have hrt3 := HL.out.2.2.2.kept hkd; have hrt7 := hrt3.upd hu7 (fun e => by
                    rcases e with e | e
                    · obtain ⟨cu, hk⟩ := own_cells hF3.dr e
                      exact cells_ne hk hrt3 (by decide) rfl
                    · exact cells_ne hrt3 hF3.blk (by decide) e)
                  have HF := Lib.hid (And.intro hF7 (And.intro ((HL.out.2.1.kept hkd).typ hu7 hty) (And.intro ((HL.out.2.2.1.then hkd fun _ _ e => e.elim).trans (hu7.mono fun k _ e => hnT k e)) hrt7))); go_simp; refine hK _ _ hS7 ?_; clear hK K hS7 hF7 c7 z7 hu7 hS6 hrows hu' hnew hS5 hF5 hg5 hx5 d5 hty hnT hrt3 hrt7 hk5 hSB hkB hF3 hT3 hS3 hkd; refine wpOO_nil ?_; generalize (W'.setCell ⟨g, 35, none⟩ (.slice A' m' c')) = W9 at *; go_wp2
                  go_roundw
                  case rel => exact ⟨j + 1, kA2, km2, kc2, _, A', m', c', _, HJ.out, by show _ = _; go_num, HF.out.1, HF.out.2.1, HF.out.2.2.1, HF.out.2.2.2⟩
                  case measure => have := HJ.out; have := HD.out; simp [intOf]; omega
                ·
                  go_simp; have hk5 : Kept W3 (WB.alloc (.cells (slA ⟨some ⟨W3.heap.size, 0, none⟩, sizeL n j, sizeL n j⟩) 45)) := (hkB.alloc _); have hg5 := heap_alloc_new WB (.cells (slA ⟨some ⟨W3.heap.size, 0, none⟩, sizeL n j, sizeL n j⟩) 45); have hx5 := OwnRows.upd hx ((Upd.refl (fun _ => False) WB).alloc (.cells (slA ⟨some ⟨W3.heap.size, 0, none⟩, sizeL n j, sizeL n j⟩) 45)) (fun _ _ e => e); have hS5 : Upd (fun i => i = g ∨ (Value.slice dA' dm dc).ownBlock = some i) wr (WB.alloc (.cells (slA ⟨some ⟨W3.heap.size, 0, none⟩, sizeL n j, sizeL n j⟩) 45)) ∧ (WB.alloc (.cells (slA ⟨some ⟨W3.heap.size, 0, none⟩, sizeL n j, sizeL n j⟩) 45)).cell? ⟨g, 33, none⟩ = some (.slice (some ⟨gs, 0, none⟩) (depthM n) cs) := ⟨hS3.1.then hk5 fun _ _ e => e.elim, (hF3.kept hk5).cells.2.1⟩; have d5 := (hF3.kept hk5).cells.2.2.2.1; refine hK _ _ hS5 ?_; clear hK K d4 hx; refine wpOO_step (fun K hK => ?_) hS5; go_simp; refine hK _ _ hS5 ?_; clear hK K; refine wpOO_step (fun K hK => ?_) hS5; have hF5 := hF3.kept hk5; refine step_append_rows sl_rows rfl (.tmp 108) (.tmp 117) rfl rfl hF5.dr ⟨some ⟨W3.heap.size, 0, none⟩, sizeL n j, sizeL n j⟩ WB.heap.size 1 _ _ rfl hg5 (by have := HD.out; have := HJ.out; rw [hF5.dl]; unfold maxLen; omega) (by have := HD.out; have := HJ.out; rw [hF5.dl]; omega) (Nat.zero_le _) ?_; intro v' W' hrows hu' hnew; have hS6 : Upd (fun i => i = g ∨ (Value.slice dA' dm dc).ownBlock = some i) wr W' ∧ W'.cell? ⟨g, 33, none⟩ = some (.slice (some ⟨gs, 0, none⟩) (depthM n) cs) := ⟨hS5.1.then hu' fun _ _ h => .inr h, hu'.cell hF5.cells.2.1 fun e => by
                    obtain ⟨cu, hk⟩ := own_cells hF5.dr e; exact cells_ne hk hF5.blk (by decide) rfl⟩
                  obtain ⟨hF7, c7, z7, hu7⟩ := hF3.digs hT3 hk5 (x := ⟨some ⟨W3.heap.size, 0, none⟩, sizeL n j, sizeL n j⟩) hx5 hrows hu' hnew; refine hK _ _ hS6 ?_; clear hK K
                  iterate 2 (refine wpOO_held (fun K hK => ?_); go_simp; first | (apply Exists.intro; refine ⟨fun W hW => ?_, hK _ ?_⟩; (go_simp; first | done | exact rfl); clear hK K) | (refine hK _ ?_; clear hK K))
                  refine wpOO_step (fun K hK => ?_) hS6; obtain ⟨A', m', c', rfl⟩ : ∃ A' m' c', v' = .slice A' m' c' := by
                    obtain ⟨A', c', h⟩ := OwnRows.form hrows; exact ⟨A', _, c', h⟩
                  have hS7 : Upd (fun i => i = g ∨ (Value.slice dA' dm dc).ownBlock = some i) wr (W'.setCell ⟨g, 35, none⟩ (.slice A' m' c')) ∧ (W'.setCell ⟨g, 35, none⟩ (.slice A' m' c')).cell? ⟨g, 33, none⟩ = some (.slice (some ⟨gs, 0, none⟩) (depthM n) cs) := ⟨hS6.1.setCell (p := ⟨g, 35, none⟩) (.slice A' m' c') (fun _ => .inl rfl), hF7.cells.2.1⟩; have hty : ∀ k, ((Value.slice dA' dm dc).ownBlock = some k ∨ k = g) → ∃ cs t fr, W3.heap[k]? = some (.cells cs t fr) ∧ t ≠ 88 ∧ t ≠ 42 ∧ t ≠ 5 := fun k e => by
                    rcases e with e | rfl
                    · obtain ⟨cu, hk⟩ := own_cells hF3.dr e
                      exact ⟨_, _, _, hk, by decide, by decide, by decide⟩
                    · exact ⟨_, _, _, hF3.blk, by decide, by decide, by decide⟩
                  have hnT : ∀ k, ((Value.slice dA' dm dc).ownBlock = some k ∨ k = g) → ¬ Tu k := fun k e => by
                    rcases e with e | rfl
                    · obtain ⟨cu, hk⟩ := own_cells hF3.dr e
                      exact HNT.out k e
                    · exact hF3.gT
                  have hrt3 := HL.out.2.2.2.kept hkd; have hrt7 := hrt3.upd hu7 (fun e => by
                    rcases e with e | e
                    · obtain ⟨cu, hk⟩ := own_cells hF3.dr e
                      exact cells_ne hk hrt3 (by decide) rfl
                    · exact cells_ne hrt3 hF3.blk (by decide) e)
                  have HF := Lib.hid (And.intro hF7 (And.intro ((HL.out.2.1.kept hkd).typ hu7 hty) (And.intro ((HL.out.2.2.1.then hkd fun _ _ e => e.elim).trans (hu7.mono fun k _ e => hnT k e)) hrt7))); go_simp; refine hK _ _ hS7 ?_; clear hK K hS7 hF7 c7 z7 hu7 hS6 hrows hu' hnew hS5 hF5 hg5 hx5 d5 hty hnT hrt3 hrt7 hk5 hSB hkB hF3 hT3 hS3 hkd; refine wpOO_nil ?_; generalize (W'.setCell ⟨g, 35, none⟩ (.slice A' m' c')) = W9 at *; go_wp2
                  go_roundw
                  case rel => exact ⟨j + 1, kA2, km2, kc2, _, A', m', c', _, HJ.out, by show _ = _; go_num, HF.out.1, HF.out.2.1, HF.out.2.2.1, HF.out.2.2.2⟩
                  case measure => have := HJ.out; have := HD.out; simp [intOf]; omega
        · obtain rfl : j = depthM n := by omega
          have hji : ¬ ((depthM n : Int) < (depthM n : Int)) := by omega
          have hF := hR.done HN.out.1 HN.out.2.1 (HOF.out _ _ _ _ _ _ _ hR); obtain ⟨dl, hdl⟩ : ∃ dl, depthM n = dl + 1 := ⟨depthM n - 1, by have := depthM_pos n; omega⟩; have hd1 : (depthM n : Int) - 1 = (dl : Int) := by omega
          have hd5 : (dl : Int) ≤ 1025 := by have := HD.out; omega
          obtain ⟨X, hX⟩ : ∃ X : RX, X = ⟨gs, cs, .slice kA km kc, kx, .slice dA' dm dc, dx, gt, n, gy, n, hv, lv, lx⟩ := ⟨_, rfl⟩; rw [← hX] at hF; have hBX : RBk Tu wr c L' (rAv X) := by rw [hX]; exact hB
          have hng : ¬ RW X g := fun e => by
            rcases hF.rw_type e with ⟨cur, ty, h1, h2⟩ | ⟨-, cur, h1⟩
            · exact cells_ne h1 hR.blk (by rcases h2 with rfl | rfl <;> decide) rfl
            · exact cells_ne h1 hR.blk (by decide) rfl
          have hnp : ¬ RW X w.heap.size := fun e => hF.rwT e HP.out; have f0 : ∀ W, Upd (RW X) wr W → W.cell? ⟨g, 33, none⟩ = some (.slice (some ⟨gs, 0, none⟩) (depthM n) cs) := fun W hW => hW.cell c33 hng; have f1 : ∀ W, Upd (RW X) wr W → segB W ⟨w.heap.size, 0, none⟩ 32 = true := fun W hW => (dig_at (hrt.upd hW hnp)).1; have f2 : ∀ W, Upd (RW X) wr W → segV W ⟨w.heap.size, 0, none⟩ 32 = dA root := fun W hW => (dig_at (hrt.upd hW hnp)).2; have hkd : Kept wr wr.drew := (Upd.refl _ wr).drew; have hkS : Upd (RW X) wr wr.drew := hkd.to; have hTd : ∀ k, Tu k → k < wr.drew.heap.size := fun k e => Nat.lt_of_lt_of_le (HT.out k e) (Nat.le_trans hu.size hkd.size); have HG := ref_learn dl 0 root (hF.kept hkd) hTd (by omega) (HSZ.out dl).1
          change Calls Tryz.prog _ #[_, _, .int .i64 0, _] _ _ at HG
          have HL := Lib.hid (And.intro (hF.kept hkd) (And.intro (hBX.kept hkd) (And.intro (show Upd (fun k => ¬ Tu k) w1 wr.drew from hu.drew) (And.intro hTd hdl)))); clear hR hB hBX hu hrt hge hj hF hTd hdl hng hnp hX; go_wp2_with fail; clear hji c33; refine wp_region_ord [(0, true), (1, true), (2, true), (3, true), (4, true), (5, true), (6, true), (7, true), (8, false)] (by kernel_rfl) (by kernel_rfl) (Upd (RW X) wr) hkS ?_; simp only [ordOps, List.getD_cons_zero, List.getD_cons_succ]
          iterate 8 (refine wpOrd_held (fun K hK => ?_); go_simp; first | (apply Exists.intro; refine ⟨fun W hW => ?_, hK _ ?_⟩; (go_simp; first | done | exact rfl); clear hK K) | (refine hK _ ?_; clear hK K))
          clear f0 f1 f2; generalize wr.drew = wd at *; refine wpOrd_step (fun K hK => ?_) hkS; go_simp; rw [show IntKind.i64.wrap (dl : Int) = (dl : Int) from by rw [IntKind.wrap_i64]; omega]; refine HG.mono ?_; clear HG; rintro e w6 ⟨⟨v6, rfl⟩, hf6, hu6⟩; have hS6 := hkS.trans hu6; refine hK _ _ hS6 ?_; clear hK K; have HF : Hid (RB Tu w6 g c n root O0 (begS n O0 root) X L' ∧ Upd (fun k => ¬ Tu k) w w6) := ⟨⟨by unfold begS; rw [HL.out.2.2.2.2, Nat.add_sub_cancel]; exact hf6, HL.out.2.1.rw HL.out.1 hu6, fun k e => Nat.lt_of_lt_of_le (HL.out.2.2.2.1 k e) hu6.size⟩, (HN.out.2.2.1.to.trans HL.out.2.2.1).trans (hu6.mono fun k _ e => HL.out.1.rwT e)⟩; clear hf6 hu6 hS6 hkS hkd HL; refine wpOrd_nil ?_; go_wp2
          go_ret2
          exact .inr ⟨HEND.out.1, g, X, L', O0, rfl, HEND.out.2.2, HEND.out.2.1, HF.out.1, HF.out.2⟩
end
end Go.Proofs.YtepjbijhkkjbfaaGreat
