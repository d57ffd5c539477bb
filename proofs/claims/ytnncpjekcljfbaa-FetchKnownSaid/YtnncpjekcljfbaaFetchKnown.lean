/- Begins, what one fetch answers when it is misused, and fetches that are none: the closed statement FetchKnown holds. -/
import Derived.Test.YtnncpjekcljfbaaSetT
import Derived.Test.YtnncpjekcljfbaaSetF
namespace Go.Proofs.Ytnncpjekcljfbaa
open Go.ChangeShapes Go.WideShapes Go.ChangeAt Go.RowKit

attribute [local irreducible] wpOrd wpOO
set_option maxHeartbeats 12000000 in
set_option maxRecDepth 20000 in
theorem FetchKnown_walk (w : World) :
    Calls Try.prog 16 #[] w fun e w' => e = .returned (.bool true) ∧ Kept w w' := by
  have hnot : ∀ (x : Bool) (w : World), (Op.unary .not (.bool x)).run Try.prog w = .ok (.bool (!x)) w := fun _ _ => rfl
  go_enter Try.func16, Try.ntmps16
  go_wp2_with fail
  refine (law_book w).mono ?_
  rintro e w1 ⟨b, r, q, rfl, hI⟩
  have HI := Lib.hid hI
  clear hI
  go_wp2_with fail
  refine (law21_six w1).mono ?_
  rintro e w2 ⟨A, rfl, l, hl, hlv, hu2⟩
  have hl6 : l.length = 6 := by have := congrArg List.length hl; simpa [six] using this
  have HG := law21_made (HI.out.kept hu2) (l := l) (A := A) 6 (by rw [hl6]; exact hlv.low HI.out.upd.size) (by omega) (by omega) (by rw [show secs l = six from hl]; exact six_len)
  rw [hl6] at HG
  have HL := Lib.hid (And.intro hl hl6)
  clear HI hl hlv hu2 hl6
  go_wp2_with fail
  refine HG.mono ?_
  clear HG
  rintro e w3 ⟨t, rfl, lo, hi, L, hM, -, -⟩
  have HM := Lib.hid hM
  clear hM
  go_wp2_with fail
  have HG := tree_Root HM.out.tree
  obtain ⟨rt, hrt⟩ : ∃ rt, rt = rootM shaM ((secs l).map (leafM shaM)) := ⟨_, rfl⟩
  rw [← hrt] at HG
  have hrt2 : rt = digL six 2 0 := by
    rw [hrt, show secs l = six from HL.out.1, ← digL_root (show 1 ≤ six.length by decide), show six.length = 6 from rfl, depthM6]
  have HRT := Lib.hid hrt2
  clear hrt hrt2
  refine HG.mono ?_
  clear HG
  rintro e w4 ⟨rfl, hu4⟩
  have hd5 : Blk (w4.alloc (.cells (dA rt) 46)) w4.heap.size 46 (encB (rt).1) := Blk.new w4 _ _
  have hk5 : Kept w4 (w4.alloc (.cells (dA rt) 46)) := (Upd.refl _ w4).alloc _
  have HS := Lib.hid (And.intro ((HM.out.kept hu4).kept hk5) hd5)
  clear HM hu4 hk5 hd5
  go_wp2_with fail
  generalize w4.heap.size = g5 at *
  generalize w4.alloc (.cells (dA rt) 46) = w5 at *
  obtain ⟨p1, p2⟩ := dig_at HS.out.2
  have HG := fetch_Begin_arg (w := w5) (p := some ⟨b, 0, none⟩) rt 0 none 0 0 (.inl (by omega))
  go_wp2_with fail
  clear p1 p2
  refine HG.mono ?_
  clear HG
  rintro e w6 ⟨rfl, hu⟩
  replace HS := Lib.hid (And.intro (HS.out.1.kept hu) (HS.out.2.kept hu))
  clear hu
  obtain ⟨p1, p2⟩ := dig_at HS.out.2
  have HG := fetch_Begin_arg (w := w6) (p := some ⟨b, 0, none⟩) rt 1025 none 0 0 (.inr (.inl (by omega)))
  go_wp2_with fail
  clear p1 p2
  refine HG.mono ?_
  clear HG
  rintro e w7 ⟨rfl, hu⟩
  replace HS := Lib.hid (And.intro (HS.out.1.kept hu) (HS.out.2.kept hu))
  clear hu
  go_wp2_with fail
  have f1 : ∀ W, Kept w7 W → segB W ⟨g5, 0, none⟩ 32 = true := fun W hW => (dig_at (HS.out.2.kept hW)).1
  have f2 : ∀ W, Kept w7 W → segV W ⟨g5, 0, none⟩ 32 = dA rt := fun W hW => (dig_at (HS.out.2.kept hW)).2
  have hsl : ∀ (A : Option Addr) (W : World), (Instr.sliceAt 52 (.slice A 6 6) none (some (.int .i64 5)) none).run Try.prog W = .ok (.slice A 5 6) W := fun A W => slice_six5 W A
  refine wp_region_ord [(0, true), (1, true), (2, false), (3, true), (4, false), (5, true), (6, true), (7, true), (8, true), (9, true)] (by kernel_rfl) (by kernel_rfl) (Kept w7) (Upd.refl _ _).drew ?_
  simp only [ordOps, List.getD_cons_zero, List.getD_cons_succ]
  iterate 2 (refine wpOrd_held (fun K hK => ?_); go_simp; first | (apply Exists.intro; refine ⟨fun W hW => ?_, hK _ ?_⟩; (go_simp; first | done | exact rfl); clear hK K) | (refine hK _ ?_; clear hK K))
  have hkwd : Kept w7 w7.drew := (Upd.refl _ _).drew
  generalize w7.drew = wd at *
  -- six in a drawn region: from wd (kept since w7: hkwd), to w8
  refine wpOrd_step (fun K hK => ?_) hkwd
  go_simp
  refine (law21_six wd).mono ?_
  rintro e w8 ⟨Aw8, rfl, lw8, hlw8, hlvw8, huw8⟩
  have hllw8 : lw8.length = 6 := by have := congrArg List.length hlw8; simpa [six] using this
  have hkw8 : Kept w7 w8 := hkwd.then huw8 (fun _ _ h => h)
  refine hK _ _ hkw8 ?_
  clear hK K
  iterate 1 (refine wpOrd_held (fun K hK => ?_); go_simp; first | (apply Exists.intro; refine ⟨fun W hW => ?_, hK _ ?_⟩; (go_simp; first | done | exact rfl); clear hK K) | (refine hK _ ?_; clear hK K))
  have HG := fetch_Begin_arg (w := w8) (p := some ⟨b, 0, none⟩) rt 6 Aw8 5 6 (.inr (.inr ⟨by omega, by omega⟩))
  -- Begin's refusal in a drawn region: from w8 (since w7: hkw8), to w9; HG
  refine wpOrd_step (fun K hK => ?_) hkw8
  go_simp
  refine HG.mono ?_
  clear HG
  rintro e w9 ⟨rfl, huw9⟩
  have hkw9 : Kept w7 w9 := hkw8.then huw9 (fun _ _ h => h)
  refine hK _ _ hkw9 ?_
  clear hK K
  iterate 5 (refine wpOrd_held (fun K hK => ?_); go_simp; first | (apply Exists.intro; refine ⟨fun W hW => ?_, hK _ ?_⟩; (go_simp; first | done | exact rfl); clear hK K) | (refine hK _ ?_; clear hK K))
  refine wpOrd_nil ?_
  replace HS := Lib.hid (And.intro (HS.out.1.kept hkw9) (HS.out.2.kept hkw9))
  clear f1 f2 hkwd hlw8 hlvw8 huw8 hllw8 hkw8 huw9 hkw9
  go_wp2_with fail
  have f1 : ∀ W, Kept w9 W → segB W ⟨g5, 0, none⟩ 32 = true := fun W hW => (dig_at (HS.out.2.kept hW)).1
  have f2 : ∀ W, Kept w9 W → segV W ⟨g5, 0, none⟩ 32 = dA rt := fun W hW => (dig_at (HS.out.2.kept hW)).2
  refine wp_region_ord [(0, true), (1, true), (2, false), (3, false), (4, false), (5, true), (6, true), (7, true), (8, true), (9, true)] (by kernel_rfl) (by kernel_rfl) (Kept w9) (Upd.refl _ _).drew ?_
  simp only [ordOps, List.getD_cons_zero, List.getD_cons_succ]
  iterate 2 (refine wpOrd_held (fun K hK => ?_); go_simp; first | (apply Exists.intro; refine ⟨fun W hW => ?_, hK _ ?_⟩; (go_simp; first | done | exact rfl); clear hK K) | (refine hK _ ?_; clear hK K))
  have hkwd : Kept w9 w9.drew := (Upd.refl _ _).drew
  generalize w9.drew = wd at *
  obtain ⟨w10, RL, hmk, hby, hkm⟩ := run_make_bz 65536 65536 rfl (by omega) wd
  have hkw10 : Kept w9 w10 := hkwd.then hkm (fun _ _ h => h)
  refine wpOrd_step (fun K hK => ?_) hkwd
  go_simp
  refine hK _ _ hkw10 ?_
  clear hK K
  refine wpOrd_step (fun K hK => ?_) hkw10
  go_simp
  have hka : Kept w10 (w10.alloc (.cells (slA ⟨some ⟨wd.heap.size, 0, none⟩, 65536, 65536⟩) 35)) := (Upd.refl _ w10).alloc _
  have hlo := leaves_one (W := w10) (x := ⟨some ⟨wd.heap.size, 0, none⟩, 65536, 65536⟩) (R := RL) ⟨hby.2, hby.1.symm, by rw [hby.1]; exact Nat.le_refl _⟩ (by rw [hby.1]; omega)
  have hkw11 : Kept w9 (w10.alloc (.cells (slA ⟨some ⟨wd.heap.size, 0, none⟩, 65536, 65536⟩) 35)) := hkw10.then hka (fun _ _ h => h)
  refine hK _ _ hkw11 ?_
  clear hK K
  have HG := fetch_Begin_long (p := some ⟨b, 0, none⟩) rt 1 (by omega) (by omega) 1 rfl hlo (longB_true (k := 0) (by simp) (by simp only [List.getElem_cons_zero]; rw [hby.1]; exact Nat.le_refl _))
  change Calls Try.prog _ #[_, _, .int .i64 1, .slice _ 1 1] _ _ at HG
  clear hlo hka hkm hby hmk
  generalize w10.alloc (.cells (slA ⟨some ⟨wd.heap.size, 0, none⟩, 65536, 65536⟩) 35) = w11 at *
  generalize w10.heap.size = g11 at *
  -- Begin's refusal in a drawn region: from w11 (since w9: hkw11), to w12; HG
  refine wpOrd_step (fun K hK => ?_) hkw11
  go_simp
  refine HG.mono ?_
  clear HG
  rintro e w12 ⟨rfl, huw12⟩
  have hkw12 : Kept w9 w12 := hkw11.then huw12 (fun _ _ h => h)
  refine hK _ _ hkw12 ?_
  clear hK K
  iterate 5 (refine wpOrd_held (fun K hK => ?_); go_simp; first | (apply Exists.intro; refine ⟨fun W hW => ?_, hK _ ?_⟩; (go_simp; first | done | exact rfl); clear hK K) | (refine hK _ ?_; clear hK K))
  refine wpOrd_nil ?_
  replace HS := Lib.hid (And.intro (HS.out.1.kept hkw12) (HS.out.2.kept hkw12))
  clear f1 f2 hkwd hkw10 hkw11 huw12 hkw12
  obtain ⟨p1, p2⟩ := dig_at HS.out.2
  have HG := fetch_Begin_no (w := w12) (p := none) (A := none) (l := []) (.inl rfl) rt 6 (by omega) (by omega) 0 (.inl rfl) (fun i hi => absurd hi (Nat.not_lt_zero i)) rfl
  change Calls Try.prog _ #[_, _, .int .i64 6, .slice _ 0 0] _ _ at HG
  go_wp2_with fail
  clear p1 p2
  refine HG.mono ?_
  clear HG
  rintro e w13 ⟨rfl, hu⟩
  replace HS := Lib.hid (And.intro (HS.out.1.kept hu) (HS.out.2.kept hu))
  clear hu
  go_wp2_with fail
  have f1 : ∀ W, Kept w13 W → segB W ⟨g5, 0, none⟩ 32 = true := fun W hW => (dig_at (HS.out.2.kept hW)).1
  have f2 : ∀ W, Kept w13 W → segV W ⟨g5, 0, none⟩ 32 = dA rt := fun W hW => (dig_at (HS.out.2.kept hW)).2
  apply shared (Kept w13)
  · intro hrest
    refine wp_region_tree (.take 0 (.take 2 (.two 1 3 (.one 3 (.one 4 (.take 5 (.take 6 (.take 7 (.take 8 (.take 9 .done)))))))  (.one 1 (.one 4 (.take 5 (.take 6 (.take 7 (.take 8 (.take 9 .done)))))))))) (by kernel_rfl) (by kernel_rfl) (Kept w13) ((Upd.refl _ _).drew) ?_
    simp only [OT.ops, List.getD_cons_zero, List.getD_cons_succ]
    iterate 2 (refine wpOO_held (fun K hK => ?_); go_simp; first | (apply Exists.intro; refine ⟨fun W hW => ?_, hK _ ?_⟩; (go_simp; first | done | exact rfl); clear hK K) | (refine hK _ ?_; clear hK K))
    have hkwd : Kept w13 w13.drew := (Upd.refl _ _).drew
    generalize w13.drew = wd at *
    refine wpOO_fork (fun K hK => ?_) (fun K hK => ?_) hkwd
    · go_simp
      have hkwA : Kept w13 (wd.alloc (.cells bookA 125)) := hkwd.alloc _
      have hno := bookA_no wd
      refine hK _ _ hkwA ?_
      clear hK K
      obtain ⟨gb, hgb⟩ : ∃ gb, gb = wd.heap.size := ⟨_, rfl⟩
      rw [← hgb] at hno ⊢
      clear hgb
      generalize wd.alloc (.cells bookA 125) = wA at *
      refine wpOO_step (fun K hK => ?_) hkwA
      go_simp
      -- six in a region drawn along a tree
      refine (law21_six wA).mono ?_
      rintro e wB ⟨AwB, rfl, lwB, hlwB, hlvwB, huwB⟩
      have hllwB : lwB.length = 6 := by have := congrArg List.length hlwB; simpa [six] using this
      have hkwB : Kept w13 wB := hkwA.then huwB (fun _ _ h => h)
      refine hK _ _ hkwB ?_
      clear hK K
      have HG := fetch_Begin_no (hno.kept huwB) rt 6 (by omega) (by omega) 6 (.inr hllwB) hlvwB.leaves (long_six hlwB)
      rw [hllwB] at HG
      change Calls Try.prog _ #[_, _, .int .i64 6, .slice _ 6 6] _ _ at HG
      refine wpOO_step (fun K hK => ?_) hkwB
      go_simp
      refine HG.mono ?_
      clear HG
      rintro e wC ⟨rfl, huwC⟩
      have hkwC : Kept w13 wC := hkwB.then huwC (fun _ _ h => h)
      refine hK _ _ hkwC ?_
      clear hK K
      iterate 5 (refine wpOO_held (fun K hK => ?_); go_simp; first | (apply Exists.intro; refine ⟨fun W hW => ?_, hK _ ?_⟩; (go_simp; first | done | exact rfl); clear hK K) | (refine hK _ ?_; clear hK K))
      refine wpOO_nil ?_
      generalize Value.pointer (some ⟨gb, 0, none⟩) = x90
      generalize Value.slice AwB 6 6 = x92
      exact hrest x90 x92 wC hkwC
    · go_simp
      -- six in a region drawn along a tree
      refine (law21_six wd).mono ?_
      rintro e wB ⟨AwB, rfl, lwB, hlwB, hlvwB, huwB⟩
      have hllwB : lwB.length = 6 := by have := congrArg List.length hlwB; simpa [six] using this
      have hkwB : Kept w13 wB := hkwd.then huwB (fun _ _ h => h)
      refine hK _ _ hkwB ?_
      clear hK K
      refine wpOO_step (fun K hK => ?_) hkwB
      go_simp
      have hkwA : Kept w13 (wB.alloc (.cells bookA 125)) := hkwB.alloc _
      have hka : Kept wB (wB.alloc (.cells bookA 125)) := (Upd.refl _ wB).alloc _
      have hno := bookA_no wB
      refine hK _ _ hkwA ?_
      clear hK K
      obtain ⟨gb, hgb⟩ : ∃ gb, gb = wB.heap.size := ⟨_, rfl⟩
      rw [← hgb] at hno ⊢
      clear hgb
      generalize wB.alloc (.cells bookA 125) = wA at *
      have HG := fetch_Begin_no hno rt 6 (by omega) (by omega) 6 (.inr hllwB) (hlvwB.kept hka).leaves (long_six hlwB)
      rw [hllwB] at HG
      change Calls Try.prog _ #[_, _, .int .i64 6, .slice _ 6 6] _ _ at HG
      refine wpOO_step (fun K hK => ?_) hkwA
      go_simp
      refine HG.mono ?_
      clear HG
      rintro e wC ⟨rfl, huwC⟩
      have hkwC : Kept w13 wC := hkwA.then huwC (fun _ _ h => h)
      refine hK _ _ hkwC ?_
      clear hK K
      iterate 5 (refine wpOO_held (fun K hK => ?_); go_simp; first | (apply Exists.intro; refine ⟨fun W hW => ?_, hK _ ?_⟩; (go_simp; first | done | exact rfl); clear hK K) | (refine hK _ ?_; clear hK K))
      refine wpOO_nil ?_
      generalize Value.pointer (some ⟨gb, 0, none⟩) = x90
      generalize Value.slice AwB 6 6 = x92
      exact hrest x90 x92 wC hkwC
  · intro x90 x92 w14 hkw14
    as_aux_lemma =>
      replace HS := Lib.hid (And.intro (HS.out.1.kept hkw14) (HS.out.2.kept hkw14))
      clear f1 f2 hkw14
      go_wp2_with fail
      have f1 : ∀ W, Kept w14 W → segB W ⟨g5, 0, none⟩ 32 = true := fun W hW => (dig_at (HS.out.2.kept hW)).1
      have f2 : ∀ W, Kept w14 W → segV W ⟨g5, 0, none⟩ 32 = dA rt := fun W hW => (dig_at (HS.out.2.kept hW)).2
      refine wp_region_ord [(0, true), (1, false), (2, true), (3, false), (4, true), (5, true), (6, true), (7, true), (8, true)] (by kernel_rfl) (by kernel_rfl) (Kept w14) (Upd.refl _ _).drew ?_
      simp only [ordOps, List.getD_cons_zero, List.getD_cons_succ]
      iterate 1 (refine wpOrd_held (fun K hK => ?_); go_simp; first | (apply Exists.intro; refine ⟨fun W hW => ?_, hK _ ?_⟩; (go_simp; first | done | exact rfl); clear hK K) | (refine hK _ ?_; clear hK K))
      have hkwd : Kept w14 w14.drew := (Upd.refl _ _).drew
      generalize w14.drew = wd at *
      -- six in a drawn region: from wd (kept since w14: hkwd), to w15
      refine wpOrd_step (fun K hK => ?_) hkwd
      go_simp
      refine (law21_six wd).mono ?_
      rintro e w15 ⟨Aw15, rfl, lw15, hlw15, hlvw15, huw15⟩
      have hllw15 : lw15.length = 6 := by have := congrArg List.length hlw15; simpa [six] using this
      have hkw15 : Kept w14 w15 := hkwd.then huw15 (fun _ _ h => h)
      refine hK _ _ hkw15 ?_
      clear hK K
      iterate 1 (refine wpOrd_held (fun K hK => ?_); go_simp; first | (apply Exists.intro; refine ⟨fun W hW => ?_, hK _ ?_⟩; (go_simp; first | done | exact rfl); clear hK K) | (refine hK _ ?_; clear hK K))
      have HG := fetch_Begin_arg (w := w15) (p := none) rt 6 Aw15 5 6 (.inr (.inr ⟨by omega, by omega⟩))
      -- Begin's refusal in a drawn region: from w15 (since w14: hkw15), to w16; HG
      refine wpOrd_step (fun K hK => ?_) hkw15
      go_simp
      refine HG.mono ?_
      clear HG
      rintro e w16 ⟨rfl, huw16⟩
      have hkw16 : Kept w14 w16 := hkw15.then huw16 (fun _ _ h => h)
      refine hK _ _ hkw16 ?_
      clear hK K
      iterate 5 (refine wpOrd_held (fun K hK => ?_); go_simp; first | (apply Exists.intro; refine ⟨fun W hW => ?_, hK _ ?_⟩; (go_simp; first | done | exact rfl); clear hK K) | (refine hK _ ?_; clear hK K))
      refine wpOrd_nil ?_
      replace HS := Lib.hid (And.intro (HS.out.1.kept hkw16) (HS.out.2.kept hkw16))
      clear f1 f2 hkwd hlw15 hlvw15 huw15 hllw15 hkw15 huw16 hkw16 hsl
      go_wp2_with fail
      have f1 : ∀ W, Upd (Book3 b r q) w16 W → segB W ⟨g5, 0, none⟩ 32 = true := fun W hW => (dig_at (HS.out.2.upd hW (HS.out.1.ink.book.not HS.out.2 (by decide)))).1
      have f2 : ∀ W, Upd (Book3 b r q) w16 W → segV W ⟨g5, 0, none⟩ 32 = dA rt := fun W hW => (dig_at (HS.out.2.upd hW (HS.out.1.ink.book.not HS.out.2 (by decide)))).2
      have hkd : Kept w16 w16.drew := (Upd.refl _ _).drew
      refine wp_region_ord [(0, true), (1, true), (2, false), (3, false), (4, true), (5, true), (6, true), (7, true), (8, true)] (by kernel_rfl) (by kernel_rfl) (Upd (Book3 b r q) w16) hkd.to ?_
      simp only [ordOps, List.getD_cons_zero, List.getD_cons_succ]
      iterate 2 (refine wpOrd_held (fun K hK => ?_); go_simp; first | (apply Exists.intro; refine ⟨fun W hW => ?_, hK _ ?_⟩; (go_simp; first | done | exact rfl); clear hK K) | (refine hK _ ?_; clear hK K))
      replace HS := Lib.hid (And.intro (HS.out.1.kept hkd) (HS.out.2.kept hkd))
      generalize w16.drew = wd at *
      refine wpOrd_step (fun K hK => ?_) hkd.to
      go_simp
      refine (law21_six wd).mono ?_
      rintro e w17 ⟨A17, rfl, l17, hl17, hlv17, hu17⟩
      have hll17 : l17.length = 6 := by have := congrArg List.length hl17; simpa [six] using this
      have hk17 : Kept w16 w17 := hkd.then hu17 (fun _ _ h => h)
      refine hK _ _ hk17.to ?_
      clear hK K
      replace HS := Lib.hid (And.intro (HS.out.1.kept hu17) (HS.out.2.kept hu17))
      have HG := fetch_Begin1 (l := l17) (A := A17) HS.out.1.ink.book rt 6 (by omega) (by omega) 6 hll17 (fun W hW => (hlv17.book HS.out.1.ink.book hW).leaves) (fun p hp => six_len _ (by rw [← hl17]; exact List.mem_map_of_mem hp))
      rw [hll17, show secs l17 = six from hl17] at HG
      change Calls Try.prog _ #[_, _, .int .i64 6, .slice _ 6 6] _ _ at HG
      clear hlv17 hl17 hll17 hkd
      refine wpOrd_step (fun K hK => ?_) hk17.to
      go_simp
      refine HG.mono ?_
      clear HG
      rintro e w18 ⟨fw, rfl, ⟨B, m1, m2, gs, cs, hv, ov, -, hF⟩, ⟨_, hb18, hs18, -⟩, hu18⟩
      have hk18 : Upd (Book3 b r q) w16 w18 := hk17.to.trans hu18
      refine hK _ _ hk18 ?_
      clear hK K
      iterate 5 (refine wpOrd_held (fun K hK => ?_); go_simp; first | (apply Exists.intro; refine ⟨fun W hW => ?_, hK _ ?_⟩; (go_simp; first | done | exact rfl); clear hK K) | (refine hK _ ?_; clear hK K))
      refine wpOrd_nil ?_
      have hd18 := HS.out.2.upd hu18 (HS.out.1.ink.book.not HS.out.2 (by decide))
      replace HS := Lib.hid (And.intro (HS.out.1.to hb18 hs18 hu18) hd18)
      have HFW := Lib.hid hF
      clear f1 f2 hk17 hk18 hu18 hb18 hs18 hd18 hF hu17
      go_wp2_with fail
      have HG := fetch_Done HFW.out (whole_six HRT.out).1
      refine HG.mono ?_
      clear HG
      rintro e w19 ⟨v19, l19, rfl, hlv19, hsl19, hu19⟩
      rw [(whole_six HRT.out).2] at hsl19
      have hll19 : l19.length = 6 := by have := congrArg List.length hsl19; simpa [six] using this
      obtain ⟨A19, c19, rfl⟩ := OwnRows.form hlv19.1
      rw [List.length_map, hll19] at hlv19 ⊢
      have HG := fetch_Ask (HFW.out.kept hu19)
      rw [(whole_six HRT.out).1, show askV none = .tuple #[.int .i64 0, .int .i64 0, .bool false] from rfl] at HG
      replace HS := Lib.hid (And.intro (HS.out.1.kept hu19) (HS.out.2.kept hu19))
      have HLD := Lib.hid (And.intro hlv19 (And.intro hsl19 hll19))
      clear hu19 hlv19 hsl19 hll19 HFW
      go_wp2_with fail
      refine HG.mono ?_
      clear HG
      rintro e w20 ⟨rfl, hu20⟩
      replace HS := Lib.hid (And.intro (HS.out.1.kept hu20) (HS.out.2.kept hu20))
      replace HLD := Lib.hid (And.intro (HLD.out.1.kept hu20) HLD.out.2)
      clear hu20
      obtain ⟨p1, p2⟩ := dig_at HS.out.2
      have HG := fetch_Begin0 (A := none) HS.out.1.ink.book rt 6 (by omega) (by omega) 0
      change Calls Try.prog _ #[_, _, .int .i64 6, _] _ _ at HG
      go_wp2_with fail
      clear p1 p2
      refine HG.mono ?_
      clear HG
      rintro e w21 ⟨f, rfl, ⟨Bf, n1, n2, gs', cs', hv', ov', hB, hF⟩, ⟨L21, hb21, hs21⟩, hu21⟩
      replace HLD := Lib.hid (And.intro (HLD.out.1.book HS.out.1.ink.book hu21) HLD.out.2)
      rw [begS6] at hF
      replace HS := Lib.hid (show FW w w21 b r q lo hi t L21 (.slice A 6 6) l Bf f n1 n2 rt none (sF rt) gs' cs' hv' ov' from ⟨HS.out.1.to hb21 hs21 hu21, by rw [HL.out.2]; exact hF, Nat.le_trans HS.out.1.ink.upd.size hB⟩)
      clear hb21 hs21 hu21 hF hB
      go_wp2_with fail
      refine (law21_six w21).mono ?_
      rintro e w22 ⟨A22, rfl, l22, hl22, hlv22, hu22⟩
      have hll22 : l22.length = 6 := by have := congrArg List.length hl22; simpa [six] using this
      replace HS := Lib.hid (HS.out.kept hu22)
      have HG := same_leaves c19 6 (HLD.out.1.kept hu22).leaves hlv22.leaves (by rw [HLD.out.2.2]; omega)
      rw [HLD.out.2.2, hll22, decide_eq_true (show secs l19 = secs l22 by rw [show secs l19 = six from HLD.out.2.1, show secs l22 = six from hl22])] at HG
      clear hl22 hlv22 hu22 hll22 HLD
      go_wp2_with fail
      refine HG.mono ?_
      clear HG
      rintro e w23 ⟨rfl, hu23⟩
      replace HS := Lib.hid (HS.out.kept hu23)
      clear hu23
      have HG := fetch_Done_no HS.out.fet (x := (2, 0)) (by rw [HL.out.2]; exact askF rt)
      go_wp2_with fail
      refine HG.mono ?_
      clear HG
      rintro e w24 ⟨rfl, hu24⟩
      replace HS := Lib.hid (HS.out.kept hu24)
      clear hu24
      have hs6 : secs l = six := HL.out.1
      have hDl : ((secs l).map (leafM shaM)).length = 6 := by rw [List.length_map, hs6]; rfl
      obtain ⟨x0, e1, -, e2⟩ := lev_get (D := (secs l).map (leafM shaM)) (l := 1) (by rw [hDl, depthM6]; omega)
      obtain ⟨x1, e3, -, e4⟩ := lev_get (D := (secs l).map (leafM shaM)) (l := 2) (by rw [hDl, depthM6]; omega)
      rw [hDl] at e4
      have HG := proof_Parts HS.out.mad.tree 1 0 e1 e3 (by rw [e4]; decide)
      rw [group_kids e1 (by rw [hDl, depthM6]; omega), hs6] at HG
      change Calls Try.prog _ #[_, .int .i64 2, .int .i64 0] _ (fun e W => ∃ v, e = .returned (.tuple #[v, .int .i64 0]) ∧ OwnD W w24.heap.size v (kidsB six 1 0) ∧ Kept w24 W) at HG
      rw [top_kids.1] at HG
      obtain ⟨d0, hd0⟩ : ∃ d, d = digL six 1 0 := ⟨_, rfl⟩
      obtain ⟨d1, hd1⟩ : ∃ d, d = digL six 1 1 := ⟨_, rfl⟩
      rw [← hd0, ← hd1] at HG
      have HD := Lib.hid (show upM shaM [d0, d1] = rt ∧ upM shaM [d1, d0] ≠ rt by
        rw [hd0, hd1, HRT.out]; exact ⟨top_kids.2, top_swap⟩)
      clear hs6 hDl e1 e2 e3 e4 hd0 hd1
      go_wp2_with fail
      refine HG.mono ?_
      clear HG
      rintro e w25 ⟨v25, rfl, ho25, hu25⟩
      obtain ⟨gt, tc, rfl, -, -, -, -⟩ := OwnRows.get dA_size ho25 (k := 0) (by simp)
      obtain ⟨_, _, hx25, htc, -⟩ := OwnD.digs ho25
      simp only [Value.slice.injEq] at hx25
      obtain ⟨-, -, rfl⟩ := hx25
      rw [show ([d0, d1] : List Dig).length = 2 from rfl] at ho25 htc ⊢
      have hds : ∀ W, (Instr.sliceAt 41 (.slice (some ⟨gt, 0, none⟩) 2 tc) none (some (.int .i64 1)) none).run Try.prog W = .ok (.slice (some ⟨gt, 0, none⟩) 1 tc) W := fun W => slice_ds_h W (some ⟨gt, 0, none⟩) 2 tc 1 (by omega)
      replace HS := Lib.hid (And.intro (HS.out.kept hu25) (show OwnD w25 0 (.slice (some ⟨gt, 0, none⟩) 2 tc) [d0, d1] from ⟨ho25.1, ho25.2.imp id fun ⟨g, cap, cur, e, _, r⟩ => ⟨g, cap, cur, e, Nat.zero_le _, r⟩⟩))
      clear ho25 htc hu25
      go_wp2_with fail
      as_aux_lemma =>
        simp only [List.append_eq, List.cons_append, List.nil_append]
        have hS0 : OwnD w25.drew 0 (.slice (some ⟨gt, 0, none⟩) 2 tc) [d0, d1] := OwnRows.upd HS.out.2 (show Kept w25 w25.drew from (Upd.refl _ _).drew) (fun _ _ h => h)
        have f3 : ∀ W, OwnD W 0 (.slice (some ⟨gt, 0, none⟩) 2 tc) [d0, d1] → segB W ⟨gt, 32, none⟩ 32 = true := fun W hW => (own_seg hW (k := 1) (by simp)).1
        have f4 : ∀ W, OwnD W 0 (.slice (some ⟨gt, 0, none⟩) 2 tc) [d0, d1] → segV W ⟨gt, 32, none⟩ 32 = dA d1 := fun W hW => (own_seg hW (k := 1) (by simp)).2
        have f5 : ∀ W, OwnD W 0 (.slice (some ⟨gt, 0, none⟩) 2 tc) [d0, d1] → segB W ⟨gt, 0, none⟩ 32 = true := fun W hW => by have := (own_seg hW (k := 0) (by simp)).1; simpa using this
        have f6 : ∀ W, OwnD W 0 (.slice (some ⟨gt, 0, none⟩) 2 tc) [d0, d1] → segV W ⟨gt, 0, none⟩ 32 = dA d0 := fun W hW => by have := (own_seg hW (k := 0) (by simp)).2; simpa using this
        replace HS := Lib.hid (And.intro (HS.out.1.kept (show Kept w25 w25.drew from (Upd.refl _ _).drew)) hS0)
        refine wp_region_ord [(0, true), (1, true), (2, true), (3, true), (4, true), (5, false), (6, true), (7, true), (8, true), (9, true), (10, true), (11, false), (12, true), (13, true), (14, true), (15, true), (16, true), (17, false), (18, true), (19, true), (20, true), (21, true), (22, true), (23, false), (24, true), (25, true), (26, true), (27, true), (28, true), (29, false), (30, true), (31, true), (32, true), (33, true), (34, true), (35, false), (36, true), (37, true), (38, true), (39, true), (40, false), (41, true), (42, true), (43, true), (44, true), (45, false), (46, true), (47, true), (48, true), (49, true), (50, false), (51, false), (52, true), (53, true), (54, true), (55, true), (56, true), (57, true), (58, false), (59, true), (60, true), (61, true), (62, true), (63, true), (64, true), (65, true), (66, true), (67, true), (68, true), (69, false), (70, false), (71, true), (72, true), (73, true), (74, true), (75, true), (76, false), (77, true), (78, true), (79, true), (80, true), (81, true), (82, false), (83, true), (84, true), (85, true), (86, true), (87, false), (88, true), (89, true)] (by kernel_rfl) (by kernel_rfl) (fun W => OwnD W 0 (.slice (some ⟨gt, 0, none⟩) 2 tc) [d0, d1]) hS0 ?_
        simp only [ordOps, List.getD_cons_zero, List.getD_cons_succ]
        clear hS0
        generalize w25.drew = w26 at *
        as_aux_lemma =>
          iterate 5 (refine wpOrd_held (fun K hK => ?_); go_simp; first | (apply Exists.intro; refine ⟨fun W hW => ?_, hK _ ?_⟩; (go_simp; first | done | exact rfl); clear hK K) | (refine hK _ ?_; clear hK K))
          have HG := fk_Parts HS.out.1 HL.out.2 0 0 tc (own_digs HS.out.2) rfl pE_00 (partsS_ne (by rw [pE_00]; decide))
          refine wpOrd_step (fun K hK => ?_) HS.out.2
          go_simp
          refine HG.mono ?_
          clear HG
          rintro e w27 ⟨rfl, ⟨_, hf⟩, ho⟩
          replace HS := Lib.hid (And.intro hf (ho _ _ HS.out.2))
          clear hf ho
          refine hK _ _ HS.out.2 ?_
          clear hK K
          as_aux_lemma =>
            iterate 5 (refine wpOrd_held (fun K hK => ?_); go_simp; first | (apply Exists.intro; refine ⟨fun W hW => ?_, hK _ ?_⟩; (go_simp; first | done | exact rfl); clear hK K) | (refine hK _ ?_; clear hK K))
            have HG := fk_Parts HS.out.1 HL.out.2 3 0 tc (own_digs HS.out.2) rfl pE_30 (partsS_ne (by rw [pE_30]; decide))
            refine wpOrd_step (fun K hK => ?_) HS.out.2
            go_simp
            refine HG.mono ?_
            clear HG
            rintro e w28 ⟨rfl, ⟨_, hf⟩, ho⟩
            replace HS := Lib.hid (And.intro hf (ho _ _ HS.out.2))
            clear hf ho
            refine hK _ _ HS.out.2 ?_
            clear hK K
            as_aux_lemma =>
              iterate 5 (refine wpOrd_held (fun K hK => ?_); go_simp; first | (apply Exists.intro; refine ⟨fun W hW => ?_, hK _ ?_⟩; (go_simp; first | done | exact rfl); clear hK K) | (refine hK _ ?_; clear hK K))
              have HG := fk_Parts HS.out.1 HL.out.2 2 1 tc (own_digs HS.out.2) rfl pE_21 (partsS_ne (by rw [pE_21]; decide))
              refine wpOrd_step (fun K hK => ?_) HS.out.2
              go_simp
              refine HG.mono ?_
              clear HG
              rintro e w29 ⟨rfl, ⟨_, hf⟩, ho⟩
              replace HS := Lib.hid (And.intro hf (ho _ _ HS.out.2))
              clear hf ho
              refine hK _ _ HS.out.2 ?_
              clear hK K
              as_aux_lemma =>
                iterate 5 (refine wpOrd_held (fun K hK => ?_); go_simp; first | (apply Exists.intro; refine ⟨fun W hW => ?_, hK _ ?_⟩; (go_simp; first | done | exact rfl); clear hK K) | (refine hK _ ?_; clear hK K))
                have HG := fk_Parts HS.out.1 HL.out.2 1 2 tc (own_digs HS.out.2) rfl pE_12 (partsS_ne (by rw [pE_12]; decide))
                refine wpOrd_step (fun K hK => ?_) HS.out.2
                go_simp
                refine HG.mono ?_
                clear HG
                rintro e w30 ⟨rfl, ⟨_, hf⟩, ho⟩
                replace HS := Lib.hid (And.intro hf (ho _ _ HS.out.2))
                clear hf ho
                refine hK _ _ HS.out.2 ?_
                clear hK K
                as_aux_lemma =>
                  iterate 5 (refine wpOrd_held (fun K hK => ?_); go_simp; first | (apply Exists.intro; refine ⟨fun W hW => ?_, hK _ ?_⟩; (go_simp; first | done | exact rfl); clear hK K) | (refine hK _ ?_; clear hK K))
                  have HG := fk_Parts HS.out.1 HL.out.2 1 (-1) tc (own_digs HS.out.2) rfl pE_1m (partsS_ne (by rw [pE_1m]; decide))
                  refine wpOrd_step (fun K hK => ?_) HS.out.2
                  go_simp
                  refine HG.mono ?_
                  clear HG
                  rintro e w31 ⟨rfl, ⟨_, hf⟩, ho⟩
                  replace HS := Lib.hid (And.intro hf (ho _ _ HS.out.2))
                  clear hf ho
                  refine hK _ _ HS.out.2 ?_
                  clear hK K
                  as_aux_lemma =>
                    iterate 5 (refine wpOrd_held (fun K hK => ?_); go_simp; first | (apply Exists.intro; refine ⟨fun W hW => ?_, hK _ ?_⟩; (go_simp; first | done | exact rfl); clear hK K) | (refine hK _ ?_; clear hK K))
                    have HG := fk_Parts HS.out.1 HL.out.2 1 0 tc (own_digs HS.out.2) rfl (pE_10 rt) (partsS_ne (by rw [(pE_10 rt)]; decide))
                    refine wpOrd_step (fun K hK => ?_) HS.out.2
                    go_simp
                    refine HG.mono ?_
                    clear HG
                    rintro e w32 ⟨rfl, ⟨_, hf⟩, ho⟩
                    replace HS := Lib.hid (And.intro hf (ho _ _ HS.out.2))
                    clear hf ho
                    refine hK _ _ HS.out.2 ?_
                    clear hK K
                    as_aux_lemma =>
                      iterate 4 (refine wpOrd_held (fun K hK => ?_); go_simp; first | (apply Exists.intro; refine ⟨fun W hW => ?_, hK _ ?_⟩; (go_simp; first | done | exact rfl); clear hK K) | (refine hK _ ?_; clear hK K))
                      have HG := fk_Leaf HS.out.1 HL.out.2 6 (A := none) (R := []) 0 (.inl rfl) rfl (Nat.zero_le _) lE_6 (by decide)
                      refine wpOrd_step (fun K hK => ?_) HS.out.2
                      go_simp
                      refine HG.mono ?_
                      clear HG
                      rintro e w33 ⟨rfl, ⟨_, hf⟩, ho⟩
                      replace HS := Lib.hid (And.intro hf (ho _ _ HS.out.2))
                      clear hf ho
                      refine hK _ _ HS.out.2 ?_
                      clear hK K
                      as_aux_lemma =>
                        iterate 4 (refine wpOrd_held (fun K hK => ?_); go_simp; first | (apply Exists.intro; refine ⟨fun W hW => ?_, hK _ ?_⟩; (go_simp; first | done | exact rfl); clear hK K) | (refine hK _ ?_; clear hK K))
                        have HG := fk_Leaf HS.out.1 HL.out.2 (-1) (A := none) (R := []) 0 (.inl rfl) rfl (Nat.zero_le _) lE_m (by decide)
                        refine wpOrd_step (fun K hK => ?_) HS.out.2
                        go_simp
                        refine HG.mono ?_
                        clear HG
                        rintro e w34 ⟨rfl, ⟨_, hf⟩, ho⟩
                        replace HS := Lib.hid (And.intro hf (ho _ _ HS.out.2))
                        clear hf ho
                        refine hK _ _ HS.out.2 ?_
                        clear hK K
                        as_aux_lemma =>
                          iterate 4 (refine wpOrd_held (fun K hK => ?_); go_simp; first | (apply Exists.intro; refine ⟨fun W hW => ?_, hK _ ?_⟩; (go_simp; first | done | exact rfl); clear hK K) | (refine hK _ ?_; clear hK K))
                          obtain ⟨v35, w35, hbs35, hB35, hk35⟩ := run_bs1 6 w34
                          change (sliceRow 35 1 #[(0, .int .u8 6)]).run Try.prog w34 = _ at hbs35
                          obtain ⟨A35, c35, rfl, hc35, hb35⟩ := byt_one hB35
                          have hS35 : OwnD w35 0 (.slice (some ⟨gt, 0, none⟩) 2 tc) [d0, d1] := OwnRows.upd HS.out.2 hk35 (fun _ _ h => h)
                          refine wpOrd_step (fun K hK => ?_) HS.out.2
                          go_simp
                          refine hK _ _ hS35 ?_
                          clear hK K
                          replace HS := Lib.hid (And.intro (HS.out.1.kept hk35) hS35)
                          have HG := fk_Leaf HS.out.1 HL.out.2 5 (R := [6]) c35 hb35 rfl (by simp) (lE_5 rt) (by decide)
                          clear hbs35 hB35 hk35 hc35 hb35 hS35
                          refine wpOrd_step (fun K hK => ?_) HS.out.2
                          go_simp
                          refine HG.mono ?_
                          clear HG
                          rintro e w36 ⟨rfl, ⟨_, hf⟩, ho⟩
                          replace HS := Lib.hid (And.intro hf (ho _ _ HS.out.2))
                          clear hf ho
                          refine hK _ _ HS.out.2 ?_
                          clear hK K
                          as_aux_lemma =>
                            iterate 6 (refine wpOrd_held (fun K hK => ?_); go_simp; first | (apply Exists.intro; refine ⟨fun W hW => ?_, hK _ ?_⟩; (go_simp; first | done | exact rfl); clear hK K) | (refine hK _ ?_; clear hK K))
                            have HG := fk_Parts HS.out.1 HL.out.2 2 0 (m := 1) tc (digs_take (own_digs HS.out.2)) rfl ((pE_20 rt).trans (if_pos (by simp))) (partsS_ne (by rw [(pE_20 rt).trans (if_pos (by simp))]; decide))
                            refine wpOrd_step (fun K hK => ?_) HS.out.2
                            go_simp
                            refine HG.mono ?_
                            clear HG
                            rintro e w37 ⟨rfl, ⟨_, hf⟩, ho⟩
                            replace HS := Lib.hid (And.intro hf (ho _ _ HS.out.2))
                            clear hf ho
                            refine hK _ _ HS.out.2 ?_
                            clear hK K
                            as_aux_lemma =>
                              iterate 10 (refine wpOrd_held (fun K hK => ?_); go_simp; first | (apply Exists.intro; refine ⟨fun W hW => ?_, hK _ ?_⟩; (go_simp; first | done | exact rfl); clear hK K) | (refine hK _ ?_; clear hK K))
                              have hk38 : Kept w37 (w37.alloc (.cells (rowsOf dA [d1, d0]).toArray 46)) := (Upd.refl _ w37).alloc _
                              have hS38 : OwnD (w37.alloc (.cells (rowsOf dA [d1, d0]).toArray 46)) 0 (.slice (some ⟨gt, 0, none⟩) 2 tc) [d0, d1] := OwnRows.upd HS.out.2 hk38 (fun _ _ h => h)
                              have h2d := two_dg_at (W := w37) d1 d0 rfl
                              refine wpOrd_step (fun K hK => ?_) HS.out.2
                              go_simp
                              refine hK _ _ hS38 ?_
                              clear hK K
                              replace HS := Lib.hid (And.intro (HS.out.1.kept hk38) hS38)
                              clear hk38 hS38
                              obtain ⟨g38, hg38⟩ : ∃ g, g = w37.heap.size := ⟨_, rfl⟩
                              rw [← hg38] at h2d ⊢
                              clear hg38
                              generalize w37.alloc (.cells (rowsOf dA [d1, d0]).toArray 46) = w38 at *
                              have hE38 : partsE 6 (sF rt) 2 0 [d1, d0] = 100 := by rw [pE_20 rt, if_neg (by simp), if_neg HD.out.2]
                              have HG := fk_Parts HS.out.1 HL.out.2 2 0 2 h2d rfl hE38 (partsS_ne (by rw [hE38]; decide))
                              clear h2d hE38
                              refine wpOrd_step (fun K hK => ?_) HS.out.2
                              go_simp
                              refine HG.mono ?_
                              clear HG
                              rintro e w39 ⟨rfl, ⟨_, hf⟩, ho⟩
                              replace HS := Lib.hid (And.intro hf (ho _ _ HS.out.2))
                              clear hf ho
                              refine hK _ _ HS.out.2 ?_
                              clear hK K
                              as_aux_lemma =>
                                iterate 5 (refine wpOrd_held (fun K hK => ?_); go_simp; first | (apply Exists.intro; refine ⟨fun W hW => ?_, hK _ ?_⟩; (go_simp; first | done | exact rfl); clear hK K) | (refine hK _ ?_; clear hK K))
                                have hE39 : partsE 6 (sF rt) 2 0 [d0, d1] = 0 := by rw [pE_20 rt, if_neg (by simp), if_pos HD.out.1]
                                have HG := fk_Parts HS.out.1 HL.out.2 2 0 tc (own_digs HS.out.2) rfl hE39 (pS_20 rt hE39 rfl)
                                clear hE39
                                refine wpOrd_step (fun K hK => ?_) HS.out.2
                                go_simp
                                refine HG.mono ?_
                                clear HG
                                rintro e w40 ⟨rfl, ⟨_, hf⟩, ho⟩
                                replace HS := Lib.hid (And.intro hf (ho _ _ HS.out.2))
                                clear hf ho
                                refine hK _ _ HS.out.2 ?_
                                clear hK K
                                as_aux_lemma =>
                                  iterate 5 (refine wpOrd_held (fun K hK => ?_); go_simp; first | (apply Exists.intro; refine ⟨fun W hW => ?_, hK _ ?_⟩; (go_simp; first | done | exact rfl); clear hK K) | (refine hK _ ?_; clear hK K))
                                  have HG := fk_Parts HS.out.1 HL.out.2 2 0 tc (own_digs HS.out.2) rfl (pE_again rt [d0, d1] [d0, d1]) (partsS_ne (by rw [pE_again rt [d0, d1] [d0, d1]]; decide))
                                  refine wpOrd_step (fun K hK => ?_) HS.out.2
                                  go_simp
                                  refine HG.mono ?_
                                  clear HG
                                  rintro e w41 ⟨rfl, ⟨_, hf⟩, ho⟩
                                  replace HS := Lib.hid (And.intro hf (ho _ _ HS.out.2))
                                  clear hf ho
                                  refine hK _ _ HS.out.2 ?_
                                  clear hK K
                                  as_aux_lemma =>
                                    iterate 4 (refine wpOrd_held (fun K hK => ?_); go_simp; first | (apply Exists.intro; refine ⟨fun W hW => ?_, hK _ ?_⟩; (go_simp; first | done | exact rfl); clear hK K) | (refine hK _ ?_; clear hK K))
                                    have HG := law21_asks HS.out.1.fet 1 0
                                    rw [HL.out.2, (sG_lacks rt [d0, d1]).2, decide_eq_true rfl] at HG
                                    change Calls Try.prog _ #[_, .int .i64 1, .int .i64 0] _ _ at HG
                                    refine wpOrd_step (fun K hK => ?_) HS.out.2
                                    go_simp
                                    refine HG.mono ?_
                                    clear HG
                                    rintro e w42 ⟨rfl, hu42⟩
                                    replace HS := Lib.hid (And.intro (HS.out.1.kept hu42) (show OwnD w42 0 (.slice (some ⟨gt, 0, none⟩) 2 tc) [d0, d1] from OwnRows.upd HS.out.2 hu42 (fun _ _ h => h)))
                                    refine hK _ _ HS.out.2 ?_
                                    clear hK K hu42
                                    iterate 2 (refine wpOrd_held (fun K hK => ?_); go_simp; first | (apply Exists.intro; refine ⟨fun W hW => ?_, hK _ ?_⟩; (go_simp; first | done | exact rfl); clear hK K) | (refine hK _ ?_; clear hK K))
                                    refine wpOrd_nil ?_
                                    clear f3 f4 f5 f6 hds
                                    replace HS := Lib.hid HS.out.1.mad
                                    as_aux_lemma =>
                                      have HG := fetch_Begin0 (A := none) HS.out.ink.book dig1 1 (by omega) (by omega) 0
                                      change Calls Try.prog _ #[_, _, .int .i64 1, _] _ _ at HG
                                      go_wp2_with fail
                                      refine HG.mono ?_
                                      clear HG
                                      rintro e w43 ⟨f1, rfl, ⟨B1, k1, k2, gs1, cs1, hv1, ov1, hB1, hF1⟩, ⟨_, hb43, hs43⟩, hu43⟩
                                      replace HS := Lib.hid (And.intro (HS.out.to hb43 hs43 hu43) (And.intro hF1 (Nat.le_trans HS.out.ink.upd.size hB1)))
                                      clear hb43 hs43 hu43 hF1 hB1
                                      have HG := law21_asks HS.out.2.1 0 0
                                      rw [ask1 dig1, decide_eq_true rfl] at HG
                                      change Calls Try.prog _ #[_, .int .i64 0, .int .i64 0] _ _ at HG
                                      go_wp2_with fail
                                      refine HG.mono ?_
                                      clear HG
                                      rintro e w44 ⟨rfl, hu⟩
                                      replace HS := Lib.hid (And.intro (HS.out.1.kept hu) (And.intro (HS.out.2.1.kept hu) HS.out.2.2))
                                      clear hu
                                      obtain ⟨v45, w45, hbs45, hB45, hk45⟩ := run_bs1 7 w44
                                      change (sliceRow 35 1 #[(0, .int .u8 7)]).run Try.prog w44 = _ at hbs45
                                      obtain ⟨A45, c45, rfl, hc45, hb45⟩ := byt_one hB45
                                      replace HS := Lib.hid (And.intro (HS.out.1.kept hk45) (And.intro (HS.out.2.1.kept hk45) HS.out.2.2))
                                      have hE : leafE 1 (begS 1 none dig1) 0 [7] = 100 := by rw [lE_1, if_neg (by simp), if_neg leaf7_dig1]
                                      have HG := one_Leaf HS.out.1 HS.out.2.1 HS.out.2.2 c45 hb45 (m := 1) rfl (by simp) hE (by decide)
                                      clear hE hB45 hk45 hc45 hb45
                                      go_wp2_with fail
                                      clear hbs45
                                      refine HG.mono ?_
                                      clear HG
                                      rintro e w46 ⟨rfl, ⟨_, hM⟩, hF⟩
                                      replace HS := Lib.hid (And.intro hM (And.intro hF HS.out.2.2))
                                      clear hM hF
                                      obtain ⟨w47, RL2, hmk, hby, hkm⟩ := run_make_bz 65536 65536 rfl (by omega) w46
                                      replace HS := Lib.hid (And.intro (HS.out.1.kept hkm) (And.intro (HS.out.2.1.kept hkm) HS.out.2.2))
                                      have hE : leafE 1 (begS 1 none dig1) 0 RL2 = 5 := by rw [lE_1, if_pos (by rw [hby.1]; exact Nat.le_refl _)]
                                      have HG := one_Leaf HS.out.1 HS.out.2.1 HS.out.2.2 65536 hby.2 (m := 65536) hby.1 (by rw [hby.1]; omega) hE (by decide)
                                      clear hE hby hkm
                                      go_wp2_with fail
                                      clear hmk
                                      refine HG.mono ?_
                                      clear HG
                                      rintro e w48 ⟨rfl, ⟨_, hM⟩, hF⟩
                                      replace HS := Lib.hid (And.intro hM (And.intro hF HS.out.2.2))
                                      clear hM hF
                                      have HG := fetch_Root HS.out.2.1
                                      have hdd : decide (dig1 = dig1) = true := decide_eq_true rfl
                                      go_wp2_with fail
                                      refine HG.mono ?_
                                      clear HG
                                      rintro e w49 ⟨rfl, hu⟩
                                      have HK := Lib.hid (HS.out.1.ink.upd.then hu (fun _ _ h => h))
                                      clear hu HS
                                      go_wp2_with fail
                                      clear hdd
                                      have hzz : decide (dig0 = dig0) = true := decide_eq_true rfl
                                      go_loopw [38, 37] (fun u1 u2 wr => ∃ (k : Nat) (p : Option Addr), k ≤ 2 ∧ u1 = .int .i64 k ∧ u2 = .pointer p ∧ NoFetch wr p ∧ Kept w wr) (fun u1 _ _ => 2000 - (intOf u1).toNat)
                                      case atStart => exact ⟨0, none, Nat.zero_le _, rfl, rfl, .inl rfl, HK.out⟩
                                      case round =>
                                        clear HK
                                        obtain ⟨k, p, hk, rfl, rfl, hno, hu⟩ := hrel
                                        rcases Nat.lt_or_ge k 2 with hlt | hge
                                        · have hk1 : (k : Int) < 2 := by omega
                                          have HN := Lib.hid (And.intro hno (And.intro hu hlt))
                                          clear hno hu hlt hk
                                          have HG := fetch_Ask_none HN.out.1
                                          rw [show askV none = .tuple #[.int .i64 0, .int .i64 0, .bool false] from rfl] at HG
                                          go_wp2_with fail
                                          refine HG.mono ?_
                                          clear HG
                                          rintro e wa ⟨rfl, hu⟩
                                          replace HN := Lib.hid (And.intro (HN.out.1.kept hu) (And.intro (HN.out.2.1.then hu (fun _ _ h => h)) HN.out.2.2))
                                          clear hu
                                          have HG := fetch_Done_none HN.out.1
                                          go_wp2_with fail
                                          refine HG.mono ?_
                                          clear HG
                                          rintro e wb ⟨rfl, hu⟩
                                          replace HN := Lib.hid (And.intro (HN.out.1.kept hu) (And.intro (HN.out.2.1.then hu (fun _ _ h => h)) HN.out.2.2))
                                          clear hu
                                          have HG := fetch_Parts_none HN.out.1 9 9 (.slice none 0 0)
                                          go_wp2_with fail
                                          refine HG.mono ?_
                                          clear HG
                                          rintro e wc ⟨rfl, hu⟩
                                          replace HN := Lib.hid (And.intro (HN.out.1.kept hu) (And.intro (HN.out.2.1.then hu (fun _ _ h => h)) HN.out.2.2))
                                          clear hu
                                          have HG := fetch_Leaf_none HN.out.1 (-1) (.slice none 0 0)
                                          go_wp2_with fail
                                          refine HG.mono ?_
                                          clear HG
                                          rintro e wd ⟨rfl, hu⟩
                                          replace HN := Lib.hid (And.intro (HN.out.1.kept hu) (And.intro (HN.out.2.1.then hu (fun _ _ h => h)) HN.out.2.2))
                                          clear hu
                                          have HG := fetch_Root_none HN.out.1
                                          go_wp2_with fail
                                          refine HG.mono ?_
                                          clear HG
                                          rintro e we ⟨rfl, hu⟩
                                          have hk2 : Kept we (we.alloc (.cells fetZ 131)) := (Upd.refl _ we).alloc _
                                          have HF := Lib.hid (And.intro (fetZ_none we) (And.intro ((HN.out.2.1.then hu (fun _ _ h => h)).then hk2 (fun _ _ h => h)) HN.out.2.2))
                                          clear hu hk2 HN
                                          go_wp2_with fail
                                          go_roundw
                                          case rel => exact ⟨k + 1, _, by have := HF.out.2.2; omega, by show _ = _; go_num, rfl, HF.out.1, HF.out.2.1⟩
                                          case measure => have := HF.out.2.2; simp [intOf]; omega
                                        · obtain rfl : k = 2 := by omega
                                          have hk1 : ¬ (((2 : Nat) : Int) < 2) := by omega
                                          have HF := Lib.hid hu
                                          clear hno hu hge hk
                                          go_wp2_with fail
                                          refine (law21_works _).mono ?_
                                          rintro e wz ⟨rfl, hu⟩
                                          replace HF := Lib.hid (HF.out.then hu (fun _ _ h => h))
                                          clear hu
                                          go_wp2
                                          go_ret
                                          exact ⟨rfl, HF.out⟩
set_option maxRecDepth 100000 in
theorem FetchKnown_lifted (os : Os) (started : os.Started) (H : Type) (enc : TypeId × Value → H) :
    ReturnsInHanded {} Try.checked os 16 .any (Rows.fetchKnownSpec.pre6 enc Try.prog Try.f16 Rows.fetchKnownRow.domain false) (Rows.fetchKnownSpec.post enc Try.prog Try.f16 false true false false) := by
  refine law_lifted os started Try.func16 (by kernel_rfl) rfl rfl (by kernel_rfl) ?_
    (ChangeSpec.witness6 (enc := enc) (C := Try.checked) false ⟨#[], #[], []⟩ 8 (by kernel_rfl) (by kernel_rfl) (by kernel_rfl) (by kernel_rfl)) ?_
  · intro ds h
    rw [Try.params16] at h
    match ds, h with
    | [], _ => rfl
  · intro W base args ds ps hval hA _
    rw [Try.params16] at hA
    obtain ⟨hargs, rfl, rfl⟩ := trodAll_nil hA
    obtain rfl : args = #[] := by cases args; simp_all
    exact FetchKnown_walk W

theorem FetchKnown_holds : Rows.FetchKnownSaid :=
  OpenClaim.holds_of_wide 16 Try.f16 rfl rfl rfl rfl rfl rfl rfl ⟨rfl, rfl, rfl, rfl, rfl⟩ rfl rfl rfl rfl rfl (by kernel_rfl) Try.func16 (by kernel_rfl)
    (of_decide_eq_true (by kernel_rfl)) (by unfold Func.isWrapper; first | (rw [if_pos (by decide +kernel)]; kernel_rfl) | (rw [if_neg (by decide +kernel)]; exact ⟨rfl, rfl⟩))
    (fun os started H enc _ => FetchKnown_lifted os started H enc)
end Go.Proofs.Ytnncpjekcljfbaa
