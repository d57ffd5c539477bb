/- Both ends, ledgers that are none: the statement TagKnown holds. It has no arguments. -/
import Derived.Test.YtjnaenmknbcjmaaTagN
import Derived.Test.YtjnaenmknbcjmaaInts
import Derived.Test.YtjnaenmknbcjmaaFrame
import Derived.Test.YtjnaenmknbcjmaaOpen
import Derived.OwnWalk
namespace Go.Proofs.Ytjnaenmknbcjmaa
open Go.ChangeShapes Go.WideShapes Go.ChangeAt Go.RowKit

def manyR (n : Nat) : List Int := (List.range n).map fun (i : Nat) => 1 + (i : Int) % 34
theorem manyR_length (n : Nat) : (manyR n).length = n := by simp [manyR]
/-- a row that begins with the first n of them -/
theorem many_ints {W : World} {g t n : Nat} {cur : Array Value} (h : W.heap[g]? = some (.cells cur t (0, 0))) (hc : ∀ i, i < 35 → cur[i]? = some (.int .i64 (1 + (i : Int) % 34))) (hn : n ≤ 35) : Ints W (some ⟨g, 0, none⟩) (manyR n) := by
  refine .inr ⟨g, 0, rfl, fun k hk => ?_⟩
  rw [manyR_length] at hk
  rw [cell_of_row W g _ _ _ _ h, Nat.zero_add, hc k (by omega)]
  simp [manyR]

set_option maxHeartbeats 8000000 in
set_option maxRecDepth 20000 in
theorem TagKnown_walk (w : World) : Calls Try.prog 10 #[] w fun e w' => e = .returned (.bool true) ∧ Kept w w' := by
  obtain ⟨i0, hi, hz0, hz1, hz2⟩ := int_info
  go_enter Try.func10, Try.ntmps10
  go_wp2_with fail
  refine (tag_New _).mono ?_
  rintro e w1 ⟨b, r, rfl, hL, hu, hb, hr⟩
  have HU := Lib.hid hu
  clear hu
  go_wp2_with fail
  refine (law_digest _ (by omega) (by omega) _).mono ?_
  rintro e w2 ⟨rfl, hu⟩
  replace hL := hL.upd hu id id
  replace HU := Lib.hid (HU.out.then hu (fun _ _ h => h))
  clear hu
  have hgw : w.heap.size ≤ w2.heap.size + 1 := Nat.le_succ_of_le HU.out.size
  go_wp2_with (at_make; refine wpList_make_full _ rfl (.const (.int .i64 35)) (.const (.int .i64 35)) 30 rfl (w2.heap.size + 1) 3 i0 (.int .i64 0) 1 Try.underlying30 hi hz0 hz1 .i64 .i64 35 35 35 rfl rfl rfl rfl (by rw [hz2]; decide) (by decide) (by rw [World.size_alloc]; exact Nat.le_refl _) ?_; intro w3 hown hgr)
  have hA : Box w3 w2.heap.size (digI 1) := Box.upd (Upd.of_grown hgr) (Box.new w2 (digI 1)) (fun h => by cases h)
  replace hL : LedAt w3 b r [] 0 := (hL.alloc (.cells (dA (digI 1)) 28)).upd (Upd.of_grown hgr) (fun h => by cases h) (fun h => by cases h)
  replace HU : Hid (Kept w w3) := Lib.hid ((HU.out.alloc (.cells (dA (digI 1)) 28)).then (Upd.of_grown hgr) (fun _ _ h => by cases h))
  obtain ⟨cur, hM, hcs⟩ : ∃ cur, w3.heap[w2.heap.size + 1]? = some (.cells cur 3 (0, 0)) ∧ cur.size = 35 := by
    rcases hown.2 with ⟨e, _⟩ | ⟨g, cap, cur, e, hb, hg, h1, h2, h3, h4⟩
    · simp at e
    · simp only [Value.slice.injEq, Option.some.injEq, Addr.mk.injEq, and_true, true_and, World.size_alloc] at e
      obtain ⟨rfl, rfl⟩ := e
      exact ⟨cur, hg, h3⟩
  have HN := Lib.hid (hA.ne hL)
  have hgm : w2.heap.size + 1 ≠ b ∧ w2.heap.size + 1 ≠ r := by
    have h1 := hM
    refine ⟨?_, ?_⟩
    · rintro rfl; rw [hL.blk] at h1; cases h1
    · rintro rfl; obtain ⟨es, c, hm, _⟩ := hL.map; rw [hm] at h1; cases h1
  replace HN : Hid ((w2.heap.size ≠ b ∧ w2.heap.size + 1 ≠ b) ∧ w2.heap.size ≠ r ∧ w2.heap.size + 1 ≠ r) := ⟨⟨HN.out.1, hgm.1⟩, HN.out.2, hgm.2⟩
  have hgl := (HU.out.size : w.heap.size ≤ w3.heap.size)
  have HA := Lib.hid (And.intro hA hL)
  clear hA hL
  have hne : w2.heap.size ≠ w2.heap.size + 1 := by omega
  clear hown hgr hgm hgl
  generalize w2.heap.size + 1 = gm at *
  generalize w2.heap.size = gd at *
  clear w2 w1
  go_loopw [4] (fun i wr => ∃ k : Nat, k ≤ 35 ∧ i = .int .i64 k ∧ Upd (fun q => q = gm) w3 wr ∧ ∃ cur, wr.heap[gm]? = some (.cells cur 3 (0, 0)) ∧ cur.size = 35 ∧ ∀ i, i < k → cur[i]? = some (.int .i64 (1 + (i : Int) % 34))) (fun i _ => 35 - (intOf i).toNat)
  case atStart => exact ⟨0, Nat.zero_le _, rfl, Upd.refl _ _, cur, hM, hcs, fun i h => absurd h (Nat.not_lt_zero i)⟩
  case round =>
    clear hM hcs cur
    obtain ⟨k, hk, rfl, hu, cur, hM, hcs, hci⟩ := hrel
    have HUM := Lib.hid hu
    have HM := Lib.hid (And.intro hM (And.intro hcs hci))
    have p1 := frozen_of_row wr gm k _ _ hM
    clear hu hM hcs hci
    by_cases hlt : k < 35
    · obtain ⟨u, p2⟩ : ∃ u, wr.cell? ⟨gm, k, none⟩ = some u := ⟨cur[k]'(by have := HM.out.2.1; omega), by rw [cell_of_row _ gm k _ _ _ HM.out.1]; exact Array.getElem?_eq_getElem _⟩
      go_wp2
      go_roundw
      case rel =>
        obtain ⟨hM, hcs, hci⟩ := HM.out
        refine ⟨k + 1, by omega, by go_num, HUM.out.setCell (p := ⟨gm, k, none⟩) _ fun _ => rfl, cur.setIfInBounds k (.int .i64 (1 + (k : Int) % 34)), ?_, by simpa using hcs, fun i hi => ?_⟩
        · rw [heap_setCell_same wr gm k _ _ _ hM]
        · by_cases hik : i = k
          · subst hik
            simp [hcs, hlt]
          · rw [Array.getElem?_setIfInBounds_ne (by omega)]
            exact hci i (by omega)
      case measure => simp [intOf]; omega
    · obtain rfl : k = 35 := by omega
      have hu := HUM.out
      have hL := HA.out.2.upd hu HN.out.1.2.symm HN.out.2.2.symm
      have hA := Box.upd hu HA.out.1 hne
      replace HU : Hid (Kept w wr) := Lib.hid (HU.out.then hu fun i hi e => by omega)
      have hM := HM.out.1
      have HC := Lib.hid HM.out.2.2
      have a1 := hA.s1
      have a2 := hA.s2
      have la := hA.lt
      have v1 : vecM [] 1 [2, 0] (digI 1) = ([], 2) := by decide
      have v2 : vecM [] 0 [2] (digI 1) = ([], 2) := by decide
      have v3 : vecM [] 1 (manyR 35) (digI 1) = ([], 2) := by decide
      have V1 := Lib.hid (And.intro v1 (And.intro v2 v3))
      clear hu HUM HM p1 HA v1 v2 v3
      go_wp2_with fail
      refine (tag_Tag hL 0 1 (digI 1)).mono ?_
      rw [show tagM [] 0 1 (digI 1) = ([], 2) from by decide]
      rintro e w4 ⟨rfl, hL', hu⟩
      clear hL a1 a2
      have hL := hL'
      clear hL'
      replace hA := Box.upd hu hA HN.out.2.1
      replace hM := hu.heap hM HN.out.2.2
      have a1 := hA.s1
      have a2 := hA.s2
      have la := hA.lt
      replace HU := Lib.hid (HU.out.then hu (fun i hi e => absurd hi (by omega)))
      clear hu
      go_wp2_with fail
      refine (tag_Tag hL 35 1 (digI 1)).mono ?_
      rw [show tagM [] 35 1 (digI 1) = ([], 2) from by decide]
      rintro e w5 ⟨rfl, hL', hu⟩
      clear hL a1 a2
      have hL := hL'
      clear hL'
      replace hA := Box.upd hu hA HN.out.2.1
      replace hM := hu.heap hM HN.out.2.2
      have a1 := hA.s1
      have a2 := hA.s2
      have la := hA.lt
      replace HU := Lib.hid (HU.out.then hu (fun i hi e => absurd hi (by omega)))
      clear hu
      go_wp2_with fail
      refine (tag_Tag hL 1 35 (digI 1)).mono ?_
      rw [show tagM [] 1 35 (digI 1) = ([], 2) from by decide]
      rintro e w6 ⟨rfl, hL', hu⟩
      clear hL a1 a2
      have hL := hL'
      clear hL'
      replace hA := Box.upd hu hA HN.out.2.1
      replace hM := hu.heap hM HN.out.2.2
      have a1 := hA.s1
      have a2 := hA.s2
      have la := hA.lt
      replace HU := Lib.hid (HU.out.then hu (fun i hi e => absurd hi (by omega)))
      clear hu
      go_wp2_with fail
      refine (tag_Tag hL 1 (-1) (digI 1)).mono ?_
      rw [show tagM [] 1 (-1) (digI 1) = ([], 2) from by decide]
      rintro e w7 ⟨rfl, hL', hu⟩
      clear hL a1 a2
      have hL := hL'
      clear hL'
      replace hA := Box.upd hu hA HN.out.2.1
      replace hM := hu.heap hM HN.out.2.2
      have a1 := hA.s1
      have a2 := hA.s2
      have la := hA.lt
      replace HU := Lib.hid (HU.out.then hu (fun i hi e => absurd hi (by omega)))
      clear hu
      go_wp2_with fail
      have hI : Ints (w7.alloc (.cells #[.int .i64 2, .int .i64 0] 3)) (some ⟨w7.heap.size, 0, none⟩) [2, 0] := Ints.new (R := [2, 0]) (heap_alloc_new _ _)
      refine (tag_Vector (hL.alloc _) 1 (digI 1) _ [2, 0] _ hI).mono ?_
      rw [V1.out.1]
      rintro e w8 ⟨rfl, hL', hu⟩
      replace hu := ((Upd.refl (fun k => k = r) w7).alloc _).trans hu
      clear hL a1 a2 hI
      have hL := hL'
      clear hL'
      replace hA := Box.upd hu hA HN.out.2.1
      replace hM := hu.heap hM HN.out.2.2
      have a1 := hA.s1
      have a2 := hA.s2
      have la := hA.lt
      replace HU := Lib.hid (HU.out.then hu (fun i hi e => absurd hi (by omega)))
      clear hu
      go_wp2_with fail
      have hI : Ints (w8.alloc (.cells #[.int .i64 2] 3)) (some ⟨w8.heap.size, 0, none⟩) [2] := Ints.new (R := [2]) (heap_alloc_new _ _)
      refine (tag_Vector (hL.alloc _) 0 (digI 1) _ [2] _ hI).mono ?_
      rw [V1.out.2.1]
      rintro e w9 ⟨rfl, hL', hu⟩
      replace hu := ((Upd.refl (fun k => k = r) w8).alloc _).trans hu
      clear hL a1 a2 hI
      have hL := hL'
      clear hL'
      replace hA := Box.upd hu hA HN.out.2.1
      replace hM := hu.heap hM HN.out.2.2
      have a1 := hA.s1
      have a2 := hA.s2
      have la := hA.lt
      replace HU := Lib.hid (HU.out.then hu (fun i hi e => absurd hi (by omega)))
      clear hu
      go_wp2_with fail
      have hI := many_ints (n := 35) hM HC.out (Nat.le_refl _)
      refine (tag_Vector hL 1 (digI 1) _ (manyR 35) _ hI).mono ?_
      rw [V1.out.2.2]
      rintro e w10 ⟨rfl, hL', hu⟩
      clear hL a1 a2 hI
      have hL := hL'
      clear hL'
      replace hA := Box.upd hu hA HN.out.2.1
      replace hM := hu.heap hM HN.out.2.2
      have a1 := hA.s1
      have a2 := hA.s2
      have la := hA.lt
      replace HU := Lib.hid (HU.out.then hu (fun i hi e => absurd hi (by omega)))
      clear hu
      clear V1
      go_wp2_with fail
      refine (tag_Len hL).mono ?_
      rintro e w11 ⟨rfl, rfl⟩
      have f5 : ∀ W, Box W gd (digI 1) → segB W ⟨gd, 0, none⟩ 32 = true := fun W hW => hW.s1
      have f6 : ∀ W, Box W gd (digI 1) → segV W ⟨gd, 0, none⟩ 32 = dA (digI 1) := fun W hW => hW.s2
      have hI := many_ints (n := 34) hM HC.out (by omega)
      have hI2 : Ints w10.drew (some ⟨gm, 0, none⟩) (manyR 34) := hI.upd ((Upd.refl (fun _ => False) w10).drew) (fun _ h => h.elim)
      replace hL : LedAt w10.drew b r [] 0 := hL.drew
      replace hA : Box w10.drew gd (digI 1) := hA
      replace HU : Hid (Kept w w10.drew) := Lib.hid HU.out.drew
      have HI := Lib.hid hI2
      clear hI hI2 hM HC a1 a2
      go_wp2_with fail
      refine wp_region_ord [(0, true), (1, true), (2, true), (3, true), (4, false), (5, true), (6, true), (7, true), (8, false), (9, true), (10, true), (11, true), (12, true), (13, true), (14, false), (15, true), (16, true), (17, true), (18, true), (19, false), (20, true), (21, true), (22, true), (23, true), (24, true), (25, false), (26, true), (27, true), (28, true), (29, true), (30, true), (31, false), (32, true), (33, true), (34, true), (35, true), (36, false), (37, true), (38, true), (39, true), (40, true), (41, false), (42, true), (43, true), (44, true), (45, true), (46, false), (47, true), (48, true), (49, true)] (by kernel_rfl) (by kernel_rfl) (fun W => Box W gd (digI 1)) hA ?_
      simp only [ordOps, List.getD_cons_zero, List.getD_cons_succ]
      have x0 : (vecM [] 34 (manyR 34) (digI 1)).2 = 0 := by decide +kernel
      have x1 : (vecM [] 34 (manyR 34) (digI 1)).1.length = 34 := by decide +kernel
      have x2 : checkM (vecM [] 34 (manyR 34) (digI 1)).1 34 34 (digI 1) = true := by decide +kernel
      have x3 : checkM (vecM [] 34 (manyR 34) (digI 1)).1 34 0 (digI 1) = false := by decide +kernel
      have x4 : (tagM (vecM [] 34 (manyR 34) (digI 1)).1 34 0 (digI 1)).2 = 0 := by decide +kernel
      have x5 : checkM (tagM (vecM [] 34 (manyR 34) (digI 1)).1 34 0 (digI 1)).1 34 0 (digI 1) = true := by decide +kernel
      have x6 : checkM (tagM (vecM [] 34 (manyR 34) (digI 1)).1 34 0 (digI 1)).1 34 99 (digI 1) = true := by decide +kernel
      have x7 : vecM (tagM (vecM [] 34 (manyR 34) (digI 1)).1 34 0 (digI 1)).1 1 [] (digI 1) = ((tagM (vecM [] 34 (manyR 34) (digI 1)).1 34 0 (digI 1)).1, 0) := by decide +kernel
      have x8 : (tagM (vecM [] 34 (manyR 34) (digI 1)).1 34 0 (digI 1)).1.length = 35 := by decide +kernel
      iterate 4 (refine wpOrd_held (fun K hK => ?_); go_simp; first | (apply Exists.intro; refine ⟨fun W hW => ?_, hK _ ?_⟩; (go_simp; first | done | exact rfl); clear hK K) | (refine hK _ ?_; clear hK K))
      refine wpOrd_step (fun K hK => ?_) hA
      go_simp
      refine (tag_Vector hL 34 (digI 1) _ (manyR 34) _ HI.out).mono ?_
      rw [x0]
      rintro e W ⟨rfl, hL', hu⟩
      clear hL HI x0
      generalize (vecM [] 34 (manyR 34) (digI 1)).1 = L1 at *
      have hL := hL'
      clear hL'
      replace hA := Box.upd hu hA HN.out.2.1
      replace HU := Lib.hid (HU.out.then hu (fun i hi e => absurd hi (by omega)))
      clear hu
      refine hK _ _ hA ?_
      clear hK K
      have y4 : tagM L1 34 0 (digI 1) = ((tagM L1 34 0 (digI 1)).1, 0) := Prod.ext rfl x4
      clear x4
      generalize (tagM L1 34 0 (digI 1)).1 = L2 at *
      iterate 3 (refine wpOrd_held (fun K hK => ?_); go_simp; first | (apply Exists.intro; refine ⟨fun W hW => ?_, hK _ ?_⟩; (go_simp; first | done | exact rfl); clear hK K) | (refine hK _ ?_; clear hK K))
      refine wpOrd_step (fun K hK => ?_) hA
      go_simp
      refine (tag_Len hL).mono ?_
      rw [x1]
      rintro e W1 ⟨rfl, rfl⟩
      refine hK _ _ hA ?_
      clear hK K x1
      iterate 5 (refine wpOrd_held (fun K hK => ?_); go_simp; first | (apply Exists.intro; refine ⟨fun W hW => ?_, hK _ ?_⟩; (go_simp; first | done | exact rfl); clear hK K) | (refine hK _ ?_; clear hK K))
      refine wpOrd_step (fun K hK => ?_) hA
      go_simp
      refine (tag_Check hL (by omega) (by omega) 34 34 (digI 1) (by decide) (by decide)).mono ?_
      rw [x2]
      rintro e W ⟨rfl, hL', hu⟩
      clear hL
      have hL := hL'
      clear hL'
      replace hA := Box.upd hu hA HN.out.1.1
      replace HU := Lib.hid (HU.out.then hu (fun i hi e => absurd hi (by omega)))
      clear hu
      refine hK _ _ hA ?_
      clear hK K
      clear x2
      iterate 4 (refine wpOrd_held (fun K hK => ?_); go_simp; first | (apply Exists.intro; refine ⟨fun W hW => ?_, hK _ ?_⟩; (go_simp; first | done | exact rfl); clear hK K) | (refine hK _ ?_; clear hK K))
      refine wpOrd_step (fun K hK => ?_) hA
      go_simp
      refine (tag_Check hL (by omega) (by omega) 34 0 (digI 1) (by decide) (by decide)).mono ?_
      rw [x3]
      rintro e W ⟨rfl, hL', hu⟩
      clear hL
      have hL := hL'
      clear hL'
      replace hA := Box.upd hu hA HN.out.1.1
      replace HU := Lib.hid (HU.out.then hu (fun i hi e => absurd hi (by omega)))
      clear hu
      refine hK _ _ hA ?_
      clear hK K
      clear x3
      iterate 5 (refine wpOrd_held (fun K hK => ?_); go_simp; first | (apply Exists.intro; refine ⟨fun W hW => ?_, hK _ ?_⟩; (go_simp; first | done | exact rfl); clear hK K) | (refine hK _ ?_; clear hK K))
      refine wpOrd_step (fun K hK => ?_) hA
      go_simp
      refine (tag_Tag hL 34 0 (digI 1)).mono ?_
      rw [y4]
      rintro e W ⟨rfl, hL', hu⟩
      clear hL
      have hL := hL'
      clear hL'
      replace hA := Box.upd hu hA HN.out.2.1
      replace HU := Lib.hid (HU.out.then hu (fun i hi e => absurd hi (by omega)))
      clear hu
      refine hK _ _ hA ?_
      clear hK K y4 L1
      iterate 5 (refine wpOrd_held (fun K hK => ?_); go_simp; first | (apply Exists.intro; refine ⟨fun W hW => ?_, hK _ ?_⟩; (go_simp; first | done | exact rfl); clear hK K) | (refine hK _ ?_; clear hK K))
      refine wpOrd_step (fun K hK => ?_) hA
      go_simp
      refine (tag_Check hL (by omega) (by omega) 34 0 (digI 1) (by decide) (by decide)).mono ?_
      rw [x5]
      rintro e W ⟨rfl, hL', hu⟩
      clear hL
      have hL := hL'
      clear hL'
      replace hA := Box.upd hu hA HN.out.1.1
      replace HU := Lib.hid (HU.out.then hu (fun i hi e => absurd hi (by omega)))
      clear hu
      refine hK _ _ hA ?_
      clear hK K
      iterate 4 (refine wpOrd_held (fun K hK => ?_); go_simp; first | (apply Exists.intro; refine ⟨fun W hW => ?_, hK _ ?_⟩; (go_simp; first | done | exact rfl); clear hK K) | (refine hK _ ?_; clear hK K))
      refine wpOrd_step (fun K hK => ?_) hA
      go_simp
      refine (tag_Check hL (by omega) (by omega) 34 99 (digI 1) (by decide) (by decide)).mono ?_
      rw [x6]
      rintro e W ⟨rfl, hL', hu⟩
      clear hL
      have hL := hL'
      clear hL'
      replace hA := Box.upd hu hA HN.out.1.1
      replace HU := Lib.hid (HU.out.then hu (fun i hi e => absurd hi (by omega)))
      clear hu
      refine hK _ _ hA ?_
      clear hK K
      iterate 4 (refine wpOrd_held (fun K hK => ?_); go_simp; first | (apply Exists.intro; refine ⟨fun W hW => ?_, hK _ ?_⟩; (go_simp; first | done | exact rfl); clear hK K) | (refine hK _ ?_; clear hK K))
      refine wpOrd_step (fun K hK => ?_) hA
      go_simp
      refine (tag_Vector hL 1 (digI 1) none [] _ (.inl rfl)).mono ?_
      rw [x7]
      rintro e W ⟨rfl, hL', hu⟩
      clear hL
      have hL := hL'
      clear hL'
      replace hA := Box.upd hu hA HN.out.2.1
      replace HU := Lib.hid (HU.out.then hu (fun i hi e => absurd hi (by omega)))
      clear hu
      refine hK _ _ hA ?_
      clear hK K x5 x6 x7
      iterate 4 (refine wpOrd_held (fun K hK => ?_); go_simp; first | (apply Exists.intro; refine ⟨fun W hW => ?_, hK _ ?_⟩; (go_simp; first | done | exact rfl); clear hK K) | (refine hK _ ?_; clear hK K))
      refine wpOrd_step (fun K hK => ?_) hA
      go_simp
      refine (tag_Len hL).mono ?_
      rw [x8]
      rintro e W1 ⟨rfl, rfl⟩
      refine hK _ _ hA ?_
      clear hK K x8
      iterate 3 (refine wpOrd_held (fun K hK => ?_); go_simp; first | (apply Exists.intro; refine ⟨fun W hW => ?_, hK _ ?_⟩; (go_simp; first | done | exact rfl); clear hK K) | (refine hK _ ?_; clear hK K))
      refine wpOrd_nil ?_
      have HU2 := Lib.hid (And.intro HU.out hA)
      clear hL f5 f6 HU HN hA L2
      go_wp2_with fail
      go_loopw [7, 8] (fun p i wr => ∃ k : Nat, ∃ q, k ≤ 2 ∧ i = .int .i64 k ∧ p = .pointer q ∧ NoneAt wr q ∧ Kept w wr ∧ Box wr gd (digI 1)) (fun _ i _ => 2 - (intOf i).toNat)
      case atStart => exact ⟨0, none, Nat.zero_le _, rfl, rfl, .inl rfl, HU2.out.1, HU2.out.2⟩
      case round =>
        clear HU2
        obtain ⟨k, q, hk, rfl, rfl, hN, hu, hA⟩ := hrel
        have HU := Lib.hid hu
        have a1 := hA.s1
        have a2 := hA.s2
        have la := hA.lt
        clear hu
        by_cases hlt : k < 2
        · go_wp2_with fail
          refine (none_Tag hN 1 2 (digI 1)).mono ?_
          rintro e w4 ⟨rfl, hu⟩
          replace hN := hN.upd hu (fun _ => id)
          replace hA := Box.upd hu hA id
          replace HU := Lib.hid (HU.out.then hu (fun _ _ h => h))
          clear hu a1 a2 la
          have a1 := hA.s1
          have a2 := hA.s2
          have la := hA.lt
          go_wp2_with fail
          refine (none_Vector (hN.upd (Upd.alloc (Upd.refl (fun _ => False) _) _) (fun _ => id)) 1 (digI 1) _ _ _).mono ?_
          rintro e w5 ⟨rfl, hu⟩
          replace hu := ((Upd.refl (fun _ => False) w4).alloc _).trans hu
          replace hN := hN.upd hu (fun _ => id)
          replace hA := Box.upd hu hA id
          replace HU := Lib.hid (HU.out.then hu (fun _ _ h => h))
          clear hu a1 a2 la
          have a1 := hA.s1
          have a2 := hA.s2
          have la := hA.lt
          go_wp2_with fail
          refine (none_Check hN 1 2 (digI 1)).mono ?_
          rintro e w6 ⟨rfl, hu⟩
          replace hN := hN.upd hu (fun _ => id)
          replace hA := Box.upd hu hA id
          replace HU := Lib.hid (HU.out.then hu (fun _ _ h => h))
          clear hu a1 a2 la
          have a1 := hA.s1
          have a2 := hA.s2
          have la := hA.lt
          go_wp2_with fail
          refine (none_Len hN).mono ?_
          rintro e w7 ⟨rfl, rfl⟩
          go_wp2_with fail
          refine (none_Asked hN).mono ?_
          rintro e w7 ⟨rfl, rfl⟩
          go_wp2
          go_roundw
          case rel => exact ⟨k + 1, _, by omega, by go_num, rfl, .inr ⟨_, rfl, heap_alloc_new _ _⟩, HU.out.alloc _, Box.upd ((Upd.refl (fun _ => False) _).alloc _) hA id⟩
          case measure => simp [intOf]; omega
        · obtain rfl : k = 2 := by omega
          go_wp2_with fail
          refine (law_works _).mono ?_
          rintro e w4 ⟨rfl, hu⟩
          replace HU := Lib.hid (HU.out.then hu (fun _ _ h => h))
          clear hu
          go_wp2
          go_ret
          exact ⟨rfl, HU.out⟩

set_option maxRecDepth 100000 in
theorem TagKnown_lifted (os : Os) (started : os.Started) (H : Type) (enc : TypeId × Value → H) :
    ReturnsInHanded {} Try.checked os 10 .any (Rows.tagKnownSpec.pre6 enc Try.prog Try.f10 Rows.tagKnownRow.domain false) (Rows.tagKnownSpec.post enc Try.prog Try.f10 false true false false) := by
  refine law_lifted os started Try.func10 (by kernel_rfl) rfl rfl (by kernel_rfl) ?_
    (ChangeSpec.witness6 (enc := enc) (C := Try.checked) false ⟨#[], #[], []⟩ 8 (by kernel_rfl) (by kernel_rfl) (by kernel_rfl) (by kernel_rfl)) ?_
  · intro ds h
    rw [Try.params10] at h
    match ds, h with
    | [], _ => rfl
  · intro W base args ds ps hval hA _
    rw [Try.params10] at hA
    obtain ⟨hargs, rfl, rfl⟩ := trodAll_nil hA
    obtain rfl : args = #[] := by cases args; simp_all
    exact TagKnown_walk W

theorem TagKnown_holds : Rows.TagKnownSaid :=
  OpenClaim.holds_of_wide 10 Try.f10 rfl rfl rfl rfl rfl rfl rfl ⟨rfl, rfl, rfl, rfl, rfl⟩ rfl rfl rfl rfl rfl (by kernel_rfl) Try.func10 (by kernel_rfl)
    (of_decide_eq_true (by kernel_rfl)) (by unfold Func.isWrapper; first | (rw [if_pos (by decide +kernel)]; kernel_rfl) | (rw [if_neg (by decide +kernel)]; exact ⟨rfl, rfl⟩))
    (fun os started H enc _ => TagKnown_lifted os started H enc)
end Go.Proofs.Ytjnaenmknbcjmaa
