/- The statements' world: a book that is new; works. -/
import Derived.Test.YtjimamgghkgdeaaTreeN
namespace Go.Proofs.Ytjimamgghkgdeaa
open Go.RowKit

/-- a book made behind w, and nothing of w turned -/
structure Ink0 (w W : World) (b r q : Nat) (L : List Bytes) : Prop where
  book : BookL W b r q L
  upd : Kept w W
  far : ∀ k, Book3 b r q k → w.heap.size ≤ k
section
variable {w W W' : World} {b r q : Nat} {L L' : List Bytes} {S : Nat → Prop}
theorem Ink0.step (h : Ink0 w W b r q L) (hb : BookL W' b r q L') (hu : Upd S W W') (hs : ∀ k, S k → Book3 b r q k ∨ w.heap.size ≤ k) : Ink0 w W' b r q L' :=
  ⟨hb, h.upd.then hu (fun k hk e => (hs k e).elim (fun e => by have := h.far k e; omega) (fun e => by omega)), h.far⟩
theorem Ink0.to (h : Ink0 w W b r q L) (hb : BookL W' b r q L') (hu : Upd (Book3 b r q) W W') : Ink0 w W' b r q L' := h.step hb hu fun _ e => .inl e
theorem Ink0.kept (h : Ink0 w W b r q L) (hu : Kept W W') : Ink0 w W' b r q L := h.step (h.book.kept hu) hu fun _ e => e.elim
end
theorem law_book (w : World) : Calls Try.prog 14 #[] w fun e W => ∃ b r q, e = .returned (.pointer (some ⟨b, 0, none⟩)) ∧ Ink0 w W b r q [] := by
  refine (ink_New w).mono ?_
  rintro e W ⟨rfl, h, hu⟩
  exact ⟨_, _, _, rfl, ⟨⟨_, _, _, h⟩, hu, by rintro k (rfl | rfl | rfl) <;> omega⟩⟩

theorem depthM1 : depthM 1 = 1 := by rw [depthM, dif_neg (by omega)]
theorem depthM_up (n m d : Nat) (h1 : 1 < n) (hm : up4 n = m) (hd : depthM m = d) : depthM n = 1 + d := by rw [depthM, dif_pos h1, hm, hd]
theorem depthM2 : depthM 2 = 2 := depthM_up 2 1 1 (by omega) rfl depthM1
theorem depthM5 : depthM 5 = 3 := depthM_up 5 2 2 (by omega) rfl depthM2

/-- one byte, written out, as bytes -/
theorem byt_one {W : World} {B : Nat} {v : Value} {c : UInt8} (h : OwnB W B v [c]) : ∃ A k, v = .slice A 1 k ∧ 1 ≤ k ∧ Byt W A [c] := by
  obtain ⟨A, k, rfl, hk, hb⟩ := h.form
  exact ⟨A, k, rfl, hk, hb⟩

theorem aboveM5 (x : Dig) : ∃ l, aboveM shaM (List.replicate 5 x) = l ∧ l.length = 2 ∧ l[1]? = some (upM shaM [x]) := by
  refine ⟨_, rfl, by rw [aboveM_length, List.length_replicate]; rfl, ?_⟩
  rw [List.getElem?_eq_getElem (by rw [aboveM_length, List.length_replicate]; decide), aboveM_get]
  rfl
theorem lev51 (x : Dig) : (levelsM shaM (List.replicate 5 x))[1]? = some (aboveM shaM (List.replicate 5 x)) := by
  obtain ⟨tl, h1, h2, _⟩ := levelsM_head (List.replicate 5 x)
  rw [h1, h2 (by simp)]
  obtain ⟨tl2, h3, _⟩ := levelsM_head (aboveM shaM (List.replicate 5 x))
  rw [h3]
  rfl

structure WorksS (w W : World) (b r q lo hi t g B : Nat) (L : List Bytes) (x : Dig) (v : Value) (l : List Dig) : Prop where
  ink : Ink0 w W b r q L
  tree : TreeAt W lo hi t b (List.replicate 5 x)
  dig : Blk W g 40 (encB x.1)
  lev : OwnD W B v l
  lo : w.heap.size ≤ lo
  gg : hi ≤ g
  gB : hi ≤ B
theorem WorksS.kept {w W W' : World} {b r q lo hi t g B : Nat} {L : List Bytes} {x : Dig} {v : Value} {l : List Dig} (h : WorksS w W b r q lo hi t g B L x v l) (hu : Kept W W') : WorksS w W' b r q lo hi t g B L x v l :=
  ⟨h.ink.kept hu, h.tree.kept hu, h.dig.kept hu, OwnRows.upd h.lev hu (fun _ _ h => h), h.lo, h.gg, h.gB⟩
theorem TreeAt.sz {W : World} {lo hi t b : Nat} {D : List Dig} (h : TreeAt W lo hi t b D) : hi ≤ W.heap.size := by
  obtain ⟨_, _, _, h⟩ := h; exact h.sz
theorem WorksS.sz {w W : World} {b r q lo hi t g B : Nat} {L : List Bytes} {x : Dig} {v : Value} {l : List Dig} (h : WorksS w W b r q lo hi t g B L x v l) : hi ≤ W.heap.size := h.tree.sz

set_option maxHeartbeats 4000000 in
set_option maxRecDepth 20000 in
theorem law_works (w : World) : Calls Try.prog 12 #[] w fun e W => e = .returned (.bool true) ∧ Kept w W := by
  go_enter Try.func12, Try.ntmps12
  go_wp2_with fail
  refine (law_book w).mono ?_
  rintro e w1 ⟨b, r, q, rfl, hI1⟩
  have HI := Lib.hid hI1
  clear hI1
  go_wp2_with fail
  refine (tree_New HI.out.book 1 (by omega) (by omega)).mono ?_
  rintro e w2 ⟨t1, rfl, ht1, hT1, hb2, hu2⟩
  have HI2 := Lib.hid (HI.out.to hb2 hu2)
  have HT1 := Lib.hid (And.intro ht1 hT1)
  clear HI hb2 hu2 ht1 hT1
  go_wp2_with fail
  refine (tree_New HI2.out.book 5 (by omega) (by omega)).mono ?_
  rintro e w3 ⟨t5, rfl, ht5, hT5, hb3, hu3⟩
  have HI3 := Lib.hid (HI2.out.to hb3 hu3)
  replace HT1 := Lib.hid (HT1.out.2.book HI2.out.book hu3)
  have HT5 := Lib.hid (And.intro (Nat.le_trans HI2.out.upd.size ht5) (And.intro HI2.out.upd.size hT5))
  clear HI2 hb3 hu3 ht5 hT5
  have e1 : ((depthM (List.replicate 1 (leafM shaM [])).length : Nat) : Int) = 1 := by rw [List.length_replicate, depthM1]; rfl
  have e5 : ((depthM (List.replicate 5 (leafM shaM [])).length : Nat) : Int) = 3 := by rw [List.length_replicate, depthM5]; rfl
  have e6 : (((List.replicate 5 (leafM shaM [])).length : Nat) : Int) = 5 := by rw [List.length_replicate]; rfl
  go_wp2_with fail
  refine (tree_Depth HT1.out).mono ?_
  rw [e1]
  rintro e W ⟨rfl, rfl⟩
  go_wp2_with fail
  refine (tree_Depth HT5.out.2.2).mono ?_
  rw [e5]
  rintro e W ⟨rfl, rfl⟩
  go_wp2_with fail
  refine (tree_Leaves HT5.out.2.2).mono ?_
  rw [e6]
  rintro e W ⟨rfl, rfl⟩
  go_wp2_with fail
  refine (tree_Root HT1.out).mono ?_
  rintro e w4 ⟨rfl, hu4⟩
  rw [show List.replicate 1 (leafM shaM []) = [leafM shaM []] from rfl, rootM_one]
  obtain ⟨x, hx⟩ : ∃ x, x = leafM shaM [] := ⟨_, rfl⟩
  rw [← hx]
  have HXX : Hid (x = shaM [0]) := hx
  replace HT5 := Lib.hid (And.intro HT5.out.1 (And.intro HT5.out.2.1 (HT5.out.2.2.kept hu4)))
  replace HI3 := Lib.hid (HI3.out.kept hu4)
  rw [← hx] at HT5 e6
  have hsz4 := hu4.size
  clear HT1 e1 e5 e6 hx hu4
  have hd6 : Blk (w4.alloc (.cells (dA x) 40)) w4.heap.size 40 (encB x.1) := Blk.new w4 _ _
  have hk6 : Kept w4 (w4.alloc (.cells (dA x) 40)) := (Upd.refl _ w4).alloc _
  replace HT5 := Lib.hid (And.intro HT5.out.1 (And.intro HT5.out.2.1 (HT5.out.2.2.kept hk6)))
  replace HI3 := Lib.hid (HI3.out.kept hk6)
  have HD6 := Lib.hid (And.intro hd6 (And.intro (show w3.heap.size ≤ w4.heap.size from hsz4) (show w3.heap.size ≤ (w4.alloc (.cells (dA x) 40)).heap.size from Nat.le_trans hsz4 hk6.size)))
  clear hd6 hk6 hsz4
  go_wp2_with fail
  obtain ⟨g6, hg6⟩ : ∃ g6, g6 = w4.heap.size := ⟨_, rfl⟩
  rw [← hg6] at HD6 ⊢
  clear hg6
  generalize w4.alloc (.cells (dA x) 40) = w5 at *
  obtain ⟨l2, hl2, hl2a, hl2b⟩ := aboveM5 x
  refine (tree_Level HT5.out.2.2 1 (by rw [lev51, hl2]) (by omega)).mono ?_
  rintro e w6 ⟨v8, rfl, hv8, hu6⟩
  replace HD6 := Lib.hid (And.intro (HD6.out.1.kept hu6) HD6.out.2)
  replace HT5 := Lib.hid (And.intro HT5.out.1 (And.intro HT5.out.2.1 (HT5.out.2.2.kept hu6)))
  replace HI3 := Lib.hid (HI3.out.kept hu6)
  obtain ⟨v9, w7, hbs, hB, hk7⟩ := run_bs1 0 w6
  change (sliceRow 32 1 #[(0, .int .u8 0)]).run Try.prog w6 = _ at hbs
  have hv7 := OwnRows.upd hv8 hk7 (fun _ _ h => h)
  replace HD6 := Lib.hid (And.intro (HD6.out.1.kept hk7) HD6.out.2)
  replace HT5 := Lib.hid (And.intro HT5.out.1 (And.intro HT5.out.2.1 (HT5.out.2.2.kept hk7)))
  replace HI3 := Lib.hid (HI3.out.kept hk7)
  obtain ⟨A9, c9, rfl, hc9, hb9⟩ := byt_one hB
  have HV := Lib.hid (And.intro hv7 (And.intro hl2a hl2b))
  have H9 := Lib.hid (And.intro hc9 hb9)
  clear hu6 hB hk7 hv7 hv8 hl2 hl2a hl2b hc9 hb9
  go_wp2_with fail
  refine (sha_Of (R := [0]) c9 H9.out.2 (by simp) H9.out.1).mono ?_
  rintro e w8 ⟨rfl, hu8⟩
  rw [← HXX.out]
  have hS8 : WorksS w w8 b r q w2.heap.size w3.heap.size t5 g6 w5.heap.size _ x v8 l2 :=
    ⟨HI3.out.kept hu8, HT5.out.2.2.kept hu8, HD6.out.1.kept hu8, OwnRows.upd HV.out.1 hu8 (fun _ _ h => h), HT5.out.2.1, HD6.out.2.1, HD6.out.2.2⟩
  have hS9 := hS8.kept ((Upd.refl (fun _ => False) w8).alloc (.cells (dA x) 40))
  have h10 : Blk (w8.alloc (.cells (dA x) 40)) w8.heap.size 40 (encB x.1) := Blk.new w8 _ _
  have h10s : w3.heap.size ≤ w8.heap.size := hS8.sz
  have HV2 := Lib.hid HV.out.2
  clear hbs hS8 HV hu8 HI3 HT5 HD6 H9
  generalize hW9 : w8.alloc (.cells (dA x) 40) = w9 at *
  obtain ⟨v11, w10, hbs, hB, hk7⟩ := run_bs1 1 w9
  change (sliceRow 32 1 #[(0, .int .u8 1)]).run Try.prog w9 = _ at hbs
  have HS := Lib.hid hS9
  have HB := Lib.hid (And.intro hB hk7)
  have H10 := Lib.hid (And.intro h10 h10s)
  clear hS9 hB hk7 h10 h10s
  go_wp2_with fail
  clear hbs hW9
  go_loopw [12, 11] (fun i v wr => ∃ k : Nat, k ≤ 32 ∧ i = .int .i64 k ∧ OwnB wr w9.heap.size v (1 :: x.1.take k) ∧ Kept w9 wr) (fun i _ _ => 32 - (intOf i).toNat)
  case atStart => exact ⟨0, by omega, rfl, HB.out.1, HB.out.2⟩
  case round =>
    obtain ⟨k, hk, rfl, hown, hu⟩ := hrel
    rcases Nat.lt_or_ge k 32 with hlt | hge
    · have hk' : (k : Int) < 32 := by omega
      have hkx : k < x.1.length := by rw [x.2]; exact hlt
      obtain ⟨c, hc⟩ : ∃ c, c = x.1[k] := ⟨_, rfl⟩
      have s1 : wr.cell? ⟨w8.heap.size, k, none⟩ = some (.int .u8 (c.toNat : Int)) := (H10.out.1.kept hu).cell (by rw [encB, List.getElem?_map, List.getElem?_eq_getElem hkx, ← hc]; rfl)
      have HC : Hid ((1 :: x.1.take (k + 1) : Bytes) = (1 :: x.1.take k) ++ [c]) := by show _ = _; rw [List.take_succ_eq_append_getElem hkx, ← hc]; rfl
      obtain ⟨v2, wr2, hbs, hB2, hk2⟩ := run_bs1 c wr
      obtain ⟨A2, c2, rfl, hc2, hb2⟩ := byt_one hB2
      have HR := Lib.hid (And.intro (hown.kept hk2) (And.intro hb2 (And.intro (show Kept w9 wr2 from hu.then hk2 fun _ _ h => h) (show (1 :: x.1.take k : Bytes).length ≤ 33 by rw [List.length_cons, List.length_take]; omega))))
      clear hown hu hB2 hk2 hb2 hc2 hc hkx
      go_wp2_with (at_builtin; refine wpList_append_bytes (R := [c]) rfl (.tmp 62) (.tmp 66) rfl rfl HR.out.1 A2 c2 rfl HR.out.2.1 (by have := HR.out.2.2.2; simp only [List.length_singleton]; omega) HR.out.2.2.1.size ?_; intro v' w3' hown hu3)
      go_roundw
      case rel =>
        refine ⟨k + 1, by omega, by show _ = _; go_num, by rw [HC.out]; exact hown, HR.out.2.2.1.then hu3 fun i hi e => ?_⟩
        have := (HR.out.1.far _ e).1
        omega
      case measure => simp [intOf]; omega
    · obtain rfl : k = 32 := by omega
      rw [show x.1.take 32 = x.1 from List.take_of_length_le (Nat.le_of_eq x.2), show (1 :: x.1 : Bytes) = upIn [x] by simp [upIn]] at hown
      have hS := HS.out.kept hu
      have h10 := H10.out.1.kept hu
      obtain ⟨A3, c3, rfl, hc3, hb3⟩ := hown.form
      obtain ⟨g8, c8, rfl, hg8, hg8l, t1', t2'⟩ := OwnRows.get dA_size hS.lev (k := 1) (by rw [HV2.out.1]; omega)
      have hgg := hS.gg
      have hgB := hS.gB
      have hg10 := H10.out.2
      have hl8 : l2.length = 2 := HV2.out.1
      have hl9 : 1 < l2.length := by omega
      simp only [hl8]
      have hlx : l2[1]? = some (upM shaM [x]) := HV2.out.2
      have hnot : ∀ k cs t', wr.heap[k]? = some (.cells cs t' (0, 0)) → t' ≠ 75 → w3.heap.size ≤ k → ¬ (Book3 b r q k ∨ (w2.heap.size ≤ k ∧ k < w3.heap.size)) := fun k cs t' h1 h2 h3 e => e.elim (fun e => hS.ink.book.not h1 h2 e) (fun e => by omega)
      have n6 := hnot g6 _ _ hS.dig (by decide) hgg
      have n10 := hnot w8.heap.size _ _ h10 (by decide) hg10
      have n8 : ¬ (Book3 b r q g8 ∨ (w2.heap.size ≤ g8 ∧ g8 < w3.heap.size)) := by
        obtain ⟨cur, h1⟩ := own_cells hS.lev (k := g8) rfl
        exact hnot g8 _ _ h1 (by decide) (Nat.le_trans hgB hg8)
      have f1 : ∀ W, Upd (fun k => Book3 b r q k ∨ (w2.heap.size ≤ k ∧ k < w3.heap.size)) wr W → segB W ⟨g6, 0, none⟩ 32 = true := fun W hW => (dig_at (hS.dig.upd hW n6)).1
      have f2 : ∀ W, Upd (fun k => Book3 b r q k ∨ (w2.heap.size ≤ k ∧ k < w3.heap.size)) wr W → segV W ⟨g6, 0, none⟩ 32 = dA x := fun W hW => (dig_at (hS.dig.upd hW n6)).2
      have f3 : ∀ W, Upd (fun k => Book3 b r q k ∨ (w2.heap.size ≤ k ∧ k < w3.heap.size)) wr W → segB W ⟨w8.heap.size, 0, none⟩ 32 = true := fun W hW => (dig_at (h10.upd hW n10)).1
      have f4 : ∀ W, Upd (fun k => Book3 b r q k ∨ (w2.heap.size ≤ k ∧ k < w3.heap.size)) wr W → segV W ⟨w8.heap.size, 0, none⟩ 32 = dA x := fun W hW => (dig_at (h10.upd hW n10)).2
      have f5 : ∀ W, Upd (fun k => Book3 b r q k ∨ (w2.heap.size ≤ k ∧ k < w3.heap.size)) wr W → segB W ⟨g8, 32, none⟩ 32 = true ∧ segV W ⟨g8, 32, none⟩ 32 = dA (upM shaM [x]) := fun W hW => by
        have := OwnD.seg (OwnRows.upd hS.lev hW (fun k e => by cases e; exact n8)) (k := 1) hl9
        rw [Nat.one_mul] at this
        have e2 : l2[1] = upM shaM [x] := by rw [List.getElem?_eq_getElem hl9] at hlx; exact Option.some.inj hlx
        rwa [e2] at this
      have f6 : ∀ W, Upd (fun k => Book3 b r q k ∨ (w2.heap.size ≤ k ∧ k < w3.heap.size)) wr W → segB W ⟨g8, 32, none⟩ 32 = true := fun W hW => (f5 W hW).1
      have f7 : ∀ W, Upd (fun k => Book3 b r q k ∨ (w2.heap.size ≤ k ∧ k < w3.heap.size)) wr W → segV W ⟨g8, 32, none⟩ 32 = dA (upM shaM [x]) := fun W hW => (f5 W hW).2
      have HZ := Lib.hid (And.intro hS (And.intro hc3 hb3))
      clear hS h10 hc3 hb3 hown hu hg8 hg8l t1' t2' hgg hgB hg10 hlx hnot n6 n10 n8 f5 HS HB H10 HV2
      go_wp2_with fail
      refine wp_region_ord [(0, true), (1, true), (2, true), (3, true), (4, true), (5, true), (6, true), (7, true), (8, true), (9, true), (10, true), (11, true), (12, true), (13, true), (14, true), (15, true), (16, true), (17, true), (18, true), (19, true), (20, true), (21, false), (22, true), (23, true), (24, true), (25, true), (26, false), (27, false), (28, true), (29, true), (30, true)] (by kernel_rfl) (by kernel_rfl) (Upd (fun k => Book3 b r q k ∨ (w2.heap.size ≤ k ∧ k < w3.heap.size)) wr) (Upd.refl _ _).drew ?_
      simp only [ordOps, List.getD_cons_zero, List.getD_cons_succ]
      iterate 21 (refine wpOrd_held (fun K hK => ?_); go_simp; first | (apply Exists.intro; refine ⟨fun W hW => ?_, hK _ ?_⟩; (go_simp; first | done | exact rfl); clear hK K) | (refine hK _ ?_; clear hK K))
      clear f1 f2 f3 f4 f6 f7
      have hSd : Upd (fun k => Book3 b r q k ∨ (w2.heap.size ≤ k ∧ k < w3.heap.size)) wr wr.drew := (Upd.refl _ _).drew
      have hkd : Kept wr wr.drew := (Upd.refl _ _).drew
      generalize wr.drew = wd at *
      refine wpOrd_step (fun K hK => ?_) hSd
      go_simp
      have hbd : Byt wd A3 (upIn [x]) := HZ.out.2.2.kept hkd
      have HG := sha_Of (R := upIn [x]) c3 hbd (by simp [upIn, x.2]) HZ.out.2.1
      refine HG.mono ?_
      clear HG hbd
      rintro e we ⟨rfl, hue⟩
      rw [show shaM (upIn [x]) = upM shaM [x] from rfl]
      have hSe : Upd (fun k => Book3 b r q k ∨ (w2.heap.size ≤ k ∧ k < w3.heap.size)) wr we := hSd.then hue (fun _ _ h => h.elim)
      obtain ⟨v7, wf, hbs, hBf, hkf⟩ := run_bs1 7 we
      change (sliceRow 32 1 #[(0, .int .u8 7)]).run Try.prog we = _ at hbs
      have hSf : Upd (fun k => Book3 b r q k ∨ (w2.heap.size ≤ k ∧ k < w3.heap.size)) wr wf := hSe.then hkf (fun _ _ h => h.elim)
      obtain ⟨A7, c7, rfl, hc7, hb7⟩ := byt_one hBf
      have HF := Lib.hid (And.intro ((HZ.out.1.kept hkd).kept hue |>.kept hkf) hb7)
      refine hK _ _ hSe ?_
      clear hK K hkd hue hBf hkf hc7 hb7 HZ hSd
      iterate 4 (refine wpOrd_held (fun K hK => ?_); go_simp; first | (apply Exists.intro; refine ⟨fun W hW => ?_, hK _ ?_⟩; (go_simp; first | done | exact rfl); clear hK K) | (refine hK _ ?_; clear hK K))
      refine wpOrd_step (fun K hK => ?_) hSe
      go_simp
      refine hK _ _ hSf ?_
      clear hK K
      refine wpOrd_step (fun K hK => ?_) hSf
      go_simp
      have HG := tree_Set HF.out.1.ink.book HF.out.1.tree (R := [7]) c7 HF.out.2 (by simp) 4 (by simp)
      refine HG.mono ?_
      rintro e wg ⟨rfl, _, hbg, hug⟩
      have hSg := hSf.trans hug
      have hIg := HF.out.1.ink.step hbg hug (fun k e => e.imp id (fun e => by have := HF.out.1.lo; omega))
      have HK := Lib.hid hIg.upd
      refine hK _ _ hSg ?_
      clear hK K HG hbg hug hIg hbs
      iterate 3 (refine wpOrd_held (fun K hK => ?_); go_simp; first | (apply Exists.intro; refine ⟨fun W hW => ?_, hK _ ?_⟩; (go_simp; first | done | exact rfl); clear hK K) | (refine hK _ ?_; clear hK K))
      refine wpOrd_nil ?_
      clear hSe hSf hSg HF
      go_wp2
      go_ret
      exact ⟨rfl, HK.out⟩
end Go.Proofs.Ytjimamgghkgdeaa
