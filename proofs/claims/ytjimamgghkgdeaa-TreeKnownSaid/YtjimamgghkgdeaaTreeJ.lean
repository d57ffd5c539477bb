/- tree: none, Depth, Leaves, Root, Level. -/
import Derived.Test.YtjimamgghkgdeaaTreeI
namespace Go.Proofs.Ytjimamgghkgdeaa
open Go.RowKit

theorem tree_none {w : World} {t b : Nat} (hc : w.cell? ⟨t, 0, none⟩ = some (.pointer (some ⟨b, 0, none⟩))) :
    Calls Try.prog 47 #[.pointer (some ⟨t, 0, none⟩)] w fun e w' => e = .returned (.bool false) ∧ w = w' := by
  go_enter Try.func47, Try.ntmps47
  go_wp2
  go_ret
  exact ⟨rfl, rfl⟩
/-- a tree that is none -/
def NoTree (w : World) (p : Option Addr) : Prop := p = none ∨ ∃ t, p = some ⟨t, 0, none⟩ ∧ w.cell? ⟨t, 0, none⟩ = some (.pointer none)
theorem NoTree.kept {w W : World} {p : Option Addr} (h : NoTree w p) (hu : Kept w W) : NoTree W p :=
  h.imp id fun ⟨t, h1, h2⟩ => ⟨t, h1, hu.cell h2 id⟩
theorem tree_none_no {w : World} {p : Option Addr} (h : NoTree w p) :
    Calls Try.prog 47 #[.pointer p] w fun e w' => e = .returned (.bool true) ∧ w = w' := by
  rcases h with rfl | ⟨t, rfl, hc⟩
  · go_enter Try.func47, Try.ntmps47
    go_wp2
    go_ret
    exact ⟨rfl, rfl⟩
  · go_enter Try.func47, Try.ntmps47
    go_wp2
    go_ret
    exact ⟨rfl, rfl⟩

section
variable {W : World} {lo hi t b n : Nat} {ls : List (List Dig)} {fv v : Value} {xs : List SlC}
theorem TreeI.len (h : TreeI W lo hi t b n ls fv v xs) : xs.length = ls.length := h.lev.len
theorem TreeI.form (h : TreeI W lo hi t b n ls fv v xs) : ∃ A c, v = .slice A ls.length c := by
  obtain ⟨A, c, hv⟩ := OwnRows.form h.all
  exact ⟨A, c, by rw [hv, h.len]⟩
/-- a level's cell, and the digests under it -/
theorem TreeI.get (h : TreeI W lo hi t b n ls fv v xs) {k : Nat} {l : List Dig} (hk : ls[k]? = some l) :
    ∃ g c g2 c2, v = .slice (some ⟨g, 0, none⟩) ls.length c ∧ W.cell? ⟨g, k, none⟩ = some (.slice (some ⟨g2, 0, none⟩) l.length c2) ∧ OwnD W lo (.slice (some ⟨g2, 0, none⟩) l.length c2) l ∧ l ≠ [] ∧ lo ≤ g ∧ g < hi ∧ lo ≤ g2 ∧ g2 < hi ∧ g ≠ g2 ∧ g ≠ t ∧ g2 ≠ t ∧ ∃ (hx : k < xs.length), xs[k] = ⟨some ⟨g2, 0, none⟩, l.length, c2⟩ := by
  obtain ⟨hk1, rfl⟩ := List.getElem?_eq_some_iff.1 hk
  have hk2 : k < xs.length := by rw [h.lev.len]; exact hk1
  obtain ⟨g, c, hv, hg1, hg2, s1, s2⟩ := OwnRows.get slA_size h.all hk2
  obtain ⟨ho, hne⟩ := h.lev.row k hk2 hk1
  obtain ⟨A, c2, hx, hcc, _⟩ := ho.digs
  have hne0 : 0 < (ls[k]).length := List.length_pos_iff.2 hne
  obtain ⟨g2, cap2, hx2, hb2, hlt2⟩ := World.ownsRow.form ho hne0
  have hcell : W.cell? ⟨g, k, none⟩ = some xs[k].v := by
    have hc := World.ownsRow.cells h.all (g := g) (by rw [hv]; rfl) k xs[k].v (by
      have := rowsOf_get slA_size xs k 0 hk2 (by omega)
      rw [Nat.mul_one, Nat.add_zero] at this
      rw [this]; rfl)
    rwa [add_none, Nat.zero_add] at hc
  have hob : v.ownBlock = some g := by rw [hv]; rfl
  have hob2 : xs[k].v.ownBlock = some g2 := by rw [hx2]; rfl
  obtain ⟨cur1, h1⟩ := own_cells h.all hob
  obtain ⟨cur2, h2⟩ := own_cells ho hob2
  have hbt := h.blk
  unfold Blk at hbt
  refine ⟨g, c, g2, cap2, by rw [hv, h.len], by rw [hcell, hx2], by rw [← hx2]; exact ho, hne, hg1, h.vhi g hob, hb2, h.xhi k hk2 g2 hob2, ?_, ?_, ?_, hk2, ?_⟩
  · rintro rfl; rw [h1] at h2; cases h2
  · rintro rfl; rw [h1] at hbt; cases hbt
  · rintro rfl; rw [h2] at hbt; cases hbt
  · generalize xs[k] = x at *
    obtain ⟨xA, xn, xc⟩ := x
    simp only [SlC.v, Value.slice.injEq] at hx2
    obtain ⟨rfl, rfl, rfl⟩ := hx2
    rfl
end

theorem tree_Depth {w : World} {lo hi t b : Nat} {D : List Dig} (h : TreeAt w lo hi t b D) :
    Calls Try.prog 18 #[.pointer (some ⟨t, 0, none⟩)] w fun e w' => e = .returned (.int .i64 (depthM D.length)) ∧ w = w' := by
  obtain ⟨fv, v, xs, h⟩ := h
  obtain ⟨A, c, hv⟩ := h.form
  rw [levelsM_depth _ rfl] at hv
  have c0 := h.blk.cell (k := 0) rfl
  have c6 := h.blk.cell (k := 6) rfl
  subst hv
  clear h
  go_enter Try.func18, Try.ntmps18
  go_wp2_with fail
  refine (tree_none c0).mono ?_
  rintro e W ⟨rfl, rfl⟩
  go_wp2
  go_ret
  exact ⟨rfl, rfl⟩
theorem tree_Leaves {w : World} {lo hi t b : Nat} {D : List Dig} (h : TreeAt w lo hi t b D) :
    Calls Try.prog 31 #[.pointer (some ⟨t, 0, none⟩)] w fun e w' => e = .returned (.int .i64 D.length) ∧ w = w' := by
  obtain ⟨fv, v, xs, h⟩ := h
  have c0 := h.blk.cell (k := 0) rfl
  have c1 := h.blk.cell (k := 1) rfl
  clear h
  go_enter Try.func31, Try.ntmps31
  go_wp2_with fail
  refine (tree_none c0).mono ?_
  rintro e W ⟨rfl, rfl⟩
  go_wp2
  go_ret
  exact ⟨rfl, rfl⟩
theorem tree_Depth_no {w : World} {p : Option Addr} (h : NoTree w p) :
    Calls Try.prog 18 #[.pointer p] w fun e w' => e = .returned (.int .i64 0) ∧ w = w' := by
  go_enter Try.func18, Try.ntmps18
  go_wp2_with fail
  refine (tree_none_no h).mono ?_
  rintro e W ⟨rfl, rfl⟩
  go_wp2
  go_ret
  exact ⟨rfl, rfl⟩
theorem tree_Leaves_no {w : World} {p : Option Addr} (h : NoTree w p) :
    Calls Try.prog 31 #[.pointer p] w fun e w' => e = .returned (.int .i64 0) ∧ w = w' := by
  go_enter Try.func31, Try.ntmps31
  go_wp2_with fail
  refine (tree_none_no h).mono ?_
  rintro e W ⟨rfl, rfl⟩
  go_wp2
  go_ret
  exact ⟨rfl, rfl⟩

theorem tree_Level_no {w : World} {p : Option Addr} (h : NoTree w p) (n : Int) :
    Calls Try.prog 17 #[.pointer p, .int .i64 n] w fun e w' => e = .returned (.tuple #[.slice none 0 0, .int .i64 1]) ∧ w = w' := by
  go_enter Try.func17, Try.ntmps17
  go_wp2_with fail
  refine (tree_none_no h).mono ?_
  rintro e W ⟨rfl, rfl⟩
  go_wp2
  go_ret2
  exact ⟨rfl, rfl⟩
theorem tree_Level_out {w : World} {lo hi t b : Nat} {D : List Dig} (h : TreeAt w lo hi t b D) (n : Int) (hn : n < 0 ∨ (depthM D.length : Int) ≤ n) :
    Calls Try.prog 17 #[.pointer (some ⟨t, 0, none⟩), .int .i64 n] w fun e w' => e = .returned (.tuple #[.slice none 0 0, .int .i64 9]) ∧ w = w' := by
  obtain ⟨fv, v, xs, h⟩ := h
  obtain ⟨A, c, hv⟩ := h.form
  rw [levelsM_depth _ rfl] at hv
  have c0 := h.blk.cell (k := 0) rfl
  have c6 := h.blk.cell (k := 6) rfl
  subst hv
  clear h
  by_cases h0 : n < 0
  · have d0 : decide (n < 0) = true := decide_eq_true h0
    clear hn h0
    go_enter Try.func17, Try.ntmps17
    go_wp2_with fail
    refine (tree_none c0).mono ?_
    rintro e W ⟨rfl, rfl⟩
    go_wp2
    go_ret2
    exact ⟨rfl, rfl⟩
  · have d0 : decide (n < 0) = false := decide_eq_false h0
    have d1 : decide ((depthM D.length : Int) ≤ n) = true := decide_eq_true (by omega)
    clear hn h0
    go_enter Try.func17, Try.ntmps17
    go_wp2_with fail
    refine (tree_none c0).mono ?_
    rintro e W ⟨rfl, rfl⟩
    go_wp2
    go_ret2
    exact ⟨rfl, rfl⟩
theorem tree_Level {w : World} {lo hi t b : Nat} {D : List Dig} (h : TreeAt w lo hi t b D) (n : Nat) {l : List Dig} (hn : (levelsM shaM D)[n]? = some l) (hl : l.length ≤ 1024) :
    Calls Try.prog 17 #[.pointer (some ⟨t, 0, none⟩), .int .i64 n] w fun e W => ∃ v, e = .returned (.tuple #[v, .int .i64 0]) ∧ OwnD W w.heap.size v l ∧ Kept w W := by
  obtain ⟨fv, v, xs, h⟩ := h
  obtain ⟨g, c, g2, c2, hv0, hc, ho, hne, -, -, -, -, -, -, -, hx, -⟩ := h.get hn
  rw [levelsM_depth _ rfl] at hv0
  subst hv0
  have c0 := h.blk.cell (k := 0) rfl
  have c6 := h.blk.cell (k := 6) rfl
  have hnl : n < depthM D.length := by rw [← levelsM_depth (H := shaM) _ rfl, ← h.len]; exact hx
  have d0 : decide ((n : Int) < 0) = false := decide_eq_false (by omega)
  have d1 : decide ((depthM D.length : Int) ≤ (n : Int)) = false := decide_eq_false (by omega)
  obtain ⟨A2, c3, hv, hcc, hdg⟩ := ho.digs
  simp only [Value.slice.injEq, true_and] at hv
  obtain ⟨rfl, rfl⟩ := hv
  have HX := Lib.hid (And.intro hdg (And.intro hne hl))
  clear h hdg ho hne hl
  have hni : (n : Int) < (depthM D.length : Int) := by omega
  go_enter Try.func17, Try.ntmps17
  go_wp2_with fail
  refine (tree_none c0).mono ?_
  rintro e W ⟨rfl, rfl⟩
  go_wp2_with fail
  refine (digs_Clone c2 HX.out.1 HX.out.2.1 HX.out.2.2).mono ?_
  rintro e W ⟨v, rfl, hv, hu⟩
  have HY := Lib.hid (And.intro hv hu)
  clear hv hu
  go_wp2
  go_ret2
  exact ⟨_, rfl, HY.out⟩
end Go.Proofs.Ytjimamgghkgdeaa
