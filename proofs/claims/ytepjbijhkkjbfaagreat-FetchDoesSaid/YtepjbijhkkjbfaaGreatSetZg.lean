import Derived.Test.YtepjbijhkkjbfaaGreatSetZf
import Derived.Test.YtepjbijhkkjbfaaGreatSetZe
import Derived.Test.YtepjbijhkkjbfaaGreatSetZa
import Derived.DeepKeys
set_option linter.unusedVariables false
set_option linter.unusedSimpArgs false
namespace Go.Proofs.YtepjbijhkkjbfaaGreat
open Go.RowKit
theorem tree_none {w : World} {t b : Nat} (hc : w.cell? ⟨t, 0, none⟩ = some (.pointer (some ⟨b, 0, none⟩))) :
    Calls Tryz.prog 54 #[.pointer (some ⟨t, 0, none⟩)] w fun e w' => e = .returned (.bool false) ∧ w = w' := by
  go_enter Tryz.func54, Tryz.ntmps54
  go_wp2
  go_ret
  exact ⟨rfl, rfl⟩
section
variable {W : World} {lo hi t b n : Nat} {ls : List (List Dig)} {fv v : Value} {xs : List SlC}
theorem TreeI.len (h : TreeI W lo hi t b n ls fv v xs) : xs.length = ls.length := h.lev.len
theorem TreeI.form (h : TreeI W lo hi t b n ls fv v xs) : ∃ A c, v = .slice A ls.length c := by
  obtain ⟨A, c, hv⟩ := OwnRows.form h.all; exact ⟨A, c, by rw [hv, h.len]⟩
theorem TreeI.get (h : TreeI W lo hi t b n ls fv v xs) {k : Nat} {l : List Dig} (hk : ls[k]? = some l) :
    ∃ g c g2 c2, v = .slice (some ⟨g, 0, none⟩) ls.length c ∧ W.cell? ⟨g, k, none⟩ = some (.slice (some ⟨g2, 0, none⟩) l.length c2) ∧ OwnD W lo (.slice (some ⟨g2, 0, none⟩) l.length c2) l ∧ l ≠ [] ∧ lo ≤ g ∧ g < hi ∧ lo ≤ g2 ∧ g2 < hi ∧ g ≠ g2 ∧ g ≠ t ∧ g2 ≠ t ∧ ∃ (hx : k < xs.length), xs[k] = ⟨some ⟨g2, 0, none⟩, l.length, c2⟩ := by
  obtain ⟨hk1, rfl⟩ := List.getElem?_eq_some_iff.1 hk; have hk2 : k < xs.length := by rw [h.lev.len]; exact hk1
  obtain ⟨g, c, hv, hg1, hg2, s1, s2⟩ := OwnRows.get slA_size h.all hk2; obtain ⟨ho, hne⟩ := h.lev.row k hk2 hk1; obtain ⟨A, c2, hx, hcc, _⟩ := ho.digs; have hne0 : 0 < (ls[k]).length := List.length_pos_iff.2 hne; obtain ⟨g2, cap2, hx2, hb2, hlt2⟩ := World.ownsRow.form ho hne0; have hcell : W.cell? ⟨g, k, none⟩ = some xs[k].v := by
    have hc := World.ownsRow.cells h.all (g := g) (by rw [hv]; rfl) k xs[k].v (by
      have := rowsOf_get slA_size xs k 0 hk2 (by omega); rw [Nat.mul_one, Nat.add_zero] at this; rw [this]; rfl)
    rwa [add_none, Nat.zero_add] at hc
  have hob : v.ownBlock = some g := by rw [hv]; rfl
  have hob2 : xs[k].v.ownBlock = some g2 := by rw [hx2]; rfl
  obtain ⟨cur1, h1⟩ := own_cells h.all hob; obtain ⟨cur2, h2⟩ := own_cells ho hob2; have hbt := h.blk; unfold Blk at hbt; refine ⟨g, c, g2, cap2, by rw [hv, h.len], by rw [hcell, hx2], by rw [← hx2]; exact ho, hne, hg1, h.vhi g hob, hb2, h.xhi k hk2 g2 hob2, ?_, ?_, ?_, hk2, ?_⟩
  · rintro rfl; rw [h1] at h2; cases h2
  · rintro rfl; rw [h1] at hbt; cases hbt
  · rintro rfl; rw [h2] at hbt; cases hbt
  · generalize xs[k] = x at *
    obtain ⟨xA, xn, xc⟩ := x; simp only [SlC.v, Value.slice.injEq] at hx2; obtain ⟨rfl, rfl, rfl⟩ := hx2
    rfl
end
theorem tree_Depth {w : World} {lo hi t b : Nat} {D : List Dig} (h : TreeAt w lo hi t b D) :
    Calls Tryz.prog 49 #[.pointer (some ⟨t, 0, none⟩)] w fun e w' => e = .returned (.int .i64 (depthM D.length)) ∧ w = w' := by
  obtain ⟨fv, v, xs, h⟩ := h; obtain ⟨A, c, hv⟩ := h.form; rw [levelsM_depth _ rfl] at hv; have c0 := h.blk.cell (k := 0) rfl; have c6 := h.blk.cell (k := 6) rfl; subst hv; clear h
  go_enter Tryz.func49, Tryz.ntmps49
  go_wp2_with fail; refine (tree_none c0).mono ?_; rintro e W ⟨rfl, rfl⟩; go_wp2
  go_ret
  exact ⟨rfl, rfl⟩
theorem tree_Level {w : World} {lo hi t b : Nat} {D : List Dig} (h : TreeAt w lo hi t b D) (n : Nat) {l : List Dig} (hn : (levelsM shaM D)[n]? = some l) (hl : l.length ≤ 1024) :
    Calls Tryz.prog 50 #[.pointer (some ⟨t, 0, none⟩), .int .i64 n] w fun e W => ∃ v, e = .returned (.tuple #[v, .int .i64 0]) ∧ OwnD W w.heap.size v l ∧ Kept w W := by
  obtain ⟨fv, v, xs, h⟩ := h; obtain ⟨g, c, g2, c2, hv0, hc, ho, hne, -, -, -, -, -, -, -, hx, -⟩ := h.get hn; rw [levelsM_depth _ rfl] at hv0; subst hv0; have c0 := h.blk.cell (k := 0) rfl; have c6 := h.blk.cell (k := 6) rfl; have hnl : n < depthM D.length := by rw [← levelsM_depth (H := shaM) _ rfl, ← h.len]; exact hx
  have d0 : decide ((n : Int) < 0) = false := decide_eq_false (by omega); have d1 : decide ((depthM D.length : Int) ≤ (n : Int)) = false := decide_eq_false (by omega); obtain ⟨A2, c3, hv, hcc, hdg⟩ := ho.digs; simp only [Value.slice.injEq, true_and] at hv; obtain ⟨rfl, rfl⟩ := hv; have HX := Lib.hid (And.intro hdg (And.intro hne hl)); clear h hdg ho hne hl; have hni : (n : Int) < (depthM D.length : Int) := by omega
  go_enter Tryz.func50, Tryz.ntmps50
  go_wp2_with fail; refine (tree_none c0).mono ?_; rintro e W ⟨rfl, rfl⟩; go_wp2_with fail; refine (digs_Clone c2 HX.out.1 HX.out.2.1 HX.out.2.2).mono ?_; rintro e W ⟨v, rfl, hv, hu⟩; have HY := Lib.hid (And.intro hv hu); clear hv hu; go_wp2
  go_ret2
  exact ⟨_, rfl, HY.out⟩
end Go.Proofs.YtepjbijhkkjbfaaGreat
namespace Go.Proofs.YtepjbijhkkjbfaaGreat
open Go.RowKit
theorem levelsM_le (n : Nat) : ∀ {l : List Dig}, l.length = n → ∀ x ∈ levelsM shaM l, x.length ≤ n := by
  induction n using Nat.strongRecOn with
  | ind n ih =>
    intro l hl x hx; rcases Nat.lt_or_ge 1 l.length with h | h
    · rw [levelsM_more h] at hx
      rcases List.mem_cons.1 hx with rfl | hx
      · omega
      · have h4 := up4_lt h
        have := ih (up4 l.length) (by omega) (aboveM_length l) x hx; omega
    · rw [levelsM_one h] at hx
      obtain rfl := List.mem_singleton.1 hx; omega
theorem depthM_le (n : Nat) : ∀ (l : List Dig), l.length = n → depthM n ≤ n + 1 := by
  induction n using Nat.strongRecOn with
  | ind n ih =>
    intro l hl; rw [depthM]
    split
    · rename_i h
      have h4 := up4_lt h; have := ih (up4 n) h4 (aboveM shaM l) (by rw [aboveM_length, hl]); omega
    · omega
theorem levelsM_top {D : List Dig} (h : D ≠ []) : ∃ m, depthM D.length = m + 1 ∧ (levelsM shaM D)[m]? = some [rootM shaM D] := by
  have h1 := levelsM_depth (H := shaM) _ (l := D) rfl; have h2 := rootM_last (H := shaM) h; have h3 := levelsM_ne (H := shaM) D; have h4 : 0 < (levelsM shaM D).length := List.length_pos_iff.2 h3; rw [List.getLast?_eq_getElem?] at h2; exact ⟨depthM D.length - 1, by omega, by rw [← h1]; exact h2⟩
theorem OwnD.seg {W : World} {B g n c : Nat} {D : List Dig} (h : OwnD W B (.slice (some ⟨g, 0, none⟩) n c) D) {k : Nat} (hk : k < D.length) : segB W ⟨g, k * 32, none⟩ 32 = true ∧ segV W ⟨g, k * 32, none⟩ 32 = dA D[k] := by
  obtain ⟨g1, c1, hv, _, _, h1, h2⟩ := OwnRows.get dA_size h hk; simp only [Value.slice.injEq, Option.some.injEq, Addr.mk.injEq] at hv; obtain ⟨⟨rfl, _⟩, _⟩ := hv; exact ⟨h1, h2⟩
set_option maxHeartbeats 2000000 in
set_option maxRecDepth 20000 in
theorem tree_Root {w : World} {lo hi t b : Nat} {D : List Dig} (h : TreeAt w lo hi t b D) :
    Calls Tryz.prog 33 #[.pointer (some ⟨t, 0, none⟩)] w fun e W => e = .returned (.tuple #[.agg (dA (rootM shaM D)), .int .i64 0]) ∧ Kept w W := by
  obtain ⟨fv, v, xs, h⟩ := h; have hne : D ≠ [] := by have := h.n1; intro h0; rw [h0] at this; simp at this
  obtain ⟨m, hm, hml⟩ := levelsM_top hne; have hmb : (m : Int) ≤ 1024 := by have := depthM_le _ D rfl; have := h.n2; omega
  obtain ⟨g, c, g2, c2, hv0, hc, ho, -, hg1, hg2, hg3, hg4, hg5, hg6, hg7, hx, -⟩ := h.get hml; rw [levelsM_depth _ rfl] at hv0; subst hv0; have c0 := h.blk.cell (k := 0) rfl; have c6 := h.blk.cell (k := 6) rfl; have hlt := Nat.lt_of_lt_of_le hg2 h.sz; have hlt2 := Nat.lt_of_lt_of_le hg4 h.sz; have hlt3 := Nat.lt_of_lt_of_le h.thi h.sz; rw [hm] at c6; simp only [List.length_singleton] at hc; clear h hne hml hx hm; generalize rootM shaM D = d at *; have hr1 : Blk (w.alloc (.cells (dA dig0) 23)) w.heap.size 23 (encB dig0.1) := Blk.new w _ _; have hk1 : Kept w (w.alloc (.cells (dA dig0) 23)) := (Upd.refl _ w).alloc _; generalize hW1 : w.alloc (.cells (dA dig0) 23) = w1 at *; have c0' := hk1.cell c0 id; have f1 : ∀ W, Upd (fun k => k = w.heap.size) w1 W → W.cell? ⟨t, 6, none⟩ = some (.slice (some ⟨g, 0, none⟩) (m + 1) c) := fun W hW => hW.cell (hk1.cell c6 id) (by show ¬ t = _; have := hg1; omega); have f2 : ∀ W, Upd (fun k => k = w.heap.size) w1 W → W.cell? ⟨g, m, none⟩ = some (.slice (some ⟨g2, 0, none⟩) 1 c2) := fun W hW => hW.cell (hk1.cell hc id) (by show ¬ g = _; omega); have hu2 : ∀ W, Upd (fun k => k = w.heap.size) w1 W → Upd (fun k => k = w.heap.size) w W := fun W hW => hk1.to.trans hW; have f3 : ∀ W, Upd (fun k => k = w.heap.size) w1 W → segB W ⟨g2, 0, none⟩ 32 = true ∧ segV W ⟨g2, 0, none⟩ 32 = dA d := fun W hW => by
    have := OwnD.seg (OwnRows.upd ho (hu2 W hW) (fun k e => by cases e; exact Nat.ne_of_lt hlt2)) (k := 0) (by simp)
    rwa [Nat.zero_mul, List.getElem_cons_zero] at this
  have f4 : ∀ W, Upd (fun k => k = w.heap.size) w1 W → segB W ⟨g2, 0, none⟩ 32 = true := fun W hW => (f3 W hW).1; have f5 : ∀ W, Upd (fun k => k = w.heap.size) w1 W → segV W ⟨g2, 0, none⟩ 32 = dA d := fun W hW => (f3 W hW).2; clear c0 c6 hc ho f3 hu2; have HX := Lib.hid (And.intro hr1 hk1); clear hr1 hk1; have hwm : IntKind.i64.wrap (m : Int) = m := by rw [IntKind.wrap_i64]; omega
  have hmi : (m : Int) < (m : Int) + 1 := by omega
  go_enter Tryz.func33, Tryz.ntmps33
  go_wp2_with fail; refine (tree_none c0').mono ?_; rintro e W ⟨rfl, rfl⟩; go_wp2_with fail; refine wp_region_ord [(0, true), (1, true), (2, true), (3, true), (4, true), (5, true), (6, true), (7, true), (8, true), (9, true), (10, true), (11, true), (12, true), (13, true), (14, false), (15, true)] (by kernel_rfl) (by kernel_rfl) (Upd (fun k => k = w.heap.size) w1) (Upd.refl _ w1).drew ?_; simp only [ordOps, List.getD_cons_zero, List.getD_cons_succ]
  iterate 14 (refine wpOrd_held (fun K hK => ?_); go_simp; first | (apply Exists.intro; refine ⟨fun W hW => ?_, hK _ ?_⟩; (go_simp; first | done | exact rfl); clear hK K) | (refine hK _ ?_; clear hK K))
  refine wpOrd_step (fun K hK => ?_) (Upd.refl _ w1).drew; obtain ⟨hr1, hk1⟩ := HX.out; have hrB := (dig_end d hr1.drew); obtain ⟨e1, e2, e3⟩ := hrB; have HY : Hid (Kept w (w1.drew.setRow w.heap.size (dA d)) ∧ segB (w1.drew.setRow w.heap.size (dA d)) ⟨w.heap.size, 0, none⟩ 32 = true ∧ segV (w1.drew.setRow w.heap.size (dA d)) ⟨w.heap.size, 0, none⟩ 32 = dA d) := ⟨Upd.setRow hk1.drew _ _ (fun h => absurd h (Nat.lt_irrefl _)), e2, e3⟩; have hS1 : Upd (fun k => k = w.heap.size) w1 (w1.drew.setRow w.heap.size (dA d)) := (Upd.refl _ w1).drew.setRow _ _ fun _ => rfl; clear hr1 hk1 e2 e3 HX; generalize w1.drew = w2 at *; go_simp; refine hK _ _ hS1 ?_; clear hK K
  iterate 1 (refine wpOrd_held (fun K hK => ?_); go_simp; first | (apply Exists.intro; refine ⟨fun W hW => ?_, hK _ ?_⟩; (go_simp; first | done | exact rfl); clear hK K) | (refine hK _ ?_; clear hK K))
  refine wpOrd_nil ?_; clear f1 f2 f4 f5; go_wp2; refine bodyPost_ret (v := .tuple #[.agg (dA d), .int .i64 0]) ?_ rfl ⟨rfl, HY.out.1⟩; rw [results_seg2 (P := Tryz.prog) (fn := Tryz.f33) (p := 2) (t := 3) (ty := 23) rfl _ _ ⟨w.heap.size, 0, none⟩ 32 _ (.int .i64 0) rfl rfl Tryz.underlying23 rfl sizeOf23 HY.out.2.1, HY.out.2.2]
end Go.Proofs.YtepjbijhkkjbfaaGreat
namespace Go.Proofs.YtepjbijhkkjbfaaGreat
open Go.RowKit
theorem rowsOf_set {α : Type} {f : α → Array Value} {n : Nat} (hf : ∀ x, (f x).size = n) (hn : 0 < n) (l : List α) (k : Nat) (x : α) (hk : k < l.length) : rowsOf f (l.set k x) = splice (rowsOf f l) (k * n) (f x).toList := by
  have hlen : k * n + n ≤ l.length * n := by rw [← Nat.succ_mul]; exact Nat.mul_le_mul_right n hk
  apply List.ext_getElem?; intro j; rw [splice_get _ _ _ _ (by rw [rowsOf_length hf, Array.length_toList, hf]; exact hlen), Array.length_toList, hf]
  by_cases hj : j < l.length * n
  · have hq : j / n < l.length := Nat.div_lt_of_lt_mul (by rwa [Nat.mul_comm] at hj)
    have hjm : j = (j / n) * n + j % n := by rw [Nat.mul_comm]; exact (Nat.div_add_mod j n).symm
    have hmod : j % n < n := Nat.mod_lt _ hn
    by_cases hkq : j / n = k
    · have hin : k * n ≤ j ∧ j < k * n + n := by rw [hkq] at hjm; omega
      rw [if_pos hin]; have h1 := rowsOf_get hf (l.set k x) k (j - k * n) (by simpa using hk) (by omega); rw [show k * n + (j - k * n) = j by omega] at h1; rw [h1]; simp
    · have hout : ¬ (k * n ≤ j ∧ j < k * n + n) := by
        rintro ⟨h1, h2⟩; apply hkq; exact Nat.div_eq_of_lt_le h1 (by rw [Nat.succ_mul]; exact h2)
      rw [if_neg hout]; have h1 := rowsOf_get hf (l.set k x) (j / n) (j % n) (by simpa using hq) hmod; have h2 := rowsOf_get hf l (j / n) (j % n) hq hmod; rw [← hjm] at h1 h2; rw [h1, h2, List.getElem_set_ne (fun e => hkq e.symm)]
  · rw [if_neg (by omega), List.getElem?_eq_none (by rw [rowsOf_length hf, List.length_set]; omega), List.getElem?_eq_none (by rw [rowsOf_length hf]; omega)]
theorem OwnRows.turn {α : Type} {f : α → Array Value} {n t B : Nat} {W : World} {v : Value} {l : List α} (hf : ∀ x, (f x).size = n) (hn : 0 < n) (h : OwnRows f n W B t v l) {k : Nat} (hk : k < l.length) (x : α) :
    ∃ g cur, v.ownBlock = some g ∧ Blk W g t cur ∧ k * n + n ≤ cur.length ∧ OwnRows f n (W.setRow g (splice cur (k * n) (f x).toList).toArray) B t v (l.set k x) := by
  have hlen : k * n + n ≤ l.length * n := by rw [← Nat.succ_mul]; exact Nat.mul_le_mul_right n hk
  rcases h.2 with ⟨_, h0⟩ | ⟨g, cap, cur, rfl, hb, hg, h1, h2, h3, h4⟩
  · omega
  · have hcap : l.length * n ≤ cap * n := Nat.mul_le_mul_right n h1
    refine ⟨g, cur.toList, rfl, hg, by rw [Array.length_toList, h3]; omega, by rw [List.length_set, rowsOf_length hf, List.length_set], .inr ⟨g, cap, (splice cur.toList (k * n) (f x).toList).toArray, by rw [List.length_set], hb, setRow_heap W g cur _ t _ hg, by rw [List.length_set]; exact h1, h2, ?_, ?_⟩⟩
    · simp only [splice, List.size_toArray, List.length_append, List.length_take, List.length_drop, Array.length_toList, hf, h3]; omega
    · rw [rowsOf_set hf hn l k x hk, ← h4, List.length_set]
      apply List.ext_getElem?; intro j; have hfx : (f x).toList.length = n := by rw [Array.length_toList, hf]
      have ht : (List.take (l.length * n) cur.toList).length = l.length * n := by rw [List.length_take, show cur.toList.length = cap * n from by rw [Array.length_toList, h3]]; omega
      rw [splice_get _ _ _ _ (by rw [ht, hfx]; exact hlen)]
      by_cases hj : j < l.length * n
      · rw [List.getElem?_take_of_lt hj, List.getElem?_take_of_lt hj]
        show (splice cur.toList (k * n) (f x).toList)[j]? = _; rw [splice_get _ _ _ _ (by rw [hfx, show cur.toList.length = cap * n from by rw [Array.length_toList, h3]]; omega)]
      · rw [List.getElem?_eq_none (by rw [List.length_take]; omega), if_neg (by rw [hfx]; omega), List.getElem?_eq_none (by rw [ht]; omega)]
theorem TreeI.turn {W : World} {lo hi t b n : Nat} {ls : List (List Dig)} {fv v : Value} {xs : List SlC} (h : TreeI W lo hi t b n ls fv v xs) {k : Nat} {l : List Dig} (hk : ls[k]? = some l) {g2 c2 : Nat} (hx : k < xs.length) (hxk : xs[k] = ⟨some ⟨g2, 0, none⟩, l.length, c2⟩)
    {i : Nat} (hi' : i < l.length) (d : Dig) :
    ∃ cur, Blk W g2 23 cur ∧ i * 32 + 32 ≤ cur.length ∧ TreeI (W.setRow g2 (splice cur (i * 32) (dA d).toList).toArray) lo hi t b n (ls.set k (l.set i d)) fv v xs := by
  obtain ⟨hk1, rfl⟩ := List.getElem?_eq_some_iff.1 hk; obtain ⟨ho, hne⟩ := h.lev.row k hx hk1; obtain ⟨g, cur, hg, hb, hc, ho2⟩ := OwnRows.turn dA_size (by omega) ho hi' d; have hg' : xs[k].v.ownBlock = some g2 := by rw [hxk]; rfl
  rw [hg] at hg'; obtain rfl : g = g2 := by simpa using hg'
  have hu : Upd (fun k => k = g) W (W.setRow g (splice cur (i * 32) (dA d).toList).toArray) := (Upd.refl _ W).setRow _ _ fun _ => rfl; have hobt : ∀ j t' vs, Blk W j t' vs → t' ≠ 23 → ¬ j = g := fun j t' vs hj ht e => by subst e; exact ht (Blk.ty hj hb)
  refine ⟨cur, hb, hc, h.blk.upd hu (hobt _ _ _ h.blk (by decide)), OwnRows.upd h.all hu (fun j e => ?_), ⟨by rw [List.length_set]; exact h.lev.len, fun j hj hj' => ?_, h.lev.apart⟩, h.vhi, h.xhi, h.tlo, h.thi, Nat.le_trans h.sz hu.size, h.n1, h.n2⟩
  · obtain ⟨cu, hc⟩ := own_cells h.all e
    exact hobt j _ cu.toList (by unfold Blk; simpa using hc) (by decide)
  · by_cases hjk : j = k
    · subst hjk
      rw [List.getElem_set_self]; exact ⟨ho2, by intro h0; have := congrArg List.length h0; simp at this; exact hne this⟩
    · rw [List.getElem_set_ne (fun e => hjk e.symm)]
      obtain ⟨h1, h2⟩ := h.lev.row j hj (by rwa [List.length_set] at hj'); exact ⟨OwnRows.upd h1 hu (fun i hi e => h.lev.apart j k hj hx hjk (by rw [hi, hg, show i = g from e])), h2⟩
theorem setM_more {l : List Dig} (h : 1 < l.length) (i : Nat) (d : Dig) : setM shaM (levelsM shaM l) i d = l.set i d :: setM shaM (levelsM shaM (aboveM shaM l)) (i / 4) (upM shaM (group (l.set i d) (i / 4))) := by
  rw [levelsM_more h]; cases hx : levelsM shaM (aboveM shaM l) with
  | nil => exact absurd hx (levelsM_ne _)
  | cons a l2 => rfl
theorem setIns_more {l : List Dig} (h : 1 < l.length) (i : Nat) (d : Dig) : setIns shaM (levelsM shaM l) i d = upIn (group (l.set i d) (i / 4)) :: setIns shaM (levelsM shaM (aboveM shaM l)) (i / 4) (upM shaM (group (l.set i d) (i / 4))) := by
  rw [levelsM_more h]; cases hx : levelsM shaM (aboveM shaM l) with
  | nil => exact absurd hx (levelsM_ne _)
  | cons a l2 => rfl
end Go.Proofs.YtepjbijhkkjbfaaGreat
namespace Go.Proofs.YtepjbijhkkjbfaaGreat
open Go.RowKit
theorem levelsM_head (l : List Dig) : ∃ tl, levelsM shaM l = l :: tl ∧ (1 < l.length → tl = levelsM shaM (aboveM shaM l)) ∧ (l.length ≤ 1 → tl = []) := by
  rcases Nat.lt_or_ge 1 l.length with h | h
  · exact ⟨_, levelsM_more h, fun _ => rfl, fun h2 => by omega⟩
  · exact ⟨_, levelsM_one h, fun h2 => by omega, fun _ => rfl⟩
theorem dig_at {W : World} {g : Nat} {d : Dig} (h : Blk W g 23 (encB d.1)) : segB W ⟨g, 0, none⟩ 32 = true ∧ segV W ⟨g, 0, none⟩ 32 = dA d :=
  h.seg 0 32 (encB d.1) (by rw [encB_length, d.2]) (fun j _ => by rw [Nat.zero_add])
structure SetI (W0 W : World) (lo hi t b r q n gd m : Nat) (L : List Bytes) (D : List Dig) (i0 : Nat) (d0 : Dig) (fv v : Value) (xs : List SlC) (k : Nat) (done rest : List (List Dig)) (i : Nat) (d : Dig) (N : List Bytes) : Prop where
  tr : TreeI W lo hi t b n (done ++ rest) fv v xs
  k : done.length = k
  m : (done ++ rest).length = m
  lv : setM shaM (levelsM shaM D) i0 d0 = done ++ setM shaM rest i d
  ins : setIns shaM (levelsM shaM D) i0 d0 = N ++ setIns shaM rest i d
  book : BookL W b r q (notesM L N)
  cell : Blk W gd 23 (encB d.1)
  upd : Upd (fun j => Book3 b r q j ∨ (lo ≤ j ∧ j < hi) ∨ j = gd) W0 W
set_option maxHeartbeats 1000000 in
set_option maxRecDepth 20000 in
theorem tree_Set {w : World} {lo hi t b r q : Nat} {L : List Bytes} {D : List Dig} (hb : BookL w b r q L) (h : TreeAt w lo hi t b D) {A : Option Addr} {R : Bytes} (c : Nat) (hR : Byt w A R) (hl : R.length < 65536) (i : Nat) (hi' : i < D.length) :
    Calls Tryz.prog 48 #[.pointer (some ⟨t, 0, none⟩), .int .i64 i, .slice A R.length c] w fun e W => e = .returned (.int .i64 0) ∧ TreeAt W lo hi t b (D.set i (leafM shaM R)) ∧ BookL W b r q (notesM (noteM L (leafIn R)) (setIns shaM (levelsM shaM D) i (leafM shaM R))) ∧ Upd (fun k => Book3 b r q k ∨ (lo ≤ k ∧ k < hi)) w W := by
  obtain ⟨fv, v, xs, h⟩ := h; have c0 := h.blk.cell (k := 0) rfl; have c1 := h.blk.cell (k := 1) rfl; have d0 : decide ((i : Int) < 0) = false := decide_eq_false (by omega); have d1 : decide (D.length ≤ i) = false := decide_eq_false (by omega); have HX := Lib.hid (And.intro hb (And.intro h (And.intro hR (And.intro hl hi')))); obtain ⟨n, hn⟩ : ∃ n, n = D.length := ⟨_, rfl⟩; rw [← hn] at c1 d1; have HN := Lib.hid hn; clear h hb hR hl hi' hn
  go_enter Tryz.func48, Tryz.ntmps48
  go_wp2_with fail; refine (tree_none c0).mono ?_; rintro e W ⟨rfl, rfl⟩; go_wp2_with fail; refine (tree_Leaf (R := R) HX.out.1 c HX.out.2.2.1 HX.out.2.2.2.1).mono ?_; rintro e w3 ⟨rfl, hb3, hu3⟩; obtain ⟨hb, h, -, -, hi'⟩ := HX.out; have h3 := h.book hb hu3; clear HX c0 c1 d0 d1; have hsz3 := hu3.size; have h4 := h3.kept ((Upd.refl (fun _ => False) w3).alloc (.cells (dA dig0) 23)); have hb4 := hb3.kept ((Upd.refl (fun _ => False) w3).alloc (.cells (dA dig0) 23)); have hu4 : Upd (Book3 b r q) w (w3.alloc (.cells (dA dig0) 23)) := hu3.alloc _; have hd4 : Blk (w3.alloc (.cells (dA dig0) 23)) w3.heap.size 23 (encB dig0.1) := Blk.new w3 _ _; generalize hW4 : w3.alloc (.cells (dA dig0) 23) = w4 at *; have hr4 := (dig_end (leafM shaM R) hd4).1; have hu5 : Upd (fun k => k = w3.heap.size) w4 (w4.setRow w3.heap.size (dA (leafM shaM R))) := (Upd.refl _ _).setRow _ _ fun _ => rfl; have hd5 : Blk (w4.setRow w3.heap.size (dA (leafM shaM R))) w3.heap.size 23 (encB (leafM shaM R).1) := hd4.setRow _; have hb5 := hb4.far hd4 (by decide) hu5; have hgd : hi ≤ w3.heap.size := Nat.le_trans h.sz hsz3; have h5 := h4.upd hu5 (fun k _ hk _ e => by have e2 : k = w3.heap.size := e; omega); have hS0 : SetI w (w4.setRow w3.heap.size (dA (leafM shaM R))) lo hi t b r q n w3.heap.size (levelsM shaM D).length (noteM L (leafIn R)) D i (leafM shaM R) fv v xs 0 [] (levelsM shaM D) i (leafM shaM R) [] :=
    ⟨by rw [HN.out]; exact h5, rfl, rfl, rfl, rfl, hb5, hd5, (hu4.mono fun _ _ e => .inl e).trans (hu5.mono fun _ _ e => .inr (.inr e))⟩
  have hlm : (levelsM shaM D).length ≤ 1025 := by rw [levelsM_depth _ rfl]; have := depthM_le _ D rfl; have := h.n2; omega
  have HY := Lib.hid (And.intro hS0 (And.intro hlm (And.intro hi' (And.intro h.n2 (And.intro hgd hsz3))))); obtain ⟨m, hm⟩ : ∃ m, m = (levelsM shaM D).length := ⟨_, rfl⟩; obtain ⟨Av, cv, hv⟩ := h5.form; have c5 := h5.blk.cell (k := 6) rfl; rw [hv, ← hm] at c5; rw [← hm] at HY hlm; have c5b := h5.blk.cell (k := 0) rfl; clear h h3 h4 hb hb3 hb4 hu3 hu4 hd4 hu5 hd5 hb5 h5 hi' hS0 hm; generalize hW5 : w4.setRow w3.heap.size (dA (leafM shaM R)) = w5 at *; go_wp2_with fail; obtain ⟨gd, hgde⟩ : ∃ gd, gd = w3.heap.size := ⟨_, rfl⟩; rw [← hgde] at HY ⊢; clear hW4 hW5 hgde c5 c5b; obtain ⟨L1, hL1⟩ : ∃ L1, L1 = noteM L (leafIn R) := ⟨_, rfl⟩; obtain ⟨dd, hdd⟩ : ∃ dd, dd = leafM shaM R := ⟨_, rfl⟩; rw [← hL1, ← hdd] at HY; have HL := Lib.hid (And.intro hL1 hdd); clear hL1 hdd
  go_loopw [1, 41] (fun u v1 wr => ∃ (k : Nat) (done rest : List (List Dig)) (j : Nat) (d : Dig) (N : List Bytes), u = .int .i64 j ∧ v1 = .int .i64 k ∧ SetI w wr lo hi t b r q n gd m L1 D i dd fv v xs k done rest j d N ∧ (rest = [] ∨ ∃ cur, rest = levelsM shaM cur ∧ j < cur.length ∧ cur.length ≤ 1024)) (fun _ v1 _ => 2000 - (intOf v1).toNat)
  case atStart => exact ⟨0, [], _, i, dd, [], rfl, rfl, HY.out.1, .inr ⟨D, rfl, HY.out.2.2.1, HY.out.2.2.2.1⟩⟩
  case round =>
    obtain ⟨k, done, rest, j, d, N, rfl, rfl, hs, hr⟩ := hrel; rcases hr with rfl | ⟨cur, rfl, hj, hcl⟩
    · have hkm : ¬ ((k : Int) < (m : Int)) := by have h1 := hs.k; have h2 := hs.m; simp at h2; omega
      have HS := Lib.hid hs; clear hs; have hfin : Hid (TreeAt wr lo hi t b (D.set i (leafM shaM R)) ∧ BookL wr b r q (notesM (noteM L (leafIn R)) (setIns shaM (levelsM shaM D) i (leafM shaM R))) ∧ Upd (fun k => Book3 b r q k ∨ (lo ≤ k ∧ k < hi)) w wr) := by
        have hs := HS.out; show _ ∧ _ ∧ _; rw [← HL.out.1, ← HL.out.2]; refine ⟨⟨fv, v, xs, ?_⟩, ?_, ?_⟩
        · rw [List.length_set, levelsM_set _ rfl HY.out.2.2.1, hs.lv, ← HN.out]
          have := hs.tr; simpa [setM] using this
        · rw [hs.ins]
          have := hs.book; simpa [setIns] using this
        · exact hs.upd.mono fun j hj e => by
            rcases e with e | e | e
            · exact .inl e
            · exact .inr e
            · have := HY.out.2.2.2.2.2; omega
      clear HS; go_wp2
      go_ret
      exact ⟨rfl, hfin.out⟩
    · obtain ⟨tl, htl, ht1, ht2⟩ := levelsM_head cur
      have hkm : (k : Int) < (m : Int) := by have h1 := hs.k; have h2 := hs.m; rw [htl] at h2; simp at h2; omega
      have hget : (done ++ levelsM shaM cur)[k]? = some cur := by rw [htl, List.getElem?_append_right (by rw [hs.k]; omega), hs.k]; simp
      have hsk : SetI w wr.drew lo hi t b r q n gd m L1 D i dd fv v xs k done (levelsM shaM cur) j d N :=
        ⟨hs.tr.kept (Upd.refl _ wr).drew, hs.k, hs.m, hs.lv, hs.ins, hs.book.kept (Upd.refl _ wr).drew, hs.cell.drew, hs.upd.drew⟩
      obtain ⟨g, c1, g2, c2, hv1, hc, ho, hne, hg1, hg2, hg3, hg4, hg5, hg6, hg7, hx, hxk⟩ := hsk.tr.get hget; obtain ⟨cs, hbl, hcs, htr⟩ := hsk.tr.turn hget hx hxk hj d; have c6 := hsk.tr.blk.cell (k := 6) rfl; rw [hv1, hsk.m] at c6; obtain ⟨s1, s2⟩ := dig_at hsk.cell; have hgdg : hi ≤ gd := HY.out.2.2.2.2.1; have f1 : ∀ W, Upd (fun k => k = g2) wr.drew W → W.cell? ⟨t, 6, none⟩ = some (.slice (some ⟨g, 0, none⟩) m c1) := fun W hW => hW.cell c6 (fun e => hg7 (Eq.symm e)); have f2 : ∀ W, Upd (fun k => k = g2) wr.drew W → W.cell? ⟨g, k, none⟩ = some (.slice (some ⟨g2, 0, none⟩) cur.length c2) := fun W hW => hW.cell hc (fun e => hg5 e); have f3 : ∀ W, Upd (fun k => k = g2) wr.drew W → segB W ⟨gd, 0, none⟩ 32 = true := fun W hW => (dig_at (hsk.cell.upd hW (by omega))).1; have f4 : ∀ W, Upd (fun k => k = g2) wr.drew W → segV W ⟨gd, 0, none⟩ 32 = dA d := fun W hW => (dig_at (hsk.cell.upd hW (by omega))).2; have hst := run_storeMid (P := Tryz.prog) hbl 23 32 (j * 32) sizeOf23 (dA d) (dA_size d) hcs (dA_one d); have hu2 : Upd (fun k => k = g2) wr.drew (wr.drew.setRow g2 (splice cs (j * 32) (dA d).toList).toArray) := (Upd.refl _ _).setRow _ _ fun _ => rfl; have hb2 := hsk.book.far hbl (by decide) hu2; have hd2 := hsk.cell.upd hu2 (by omega); have hup := hsk.upd.trans (hu2.mono fun k _ e => .inr (.inl (by have e2 : k = g2 := e; omega))); have hji : (j : Int) < (cur.length : Int) := by omega
      have hj0 : (j : Int) ≤ 1024 := by omega
      have hk0 : (k : Int) ≤ 1100 := by have := HY.out.2.1; omega
      have HS := Lib.hid (And.intro hs (And.intro hb2 (And.intro hd2 (And.intro hup (And.intro htr (And.intro hj (And.intro hcl (And.intro htl (And.intro ht1 (And.intro ht2 hgdg)))))))))); clear hs hb2 hd2 hup htr hj hcl htl ht1 ht2 hget hsk hc ho hne hg1 hg2 hg3 hg4 hg5 hg6 hg7 hx hxk hbl hcs c6 s1 s2 hgdg hv1; go_wp2_with fail; refine wp_region_ord [(0, true), (1, true), (2, true), (3, true), (4, true), (5, true), (6, true), (7, true), (8, true), (9, true), (10, false)] (by kernel_rfl) (by kernel_rfl) (Upd (fun k => k = g2) wr.drew) (Upd.refl _ _) ?_; simp only [ordOps, List.getD_cons_zero, List.getD_cons_succ]
      iterate 10 (refine wpOrd_held (fun K hK => ?_); go_simp; first | (apply Exists.intro; refine ⟨fun W hW => ?_, hK _ ?_⟩; (go_simp; first | done | exact rfl); clear hK K) | (refine hK _ ?_; clear hK K))
      generalize wr.drew = wd at *; refine wpOrd_step (fun K hK => ?_) (Upd.refl _ wd); go_simp; refine hK _ _ hu2 ?_; clear hK K; refine wpOrd_nil ?_; clear f1 f2 f3 f4 hst; generalize wd.setRow g2 (splice cs (j * 32) (dA d).toList).toArray = wb at *; obtain ⟨hs, hb2, hd2, hup, htr, hj, hcl, htl, ht1, ht2, hgdg⟩ := HS.out; have hkk := hs.k; have hmm := hs.m; have hls : (done ++ levelsM shaM cur).set k (cur.set j d) = (done ++ [cur.set j d]) ++ tl := by
        rw [htl, List.set_append_right _ _ (by omega), hkk, Nat.sub_self, List.set_cons_zero]; simp
      rw [hls] at htr; have hmt : done.length + 1 + tl.length = m := by rw [htl] at hmm; simp at hmm; omega
      obtain ⟨Av, cv', hv2⟩ := htr.form; have c6 := htr.blk.cell (k := 6) rfl; have hmm2 : ((done ++ [cur.set j d]) ++ tl).length = m := by simp; omega
      rw [hv2, hmm2] at c6; rcases Nat.lt_or_ge 1 cur.length with h1 | h1
      · have htl' := ht1 h1
        have hlm : 0 < tl.length := by rw [htl']; exact List.length_pos_iff.2 (levelsM_ne _)
        have hk1 : (k : Int) + 1 < (m : Int) := by omega
        have hgetb : ((done ++ [cur.set j d]) ++ tl)[k]? = some (cur.set j d) := by
          rw [List.append_assoc, List.getElem?_append_right (by omega), hkk, Nat.sub_self]; rfl
        obtain ⟨g', c1', g2', c2', hv', hc', ho', hne', hg1', hg2', hg3', hg4', hg5', hg6', hg7', hx', hxk'⟩ := htr.get hgetb; have c6b := htr.blk.cell (k := 6) rfl; rw [hv', hmm2] at c6b; have c0b := htr.blk.cell (k := 0) rfl; obtain ⟨A9, c9, hv9, hcc, hdg⟩ := ho'.digs; simp only [Value.slice.injEq, true_and] at hv9; obtain ⟨rfl, rfl⟩ := hv9; obtain ⟨cs1, hcs1⟩ := own_cells htr.all (k := g') (by rw [hv']; rfl); have hlen : (cur.set j d).length = cur.length := List.length_set; generalize hcu : cur.set j d = cur2 at *; obtain ⟨j4, hj4⟩ : ∃ j4, j4 = j / 4 := ⟨_, rfl⟩; have hq : (j : Int) / 4 = (j4 : Int) := by omega
        have hjq : 4 * j4 < cur2.length := by rw [hlen]; omega
        have hcl2 : cur2.length ≤ 100000 := by rw [hlen]; omega
        have hgl : 1 ≤ (group cur2 j4).length ∧ (group cur2 j4).length ≤ 4 := by rw [group_length]; omega
        have hup4 : j4 < (aboveM shaM cur).length ∧ (aboveM shaM cur).length ≤ 1024 := by rw [aboveM_length]; unfold up4; omega
        have hkk1 : (done ++ [cur2]).length = k + 1 := by simp [hkk]
        have HZ0 := Lib.hid (And.intro hjq (And.intro hcl2 (And.intro hgl (And.intro hup4 hkk1)))); clear hjq hcl2 hgl hup4 hkk1; have hT : ∀ W, Upd (fun i => Book3 b r q i ∨ i = gd) wb W → W.cell? ⟨t, 6, none⟩ = some (.slice (some ⟨g', 0, none⟩) m c1') := fun W hW => hW.cell c6b (fun e => e.elim (fun e => hb2.not htr.blk (by decide) e) (fun e => by have := htr.thi; have e2 : t = gd := e; omega)); have hT0 : ∀ W, Upd (fun i => Book3 b r q i ∨ i = gd) wb W → W.cell? ⟨t, 0, none⟩ = some (.pointer (some ⟨b, 0, none⟩)) := fun W hW => hW.cell c0b (fun e => e.elim (fun e => hb2.not htr.blk (by decide) e) (fun e => by have := htr.thi; have e2 : t = gd := e; omega)); have hTk : ∀ W, Upd (fun i => Book3 b r q i ∨ i = gd) wb W → W.cell? ⟨g', k, none⟩ = some (.slice (some ⟨g2', 0, none⟩) (cur2).length c2') := fun W hW => hW.cell hc' (fun e => e.elim (fun e => hb2.not hcs1 (by decide) e) (fun e => by have e2 : g' = gd := e; omega)); have HZ := Lib.hid (And.intro hs (And.intro hb2 (And.intro hd2 (And.intro hup (And.intro htr (And.intro hj (And.intro hcl (And.intro htl' (And.intro hgdg (And.intro hcc (And.intro hdg (And.intro hlen (And.intro hj4 (And.intro htl (And.intro hmm2 (And.intro hkk (And.intro h1 hcu))))))))))))))))); clear hs hb2 hd2 hup htr hj hcl htl' htl ht1 ht2 hgdg hcc hdg hlen hj4 hmm2 hls hmt hv2 hv' hc' ho' hne' hg1' hg2' hg3' hg4' hg5' hg6' hg7' hx' hxk' c6b c0b hcs1 hgetb hkk hmm h1 hlm HS; go_wp2_with fail; refine wp_region_ord [(0, true), (1, true), (2, true), (3, true), (4, true), (5, true), (6, true), (7, true), (8, true), (9, true), (10, true), (11, true), (12, false), (13, false), (14, true), (15, true), (16, true), (17, false)] (by kernel_rfl) (by kernel_rfl) (Upd (fun i => Book3 b r q i ∨ i = gd) wb) (Upd.refl _ wb).drew ?_; simp only [ordOps, List.getD_cons_zero, List.getD_cons_succ]
        iterate 12 (refine wpOrd_held (fun K hK => ?_); go_simp; first | (apply Exists.intro; refine ⟨fun W hW => ?_, hK _ ?_⟩; (go_simp; first | done | exact rfl); clear hK K) | (refine hK _ ?_; clear hK K))
        clear hT hT0 hTk; have hwd : Kept wb wb.drew := (Upd.refl _ wb).drew; have hSd : Upd (fun i => Book3 b r q i ∨ i = gd) wb wb.drew := (Upd.refl _ wb).drew; generalize wb.drew = we at *; refine wpOrd_step (fun K hK => ?_) hSd; go_simp; have hcc := HZ.out.2.2.2.2.2.2.2.2.2.1; have hx1 := HZ0.out.1; have hx2 := HZ0.out.2.1; have HG := tree_group (w := we) (A := some ⟨g2', 0, none⟩) (D := cur2) c2' j4 hcc hx1 hx2; obtain ⟨A8, hA8⟩ : ∃ A8 : Option Addr, A8 = (some (⟨g2', 0, none⟩ : Addr)).map (·.add ((4 * j4) * 32)) := ⟨_, rfl⟩; rw [← hA8] at HG; have HD8 : Hid (Digs we A8 (group cur2 j4)) := by
          rw [hA8]; exact Digs.part (HZ.out.2.2.2.2.2.2.2.2.2.2.1.kept hwd) (4 * j4) 4
        refine HG.mono ?_; clear HG hcc hx1 hx2 hA8; rintro e W ⟨rfl, rfl⟩; refine hK _ _ hSd ?_; clear hK K; refine wpOrd_step (fun K hK => ?_) hSd; go_simp; obtain ⟨hs, hb2, hd2, hup, htr, hj, hcl, htl', hgdg, hcc, hdg, hlen, hj4, htl, hmm2, hkk, h1, hcu⟩ := HZ.out; have hgl := HZ0.out.2.2.1; have HU := tree_Up (hb2.kept hwd) (c2' - 4 * j4) HD8.out hgl.1 hgl.2; refine HU.mono ?_; clear HU; rintro e wf ⟨rfl, hbf, huf⟩; have hSf : Upd (fun i => Book3 b r q i ∨ i = gd) wb wf := hSd.trans (huf.mono fun _ _ e => .inl e); have hdf := (hd2.kept hwd).upd huf ((hb2.kept hwd).not (hd2.kept hwd) (by decide)); have htf := (htr.kept hwd).book (hb2.kept hwd) huf; obtain ⟨X, hX⟩ : ∃ X, X = upM shaM (group (cur2) j4) := ⟨_, rfl⟩; rw [← hX]; have hrB : rowB wf gd 32 = true := rowB_of (show wf.heap[gd]? = some (.cells (encB d.1).toArray 23 (0, 0)) from hdf) (by simp [encB_length, d.2]); have hug : Upd (fun i => i = gd) wf (wf.setRow gd (dA X)) := (Upd.refl _ _).setRow _ _ fun _ => rfl; have hdg2 : Blk (wf.setRow gd (dA X)) gd 23 (encB X.1) := hdf.setRow _; have hbg := hbf.far hdf (by decide) hug; have htg := htf.upd hug (fun i _ hi _ e => by have e2 : i = gd := e; omega); have hSg : Upd (fun i => Book3 b r q i ∨ i = gd) wb (wf.setRow gd (dA X)) := hSf.trans (hug.mono fun _ _ e => .inr e); have HT : Hid (SetI w (wf.setRow gd (dA X)) lo hi t b r q n gd m L1 D i dd fv v xs (k + 1) (done ++ [cur2]) tl j4 X (N ++ [upIn (group (cur2) j4)]) ∧ (tl = [] ∨ ∃ cur', tl = levelsM shaM cur' ∧ j4 < cur'.length ∧ cur'.length ≤ 1024)) := by
          refine ⟨⟨htg, HZ0.out.2.2.2.2, hmm2, ?_, ?_, ?_, hdg2, hup.then hSg (fun _ _ e => e.elim .inl (fun e => .inr (.inr e)))⟩, .inr ⟨aboveM shaM cur, htl', HZ0.out.2.2.2.1.1, HZ0.out.2.2.2.1.2⟩⟩
          · rw [hs.lv, setM_more h1, htl', hX, hj4, ← hcu]; simp
          · rw [hs.ins, setIns_more h1, htl', hX, hj4, ← hcu]; simp
          · rw [notesM_append]; exact hbg
        refine hK _ _ hSf ?_; clear hK K hs hb2 hd2 hup htr hj hcl htl' hgdg hcc hdg hlen hj4 htl hmm2 hkk h1 hX hcu hdf htf hug hdg2 hbg htg huf hbf HZ hgl hwd hSd HZ0
        iterate 3 (refine wpOrd_held (fun K hK => ?_); go_simp; first | (apply Exists.intro; refine ⟨fun W hW => ?_, hK _ ?_⟩; (go_simp; first | done | exact rfl); clear hK K) | (refine hK _ ?_; clear hK K))
        refine wpOrd_step (fun K hK => ?_) hSf; go_simp; refine hK _ _ hSg ?_; clear hK K; refine wpOrd_nil ?_; clear hSf hSg; generalize wf.setRow gd (dA X) = wg at *; go_wp2
        go_roundw
        case rel => exact ⟨k + 1, _, tl, j4, X, _, rfl, by show _ = _; go_num, HT.out.1, HT.out.2⟩
        case measure => simp [intOf]; omega
      · have htl' := ht2 h1
        have hk1 : ¬ (k : Int) + 1 < (m : Int) := by rw [htl'] at hmt; simp at hmt; omega
        have HT : Hid (SetI w wb lo hi t b r q n gd m L1 D i dd fv v xs (k + 1) (done ++ [cur.set j d]) [] j d N) := by
          rw [htl'] at htr hmm2; refine ⟨htr, by simp [hkk], hmm2, ?_, ?_, hb2, hd2, hup⟩
          · rw [hs.lv, htl, htl']; simp [setM]
          · rw [hs.ins, htl, htl']; simp [setIns]
        clear hs hb2 hd2 hup htr hj hcl htl ht1 ht2 hgdg htl'; go_wp2
        go_roundw
        case rel => exact ⟨k + 1, _, [], j, d, N, rfl, by show _ = _; go_num, HT.out, .inl rfl⟩
        case measure => simp [intOf]; omega
end Go.Proofs.YtepjbijhkkjbfaaGreat
namespace Go.Proofs.YtepjbijhkkjbfaaGreat
open Go.RowKit
end Go.Proofs.YtepjbijhkkjbfaaGreat
namespace Go.Proofs.YtepjbijhkkjbfaaGreat
open Go.RowKit
section
variable {P : Program} {k : TypeId} {κ : Type} [DecidableEq κ] {ok : κ → Prop} {enc : κ → Value}
theorem run_equal_enc (K : KeyEnc P k ok enc) {m : Nat} (hm : m ≤ 10000) (hk : P.keyTypeAt m k = true) (hwide : (match P.underlying k with | some (.array _ _) | some (.struct _) => true | _ => false) = true)
    {x y : κ} (hx : ok x) (hy : ok y) (W : World) : (Op.equal k (enc x) (enc y)).run P W = .ok (decide (x = y)) W := by
  obtain ⟨lx, hlx⟩ := K.key x hx; obtain ⟨ly, hly⟩ := K.key y hy; obtain ⟨r, hr, hiff⟩ := run_equal_deep (P := P) W hm hk hwide hlx hly; rw [hr]
  congr 1
  rw [Bool.eq_iff_iff, hiff, decide_eq_true_eq]; constructor
  · rintro rfl
    exact K.inj x y hx hy (K.law.inj hlx hly)
  · rintro rfl
    rw [hlx] at hly; exact Option.some.inj hly
theorem run_eqRow (K : KeyEnc P k ok enc) {m : Nat} (hm : m ≤ 10000) (hk : P.keyTypeAt m k = true) (hwide : (match P.underlying k with | some (.array _ _) | some (.struct _) => true | _ => false) = true)
    (hg : P.eqGuardType P.depth k = false) (cs : κ → Array Value) (henc : ∀ x, enc x = .agg (cs x)) {x y : κ} (hx : ok x) (hy : ok y) (xo yo : Operand) (W : World) :
    (eqRow .eql k xo yo (.agg (cs x)) (.agg (cs y))).run P W = .ok (.value (.bool (decide (x = y)))) W := by
  have h := run_equal_enc K hm hk hwide hx hy W; rw [henc, henc] at h; simp only [eqRow, Sem.run_bind, run_eqGuard_agg W .eql k xo yo (cs x) (cs y) hg, Result.andThen_ok, run_eql_struct, Sem.run_pure]; rw [show (Op.equalIn 10000 k (Value.agg (cs x)) (Value.agg (cs y))).run P W = _ from h]
  rfl
theorem run_neRow (K : KeyEnc P k ok enc) {m : Nat} (hm : m ≤ 10000) (hk : P.keyTypeAt m k = true) (hwide : (match P.underlying k with | some (.array _ _) | some (.struct _) => true | _ => false) = true)
    (hg : P.eqGuardType P.depth k = false) (cs : κ → Array Value) (henc : ∀ x, enc x = .agg (cs x)) {x y : κ} (hx : ok x) (hy : ok y) (xo yo : Operand) (W : World) :
    (eqRow .neq k xo yo (.agg (cs x)) (.agg (cs y))).run P W = .ok (.value (.bool (!decide (x = y)))) W := by
  have h := run_equal_enc K hm hk hwide hx hy W; rw [henc, henc] at h; simp only [eqRow, Sem.run_bind, run_eqGuard_agg W .neq k xo yo (cs x) (cs y) hg, Result.andThen_ok, run_neq_struct, Sem.run_pure]; rw [show (Op.equalIn 10000 k (Value.agg (cs x)) (Value.agg (cs y))).run P W = _ from h]
  rfl
end
end Go.Proofs.YtepjbijhkkjbfaaGreat
namespace Go.Proofs.YtepjbijhkkjbfaaGreat
open Go.RowKit
theorem encD_eq (d : Dig) : encD d = .agg (dA d) := rfl
@[go_sem] theorem run_eq_dig (x y : Dig) (xo yo : Operand) (W : World) : (eqRow .eql 23 xo yo (.agg (dA x)) (.agg (dA y))).run Tryz.prog W = .ok (.value (.bool (decide (x = y)))) W :=
  run_eqRow dig_enc (m := 4) (by omega) (by kernel_rfl) (by rw [Tryz.underlying23]) (by kernel_rfl) dA encD_eq trivial trivial xo yo W
@[go_sem] theorem run_ne_dig (x y : Dig) (xo yo : Operand) (W : World) : (eqRow .neq 23 xo yo (.agg (dA x)) (.agg (dA y))).run Tryz.prog W = .ok (.value (.bool (!decide (x = y)))) W :=
  run_neRow dig_enc (m := 4) (by omega) (by kernel_rfl) (by rw [Tryz.underlying23]) (by kernel_rfl) dA encD_eq trivial trivial xo yo W
end Go.Proofs.YtepjbijhkkjbfaaGreat
namespace Go.Proofs.YtepjbijhkkjbfaaGreat
open Go.RowKit
structure Ink0 (w W : World) (b r q : Nat) (L : List Bytes) : Prop where
  book : BookL W b r q L
  upd : Kept w W
  far : ∀ k, Book3 b r q k → w.heap.size ≤ k
section
variable {w W W' : World} {b r q : Nat} {L L' : List Bytes} {S : Nat → Prop}
theorem Ink0.step (h : Ink0 w W b r q L) (hb : BookL W' b r q L') (hu : Upd S W W') (hs : ∀ k, S k → Book3 b r q k ∨ w.heap.size ≤ k) : Ink0 w W' b r q L' :=
  ⟨hb, h.upd.then hu (fun k hk e => (hs k e).elim (fun e => by have := h.far k e; omega) (fun e => by omega)), h.far⟩
theorem Ink0.to (h : Ink0 w W b r q L) (hb : BookL W' b r q L') (hu : Upd (Book3 b r q) W W') : Ink0 w W' b r q L' := h.step hb hu fun _ e => .inl e
theorem Ink0.kept (h : Ink0 w W b r q L) (hu : Kept W W') : Ink0 w W' b r q L := h.step (h.book.kept hu) hu fun _ e => e.elim
end
theorem law_book (w : World) : Calls Tryz.prog 6 #[] w fun e W => ∃ b r q, e = .returned (.pointer (some ⟨b, 0, none⟩)) ∧ Ink0 w W b r q [] := by
  refine (ink_New w).mono ?_; rintro e W ⟨rfl, h, hu⟩; exact ⟨_, _, _, rfl, ⟨⟨_, _, _, h⟩, hu, by rintro k (rfl | rfl | rfl) <;> omega⟩⟩
theorem depthM1 : depthM 1 = 1 := by rw [depthM, dif_neg (by omega)]
theorem depthM_up (n m d : Nat) (h1 : 1 < n) (hm : up4 n = m) (hd : depthM m = d) : depthM n = 1 + d := by rw [depthM, dif_pos h1, hm, hd]
theorem depthM2 : depthM 2 = 2 := depthM_up 2 1 1 (by omega) rfl depthM1
theorem byt_one {W : World} {B : Nat} {v : Value} {c : UInt8} (h : OwnB W B v [c]) : ∃ A k, v = .slice A 1 k ∧ 1 ≤ k ∧ Byt W A [c] := by
  obtain ⟨A, k, rfl, hk, hb⟩ := h.form; exact ⟨A, k, rfl, hk, hb⟩
end Go.Proofs.YtepjbijhkkjbfaaGreat
namespace Go.Proofs.YtepjbijhkkjbfaaGreat
open Go.ChangeShapes Go.WideShapes Go.ChangeAt Go.RowKit
theorem list_of {α : Type} {p : Nat → α → Prop} (n : Nat) (h : ∀ i, i < n → ∃ x, p i x) : ∃ l : List α, l.length = n ∧ ∀ i (hi : i < l.length), p i l[i] := by
  induction n with
  | zero => exact ⟨[], rfl, fun i hi => absurd hi (Nat.not_lt_zero i)⟩
  | succ n ih =>
    obtain ⟨l, hl, hp⟩ := ih fun i hi => h i (by omega); obtain ⟨x, hx⟩ := h n (by omega); refine ⟨l ++ [x], by simp [hl], fun i hi => ?_⟩
    by_cases h2 : i < l.length
    · rw [List.getElem_append_left h2]; exact hp i h2
    · have h3 : i = n := by simp at hi; omega
      subst h3; have e : (l ++ [x])[i]'hi = x := by simp [hl]
      rw [e]; exact hx
theorem byte_of {n : Int} (h : (Lit.int .u8 n).wf = true) : ∃ c : UInt8, n = (c.toNat : Int) := by
  have h2 : 0 ≤ n ∧ n ≤ 255 := by simpa [Lit.wf, IntKind.min, IntKind.max, IntKind.signed, IntKind.bits] using h
  refine ⟨UInt8.ofNat n.toNat, ?_⟩; have : (UInt8.ofNat n.toNat).toNat = n.toNat % 256 := by simp
  rw [this]; omega
def LeafAt (W : World) (x : SlC) (R : Bytes) : Prop := Byt W x.A R ∧ x.n = R.length ∧ R.length ≤ x.c
theorem LeafAt.kept {W W' : World} {x : SlC} {R : Bytes} (h : LeafAt W x R) (hu : Kept W W') : LeafAt W' x R := ⟨h.1.kept hu, h.2⟩
theorem LeafAt.form {W : World} {x : SlC} {R : Bytes} (h : LeafAt W x R) : ∃ A c, x = ⟨A, R.length, c⟩ ∧ R.length ≤ c ∧ Byt W A R := by
  obtain ⟨A, n, c⟩ := x; obtain ⟨h1, h2, h3⟩ := h; simp only at h1 h2 h3; subst h2; exact ⟨A, c, rfl, h3, h1⟩
theorem SlC.v_eq (x : SlC) : x.v = .slice x.A x.n x.c := rfl
section
variable {H : Type} {enc : TypeId × Value → H} {W : World}
theorem u8_bytes : Tryz.prog.bytesOf 5 = 1 := by kernel_rfl
theorem bs_cells : Tryz.prog.cellsOf 42 = 1 := by kernel_rfl
theorem open_bytes {cs : List Value} (h : ReadsAs enc Tryz.prog W 42 cs) : ∃ x R, cs = [SlC.v x] ∧ LeafAt W x R ∧ R.length ≤ 140737488351232 := by
  obtain ⟨A, n, c, rfl, hle, hmax, hb, hi⟩ := h.slice Tryz.underlying42 u8_cells (by omega); have hx : ∀ i, i < n → ∃ u : UInt8, ∃ b off, A = some ⟨b, off, none⟩ ∧ W.cell? ⟨b, off + i, none⟩ = some (.int .u8 (u.toNat : Int)) := by
    intro i hin; obtain ⟨b, off, cs', hA, hl', hcell, hr⟩ := hi i hin; obtain ⟨x, rfl, wx⟩ := hr.int Tryz.underlying5; obtain ⟨u, rfl⟩ := byte_of wx; exact ⟨u, b, off, hA, by simpa using hcell 0 (by omega)⟩
  obtain ⟨R, hRl, hR⟩ := list_of n hx; subst hRl; refine ⟨⟨A, R.length, c⟩, R, rfl, ⟨?_, rfl, hle⟩, by rw [u8_bytes] at hb; unfold reachBytes at hb; omega⟩; rcases Nat.eq_zero_or_pos R.length with h0 | h0
  · exact .inl (List.eq_nil_of_length_eq_zero h0)
  · obtain ⟨b, off, rfl, _⟩ := hR 0 h0
    refine .inr ⟨b, off, rfl, fun j v hv => ?_⟩; rw [encB, List.getElem?_map] at hv; obtain ⟨u, hu, rfl⟩ := Option.map_eq_some_iff.1 hv; obtain ⟨hj, rfl⟩ := List.getElem?_eq_some_iff.1 hu; obtain ⟨b', off', hA, hc⟩ := hR j hj; simp only [Option.some.injEq, Addr.mk.injEq, and_true] at hA; obtain ⟨rfl, rfl⟩ := hA; exact hc
theorem open_dig {cs : List Value} (h : ReadsAs enc Tryz.prog W 23 cs) : ∃ d : Dig, cs = encB d.1 := by
  obtain ⟨hl, hi⟩ := h.array Tryz.underlying23 u8_cells; rw [dig_cells] at hl; have hx : ∀ i, i < 32 → ∃ u : UInt8, cs[i]? = some (.int .u8 (u.toNat : Int)) := by
    intro i hin; obtain ⟨x, hc, wx⟩ := (hi i hin).int Tryz.underlying5; obtain ⟨u, rfl⟩ := byte_of wx; refine ⟨u, ?_⟩; have := congrArg (·[0]?) hc; simpa using this
  obtain ⟨R, hRl, hR⟩ := list_of 32 hx; refine ⟨⟨R, hRl⟩, List.ext_getElem? fun j => ?_⟩
  by_cases hj : j < R.length
  · rw [hR j hj, encB, List.getElem?_map, List.getElem?_eq_getElem hj]; rfl
  · rw [List.getElem?_eq_none (by omega), List.getElem?_eq_none (by rw [encB_length]; show R.length ≤ j; omega)]
theorem open_digs {cs : List Value} (h : ReadsAs enc Tryz.prog W 45 cs) : ∃ A c D, cs = [.slice A (List.length D) c] ∧ Digs W A D ∧ D.length ≤ c := by
  obtain ⟨A, n, c, rfl, hle, hmax, hb, hi⟩ := h.slice Tryz.underlying45 dig_cells (by omega); have hx : ∀ i, i < n → ∃ d : Dig, ∃ b off, A = some ⟨b, off, none⟩ ∧ ∀ j, j < 32 → W.cell? ⟨b, off + i * 32 + j, none⟩ = (encB d.1)[j]? := by
    intro i hin; obtain ⟨b, off, cs', hA, hl', hcell, hr⟩ := hi i hin; obtain ⟨d, rfl⟩ := open_dig hr; exact ⟨d, b, off, hA, hcell⟩
  obtain ⟨D, hDl, hD⟩ := list_of n hx; subst hDl; refine ⟨A, c, D, rfl, ?_, hle⟩; rcases Nat.eq_zero_or_pos D.length with h0 | h0
  · left; rw [List.eq_nil_of_length_eq_zero h0]; rfl
  · obtain ⟨b, off, rfl, _⟩ := hD 0 h0
    refine .inr ⟨b, off, rfl, fun j v hv => ?_⟩; have hj : j < D.length * 32 := by have := (List.getElem?_eq_some_iff.1 hv).1; rwa [encB_length, flatD_length] at this
    have hq : j / 32 < D.length := Nat.div_lt_of_lt_mul (by rwa [Nat.mul_comm] at hj); have hjm : j = (j / 32) * 32 + j % 32 := by omega
    have hmod : j % 32 < 32 := Nat.mod_lt _ (by omega); obtain ⟨b', off', hA, hc⟩ := hD (j / 32) hq; simp only [Option.some.injEq, Addr.mk.injEq, and_true] at hA; obtain ⟨rfl, rfl⟩ := hA; have h2 := hc (j % 32) hmod; rw [Nat.add_assoc, ← hjm] at h2; rw [h2]; rw [← rowsOf_dA, hjm, rowsOf_get dA_size D (j / 32) (j % 32) hq hmod] at hv; simpa [dA] using hv
def LeavesAt (W : World) (A : Option Addr) (l : List (SlC × Bytes)) : Prop := ∀ i (hi : i < l.length), ∃ b off, A = some ⟨b, off, none⟩ ∧ W.cell? ⟨b, off + i, none⟩ = some (SlC.v l[i].1) ∧ LeafAt W l[i].1 l[i].2 ∧ l[i].2.length ≤ 140737488351232
theorem LeavesAt.kept {W W' : World} {A : Option Addr} {l : List (SlC × Bytes)} (h : LeavesAt W A l) (hu : Kept W W') : LeavesAt W' A l := fun i hi => by
  obtain ⟨b, off, h1, h2, h3, h4⟩ := h i hi; exact ⟨b, off, h1, hu.cell h2 id, h3.kept hu, h4⟩
theorem int_cells : Tryz.prog.cellsOf 3 = 1 := by kernel_rfl
end
theorem own_form {W : World} {B : Nat} {v : Value} {l : List Dig} (h : OwnD W B v l) (hl : l ≠ []) : ∃ g c, v = .slice (some ⟨g, 0, none⟩) l.length c ∧ B ≤ g ∧ g < W.heap.size := by
  obtain ⟨g, c, rfl, h1, h2⟩ := World.ownsRow.form h (List.length_pos_iff.2 hl); exact ⟨g, c, rfl, h1, h2⟩
end Go.Proofs.YtepjbijhkkjbfaaGreat
namespace Go.Proofs.YtepjbijhkkjbfaaGreat
open Go.RowKit
attribute [local irreducible] wpOrd
def leafD (l : List (SlC × Bytes)) : List Dig := l.map fun p => leafM shaM p.2
def leafI (l : List (SlC × Bytes)) : List Bytes := l.map fun p => leafIn p.2
theorem leafD_length (l : List (SlC × Bytes)) : (leafD l).length = l.length := by simp [leafD]
theorem LeavesAt.get {W : World} {A : Option Addr} {l : List (SlC × Bytes)} (h : LeavesAt W A l) {k : Nat} (hk : k < l.length) : ∃ b off A2 c2, A = some ⟨b, off, none⟩ ∧ W.cell? ⟨b, off + k, none⟩ = some (.slice A2 (l[k].2.length) c2) ∧ Byt W A2 l[k].2 ∧ l[k].2.length ≤ c2 := by
  obtain ⟨b, off, h1, h2, h3, _⟩ := h k hk; obtain ⟨A2, c2, hx, hc, hb⟩ := h3.form; rw [hx, SlC.v_eq] at h2; exact ⟨b, off, A2, c2, h1, h2, hb, hc⟩
set_option maxHeartbeats 800000 in
set_option maxRecDepth 20000 in
theorem tree_Leaf_long {w : World} {p A : Option Addr} {n : Nat} (c : Nat) (hn : 65536 ≤ n) :
    Calls Tryz.prog 24 #[.pointer p, .slice A n c] w fun e W => e = .returned (.tuple #[.agg (dA dig0), .int .i64 5]) ∧ Kept w W := by
  have hr1 : Blk (w.alloc (.cells (dA dig0) 23)) w.heap.size 23 (encB dig0.1) := Blk.new w _ _; have hk1 : Kept w (w.alloc (.cells (dA dig0) 23)) := (Upd.refl _ w).alloc _; generalize hW1 : w.alloc (.cells (dA dig0) 23) = w1 at *; obtain ⟨hrb, hs1, hs2⟩ := dig_end dig0 hr1; have HF : Hid (Kept w (w1.setRow w.heap.size (dA dig0)) ∧ segB (w1.setRow w.heap.size (dA dig0)) ⟨w.heap.size, 0, none⟩ 32 = true ∧ segV (w1.setRow w.heap.size (dA dig0)) ⟨w.heap.size, 0, none⟩ 32 = dA dig0) := ⟨Upd.setRow hk1 _ _ (fun h => absurd h (Nat.lt_irrefl _)), hs1, hs2⟩; clear hr1 hk1 hs1 hs2; have hd1 : decide ((65536 : Int) ≤ (n : Int)) = true := by rw [decide_eq_true_iff]; omega
  have hd2 : decide (65536 ≤ n) = true := by rw [decide_eq_true_iff]; omega
  clear hn
  go_enter Tryz.func24, Tryz.ntmps24
  go_wp2; refine bodyPost_ret (v := .tuple #[.agg (dA dig0), .int .i64 5]) ?_ rfl ⟨rfl, HF.out.1⟩; rw [results_seg2 (P := Tryz.prog) (fn := Tryz.f24) (p := 4) (t := 5) (ty := 23) rfl _ _ ⟨w.heap.size, 0, none⟩ 32 _ (.int .i64 5) rfl rfl Tryz.underlying23 rfl sizeOf23 HF.out.2.1, HF.out.2.2]
end Go.Proofs.YtepjbijhkkjbfaaGreat
namespace Go.Proofs.YtepjbijhkkjbfaaGreat
open Go.RowKit
attribute [local irreducible] wpOrd
theorem Byt.get {W : World} {A : Option Addr} {R : Bytes} (h : Byt W A R) {k : Nat} (hk : k < R.length) : ∃ b off, A = some ⟨b, off, none⟩ ∧ W.cell? ⟨b, off + k, none⟩ = some (.int .u8 (R[k].toNat : Int)) := by
  rcases h with rfl | ⟨b, off, rfl, h⟩
  · simp at hk
  · exact ⟨b, off, rfl, h k _ (by rw [encB, List.getElem?_map, List.getElem?_eq_getElem hk]; rfl)⟩
theorem u8_inj {a b : UInt8} (h : (a.toNat : Int) = (b.toNat : Int)) : a = b := by
  have : a.toNat = b.toNat := by omega
  exact UInt8.toNat_inj.1 this
set_option maxHeartbeats 800000 in
set_option maxRecDepth 20000 in
theorem ref_EqBytes {w : World} {A A2 : Option Addr} {R R2 : Bytes} (c c2 : Nat) (h1 : Byt w A R) (h2 : Byt w A2 R2) (l1 : R.length ≤ 100000) (_l2 : R2.length ≤ 100000) :
    Calls Tryz.prog 18 #[.slice A R.length c, .slice A2 R2.length c2] w fun e W => e = .returned (.bool (decide (R = R2))) ∧ Kept w W := by
  have HX := Lib.hid (And.intro h1 h2); clear h1 h2
  by_cases hll : R.length = R2.length
  · have HL := Lib.hid (And.intro hll l1)
    rw [← hll]; clear hll l1
    go_enter Tryz.func18, Tryz.ntmps18
    go_wp2_with fail
    go_loopw [5] (fun u1 wr => ∃ k : Nat, k ≤ R.length ∧ u1 = .int .i64 k ∧ R.take k = R2.take k ∧ Kept w wr) (fun u1 _ => 200000 - (intOf u1).toNat)
    case atStart => exact ⟨0, Nat.zero_le _, rfl, by trivial, Upd.refl _ _⟩
    case round =>
      obtain ⟨k, hk, rfl, he, hu⟩ := hrel; rcases Nat.lt_or_ge k R.length with hlt | hge
      · have hlt2 : k < R2.length := by have := HL.out.1; omega
        have hk' : (k : Int) < (R.length : Int) := by omega
        have hw : IntKind.i64.wrap ((k : Int) + 1) = ((k + 1 : Nat) : Int) := by rw [IntKind.wrap_i64]; have := HL.out.2; omega
        obtain ⟨b, off, rfl, hc⟩ := (HX.out.1.kept hu).get hlt; obtain ⟨b2, off2, rfl, hc2⟩ := (HX.out.2.kept hu).get hlt2; have HS := Lib.hid (show R[k] = R2[k] → R.take (k + 1) = R2.take (k + 1) from fun e => by rw [List.take_succ_eq_append_getElem hlt, List.take_succ_eq_append_getElem hlt2, he, e]); have HN := Lib.hid (show R[k] ≠ R2[k] → R ≠ R2 from fun e e2 => e (by subst e2; rfl)); have f1 : ∀ W, Kept wr W → W.cell? ⟨b, off + k, none⟩ = some (.int .u8 (R[k].toNat : Int)) := fun W hW => hW.cell hc id; have f2 : ∀ W, Kept wr W → W.cell? ⟨b2, off2 + k, none⟩ = some (.int .u8 (R2[k].toNat : Int)) := fun W hW => hW.cell hc2 id; generalize R[k] = x at *; generalize R2[k] = y at *; have HK := Lib.hid (And.intro hlt (show Kept w wr.drew from hu.drew)); have hud : Kept wr wr.drew := (Upd.refl _ wr).drew; clear he hc hc2 hlt hlt2 hk hu
        by_cases hxy : x = y
        · subst hxy
          go_wp2_with fail; refine wp_region_ord [(0, true), (1, true), (2, true), (3, true), (4, true), (5, true), (6, true), (7, true), (8, true)] (by kernel_rfl) (by kernel_rfl) (Kept wr) hud ?_; simp only [ordOps, List.getD_cons_zero, List.getD_cons_succ]
          iterate 9 (refine wpOrd_held (fun K hK => ?_); go_simp; first | (apply Exists.intro; refine ⟨fun W hW => ?_, hK _ ?_⟩; (go_simp; first | done | exact rfl); clear hK K) | (refine hK _ ?_; clear hK K))
          refine wpOrd_nil ?_; clear f1 f2 hud; go_wp2
          go_roundw
          case rel => exact ⟨k + 1, by have := HK.out.1; omega, by show _ = _; go_num, HS.out (by trivial), HK.out.2⟩
          case measure => have := HK.out.1; have := HL.out.2; simp [intOf]; omega
        · have hne : ¬ ((x.toNat : Int) = (y.toNat : Int)) := fun e => hxy (u8_inj e)
          have hne2 : ¬ (x.toNat = y.toNat) := fun e => hne (by rw [e]); have hd : decide (R = R2) = false := decide_eq_false (HN.out hxy); have HD := Lib.hid hd; clear hxy hd; go_wp2_with fail; refine wp_region_ord [(0, true), (1, true), (2, true), (3, true), (4, true), (5, true), (6, true), (7, true), (8, true)] (by kernel_rfl) (by kernel_rfl) (Kept wr) hud ?_; simp only [ordOps, List.getD_cons_zero, List.getD_cons_succ]
          iterate 9 (refine wpOrd_held (fun K hK => ?_); go_simp; first | (apply Exists.intro; refine ⟨fun W hW => ?_, hK _ ?_⟩; (go_simp; first | done | exact rfl); clear hK K) | (refine hK _ ?_; clear hK K))
          refine wpOrd_nil ?_; clear f1 f2 hud; go_wp2
          go_ret
          exact ⟨by rw [HD.out]; rfl, HK.out.2⟩
      · obtain rfl : k = R.length := by omega
        have hk' : ¬ ((R.length : Int) < (R.length : Int)) := by omega
        have hd : decide (R = R2) = true := decide_eq_true (by
          have h3 : R2.take R.length = R2 := by rw [HL.out.1, List.take_length]
          rwa [List.take_length, h3] at he)
        have HD := Lib.hid (And.intro hd hu); clear hd hu he hk hge; go_wp2
        go_ret
        exact ⟨by rw [HD.out.1]; rfl, HD.out.2⟩
  · have hd : decide (R = R2) = false := decide_eq_false (fun e => hll (by rw [e]))
    have hne : ¬ ((R.length : Int) = (R2.length : Int)) := by omega
    have HD := Lib.hid hd; clear hd HX
    go_enter Tryz.func18, Tryz.ntmps18
    go_wp2
    go_ret
    exact ⟨by rw [HD.out]; rfl, Upd.refl _ _⟩
theorem bs_info : (Tryz.prog.info? 42).map (fun i => (i.size, i.bytes, i.zero)) = some (1, 24, some (.slice none 0 0)) := by kernel_rfl
theorem bs_rows : RowType Tryz.prog slA 1 24 42 24 where
  size := slA_size
  one := slA_one
  slice := Tryz.underlying24
  info := ⟨.slice none 0 0, bs_info, by simp [Value.cells]⟩
  pos := by omega
@[go_sem ↓] theorem exec_one_bsl (ρ : Operand → Value) (dst : Option Tmp) (parts : Array (Nat × Operand)) (ty : TypeId) (pos : String) (after : Array Edge) (guard : Option (Nat × Bool)) :
    execOp ρ ⟨dst, .buildSlice 24 1 parts, ty, pos, after, guard⟩ = sliceRow 24 1 (parts.map fun (i, x) => (i, ρ x)) := rfl
@[go_sem] theorem run_one_bsl (A : Option Addr) (n c : Nat) (W : World) : (sliceRow 24 1 #[(0, .slice A n c)]).run Tryz.prog W = .ok (.value (.slice (some ⟨W.heap.size, 0, none⟩) 1 1)) (W.alloc (.cells (slA ⟨A, n, c⟩) 42)) := by
  obtain ⟨i, hi, h2⟩ := Option.map_eq_some_iff.1 bs_info; simp only [Prod.mk.injEq] at h2; have h := run_buildSlice (P := Tryz.prog) W 24 42 1 #[(0, .slice A n c)] (slA ⟨A, n, c⟩) i (.slice none 0 0) Tryz.underlying24 hi h2.2.2 (by rw [h2.1]; omega) (by rw [h2.1]; decide) (by
    rw [h2.1]; have h0 : Array.range (1 * 1) = #[0] := by decide
    rw [h0]; simp [Instr.fill, Value.cells, slA])
  simp [sliceRow, h, Result.andThen]
abbrev OwnS (W : World) (B : Nat) (v : Value) (xs : List SlC) : Prop := OwnRows slA 1 W B 42 v xs
theorem OwnS.cell {W : World} {B : Nat} {v : Value} {xs : List SlC} (h : OwnS W B v xs) {k : Nat} (hk : k < xs.length) : ∃ g c, v = .slice (some ⟨g, 0, none⟩) xs.length c ∧ B ≤ g ∧ g < W.heap.size ∧ W.cell? ⟨g, k, none⟩ = some xs[k].v := by
  obtain ⟨g, c, hv, hg1, hg2, _⟩ := OwnRows.get slA_size h hk; refine ⟨g, c, hv, hg1, hg2, ?_⟩; have hc := World.ownsRow.cells h (g := g) (by rw [hv]; rfl) k xs[k].v (by
    have := rowsOf_get slA_size xs k 0 hk (by omega); rw [Nat.mul_one, Nat.add_zero] at this; rw [this]; rfl)
  rwa [add_none, Nat.zero_add] at hc
theorem OwnS.leaves {W : World} {B : Nat} {A : Option Addr} {n c : Nat} {l : List (SlC × Bytes)} (h : OwnS W B (.slice A n c) (l.map (·.1))) (hl : ∀ p ∈ l, LeafAt W p.1 p.2 ∧ p.2.length ≤ 140737488351232) : LeavesAt W A l := by
  intro i hi; obtain ⟨g, c2, hv, _, _, hc⟩ := h.cell (k := i) (by simpa using hi); simp only [Value.slice.injEq] at hv; obtain ⟨rfl, _, _⟩ := hv; refine ⟨g, 0, rfl, ?_, hl _ (List.getElem_mem hi)⟩; rw [Nat.zero_add, hc]; simp
end Go.Proofs.YtepjbijhkkjbfaaGreat
namespace Go.Proofs.YtepjbijhkkjbfaaGreat
open Go.RowKit
theorem ink_map_none (w : World) : (binOp .eql 71 (.map none) (.map none)).run Tryz.prog w = .ok (.bool true) w :=
  run_eql_map_nil w _ _ _ none Tryz.underlying71
attribute [local go_sem] ink_map_none
end Go.Proofs.YtepjbijhkkjbfaaGreat
namespace Go.Proofs.YtepjbijhkkjbfaaGreat
theorem up4_one {n : Nat} (h1 : 1 ≤ n) : (n = 1 ↔ depthM n = 1) := by
  constructor
  · rintro rfl; exact (by rw [depthM, dif_neg (by omega)])
  · intro h
    rcases Nat.lt_or_ge 1 n with h2 | h2
    · rw [depthM, dif_pos h2] at h
      have : 1 ≤ depthM (up4 n) := by rw [depthM]; split <;> omega
      omega
    · omega
theorem depthM_more {n : Nat} (h : 1 < n) : depthM n = 1 + depthM (up4 n) := by rw [depthM, dif_pos h]
theorem depthM_one : depthM 1 = 1 := by rw [depthM, dif_neg (by omega)]
theorem up4_pos' {n : Nat} (h : 1 ≤ n) : 1 ≤ up4 n := by unfold up4; omega
theorem up4_lt' {n : Nat} (h : 1 < n) : up4 n < n := by unfold up4; omega
theorem place_up {n i : Nat} (h : i < n) : i / 4 < up4 n := by unfold up4; omega
end Go.Proofs.YtepjbijhkkjbfaaGreat
namespace Go.Proofs.YtepjbijhkkjbfaaGreat
def InsIn (L : List Bytes) (D : List Dig) : Prop := ∀ r ∈ insM shaM D, r ∈ L
theorem InsIn.more {L L' : List Bytes} {D : List Dig} (h : InsIn L D) (hs : ∀ r ∈ L, r ∈ L') : InsIn L' D := fun r hr => hs r (h r hr)
theorem InsIn.new (L : List Bytes) (D : List Dig) : InsIn (notesM L (insM shaM D)) D := fun _ hr => mem_notesM.2 (.inr hr)
theorem InsIn.set {L : List Bytes} {D : List Dig} (h : InsIn L D) {i : Nat} (hi : i < D.length) (x : Bytes) (d : Dig) : InsIn (notesM (noteM L x) (setIns shaM (levelsM shaM D) i d)) (D.set i d) := fun r hr => by
  rcases insM_set (H := shaM) _ rfl hi r hr with h1 | h1
  · exact mem_notesM.2 (.inr h1)
  · exact mem_notesM.2 (.inl (mem_noteM.2 (.inl (h r h1))))
def six : List Bytes := [[1], [2], [3], [4], [5], [6]]
theorem depthM6 : depthM 6 = 3 := depthM_up 6 2 2 (by omega) rfl depthM2
end Go.Proofs.YtepjbijhkkjbfaaGreat
