import Derived.Test.YtepjbijhkkjbfaaGreatSetZq
import Derived.Test.YtepjbijhkkjbfaaGreatSetZg
set_option linter.unusedVariables false
set_option linter.unusedSimpArgs false
namespace Go.Proofs.YtepjbijhkkjbfaaGreat
open Go.RowKit
variable {Tu : Nat → Prop}
attribute [local irreducible] wpOrd
set_option maxHeartbeats 1000000 in
set_option maxRecDepth 20000 in
theorem fetch_Begin_arg {w : World} {p : Option Addr} (root : Dig) (n : Int) (A : Option Addr) (m c : Nat) (h : n < 1 ∨ 1024 < n ∨ 0 < m ∧ (m : Int) ≠ n) :
    Calls Tryz.prog 5 #[.pointer p, .agg (dA root), .int .i64 n, .slice A m c] w fun e W => e = .returned (.tuple #[.pointer none, .int .i64 2]) ∧ Kept w W := by
  have k1 : Kept w (w.alloc (.cells (dA root) 23)) := (Upd.refl _ w).alloc _; have HK := Lib.hid k1; clear k1
  by_cases h0 : n < 1
  · have d0 : decide (n < 1) = true := decide_eq_true h0
    clear h h0
    go_enter Tryz.func5, Tryz.ntmps5
    go_wp2
    go_ret2
    exact ⟨rfl, HK.out⟩
  · have d0 : decide (n < 1) = false := decide_eq_false h0
    by_cases h1 : 1024 < n
    · have d1 : decide (1024 < n) = true := decide_eq_true h1
      clear h h0 h1
      go_enter Tryz.func5, Tryz.ntmps5
      go_wp2
      go_ret2
      exact ⟨rfl, HK.out⟩
    · have d1 : decide (1024 < n) = false := decide_eq_false h1
      have h2 : 0 < m ∧ (m : Int) ≠ n := by rcases h with h | h | h; exact absurd h h0; exact absurd h h1; exact h
      have d2 : decide ((0 : Int) < (m : Int)) = true := decide_eq_true (by omega); have d2n : decide (0 < m) = true := decide_eq_true (by omega); have d3 : ((m : Int) != n) = true := by simpa using h2.2
      clear h h0 h1 h2
      go_enter Tryz.func5, Tryz.ntmps5
      go_wp2
      go_ret2
      exact ⟨rfl, HK.out⟩
section
variable {w : World} {p A : Option Addr} {l : List (SlC × Bytes)}
set_option maxHeartbeats 1000000 in
set_option maxRecDepth 20000 in
theorem fetch_Begin_long (root : Dig) (n : Nat) (h1 : 1 ≤ n) (h2 : n ≤ 1024) (c : Nat) (hn : l.length = n) (hL : LeavesAt w A l) (hl : longB l = true) :
    Calls Tryz.prog 5 #[.pointer p, .agg (dA root), .int .i64 (n : Int), .slice A l.length c] w fun e W => e = .returned (.tuple #[.pointer none, .int .i64 5]) ∧ Kept w W := by
  have k1 : Kept w (w.alloc (.cells (dA root) 23)) := (Upd.refl _ w).alloc _; have HK := Lib.hid k1; have HG := beg_contains c (h := fun i hi => by
    obtain ⟨b, off, e1, e2, e3, e4⟩ := hL i hi; exact ⟨b, off, e1, k1.cell e2 id, (Quiet.nil w).leaf e3 k1, e4⟩) (hl := by omega)
  rw [hl, hn] at HG; rw [hn]; unfold begF at HG; have d0 : decide ((n : Int) < 1) = false := decide_eq_false (by omega); have d0n : decide (n < 1) = false := decide_eq_false (by omega); have d1 : decide ((1024 : Int) < (n : Int)) = false := decide_eq_false (by omega); have d1n : decide (1024 < n) = false := decide_eq_false (by omega); have d2 : decide ((0 : Int) < (n : Int)) = true := decide_eq_true (by omega); have d2n : decide (0 < n) = true := decide_eq_true (by omega); clear h1 h2 k1 hL hl hn
  go_enter Tryz.func5, Tryz.ntmps5
  go_wp2_with fail; refine HG.mono ?_; clear HG; rintro e W ⟨rfl, rfl⟩; go_wp2
  go_ret2
  exact ⟨rfl, HK.out⟩
end
end Go.Proofs.YtepjbijhkkjbfaaGreat
namespace Go.Proofs.YtepjbijhkkjbfaaGreat
open Go.RowKit
variable {Tu : Nat → Prop}
attribute [local irreducible] wpOrd
def begS (n : Nat) (O : Option (List Bytes)) (root : Dig) : KM × BM := learnM n O (depthM n - 1) 0 root (fun _ _ => none, fun _ => none)
section
variable {w : World} {b r q : Nat} {L : List Bytes} {A : Option Addr} {l : List (SlC × Bytes)}
set_option maxHeartbeats 4000000 in
set_option maxRecDepth 20000 in
theorem fetch_Begin0 (hb : BookL w b r q L) (root : Dig) (n : Nat) (h1 : 1 ≤ n) (h2 : n ≤ 1024) (c : Nat) :
    Calls Tryz.prog 5 #[.pointer (some ⟨b, 0, none⟩), .agg (dA root), .int .i64 (n : Int), .slice A 0 c] w fun e W => ∃ f, e = .returned (.tuple #[.pointer (some ⟨f, 0, none⟩), .int .i64 0]) ∧ (∃ B m1 m2 gs cs hv ov, w.heap.size ≤ B ∧ FetI (fun j => j < w.heap.size) W B f m1 m2 b r q n root none (begS n none root) gs cs hv ov) ∧ (∃ L', BookL W b r q L' ∧ (∀ x ∈ L, x ∈ L')) ∧ Upd (Book3 b r q) w W := by
  have k1 : Kept w (w.alloc (.cells (dA root) 23)) := (Upd.refl _ w).alloc _; have r1 : Blk (w.alloc (.cells (dA root) 23)) w.heap.size 23 (encB root.1) := Blk.new w _ _; have HR := Lib.hid (And.intro k1 (And.intro r1 (hb.kept k1))); have HG := beg_contains (A := A) (l := []) c (h := fun i hi => absurd hi (Nat.not_lt_zero i)) (w := w.alloc (.cells (dA root) 23)) (hl := by simp); rw [show longB [] = false from rfl] at HG; simp only [List.length_nil] at HG; unfold begF at HG; have HG2 : Calls Tryz.prog 24 #[.pointer (some ⟨b, 0, none⟩), .slice none 0 0] (w.alloc (.cells (dA root) 23)) _ := tree_Leaf (hb.kept k1) (A := none) (R := []) 0 (.inl rfl) (by simp); have HN := Lib.hid (And.intro h1 (And.intro h2 hb.lt)); have d0 : decide ((n : Int) < 1) = false := decide_eq_false (by omega); have d0n : decide (n < 1) = false := decide_eq_false (by omega); have d1 : decide ((1024 : Int) < (n : Int)) = false := decide_eq_false (by omega); have d1n : decide (1024 < n) = false := decide_eq_false (by omega); clear h1 h2 hb k1 r1
  go_enter Tryz.func5, Tryz.ntmps5
  go_wp2_with fail; refine HG.mono ?_; clear HG; rintro e W ⟨rfl, rfl⟩; go_wp2_with fail; refine HG2.mono ?_; clear HG2; rintro e w2 ⟨rfl, hb2, hu2⟩; have hd3 : Blk (w2.alloc (.cells (dA (leafM shaM [])) 23)) w2.heap.size 23 (encB ((leafM shaM [])).1) := Blk.new w2 _ _; have hk3 : Kept w2 (w2.alloc (.cells (dA (leafM shaM [])) 23)) := (Upd.refl _ w2).alloc _; have hrb2 : Blk w2 w.heap.size 23 (encB root.1) := HR.out.2.1.upd hu2 (HR.out.2.2.not HR.out.2.1 (by decide)); have hr3 := hrb2.kept hk3; obtain ⟨p1, p2⟩ := dig_at hr3; have hb3 := hb2.kept hk3; have hs3 : w.heap.size ≤ (w2.alloc (.cells (dA (leafM shaM [])) 23)).heap.size := (HR.out.1.to.trans (hu2.then hk3 (fun _ _ e => e.elim))).size; have hu3 : Upd (Book3 b r q) w (w2.alloc (.cells (dA (leafM shaM [])) 23)) := HR.out.1.to.trans (hu2.then hk3 (fun _ _ e => e.elim)); have HB3 := Lib.hid (And.intro hb3 (And.intro hr3 (And.intro hs3 hu3))); clear hb2 hu2 hk3 hd3 hrb2 hr3 hb3 hs3 hu3; have hmm := @run_makeMap Tryz.prog; have hmm2 := fetA_size b; have hF0 := Fet0.new (w2.alloc (.cells (dA (leafM shaM [])) 23)) b n root; have hk8 : Kept (w2.alloc (.cells (dA (leafM shaM [])) 23)) (((((w2.alloc (.cells (dA (leafM shaM [])) 23)).alloc (.cells #[.int .i64 (n : Int)] 3)).alloc (.map #[] 0)).alloc (.map #[] 0)).alloc (.cells (fetA b root (w2.alloc (.cells (dA (leafM shaM [])) 23)).heap.size ((w2.alloc (.cells (dA (leafM shaM [])) 23)).heap.size + 1) ((w2.alloc (.cells (dA (leafM shaM [])) 23)).heap.size + 1 + 1)) 65)) := ((((Upd.refl _ _).alloc _).alloc _).alloc _).alloc _; simp only [World.size_alloc] at hF0 hk8; have H8 := Lib.hid (And.intro hF0 hk8); clear hF0 hk8; have hw1 := HR.out.2.1.lt; have hw2 : w.heap.size < w2.heap.size + 1 := by have h1 := HB3.out.2.1.lt; rw [World.size_alloc] at h1; exact h1
  go_wp2_with fail; generalize (((((w2.alloc (.cells (dA (leafM shaM [])) 23)).alloc (.cells #[.int .i64 (n : Int)] 3)).alloc (.map #[] 0)).alloc (.map #[] 0)).alloc (.cells (fetA b root (w2.heap.size + 1) (w2.heap.size + 1 + 1) (w2.heap.size + 1 + 1 + 1)) 65)) = w8 at *; generalize w2.heap.size + 1 + 1 + 1 + 1 = f at *; generalize w2.heap.size + 1 + 1 + 1 = m2 at *; generalize w2.heap.size + 1 + 1 = m1 at *; have H9 := Lib.hid (And.intro (H8.out.1.low (show w.heap.size + 1 ≤ _ by omega)) (And.intro (HB3.out.1.kept H8.out.2) (And.intro (HB3.out.2.1.kept H8.out.2) (show Upd (Book3 b r q) w w8 from HB3.out.2.2.2.trans H8.out.2.to)))); clear H8 HB3 HR hw1 hw2 p1 p2 hmm hmm2 d0 d0n d1 d1n
  go_loopw [13] (fun u wr => ∃ k gs cs : Nat, k < depthM n ∧ u = .int .i64 (sizeL n k : Int) ∧ Fet0 wr (w.heap.size + 1) f m1 m2 b root gs (k + 1) cs nilV nilV n ∧ Upd (fun j => w.heap.size < j) w8 wr) (fun u _ => (intOf u).toNat)
  case atStart => exact ⟨0, _, _, depthM_pos n, rfl, H9.out.1, Upd.refl _ _⟩
  case round =>
    obtain ⟨k, gs, cs, hk, rfl, hF, hu⟩ := hrel; have hx := size_more hk; have hxl := size_last hk; have hx1 : 1 ≤ sizeL n k ∧ sizeL n k ≤ 1024 := ⟨sizeL_pos HN.out.1 k, Nat.le_trans (sizeL_le HN.out.1 k) HN.out.2.1⟩; have hkd : k ≤ 1025 := by have := depthM_small HN.out.2.1; omega
    have hxs : sizeL n (k + 1) = up4 (sizeL n k) := rfl; generalize hxe : sizeL n k = x at *
    replace hxe := Lib.hid hxe
    have HKD := Lib.hid hkd
    by_cases h1x : 1 < x
    · have hd : decide ((1 : Int) < (x : Int)) = true := decide_eq_true (by omega)
      have hdn : decide (1 < x) = true := decide_eq_true (by omega); have hx5 : (x : Int) ≤ 1024 := by omega
      have hq : ((x : Int) + 4 - 1).tdiv 4 = ((up4 x : Nat) : Int) := by rw [Int.tdiv_eq_ediv_of_nonneg (by omega)]; unfold up4; omega
      have hq2 : ((x : Int) + 3).tdiv 4 = ((up4 x : Nat) : Int) := by rw [Int.tdiv_eq_ediv_of_nonneg (by omega)]; unfold up4; omega
      have hu5 : ((up4 x : Nat) : Int) ≤ 1024 := by unfold up4; omega
      have c33 := hF.c.1; have hka : Kept wr (wr.alloc (.cells #[.int .i64 ((up4 x : Nat) : Int)] 3)) := (Upd.refl _ wr).alloc _; have HQ := Lib.hid (And.intro (hF.kept hka) (And.intro (heap_alloc_new wr (.cells #[.int .i64 ((up4 x : Nat) : Int)] 3)) (And.intro hu (And.intro (hx h1x) (And.intro hk (And.intro h1x (And.intro hx1 hxs))))))); clear hF hka hu hx hxl hx1 hk hkd h1x hxs; go_wp2_with (at_builtin; refine wpList_append_rows in_rows rfl (.tmp 64) (.tmp 66) rfl rfl HQ.out.1.szs (up4 x) wr.heap.size 1 _ _ rfl HQ.out.2.1 (by have := HKD.out; rw [List.length_map, List.length_range]; unfold maxLen; omega) (by have := HKD.out; rw [List.length_map, List.length_range]; omega) (by have h1 := HQ.out.1.gsB; omega) ?_; intro v' w' hown' hu' hnew; obtain ⟨g', c', hv', -, -, -, -⟩ := OwnRows.get (f := inA) (n := 1) (fun _ => rfl) hown' (k := 0) (by simp); rw [List.length_append, List.length_map, List.length_range] at hv'; subst hv'; rw [show (List.range (k + 1)).map (sizeL n) ++ [up4 x] = (List.range (k + 1 + 1)).map (sizeL n) by rw [List.range_succ (n := k + 1), List.map_append, List.map_singleton, HQ.out.2.2.2.2.2.2.2]] at hown'; obtain ⟨hF2, c33, z33⟩ := HQ.out.1.more hown' (hu'.mono fun j _ e => by have e2 : some gs = some j := e; cases e2; rfl)); have HF2 := Lib.hid (And.intro hF2 (show Upd (fun j => w.heap.size < j) w8 (w'.setCell ⟨f, 33, none⟩ (.slice (some ⟨g', 0, none⟩) (k + 1 + 1) c')) from by
        have hgb := HQ.out.1.gsB.1; have hfb := HQ.out.1.bf; have h3 : Upd (fun j => w.heap.size < j) w8 (wr.alloc (.cells #[.int .i64 ((up4 x : Nat) : Int)] 3)) := HQ.out.2.2.1.alloc _; have h4 := h3.then hu' (fun j _ e => by have e2 : some gs = some j := e; cases e2; omega); exact h4.setCell (p := ⟨f, 33, none⟩) _ (fun _ => by show w.heap.size < f; omega)))
      clear hF2 hown' hu' hnew z33
      go_roundw
      case rel => exact ⟨k + 1, g', c', HQ.out.2.2.2.1, by rw [HQ.out.2.2.2.2.2.2.2], HF2.out.1, HF2.out.2⟩
      case measure => have h1 := HQ.out.2.2.2.2.2.1; unfold up4; simp [intOf]; omega
    · have h1d : decide ((1 : Int) < (x : Int)) = false := decide_eq_false (by omega)
      have h1n : decide (1 < x) = false := decide_eq_false (by omega); have hke := hxl h1x; have h5 := HN.out.2.2; have hfb := hF.bf; have hbk : BookL wr b r q (noteM L (leafIn [])) := H9.out.2.1.upd hu (fun e => by have := h5 b (.inl rfl); omega) (fun e => by have := h5 r (.inr (.inl rfl)); omega) (fun e => by have := h5 q (.inr (.inr rfl)); omega); have hrt := H9.out.2.2.1.upd hu (fun e => Nat.lt_irrefl _ e); have huw : Upd (Book3 b r q) w wr := H9.out.2.2.2.then hu (fun j hj e => by omega); rw [hke] at hF; have HT := Lib.hid (And.intro hF (And.intro hbk (And.intro hrt huw))); clear hx hxl hx1 hk hkd h1x hxs hF hbk hrt huw h5 hfb H9 hu hke; have HI := Lib.hid (HT.out.1.all (Tu := fun j => j < w.heap.size) (O := none) (r := r) (q := q) ⟨rfl, rfl⟩ HN.out.1 HN.out.2.1 (fun j hj => by have := HN.out.2.2 j hj; omega) (fun j hj => Nat.lt_succ_of_lt hj)); obtain ⟨dl, hdl⟩ : ∃ dl, depthM n = dl + 1 := ⟨depthM n - 1, by have := depthM_pos n; omega⟩; obtain ⟨dp, hdp⟩ : ∃ dp, dp = depthM n := ⟨_, rfl⟩; have hsub : (dp : Int) - 1 = (dl : Int) := by omega
      have hdl5 : (dl : Int) ≤ 1025 := by have := depthM_small HN.out.2.1; omega
      have hwr : IntKind.i64.wrap (dl : Int) = (dl : Int) := by rw [IntKind.wrap_i64]; omega
      have HDL := Lib.hid (And.intro hdl hdp); have f1 : ∀ W, Upd (Maps2 m1 m2) wr W → W.cell? ⟨f, 33, none⟩ = some (.slice (some ⟨gs, 0, none⟩) dp cs) := fun W hW => by rw [HDL.out.2]; exact HI.out.mcell HI.out.c.2.1 hW
      have f2 : ∀ W, Upd (Maps2 m1 m2) wr W → segB W ⟨w.heap.size, 0, none⟩ 32 = true := fun W hW => (HI.out.mseg (by omega) (dig_at HT.out.2.2.1).1 (dig_at HT.out.2.2.1).2 hW).1; have f3 : ∀ W, Upd (Maps2 m1 m2) wr W → segV W ⟨w.heap.size, 0, none⟩ 32 = dA root := fun W hW => (HI.out.mseg (by omega) (dig_at HT.out.2.2.1).1 (dig_at HT.out.2.2.1).2 hW).2; clear hdl hdp; go_wp2_with fail; refine wp_region_ord [(0, true), (1, true), (2, true), (3, true), (4, true), (5, true), (6, true), (7, true), (8, true), (9, false)] (by kernel_rfl) (by kernel_rfl) (Upd (Maps2 m1 m2) wr) (Upd.refl _ _).drew ?_; simp only [ordOps, List.getD_cons_zero, List.getD_cons_succ]
      iterate 9 (refine wpOrd_held (fun K hK => ?_); go_simp; first | (apply Exists.intro; refine ⟨fun W hW => ?_, hK _ ?_⟩; (go_simp; first | done | exact rfl); clear hK K) | (refine hK _ ?_; clear hK K))
      clear f1 f2 f3; have hSd : Upd (Maps2 m1 m2) wr (wr).drew := (Upd.refl _ _).drew; have hkd : Kept wr (wr).drew := (Upd.refl _ _).drew; have hID := HI.out.kept hkd; generalize (wr).drew = wd at *; refine wpOrd_step (fun K hK => ?_) hSd; go_simp; have HG : Calls Tryz.prog 27 #[.pointer (some ⟨f, 0, none⟩), .agg #[.int .i64 (dl : Int), .int .i64 0], .agg (dA root)] wd _ := fetch_learn hID dl 0 root (by have := HDL.out.1; omega) (by have := sizeL_pos HN.out.1 dl; omega); refine HG.mono ?_; clear HG hID; rintro e w6 ⟨⟨v, rfl⟩, h6, hu6⟩; have hS6 := hSd.trans hu6; refine hK _ _ hS6 ?_; clear hK K; have hbb := HN.out.2.2; have HF := Lib.hid (And.intro h6 (And.intro (HT.out.2.1.upd hS6 (fun e => by have := hbb b (.inl rfl); have := HI.out.b1; have := HI.out.b2; rcases e with e | e <;> omega) (fun e => by have := hbb r (.inr (.inl rfl)); have := HI.out.b1; have := HI.out.b2; rcases e with e | e <;> omega) (fun e => by have := hbb q (.inr (.inr rfl)); have := HI.out.b1; have := HI.out.b2; rcases e with e | e <;> omega)) (show Upd (Book3 b r q) w w6 from HT.out.2.2.2.then hS6 (fun j hj e => by have := HI.out.b1; have := HI.out.b2; rcases e with e | e <;> omega)))); clear h6 hu6 hS6 hSd hkd hbb; refine wpOrd_nil ?_; go_wp2
      go_ret2
      have hb0 : begS n none root = learnM n none dl 0 root (fun _ _ => none, fun _ => none) := by unfold begS; rw [HDL.out.1, Nat.add_sub_cancel]
      first | exact ⟨_, rfl, ⟨w.heap.size + 1, m1, m2, gs, cs, _, _, by omega, by rw [hb0]; exact HF.out.1⟩, ⟨_, HF.out.2.1, fun x hx => mem_noteM.2 (.inl hx)⟩, HF.out.2.2⟩ | exact ⟨f, rfl, ⟨w.heap.size + 1, m1, m2, gs, cs, _, _, by omega, by rw [hb0]; exact HF.out.1⟩, ⟨_, HF.out.2.1, fun x hx => mem_noteM.2 (.inl hx)⟩, HF.out.2.2⟩
end
end Go.Proofs.YtepjbijhkkjbfaaGreat
