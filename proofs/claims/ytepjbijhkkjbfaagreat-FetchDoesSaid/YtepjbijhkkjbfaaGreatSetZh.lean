import Derived.Test.YtepjbijhkkjbfaaGreatSetZg
import Derived.WalkMore
set_option linter.unusedVariables false
set_option linter.unusedSimpArgs false
namespace Go.Proofs.YtepjbijhkkjbfaaGreat
open Go.ChangeShapes Go.WideShapes Go.ChangeAt Go.RowKit
section
variable {H : Type} {enc : TypeId × Value → H} {W : World}
end
end Go.Proofs.YtepjbijhkkjbfaaGreat
namespace Go.Proofs.YtepjbijhkkjbfaaGreat
open Go.RowKit
set_option maxHeartbeats 800000 in
set_option maxRecDepth 20000 in
theorem proof_Fits_of {w : World} {p : Option Addr} {x : Value} (d y : Dig) {S : Nat → Prop} {Q : World → Prop}
    (hU : ∀ w1, Kept w w1 → Calls Tryz.prog 57 #[.pointer p, x] w1 fun e W => e = .returned (.tuple #[.agg (dA y), .int .i64 0]) ∧ Q W ∧ Upd S w1 W) (hS : ∀ k, S k → k < w.heap.size) (hQ : ∀ W W', Q W → Kept W W' → Q W') :
    Calls Tryz.prog 41 #[.pointer p, .agg (dA d), x] w fun e W => e = .returned (.int .i64 (if y = d then 0 else 100)) ∧ Q W ∧ Upd S w W := by
  have hd1 : Blk (w.alloc (.cells (dA d) 23)) w.heap.size 23 (encB (d).1) := Blk.new w _ _; have hk1 : Kept w (w.alloc (.cells (dA d) 23)) := (Upd.refl _ w).alloc _; have HG := hU _ hk1; have HX := Lib.hid (And.intro hd1 (And.intro hk1 (And.intro hS hQ))); have HC : Hid ((y = d ∧ (if y = d then (0 : Int) else 100) = 0) ∨ (decide (y = d) = false ∧ (if y = d then (0 : Int) else 100) = 100)) := by
    by_cases hy : y = d
    · exact .inl ⟨hy, if_pos hy⟩
    · exact .inr ⟨decide_eq_false hy, if_neg hy⟩
  generalize (if y = d then (0 : Int) else 100) = zz at *; clear hd1 hk1 hU hS hQ
  go_enter Tryz.func41, Tryz.ntmps41
  go_wp2_with fail; refine HG.mono ?_; clear HG; rintro e w2 ⟨rfl, hq2, hu2⟩; have hb2 := HX.out.1.upd hu2 (fun e => absurd (HX.out.2.2.1 _ e) (Nat.lt_irrefl _)); have hd3 : Blk (w2.alloc (.cells (dA y) 23)) w2.heap.size 23 (encB (y).1) := Blk.new w2 _ _; have hk3 : Kept w2 (w2.alloc (.cells (dA y) 23)) := (Upd.refl _ w2).alloc _; obtain ⟨p1, p2⟩ := dig_at (hb2.kept hk3); obtain ⟨p3, p4⟩ := dig_at hd3; have HF : Hid (Q (w2.alloc (.cells (dA y) 23)) ∧ Upd S w (w2.alloc (.cells (dA y) 23))) := ⟨HX.out.2.2.2 _ _ hq2 hk3, (HX.out.2.1.to.trans hu2).alloc _⟩; clear hb2 hd3 hk3 hq2 hu2 HX; rcases HC.out with ⟨rfl, rfl⟩ | ⟨hdy, rfl⟩
  · go_wp2
    go_ret
    exact ⟨rfl, HF.out⟩
  · go_wp2
    go_ret
    exact ⟨rfl, HF.out⟩
set_option maxHeartbeats 800000 in
set_option maxRecDepth 20000 in
theorem proof_Fits_no {w : World} {p : Option Addr} {x : Value} (d y : Dig) {z : Int} (hz : z ≠ 0)
    (hU : ∀ w1, Kept w w1 → Calls Tryz.prog 57 #[.pointer p, x] w1 fun e W => e = .returned (.tuple #[.agg (dA y), .int .i64 z]) ∧ Kept w1 W) :
    Calls Tryz.prog 41 #[.pointer p, .agg (dA d), x] w fun e W => e = .returned (.int .i64 z) ∧ Kept w W := by
  have hd1 : Blk (w.alloc (.cells (dA d) 23)) w.heap.size 23 (encB (d).1) := Blk.new w _ _; have hk1 : Kept w (w.alloc (.cells (dA d) 23)) := (Upd.refl _ w).alloc _; have HG := hU _ hk1; have HX := Lib.hid hk1; clear hd1 hk1 hU; have hdz : decide (z = 0) = false := decide_eq_false hz
  go_enter Tryz.func41, Tryz.ntmps41
  go_wp2_with fail; refine HG.mono ?_; clear HG; rintro e w2 ⟨rfl, hu2⟩; have hd3 : Blk (w2.alloc (.cells (dA y) 23)) w2.heap.size 23 (encB (y).1) := Blk.new w2 _ _; have hk3 : Kept w2 (w2.alloc (.cells (dA y) 23)) := (Upd.refl _ w2).alloc _; have HF := Lib.hid (show Kept w (w2.alloc (.cells (dA y) 23)) from (HX.out.then hu2 fun _ _ h => h).alloc _); clear hd3 hk3 hu2 HX; go_wp2
  go_ret
  exact ⟨rfl, HF.out⟩
set_option maxHeartbeats 800000 in
set_option maxRecDepth 20000 in
theorem proof_LeafFits_of {w : World} {p : Option Addr} {x : Value} (d y : Dig) {S : Nat → Prop} {Q : World → Prop}
    (hU : ∀ w1, Kept w w1 → Calls Tryz.prog 24 #[.pointer p, x] w1 fun e W => e = .returned (.tuple #[.agg (dA y), .int .i64 0]) ∧ Q W ∧ Upd S w1 W) (hS : ∀ k, S k → k < w.heap.size) (hQ : ∀ W W', Q W → Kept W W' → Q W') :
    Calls Tryz.prog 43 #[.pointer p, .agg (dA d), x] w fun e W => e = .returned (.int .i64 (if y = d then 0 else 100)) ∧ Q W ∧ Upd S w W := by
  have hd1 : Blk (w.alloc (.cells (dA d) 23)) w.heap.size 23 (encB (d).1) := Blk.new w _ _; have hk1 : Kept w (w.alloc (.cells (dA d) 23)) := (Upd.refl _ w).alloc _; have HG := hU _ hk1; have HX := Lib.hid (And.intro hd1 (And.intro hk1 (And.intro hS hQ))); have HC : Hid ((y = d ∧ (if y = d then (0 : Int) else 100) = 0) ∨ (decide (y = d) = false ∧ (if y = d then (0 : Int) else 100) = 100)) := by
    by_cases hy : y = d
    · exact .inl ⟨hy, if_pos hy⟩
    · exact .inr ⟨decide_eq_false hy, if_neg hy⟩
  generalize (if y = d then (0 : Int) else 100) = zz at *; clear hd1 hk1 hU hS hQ
  go_enter Tryz.func43, Tryz.ntmps43
  go_wp2_with fail; refine HG.mono ?_; clear HG; rintro e w2 ⟨rfl, hq2, hu2⟩; have hb2 := HX.out.1.upd hu2 (fun e => absurd (HX.out.2.2.1 _ e) (Nat.lt_irrefl _)); have hd3 : Blk (w2.alloc (.cells (dA y) 23)) w2.heap.size 23 (encB (y).1) := Blk.new w2 _ _; have hk3 : Kept w2 (w2.alloc (.cells (dA y) 23)) := (Upd.refl _ w2).alloc _; obtain ⟨p1, p2⟩ := dig_at (hb2.kept hk3); obtain ⟨p3, p4⟩ := dig_at hd3; have HF : Hid (Q (w2.alloc (.cells (dA y) 23)) ∧ Upd S w (w2.alloc (.cells (dA y) 23))) := ⟨HX.out.2.2.2 _ _ hq2 hk3, (HX.out.2.1.to.trans hu2).alloc _⟩; clear hb2 hd3 hk3 hq2 hu2 HX; rcases HC.out with ⟨rfl, rfl⟩ | ⟨hdy, rfl⟩
  · go_wp2
    go_ret
    exact ⟨rfl, HF.out⟩
  · go_wp2
    go_ret
    exact ⟨rfl, HF.out⟩
set_option maxHeartbeats 800000 in
set_option maxRecDepth 20000 in
theorem proof_LeafFits_no {w : World} {p : Option Addr} {x : Value} (d y : Dig) {z : Int} (hz : z ≠ 0)
    (hU : ∀ w1, Kept w w1 → Calls Tryz.prog 24 #[.pointer p, x] w1 fun e W => e = .returned (.tuple #[.agg (dA y), .int .i64 z]) ∧ Kept w1 W) :
    Calls Tryz.prog 43 #[.pointer p, .agg (dA d), x] w fun e W => e = .returned (.int .i64 z) ∧ Kept w W := by
  have hd1 : Blk (w.alloc (.cells (dA d) 23)) w.heap.size 23 (encB (d).1) := Blk.new w _ _; have hk1 : Kept w (w.alloc (.cells (dA d) 23)) := (Upd.refl _ w).alloc _; have HG := hU _ hk1; have HX := Lib.hid hk1; clear hd1 hk1 hU; have hdz : decide (z = 0) = false := decide_eq_false hz
  go_enter Tryz.func43, Tryz.ntmps43
  go_wp2_with fail; refine HG.mono ?_; clear HG; rintro e w2 ⟨rfl, hu2⟩; have hd3 : Blk (w2.alloc (.cells (dA y) 23)) w2.heap.size 23 (encB (y).1) := Blk.new w2 _ _; have hk3 : Kept w2 (w2.alloc (.cells (dA y) 23)) := (Upd.refl _ w2).alloc _; have HF := Lib.hid (show Kept w (w2.alloc (.cells (dA y) 23)) from (HX.out.then hu2 fun _ _ h => h).alloc _); clear hd3 hk3 hu2 HX; go_wp2
  go_ret
  exact ⟨rfl, HF.out⟩
theorem proof_Fits {w : World} {b r q : Nat} {L : List Bytes} (h : BookL w b r q L) {A : Option Addr} {D : List Dig} (c : Nat) (hD : Digs w A D) (h1 : 1 ≤ D.length) (h4 : D.length ≤ 4) (d : Dig) :
    Calls Tryz.prog 41 #[.pointer (some ⟨b, 0, none⟩), .agg (dA d), .slice A D.length c] w fun e W => e = .returned (.int .i64 (if upM shaM D = d then 0 else 100)) ∧ BookL W b r q (noteM L (upIn D)) ∧ Upd (Book3 b r q) w W :=
  proof_Fits_of d _ (Q := fun W => BookL W b r q (noteM L (upIn D))) (fun _ hu => tree_Up (h.kept hu) c (hD.kept hu) h1 h4) h.lt (fun _ _ hq hk => hq.kept hk)
theorem proof_LeafFits {w : World} {b r q : Nat} {L : List Bytes} (h : BookL w b r q L) {A : Option Addr} {R : Bytes} (c : Nat) (hR : Byt w A R) (hl : R.length < 65536) (d : Dig) :
    Calls Tryz.prog 43 #[.pointer (some ⟨b, 0, none⟩), .agg (dA d), .slice A R.length c] w fun e W => e = .returned (.int .i64 (if leafM shaM R = d then 0 else 100)) ∧ BookL W b r q (noteM L (leafIn R)) ∧ Upd (Book3 b r q) w W :=
  proof_LeafFits_of d _ (Q := fun W => BookL W b r q (noteM L (leafIn R))) (fun _ hu => tree_Leaf (h.kept hu) c (hR.kept hu) hl) h.lt (fun _ _ hq hk => hq.kept hk)
theorem slice_digs_lhm (W : World) (A : Option Addr) (len cap l h : Nat) (Li Hi : Int) (hL : Li = l) (hH : Hi = h) (h1 : l < h) (h2 : h ≤ cap) :
    (Instr.sliceAt 45 (.slice A len cap) (some (.int .i64 Li)) (some (.int .i64 Hi)) (some (.int .i64 Hi))).run Tryz.prog W = .ok (.slice (A.map (·.add (l * 32))) (h - l) (h - l)) W := by
  subst hL hH; have ht : Tryz.prog.underlying 45 = some (.slice (Tryz.prog.elem 45)) := by rw [ds_elem]; exact Tryz.underlying45
  have := run_slice_lhm (P := Tryz.prog) (w := W) 45 A len cap ht .i64 .i64 .i64 (l : Int) (h : Int) (h : Int) (by omega) (by omega) (by omega) (by omega); rw [run_sliceAt_slice (h := ht), this, ds_elem, dig_sizeOf]; simp only [Result.andThen, sliced, Int.toNat_natCast]; rw [if_neg (by omega)]
set_option maxHeartbeats 800000 in
set_option maxRecDepth 20000 in
theorem proof_four {w : World} {A : Option Addr} {D : List Dig} (c i : Nat) (hD : Digs w A D) (hc : D.length ≤ c) (hi : i < D.length) (hl : D.length ≤ 1024) :
    Calls Tryz.prog 68 #[.slice A D.length c, .int .i64 i] w fun e W => ∃ v, e = .returned v ∧ OwnD W w.heap.size v (group D (i / 4)) ∧ Kept w W := by
  have hgl : (group D (i / 4)).length = min (4 * (i / 4) + 4) D.length - 4 * (i / 4) := by rw [group_length]; omega
  have hgd : Digs w (A.map (·.add ((4 * (i / 4)) * 32))) (group D (i / 4)) := Digs.part hD (4 * (i / 4)) 4; have hgn : group D (i / 4) ≠ [] := by intro h0; rw [h0] at hgl; simp at hgl; omega
  have HG := digs_Clone (group D (i / 4)).length hgd hgn (by rw [hgl]; omega); obtain ⟨m, hm⟩ : ∃ m, m = 4 * (i / 4) := ⟨_, rfl⟩; obtain ⟨h, hh⟩ : ∃ h, h = min (m + 4) D.length := ⟨_, rfl⟩; rw [← hm] at HG hgl; rw [← hh] at hgl; have hsl : ∀ W, (Instr.sliceAt 45 (.slice A D.length c) (some (.int .i64 (m : Int))) (some (.int .i64 (h : Int))) (some (.int .i64 (h : Int)))).run Tryz.prog W = .ok (.slice (A.map (·.add (m * 32))) (group D (i / 4)).length (group D (i / 4)).length) W := fun W => by
    have := slice_digs_lhm W A D.length c m h (m : Int) (h : Int) rfl rfl (by omega) (by omega)
    rwa [← hgl] at this
  have e1 : (i : Int) - (i : Int) % 4 = (m : Int) := by omega
  have hi5 : (i : Int) ≤ 1024 := by omega
  have hm5 : (m : Int) ≤ 1024 := by omega
  have e2 : (if (D.length : Int) < (m : Int) + 4 then (D.length : Int) else (m : Int) + 4) = (h : Int) := by split <;> omega
  clear hD hc hi hl hgd hgn hm hh hgl; generalize group D (i / 4) = g at *; generalize D.length = n at *; generalize A.map (·.add (m * 32)) = A' at *
  go_enter Tryz.func68, Tryz.ntmps68
  go_wp2_with fail; refine HG.mono ?_; rintro e w2 ⟨v, rfl, hv, hu⟩; go_wp2
  go_ret
  exact ⟨_, rfl, hv, hu⟩
end Go.Proofs.YtepjbijhkkjbfaaGreat
namespace Go.Proofs.YtepjbijhkkjbfaaGreat
open Go.RowKit
def OwnP (W : World) (B : Nat) (v : Value) (P : List (List Dig)) : Prop := ∃ xs : List SlC, OwnRows slA 1 W B 45 v xs ∧ xs.length = P.length ∧ ∀ i (h : i < xs.length) (h' : i < P.length), OwnD W B xs[i].v P[i]
section
variable {W W' : World} {B B' : Nat} {v : Value} {P : List (List Dig)} {S : Nat → Prop}
theorem OwnP.upd (h : OwnP W B v P) (hu : Upd S W W') (hs : ∀ k, B ≤ k → (∃ cs t', W.heap[k]? = some (.cells cs t' (0, 0)) ∧ t' ≠ 79) → ¬ S k) : OwnP W' B v P := by
  obtain ⟨xs, h1, h2, h3⟩ := h; refine ⟨xs, OwnRows.upd h1 hu (fun k e => ?_), h2, fun i hi hi' => OwnRows.upd (h3 i hi hi') hu (fun k e => ?_)⟩
  · obtain ⟨cur, hc⟩ := own_cells h1 e
    exact hs k (World.ownsRow.lt h1 k e).1 ⟨_, _, hc, by decide⟩
  · obtain ⟨cur, hc⟩ := own_cells (h3 i hi hi') e
    exact hs k (World.ownsRow.lt (h3 i hi hi') k e).1 ⟨_, _, hc, by decide⟩
theorem OwnP.base (h : OwnP W B' v P) (hb : B ≤ B') : OwnP W B v P := by
  obtain ⟨xs, h1, h2, h3⟩ := h; exact ⟨xs, own_base h1 hb, h2, fun i hi hi' => own_base (h3 i hi hi') hb⟩
theorem OwnP.nil (W : World) (B : Nat) : OwnP W B (.slice none 0 0) [] := ⟨[], OwnRows.nil _ _ _, rfl, fun i hi => absurd hi (Nat.not_lt_zero i)⟩
end
end Go.Proofs.YtepjbijhkkjbfaaGreat
namespace Go.Proofs.YtepjbijhkkjbfaaGreat
open Go.RowKit
theorem levelsM_step : ∀ (n : Nat) (D : List Dig) {l l1 : List Dig}, (levelsM shaM D)[n]? = some l → (levelsM shaM D)[n + 1]? = some l1 → l1 = aboveM shaM l ∧ 1 < l.length
  | 0, D, l, l1, h, h1 => by
    obtain ⟨tl, e, e1, e2⟩ := levelsM_head D; rw [e] at h h1; simp only [List.getElem?_cons_zero, Option.some.injEq] at h; subst h; rcases Nat.lt_or_ge 1 D.length with h2 | h2
    · obtain ⟨tl2, e3, _⟩ := levelsM_head (aboveM shaM D)
      rw [e1 h2, e3] at h1; simp at h1; exact ⟨h1.symm, h2⟩
    · rw [e2 h2] at h1; simp at h1
  | n + 1, D, l, l1, h, h1 => by
    obtain ⟨tl, e, e1, e2⟩ := levelsM_head D; rw [e] at h h1; simp only [List.getElem?_cons_succ] at h h1; rcases Nat.lt_or_ge 1 D.length with h2 | h2
    · rw [e1 h2] at h h1
      exact levelsM_step n _ h h1
    · rw [e2 h2] at h1; simp at h1
set_option maxHeartbeats 800000 in
theorem proof_Parts {w : World} {lo hi t b : Nat} {D : List Dig} (h : TreeAt w lo hi t b D) (n i : Nat) {l l1 : List Dig} (hn0 : (levelsM shaM D)[n]? = some l) (hn : (levelsM shaM D)[n + 1]? = some l1) (hi' : i < l1.length) :
    Calls Tryz.prog 55 #[.pointer (some ⟨t, 0, none⟩), .int .i64 (n + 1 : Nat), .int .i64 i] w fun e W => ∃ v, e = .returned (.tuple #[v, .int .i64 0]) ∧ OwnD W w.heap.size v (group l i) ∧ Kept w W := by
  have hl := Lib.hid (show l1.length ≤ 1024 ∧ l.length ≤ 1024 by
    obtain ⟨_, _, _, hh⟩ := h; have := levelsM_le _ (l := D) rfl l (List.mem_of_getElem? hn0); have := levelsM_le _ (l := D) rfl l1 (List.mem_of_getElem? hn); have := hh.n2; omega)
  have hn5 : n ≤ 1100 := by
    obtain ⟨_, _, _, hh⟩ := h; have h1 := (List.getElem?_eq_some_iff.1 hn0).1; rw [levelsM_depth _ rfl] at h1; have := depthM_le _ D rfl; have := hh.n2; omega
  have h4i : 4 * i < l.length := by
    obtain ⟨e1, e2⟩ := levelsM_step n D hn0 hn; rw [e1, aboveM_length] at hi'; unfold up4 at hi'; omega
  have hi5 : (i : Int) ≤ 1024 := by have := hl.out; omega
  obtain ⟨z, hz⟩ : ∃ z : Nat, z = n + 1 := ⟨_, rfl⟩; rw [← hz] at hn ⊢; have d0 : decide ((z : Int) < 1) = false := decide_eq_false (by omega); have d0n : decide (z < 1) = false := decide_eq_false (by omega); have e1 : (z : Int) - 1 = (n : Int) := by omega
  have hz5 : (z : Int) ≤ 1101 := by omega
  have hz6 : 1 ≤ (z : Int) := by omega
  have d2 : decide ((i : Int) < 0) = false := decide_eq_false (by omega); have d3 : decide ((l1.length : Int) ≤ (i : Int)) = false := decide_eq_false (by omega); have d3n : decide (l1.length ≤ i) = false := decide_eq_false (by omega)
  replace hn := Lib.hid hn
  replace hn0 := Lib.hid hn0
  replace h4i := Lib.hid h4i
  clear hz hi' hn5; have HG := tree_Root h; obtain ⟨rt, hrt⟩ : ∃ rt, rt = rootM shaM D := ⟨_, rfl⟩; rw [← hrt] at HG; clear hrt
  go_enter Tryz.func55, Tryz.ntmps55
  go_wp2_with fail; refine HG.mono ?_; clear HG; rintro e w2 ⟨rfl, hu2⟩; have hk3 : Kept w (w2.alloc (.cells (dA rt) 23)) := hu2.alloc _; have h3 := h.kept hk3; clear hu2; go_wp2_with fail; generalize w2.alloc (.cells (dA rt) 23) = w3 at *; refine (tree_Level h3 z hn.out hl.out.1).mono ?_; rintro e w4 ⟨v4, rfl, hv4, hu4⟩; obtain ⟨A4, c4, rfl, -, -⟩ := hv4.digs; have h4 := h3.kept hu4; have hk4 := hk3.then hu4 (fun _ _ h => h); generalize l1.length = ln at *; clear hv4 hu4 hk3 h3 h; go_wp2_with fail; refine (tree_Level h4 n hn0.out hl.out.2).mono ?_; rintro e w5 ⟨v5, rfl, hv5, hu5⟩; obtain ⟨A5, c5, rfl, hc5, hd5⟩ := hv5.digs; have HG := proof_four c5 (4 * i) hd5 hc5 h4i.out hl.out.2; rw [show 4 * i / 4 = i by omega] at HG; have hk5 := hk4.then hu5 (fun _ _ h => h); have e6 : ((4 * i : Nat) : Int) = 4 * (i : Int) := by omega
  rw [e6] at HG; clear hv5 hc5 hd5 hu5 hk4 h4 e6; generalize l.length = lm at *; go_wp2_with fail; refine HG.mono ?_; clear HG; rintro e w6 ⟨v6, rfl, hv6, hu6⟩; have HF := Lib.hid (And.intro (own_base hv6 hk5.size) (show Kept w w6 from hk5.then hu6 (fun _ _ h => h))); clear hv6 hu6 hk5; go_wp2
  go_ret2
  exact ⟨_, rfl, HF.out⟩
end Go.Proofs.YtepjbijhkkjbfaaGreat
namespace Go.Proofs.YtepjbijhkkjbfaaGreat
open Go.RowKit
attribute [local irreducible] wpOrd
section
variable {w W W' : World} {b r q g0 g1 : Nat} {L L' : List Bytes} {root d : Dig}
end
end Go.Proofs.YtepjbijhkkjbfaaGreat
namespace Go.Proofs.YtepjbijhkkjbfaaGreat
open Go.RowKit
attribute [local irreducible] wpOrd
end Go.Proofs.YtepjbijhkkjbfaaGreat
namespace Go.Proofs.YtepjbijhkkjbfaaGreat
open Go.RowKit
attribute [local irreducible] wpOrd
section
variable {w W W' : World} {b r q lo hi t : Nat} {L L' ls : List Bytes}
end
end Go.Proofs.YtepjbijhkkjbfaaGreat
namespace Go.Proofs.YtepjbijhkkjbfaaGreat
open Go.RowKit
theorem OwnB.low {W : World} {B B' : Nat} {v : Value} {R : Bytes} (h : OwnB W B' v R) (hb : B ≤ B') : OwnB W B v R :=
  ⟨h.1, h.2.imp id fun ⟨g, cap, cur, hv, hb2, hr⟩ => ⟨g, cap, cur, hv, Nat.le_trans hb hb2, hr⟩⟩
theorem OwnB.block {W : World} {B : Nat} {v : Value} {R : Bytes} (h : OwnB W B v R) {k : Nat} (hk : v.ownBlock = some k) : ∃ cur, W.heap[k]? = some (.cells cur 5 (0, 0)) := by
  rcases h.2 with ⟨rfl, _⟩ | ⟨g, cap, cur, rfl, hb, hg, _⟩
  · cases hk
  · cases hk; exact ⟨cur, hg⟩
def OwnLv (W : World) (B : Nat) (v : Value) (l : List (SlC × Bytes)) : Prop := OwnS W B v (l.map (·.1)) ∧ ∀ p ∈ l, OwnB W B p.1.v p.2 ∧ p.2.length ≤ 140737488351232
section
variable {W W' : World} {B B' : Nat} {v : Value} {l : List (SlC × Bytes)} {S : Nat → Prop}
theorem OwnLv.upd (h : OwnLv W B v l) (hu : Upd S W W') (hs : ∀ k, B ≤ k → (∃ cs t', W.heap[k]? = some (.cells cs t' (0, 0)) ∧ t' ≠ 79) → ¬ S k) : OwnLv W' B v l := by
  refine ⟨OwnRows.upd h.1 hu (fun k e => ?_), fun p hp => ⟨(h.2 p hp).1.upd hu (fun k e => ?_), (h.2 p hp).2⟩⟩
  · obtain ⟨cur, hc⟩ := own_cells h.1 e
    exact hs k (World.ownsRow.lt h.1 k e).1 ⟨_, _, hc, by decide⟩
  · obtain ⟨cur, hc⟩ := (h.2 p hp).1.block e
    exact hs k ((h.2 p hp).1.far k e).1 ⟨_, _, hc, by decide⟩
theorem OwnLv.kept (h : OwnLv W B v l) (hu : Kept W W') : OwnLv W' B v l := h.upd hu fun _ _ _ => id
theorem OwnLv.book (h : OwnLv W B v l) {b r q : Nat} {L : List Bytes} (hb : BookL W b r q L) (hu : Upd (Book3 b r q) W W') : OwnLv W' B v l :=
  h.upd hu fun _ _ ⟨_, _, hc, ht⟩ => hb.not hc ht
theorem OwnB.leafAt {x : SlC} {R : Bytes} (h : OwnB W B x.v R) : LeafAt W x R := by
  obtain ⟨A, c, hx, hc, hb⟩ := h.form; obtain ⟨xA, xn, xc⟩ := x; rw [SlC.v_eq] at hx; simp only [Value.slice.injEq] at hx; obtain ⟨rfl, rfl, rfl⟩ := hx; exact ⟨hb, rfl, hc⟩
theorem OwnLv.leaves {A : Option Addr} {n c : Nat} (h : OwnLv W B (.slice A n c) l) : LeavesAt W A l :=
  OwnS.leaves h.1 fun p hp => ⟨(h.2 p hp).1.leafAt, (h.2 p hp).2⟩
end
@[go_sem ↓] theorem exec_six_bsl (ρ : Operand → Value) (dst : Option Tmp) (parts : Array (Nat × Operand)) (ty : TypeId) (pos : String) (after : Array Edge) (guard : Option (Nat × Bool)) :
    execOp ρ ⟨dst, .buildSlice 24 6 parts, ty, pos, after, guard⟩ = sliceRow 24 6 (parts.map fun (i, x) => (i, ρ x)) := rfl
def sixV (A1 A2 A3 A4 A5 A6 : Option Addr) (c1 c2 c3 c4 c5 c6 : Nat) : Array Value := #[.slice A1 1 c1, .slice A2 1 c2, .slice A3 1 c3, .slice A4 1 c4, .slice A5 1 c5, .slice A6 1 c6]
theorem run_six_bsl (A1 A2 A3 A4 A5 A6 : Option Addr) (c1 c2 c3 c4 c5 c6 : Nat) (W : World) : (sliceRow 24 6 #[(0, .slice A1 1 c1), (1, .slice A2 1 c2), (2, .slice A3 1 c3), (3, .slice A4 1 c4), (4, .slice A5 1 c5), (5, .slice A6 1 c6)]).run Tryz.prog W = .ok (.value (.slice (some ⟨W.heap.size, 0, none⟩) 6 6)) (W.alloc (.cells (sixV A1 A2 A3 A4 A5 A6 c1 c2 c3 c4 c5 c6) 42)) := by
  obtain ⟨i, hi, h2⟩ := Option.map_eq_some_iff.1 bs_info; simp only [Prod.mk.injEq] at h2; have h := run_buildSlice (P := Tryz.prog) W 24 42 6 #[(0, .slice A1 1 c1), (1, .slice A2 1 c2), (2, .slice A3 1 c3), (3, .slice A4 1 c4), (4, .slice A5 1 c5), (5, .slice A6 1 c6)] (sixV A1 A2 A3 A4 A5 A6 c1 c2 c3 c4 c5 c6) i (.slice none 0 0) Tryz.underlying24 hi h2.2.2 (by rw [h2.1]; omega) (by rw [h2.1]; decide) (by
    rw [h2.1]; have h0 : Array.range (6 * 1) = #[0, 1, 2, 3, 4, 5] := by decide
    rw [h0]; simp [Instr.fill, Value.cells, sixV])
  simp [sliceRow, h, Result.andThen]
end Go.Proofs.YtepjbijhkkjbfaaGreat
namespace Go.Proofs.YtepjbijhkkjbfaaGreat
open Go.RowKit
attribute [local irreducible] wpOrd
section
variable {w W W' : World} {b r q lo hi t g B : Nat} {L L' ls : List Bytes} {d : Dig} {A : Option Addr} {l : List (SlC × List Dig)}
end
end Go.Proofs.YtepjbijhkkjbfaaGreat
namespace Go.Proofs.YtepjbijhkkjbfaaGreat
open Go.RowKit
section
variable {w0 w W W' : World} {b r q : Nat} {L : List Bytes}
end
theorem leaf_cell {w : World} {A : Option Addr} {l : List (SlC × Bytes)} (h : LeavesAt w A l) {j : Nat} (hj : j < l.length) :
    ∃ g o A1 c1, A = some ⟨g, o, none⟩ ∧ l[j].2.length ≤ c1 ∧ l[j].2.length ≤ 140737488351232 ∧ ∀ W, Kept w W → W.cell? ⟨g, o + j, none⟩ = some (.slice A1 l[j].2.length c1) ∧ Byt W A1 l[j].2 := by
  obtain ⟨g, o, hA, hc, hR, hm⟩ := h j hj; obtain ⟨A1, c1, hx, hcap, hb⟩ := hR.form; refine ⟨g, o, A1, c1, hA, hcap, hm, fun W hW => ⟨?_, hb.kept hW⟩⟩; rw [hx] at hc; exact hW.cell hc id
end Go.Proofs.YtepjbijhkkjbfaaGreat
namespace Go.Proofs.YtepjbijhkkjbfaaGreat
open Go.RowKit
section
variable {w : World} {b r q : Nat} {L : List Bytes} {A : Option Addr}
theorem proof_Fits_any (h : BookL w b r q L) {D : List Dig} (c : Nat) (hD : Digs w A D) (d : Dig) :
    Calls Tryz.prog 41 #[.pointer (some ⟨b, 0, none⟩), .agg (dA d), .slice A D.length c] w fun e W => ∃ z, e = .returned (.int .i64 z) ∧ (∃ L', BookL W b r q L' ∧ (∀ x ∈ L, x ∈ L') ∧ ((1 ≤ D.length ∧ D.length ≤ 4 ∧ z = (if upM shaM D = d then 0 else 100) ∧ upIn D ∈ L') ∨ (¬ (1 ≤ D.length ∧ D.length ≤ 4) ∧ z = 2))) ∧ Upd (Book3 b r q) w W := by
  by_cases hn : 1 ≤ D.length ∧ D.length ≤ 4
  · refine (proof_Fits h c hD hn.1 hn.2 d).mono ?_
    rintro e W ⟨rfl, hb, hu⟩; exact ⟨_, rfl, ⟨_, hb, fun x hx => mem_noteM.2 (.inl hx), .inl ⟨hn.1, hn.2, rfl, mem_noteM.2 (.inr rfl)⟩⟩, hu⟩
  · refine (proof_Fits_no d dig0 (z := 2) (by decide) (fun _ _ => tree_Up_no c (by omega))).mono ?_
    rintro e W ⟨rfl, hu⟩; exact ⟨_, rfl, ⟨_, h.kept hu, fun _ hx => hx, .inr ⟨hn, rfl⟩⟩, hu.to⟩
theorem proof_LeafFits_any (h : BookL w b r q L) {R : Bytes} (c : Nat) (hR : Byt w A R) (d : Dig) :
    Calls Tryz.prog 43 #[.pointer (some ⟨b, 0, none⟩), .agg (dA d), .slice A R.length c] w fun e W => ∃ z, e = .returned (.int .i64 z) ∧ (∃ L', BookL W b r q L' ∧ (∀ x ∈ L, x ∈ L') ∧ ((R.length < 65536 ∧ z = (if leafM shaM R = d then 0 else 100) ∧ leafIn R ∈ L') ∨ (65536 ≤ R.length ∧ z = 5))) ∧ Upd (Book3 b r q) w W := by
  by_cases hn : R.length < 65536
  · refine (proof_LeafFits h c hR hn d).mono ?_
    rintro e W ⟨rfl, hb, hu⟩; exact ⟨_, rfl, ⟨_, hb, fun x hx => mem_noteM.2 (.inl hx), .inl ⟨hn, rfl, mem_noteM.2 (.inr rfl)⟩⟩, hu⟩
  · refine (proof_LeafFits_no d dig0 (z := 5) (by decide) (fun _ _ => tree_Leaf_long c (by omega))).mono ?_
    rintro e W ⟨rfl, hu⟩; exact ⟨_, rfl, ⟨_, h.kept hu, fun _ hx => hx, .inr ⟨by omega, rfl⟩⟩, hu.to⟩
end
end Go.Proofs.YtepjbijhkkjbfaaGreat
namespace Go.Proofs.YtepjbijhkkjbfaaGreat
open Go.ChangeShapes Go.WideShapes Go.ChangeAt Go.RowKit
def clA (d : Dig) (lv lf : Int) (x y : SlC) : Array Value := (encB d.1 ++ [.int .i64 lv, .int .i64 lf, x.v, y.v]).toArray
@[simp, go_sem] theorem clA_size (d : Dig) (lv lf : Int) (x y : SlC) : (clA d lv lf x y).size = 36 := by simp [clA, encB_length, d.2]
@[simp, go_sem] theorem clA_one (d : Dig) (lv lf : Int) (x y : SlC) : oneB (clA d lv lf x y) = true := by
  have h1 := dA_one d; simp only [oneB, dA, clA, List.all_toArray, Array.all_eq_true, List.all_append, Bool.and_eq_true] at *
  first
    | exact ⟨h1, by rfl⟩
    | (refine ⟨?_, by rfl⟩; simpa using h1)
section
variable {W W' : World} {g : Nat} {d : Dig} {lv lf : Int} {x y : SlC}
end
section
variable {H : Type} {enc : TypeId × Value → H} {W : World}
end
end Go.Proofs.YtepjbijhkkjbfaaGreat
namespace Go.Proofs.YtepjbijhkkjbfaaGreat
open Go.RowKit
end Go.Proofs.YtepjbijhkkjbfaaGreat
namespace Go.Proofs.YtepjbijhkkjbfaaGreat
open Go.RowKit
theorem splice_set (l : List Value) (k : Nat) (v : Value) (h : k < l.length) : (splice l (k * 1) [v]).toArray = l.toArray.setIfInBounds k v := by
  apply Array.ext'; apply List.ext_getElem?; intro j; rw [show (splice l (k * 1) [v]).toArray.toList = splice l (k * 1) [v] from rfl, splice_get _ _ _ _ (by simp; omega)]; simp only [Array.toList_setIfInBounds, List.length_singleton, Nat.mul_one]
  by_cases hj : j = k
  · subst hj
    rw [List.getElem?_set_self h]; simp
  · rw [List.getElem?_set_ne (fun e => hj e.symm)]
    simp; omega
theorem own_setCell {W : World} {B : Nat} {v : Value} {xs : List SlC} {t : TypeId} (h : OwnRows slA 1 W B t v xs) {k : Nat} (hk : k < xs.length) (x : SlC) :
    ∃ g, v.ownBlock = some g ∧ OwnRows slA 1 (W.setCell ⟨g, k, none⟩ (.slice x.A x.n x.c)) B t v (xs.set k x) ∧ W.frozen? ⟨g, k, none⟩ = false := by
  obtain ⟨g, cur, hg, hb, hlen, ho⟩ := OwnRows.turn slA_size (by omega) h hk x; refine ⟨g, hg, ?_, frozen_of_row W g k _ _ hb⟩; have e : W.setCell ⟨g, k, none⟩ (.slice x.A x.n x.c) = W.setRow g (splice cur (k * 1) (slA x).toList).toArray := by
    rw [setCell_eq_setRow W g k cur.toArray t (0, 0) _ hb, show (slA x).toList = [.slice x.A x.n x.c] from rfl, splice_set _ _ _ (by omega)]
  rw [e]; exact ho
end Go.Proofs.YtepjbijhkkjbfaaGreat
