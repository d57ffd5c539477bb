import Derived.Test.YtepjbijhkkjbfaaGreatSetZy
import Derived.Test.YtepjbijhkkjbfaaGreatSetZc
import Derived.Test.YtepjbijhkkjbfaaGreatSetZr
set_option linter.unusedVariables false
set_option linter.unusedSimpArgs false
namespace Go.Proofs.YtepjbijhkkjbfaaGreat
open Go.RowKit
variable {Tu : Nat → Prop}
attribute [local irreducible] wpOrd
theorem shared6 {G : Prop} (S : Value → Value → Value → Value → Nat → World → Prop) {F : Value → Value → Value → Value → Nat → World → Prop} (main : (∀ a b c d g W, S a b c d g W → F a b c d g W) → G) (rest : ∀ a b c d g W, S a b c d g W → F a b c d g W) : G := main rest
def Rdy (Tu : Nat → Prop) (w1 : World) (c n : Nat) (root : Dig) (x33 x35 x37 x38 : Value) (g : Nat) (W : World) : Prop :=
  ∃ gs cs gt gy, x33 = .slice (some ⟨gs, 0, none⟩) (depthM n) cs ∧ x35 = .slice (some ⟨gt, 0, none⟩) n n ∧ x37 = .slice (some ⟨gy, 0, none⟩) n n ∧ x38 = .agg (rfA c root n (depthM n) gs cs gt gy) ∧ RN Tu W g c n root (rfX gs cs gt gy n) [] [] [] 0 0 ∧ Kept w1 W ∧ w1.heap.size ≤ g ∧ w1.heap.size ≤ gy
theorem rdy_of {w w1 W : World} {c n gs cs gt gy : Nat} {root : Dig} (hT : ∀ k, Tu k → k < w.heap.size) (hw : w.heap.size ≤ w1.heap.size) (hS : Kept w1 W) (hs : OwnRows inA 1 W w1.heap.size 3 (.slice (some ⟨gs, 0, none⟩) (depthM n) cs) (sizesM n)) (ht : OwnRows boA 1 W w1.heap.size 4 (.slice (some ⟨gt, 0, none⟩) n n) (List.replicate n false)) (hy : OwnS W w1.heap.size (.slice (some ⟨gy, 0, none⟩) n n) (List.replicate n ⟨none, 0, 0⟩)) :
    Rdy Tu w1 c n root (.slice (some ⟨gs, 0, none⟩) (depthM n) cs) (.slice (some ⟨gt, 0, none⟩) n n) (.slice (some ⟨gy, 0, none⟩) n n) (.agg (rfA c root n (depthM n) gs cs gt gy)) W.heap.size (W.alloc (.cells (rfA c root n (depthM n) gs cs gt gy) 84)) := by
  have hk : Kept W (W.alloc (.cells (rfA c root n (depthM n) gs cs gt gy) 84)) := (Upd.refl _ W).alloc _; have hn : ∀ k, w1.heap.size ≤ k → ¬ Tu k := fun k h1 h2 => by have := hT k h2; omega
  have e1 : (List.replicate n ((⟨none, 0, 0⟩ : SlC), ([] : Bytes))).map (·.1) = List.replicate n ⟨none, 0, 0⟩ := by rw [List.map_replicate]
  refine ⟨gs, cs, gt, gy, rfl, rfl, rfl, rfl, ⟨Blk.new W _ _, hn _ hS.size, OwnRows.upd (own_base hs (Nat.zero_le _)) hk (fun _ _ e => e), hn _ (World.ownsRow.lt hs gs rfl).1, OwnRows.nil _ _ _, fun k e => (by cases e), rfl, ⟨fun l hl => absurd hl (Nat.not_lt_zero l), fun l hl => absurd hl (Nat.not_lt_zero l), fun l _ hl => absurd hl (Nat.not_lt_zero l), fun l hl => absurd hl (Nat.not_lt_zero l)⟩, OwnRows.nil _ _ _, fun k e => (by cases e), rfl, ⟨fun l hl => absurd hl (Nat.not_lt_zero l), fun l hl => absurd hl (Nat.not_lt_zero l), fun l _ hl => absurd hl (Nat.not_lt_zero l)⟩,
    ⟨by rw [rowM_none]; exact OwnRows.upd (own_base ht (Nat.zero_le _)) hk (fun _ _ e => e), hn _ (World.ownsRow.lt ht gt rfl).1⟩, ⟨List.replicate n (⟨none, 0, 0⟩, []), by rw [e1]; exact OwnRows.upd (own_base hy (Nat.zero_le _)) hk (fun _ _ e => e), fun k e => ?_, fun p hp => ?_, by rw [List.map_replicate, bytesM_none]⟩, ⟨OwnRows.nil _ _ _, fun k e => (by cases e), fun p hp => absurd hp List.not_mem_nil, rfl⟩, (by intro e; cases e), ⟨OwnRows.nil _ _ _, fun k e => (by cases e), rfl, fun i hi => absurd hi (Nat.not_lt_zero i), fun i hi => absurd hi (Nat.not_lt_zero i)⟩, fun k e => (by cases e), fun i hi => absurd hi (Nat.not_lt_zero i)⟩, hS.alloc _, hS.size, (World.ownsRow.lt hy gy rfl).1⟩
  · cases e; exact hn _ (World.ownsRow.lt hy gy rfl).1
  · rw [(List.mem_replicate.1 hp).2]
    exact ⟨OwnB.nil _ _, by simp, fun k e => by cases e⟩
def BegP (Tu : Nat → Prop) (w : World) (c n : Nat) (root : Dig) (l : List (SlC × Bytes)) (L : List Bytes) (e : Ending) (W : World) : Prop :=
  (longB l = true ∧ e = .returned (.tuple #[.pointer none, .int .i64 5]) ∧ Upd (fun k => ¬ Tu k) w W) ∨
  (longB l = false ∧ ∃ g X L' O, e = .returned (.tuple #[.pointer (some ⟨g, 0, none⟩), .int .i64 0]) ∧ L'.length ≤ L.length + 2048 ∧ O = (if l = [] then none else some (secs l)) ∧ RB Tu W g c n root O (begS n O root) X L' ∧ Upd (fun k => ¬ Tu k) w W)
theorem RBk.av {W W' : World} {c : Nat} {L : List Bytes} {Av Av' : Nat → Prop} (h : RBk Tu W c L Av) (hA : ∀ k, Av' k → Av k ∨ W.heap.size ≤ k) (hu : Kept W W') : RBk Tu W' c L Av' := by
  obtain ⟨B, v, n0, xs, hr, hB, hc, hv, hx⟩ := h; refine ⟨B, v, n0, xs, hr.kept hu, Nat.le_trans hB hu.size, ⟨hc.1, fun e => (hA c e).elim hc.2 fun e2 => by have := hr.lt; omega⟩, fun k e => ⟨(hv k e).1, fun e3 => (hA k e3).elim (hv k e).2 fun e2 => by have := (World.ownsRow.lt hr.row k e).2; omega⟩, hx⟩
section
variable {W W' : World} {S : Nat → Prop} {g c n : Nat} {root : Dig} {X : RX} {li : List (SlC × Bytes)} {hs : List Bytes} {P : List (List Dig)} {j1 j2 : Nat} {L : List Bytes} {v' : Value}
theorem RBk.hv (h : RBk Tu W c L (rAv X)) (hr : RN Tu W g c n root X li hs P j1 j2) (hu : Upd (fun k => X.hv.ownBlock = some k ∨ k = g) W W') (hnew : v'.ownBlock = X.hv.ownBlock ∨ v'.ownBlock = some W.heap.size) : RBk Tu W' c L (rAv { X with hv := v' }) := by
  have h1 : RBk Tu W c L (fun k => rAv X k ∨ rAv { X with hv := v' } k) := h.av (fun k e => by
    rcases e with e | e
    · exact .inl e
    · rcases e with e | e
      · exact .inl (.inl e)
      · have e0 : v'.ownBlock = some k := e
        rcases hnew with e1 | e1
        · exact .inl (.inr (by rw [← e1]; exact e0))
        · rw [e1] at e0
          exact .inr (Nat.le_of_eq (Option.some.inj e0))) (Upd.refl _ _)
  have h2 := h1.upd hu (fun k cs t fr hk hT ht e => by
    rcases e with e | rfl
    · obtain ⟨cur, hc⟩ := own_cells hr.h.row e
      rw [hk] at hc; simp only [Option.some.injEq, Obj.cells.injEq] at hc; obtain ⟨-, rfl, -⟩ := hc; rcases ht with h3 | ⟨-, h3⟩ | h3
      · exact absurd h3 (by decide)
      · exact h3 (.inl (.inr e))
      · exact absurd h3 (by decide)
    · have hc : W.heap[k]? = some (.cells _ 84 (0, 0)) := hr.blk
      rw [hk] at hc; simp only [Option.some.injEq, Obj.cells.injEq] at hc; obtain ⟨-, rfl, -⟩ := hc; rcases ht with h3 | ⟨h3, -⟩ | h3 <;> exact absurd h3 (by decide))
  obtain ⟨B, v, n0, xs, a1, a2, a3, a4, a5⟩ := h2; exact ⟨B, v, n0, xs, a1, a2, ⟨a3.1, fun e => a3.2 (.inr e)⟩, fun k e => ⟨(a4 k e).1, fun e2 => (a4 k e).2 (.inr e2)⟩, a5⟩
theorem RBk.typ {Av : Nat → Prop} (h : RBk Tu W c L Av) (hu : Upd S W W') (hs : ∀ k, S k → ∃ cs t fr, W.heap[k]? = some (.cells cs t fr) ∧ t ≠ 88 ∧ t ≠ 42 ∧ t ≠ 5) : RBk Tu W' c L Av := h.upd hu fun k cs t fr hk hT ht e => by
  obtain ⟨cs', t', fr', hc, h1, h2, h3⟩ := hs k e; rw [hk] at hc; simp only [Option.some.injEq, Obj.cells.injEq] at hc; obtain ⟨-, rfl, -⟩ := hc; rcases ht with h4 | ⟨h4, -⟩ | h4
  · exact h1 h4
  · exact h2 h4
  · exact h3 h4
theorem RL.leaves {A : Option Addr} {m k : Nat} (h : RL Tu W (.slice A m k) hs li) : LeavesAt W A li := OwnS.leaves h.row fun p hp => ⟨(h.leaf p hp).1.leafAt, by have := (h.leaf p hp).2.1; omega⟩
theorem RN.bk {B : Nat} {v : Value} {n0 : Int} {xs : List SlC} (h : RN Tu W g c n root X li hs P j1 j2) (hr : RefBook W B c v n0 xs L) (hc : ¬ rAv X c) (hv : ∀ k, v.ownBlock = some k → ¬ rAv X k) (hu : Upd (fun k => k = c ∨ v.ownBlock = some k) W W') : RN Tu W' g c n root X li hs P j1 j2 := by
  have ha : ∀ k, rAv X k → ¬ (k = c ∨ v.ownBlock = some k) := fun k hk e => by
    rcases e with rfl | e
    · exact hc hk
    · exact hv k e hk
  exact h.upd hu (fun t h1 h2 k cs fr hk _ => hr.far hk h2 h1) (ha _ (.inl rfl)) (fun k e => ha k (.inr e))
theorem RP.of {B : Nat} {vo : Value} (h : OwnP W B vo P) (hT : ∀ k, Tu k → k < B) : ∃ xs, RP Tu W vo xs P := by
  obtain ⟨xs, h1, h2, h3⟩ := h; exact ⟨xs, own_base h1 (Nat.zero_le _), fun k e e2 => by have := (World.ownsRow.lt h1 k e).1; have := hT k e2; omega, h2, fun i hi hi' => own_base (h3 i hi hi') (Nat.zero_le _), fun i hi k e e2 => by have := (World.ownsRow.lt (h3 i hi (by omega)) k e).1; have := hT k e2; omega⟩
theorem RN.done {O : Option (List Bytes)} (h : RN Tu W g c n root X li hs P (depthM n) (depthM n)) (n1 : 1 ≤ n) (n2 : n ≤ 1024) (hO : RO Tu W n X O) : RFet Tu W g c n root O (fun _ _ => none, fun _ => none) X :=
  ⟨⟨h.blk, h.gT, h.szs, h.szT, h.kr, h.kT, h.kl, h.dr, h.dT, h.dl⟩, h.k, h.d, h.t, h.y, hO, n1, n2⟩
theorem RN.ro (h : RN Tu W g c n root X li hs (levelsM shaM (hs.map (leafM shaM))) j1 j2) (hl : hs.length = n) : RO Tu W n X (some hs) := ⟨hl, ⟨li, h.h⟩, h.o, h.hne, h.ldx⟩
end
section
variable {w : World} {c n : Nat} {root : Dig} {L : List Bytes} {A : Option Addr} {l : List (SlC × Bytes)}
set_option maxHeartbeats 4000000 in
set_option maxRecDepth 20000 in
theorem ref_FBegin (hb : RBk Tu w c L (fun _ => False)) (hT : ∀ k, Tu k → k ≤ w.heap.size) (hp : Tu w.heap.size) (hM : L.length ≤ 80000) (h1 : 1 ≤ n) (h2 : n ≤ 1024) (cc : Nat) (hn : l.length = n) (hL : ∀ W', Upd (fun k => ¬ Tu k) w W' → LeavesAt W' A l) (hA : ∀ a, A = some a → Tu a.block) :
    Calls Tryz.prog 7 #[.pointer (some ⟨c, 0, none⟩), .agg (dA root), .int .i64 (n : Int), .slice A n cc] w fun e W => BegP Tu w c n root l L e W := by
  have k1 : Kept w (w.alloc (.cells (dA root) 23)) := (Upd.refl _ w).alloc _; have r1 : Blk (w.alloc (.cells (dA root) 23)) w.heap.size 23 (encB root.1) := Blk.new w _ _; generalize hW1 : w.alloc (.cells (dA root) 23) = w1 at *; have HX := Lib.hid (And.intro (hb.kept k1) (And.intro r1 (And.intro hL (And.intro hM (And.intro hn hA))))); have HT := Lib.hid (show ∀ k, Tu k → k < w1.heap.size from fun k e => Nat.lt_of_le_of_lt (hT k e) r1.lt); have HP := Lib.hid hp; have HN := Lib.hid (And.intro h1 (And.intro h2 (And.intro k1 k1.size))); have d0 : decide ((n : Int) < 1) = false := decide_eq_false (by omega); have d0n : decide (n < 1) = false := decide_eq_false (by omega); have d1 : decide ((1024 : Int) < (n : Int)) = false := decide_eq_false (by omega); have d1n : decide (1024 < n) = false := decide_eq_false (by omega); have d2 : ((n : Int) != 0) = true := by simp; omega
  have d2n : decide ((n : Int) = 0) = false := decide_eq_false (by omega); have d3 : ((n : Int) != (n : Int)) = false := by simp
  have f1 : ∀ W, Kept w1 W → segB W ⟨w.heap.size, 0, none⟩ 32 = true := fun W hW => (dig_at (r1.kept hW)).1; have f2 : ∀ W, Kept w1 W → segV W ⟨w.heap.size, 0, none⟩ 32 = dA root := fun W hW => (dig_at (r1.kept hW)).2; clear hb hT hp hM h1 h2 hn hL hA k1 r1
  go_enter Tryz.func7, Tryz.ntmps7
  go_wp2_with fail; clear d0 d0n d1 d1n d2 d2n d3; apply shared6 (Rdy Tu w1 c n root)
  · intro hrest
    have hS0 : Kept w1 w1.drew := (Upd.refl _ w1).drew; refine wp_region_tree3 (.take 0 (.take 1 (.take 2 (.take 4 (.take 6 (.three 3 5 7 (.two 5 7 (.one 7 (.take 8 (.one 9 (.take 10 .done)))) (.one 5 (.take 8 (.one 9 (.take 10 .done))))) (.two 3 7 (.one 7 (.take 8 (.one 9 (.take 10 .done)))) (.one 3 (.take 8 (.one 9 (.take 10 .done))))) (.two 3 5 (.one 5 (.take 8 (.one 9 (.take 10 .done)))) (.one 3 (.take 8 (.one 9 (.take 10 .done)))))))))) ) (by kernel_rfl) (by kernel_rfl) (Kept w1) hS0 ?_; simp only [OT3.ops, List.getD_cons_zero, List.getD_cons_succ]
    iterate 5 (refine wpOT_held (fun K hK => ?_); go_simp; first | (apply Exists.intro; refine ⟨fun W hW => ?_, hK _ ?_⟩; (go_simp; first | done | exact rfl); clear hK K) | (refine hK _ ?_; clear hK K))
    generalize w1.drew = wd at *; refine wpOT_three (fun K hK => ?_) (fun K hK => ?_) (fun K hK => ?_) hS0
    ·
      go_simp; refine (ref_sizes wd n HN.out.1 HN.out.2.1).mono ?_; rintro e wA ⟨gs, cs, rfl, hrs, hcwA⟩
      replace hrs := own_base hrs (show w1.heap.size ≤ _ from hS0.size)
      have hS1 : Kept w1 wA := hS0.then hcwA (fun _ _ e => e); refine hK _ _ hS1 ?_; clear hK K; refine wpOT_fork (fun K hK => ?_) (fun K hK => ?_) hS1
      ·
        obtain ⟨wB, hmt, hrt, hcwB⟩ := run_make_bools n (by have := HN.out.2.1; omega) wA; go_simp
        replace hrt := own_base hrt (show w1.heap.size ≤ _ from hS1.size)
        obtain ⟨gt, hgt⟩ : ∃ gt, gt = wA.heap.size := ⟨_, rfl⟩; rw [← hgt] at hrt ⊢; clear hgt hmt; have hS2 : Kept w1 wB := hS1.then hcwB (fun _ _ e => e); refine hK _ _ hS2 ?_; clear hK K; refine wpOT_step (fun K hK => ?_) hS2; obtain ⟨wC, hmy, hry, hcwC⟩ := run_make_bss n (by have := HN.out.2.1; omega) wB; go_simp
        replace hry := own_base hry (show w1.heap.size ≤ _ from hS2.size)
        obtain ⟨gy, hgy⟩ : ∃ gy, gy = wB.heap.size := ⟨_, rfl⟩; rw [← hgy] at hry ⊢; clear hgy hmy; have hS3 : Kept w1 wC := hS2.then hcwC (fun _ _ e => e); refine hK _ _ hS3 ?_; clear hK K
        replace hrs := OwnRows.upd hrs hcwB (fun _ _ e => e)
        replace hrs := OwnRows.upd hrs hcwC (fun _ _ e => e)
        replace hrt := OwnRows.upd hrt hcwC (fun _ _ e => e)
        have HR := rdy_of (c := c) (root := root) HT.out (Nat.le_refl _) hS3 hrs hrt hry; have hS4 := hS3.alloc (.cells (rfA c root n (depthM n) gs cs gt gy) 84); clear hcwA hcwB hcwC hrs hrt hry hS0 hS1 hS2
        iterate 1 (refine wpOT_held (fun K hK => ?_); go_simp; first | (apply Exists.intro; refine ⟨fun W hW => ?_, hK _ ?_⟩; (go_simp; first | done | exact rfl); clear hK K) | (refine hK _ ?_; clear hK K))
        refine wpOT_step (fun K hK => ?_) hS3; go_simp; refine hK _ _ hS4 ?_; clear hK K; obtain ⟨g, hg⟩ : ∃ g, g = wC.heap.size := ⟨_, rfl⟩; rw [← hg] at HR ⊢; clear hg; generalize wC.alloc (.cells (rfA c root n (depthM n) gs cs gt gy) 84) = w5 at *
        iterate 1 (refine wpOT_held (fun K hK => ?_); go_simp; first | (apply Exists.intro; refine ⟨fun W hW => ?_, hK _ ?_⟩; (go_simp; first | done | exact rfl); clear hK K) | (refine hK _ ?_; clear hK K))
        refine wpOT_nil ?_; generalize Value.slice (some ⟨gs, 0, none⟩) (depthM n) cs = x33 at HR ⊢; generalize Value.slice (some ⟨gt, 0, none⟩) n n = x35 at HR ⊢; generalize Value.slice (some ⟨gy, 0, none⟩) n n = x37 at HR ⊢; generalize Value.agg (rfA c root n (depthM n) gs cs gt gy) = x38 at HR ⊢; exact hrest x33 x35 x37 x38 g w5 HR
      ·
        obtain ⟨wB, hmy, hry, hcwB⟩ := run_make_bss n (by have := HN.out.2.1; omega) wA; go_simp
        replace hry := own_base hry (show w1.heap.size ≤ _ from hS1.size)
        obtain ⟨gy, hgy⟩ : ∃ gy, gy = wA.heap.size := ⟨_, rfl⟩; rw [← hgy] at hry ⊢; clear hgy hmy; have hS2 : Kept w1 wB := hS1.then hcwB (fun _ _ e => e); refine hK _ _ hS2 ?_; clear hK K; refine wpOT_step (fun K hK => ?_) hS2; obtain ⟨wC, hmt, hrt, hcwC⟩ := run_make_bools n (by have := HN.out.2.1; omega) wB; go_simp
        replace hrt := own_base hrt (show w1.heap.size ≤ _ from hS2.size)
        obtain ⟨gt, hgt⟩ : ∃ gt, gt = wB.heap.size := ⟨_, rfl⟩; rw [← hgt] at hrt ⊢; clear hgt hmt; have hS3 : Kept w1 wC := hS2.then hcwC (fun _ _ e => e); refine hK _ _ hS3 ?_; clear hK K
        replace hrs := OwnRows.upd hrs hcwB (fun _ _ e => e)
        replace hrs := OwnRows.upd hrs hcwC (fun _ _ e => e)
        replace hry := OwnRows.upd hry hcwC (fun _ _ e => e)
        have HR := rdy_of (c := c) (root := root) HT.out (Nat.le_refl _) hS3 hrs hrt hry; have hS4 := hS3.alloc (.cells (rfA c root n (depthM n) gs cs gt gy) 84); clear hcwA hcwB hcwC hrs hrt hry hS0 hS1 hS2
        iterate 1 (refine wpOT_held (fun K hK => ?_); go_simp; first | (apply Exists.intro; refine ⟨fun W hW => ?_, hK _ ?_⟩; (go_simp; first | done | exact rfl); clear hK K) | (refine hK _ ?_; clear hK K))
        refine wpOT_step (fun K hK => ?_) hS3; go_simp; refine hK _ _ hS4 ?_; clear hK K; obtain ⟨g, hg⟩ : ∃ g, g = wC.heap.size := ⟨_, rfl⟩; rw [← hg] at HR ⊢; clear hg; generalize wC.alloc (.cells (rfA c root n (depthM n) gs cs gt gy) 84) = w5 at *
        iterate 1 (refine wpOT_held (fun K hK => ?_); go_simp; first | (apply Exists.intro; refine ⟨fun W hW => ?_, hK _ ?_⟩; (go_simp; first | done | exact rfl); clear hK K) | (refine hK _ ?_; clear hK K))
        refine wpOT_nil ?_; generalize Value.slice (some ⟨gs, 0, none⟩) (depthM n) cs = x33 at HR ⊢; generalize Value.slice (some ⟨gt, 0, none⟩) n n = x35 at HR ⊢; generalize Value.slice (some ⟨gy, 0, none⟩) n n = x37 at HR ⊢; generalize Value.agg (rfA c root n (depthM n) gs cs gt gy) = x38 at HR ⊢; exact hrest x33 x35 x37 x38 g w5 HR
    ·
      obtain ⟨wA, hmt, hrt, hcwA⟩ := run_make_bools n (by have := HN.out.2.1; omega) wd; go_simp
      replace hrt := own_base hrt (show w1.heap.size ≤ _ from hS0.size)
      obtain ⟨gt, hgt⟩ : ∃ gt, gt = wd.heap.size := ⟨_, rfl⟩; rw [← hgt] at hrt ⊢; clear hgt hmt; have hS1 : Kept w1 wA := hS0.then hcwA (fun _ _ e => e); refine hK _ _ hS1 ?_; clear hK K; refine wpOT_fork (fun K hK => ?_) (fun K hK => ?_) hS1
      ·
        go_simp; refine (ref_sizes wA n HN.out.1 HN.out.2.1).mono ?_; rintro e wB ⟨gs, cs, rfl, hrs, hcwB⟩
        replace hrs := own_base hrs (show w1.heap.size ≤ _ from hS1.size)
        have hS2 : Kept w1 wB := hS1.then hcwB (fun _ _ e => e); refine hK _ _ hS2 ?_; clear hK K; refine wpOT_step (fun K hK => ?_) hS2; obtain ⟨wC, hmy, hry, hcwC⟩ := run_make_bss n (by have := HN.out.2.1; omega) wB; go_simp
        replace hry := own_base hry (show w1.heap.size ≤ _ from hS2.size)
        obtain ⟨gy, hgy⟩ : ∃ gy, gy = wB.heap.size := ⟨_, rfl⟩; rw [← hgy] at hry ⊢; clear hgy hmy; have hS3 : Kept w1 wC := hS2.then hcwC (fun _ _ e => e); refine hK _ _ hS3 ?_; clear hK K
        replace hrt := OwnRows.upd hrt hcwB (fun _ _ e => e)
        replace hrt := OwnRows.upd hrt hcwC (fun _ _ e => e)
        replace hrs := OwnRows.upd hrs hcwC (fun _ _ e => e)
        have HR := rdy_of (c := c) (root := root) HT.out (Nat.le_refl _) hS3 hrs hrt hry; have hS4 := hS3.alloc (.cells (rfA c root n (depthM n) gs cs gt gy) 84); clear hcwA hcwB hcwC hrs hrt hry hS0 hS1 hS2
        iterate 1 (refine wpOT_held (fun K hK => ?_); go_simp; first | (apply Exists.intro; refine ⟨fun W hW => ?_, hK _ ?_⟩; (go_simp; first | done | exact rfl); clear hK K) | (refine hK _ ?_; clear hK K))
        refine wpOT_step (fun K hK => ?_) hS3; go_simp; refine hK _ _ hS4 ?_; clear hK K; obtain ⟨g, hg⟩ : ∃ g, g = wC.heap.size := ⟨_, rfl⟩; rw [← hg] at HR ⊢; clear hg; generalize wC.alloc (.cells (rfA c root n (depthM n) gs cs gt gy) 84) = w5 at *
        iterate 1 (refine wpOT_held (fun K hK => ?_); go_simp; first | (apply Exists.intro; refine ⟨fun W hW => ?_, hK _ ?_⟩; (go_simp; first | done | exact rfl); clear hK K) | (refine hK _ ?_; clear hK K))
        refine wpOT_nil ?_; generalize Value.slice (some ⟨gs, 0, none⟩) (depthM n) cs = x33 at HR ⊢; generalize Value.slice (some ⟨gt, 0, none⟩) n n = x35 at HR ⊢; generalize Value.slice (some ⟨gy, 0, none⟩) n n = x37 at HR ⊢; generalize Value.agg (rfA c root n (depthM n) gs cs gt gy) = x38 at HR ⊢; exact hrest x33 x35 x37 x38 g w5 HR
      ·
        obtain ⟨wB, hmy, hry, hcwB⟩ := run_make_bss n (by have := HN.out.2.1; omega) wA; go_simp
        replace hry := own_base hry (show w1.heap.size ≤ _ from hS1.size)
        obtain ⟨gy, hgy⟩ : ∃ gy, gy = wA.heap.size := ⟨_, rfl⟩; rw [← hgy] at hry ⊢; clear hgy hmy; have hS2 : Kept w1 wB := hS1.then hcwB (fun _ _ e => e); refine hK _ _ hS2 ?_; clear hK K; refine wpOT_step (fun K hK => ?_) hS2; go_simp; refine (ref_sizes wB n HN.out.1 HN.out.2.1).mono ?_; rintro e wC ⟨gs, cs, rfl, hrs, hcwC⟩
        replace hrs := own_base hrs (show w1.heap.size ≤ _ from hS2.size)
        have hS3 : Kept w1 wC := hS2.then hcwC (fun _ _ e => e); refine hK _ _ hS3 ?_; clear hK K
        replace hrt := OwnRows.upd hrt hcwB (fun _ _ e => e)
        replace hrt := OwnRows.upd hrt hcwC (fun _ _ e => e)
        replace hry := OwnRows.upd hry hcwC (fun _ _ e => e)
        have HR := rdy_of (c := c) (root := root) HT.out (Nat.le_refl _) hS3 hrs hrt hry; have hS4 := hS3.alloc (.cells (rfA c root n (depthM n) gs cs gt gy) 84); clear hcwA hcwB hcwC hrs hrt hry hS0 hS1 hS2
        iterate 1 (refine wpOT_held (fun K hK => ?_); go_simp; first | (apply Exists.intro; refine ⟨fun W hW => ?_, hK _ ?_⟩; (go_simp; first | done | exact rfl); clear hK K) | (refine hK _ ?_; clear hK K))
        refine wpOT_step (fun K hK => ?_) hS3; go_simp; refine hK _ _ hS4 ?_; clear hK K; obtain ⟨g, hg⟩ : ∃ g, g = wC.heap.size := ⟨_, rfl⟩; rw [← hg] at HR ⊢; clear hg; generalize wC.alloc (.cells (rfA c root n (depthM n) gs cs gt gy) 84) = w5 at *
        iterate 1 (refine wpOT_held (fun K hK => ?_); go_simp; first | (apply Exists.intro; refine ⟨fun W hW => ?_, hK _ ?_⟩; (go_simp; first | done | exact rfl); clear hK K) | (refine hK _ ?_; clear hK K))
        refine wpOT_nil ?_; generalize Value.slice (some ⟨gs, 0, none⟩) (depthM n) cs = x33 at HR ⊢; generalize Value.slice (some ⟨gt, 0, none⟩) n n = x35 at HR ⊢; generalize Value.slice (some ⟨gy, 0, none⟩) n n = x37 at HR ⊢; generalize Value.agg (rfA c root n (depthM n) gs cs gt gy) = x38 at HR ⊢; exact hrest x33 x35 x37 x38 g w5 HR
    ·
      obtain ⟨wA, hmy, hry, hcwA⟩ := run_make_bss n (by have := HN.out.2.1; omega) wd; go_simp
      replace hry := own_base hry (show w1.heap.size ≤ _ from hS0.size)
      obtain ⟨gy, hgy⟩ : ∃ gy, gy = wd.heap.size := ⟨_, rfl⟩; rw [← hgy] at hry ⊢; clear hgy hmy; have hS1 : Kept w1 wA := hS0.then hcwA (fun _ _ e => e); refine hK _ _ hS1 ?_; clear hK K; refine wpOT_fork (fun K hK => ?_) (fun K hK => ?_) hS1
      ·
        go_simp; refine (ref_sizes wA n HN.out.1 HN.out.2.1).mono ?_; rintro e wB ⟨gs, cs, rfl, hrs, hcwB⟩
        replace hrs := own_base hrs (show w1.heap.size ≤ _ from hS1.size)
        have hS2 : Kept w1 wB := hS1.then hcwB (fun _ _ e => e); refine hK _ _ hS2 ?_; clear hK K; refine wpOT_step (fun K hK => ?_) hS2; obtain ⟨wC, hmt, hrt, hcwC⟩ := run_make_bools n (by have := HN.out.2.1; omega) wB; go_simp
        replace hrt := own_base hrt (show w1.heap.size ≤ _ from hS2.size)
        obtain ⟨gt, hgt⟩ : ∃ gt, gt = wB.heap.size := ⟨_, rfl⟩; rw [← hgt] at hrt ⊢; clear hgt hmt; have hS3 : Kept w1 wC := hS2.then hcwC (fun _ _ e => e); refine hK _ _ hS3 ?_; clear hK K
        replace hry := OwnRows.upd hry hcwB (fun _ _ e => e)
        replace hry := OwnRows.upd hry hcwC (fun _ _ e => e)
        replace hrs := OwnRows.upd hrs hcwC (fun _ _ e => e)
        have HR := rdy_of (c := c) (root := root) HT.out (Nat.le_refl _) hS3 hrs hrt hry; have hS4 := hS3.alloc (.cells (rfA c root n (depthM n) gs cs gt gy) 84); clear hcwA hcwB hcwC hrs hrt hry hS0 hS1 hS2
        iterate 1 (refine wpOT_held (fun K hK => ?_); go_simp; first | (apply Exists.intro; refine ⟨fun W hW => ?_, hK _ ?_⟩; (go_simp; first | done | exact rfl); clear hK K) | (refine hK _ ?_; clear hK K))
        refine wpOT_step (fun K hK => ?_) hS3; go_simp; refine hK _ _ hS4 ?_; clear hK K; obtain ⟨g, hg⟩ : ∃ g, g = wC.heap.size := ⟨_, rfl⟩; rw [← hg] at HR ⊢; clear hg; generalize wC.alloc (.cells (rfA c root n (depthM n) gs cs gt gy) 84) = w5 at *
        iterate 1 (refine wpOT_held (fun K hK => ?_); go_simp; first | (apply Exists.intro; refine ⟨fun W hW => ?_, hK _ ?_⟩; (go_simp; first | done | exact rfl); clear hK K) | (refine hK _ ?_; clear hK K))
        refine wpOT_nil ?_; generalize Value.slice (some ⟨gs, 0, none⟩) (depthM n) cs = x33 at HR ⊢; generalize Value.slice (some ⟨gt, 0, none⟩) n n = x35 at HR ⊢; generalize Value.slice (some ⟨gy, 0, none⟩) n n = x37 at HR ⊢; generalize Value.agg (rfA c root n (depthM n) gs cs gt gy) = x38 at HR ⊢; exact hrest x33 x35 x37 x38 g w5 HR
      ·
        obtain ⟨wB, hmt, hrt, hcwB⟩ := run_make_bools n (by have := HN.out.2.1; omega) wA; go_simp
        replace hrt := own_base hrt (show w1.heap.size ≤ _ from hS1.size)
        obtain ⟨gt, hgt⟩ : ∃ gt, gt = wA.heap.size := ⟨_, rfl⟩; rw [← hgt] at hrt ⊢; clear hgt hmt; have hS2 : Kept w1 wB := hS1.then hcwB (fun _ _ e => e); refine hK _ _ hS2 ?_; clear hK K; refine wpOT_step (fun K hK => ?_) hS2; go_simp; refine (ref_sizes wB n HN.out.1 HN.out.2.1).mono ?_; rintro e wC ⟨gs, cs, rfl, hrs, hcwC⟩
        replace hrs := own_base hrs (show w1.heap.size ≤ _ from hS2.size)
        have hS3 : Kept w1 wC := hS2.then hcwC (fun _ _ e => e); refine hK _ _ hS3 ?_; clear hK K
        replace hry := OwnRows.upd hry hcwB (fun _ _ e => e)
        replace hry := OwnRows.upd hry hcwC (fun _ _ e => e)
        replace hrt := OwnRows.upd hrt hcwC (fun _ _ e => e)
        have HR := rdy_of (c := c) (root := root) HT.out (Nat.le_refl _) hS3 hrs hrt hry; have hS4 := hS3.alloc (.cells (rfA c root n (depthM n) gs cs gt gy) 84); clear hcwA hcwB hcwC hrs hrt hry hS0 hS1 hS2
        iterate 1 (refine wpOT_held (fun K hK => ?_); go_simp; first | (apply Exists.intro; refine ⟨fun W hW => ?_, hK _ ?_⟩; (go_simp; first | done | exact rfl); clear hK K) | (refine hK _ ?_; clear hK K))
        refine wpOT_step (fun K hK => ?_) hS3; go_simp; refine hK _ _ hS4 ?_; clear hK K; obtain ⟨g, hg⟩ : ∃ g, g = wC.heap.size := ⟨_, rfl⟩; rw [← hg] at HR ⊢; clear hg; generalize wC.alloc (.cells (rfA c root n (depthM n) gs cs gt gy) 84) = w5 at *
        iterate 1 (refine wpOT_held (fun K hK => ?_); go_simp; first | (apply Exists.intro; refine ⟨fun W hW => ?_, hK _ ?_⟩; (go_simp; first | done | exact rfl); clear hK K) | (refine hK _ ?_; clear hK K))
        refine wpOT_nil ?_; generalize Value.slice (some ⟨gs, 0, none⟩) (depthM n) cs = x33 at HR ⊢; generalize Value.slice (some ⟨gt, 0, none⟩) n n = x35 at HR ⊢; generalize Value.slice (some ⟨gy, 0, none⟩) n n = x37 at HR ⊢; generalize Value.agg (rfA c root n (depthM n) gs cs gt gy) = x38 at HR ⊢; exact hrest x33 x35 x37 x38 g w5 HR
  · rintro x33 x35 x37 x38 g W ⟨gs, cs, gt, gy, -, -, -, -, hR, hu, hlg, hly⟩
    clear f1 f2; have hB0 : RBk Tu W c L (rAv (rfX gs cs gt gy n)) := HX.out.1.av (fun k e => by
      rcases e with e | e
      · exact .inr (by rw [e]; exact hly)
      · cases e) hu
    have HS := Lib.hid (And.intro hR (And.intro hB0 (And.intro (show Upd (fun k => ¬ Tu k) w1 W from hu.to) (show Blk W w.heap.size 23 (encB root.1) from HX.out.2.1.kept hu)))); clear hR hu hlg hly hB0 hW1; go_wp2_with fail
    go_loopw [11] (fun u wr => ∃ (k : Nat) (A0 : Option Addr) (m0 c0 : Nat) (li : List (SlC × Bytes)), k ≤ n ∧ u = .int .i64 (k : Int) ∧ RN Tu wr g c n root { rfX gs cs gt gy n with hv := .slice A0 m0 c0 } li ((secs l).take k) [] 0 0 ∧ RBk Tu wr c L (rAv { rfX gs cs gt gy n with hv := .slice A0 m0 c0 }) ∧ Upd (fun k => ¬ Tu k) w1 wr ∧ Blk wr w.heap.size 23 (encB root.1) ∧ ∀ j (hj : j < l.length), j < k → l[j].2.length < 65536) (fun u _ => 3000 - (intOf u).toNat)
    case atStart => exact ⟨0, none, 0, 0, [], Nat.zero_le _, rfl, HS.out.1, HS.out.2.1, HS.out.2.2.1, HS.out.2.2.2, fun j _ hj => absurd hj (Nat.not_lt_zero j)⟩
    case round =>
      clear HS; obtain ⟨k, A0, m0, c0, li, hk, rfl, hR, hB, hu, hrt, hsh⟩ := hrel; rcases Nat.lt_or_ge k n with hlt | hge
      · have hki : (k : Int) < (n : Int) := by omega
        have hk5 : (k : Int) ≤ 1024 := by have := HN.out.2.1; omega
        have hkl : k < l.length := by rw [HX.out.2.2.2.2.1]; exact hlt
        obtain ⟨g1, o1, A1, c1, hA1, hc1, hR1, -⟩ := (HX.out.2.2.1 wr (HN.out.2.2.1.to.trans hu)).get hkl; have hTg : Tu g1 := HX.out.2.2.2.2.2 _ hA1; have hsk : (secs l).take (k + 1) = (secs l).take k ++ [l[k].2] := by
          rw [List.take_succ_eq_append_getElem (by rw [List.length_map]; exact hkl), List.getElem_map]
        subst hA1; have hRlong := longB_true hkl; have hRsh : ∀ (_ : l[k].2.length < 65536) j (hj : j < l.length), j < k + 1 → l[j].2.length < 65536 := fun h0 j hj hjk => by
          rcases Nat.lt_or_ge j k with h1 | h1
          · exact hsh j hj h1
          · obtain rfl : j = k := by omega
            exact h0
        have hlik : li.length = k := by have := congrArg List.length hR.h.all; rw [List.length_map, List.length_take, List.length_map, HX.out.2.2.2.2.1] at this; omega
        generalize l[k].2 = R at *
        by_cases hlong : 65536 ≤ R.length
        · have hd : decide ((65536 : Int) ≤ (R.length : Int)) = true := decide_eq_true (by omega)
          have hdn : decide (65536 ≤ R.length) = true := decide_eq_true hlong; have HF := Lib.hid (And.intro (hRlong hlong) (show Upd (fun k => ¬ Tu k) w wr from HN.out.2.2.1.to.trans hu)); clear hR hB hu hrt hsh hlt hk hkl hR1 hTg hsk hRlong hRsh hlik hlong; go_wp2
          go_ret2
          exact .inl ⟨HF.out.1, rfl, HF.out.2⟩
        · have hd : decide ((65536 : Int) ≤ (R.length : Int)) = false := decide_eq_false (by omega)
          have hdn : decide (65536 ≤ R.length) = false := decide_eq_false hlong; have hTS : ∀ j, (j = g ∨ (Value.slice A0 m0 c0).ownBlock = some j) → ¬ Tu j := fun j e => by
            rcases e with rfl | e
            · exact hR.gT
            · exact hR.h.nT j e
          have hrS : ¬ (w.heap.size = g ∨ (Value.slice A0 m0 c0).ownBlock = some w.heap.size) := fun e => by
            rcases e with e | e
            · exact cells_ne hrt hR.blk (by decide) e
            · obtain ⟨cur, hc⟩ := own_cells hR.h.row (k := w.heap.size) e
              exact cells_ne hc hrt (by decide) rfl
          have HQ := Lib.hid (And.intro hu (And.intro hrt (And.intro (show li.length ≤ 1024 by have := HN.out.2.1; omega) (And.intro (show R.length < 65536 by omega) (And.intro hlt (And.intro hRsh (And.intro hsk (And.intro hrS hTS)))))))); have HFL := Lib.hid (And.intro hR hB); have HR1 := Lib.hid hR1; have f2 : ∀ W, Upd (fun j => j = g ∨ (Value.slice A0 m0 c0).ownBlock = some j) wr W → W.cell? ⟨g1, o1 + k, none⟩ = some (.slice A1 R.length c1) := fun W hW => hW.cell hc1 fun e => hTS _ e hTg; clear hR hB hu hrt hsh hlt hk hkl hR1 hTg hsk hRlong hRsh hlik hlong hTS hrS; go_wp2_with fail; clear hc1; refine wp_region_tree (.take 0 (.take 1 (.take 2 (.take 3 (.take 5 (.take 6 (.take 7 (.take 8 (.two 4 9 (.one 9 (.one 10 (.one 11 (.take 12 (.take 13 (.one 14 .done)))))) (.two 4 10 (.one 10 (.one 11 (.take 12 (.take 13 (.one 14 .done))))) (.one 4 (.one 11 (.take 12 (.take 13 (.one 14 .done))))))))))))))) (by kernel_rfl) (by kernel_rfl) (Upd (fun j => j = g ∨ (Value.slice A0 m0 c0).ownBlock = some j) wr) ((Upd.refl _ _).drew) ?_; simp only [OT.ops, List.getD_cons_zero, List.getD_cons_succ]
          iterate 8 (refine wpOO_held (fun K hK => ?_); go_simp; first | (apply Exists.intro; refine ⟨fun W hW => ?_, hK _ ?_⟩; (go_simp; first | done | exact rfl); clear hK K) | (refine hK _ ?_; clear hK K))
          clear f2; have hk3 : Kept wr wr.drew := (Upd.refl _ _).drew; have hS3 : Upd (fun j => j = g ∨ (Value.slice A0 m0 c0).ownBlock = some j) wr wr.drew := hk3.to; have hF3 := HFL.out.1.kept hk3; have hB3 := HFL.out.2.kept hk3; have hT3 : ∀ k, Tu k → k < wr.drew.heap.size := fun k e => Nat.lt_of_lt_of_le (HT.out k e) (Nat.le_trans HQ.out.1.size hk3.size); have d3 : wr.drew.cell? ⟨g, 38, none⟩ = some (.slice A0 m0 c0) := hF3.cells.2.2.2.2.1; have HG3 := ref_CopyBytes c1 (HR1.out.kept hk3) (by have := HQ.out.2.2.2.1; omega); clear hk3; generalize wr.drew = W3 at *; refine wpOO_fork (fun K hK => ?_) (fun K hK => ?_) hS3
          · go_simp
            refine hK _ _ hS3 ?_; clear hK K d3; refine wpOO_step (fun K hK => ?_) hS3; go_simp; refine HG3.mono ?_; clear HG3; rintro e W4 ⟨vy, rfl, hOy, hu4⟩; obtain ⟨Ay, cy, rfl, -, -⟩ := hOy.form; have hS4 : Upd (fun j => j = g ∨ (Value.slice A0 m0 c0).ownBlock = some j) wr W4 := hS3.then hu4 fun _ _ h => h.elim; have hS5 : Upd (fun j => j = g ∨ (Value.slice A0 m0 c0).ownBlock = some j) wr (W4.alloc (.cells (slA ⟨Ay, R.length, cy⟩) 42)) := hS4.alloc _; have hk5 : Kept W4 (W4.alloc (.cells (slA ⟨Ay, R.length, cy⟩) 42)) := (Upd.refl _ W4).alloc _; have hF5 := (hF3.kept hu4).kept hk5; have hB5 := (hB3.kept hu4).kept hk5; have hg5 := heap_alloc_new W4 (.cells (slA ⟨Ay, R.length, cy⟩) 42); have hO5 : OwnB (W4.alloc (.cells (slA ⟨Ay, R.length, cy⟩) 42)) 0 (SlC.v ⟨Ay, R.length, cy⟩) R := (hOy.low (Nat.zero_le _)).kept hk5; have hOT : ∀ k, (SlC.v ⟨Ay, R.length, cy⟩).ownBlock = some k → ¬ Tu k := fun k e e2 => by
              have h1 := (hOy.far k e).1; have h2 := hT3 k e2; omega
            have hT5 : ∀ k, Tu k → k < (W4.alloc (.cells (slA ⟨Ay, R.length, cy⟩) 42)).heap.size := fun k e => by
              have h1 := hT3 k e; have h2 := hu4.size; have h3 := hk5.size; omega
            have d4 : W4.cell? ⟨g, 38, none⟩ = some (.slice A0 m0 c0) := (hF3.kept hu4).cells.2.2.2.2.1; have d5 : (W4.alloc (.cells (slA ⟨Ay, R.length, cy⟩) 42)).cell? ⟨g, 38, none⟩ = some (.slice A0 m0 c0) := hF5.cells.2.2.2.2.1; clear hk5 hOy hu4 hF3 hB3 hS3 hT3; refine hK _ _ hS4 ?_; clear hK K; refine wpOO_step (fun K hK => ?_) hS4; go_simp; refine hK _ _ hS5 ?_; clear hK K; refine wpOO_step (fun K hK => ?_) hS5; refine step_append_rows bs_rows rfl (.tmp 56) (.tmp 62) rfl rfl hF5.h.row ⟨Ay, R.length, cy⟩ W4.heap.size 1 _ _ rfl hg5 (by have := HQ.out.2.2.1; rw [List.length_map]; unfold maxLen; omega) (by have := HQ.out.2.2.1; rw [List.length_map]; omega) (Nat.zero_le _) ?_; intro v' W' hrows hu' hnew; have hS6 : Upd (fun j => j = g ∨ (Value.slice A0 m0 c0).ownBlock = some j) wr W' := hS5.then hu' fun _ _ h => .inr h; obtain ⟨hF7, c38, z38, hu7⟩ := hF5.more hT5 hO5 HQ.out.2.2.2.1 hOT hrows hu' hnew; have hB7 := hB5.hv hF5 hu7 hnew; refine hK _ _ hS6 ?_; clear hK K
            iterate 2 (refine wpOO_held (fun K hK => ?_); go_simp; first | (apply Exists.intro; refine ⟨fun W hW => ?_, hK _ ?_⟩; (go_simp; first | done | exact rfl); clear hK K) | (refine hK _ ?_; clear hK K))
            refine wpOO_step (fun K hK => ?_) hS6; obtain ⟨A', m', c', rfl⟩ : ∃ A' m' c', v' = .slice A' m' c' := by
              obtain ⟨A', c', h⟩ := OwnRows.form hrows; exact ⟨A', _, c', h⟩
            have hS7 := hS6.setCell (p := ⟨g, 38, none⟩) (.slice A' m' c') fun _ => .inl rfl; have HF := Lib.hid (And.intro hF7 (And.intro hB7 (And.intro (show Upd (fun k => ¬ Tu k) w1 (W'.setCell ⟨g, 38, none⟩ (.slice A' m' c')) from HQ.out.1.trans (hS7.mono fun k _ e => HQ.out.2.2.2.2.2.2.2.2 k e)) (HQ.out.2.1.upd hS7 HQ.out.2.2.2.2.2.2.2.1)))); go_simp; refine hK _ _ hS7 ?_; clear hK K hS7 hF7 hB7 c38 z38 hu7 hS6 hrows hu' hnew hS5 hF5 hB5 hg5 hO5 hOT hT5 d4 d5 hS4; refine wpOO_nil ?_; generalize (W'.setCell ⟨g, 38, none⟩ (.slice A' m' c')) = W9 at *; go_wp2
            go_roundw
            case rel => exact ⟨k + 1, A', m', c', _, by have := HQ.out.2.2.2.2.1; omega, by show _ = _; go_num, by rw [HQ.out.2.2.2.2.2.2.1]; exact HF.out.1, HF.out.2.1, HF.out.2.2.1, HF.out.2.2.2, fun j hj hjk => HQ.out.2.2.2.2.2.1 HQ.out.2.2.2.1 j hj hjk⟩
            case measure => have := HQ.out.2.2.2.2.1; have := HN.out.2.1; simp [intOf]; omega
          · go_simp
            refine HG3.mono ?_; clear HG3 d3; rintro e W4 ⟨vy, rfl, hOy, hu4⟩; obtain ⟨Ay, cy, rfl, -, -⟩ := hOy.form; have hS4 : Upd (fun j => j = g ∨ (Value.slice A0 m0 c0).ownBlock = some j) wr W4 := hS3.then hu4 fun _ _ h => h.elim; have hS5 : Upd (fun j => j = g ∨ (Value.slice A0 m0 c0).ownBlock = some j) wr (W4.alloc (.cells (slA ⟨Ay, R.length, cy⟩) 42)) := hS4.alloc _; have hk5 : Kept W4 (W4.alloc (.cells (slA ⟨Ay, R.length, cy⟩) 42)) := (Upd.refl _ W4).alloc _; have hF5 := (hF3.kept hu4).kept hk5; have hB5 := (hB3.kept hu4).kept hk5; have hg5 := heap_alloc_new W4 (.cells (slA ⟨Ay, R.length, cy⟩) 42); have hO5 : OwnB (W4.alloc (.cells (slA ⟨Ay, R.length, cy⟩) 42)) 0 (SlC.v ⟨Ay, R.length, cy⟩) R := (hOy.low (Nat.zero_le _)).kept hk5; have hOT : ∀ k, (SlC.v ⟨Ay, R.length, cy⟩).ownBlock = some k → ¬ Tu k := fun k e e2 => by
              have h1 := (hOy.far k e).1; have h2 := hT3 k e2; omega
            have hT5 : ∀ k, Tu k → k < (W4.alloc (.cells (slA ⟨Ay, R.length, cy⟩) 42)).heap.size := fun k e => by
              have h1 := hT3 k e; have h2 := hu4.size; have h3 := hk5.size; omega
            have d4 : W4.cell? ⟨g, 38, none⟩ = some (.slice A0 m0 c0) := (hF3.kept hu4).cells.2.2.2.2.1; have d5 : (W4.alloc (.cells (slA ⟨Ay, R.length, cy⟩) 42)).cell? ⟨g, 38, none⟩ = some (.slice A0 m0 c0) := hF5.cells.2.2.2.2.1; clear hk5 hOy hu4 hF3 hB3 hS3 hT3; refine hK _ _ hS4 ?_; clear hK K; refine wpOO_fork (fun K hK => ?_) (fun K hK => ?_) hS4
            · go_simp
              refine hK _ _ hS4 ?_; clear hK K; refine wpOO_step (fun K hK => ?_) hS4; go_simp; refine hK _ _ hS5 ?_; clear hK K; refine wpOO_step (fun K hK => ?_) hS5; refine step_append_rows bs_rows rfl (.tmp 56) (.tmp 62) rfl rfl hF5.h.row ⟨Ay, R.length, cy⟩ W4.heap.size 1 _ _ rfl hg5 (by have := HQ.out.2.2.1; rw [List.length_map]; unfold maxLen; omega) (by have := HQ.out.2.2.1; rw [List.length_map]; omega) (Nat.zero_le _) ?_; intro v' W' hrows hu' hnew; have hS6 : Upd (fun j => j = g ∨ (Value.slice A0 m0 c0).ownBlock = some j) wr W' := hS5.then hu' fun _ _ h => .inr h; obtain ⟨hF7, c38, z38, hu7⟩ := hF5.more hT5 hO5 HQ.out.2.2.2.1 hOT hrows hu' hnew; have hB7 := hB5.hv hF5 hu7 hnew; refine hK _ _ hS6 ?_; clear hK K
              iterate 2 (refine wpOO_held (fun K hK => ?_); go_simp; first | (apply Exists.intro; refine ⟨fun W hW => ?_, hK _ ?_⟩; (go_simp; first | done | exact rfl); clear hK K) | (refine hK _ ?_; clear hK K))
              refine wpOO_step (fun K hK => ?_) hS6; obtain ⟨A', m', c', rfl⟩ : ∃ A' m' c', v' = .slice A' m' c' := by
                obtain ⟨A', c', h⟩ := OwnRows.form hrows; exact ⟨A', _, c', h⟩
              have hS7 := hS6.setCell (p := ⟨g, 38, none⟩) (.slice A' m' c') fun _ => .inl rfl; have HF := Lib.hid (And.intro hF7 (And.intro hB7 (And.intro (show Upd (fun k => ¬ Tu k) w1 (W'.setCell ⟨g, 38, none⟩ (.slice A' m' c')) from HQ.out.1.trans (hS7.mono fun k _ e => HQ.out.2.2.2.2.2.2.2.2 k e)) (HQ.out.2.1.upd hS7 HQ.out.2.2.2.2.2.2.2.1)))); go_simp; refine hK _ _ hS7 ?_; clear hK K hS7 hF7 hB7 c38 z38 hu7 hS6 hrows hu' hnew hS5 hF5 hB5 hg5 hO5 hOT hT5 d4 d5 hS4; refine wpOO_nil ?_; generalize (W'.setCell ⟨g, 38, none⟩ (.slice A' m' c')) = W9 at *; go_wp2
              go_roundw
              case rel => exact ⟨k + 1, A', m', c', _, by have := HQ.out.2.2.2.2.1; omega, by show _ = _; go_num, by rw [HQ.out.2.2.2.2.2.2.1]; exact HF.out.1, HF.out.2.1, HF.out.2.2.1, HF.out.2.2.2, fun j hj hjk => HQ.out.2.2.2.2.2.1 HQ.out.2.2.2.1 j hj hjk⟩
              case measure => have := HQ.out.2.2.2.2.1; have := HN.out.2.1; simp [intOf]; omega
            · go_simp
              refine hK _ _ hS5 ?_; clear hK K; refine wpOO_step (fun K hK => ?_) hS5; go_simp; refine hK _ _ hS5 ?_; clear hK K; refine wpOO_step (fun K hK => ?_) hS5; refine step_append_rows bs_rows rfl (.tmp 56) (.tmp 62) rfl rfl hF5.h.row ⟨Ay, R.length, cy⟩ W4.heap.size 1 _ _ rfl hg5 (by have := HQ.out.2.2.1; rw [List.length_map]; unfold maxLen; omega) (by have := HQ.out.2.2.1; rw [List.length_map]; omega) (Nat.zero_le _) ?_; intro v' W' hrows hu' hnew; have hS6 : Upd (fun j => j = g ∨ (Value.slice A0 m0 c0).ownBlock = some j) wr W' := hS5.then hu' fun _ _ h => .inr h; obtain ⟨hF7, c38, z38, hu7⟩ := hF5.more hT5 hO5 HQ.out.2.2.2.1 hOT hrows hu' hnew; have hB7 := hB5.hv hF5 hu7 hnew; refine hK _ _ hS6 ?_; clear hK K
              iterate 2 (refine wpOO_held (fun K hK => ?_); go_simp; first | (apply Exists.intro; refine ⟨fun W hW => ?_, hK _ ?_⟩; (go_simp; first | done | exact rfl); clear hK K) | (refine hK _ ?_; clear hK K))
              refine wpOO_step (fun K hK => ?_) hS6; obtain ⟨A', m', c', rfl⟩ : ∃ A' m' c', v' = .slice A' m' c' := by
                obtain ⟨A', c', h⟩ := OwnRows.form hrows; exact ⟨A', _, c', h⟩
              have hS7 := hS6.setCell (p := ⟨g, 38, none⟩) (.slice A' m' c') fun _ => .inl rfl; have HF := Lib.hid (And.intro hF7 (And.intro hB7 (And.intro (show Upd (fun k => ¬ Tu k) w1 (W'.setCell ⟨g, 38, none⟩ (.slice A' m' c')) from HQ.out.1.trans (hS7.mono fun k _ e => HQ.out.2.2.2.2.2.2.2.2 k e)) (HQ.out.2.1.upd hS7 HQ.out.2.2.2.2.2.2.2.1)))); go_simp; refine hK _ _ hS7 ?_; clear hK K hS7 hF7 hB7 c38 z38 hu7 hS6 hrows hu' hnew hS5 hF5 hB5 hg5 hO5 hOT hT5 d4 d5 hS4; refine wpOO_nil ?_; generalize (W'.setCell ⟨g, 38, none⟩ (.slice A' m' c')) = W9 at *; go_wp2
              go_roundw
              case rel => exact ⟨k + 1, A', m', c', _, by have := HQ.out.2.2.2.2.1; omega, by show _ = _; go_num, by rw [HQ.out.2.2.2.2.2.2.1]; exact HF.out.1, HF.out.2.1, HF.out.2.2.1, HF.out.2.2.2, fun j hj hjk => HQ.out.2.2.2.2.2.1 HQ.out.2.2.2.1 j hj hjk⟩
              case measure => have := HQ.out.2.2.2.2.1; have := HN.out.2.1; simp [intOf]; omega
      · obtain rfl : k = n := by omega
        have hki : ¬ (k : Int) < (k : Int) := by omega
        rw [List.take_of_length_le (by rw [List.length_map, HX.out.2.2.2.2.1]; exact Nat.le_refl _)] at hR; have hsl : secs li = secs l := hR.h.all; have hlik : li.length = k := by have := congrArg List.length hsl; rw [List.length_map, List.length_map, HX.out.2.2.2.2.1] at this; exact this
        have hnl : longB l = false := longB_false fun j hj => hsh j hj (by rw [← HX.out.2.2.2.2.1]; exact hj); obtain rfl : m0 = k := by
          obtain ⟨A', c', h⟩ := OwnRows.form hR.h.row; have h' : Value.slice A0 m0 c0 = _ := h; simp only [Value.slice.injEq, List.length_map] at h'; rw [h'.2.1, hlik]
        have hTw : ∀ k, Tu k → k < wr.heap.size := fun k e => Nat.lt_of_lt_of_le (HT.out k e) hu.size; have hAw : ∀ k, rAv { rfX gs cs gt gy m0 with hv := .slice A0 m0 c0 } k → k < wr.heap.size := fun k e => by
          rcases e with e | e
          · obtain ⟨ly, hy⟩ := hR.y
            rw [e]; exact (World.ownsRow.lt hy.row gy rfl).2
          · exact (World.ownsRow.lt hR.h.row k e).2
        obtain ⟨B, v, n0, xs, hr, hBs, hcT, hvT, hto⟩ := hB.run hTw hAw; have hbkf := fun W (hW : Upd (fun k => k = c ∨ v.ownBlock = some k) wr W) => hR.bk hr hcT.2 (fun k e => (hvT k e).2) hW; have HG := ref_Levels hr hBs (by have := HX.out.2.2.2.1; omega) c0 (A := A0) (l := li) (fun W v' ht => (hbkf W ht.1).h.leaves) (fun p hp => (hR.h.leaf p hp).2.1) (by rw [hlik]; exact HN.out.1) (by rw [hlik]; exact HN.out.2.1); rw [hlik] at HG; have c38 : wr.cell? ⟨g, 38, none⟩ = some (.slice A0 m0 c0) := hR.cells.2.2.2.2.1; have hn0 : (0 : Int) < (m0 : Int) := by have := HN.out.1; omega
        have HL := Lib.hid (And.intro hR (And.intro hu (And.intro hrt (And.intro hr (And.intro hcT (And.intro hvT (And.intro hto (And.intro hbkf hTw)))))))); have HE := Lib.hid (And.intro hsl (And.intro hlik hnl)); clear hR hB hu hrt hsh hge hk hsl hlik hnl hTw hAw hr hBs hcT hvT hto hbkf; go_wp2_with fail; refine HG.mono ?_; clear HG; rintro e w2 ⟨vo, rfl, hP, v2, n2, xs2, hr2, ht2⟩; obtain ⟨lx, hP2⟩ := RP.of hP HL.out.2.2.2.2.2.2.2.2; obtain ⟨A5, m5, c5, rfl⟩ : ∃ A' m' c', vo = .slice A' m' c' := by
          obtain ⟨A', c', h⟩ := OwnRows.form hP2.row; exact ⟨A', _, c', h⟩
        have hR2 := HL.out.2.2.2.2.2.2.2.1 w2 ht2.1; have hB2 := HL.out.2.2.2.2.2.2.1 _ _ _ _ _ hr2 ht2; obtain ⟨hR3, c39, z39, hu3⟩ := hR2.levels rfl hP2; have hrt2 := HL.out.2.2.1.upd ht2.1 (HL.out.2.2.2.1.far HL.out.2.2.1 (by decide) (by decide)); have hrt3 := hrt2.upd hu3 (fun e => cells_ne hrt2 hR2.blk (by decide) (show w.heap.size = g from e)); have hB3 := hB2.typ hu3 (fun j e => by
          have e2 : j = g := e; subst e2; exact ⟨_, _, _, hR2.blk, by decide, by decide, by decide⟩)
        have hu4 : Upd (fun k => ¬ Tu k) w1 (w2.setCell ⟨g, 39, none⟩ (.slice A5 m5 c5)) := (HL.out.2.1.trans (ht2.1.mono fun k _ e => by
          rcases e with rfl | e
          · exact HL.out.2.2.2.2.1.1
          · exact (HL.out.2.2.2.2.2.1 k e).1)).trans (hu3.mono fun k _ e => by rw [show k = g from e]; exact hR2.gT)
        obtain ⟨L', hL'⟩ : ∃ L', L' = notesM (notesM L (leafI li)) (insM shaM (leafD li)) := ⟨_, rfl⟩; have hLl : L'.length ≤ L.length + 2048 := by
          have a1 := notesM_length (notesM L (leafI li)) (insM shaM (leafD li)); have a2 := notesM_length L (leafI li); have a3 := insM_length _ (leafD li) rfl; rw [leafI_length, HE.out.2.1] at a2; rw [leafD_length, HE.out.2.1] at a3; have a4 := HN.out.2.1; rw [hL']; omega
        rw [← hL'] at hB3; rw [leafD_secs, HE.out.1] at hR3; have HLL := Lib.hid hLl; have HS := Lib.hid (And.intro hR3 (And.intro hB3 (And.intro hu4 hrt3))); have HD := Lib.hid (depthM_small HN.out.2.1); have HSZ := Lib.hid (show ∀ j, 1 ≤ sizeL m0 j ∧ sizeL m0 j ≤ 1024 from fun j => ⟨sizeL_pos HN.out.1 j, Nat.le_trans (sizeL_le HN.out.1 j) HN.out.2.1⟩); clear hP hr2 ht2 hP2 hR2 hB2 hR3 hrt2 hrt3 hB3 hu3 hu4 hL' hLl c38 hn0 HL; go_wp2_with fail; clear c39 z39; generalize w2.setCell ⟨g, 39, none⟩ (.slice A5 m5 c5) = w3 at *; obtain ⟨n, rfl⟩ : ∃ n, n = m0 := ⟨_, rfl⟩; obtain ⟨hv, hhv⟩ : ∃ hv, hv = Value.slice A0 n c0 := ⟨_, rfl⟩; obtain ⟨lv, hlv⟩ : ∃ lv, lv = Value.slice A5 m5 c5 := ⟨_, rfl⟩; obtain ⟨hs, hhs⟩ : ∃ hs, hs = secs l := ⟨_, rfl⟩; obtain ⟨P, hPP⟩ : ∃ P, P = levelsM shaM ((secs l).map (leafM shaM)) := ⟨_, rfl⟩; rw [← hhv, ← hlv, ← hPP, ← hhs] at HS; have HOF : Hid (∀ W kv kx dv dx j1 j2, RN Tu W g c n root ⟨gs, cs, kv, kx, dv, dx, gt, n, gy, n, hv, lv, lx⟩ li hs P j1 j2 → RO Tu W n ⟨gs, cs, kv, kx, dv, dx, gt, n, gy, n, hv, lv, lx⟩ (some hs)) := fun W kv kx dv dx j1 j2 h => RN.ro (by rw [hPP, ← hhs] at h; exact h) (by rw [hhs, List.length_map]; exact HX.out.2.2.2.2.1); have HEND := Lib.hid (show longB l = false ∧ some hs = (if l = [] then none else some (secs l)) ∧ L'.length ≤ L.length + 2048 from ⟨HE.out.2.2, by rw [if_neg (fun e => by have h1 := HX.out.2.2.2.2.1; rw [e] at h1; have h2 := HN.out.1; rw [← h1] at h2; exact absurd h2 (by decide)), hhs], HLL.out⟩); obtain ⟨O0, hO0⟩ : ∃ O0, O0 = some hs := ⟨_, rfl⟩; rw [← hO0] at HOF HEND; clear hPP hhs HE HLL hO0; go_wp2_with fail
        go_loopw [12] (fun u wr => ∃ (j : Nat) (kA : Option Addr) (km kc : Nat) (kx : List SlC) (dA' : Option Addr) (dm dc : Nat) (dx : List SlC), j ≤ depthM n ∧ u = .int .i64 (j : Int) ∧ RN Tu wr g c n root ⟨gs, cs, .slice kA km kc, kx, .slice dA' dm dc, dx, gt, n, gy, n, hv, lv, lx⟩ li hs P j j ∧ RBk Tu wr c L' (rAv ⟨gs, cs, .slice none 0 0, [], .slice none 0 0, [], gt, n, gy, n, hv, lv, lx⟩) ∧ Upd (fun k => ¬ Tu k) w1 wr ∧ Blk wr w.heap.size 23 (encB root.1)) (fun u _ => 3000 - (intOf u).toNat)
        case atStart => exact ⟨0, none, 0, 0, [], none, 0, 0, [], Nat.zero_le _, rfl, HS.out.1, HS.out.2.1, HS.out.2.2.1, HS.out.2.2.2⟩
        case round =>
          clear HS; obtain ⟨j, kA, km, kc, kx, dA', dm, dc, dx, hj, rfl, hR, hB, hu, hrt⟩ := hrel; have c33 := hR.cells.2.1; rcases Nat.lt_or_ge j (depthM n) with hlt | hge
          · have hji : (j : Int) < (depthM n : Int) := by omega
            have hj5 : (j : Int) ≤ 1025 := by have := HD.out; omega
            have hs5 : (sizeL n j : Int) ≤ 1024 := by have := (HSZ.out j).2; omega
            have HJ := Lib.hid hlt; have HL := Lib.hid (And.intro hR (And.intro hB (And.intro hu hrt))); clear hR hB hu hrt hlt hj; go_wp2_with fail; clear c33; have HNT := Lib.hid HL.out.1.kT; have hgs : ¬ (gs = g ∨ (Value.slice kA km kc).ownBlock = some gs) := fun e => by
              obtain ⟨cu, hk⟩ := own_cells HL.out.1.szs (k := gs) rfl; rcases e with e | e
              · exact cells_ne hk HL.out.1.blk (by decide) e
              · obtain ⟨cu2, hk2⟩ := own_cells HL.out.1.kr e
                exact cells_ne hk hk2 (by decide) rfl
            have c33 := HL.out.1.cells.2.1; have csz := HL.out.1.size HJ.out; have f8 : ∀ W, (Upd (fun i => i = g ∨ (Value.slice kA km kc).ownBlock = some i) wr W ∧ W.cell? ⟨g, 33, none⟩ = some (.slice (some ⟨gs, 0, none⟩) (depthM n) cs)) → W.cell? ⟨g, 33, none⟩ = some (.slice (some ⟨gs, 0, none⟩) (depthM n) cs) := fun W hW => hW.2; have f9 : ∀ W, (Upd (fun i => i = g ∨ (Value.slice kA km kc).ownBlock = some i) wr W ∧ W.cell? ⟨g, 33, none⟩ = some (.slice (some ⟨gs, 0, none⟩) (depthM n) cs)) → W.cell? ⟨gs, j, none⟩ = some (.int .i64 (sizeL n j : Int)) := fun W hW => hW.1.cell csz hgs; have hS3 : Upd (fun i => i = g ∨ (Value.slice kA km kc).ownBlock = some i) wr wr.drew ∧ wr.drew.cell? ⟨g, 33, none⟩ = some (.slice (some ⟨gs, 0, none⟩) (depthM n) cs) := ⟨(Upd.refl _ _).drew, c33⟩; clear hgs c33 csz; refine wp_region_tree (.take 0 (.take 1 (.take 2 (.take 3 (.take 5 (.take 6 (.take 7 (.take 8 (.take 9 (.take 10 (.take 11 (.two 4 12 (.one 12 (.one 13 (.one 14 (.take 15 (.take 16 (.one 17 .done)))))) (.two 4 13 (.one 13 (.one 14 (.take 15 (.take 16 (.one 17 .done))))) (.one 4 (.one 14 (.take 15 (.take 16 (.one 17 .done))))))))))))))))) ) (by kernel_rfl) (by kernel_rfl) (fun W => Upd (fun i => i = g ∨ (Value.slice kA km kc).ownBlock = some i) wr W ∧ W.cell? ⟨g, 33, none⟩ = some (.slice (some ⟨gs, 0, none⟩) (depthM n) cs)) hS3 ?_; simp only [OT.ops, List.getD_cons_zero, List.getD_cons_succ]
            iterate 11 (refine wpOO_held (fun K hK => ?_); go_simp; first | (apply Exists.intro; refine ⟨fun W hW => ?_, hK _ ?_⟩; (go_simp; first | done | exact rfl); clear hK K) | (refine hK _ ?_; clear hK K))
            have hF3 := HL.out.1.kept (Upd.refl _ wr).drew; have hT3 : ∀ k, Tu k → k < wr.drew.heap.size := fun k e => Nat.lt_of_lt_of_le (HT.out k e) HL.out.2.2.1.size; have hkd : Kept wr wr.drew := (Upd.refl _ _).drew; generalize wr.drew = W3 at *; refine wpOO_fork (fun K hK => ?_) (fun K hK => ?_) hS3
            · have d3 := hF3.cells.2.2.1
              go_simp; refine hK _ _ hS3 ?_; clear hK K d3; refine wpOO_step (fun K hK => ?_) hS3; obtain ⟨WB, hmk, hx, hkB⟩ := run_make_bools (sizeL n j) (by have := (HSZ.out j).2; omega) W3; have hSB : Upd (fun i => i = g ∨ (Value.slice kA km kc).ownBlock = some i) wr WB ∧ WB.cell? ⟨g, 33, none⟩ = some (.slice (some ⟨gs, 0, none⟩) (depthM n) cs) := ⟨hS3.1.then hkB fun _ _ e => e.elim, (hF3.kept hkB).cells.2.1⟩; go_simp; refine hK _ _ hSB ?_; clear hK K hmk; have d4 := (hF3.kept hkB).cells.2.2.1; refine wpOO_step (fun K hK => ?_) hSB; go_simp; have hk5 : Kept W3 (WB.alloc (.cells (slA ⟨some ⟨W3.heap.size, 0, none⟩, sizeL n j, sizeL n j⟩) 81)) := (hkB.alloc _); have hg5 := heap_alloc_new WB (.cells (slA ⟨some ⟨W3.heap.size, 0, none⟩, sizeL n j, sizeL n j⟩) 81); have hx5 := OwnRows.upd hx ((Upd.refl (fun _ => False) WB).alloc (.cells (slA ⟨some ⟨W3.heap.size, 0, none⟩, sizeL n j, sizeL n j⟩) 81)) (fun _ _ e => e); have hS5 : Upd (fun i => i = g ∨ (Value.slice kA km kc).ownBlock = some i) wr (WB.alloc (.cells (slA ⟨some ⟨W3.heap.size, 0, none⟩, sizeL n j, sizeL n j⟩) 81)) ∧ (WB.alloc (.cells (slA ⟨some ⟨W3.heap.size, 0, none⟩, sizeL n j, sizeL n j⟩) 81)).cell? ⟨g, 33, none⟩ = some (.slice (some ⟨gs, 0, none⟩) (depthM n) cs) := ⟨hS3.1.then hk5 fun _ _ e => e.elim, (hF3.kept hk5).cells.2.1⟩; have d5 := (hF3.kept hk5).cells.2.2.1; refine hK _ _ hS5 ?_; clear hK K d4 hx; refine wpOO_step (fun K hK => ?_) hS5; have hF5 := hF3.kept hk5; refine step_append_rows bl_rows rfl (.tmp 91) (.tmp 100) rfl rfl hF5.kr ⟨some ⟨W3.heap.size, 0, none⟩, sizeL n j, sizeL n j⟩ WB.heap.size 1 _ _ rfl hg5 (by have := HD.out; have := HJ.out; rw [hF5.kl]; unfold maxLen; omega) (by have := HD.out; have := HJ.out; rw [hF5.kl]; omega) (Nat.zero_le _) ?_; intro v' W' hrows hu' hnew; have hS6 : Upd (fun i => i = g ∨ (Value.slice kA km kc).ownBlock = some i) wr W' ∧ W'.cell? ⟨g, 33, none⟩ = some (.slice (some ⟨gs, 0, none⟩) (depthM n) cs) := ⟨hS5.1.then hu' fun _ _ h => .inr h, hu'.cell hF5.cells.2.1 fun e => by
                obtain ⟨cu, hk⟩ := own_cells hF5.kr e; exact cells_ne hk hF5.blk (by decide) rfl⟩
              obtain ⟨hF7, c7, z7, hu7⟩ := hF3.known hT3 hk5 (x := ⟨some ⟨W3.heap.size, 0, none⟩, sizeL n j, sizeL n j⟩) hx5 hrows hu' hnew; refine hK _ _ hS6 ?_; clear hK K
              iterate 2 (refine wpOO_held (fun K hK => ?_); go_simp; first | (apply Exists.intro; refine ⟨fun W hW => ?_, hK _ ?_⟩; (go_simp; first | done | exact rfl); clear hK K) | (refine hK _ ?_; clear hK K))
              refine wpOO_step (fun K hK => ?_) hS6; obtain ⟨A', m', c', rfl⟩ : ∃ A' m' c', v' = .slice A' m' c' := by
                obtain ⟨A', c', h⟩ := OwnRows.form hrows; exact ⟨A', _, c', h⟩
              have hS7 : Upd (fun i => i = g ∨ (Value.slice kA km kc).ownBlock = some i) wr (W'.setCell ⟨g, 34, none⟩ (.slice A' m' c')) ∧ (W'.setCell ⟨g, 34, none⟩ (.slice A' m' c')).cell? ⟨g, 33, none⟩ = some (.slice (some ⟨gs, 0, none⟩) (depthM n) cs) := ⟨hS6.1.setCell (p := ⟨g, 34, none⟩) (.slice A' m' c') (fun _ => .inl rfl), hF7.cells.2.1⟩; have hty : ∀ k, ((Value.slice kA km kc).ownBlock = some k ∨ k = g) → ∃ cs t fr, W3.heap[k]? = some (.cells cs t fr) ∧ t ≠ 88 ∧ t ≠ 42 ∧ t ≠ 5 := fun k e => by
                rcases e with e | rfl
                · obtain ⟨cu, hk⟩ := own_cells hF3.kr e
                  exact ⟨_, _, _, hk, by decide, by decide, by decide⟩
                · exact ⟨_, _, _, hF3.blk, by decide, by decide, by decide⟩
              have hnT : ∀ k, ((Value.slice kA km kc).ownBlock = some k ∨ k = g) → ¬ Tu k := fun k e => by
                rcases e with e | rfl
                · obtain ⟨cu, hk⟩ := own_cells hF3.kr e
                  exact HNT.out k e
                · exact hF3.gT
              have hrt3 := HL.out.2.2.2.kept hkd; have hrt7 := hrt3.upd hu7 (fun e => by
                rcases e with e | e
                · obtain ⟨cu, hk⟩ := own_cells hF3.kr e
                  exact cells_ne hk hrt3 (by decide) rfl
                · exact cells_ne hrt3 hF3.blk (by decide) e)
              have HF := Lib.hid (And.intro hF7 (And.intro ((HL.out.2.1.kept hkd).typ hu7 hty) (And.intro ((HL.out.2.2.1.then hkd fun _ _ e => e.elim).trans (hu7.mono fun k _ e => hnT k e)) hrt7))); go_simp; refine hK _ _ hS7 ?_; clear hK K hS7 hF7 c7 z7 hu7 hS6 hrows hu' hnew hS5 hF5 hg5 hx5 d5 hty hnT hrt3 hrt7 hk5 hSB hkB hF3 hT3 hS3 hkd; refine wpOO_nil ?_; generalize (W'.setCell ⟨g, 34, none⟩ (.slice A' m' c')) = W9 at *; obtain ⟨wr, rfl⟩ : ∃ wr : World, wr = W9 := ⟨_, rfl⟩; obtain ⟨kA2, rfl⟩ : ∃ q, q = A' := ⟨_, rfl⟩; obtain ⟨km2, rfl⟩ : ∃ q, q = m' := ⟨_, rfl⟩; obtain ⟨kc2, rfl⟩ : ∃ q, q = c' := ⟨_, rfl⟩
              replace HL := Lib.hid HF.out
              clear HF
              replace HNT := Lib.hid HL.out.1.dT
              clear f8 f9; go_wp2_with fail; have hgs : ¬ (gs = g ∨ (Value.slice dA' dm dc).ownBlock = some gs) := fun e => by
                obtain ⟨cu, hk⟩ := own_cells HL.out.1.szs (k := gs) rfl; rcases e with e | e
                · exact cells_ne hk HL.out.1.blk (by decide) e
                · obtain ⟨cu2, hk2⟩ := own_cells HL.out.1.dr e
                  exact cells_ne hk hk2 (by decide) rfl
              have c33 := HL.out.1.cells.2.1; have csz := HL.out.1.size HJ.out; have f8 : ∀ W, (Upd (fun i => i = g ∨ (Value.slice dA' dm dc).ownBlock = some i) wr W ∧ W.cell? ⟨g, 33, none⟩ = some (.slice (some ⟨gs, 0, none⟩) (depthM n) cs)) → W.cell? ⟨g, 33, none⟩ = some (.slice (some ⟨gs, 0, none⟩) (depthM n) cs) := fun W hW => hW.2; have f9 : ∀ W, (Upd (fun i => i = g ∨ (Value.slice dA' dm dc).ownBlock = some i) wr W ∧ W.cell? ⟨g, 33, none⟩ = some (.slice (some ⟨gs, 0, none⟩) (depthM n) cs)) → W.cell? ⟨gs, j, none⟩ = some (.int .i64 (sizeL n j : Int)) := fun W hW => hW.1.cell csz hgs; have hS3 : Upd (fun i => i = g ∨ (Value.slice dA' dm dc).ownBlock = some i) wr wr.drew ∧ wr.drew.cell? ⟨g, 33, none⟩ = some (.slice (some ⟨gs, 0, none⟩) (depthM n) cs) := ⟨(Upd.refl _ _).drew, c33⟩; clear hgs c33 csz; refine wp_region_tree (.take 0 (.take 1 (.take 2 (.take 3 (.take 5 (.take 6 (.take 7 (.take 8 (.take 9 (.take 10 (.take 11 (.two 4 12 (.one 12 (.one 13 (.one 14 (.take 15 (.take 16 (.one 17 .done)))))) (.two 4 13 (.one 13 (.one 14 (.take 15 (.take 16 (.one 17 .done))))) (.one 4 (.one 14 (.take 15 (.take 16 (.one 17 .done))))))))))))))))) ) (by kernel_rfl) (by kernel_rfl) (fun W => Upd (fun i => i = g ∨ (Value.slice dA' dm dc).ownBlock = some i) wr W ∧ W.cell? ⟨g, 33, none⟩ = some (.slice (some ⟨gs, 0, none⟩) (depthM n) cs)) hS3 ?_; simp only [OT.ops, List.getD_cons_zero, List.getD_cons_succ]
              iterate 11 (refine wpOO_held (fun K hK => ?_); go_simp; first | (apply Exists.intro; refine ⟨fun W hW => ?_, hK _ ?_⟩; (go_simp; first | done | exact rfl); clear hK K) | (refine hK _ ?_; clear hK K))
              have hF3 := HL.out.1.kept (Upd.refl _ wr).drew; have hT3 : ∀ k, Tu k → k < wr.drew.heap.size := fun k e => Nat.lt_of_lt_of_le (HT.out k e) HL.out.2.2.1.size; have hkd : Kept wr wr.drew := (Upd.refl _ _).drew; generalize wr.drew = W3 at *; clear f8 f9; refine wpOO_fork (fun K hK => ?_) (fun K hK => ?_) hS3
              · have d3 := hF3.cells.2.2.2.1
                go_simp; refine hK _ _ hS3 ?_; clear hK K d3; refine wpOO_step (fun K hK => ?_) hS3; obtain ⟨WB, hmk, hx, hkB⟩ := run_make_digs2 (sizeL n j) (by have := (HSZ.out j).2; omega) W3; have hSB : Upd (fun i => i = g ∨ (Value.slice dA' dm dc).ownBlock = some i) wr WB ∧ WB.cell? ⟨g, 33, none⟩ = some (.slice (some ⟨gs, 0, none⟩) (depthM n) cs) := ⟨hS3.1.then hkB fun _ _ e => e.elim, (hF3.kept hkB).cells.2.1⟩; go_simp; refine hK _ _ hSB ?_; clear hK K hmk; have d4 := (hF3.kept hkB).cells.2.2.2.1; refine wpOO_step (fun K hK => ?_) hSB; go_simp; have hk5 : Kept W3 (WB.alloc (.cells (slA ⟨some ⟨W3.heap.size, 0, none⟩, sizeL n j, sizeL n j⟩) 45)) := (hkB.alloc _); have hg5 := heap_alloc_new WB (.cells (slA ⟨some ⟨W3.heap.size, 0, none⟩, sizeL n j, sizeL n j⟩) 45); have hx5 := OwnRows.upd hx ((Upd.refl (fun _ => False) WB).alloc (.cells (slA ⟨some ⟨W3.heap.size, 0, none⟩, sizeL n j, sizeL n j⟩) 45)) (fun _ _ e => e); have hS5 : Upd (fun i => i = g ∨ (Value.slice dA' dm dc).ownBlock = some i) wr (WB.alloc (.cells (slA ⟨some ⟨W3.heap.size, 0, none⟩, sizeL n j, sizeL n j⟩) 45)) ∧ (WB.alloc (.cells (slA ⟨some ⟨W3.heap.size, 0, none⟩, sizeL n j, sizeL n j⟩) 45)).cell? ⟨g, 33, none⟩ = some (.slice (some ⟨gs, 0, none⟩) (depthM n) cs) := ⟨hS3.1.then hk5 fun _ _ e => e.elim, (hF3.kept hk5).cells.2.1⟩; have d5 := (hF3.kept hk5).cells.2.2.2.1; refine hK _ _ hS5 ?_; clear hK K d4 hx; refine wpOO_step (fun K hK => ?_) hS5; have hF5 := hF3.kept hk5; refine step_append_rows sl_rows rfl (.tmp 108) (.tmp 117) rfl rfl hF5.dr ⟨some ⟨W3.heap.size, 0, none⟩, sizeL n j, sizeL n j⟩ WB.heap.size 1 _ _ rfl hg5 (by have := HD.out; have := HJ.out; rw [hF5.dl]; unfold maxLen; omega) (by have := HD.out; have := HJ.out; rw [hF5.dl]; omega) (Nat.zero_le _) ?_; intro v' W' hrows hu' hnew; have hS6 : Upd (fun i => i = g ∨ (Value.slice dA' dm dc).ownBlock = some i) wr W' ∧ W'.cell? ⟨g, 33, none⟩ = some (.slice (some ⟨gs, 0, none⟩) (depthM n) cs) := ⟨hS5.1.then hu' fun _ _ h => .inr h, hu'.cell hF5.cells.2.1 fun e => by
                  obtain ⟨cu, hk⟩ := own_cells hF5.dr e; exact cells_ne hk hF5.blk (by decide) rfl⟩
                obtain ⟨hF7, c7, z7, hu7⟩ := hF3.digs hT3 hk5 (x := ⟨some ⟨W3.heap.size, 0, none⟩, sizeL n j, sizeL n j⟩) hx5 hrows hu' hnew; refine hK _ _ hS6 ?_; clear hK K
                iterate 2 (refine wpOO_held (fun K hK => ?_); go_simp; first | (apply Exists.intro; refine ⟨fun W hW => ?_, hK _ ?_⟩; (go_simp; first | done | exact rfl); clear hK K) | (refine hK _ ?_; clear hK K))
                refine wpOO_step (fun K hK => ?_) hS6; obtain ⟨A', m', c', rfl⟩ : ∃ A' m' c', v' = .slice A' m' c' := by
                  obtain ⟨A', c', h⟩ := OwnRows.form hrows; exact ⟨A', _, c', h⟩
                have hS7 : Upd (fun i => i = g ∨ (Value.slice dA' dm dc).ownBlock = some i) wr (W'.setCell ⟨g, 35, none⟩ (.slice A' m' c')) ∧ (W'.setCell ⟨g, 35, none⟩ (.slice A' m' c')).cell? ⟨g, 33, none⟩ = some (.slice (some ⟨gs, 0, none⟩) (depthM n) cs) := ⟨hS6.1.setCell (p := ⟨g, 35, none⟩) (.slice A' m' c') (fun _ => .inl rfl), hF7.cells.2.1⟩; have hty : ∀ k, ((Value.slice dA' dm dc).ownBlock = some k ∨ k = g) → ∃ cs t fr, W3.heap[k]? = some (.cells cs t fr) ∧ t ≠ 88 ∧ t ≠ 42 ∧ t ≠ 5 := fun k e => by
                  rcases e with e | rfl
                  · obtain ⟨cu, hk⟩ := own_cells hF3.dr e
                    exact ⟨_, _, _, hk, by decide, by decide, by decide⟩
                  · exact ⟨_, _, _, hF3.blk, by decide, by decide, by decide⟩
                have hnT : ∀ k, ((Value.slice dA' dm dc).ownBlock = some k ∨ k = g) → ¬ Tu k := fun k e => by
                  rcases e with e | rfl
                  · obtain ⟨cu, hk⟩ := own_cells hF3.dr e
                    exact HNT.out k e
                  · exact hF3.gT
                have hrt3 := HL.out.2.2.2.kept hkd; have hrt7 := hrt3.upd hu7 (fun e => by
                  rcases e with e | e
                  · obtain ⟨cu, hk⟩ := own_cells hF3.dr e
                    exact cells_ne hk hrt3 (by decide) rfl
                  · exact cells_ne hrt3 hF3.blk (by decide) e)
                have HF := Lib.hid (And.intro hF7 (And.intro ((HL.out.2.1.kept hkd).typ hu7 hty) (And.intro ((HL.out.2.2.1.then hkd fun _ _ e => e.elim).trans (hu7.mono fun k _ e => hnT k e)) hrt7))); go_simp; refine hK _ _ hS7 ?_; clear hK K hS7 hF7 c7 z7 hu7 hS6 hrows hu' hnew hS5 hF5 hg5 hx5 d5 hty hnT hrt3 hrt7 hk5 hSB hkB hF3 hT3 hS3 hkd; refine wpOO_nil ?_; generalize (W'.setCell ⟨g, 35, none⟩ (.slice A' m' c')) = W9 at *; go_wp2
                go_roundw
                case rel => exact ⟨j + 1, kA2, km2, kc2, _, A', m', c', _, HJ.out, by show _ = _; go_num, HF.out.1, HF.out.2.1, HF.out.2.2.1, HF.out.2.2.2⟩
                case measure => have := HJ.out; have := HD.out; simp [intOf]; omega
              ·
                obtain ⟨WB, hmk, hx, hkB⟩ := run_make_digs2 (sizeL n j) (by have := (HSZ.out j).2; omega) W3; have hSB : Upd (fun i => i = g ∨ (Value.slice dA' dm dc).ownBlock = some i) wr WB ∧ WB.cell? ⟨g, 33, none⟩ = some (.slice (some ⟨gs, 0, none⟩) (depthM n) cs) := ⟨hS3.1.then hkB fun _ _ e => e.elim, (hF3.kept hkB).cells.2.1⟩; go_simp; refine hK _ _ hSB ?_; clear hK K hmk; have d4 := (hF3.kept hkB).cells.2.2.2.1; refine wpOO_fork (fun K hK => ?_) (fun K hK => ?_) hSB
                · go_simp
                  refine hK _ _ hSB ?_; clear hK K; refine wpOO_step (fun K hK => ?_) hSB; go_simp; have hk5 : Kept W3 (WB.alloc (.cells (slA ⟨some ⟨W3.heap.size, 0, none⟩, sizeL n j, sizeL n j⟩) 45)) := (hkB.alloc _); have hg5 := heap_alloc_new WB (.cells (slA ⟨some ⟨W3.heap.size, 0, none⟩, sizeL n j, sizeL n j⟩) 45); have hx5 := OwnRows.upd hx ((Upd.refl (fun _ => False) WB).alloc (.cells (slA ⟨some ⟨W3.heap.size, 0, none⟩, sizeL n j, sizeL n j⟩) 45)) (fun _ _ e => e); have hS5 : Upd (fun i => i = g ∨ (Value.slice dA' dm dc).ownBlock = some i) wr (WB.alloc (.cells (slA ⟨some ⟨W3.heap.size, 0, none⟩, sizeL n j, sizeL n j⟩) 45)) ∧ (WB.alloc (.cells (slA ⟨some ⟨W3.heap.size, 0, none⟩, sizeL n j, sizeL n j⟩) 45)).cell? ⟨g, 33, none⟩ = some (.slice (some ⟨gs, 0, none⟩) (depthM n) cs) := ⟨hS3.1.then hk5 fun _ _ e => e.elim, (hF3.kept hk5).cells.2.1⟩; have d5 := (hF3.kept hk5).cells.2.2.2.1; refine hK _ _ hS5 ?_; clear hK K d4 hx; refine wpOO_step (fun K hK => ?_) hS5; have hF5 := hF3.kept hk5; refine step_append_rows sl_rows rfl (.tmp 108) (.tmp 117) rfl rfl hF5.dr ⟨some ⟨W3.heap.size, 0, none⟩, sizeL n j, sizeL n j⟩ WB.heap.size 1 _ _ rfl hg5 (by have := HD.out; have := HJ.out; rw [hF5.dl]; unfold maxLen; omega) (by have := HD.out; have := HJ.out; rw [hF5.dl]; omega) (Nat.zero_le _) ?_; intro v' W' hrows hu' hnew; have hS6 : Upd (fun i => i = g ∨ (Value.slice dA' dm dc).ownBlock = some i) wr W' ∧ W'.cell? ⟨g, 33, none⟩ = some (.slice (some ⟨gs, 0, none⟩) (depthM n) cs) := ⟨hS5.1.then hu' fun _ _ h => .inr h, hu'.cell hF5.cells.2.1 fun e => by
                    obtain ⟨cu, hk⟩ := own_cells hF5.dr e; exact cells_ne hk hF5.blk (by decide) rfl⟩
                  obtain ⟨hF7, c7, z7, hu7⟩ := hF3.digs hT3 hk5 (x := ⟨some ⟨W3.heap.size, 0, none⟩, sizeL n j, sizeL n j⟩) hx5 hrows hu' hnew; refine hK _ _ hS6 ?_; clear hK K
                  iterate 2 (refine wpOO_held (fun K hK => ?_); go_simp; first | (apply Exists.intro; refine ⟨fun W hW => ?_, hK _ ?_⟩; (go_simp; first | done | exact rfl); clear hK K) | (refine hK _ ?_; clear hK K))
                  refine wpOO_step (fun K hK => ?_) hS6; obtain ⟨A', m', c', rfl⟩ : ∃ A' m' c', v' = .slice A' m' c' := by
                    obtain ⟨A', c', h⟩ := OwnRows.form hrows; exact ⟨A', _, c', h⟩
                  have hS7 : Upd (fun i => i = g ∨ (Value.slice dA' dm dc).ownBlock = some i) wr (W'.setCell ⟨g, 35, none⟩ (.slice A' m' c')) ∧ (W'.setCell ⟨g, 35, none⟩ (.slice A' m' c')).cell? ⟨g, 33, none⟩ = some (.slice (some ⟨gs, 0, none⟩) (depthM n) cs) := ⟨hS6.1.setCell (p := ⟨g, 35, none⟩) (.slice A' m' c') (fun _ => .inl rfl), hF7.cells.2.1⟩; have hty : ∀ k, ((Value.slice dA' dm dc).ownBlock = some k ∨ k = g) → ∃ cs t fr, W3.heap[k]? = some (.cells cs t fr) ∧ t ≠ 88 ∧ t ≠ 42 ∧ t ≠ 5 := fun k e => by
                    rcases e with e | rfl
                    · obtain ⟨cu, hk⟩ := own_cells hF3.dr e
                      exact ⟨_, _, _, hk, by decide, by decide, by decide⟩
                    · exact ⟨_, _, _, hF3.blk, by decide, by decide, by decide⟩
                  have hnT : ∀ k, ((Value.slice dA' dm dc).ownBlock = some k ∨ k = g) → ¬ Tu k := fun k e => by
                    rcases e with e | rfl
                    · obtain ⟨cu, hk⟩ := own_cells hF3.dr e
                      exact HNT.out k e
                    · exact hF3.gT
                  have hrt3 := HL.out.2.2.2.kept hkd; have hrt7 := hrt3.upd hu7 (fun e => by
                    rcases e with e | e
                    · obtain ⟨cu, hk⟩ := own_cells hF3.dr e
                      exact cells_ne hk hrt3 (by decide) rfl
                    · exact cells_ne hrt3 hF3.blk (by decide) e)
                  have HF := Lib.hid (And.intro hF7 (And.intro ((HL.out.2.1.kept hkd).typ hu7 hty) (And.intro ((HL.out.2.2.1.then hkd fun _ _ e => e.elim).trans (hu7.mono fun k _ e => hnT k e)) hrt7))); go_simp; refine hK _ _ hS7 ?_; clear hK K hS7 hF7 c7 z7 hu7 hS6 hrows hu' hnew hS5 hF5 hg5 hx5 d5 hty hnT hrt3 hrt7 hk5 hSB hkB hF3 hT3 hS3 hkd; refine wpOO_nil ?_; generalize (W'.setCell ⟨g, 35, none⟩ (.slice A' m' c')) = W9 at *; go_wp2
                  go_roundw
                  case rel => exact ⟨j + 1, kA2, km2, kc2, _, A', m', c', _, HJ.out, by show _ = _; go_num, HF.out.1, HF.out.2.1, HF.out.2.2.1, HF.out.2.2.2⟩
                  case measure => have := HJ.out; have := HD.out; simp [intOf]; omega
                ·
                  go_simp; have hk5 : Kept W3 (WB.alloc (.cells (slA ⟨some ⟨W3.heap.size, 0, none⟩, sizeL n j, sizeL n j⟩) 45)) := (hkB.alloc _); have hg5 := heap_alloc_new WB (.cells (slA ⟨some ⟨W3.heap.size, 0, none⟩, sizeL n j, sizeL n j⟩) 45); have hx5 := OwnRows.upd hx ((Upd.refl (fun _ => False) WB).alloc (.cells (slA ⟨some ⟨W3.heap.size, 0, none⟩, sizeL n j, sizeL n j⟩) 45)) (fun _ _ e => e); have hS5 : Upd (fun i => i = g ∨ (Value.slice dA' dm dc).ownBlock = some i) wr (WB.alloc (.cells (slA ⟨some ⟨W3.heap.size, 0, none⟩, sizeL n j, sizeL n j⟩) 45)) ∧ (WB.alloc (.cells (slA ⟨some ⟨W3.heap.size, 0, none⟩, sizeL n j, sizeL n j⟩) 45)).cell? ⟨g, 33, none⟩ = some (.slice (some ⟨gs, 0, none⟩) (depthM n) cs) := ⟨hS3.1.then hk5 fun _ _ e => e.elim, (hF3.kept hk5).cells.2.1⟩; have d5 := (hF3.kept hk5).cells.2.2.2.1; refine hK _ _ hS5 ?_; clear hK K d4 hx; refine wpOO_step (fun K hK => ?_) hS5; go_simp; refine hK _ _ hS5 ?_; clear hK K; refine wpOO_step (fun K hK => ?_) hS5; have hF5 := hF3.kept hk5; refine step_append_rows sl_rows rfl (.tmp 108) (.tmp 117) rfl rfl hF5.dr ⟨some ⟨W3.heap.size, 0, none⟩, sizeL n j, sizeL n j⟩ WB.heap.size 1 _ _ rfl hg5 (by have := HD.out; have := HJ.out; rw [hF5.dl]; unfold maxLen; omega) (by have := HD.out; have := HJ.out; rw [hF5.dl]; omega) (Nat.zero_le _) ?_; intro v' W' hrows hu' hnew; have hS6 : Upd (fun i => i = g ∨ (Value.slice dA' dm dc).ownBlock = some i) wr W' ∧ W'.cell? ⟨g, 33, none⟩ = some (.slice (some ⟨gs, 0, none⟩) (depthM n) cs) := ⟨hS5.1.then hu' fun _ _ h => .inr h, hu'.cell hF5.cells.2.1 fun e => by
                    obtain ⟨cu, hk⟩ := own_cells hF5.dr e; exact cells_ne hk hF5.blk (by decide) rfl⟩
                  obtain ⟨hF7, c7, z7, hu7⟩ := hF3.digs hT3 hk5 (x := ⟨some ⟨W3.heap.size, 0, none⟩, sizeL n j, sizeL n j⟩) hx5 hrows hu' hnew; refine hK _ _ hS6 ?_; clear hK K
                  iterate 2 (refine wpOO_held (fun K hK => ?_); go_simp; first | (apply Exists.intro; refine ⟨fun W hW => ?_, hK _ ?_⟩; (go_simp; first | done | exact rfl); clear hK K) | (refine hK _ ?_; clear hK K))
                  refine wpOO_step (fun K hK => ?_) hS6; obtain ⟨A', m', c', rfl⟩ : ∃ A' m' c', v' = .slice A' m' c' := by
                    obtain ⟨A', c', h⟩ := OwnRows.form hrows; exact ⟨A', _, c', h⟩
                  have hS7 : Upd (fun i => i = g ∨ (Value.slice dA' dm dc).ownBlock = some i) wr (W'.setCell ⟨g, 35, none⟩ (.slice A' m' c')) ∧ (W'.setCell ⟨g, 35, none⟩ (.slice A' m' c')).cell? ⟨g, 33, none⟩ = some (.slice (some ⟨gs, 0, none⟩) (depthM n) cs) := ⟨hS6.1.setCell (p := ⟨g, 35, none⟩) (.slice A' m' c') (fun _ => .inl rfl), hF7.cells.2.1⟩; have hty : ∀ k, ((Value.slice dA' dm dc).ownBlock = some k ∨ k = g) → ∃ cs t fr, W3.heap[k]? = some (.cells cs t fr) ∧ t ≠ 88 ∧ t ≠ 42 ∧ t ≠ 5 := fun k e => by
                    rcases e with e | rfl
                    · obtain ⟨cu, hk⟩ := own_cells hF3.dr e
                      exact ⟨_, _, _, hk, by decide, by decide, by decide⟩
                    · exact ⟨_, _, _, hF3.blk, by decide, by decide, by decide⟩
                  have hnT : ∀ k, ((Value.slice dA' dm dc).ownBlock = some k ∨ k = g) → ¬ Tu k := fun k e => by
                    rcases e with e | rfl
                    · obtain ⟨cu, hk⟩ := own_cells hF3.dr e
                      exact HNT.out k e
                    · exact hF3.gT
                  have hrt3 := HL.out.2.2.2.kept hkd; have hrt7 := hrt3.upd hu7 (fun e => by
                    rcases e with e | e
                    · obtain ⟨cu, hk⟩ := own_cells hF3.dr e
                      exact cells_ne hk hrt3 (by decide) rfl
                    · exact cells_ne hrt3 hF3.blk (by decide) e)
                  have HF := Lib.hid (And.intro hF7 (And.intro ((HL.out.2.1.kept hkd).typ hu7 hty) (And.intro ((HL.out.2.2.1.then hkd fun _ _ e => e.elim).trans (hu7.mono fun k _ e => hnT k e)) hrt7))); go_simp; refine hK _ _ hS7 ?_; clear hK K hS7 hF7 c7 z7 hu7 hS6 hrows hu' hnew hS5 hF5 hg5 hx5 d5 hty hnT hrt3 hrt7 hk5 hSB hkB hF3 hT3 hS3 hkd; refine wpOO_nil ?_; generalize (W'.setCell ⟨g, 35, none⟩ (.slice A' m' c')) = W9 at *; go_wp2
                  go_roundw
                  case rel => exact ⟨j + 1, kA2, km2, kc2, _, A', m', c', _, HJ.out, by show _ = _; go_num, HF.out.1, HF.out.2.1, HF.out.2.2.1, HF.out.2.2.2⟩
                  case measure => have := HJ.out; have := HD.out; simp [intOf]; omega
            ·
              obtain ⟨WB, hmk, hx, hkB⟩ := run_make_bools (sizeL n j) (by have := (HSZ.out j).2; omega) W3; have hSB : Upd (fun i => i = g ∨ (Value.slice kA km kc).ownBlock = some i) wr WB ∧ WB.cell? ⟨g, 33, none⟩ = some (.slice (some ⟨gs, 0, none⟩) (depthM n) cs) := ⟨hS3.1.then hkB fun _ _ e => e.elim, (hF3.kept hkB).cells.2.1⟩; go_simp; refine hK _ _ hSB ?_; clear hK K hmk; have d4 := (hF3.kept hkB).cells.2.2.1; refine wpOO_fork (fun K hK => ?_) (fun K hK => ?_) hSB
              · go_simp
                refine hK _ _ hSB ?_; clear hK K; refine wpOO_step (fun K hK => ?_) hSB; go_simp; have hk5 : Kept W3 (WB.alloc (.cells (slA ⟨some ⟨W3.heap.size, 0, none⟩, sizeL n j, sizeL n j⟩) 81)) := (hkB.alloc _); have hg5 := heap_alloc_new WB (.cells (slA ⟨some ⟨W3.heap.size, 0, none⟩, sizeL n j, sizeL n j⟩) 81); have hx5 := OwnRows.upd hx ((Upd.refl (fun _ => False) WB).alloc (.cells (slA ⟨some ⟨W3.heap.size, 0, none⟩, sizeL n j, sizeL n j⟩) 81)) (fun _ _ e => e); have hS5 : Upd (fun i => i = g ∨ (Value.slice kA km kc).ownBlock = some i) wr (WB.alloc (.cells (slA ⟨some ⟨W3.heap.size, 0, none⟩, sizeL n j, sizeL n j⟩) 81)) ∧ (WB.alloc (.cells (slA ⟨some ⟨W3.heap.size, 0, none⟩, sizeL n j, sizeL n j⟩) 81)).cell? ⟨g, 33, none⟩ = some (.slice (some ⟨gs, 0, none⟩) (depthM n) cs) := ⟨hS3.1.then hk5 fun _ _ e => e.elim, (hF3.kept hk5).cells.2.1⟩; have d5 := (hF3.kept hk5).cells.2.2.1; refine hK _ _ hS5 ?_; clear hK K d4 hx; refine wpOO_step (fun K hK => ?_) hS5; have hF5 := hF3.kept hk5; refine step_append_rows bl_rows rfl (.tmp 91) (.tmp 100) rfl rfl hF5.kr ⟨some ⟨W3.heap.size, 0, none⟩, sizeL n j, sizeL n j⟩ WB.heap.size 1 _ _ rfl hg5 (by have := HD.out; have := HJ.out; rw [hF5.kl]; unfold maxLen; omega) (by have := HD.out; have := HJ.out; rw [hF5.kl]; omega) (Nat.zero_le _) ?_; intro v' W' hrows hu' hnew; have hS6 : Upd (fun i => i = g ∨ (Value.slice kA km kc).ownBlock = some i) wr W' ∧ W'.cell? ⟨g, 33, none⟩ = some (.slice (some ⟨gs, 0, none⟩) (depthM n) cs) := ⟨hS5.1.then hu' fun _ _ h => .inr h, hu'.cell hF5.cells.2.1 fun e => by
                  obtain ⟨cu, hk⟩ := own_cells hF5.kr e; exact cells_ne hk hF5.blk (by decide) rfl⟩
                obtain ⟨hF7, c7, z7, hu7⟩ := hF3.known hT3 hk5 (x := ⟨some ⟨W3.heap.size, 0, none⟩, sizeL n j, sizeL n j⟩) hx5 hrows hu' hnew; refine hK _ _ hS6 ?_; clear hK K
                iterate 2 (refine wpOO_held (fun K hK => ?_); go_simp; first | (apply Exists.intro; refine ⟨fun W hW => ?_, hK _ ?_⟩; (go_simp; first | done | exact rfl); clear hK K) | (refine hK _ ?_; clear hK K))
                refine wpOO_step (fun K hK => ?_) hS6; obtain ⟨A', m', c', rfl⟩ : ∃ A' m' c', v' = .slice A' m' c' := by
                  obtain ⟨A', c', h⟩ := OwnRows.form hrows; exact ⟨A', _, c', h⟩
                have hS7 : Upd (fun i => i = g ∨ (Value.slice kA km kc).ownBlock = some i) wr (W'.setCell ⟨g, 34, none⟩ (.slice A' m' c')) ∧ (W'.setCell ⟨g, 34, none⟩ (.slice A' m' c')).cell? ⟨g, 33, none⟩ = some (.slice (some ⟨gs, 0, none⟩) (depthM n) cs) := ⟨hS6.1.setCell (p := ⟨g, 34, none⟩) (.slice A' m' c') (fun _ => .inl rfl), hF7.cells.2.1⟩; have hty : ∀ k, ((Value.slice kA km kc).ownBlock = some k ∨ k = g) → ∃ cs t fr, W3.heap[k]? = some (.cells cs t fr) ∧ t ≠ 88 ∧ t ≠ 42 ∧ t ≠ 5 := fun k e => by
                  rcases e with e | rfl
                  · obtain ⟨cu, hk⟩ := own_cells hF3.kr e
                    exact ⟨_, _, _, hk, by decide, by decide, by decide⟩
                  · exact ⟨_, _, _, hF3.blk, by decide, by decide, by decide⟩
                have hnT : ∀ k, ((Value.slice kA km kc).ownBlock = some k ∨ k = g) → ¬ Tu k := fun k e => by
                  rcases e with e | rfl
                  · obtain ⟨cu, hk⟩ := own_cells hF3.kr e
                    exact HNT.out k e
                  · exact hF3.gT
                have hrt3 := HL.out.2.2.2.kept hkd; have hrt7 := hrt3.upd hu7 (fun e => by
                  rcases e with e | e
                  · obtain ⟨cu, hk⟩ := own_cells hF3.kr e
                    exact cells_ne hk hrt3 (by decide) rfl
                  · exact cells_ne hrt3 hF3.blk (by decide) e)
                have HF := Lib.hid (And.intro hF7 (And.intro ((HL.out.2.1.kept hkd).typ hu7 hty) (And.intro ((HL.out.2.2.1.then hkd fun _ _ e => e.elim).trans (hu7.mono fun k _ e => hnT k e)) hrt7))); go_simp; refine hK _ _ hS7 ?_; clear hK K hS7 hF7 c7 z7 hu7 hS6 hrows hu' hnew hS5 hF5 hg5 hx5 d5 hty hnT hrt3 hrt7 hk5 hSB hkB hF3 hT3 hS3 hkd; refine wpOO_nil ?_; generalize (W'.setCell ⟨g, 34, none⟩ (.slice A' m' c')) = W9 at *; obtain ⟨wr, rfl⟩ : ∃ wr : World, wr = W9 := ⟨_, rfl⟩; obtain ⟨kA2, rfl⟩ : ∃ q, q = A' := ⟨_, rfl⟩; obtain ⟨km2, rfl⟩ : ∃ q, q = m' := ⟨_, rfl⟩; obtain ⟨kc2, rfl⟩ : ∃ q, q = c' := ⟨_, rfl⟩
                replace HL := Lib.hid HF.out
                clear HF
                replace HNT := Lib.hid HL.out.1.dT
                clear f8 f9; go_wp2_with fail; have hgs : ¬ (gs = g ∨ (Value.slice dA' dm dc).ownBlock = some gs) := fun e => by
                  obtain ⟨cu, hk⟩ := own_cells HL.out.1.szs (k := gs) rfl; rcases e with e | e
                  · exact cells_ne hk HL.out.1.blk (by decide) e
                  · obtain ⟨cu2, hk2⟩ := own_cells HL.out.1.dr e
                    exact cells_ne hk hk2 (by decide) rfl
                have c33 := HL.out.1.cells.2.1; have csz := HL.out.1.size HJ.out; have f8 : ∀ W, (Upd (fun i => i = g ∨ (Value.slice dA' dm dc).ownBlock = some i) wr W ∧ W.cell? ⟨g, 33, none⟩ = some (.slice (some ⟨gs, 0, none⟩) (depthM n) cs)) → W.cell? ⟨g, 33, none⟩ = some (.slice (some ⟨gs, 0, none⟩) (depthM n) cs) := fun W hW => hW.2; have f9 : ∀ W, (Upd (fun i => i = g ∨ (Value.slice dA' dm dc).ownBlock = some i) wr W ∧ W.cell? ⟨g, 33, none⟩ = some (.slice (some ⟨gs, 0, none⟩) (depthM n) cs)) → W.cell? ⟨gs, j, none⟩ = some (.int .i64 (sizeL n j : Int)) := fun W hW => hW.1.cell csz hgs; have hS3 : Upd (fun i => i = g ∨ (Value.slice dA' dm dc).ownBlock = some i) wr wr.drew ∧ wr.drew.cell? ⟨g, 33, none⟩ = some (.slice (some ⟨gs, 0, none⟩) (depthM n) cs) := ⟨(Upd.refl _ _).drew, c33⟩; clear hgs c33 csz; refine wp_region_tree (.take 0 (.take 1 (.take 2 (.take 3 (.take 5 (.take 6 (.take 7 (.take 8 (.take 9 (.take 10 (.take 11 (.two 4 12 (.one 12 (.one 13 (.one 14 (.take 15 (.take 16 (.one 17 .done)))))) (.two 4 13 (.one 13 (.one 14 (.take 15 (.take 16 (.one 17 .done))))) (.one 4 (.one 14 (.take 15 (.take 16 (.one 17 .done))))))))))))))))) ) (by kernel_rfl) (by kernel_rfl) (fun W => Upd (fun i => i = g ∨ (Value.slice dA' dm dc).ownBlock = some i) wr W ∧ W.cell? ⟨g, 33, none⟩ = some (.slice (some ⟨gs, 0, none⟩) (depthM n) cs)) hS3 ?_; simp only [OT.ops, List.getD_cons_zero, List.getD_cons_succ]
                iterate 11 (refine wpOO_held (fun K hK => ?_); go_simp; first | (apply Exists.intro; refine ⟨fun W hW => ?_, hK _ ?_⟩; (go_simp; first | done | exact rfl); clear hK K) | (refine hK _ ?_; clear hK K))
                have hF3 := HL.out.1.kept (Upd.refl _ wr).drew; have hT3 : ∀ k, Tu k → k < wr.drew.heap.size := fun k e => Nat.lt_of_lt_of_le (HT.out k e) HL.out.2.2.1.size; have hkd : Kept wr wr.drew := (Upd.refl _ _).drew; generalize wr.drew = W3 at *; clear f8 f9; refine wpOO_fork (fun K hK => ?_) (fun K hK => ?_) hS3
                · have d3 := hF3.cells.2.2.2.1
                  go_simp; refine hK _ _ hS3 ?_; clear hK K d3; refine wpOO_step (fun K hK => ?_) hS3; obtain ⟨WB, hmk, hx, hkB⟩ := run_make_digs2 (sizeL n j) (by have := (HSZ.out j).2; omega) W3; have hSB : Upd (fun i => i = g ∨ (Value.slice dA' dm dc).ownBlock = some i) wr WB ∧ WB.cell? ⟨g, 33, none⟩ = some (.slice (some ⟨gs, 0, none⟩) (depthM n) cs) := ⟨hS3.1.then hkB fun _ _ e => e.elim, (hF3.kept hkB).cells.2.1⟩; go_simp; refine hK _ _ hSB ?_; clear hK K hmk; have d4 := (hF3.kept hkB).cells.2.2.2.1; refine wpOO_step (fun K hK => ?_) hSB; go_simp; have hk5 : Kept W3 (WB.alloc (.cells (slA ⟨some ⟨W3.heap.size, 0, none⟩, sizeL n j, sizeL n j⟩) 45)) := (hkB.alloc _); have hg5 := heap_alloc_new WB (.cells (slA ⟨some ⟨W3.heap.size, 0, none⟩, sizeL n j, sizeL n j⟩) 45); have hx5 := OwnRows.upd hx ((Upd.refl (fun _ => False) WB).alloc (.cells (slA ⟨some ⟨W3.heap.size, 0, none⟩, sizeL n j, sizeL n j⟩) 45)) (fun _ _ e => e); have hS5 : Upd (fun i => i = g ∨ (Value.slice dA' dm dc).ownBlock = some i) wr (WB.alloc (.cells (slA ⟨some ⟨W3.heap.size, 0, none⟩, sizeL n j, sizeL n j⟩) 45)) ∧ (WB.alloc (.cells (slA ⟨some ⟨W3.heap.size, 0, none⟩, sizeL n j, sizeL n j⟩) 45)).cell? ⟨g, 33, none⟩ = some (.slice (some ⟨gs, 0, none⟩) (depthM n) cs) := ⟨hS3.1.then hk5 fun _ _ e => e.elim, (hF3.kept hk5).cells.2.1⟩; have d5 := (hF3.kept hk5).cells.2.2.2.1; refine hK _ _ hS5 ?_; clear hK K d4 hx; refine wpOO_step (fun K hK => ?_) hS5; have hF5 := hF3.kept hk5; refine step_append_rows sl_rows rfl (.tmp 108) (.tmp 117) rfl rfl hF5.dr ⟨some ⟨W3.heap.size, 0, none⟩, sizeL n j, sizeL n j⟩ WB.heap.size 1 _ _ rfl hg5 (by have := HD.out; have := HJ.out; rw [hF5.dl]; unfold maxLen; omega) (by have := HD.out; have := HJ.out; rw [hF5.dl]; omega) (Nat.zero_le _) ?_; intro v' W' hrows hu' hnew; have hS6 : Upd (fun i => i = g ∨ (Value.slice dA' dm dc).ownBlock = some i) wr W' ∧ W'.cell? ⟨g, 33, none⟩ = some (.slice (some ⟨gs, 0, none⟩) (depthM n) cs) := ⟨hS5.1.then hu' fun _ _ h => .inr h, hu'.cell hF5.cells.2.1 fun e => by
                    obtain ⟨cu, hk⟩ := own_cells hF5.dr e; exact cells_ne hk hF5.blk (by decide) rfl⟩
                  obtain ⟨hF7, c7, z7, hu7⟩ := hF3.digs hT3 hk5 (x := ⟨some ⟨W3.heap.size, 0, none⟩, sizeL n j, sizeL n j⟩) hx5 hrows hu' hnew; refine hK _ _ hS6 ?_; clear hK K
                  iterate 2 (refine wpOO_held (fun K hK => ?_); go_simp; first | (apply Exists.intro; refine ⟨fun W hW => ?_, hK _ ?_⟩; (go_simp; first | done | exact rfl); clear hK K) | (refine hK _ ?_; clear hK K))
                  refine wpOO_step (fun K hK => ?_) hS6; obtain ⟨A', m', c', rfl⟩ : ∃ A' m' c', v' = .slice A' m' c' := by
                    obtain ⟨A', c', h⟩ := OwnRows.form hrows; exact ⟨A', _, c', h⟩
                  have hS7 : Upd (fun i => i = g ∨ (Value.slice dA' dm dc).ownBlock = some i) wr (W'.setCell ⟨g, 35, none⟩ (.slice A' m' c')) ∧ (W'.setCell ⟨g, 35, none⟩ (.slice A' m' c')).cell? ⟨g, 33, none⟩ = some (.slice (some ⟨gs, 0, none⟩) (depthM n) cs) := ⟨hS6.1.setCell (p := ⟨g, 35, none⟩) (.slice A' m' c') (fun _ => .inl rfl), hF7.cells.2.1⟩; have hty : ∀ k, ((Value.slice dA' dm dc).ownBlock = some k ∨ k = g) → ∃ cs t fr, W3.heap[k]? = some (.cells cs t fr) ∧ t ≠ 88 ∧ t ≠ 42 ∧ t ≠ 5 := fun k e => by
                    rcases e with e | rfl
                    · obtain ⟨cu, hk⟩ := own_cells hF3.dr e
                      exact ⟨_, _, _, hk, by decide, by decide, by decide⟩
                    · exact ⟨_, _, _, hF3.blk, by decide, by decide, by decide⟩
                  have hnT : ∀ k, ((Value.slice dA' dm dc).ownBlock = some k ∨ k = g) → ¬ Tu k := fun k e => by
                    rcases e with e | rfl
                    · obtain ⟨cu, hk⟩ := own_cells hF3.dr e
                      exact HNT.out k e
                    · exact hF3.gT
                  have hrt3 := HL.out.2.2.2.kept hkd; have hrt7 := hrt3.upd hu7 (fun e => by
                    rcases e with e | e
                    · obtain ⟨cu, hk⟩ := own_cells hF3.dr e
                      exact cells_ne hk hrt3 (by decide) rfl
                    · exact cells_ne hrt3 hF3.blk (by decide) e)
                  have HF := Lib.hid (And.intro hF7 (And.intro ((HL.out.2.1.kept hkd).typ hu7 hty) (And.intro ((HL.out.2.2.1.then hkd fun _ _ e => e.elim).trans (hu7.mono fun k _ e => hnT k e)) hrt7))); go_simp; refine hK _ _ hS7 ?_; clear hK K hS7 hF7 c7 z7 hu7 hS6 hrows hu' hnew hS5 hF5 hg5 hx5 d5 hty hnT hrt3 hrt7 hk5 hSB hkB hF3 hT3 hS3 hkd; refine wpOO_nil ?_; generalize (W'.setCell ⟨g, 35, none⟩ (.slice A' m' c')) = W9 at *; go_wp2
                  go_roundw
                  case rel => exact ⟨j + 1, kA2, km2, kc2, _, A', m', c', _, HJ.out, by show _ = _; go_num, HF.out.1, HF.out.2.1, HF.out.2.2.1, HF.out.2.2.2⟩
                  case measure => have := HJ.out; have := HD.out; simp [intOf]; omega
                ·
                  obtain ⟨WB, hmk, hx, hkB⟩ := run_make_digs2 (sizeL n j) (by have := (HSZ.out j).2; omega) W3; have hSB : Upd (fun i => i = g ∨ (Value.slice dA' dm dc).ownBlock = some i) wr WB ∧ WB.cell? ⟨g, 33, none⟩ = some (.slice (some ⟨gs, 0, none⟩) (depthM n) cs) := ⟨hS3.1.then hkB fun _ _ e => e.elim, (hF3.kept hkB).cells.2.1⟩; go_simp; refine hK _ _ hSB ?_; clear hK K hmk; have d4 := (hF3.kept hkB).cells.2.2.2.1; refine wpOO_fork (fun K hK => ?_) (fun K hK => ?_) hSB
                  · go_simp
                    refine hK _ _ hSB ?_; clear hK K; refine wpOO_step (fun K hK => ?_) hSB; go_simp; have hk5 : Kept W3 (WB.alloc (.cells (slA ⟨some ⟨W3.heap.size, 0, none⟩, sizeL n j, sizeL n j⟩) 45)) := (hkB.alloc _); have hg5 := heap_alloc_new WB (.cells (slA ⟨some ⟨W3.heap.size, 0, none⟩, sizeL n j, sizeL n j⟩) 45); have hx5 := OwnRows.upd hx ((Upd.refl (fun _ => False) WB).alloc (.cells (slA ⟨some ⟨W3.heap.size, 0, none⟩, sizeL n j, sizeL n j⟩) 45)) (fun _ _ e => e); have hS5 : Upd (fun i => i = g ∨ (Value.slice dA' dm dc).ownBlock = some i) wr (WB.alloc (.cells (slA ⟨some ⟨W3.heap.size, 0, none⟩, sizeL n j, sizeL n j⟩) 45)) ∧ (WB.alloc (.cells (slA ⟨some ⟨W3.heap.size, 0, none⟩, sizeL n j, sizeL n j⟩) 45)).cell? ⟨g, 33, none⟩ = some (.slice (some ⟨gs, 0, none⟩) (depthM n) cs) := ⟨hS3.1.then hk5 fun _ _ e => e.elim, (hF3.kept hk5).cells.2.1⟩; have d5 := (hF3.kept hk5).cells.2.2.2.1; refine hK _ _ hS5 ?_; clear hK K d4 hx; refine wpOO_step (fun K hK => ?_) hS5; have hF5 := hF3.kept hk5; refine step_append_rows sl_rows rfl (.tmp 108) (.tmp 117) rfl rfl hF5.dr ⟨some ⟨W3.heap.size, 0, none⟩, sizeL n j, sizeL n j⟩ WB.heap.size 1 _ _ rfl hg5 (by have := HD.out; have := HJ.out; rw [hF5.dl]; unfold maxLen; omega) (by have := HD.out; have := HJ.out; rw [hF5.dl]; omega) (Nat.zero_le _) ?_; intro v' W' hrows hu' hnew; have hS6 : Upd (fun i => i = g ∨ (Value.slice dA' dm dc).ownBlock = some i) wr W' ∧ W'.cell? ⟨g, 33, none⟩ = some (.slice (some ⟨gs, 0, none⟩) (depthM n) cs) := ⟨hS5.1.then hu' fun _ _ h => .inr h, hu'.cell hF5.cells.2.1 fun e => by
                      obtain ⟨cu, hk⟩ := own_cells hF5.dr e; exact cells_ne hk hF5.blk (by decide) rfl⟩
                    obtain ⟨hF7, c7, z7, hu7⟩ := hF3.digs hT3 hk5 (x := ⟨some ⟨W3.heap.size, 0, none⟩, sizeL n j, sizeL n j⟩) hx5 hrows hu' hnew; refine hK _ _ hS6 ?_; clear hK K
                    iterate 2 (refine wpOO_held (fun K hK => ?_); go_simp; first | (apply Exists.intro; refine ⟨fun W hW => ?_, hK _ ?_⟩; (go_simp; first | done | exact rfl); clear hK K) | (refine hK _ ?_; clear hK K))
                    refine wpOO_step (fun K hK => ?_) hS6; obtain ⟨A', m', c', rfl⟩ : ∃ A' m' c', v' = .slice A' m' c' := by
                      obtain ⟨A', c', h⟩ := OwnRows.form hrows; exact ⟨A', _, c', h⟩
                    have hS7 : Upd (fun i => i = g ∨ (Value.slice dA' dm dc).ownBlock = some i) wr (W'.setCell ⟨g, 35, none⟩ (.slice A' m' c')) ∧ (W'.setCell ⟨g, 35, none⟩ (.slice A' m' c')).cell? ⟨g, 33, none⟩ = some (.slice (some ⟨gs, 0, none⟩) (depthM n) cs) := ⟨hS6.1.setCell (p := ⟨g, 35, none⟩) (.slice A' m' c') (fun _ => .inl rfl), hF7.cells.2.1⟩; have hty : ∀ k, ((Value.slice dA' dm dc).ownBlock = some k ∨ k = g) → ∃ cs t fr, W3.heap[k]? = some (.cells cs t fr) ∧ t ≠ 88 ∧ t ≠ 42 ∧ t ≠ 5 := fun k e => by
                      rcases e with e | rfl
                      · obtain ⟨cu, hk⟩ := own_cells hF3.dr e
                        exact ⟨_, _, _, hk, by decide, by decide, by decide⟩
                      · exact ⟨_, _, _, hF3.blk, by decide, by decide, by decide⟩
                    have hnT : ∀ k, ((Value.slice dA' dm dc).ownBlock = some k ∨ k = g) → ¬ Tu k := fun k e => by
                      rcases e with e | rfl
                      · obtain ⟨cu, hk⟩ := own_cells hF3.dr e
                        exact HNT.out k e
                      · exact hF3.gT
                    have hrt3 := HL.out.2.2.2.kept hkd; have hrt7 := hrt3.upd hu7 (fun e => by
                      rcases e with e | e
                      · obtain ⟨cu, hk⟩ := own_cells hF3.dr e
                        exact cells_ne hk hrt3 (by decide) rfl
                      · exact cells_ne hrt3 hF3.blk (by decide) e)
                    have HF := Lib.hid (And.intro hF7 (And.intro ((HL.out.2.1.kept hkd).typ hu7 hty) (And.intro ((HL.out.2.2.1.then hkd fun _ _ e => e.elim).trans (hu7.mono fun k _ e => hnT k e)) hrt7))); go_simp; refine hK _ _ hS7 ?_; clear hK K hS7 hF7 c7 z7 hu7 hS6 hrows hu' hnew hS5 hF5 hg5 hx5 d5 hty hnT hrt3 hrt7 hk5 hSB hkB hF3 hT3 hS3 hkd; refine wpOO_nil ?_; generalize (W'.setCell ⟨g, 35, none⟩ (.slice A' m' c')) = W9 at *; go_wp2
                    go_roundw
                    case rel => exact ⟨j + 1, kA2, km2, kc2, _, A', m', c', _, HJ.out, by show _ = _; go_num, HF.out.1, HF.out.2.1, HF.out.2.2.1, HF.out.2.2.2⟩
                    case measure => have := HJ.out; have := HD.out; simp [intOf]; omega
                  ·
                    go_simp; have hk5 : Kept W3 (WB.alloc (.cells (slA ⟨some ⟨W3.heap.size, 0, none⟩, sizeL n j, sizeL n j⟩) 45)) := (hkB.alloc _); have hg5 := heap_alloc_new WB (.cells (slA ⟨some ⟨W3.heap.size, 0, none⟩, sizeL n j, sizeL n j⟩) 45); have hx5 := OwnRows.upd hx ((Upd.refl (fun _ => False) WB).alloc (.cells (slA ⟨some ⟨W3.heap.size, 0, none⟩, sizeL n j, sizeL n j⟩) 45)) (fun _ _ e => e); have hS5 : Upd (fun i => i = g ∨ (Value.slice dA' dm dc).ownBlock = some i) wr (WB.alloc (.cells (slA ⟨some ⟨W3.heap.size, 0, none⟩, sizeL n j, sizeL n j⟩) 45)) ∧ (WB.alloc (.cells (slA ⟨some ⟨W3.heap.size, 0, none⟩, sizeL n j, sizeL n j⟩) 45)).cell? ⟨g, 33, none⟩ = some (.slice (some ⟨gs, 0, none⟩) (depthM n) cs) := ⟨hS3.1.then hk5 fun _ _ e => e.elim, (hF3.kept hk5).cells.2.1⟩; have d5 := (hF3.kept hk5).cells.2.2.2.1; refine hK _ _ hS5 ?_; clear hK K d4 hx; refine wpOO_step (fun K hK => ?_) hS5; go_simp; refine hK _ _ hS5 ?_; clear hK K; refine wpOO_step (fun K hK => ?_) hS5; have hF5 := hF3.kept hk5; refine step_append_rows sl_rows rfl (.tmp 108) (.tmp 117) rfl rfl hF5.dr ⟨some ⟨W3.heap.size, 0, none⟩, sizeL n j, sizeL n j⟩ WB.heap.size 1 _ _ rfl hg5 (by have := HD.out; have := HJ.out; rw [hF5.dl]; unfold maxLen; omega) (by have := HD.out; have := HJ.out; rw [hF5.dl]; omega) (Nat.zero_le _) ?_; intro v' W' hrows hu' hnew; have hS6 : Upd (fun i => i = g ∨ (Value.slice dA' dm dc).ownBlock = some i) wr W' ∧ W'.cell? ⟨g, 33, none⟩ = some (.slice (some ⟨gs, 0, none⟩) (depthM n) cs) := ⟨hS5.1.then hu' fun _ _ h => .inr h, hu'.cell hF5.cells.2.1 fun e => by
                      obtain ⟨cu, hk⟩ := own_cells hF5.dr e; exact cells_ne hk hF5.blk (by decide) rfl⟩
                    obtain ⟨hF7, c7, z7, hu7⟩ := hF3.digs hT3 hk5 (x := ⟨some ⟨W3.heap.size, 0, none⟩, sizeL n j, sizeL n j⟩) hx5 hrows hu' hnew; refine hK _ _ hS6 ?_; clear hK K
                    iterate 2 (refine wpOO_held (fun K hK => ?_); go_simp; first | (apply Exists.intro; refine ⟨fun W hW => ?_, hK _ ?_⟩; (go_simp; first | done | exact rfl); clear hK K) | (refine hK _ ?_; clear hK K))
                    refine wpOO_step (fun K hK => ?_) hS6; obtain ⟨A', m', c', rfl⟩ : ∃ A' m' c', v' = .slice A' m' c' := by
                      obtain ⟨A', c', h⟩ := OwnRows.form hrows; exact ⟨A', _, c', h⟩
                    have hS7 : Upd (fun i => i = g ∨ (Value.slice dA' dm dc).ownBlock = some i) wr (W'.setCell ⟨g, 35, none⟩ (.slice A' m' c')) ∧ (W'.setCell ⟨g, 35, none⟩ (.slice A' m' c')).cell? ⟨g, 33, none⟩ = some (.slice (some ⟨gs, 0, none⟩) (depthM n) cs) := ⟨hS6.1.setCell (p := ⟨g, 35, none⟩) (.slice A' m' c') (fun _ => .inl rfl), hF7.cells.2.1⟩; have hty : ∀ k, ((Value.slice dA' dm dc).ownBlock = some k ∨ k = g) → ∃ cs t fr, W3.heap[k]? = some (.cells cs t fr) ∧ t ≠ 88 ∧ t ≠ 42 ∧ t ≠ 5 := fun k e => by
                      rcases e with e | rfl
                      · obtain ⟨cu, hk⟩ := own_cells hF3.dr e
                        exact ⟨_, _, _, hk, by decide, by decide, by decide⟩
                      · exact ⟨_, _, _, hF3.blk, by decide, by decide, by decide⟩
                    have hnT : ∀ k, ((Value.slice dA' dm dc).ownBlock = some k ∨ k = g) → ¬ Tu k := fun k e => by
                      rcases e with e | rfl
                      · obtain ⟨cu, hk⟩ := own_cells hF3.dr e
                        exact HNT.out k e
                      · exact hF3.gT
                    have hrt3 := HL.out.2.2.2.kept hkd; have hrt7 := hrt3.upd hu7 (fun e => by
                      rcases e with e | e
                      · obtain ⟨cu, hk⟩ := own_cells hF3.dr e
                        exact cells_ne hk hrt3 (by decide) rfl
                      · exact cells_ne hrt3 hF3.blk (by decide) e)
                    have HF := Lib.hid (And.intro hF7 (And.intro ((HL.out.2.1.kept hkd).typ hu7 hty) (And.intro ((HL.out.2.2.1.then hkd fun _ _ e => e.elim).trans (hu7.mono fun k _ e => hnT k e)) hrt7))); go_simp; refine hK _ _ hS7 ?_; clear hK K hS7 hF7 c7 z7 hu7 hS6 hrows hu' hnew hS5 hF5 hg5 hx5 d5 hty hnT hrt3 hrt7 hk5 hSB hkB hF3 hT3 hS3 hkd; refine wpOO_nil ?_; generalize (W'.setCell ⟨g, 35, none⟩ (.slice A' m' c')) = W9 at *; go_wp2
                    go_roundw
                    case rel => exact ⟨j + 1, kA2, km2, kc2, _, A', m', c', _, HJ.out, by show _ = _; go_num, HF.out.1, HF.out.2.1, HF.out.2.2.1, HF.out.2.2.2⟩
                    case measure => have := HJ.out; have := HD.out; simp [intOf]; omega
              ·
                go_simp; have hk5 : Kept W3 (WB.alloc (.cells (slA ⟨some ⟨W3.heap.size, 0, none⟩, sizeL n j, sizeL n j⟩) 81)) := (hkB.alloc _); have hg5 := heap_alloc_new WB (.cells (slA ⟨some ⟨W3.heap.size, 0, none⟩, sizeL n j, sizeL n j⟩) 81); have hx5 := OwnRows.upd hx ((Upd.refl (fun _ => False) WB).alloc (.cells (slA ⟨some ⟨W3.heap.size, 0, none⟩, sizeL n j, sizeL n j⟩) 81)) (fun _ _ e => e); have hS5 : Upd (fun i => i = g ∨ (Value.slice kA km kc).ownBlock = some i) wr (WB.alloc (.cells (slA ⟨some ⟨W3.heap.size, 0, none⟩, sizeL n j, sizeL n j⟩) 81)) ∧ (WB.alloc (.cells (slA ⟨some ⟨W3.heap.size, 0, none⟩, sizeL n j, sizeL n j⟩) 81)).cell? ⟨g, 33, none⟩ = some (.slice (some ⟨gs, 0, none⟩) (depthM n) cs) := ⟨hS3.1.then hk5 fun _ _ e => e.elim, (hF3.kept hk5).cells.2.1⟩; have d5 := (hF3.kept hk5).cells.2.2.1; refine hK _ _ hS5 ?_; clear hK K d4 hx; refine wpOO_step (fun K hK => ?_) hS5; go_simp; refine hK _ _ hS5 ?_; clear hK K; refine wpOO_step (fun K hK => ?_) hS5; have hF5 := hF3.kept hk5; refine step_append_rows bl_rows rfl (.tmp 91) (.tmp 100) rfl rfl hF5.kr ⟨some ⟨W3.heap.size, 0, none⟩, sizeL n j, sizeL n j⟩ WB.heap.size 1 _ _ rfl hg5 (by have := HD.out; have := HJ.out; rw [hF5.kl]; unfold maxLen; omega) (by have := HD.out; have := HJ.out; rw [hF5.kl]; omega) (Nat.zero_le _) ?_; intro v' W' hrows hu' hnew; have hS6 : Upd (fun i => i = g ∨ (Value.slice kA km kc).ownBlock = some i) wr W' ∧ W'.cell? ⟨g, 33, none⟩ = some (.slice (some ⟨gs, 0, none⟩) (depthM n) cs) := ⟨hS5.1.then hu' fun _ _ h => .inr h, hu'.cell hF5.cells.2.1 fun e => by
                  obtain ⟨cu, hk⟩ := own_cells hF5.kr e; exact cells_ne hk hF5.blk (by decide) rfl⟩
                obtain ⟨hF7, c7, z7, hu7⟩ := hF3.known hT3 hk5 (x := ⟨some ⟨W3.heap.size, 0, none⟩, sizeL n j, sizeL n j⟩) hx5 hrows hu' hnew; refine hK _ _ hS6 ?_; clear hK K
                iterate 2 (refine wpOO_held (fun K hK => ?_); go_simp; first | (apply Exists.intro; refine ⟨fun W hW => ?_, hK _ ?_⟩; (go_simp; first | done | exact rfl); clear hK K) | (refine hK _ ?_; clear hK K))
                refine wpOO_step (fun K hK => ?_) hS6; obtain ⟨A', m', c', rfl⟩ : ∃ A' m' c', v' = .slice A' m' c' := by
                  obtain ⟨A', c', h⟩ := OwnRows.form hrows; exact ⟨A', _, c', h⟩
                have hS7 : Upd (fun i => i = g ∨ (Value.slice kA km kc).ownBlock = some i) wr (W'.setCell ⟨g, 34, none⟩ (.slice A' m' c')) ∧ (W'.setCell ⟨g, 34, none⟩ (.slice A' m' c')).cell? ⟨g, 33, none⟩ = some (.slice (some ⟨gs, 0, none⟩) (depthM n) cs) := ⟨hS6.1.setCell (p := ⟨g, 34, none⟩) (.slice A' m' c') (fun _ => .inl rfl), hF7.cells.2.1⟩; have hty : ∀ k, ((Value.slice kA km kc).ownBlock = some k ∨ k = g) → ∃ cs t fr, W3.heap[k]? = some (.cells cs t fr) ∧ t ≠ 88 ∧ t ≠ 42 ∧ t ≠ 5 := fun k e => by
                  rcases e with e | rfl
                  · obtain ⟨cu, hk⟩ := own_cells hF3.kr e
                    exact ⟨_, _, _, hk, by decide, by decide, by decide⟩
                  · exact ⟨_, _, _, hF3.blk, by decide, by decide, by decide⟩
                have hnT : ∀ k, ((Value.slice kA km kc).ownBlock = some k ∨ k = g) → ¬ Tu k := fun k e => by
                  rcases e with e | rfl
                  · obtain ⟨cu, hk⟩ := own_cells hF3.kr e
                    exact HNT.out k e
                  · exact hF3.gT
                have hrt3 := HL.out.2.2.2.kept hkd; have hrt7 := hrt3.upd hu7 (fun e => by
                  rcases e with e | e
                  · obtain ⟨cu, hk⟩ := own_cells hF3.kr e
                    exact cells_ne hk hrt3 (by decide) rfl
                  · exact cells_ne hrt3 hF3.blk (by decide) e)
                have HF := Lib.hid (And.intro hF7 (And.intro ((HL.out.2.1.kept hkd).typ hu7 hty) (And.intro ((HL.out.2.2.1.then hkd fun _ _ e => e.elim).trans (hu7.mono fun k _ e => hnT k e)) hrt7))); go_simp; refine hK _ _ hS7 ?_; clear hK K hS7 hF7 c7 z7 hu7 hS6 hrows hu' hnew hS5 hF5 hg5 hx5 d5 hty hnT hrt3 hrt7 hk5 hSB hkB hF3 hT3 hS3 hkd; refine wpOO_nil ?_; generalize (W'.setCell ⟨g, 34, none⟩ (.slice A' m' c')) = W9 at *; obtain ⟨wr, rfl⟩ : ∃ wr : World, wr = W9 := ⟨_, rfl⟩; obtain ⟨kA2, rfl⟩ : ∃ q, q = A' := ⟨_, rfl⟩; obtain ⟨km2, rfl⟩ : ∃ q, q = m' := ⟨_, rfl⟩; obtain ⟨kc2, rfl⟩ : ∃ q, q = c' := ⟨_, rfl⟩
                replace HL := Lib.hid HF.out
                clear HF
                replace HNT := Lib.hid HL.out.1.dT
                clear f8 f9; go_wp2_with fail; have hgs : ¬ (gs = g ∨ (Value.slice dA' dm dc).ownBlock = some gs) := fun e => by
                  obtain ⟨cu, hk⟩ := own_cells HL.out.1.szs (k := gs) rfl; rcases e with e | e
                  · exact cells_ne hk HL.out.1.blk (by decide) e
                  · obtain ⟨cu2, hk2⟩ := own_cells HL.out.1.dr e
                    exact cells_ne hk hk2 (by decide) rfl
                have c33 := HL.out.1.cells.2.1; have csz := HL.out.1.size HJ.out; have f8 : ∀ W, (Upd (fun i => i = g ∨ (Value.slice dA' dm dc).ownBlock = some i) wr W ∧ W.cell? ⟨g, 33, none⟩ = some (.slice (some ⟨gs, 0, none⟩) (depthM n) cs)) → W.cell? ⟨g, 33, none⟩ = some (.slice (some ⟨gs, 0, none⟩) (depthM n) cs) := fun W hW => hW.2; have f9 : ∀ W, (Upd (fun i => i = g ∨ (Value.slice dA' dm dc).ownBlock = some i) wr W ∧ W.cell? ⟨g, 33, none⟩ = some (.slice (some ⟨gs, 0, none⟩) (depthM n) cs)) → W.cell? ⟨gs, j, none⟩ = some (.int .i64 (sizeL n j : Int)) := fun W hW => hW.1.cell csz hgs; have hS3 : Upd (fun i => i = g ∨ (Value.slice dA' dm dc).ownBlock = some i) wr wr.drew ∧ wr.drew.cell? ⟨g, 33, none⟩ = some (.slice (some ⟨gs, 0, none⟩) (depthM n) cs) := ⟨(Upd.refl _ _).drew, c33⟩; clear hgs c33 csz; refine wp_region_tree (.take 0 (.take 1 (.take 2 (.take 3 (.take 5 (.take 6 (.take 7 (.take 8 (.take 9 (.take 10 (.take 11 (.two 4 12 (.one 12 (.one 13 (.one 14 (.take 15 (.take 16 (.one 17 .done)))))) (.two 4 13 (.one 13 (.one 14 (.take 15 (.take 16 (.one 17 .done))))) (.one 4 (.one 14 (.take 15 (.take 16 (.one 17 .done))))))))))))))))) ) (by kernel_rfl) (by kernel_rfl) (fun W => Upd (fun i => i = g ∨ (Value.slice dA' dm dc).ownBlock = some i) wr W ∧ W.cell? ⟨g, 33, none⟩ = some (.slice (some ⟨gs, 0, none⟩) (depthM n) cs)) hS3 ?_; simp only [OT.ops, List.getD_cons_zero, List.getD_cons_succ]
                iterate 11 (refine wpOO_held (fun K hK => ?_); go_simp; first | (apply Exists.intro; refine ⟨fun W hW => ?_, hK _ ?_⟩; (go_simp; first | done | exact rfl); clear hK K) | (refine hK _ ?_; clear hK K))
                have hF3 := HL.out.1.kept (Upd.refl _ wr).drew; have hT3 : ∀ k, Tu k → k < wr.drew.heap.size := fun k e => Nat.lt_of_lt_of_le (HT.out k e) HL.out.2.2.1.size; have hkd : Kept wr wr.drew := (Upd.refl _ _).drew; generalize wr.drew = W3 at *; clear f8 f9; refine wpOO_fork (fun K hK => ?_) (fun K hK => ?_) hS3
                · have d3 := hF3.cells.2.2.2.1
                  go_simp; refine hK _ _ hS3 ?_; clear hK K d3; refine wpOO_step (fun K hK => ?_) hS3; obtain ⟨WB, hmk, hx, hkB⟩ := run_make_digs2 (sizeL n j) (by have := (HSZ.out j).2; omega) W3; have hSB : Upd (fun i => i = g ∨ (Value.slice dA' dm dc).ownBlock = some i) wr WB ∧ WB.cell? ⟨g, 33, none⟩ = some (.slice (some ⟨gs, 0, none⟩) (depthM n) cs) := ⟨hS3.1.then hkB fun _ _ e => e.elim, (hF3.kept hkB).cells.2.1⟩; go_simp; refine hK _ _ hSB ?_; clear hK K hmk; have d4 := (hF3.kept hkB).cells.2.2.2.1; refine wpOO_step (fun K hK => ?_) hSB; go_simp; have hk5 : Kept W3 (WB.alloc (.cells (slA ⟨some ⟨W3.heap.size, 0, none⟩, sizeL n j, sizeL n j⟩) 45)) := (hkB.alloc _); have hg5 := heap_alloc_new WB (.cells (slA ⟨some ⟨W3.heap.size, 0, none⟩, sizeL n j, sizeL n j⟩) 45); have hx5 := OwnRows.upd hx ((Upd.refl (fun _ => False) WB).alloc (.cells (slA ⟨some ⟨W3.heap.size, 0, none⟩, sizeL n j, sizeL n j⟩) 45)) (fun _ _ e => e); have hS5 : Upd (fun i => i = g ∨ (Value.slice dA' dm dc).ownBlock = some i) wr (WB.alloc (.cells (slA ⟨some ⟨W3.heap.size, 0, none⟩, sizeL n j, sizeL n j⟩) 45)) ∧ (WB.alloc (.cells (slA ⟨some ⟨W3.heap.size, 0, none⟩, sizeL n j, sizeL n j⟩) 45)).cell? ⟨g, 33, none⟩ = some (.slice (some ⟨gs, 0, none⟩) (depthM n) cs) := ⟨hS3.1.then hk5 fun _ _ e => e.elim, (hF3.kept hk5).cells.2.1⟩; have d5 := (hF3.kept hk5).cells.2.2.2.1; refine hK _ _ hS5 ?_; clear hK K d4 hx; refine wpOO_step (fun K hK => ?_) hS5; have hF5 := hF3.kept hk5; refine step_append_rows sl_rows rfl (.tmp 108) (.tmp 117) rfl rfl hF5.dr ⟨some ⟨W3.heap.size, 0, none⟩, sizeL n j, sizeL n j⟩ WB.heap.size 1 _ _ rfl hg5 (by have := HD.out; have := HJ.out; rw [hF5.dl]; unfold maxLen; omega) (by have := HD.out; have := HJ.out; rw [hF5.dl]; omega) (Nat.zero_le _) ?_; intro v' W' hrows hu' hnew; have hS6 : Upd (fun i => i = g ∨ (Value.slice dA' dm dc).ownBlock = some i) wr W' ∧ W'.cell? ⟨g, 33, none⟩ = some (.slice (some ⟨gs, 0, none⟩) (depthM n) cs) := ⟨hS5.1.then hu' fun _ _ h => .inr h, hu'.cell hF5.cells.2.1 fun e => by
                    obtain ⟨cu, hk⟩ := own_cells hF5.dr e; exact cells_ne hk hF5.blk (by decide) rfl⟩
                  obtain ⟨hF7, c7, z7, hu7⟩ := hF3.digs hT3 hk5 (x := ⟨some ⟨W3.heap.size, 0, none⟩, sizeL n j, sizeL n j⟩) hx5 hrows hu' hnew; refine hK _ _ hS6 ?_; clear hK K
                  iterate 2 (refine wpOO_held (fun K hK => ?_); go_simp; first | (apply Exists.intro; refine ⟨fun W hW => ?_, hK _ ?_⟩; (go_simp; first | done | exact rfl); clear hK K) | (refine hK _ ?_; clear hK K))
                  refine wpOO_step (fun K hK => ?_) hS6; obtain ⟨A', m', c', rfl⟩ : ∃ A' m' c', v' = .slice A' m' c' := by
                    obtain ⟨A', c', h⟩ := OwnRows.form hrows; exact ⟨A', _, c', h⟩
                  have hS7 : Upd (fun i => i = g ∨ (Value.slice dA' dm dc).ownBlock = some i) wr (W'.setCell ⟨g, 35, none⟩ (.slice A' m' c')) ∧ (W'.setCell ⟨g, 35, none⟩ (.slice A' m' c')).cell? ⟨g, 33, none⟩ = some (.slice (some ⟨gs, 0, none⟩) (depthM n) cs) := ⟨hS6.1.setCell (p := ⟨g, 35, none⟩) (.slice A' m' c') (fun _ => .inl rfl), hF7.cells.2.1⟩; have hty : ∀ k, ((Value.slice dA' dm dc).ownBlock = some k ∨ k = g) → ∃ cs t fr, W3.heap[k]? = some (.cells cs t fr) ∧ t ≠ 88 ∧ t ≠ 42 ∧ t ≠ 5 := fun k e => by
                    rcases e with e | rfl
                    · obtain ⟨cu, hk⟩ := own_cells hF3.dr e
                      exact ⟨_, _, _, hk, by decide, by decide, by decide⟩
                    · exact ⟨_, _, _, hF3.blk, by decide, by decide, by decide⟩
                  have hnT : ∀ k, ((Value.slice dA' dm dc).ownBlock = some k ∨ k = g) → ¬ Tu k := fun k e => by
                    rcases e with e | rfl
                    · obtain ⟨cu, hk⟩ := own_cells hF3.dr e
                      exact HNT.out k e
                    · exact hF3.gT
                  have hrt3 := HL.out.2.2.2.kept hkd; have hrt7 := hrt3.upd hu7 (fun e => by
                    rcases e with e | e
                    · obtain ⟨cu, hk⟩ := own_cells hF3.dr e
                      exact cells_ne hk hrt3 (by decide) rfl
                    · exact cells_ne hrt3 hF3.blk (by decide) e)
                  have HF := Lib.hid (And.intro hF7 (And.intro ((HL.out.2.1.kept hkd).typ hu7 hty) (And.intro ((HL.out.2.2.1.then hkd fun _ _ e => e.elim).trans (hu7.mono fun k _ e => hnT k e)) hrt7))); go_simp; refine hK _ _ hS7 ?_; clear hK K hS7 hF7 c7 z7 hu7 hS6 hrows hu' hnew hS5 hF5 hg5 hx5 d5 hty hnT hrt3 hrt7 hk5 hSB hkB hF3 hT3 hS3 hkd; refine wpOO_nil ?_; generalize (W'.setCell ⟨g, 35, none⟩ (.slice A' m' c')) = W9 at *; go_wp2
                  go_roundw
                  case rel => exact ⟨j + 1, kA2, km2, kc2, _, A', m', c', _, HJ.out, by show _ = _; go_num, HF.out.1, HF.out.2.1, HF.out.2.2.1, HF.out.2.2.2⟩
                  case measure => have := HJ.out; have := HD.out; simp [intOf]; omega
                ·
                  obtain ⟨WB, hmk, hx, hkB⟩ := run_make_digs2 (sizeL n j) (by have := (HSZ.out j).2; omega) W3; have hSB : Upd (fun i => i = g ∨ (Value.slice dA' dm dc).ownBlock = some i) wr WB ∧ WB.cell? ⟨g, 33, none⟩ = some (.slice (some ⟨gs, 0, none⟩) (depthM n) cs) := ⟨hS3.1.then hkB fun _ _ e => e.elim, (hF3.kept hkB).cells.2.1⟩; go_simp; refine hK _ _ hSB ?_; clear hK K hmk; have d4 := (hF3.kept hkB).cells.2.2.2.1; refine wpOO_fork (fun K hK => ?_) (fun K hK => ?_) hSB
                  · go_simp
                    refine hK _ _ hSB ?_; clear hK K; refine wpOO_step (fun K hK => ?_) hSB; go_simp; have hk5 : Kept W3 (WB.alloc (.cells (slA ⟨some ⟨W3.heap.size, 0, none⟩, sizeL n j, sizeL n j⟩) 45)) := (hkB.alloc _); have hg5 := heap_alloc_new WB (.cells (slA ⟨some ⟨W3.heap.size, 0, none⟩, sizeL n j, sizeL n j⟩) 45); have hx5 := OwnRows.upd hx ((Upd.refl (fun _ => False) WB).alloc (.cells (slA ⟨some ⟨W3.heap.size, 0, none⟩, sizeL n j, sizeL n j⟩) 45)) (fun _ _ e => e); have hS5 : Upd (fun i => i = g ∨ (Value.slice dA' dm dc).ownBlock = some i) wr (WB.alloc (.cells (slA ⟨some ⟨W3.heap.size, 0, none⟩, sizeL n j, sizeL n j⟩) 45)) ∧ (WB.alloc (.cells (slA ⟨some ⟨W3.heap.size, 0, none⟩, sizeL n j, sizeL n j⟩) 45)).cell? ⟨g, 33, none⟩ = some (.slice (some ⟨gs, 0, none⟩) (depthM n) cs) := ⟨hS3.1.then hk5 fun _ _ e => e.elim, (hF3.kept hk5).cells.2.1⟩; have d5 := (hF3.kept hk5).cells.2.2.2.1; refine hK _ _ hS5 ?_; clear hK K d4 hx; refine wpOO_step (fun K hK => ?_) hS5; have hF5 := hF3.kept hk5; refine step_append_rows sl_rows rfl (.tmp 108) (.tmp 117) rfl rfl hF5.dr ⟨some ⟨W3.heap.size, 0, none⟩, sizeL n j, sizeL n j⟩ WB.heap.size 1 _ _ rfl hg5 (by have := HD.out; have := HJ.out; rw [hF5.dl]; unfold maxLen; omega) (by have := HD.out; have := HJ.out; rw [hF5.dl]; omega) (Nat.zero_le _) ?_; intro v' W' hrows hu' hnew; have hS6 : Upd (fun i => i = g ∨ (Value.slice dA' dm dc).ownBlock = some i) wr W' ∧ W'.cell? ⟨g, 33, none⟩ = some (.slice (some ⟨gs, 0, none⟩) (depthM n) cs) := ⟨hS5.1.then hu' fun _ _ h => .inr h, hu'.cell hF5.cells.2.1 fun e => by
                      obtain ⟨cu, hk⟩ := own_cells hF5.dr e; exact cells_ne hk hF5.blk (by decide) rfl⟩
                    obtain ⟨hF7, c7, z7, hu7⟩ := hF3.digs hT3 hk5 (x := ⟨some ⟨W3.heap.size, 0, none⟩, sizeL n j, sizeL n j⟩) hx5 hrows hu' hnew; refine hK _ _ hS6 ?_; clear hK K
                    iterate 2 (refine wpOO_held (fun K hK => ?_); go_simp; first | (apply Exists.intro; refine ⟨fun W hW => ?_, hK _ ?_⟩; (go_simp; first | done | exact rfl); clear hK K) | (refine hK _ ?_; clear hK K))
                    refine wpOO_step (fun K hK => ?_) hS6; obtain ⟨A', m', c', rfl⟩ : ∃ A' m' c', v' = .slice A' m' c' := by
                      obtain ⟨A', c', h⟩ := OwnRows.form hrows; exact ⟨A', _, c', h⟩
                    have hS7 : Upd (fun i => i = g ∨ (Value.slice dA' dm dc).ownBlock = some i) wr (W'.setCell ⟨g, 35, none⟩ (.slice A' m' c')) ∧ (W'.setCell ⟨g, 35, none⟩ (.slice A' m' c')).cell? ⟨g, 33, none⟩ = some (.slice (some ⟨gs, 0, none⟩) (depthM n) cs) := ⟨hS6.1.setCell (p := ⟨g, 35, none⟩) (.slice A' m' c') (fun _ => .inl rfl), hF7.cells.2.1⟩; have hty : ∀ k, ((Value.slice dA' dm dc).ownBlock = some k ∨ k = g) → ∃ cs t fr, W3.heap[k]? = some (.cells cs t fr) ∧ t ≠ 88 ∧ t ≠ 42 ∧ t ≠ 5 := fun k e => by
                      rcases e with e | rfl
                      · obtain ⟨cu, hk⟩ := own_cells hF3.dr e
                        exact ⟨_, _, _, hk, by decide, by decide, by decide⟩
                      · exact ⟨_, _, _, hF3.blk, by decide, by decide, by decide⟩
                    have hnT : ∀ k, ((Value.slice dA' dm dc).ownBlock = some k ∨ k = g) → ¬ Tu k := fun k e => by
                      rcases e with e | rfl
                      · obtain ⟨cu, hk⟩ := own_cells hF3.dr e
                        exact HNT.out k e
                      · exact hF3.gT
                    have hrt3 := HL.out.2.2.2.kept hkd; have hrt7 := hrt3.upd hu7 (fun e => by
                      rcases e with e | e
                      · obtain ⟨cu, hk⟩ := own_cells hF3.dr e
                        exact cells_ne hk hrt3 (by decide) rfl
                      · exact cells_ne hrt3 hF3.blk (by decide) e)
                    have HF := Lib.hid (And.intro hF7 (And.intro ((HL.out.2.1.kept hkd).typ hu7 hty) (And.intro ((HL.out.2.2.1.then hkd fun _ _ e => e.elim).trans (hu7.mono fun k _ e => hnT k e)) hrt7))); go_simp; refine hK _ _ hS7 ?_; clear hK K hS7 hF7 c7 z7 hu7 hS6 hrows hu' hnew hS5 hF5 hg5 hx5 d5 hty hnT hrt3 hrt7 hk5 hSB hkB hF3 hT3 hS3 hkd; refine wpOO_nil ?_; generalize (W'.setCell ⟨g, 35, none⟩ (.slice A' m' c')) = W9 at *; go_wp2
                    go_roundw
                    case rel => exact ⟨j + 1, kA2, km2, kc2, _, A', m', c', _, HJ.out, by show _ = _; go_num, HF.out.1, HF.out.2.1, HF.out.2.2.1, HF.out.2.2.2⟩
                    case measure => have := HJ.out; have := HD.out; simp [intOf]; omega
                  ·
                    go_simp; have hk5 : Kept W3 (WB.alloc (.cells (slA ⟨some ⟨W3.heap.size, 0, none⟩, sizeL n j, sizeL n j⟩) 45)) := (hkB.alloc _); have hg5 := heap_alloc_new WB (.cells (slA ⟨some ⟨W3.heap.size, 0, none⟩, sizeL n j, sizeL n j⟩) 45); have hx5 := OwnRows.upd hx ((Upd.refl (fun _ => False) WB).alloc (.cells (slA ⟨some ⟨W3.heap.size, 0, none⟩, sizeL n j, sizeL n j⟩) 45)) (fun _ _ e => e); have hS5 : Upd (fun i => i = g ∨ (Value.slice dA' dm dc).ownBlock = some i) wr (WB.alloc (.cells (slA ⟨some ⟨W3.heap.size, 0, none⟩, sizeL n j, sizeL n j⟩) 45)) ∧ (WB.alloc (.cells (slA ⟨some ⟨W3.heap.size, 0, none⟩, sizeL n j, sizeL n j⟩) 45)).cell? ⟨g, 33, none⟩ = some (.slice (some ⟨gs, 0, none⟩) (depthM n) cs) := ⟨hS3.1.then hk5 fun _ _ e => e.elim, (hF3.kept hk5).cells.2.1⟩; have d5 := (hF3.kept hk5).cells.2.2.2.1; refine hK _ _ hS5 ?_; clear hK K d4 hx; refine wpOO_step (fun K hK => ?_) hS5; go_simp; refine hK _ _ hS5 ?_; clear hK K; refine wpOO_step (fun K hK => ?_) hS5; have hF5 := hF3.kept hk5; refine step_append_rows sl_rows rfl (.tmp 108) (.tmp 117) rfl rfl hF5.dr ⟨some ⟨W3.heap.size, 0, none⟩, sizeL n j, sizeL n j⟩ WB.heap.size 1 _ _ rfl hg5 (by have := HD.out; have := HJ.out; rw [hF5.dl]; unfold maxLen; omega) (by have := HD.out; have := HJ.out; rw [hF5.dl]; omega) (Nat.zero_le _) ?_; intro v' W' hrows hu' hnew; have hS6 : Upd (fun i => i = g ∨ (Value.slice dA' dm dc).ownBlock = some i) wr W' ∧ W'.cell? ⟨g, 33, none⟩ = some (.slice (some ⟨gs, 0, none⟩) (depthM n) cs) := ⟨hS5.1.then hu' fun _ _ h => .inr h, hu'.cell hF5.cells.2.1 fun e => by
                      obtain ⟨cu, hk⟩ := own_cells hF5.dr e; exact cells_ne hk hF5.blk (by decide) rfl⟩
                    obtain ⟨hF7, c7, z7, hu7⟩ := hF3.digs hT3 hk5 (x := ⟨some ⟨W3.heap.size, 0, none⟩, sizeL n j, sizeL n j⟩) hx5 hrows hu' hnew; refine hK _ _ hS6 ?_; clear hK K
                    iterate 2 (refine wpOO_held (fun K hK => ?_); go_simp; first | (apply Exists.intro; refine ⟨fun W hW => ?_, hK _ ?_⟩; (go_simp; first | done | exact rfl); clear hK K) | (refine hK _ ?_; clear hK K))
                    refine wpOO_step (fun K hK => ?_) hS6; obtain ⟨A', m', c', rfl⟩ : ∃ A' m' c', v' = .slice A' m' c' := by
                      obtain ⟨A', c', h⟩ := OwnRows.form hrows; exact ⟨A', _, c', h⟩
                    have hS7 : Upd (fun i => i = g ∨ (Value.slice dA' dm dc).ownBlock = some i) wr (W'.setCell ⟨g, 35, none⟩ (.slice A' m' c')) ∧ (W'.setCell ⟨g, 35, none⟩ (.slice A' m' c')).cell? ⟨g, 33, none⟩ = some (.slice (some ⟨gs, 0, none⟩) (depthM n) cs) := ⟨hS6.1.setCell (p := ⟨g, 35, none⟩) (.slice A' m' c') (fun _ => .inl rfl), hF7.cells.2.1⟩; have hty : ∀ k, ((Value.slice dA' dm dc).ownBlock = some k ∨ k = g) → ∃ cs t fr, W3.heap[k]? = some (.cells cs t fr) ∧ t ≠ 88 ∧ t ≠ 42 ∧ t ≠ 5 := fun k e => by
                      rcases e with e | rfl
                      · obtain ⟨cu, hk⟩ := own_cells hF3.dr e
                        exact ⟨_, _, _, hk, by decide, by decide, by decide⟩
                      · exact ⟨_, _, _, hF3.blk, by decide, by decide, by decide⟩
                    have hnT : ∀ k, ((Value.slice dA' dm dc).ownBlock = some k ∨ k = g) → ¬ Tu k := fun k e => by
                      rcases e with e | rfl
                      · obtain ⟨cu, hk⟩ := own_cells hF3.dr e
                        exact HNT.out k e
                      · exact hF3.gT
                    have hrt3 := HL.out.2.2.2.kept hkd; have hrt7 := hrt3.upd hu7 (fun e => by
                      rcases e with e | e
                      · obtain ⟨cu, hk⟩ := own_cells hF3.dr e
                        exact cells_ne hk hrt3 (by decide) rfl
                      · exact cells_ne hrt3 hF3.blk (by decide) e)
                    have HF := Lib.hid (And.intro hF7 (And.intro ((HL.out.2.1.kept hkd).typ hu7 hty) (And.intro ((HL.out.2.2.1.then hkd fun _ _ e => e.elim).trans (hu7.mono fun k _ e => hnT k e)) hrt7))); go_simp; refine hK _ _ hS7 ?_; clear hK K hS7 hF7 c7 z7 hu7 hS6 hrows hu' hnew hS5 hF5 hg5 hx5 d5 hty hnT hrt3 hrt7 hk5 hSB hkB hF3 hT3 hS3 hkd; refine wpOO_nil ?_; generalize (W'.setCell ⟨g, 35, none⟩ (.slice A' m' c')) = W9 at *; go_wp2
                    go_roundw
                    case rel => exact ⟨j + 1, kA2, km2, kc2, _, A', m', c', _, HJ.out, by show _ = _; go_num, HF.out.1, HF.out.2.1, HF.out.2.2.1, HF.out.2.2.2⟩
                    case measure => have := HJ.out; have := HD.out; simp [intOf]; omega
          · obtain rfl : j = depthM n := by omega
            have hji : ¬ ((depthM n : Int) < (depthM n : Int)) := by omega
            have hF := hR.done HN.out.1 HN.out.2.1 (HOF.out _ _ _ _ _ _ _ hR); obtain ⟨dl, hdl⟩ : ∃ dl, depthM n = dl + 1 := ⟨depthM n - 1, by have := depthM_pos n; omega⟩; have hd1 : (depthM n : Int) - 1 = (dl : Int) := by omega
            have hd5 : (dl : Int) ≤ 1025 := by have := HD.out; omega
            obtain ⟨X, hX⟩ : ∃ X : RX, X = ⟨gs, cs, .slice kA km kc, kx, .slice dA' dm dc, dx, gt, n, gy, n, hv, lv, lx⟩ := ⟨_, rfl⟩; rw [← hX] at hF; have hBX : RBk Tu wr c L' (rAv X) := by rw [hX]; exact hB
            have hng : ¬ RW X g := fun e => by
              rcases hF.rw_type e with ⟨cur, ty, h1, h2⟩ | ⟨-, cur, h1⟩
              · exact cells_ne h1 hR.blk (by rcases h2 with rfl | rfl <;> decide) rfl
              · exact cells_ne h1 hR.blk (by decide) rfl
            have hnp : ¬ RW X w.heap.size := fun e => hF.rwT e HP.out; have f0 : ∀ W, Upd (RW X) wr W → W.cell? ⟨g, 33, none⟩ = some (.slice (some ⟨gs, 0, none⟩) (depthM n) cs) := fun W hW => hW.cell c33 hng; have f1 : ∀ W, Upd (RW X) wr W → segB W ⟨w.heap.size, 0, none⟩ 32 = true := fun W hW => (dig_at (hrt.upd hW hnp)).1; have f2 : ∀ W, Upd (RW X) wr W → segV W ⟨w.heap.size, 0, none⟩ 32 = dA root := fun W hW => (dig_at (hrt.upd hW hnp)).2; have hkd : Kept wr wr.drew := (Upd.refl _ wr).drew; have hkS : Upd (RW X) wr wr.drew := hkd.to; have hTd : ∀ k, Tu k → k < wr.drew.heap.size := fun k e => Nat.lt_of_lt_of_le (HT.out k e) (Nat.le_trans hu.size hkd.size); have HG := ref_learn dl 0 root (hF.kept hkd) hTd (by omega) (HSZ.out dl).1
            change Calls Tryz.prog _ #[_, _, .int .i64 0, _] _ _ at HG
            have HL := Lib.hid (And.intro (hF.kept hkd) (And.intro (hBX.kept hkd) (And.intro (show Upd (fun k => ¬ Tu k) w1 wr.drew from hu.drew) (And.intro hTd hdl)))); clear hR hB hBX hu hrt hge hj hF hTd hdl hng hnp hX; go_wp2_with fail; clear hji c33; refine wp_region_ord [(0, true), (1, true), (2, true), (3, true), (4, true), (5, true), (6, true), (7, true), (8, false)] (by kernel_rfl) (by kernel_rfl) (Upd (RW X) wr) hkS ?_; simp only [ordOps, List.getD_cons_zero, List.getD_cons_succ]
            iterate 8 (refine wpOrd_held (fun K hK => ?_); go_simp; first | (apply Exists.intro; refine ⟨fun W hW => ?_, hK _ ?_⟩; (go_simp; first | done | exact rfl); clear hK K) | (refine hK _ ?_; clear hK K))
            clear f0 f1 f2; generalize wr.drew = wd at *; refine wpOrd_step (fun K hK => ?_) hkS; go_simp; rw [show IntKind.i64.wrap (dl : Int) = (dl : Int) from by rw [IntKind.wrap_i64]; omega]; refine HG.mono ?_; clear HG; rintro e w6 ⟨⟨v6, rfl⟩, hf6, hu6⟩; have hS6 := hkS.trans hu6; refine hK _ _ hS6 ?_; clear hK K; have HF : Hid (RB Tu w6 g c n root O0 (begS n O0 root) X L' ∧ Upd (fun k => ¬ Tu k) w w6) := ⟨⟨by unfold begS; rw [HL.out.2.2.2.2, Nat.add_sub_cancel]; exact hf6, HL.out.2.1.rw HL.out.1 hu6, fun k e => Nat.lt_of_lt_of_le (HL.out.2.2.2.1 k e) hu6.size⟩, (HN.out.2.2.1.to.trans HL.out.2.2.1).trans (hu6.mono fun k _ e => HL.out.1.rwT e)⟩; clear hf6 hu6 hS6 hkS hkd HL; refine wpOrd_nil ?_; go_wp2
            go_ret2
            exact .inr ⟨HEND.out.1, g, X, L', O0, rfl, HEND.out.2.2, HEND.out.2.1, HF.out.1, HF.out.2⟩
end
end Go.Proofs.YtepjbijhkkjbfaaGreat
