/- The texts of this hand-in, merged: RefU RefV. -/
import Derived.Test.YtnncpjekcljfbaaSetJ
/- The document's tree: Level, Root, Depth, Leaves; what both books have noted. -/
namespace Go.Proofs.Ytnncpjekcljfbaa
open Go.RowKit

attribute [local irreducible] wpOrd
def levOk (D : List Dig) (n : Int) : Prop := 0 ≤ n ∧ n < depthM D.length
instance (D : List Dig) (n : Int) : Decidable (levOk D n) := inferInstanceAs (Decidable (_ ∧ _))
def levE (D : List Dig) (n : Int) : Int := if levOk D n then 0 else 9
def levP (D : List Dig) (n : Int) : List Dig := if levOk D n then lev D n.toNat else []
theorem lev_le (D : List Dig) (k : Nat) : (lev D k).length ≤ D.length := by
  unfold lev
  cases h : (levelsM shaM D)[k]? with
  | none => simp
  | some l => exact levelsM_le _ rfl l (List.mem_of_getElem? h)
theorem levP_le (D : List Dig) (n : Int) : (levP D n).length ≤ D.length := by
  unfold levP
  split
  · exact lev_le _ _
  · simp
theorem tree_Level_Z {w : World} {lo hi t b : Nat} {D : List Dig} (h : TreeAt w lo hi t b D) (hD : D.length ≤ 1024) (n : Int) :
    Calls Try.prog 28 #[.pointer (some ⟨t, 0, none⟩), .int .i64 n] w fun e W => ∃ v, e = .returned (.tuple #[v, .int .i64 (levE D n)]) ∧ OwnD W w.heap.size v (levP D n) ∧ Kept w W := by
  unfold levE levP
  by_cases hk : levOk D n
  · rw [if_pos hk, if_pos hk]
    obtain ⟨h1, h2⟩ := hk
    obtain ⟨k, rfl⟩ : ∃ k : Nat, n = k := ⟨n.toNat, by omega⟩
    exact tree_Level h k (lev_some (by omega)) (Nat.le_trans (lev_le _ _) hD)
  · rw [if_neg hk, if_neg hk]
    refine (tree_Level_out h n (by unfold levOk at hk; omega)).mono fun e W ⟨he, hu⟩ => ⟨_, he, OwnRows.nil _ _ _, hu ▸ Upd.refl _ _⟩
section
variable {w W : World} {B u c : Nat} {v : Value} {n0 : Int} {xs : List SlC} {M : List Bytes} {gl n : Nat} {li : List (SlC × Bytes)}
/-- blocks of other types turn -/
theorem RTree.updT {W' : World} {S : Nat → Prop} (h : RTree W B u c v n0 xs M gl n li) (hu : Upd S W W') (hs : ∀ k cs ty fr, W.heap[k]? = some (.cells cs ty fr) → (ty = 138 ∨ ty = 143 ∨ ty = 35 ∨ ty = 5) → ¬ S k) : RTree W' B u c v n0 xs M gl n li := by
  obtain ⟨h1, h2, h3, h4, h5, h6, h7, h8, h9, h10, h11⟩ := h
  refine ⟨⟨hu.heap h1.blk (hs _ _ _ _ h1.blk (.inl rfl)), OwnRows.upd h1.row hu (fun k e => ?_), h1.len, fun i hi hi' => (h1.each i hi hi').upd hu (fun k e => ?_), h1.sz⟩, hu.heap h2 (hs _ _ _ _ h2 (.inr (.inl rfl))), ⟨OwnRows.upd h3.1 hu (fun k e => ?_), fun p hp => ⟨(h3.2 p hp).1.upd hu (fun k e => ?_), (h3.2 p hp).2⟩⟩, h4, h5, h6, h7, h8, Nat.le_trans h9 hu.size, h10, h11⟩
  · obtain ⟨cur, hc⟩ := own_cells h1.row e
    exact hs _ _ _ _ hc (.inr (.inr (.inl rfl)))
  · obtain ⟨cur, hc⟩ := (h1.each i hi hi').block e
    exact hs _ _ _ _ hc (.inr (.inr (.inr rfl)))
  · obtain ⟨cur, hc⟩ := own_cells h3.1 e
    exact hs _ _ _ _ hc (.inr (.inr (.inl rfl)))
  · obtain ⟨cur, hc⟩ := (h3.2 p hp).1.block e
    exact hs _ _ _ _ hc (.inr (.inr (.inr rfl)))
theorem RTree.dig {W' : World} (h : RTree W B u c v n0 xs M gl n li) {g : Nat} {vs : List Value} (hg : Blk W g 46 vs) (hu : Upd (fun k => k = g) W W') : RTree W' B u c v n0 xs M gl n li :=
  h.updT hu fun k cs ty fr hc ht e => by
    have h2 : W.heap[k]? = some (.cells vs.toArray 46 (0, 0)) := by rw [show k = g from e]; exact hg
    rw [hc] at h2
    simp only [Option.some.injEq, Obj.cells.injEq] at h2
    rw [h2.2.1] at ht
    revert ht; decide
/-- bytes of others turn -/
theorem RTree.mut {W' : World} (h : RTree W B u c v n0 xs M gl n li) {g : Nat} {vs : List Value} (hg : Blk W g 5 vs) (hno : NoB xs li g) (hu : Upd (fun k => k = g) W W') : RTree W' B u c v n0 xs M gl n li := by
  obtain ⟨h1, h2, h3, h4, h5, h6, h7, h8, h9, h10, h11⟩ := h
  have hne : ∀ {k : Nat} {cs : Array Value} {ty : TypeId} {fr : Nat × Nat}, W.heap[k]? = some (.cells cs ty fr) → ty ≠ 5 → ¬ k = g := fun {k} _ _ _ hc ht e => by
    have h2 : W.heap[k]? = some (.cells vs.toArray 5 (0, 0)) := by rw [e]; exact hg
    rw [hc] at h2
    simp only [Option.some.injEq, Obj.cells.injEq] at h2
    exact ht h2.2.1
  refine ⟨⟨hu.heap h1.blk (hne h1.blk (by decide)), OwnRows.upd h1.row hu (fun k e => ?_), h1.len, fun i hi hi' => (h1.each i hi hi').upd hu (fun k e e2 => hno.1 _ (List.getElem_mem hi) (by rw [e]; exact congrArg some e2)), h1.sz⟩, hu.heap h2 (hne h2 (by decide)), ⟨OwnRows.upd h3.1 hu (fun k e => ?_), fun p hp => ⟨(h3.2 p hp).1.upd hu (fun k e e2 => hno.2 p hp (by rw [e]; exact congrArg some e2)), (h3.2 p hp).2⟩⟩, h4, h5, h6, h7, h8, Nat.le_trans h9 hu.size, h10, h11⟩
  · obtain ⟨cur, hc⟩ := own_cells h1.row e
    exact hne hc (by decide)
  · obtain ⟨cur, hc⟩ := own_cells h3.1 e
    exact hne hc (by decide)
theorem RTree.noNew (h : RTree W B u c v n0 xs M gl n li) {g : Nat} (hg : W.heap.size ≤ g) : NoB xs li g := by
  refine ⟨fun x hx e => ?_, fun p hp e => ?_⟩
  · obtain ⟨i, hi, rfl⟩ := List.getElem_of_mem hx
    have := (h.book.each i hi (by rw [← h.book.len]; exact hi)).far g e
    omega
  · have := (h.own.2 p hp).1.far g e
    omega
theorem ref_TLeaves (h : RTree w B u c v n0 xs M gl n li) :
    Calls Try.prog 36 #[.pointer (some ⟨u, 0, none⟩)] w fun e W => e = .returned (.int .i64 n) ∧ w = W := by
  have c1 := h.c1
  clear h
  go_enter Try.func36, Try.ntmps36
  go_wp2
  go_ret
  exact ⟨rfl, rfl⟩
set_option maxRecDepth 20000 in
theorem ref_TDepth (h : RTree w B u c v n0 xs M gl n li) (hcnt : M.length ≤ 90000) :
    Calls Try.prog 34 #[.pointer (some ⟨u, 0, none⟩)] w fun e W => e = .returned (.int .i64 (depthM n)) ∧ ∃ v' n' xs', RTree W B u c v' n' xs' M gl n li ∧ RTo c v w v' W := by
  have hpl : Hid ((levelsM shaM (leafD li)).length = depthM n) := by show _ = _; rw [levelsM_depth _ rfl, leafD_length, h.len]
  have HT := Lib.hid h
  have HC := Lib.hid hcnt
  clear h hcnt
  go_enter Try.func34, Try.ntmps34
  go_wp2_with fail
  -- here: HT : Hid (RTree w ..), hcnt in HC: M.length ≤ 90000; the drawn region's list [(0, true), (1, true), (2, true), (3, true), (4, true), (5, true), (6, true), (7, true), (8, false), (9, true), (10, true)], its operations after the call 2
  have nS : ¬ (u = c ∨ v.ownBlock = some u) := HT.out.book.far HT.out.blk (by decide) (by decide)
  have f1 : ∀ W, Upd (fun k => k = c ∨ v.ownBlock = some k) w W → W.cell? ⟨u, 0, none⟩ = some (.pointer (some ⟨c, 0, none⟩)) := fun W hW => hW.cell HT.out.c0 nS
  have f2 : ∀ W, Upd (fun k => k = c ∨ v.ownBlock = some k) w W → W.cell? ⟨u, 1, none⟩ = some (.slice (some ⟨gl, 0, none⟩) n n) := fun W hW => hW.cell HT.out.c1 nS
  clear nS
  refine wp_region_ord [(0, true), (1, true), (2, true), (3, true), (4, true), (5, true), (6, true), (7, true), (8, false), (9, true), (10, true)] (by kernel_rfl) (by kernel_rfl) (Upd (fun k => k = c ∨ v.ownBlock = some k) w) (Upd.refl _ _).drew ?_
  simp only [ordOps, List.getD_cons_zero, List.getD_cons_succ]
  iterate 8 (refine wpOrd_held (fun K hK => ?_); go_simp; first | (apply Exists.intro; refine ⟨fun W hW => ?_, hK _ ?_⟩; (go_simp; first | done | exact rfl); clear hK K) | (refine hK _ ?_; clear hK K))
  have hSd : Upd (fun k => k = c ∨ v.ownBlock = some k) w w.drew := (Upd.refl _ _).drew
  refine wpOrd_step (fun K hK => ?_) hSd
  go_simp
  have hkd : Kept w w.drew := (Upd.refl _ _).drew
  refine (rt_Levels (HT.out.kept hkd) HC.out).mono ?_
  rintro e w2 ⟨vo, rfl, ho, v2, n2, xs2, hT2, ht2⟩
  have hS2 := hSd.trans ht2.1
  have hoP := own_baseP ho hkd.size
  have HT2 := Lib.hid (And.intro hT2 (And.intro ((RTo.kept hkd).trans ht2) hoP))
  obtain ⟨A2, k2, hvo, hk2, hcl2⟩ := hoP.cells
  subst hvo
  refine hK _ _ hS2 ?_
  clear hK K hSd hkd ho hoP hT2 ht2 f1 f2
  iterate 2 (refine wpOrd_held (fun K hK => ?_); go_simp; first | (apply Exists.intro; refine ⟨fun W hW => ?_, hK _ ?_⟩; (go_simp; first | done | exact rfl); clear hK K) | (refine hK _ ?_; clear hK K))
  refine wpOrd_nil ?_
  clear hS2
  have HF := Lib.hid (And.intro HT2.out.1 HT2.out.2.1)
  clear hcl2 hk2 HT2
  go_wp2
  go_ret
  refine ⟨?_, _, _, _, HF.out⟩
  show Ending.returned (.int .i64 (((levelsM shaM (leafD li)).length : Nat) : Int)) = _
  rw [hpl.out]
set_option maxHeartbeats 800000 in
set_option maxRecDepth 20000 in
theorem ref_TLevel_Z (h : RTree w B u c v n0 xs M gl n li) (hcnt : M.length ≤ 90000) {D : List Dig} (hD : leafD li = D) (k : Int) :
    Calls Try.prog 29 #[.pointer (some ⟨u, 0, none⟩), .int .i64 k] w fun e W => ∃ vo, e = .returned (.tuple #[vo, .int .i64 (levE D k)]) ∧ OwnD W w.heap.size vo (levP D k) ∧ ∃ v' n' xs', RTree W B u c v' n' xs' M gl n li ∧ RTo c v w v' W := by
  have hDl : D.length = n := by rw [← hD, leafD_length, h.len]
  have hpl : (levelsM shaM (leafD li)).length = depthM D.length := by rw [levelsM_depth _ rfl, hD]
  have HT := Lib.hid h
  have HC := Lib.hid hcnt
  have HD := Lib.hid (And.intro hD (And.intro hDl hpl))
  clear h hcnt hD hDl hpl
  go_enter Try.func29, Try.ntmps29
  go_wp2_with fail
  -- here: HT : Hid (RTree w ..), hcnt in HC: M.length ≤ 90000; the drawn region's list [(0, true), (1, true), (2, true), (3, true), (4, true), (5, true), (6, true), (7, true), (8, false), (9, true)], its operations after the call 1
  have nS : ¬ (u = c ∨ v.ownBlock = some u) := HT.out.book.far HT.out.blk (by decide) (by decide)
  have f1 : ∀ W, Upd (fun k => k = c ∨ v.ownBlock = some k) w W → W.cell? ⟨u, 0, none⟩ = some (.pointer (some ⟨c, 0, none⟩)) := fun W hW => hW.cell HT.out.c0 nS
  have f2 : ∀ W, Upd (fun k => k = c ∨ v.ownBlock = some k) w W → W.cell? ⟨u, 1, none⟩ = some (.slice (some ⟨gl, 0, none⟩) n n) := fun W hW => hW.cell HT.out.c1 nS
  clear nS
  refine wp_region_ord [(0, true), (1, true), (2, true), (3, true), (4, true), (5, true), (6, true), (7, true), (8, false), (9, true)] (by kernel_rfl) (by kernel_rfl) (Upd (fun k => k = c ∨ v.ownBlock = some k) w) (Upd.refl _ _).drew ?_
  simp only [ordOps, List.getD_cons_zero, List.getD_cons_succ]
  iterate 8 (refine wpOrd_held (fun K hK => ?_); go_simp; first | (apply Exists.intro; refine ⟨fun W hW => ?_, hK _ ?_⟩; (go_simp; first | done | exact rfl); clear hK K) | (refine hK _ ?_; clear hK K))
  have hSd : Upd (fun k => k = c ∨ v.ownBlock = some k) w w.drew := (Upd.refl _ _).drew
  refine wpOrd_step (fun K hK => ?_) hSd
  go_simp
  have hkd : Kept w w.drew := (Upd.refl _ _).drew
  refine (rt_Levels (HT.out.kept hkd) HC.out).mono ?_
  rintro e w2 ⟨vo, rfl, ho, v2, n2, xs2, hT2, ht2⟩
  have hS2 := hSd.trans ht2.1
  have hoP := own_baseP ho hkd.size
  have HT2 := Lib.hid (And.intro hT2 (And.intro ((RTo.kept hkd).trans ht2) hoP))
  obtain ⟨A2, k2, hvo, hk2, hcl2⟩ := hoP.cells
  subst hvo
  refine hK _ _ hS2 ?_
  clear hK K hSd hkd ho hoP hT2 ht2 f1 f2
  iterate 1 (refine wpOrd_held (fun K hK => ?_); go_simp; first | (apply Exists.intro; refine ⟨fun W hW => ?_, hK _ ?_⟩; (go_simp; first | done | exact rfl); clear hK K) | (refine hK _ ?_; clear hK K))
  refine wpOrd_nil ?_
  clear hS2
  obtain ⟨pl, hpl⟩ : ∃ pl, pl = (levelsM shaM (leafD li)).length := ⟨_, rfl⟩
  rw [← hpl]
  have hpd := hpl.trans HD.out.2.2
  by_cases hk : levOk D k
  · have hE : levE D k = 0 := if_pos hk
    have hP : levP D k = lev D k.toNat := if_pos hk
    obtain ⟨h1, h2⟩ := hk
    obtain ⟨j, rfl⟩ : ∃ j : Nat, k = j := ⟨k.toNat, by omega⟩
    have hj : j < (levelsM shaM (leafD li)).length := by rw [← hpl]; omega
    obtain ⟨g, o, A3, k3, rfl, hcell, -, hod⟩ := hcl2 j hj
    have hlv : (levelsM shaM (leafD li))[j] = levP D (j : Int) := by
      rw [hP]
      have h3 := lev_some (D := D) (k := j) (by omega)
      rw [← HD.out.1] at h3
      rw [List.getElem?_eq_getElem hj] at h3
      rw [← HD.out.1]
      exact Option.some.inj h3
    rw [hlv] at hcell hod
    have d1 : decide ((j : Int) < 0) = false := decide_eq_false (by omega)
    have d2 : decide ((pl : Int) ≤ (j : Int)) = false := decide_eq_false (by omega)
    have d2n : decide (pl ≤ j) = false := decide_eq_false (by omega)
    have b1 : (j : Int) < (pl : Int) := by omega
    have b1n : j < pl := by omega
    have HF := Lib.hid (And.intro hod (And.intro HT2.out.1 HT2.out.2.1))
    have HE := Lib.hid hE
    clear hcl2 hk2 HT2 hpl hpd hE hP h1 h2 hj hlv hod
    generalize hpp : levP D (j : Int) = Q at *
    go_wp2
    go_ret2
    refine ⟨_, by rw [HE.out]; rfl, ?_⟩
    rw [hpp]
    exact ⟨HF.out.1, _, _, _, HF.out.2⟩
  · have hE : levE D k = 9 := if_neg hk
    have hP : levP D k = [] := if_neg hk
    have HE := Lib.hid (And.intro hE hP)
    have HF := Lib.hid (And.intro HT2.out.1 HT2.out.2.1)
    by_cases h1 : k < 0
    · have d1 : decide (k < 0) = true := decide_eq_true h1
      clear hcl2 hk2 HT2 hpl hpd hE hP h1 hk
      go_wp2
      go_ret2
      refine ⟨_, by rw [HE.out.1]; rfl, ?_⟩
      rw [HE.out.2]
      exact ⟨OwnRows.nil _ _ _, _, _, _, HF.out⟩
    · have d1 : decide (k < 0) = false := decide_eq_false h1
      have d2 : decide ((pl : Int) ≤ k) = true := decide_eq_true (by unfold levOk at hk; omega)
      clear hcl2 hk2 HT2 hpl hpd hE hP h1 hk
      go_wp2
      go_ret2
      refine ⟨_, by rw [HE.out.1]; rfl, ?_⟩
      rw [HE.out.2]
      exact ⟨OwnRows.nil _ _ _, _, _, _, HF.out⟩
set_option maxHeartbeats 800000 in
set_option maxRecDepth 20000 in
theorem ref_TRoot {w0 : World} (h : RTree w0 B u c v n0 xs M gl n li) (hcnt : M.length ≤ 90000) :
    Calls Try.prog 32 #[.pointer (some ⟨u, 0, none⟩)] w0 fun e W => e = .returned (.agg (dA (rootM shaM (leafD li)))) ∧ ∃ v' n' xs', RTree W B u c v' n' xs' M gl n li ∧ RTo c v w0 v' W := by
  have hDn : leafD li ≠ [] := by intro h0; have h2 := leafD_length li; rw [h0, h.len] at h2; have := h.n1; simp at h2; omega
  have hDl : (leafD li).length ≤ 1024 := by rw [leafD_length, h.len]; exact h.n2
  have hr1 : Blk (w0.alloc (.cells (dA dig0) 46)) w0.heap.size 46 (encB dig0.1) := Blk.new w0 _ _
  have hk1 : Kept w0 (w0.alloc (.cells (dA dig0) 46)) := (Upd.refl _ w0).alloc _
  have HT := Lib.hid (h.kept hk1)
  have HC := Lib.hid hcnt
  have HR := Lib.hid (And.intro hr1 (And.intro hk1 (And.intro hDn hDl)))
  clear h hcnt hr1 hk1 hDn hDl
  obtain ⟨w, hw⟩ : ∃ w, w = w0.alloc (.cells (dA dig0) 46) := ⟨_, rfl⟩
  rw [← hw] at HT HR
  go_enter Try.func32, Try.ntmps32
  go_wp2_with fail
  rw [← hw]
  clear hw
  -- here: HT : Hid (RTree w ..), hcnt in HC: M.length ≤ 90000; the drawn region's list [(0, true), (1, true), (2, true), (3, true), (4, true), (5, true), (6, true), (7, true), (8, false), (9, true)], its operations after the call 1
  have nS : ¬ (u = c ∨ v.ownBlock = some u) := HT.out.book.far HT.out.blk (by decide) (by decide)
  have f1 : ∀ W, Upd (fun k => k = c ∨ v.ownBlock = some k) w W → W.cell? ⟨u, 0, none⟩ = some (.pointer (some ⟨c, 0, none⟩)) := fun W hW => hW.cell HT.out.c0 nS
  have f2 : ∀ W, Upd (fun k => k = c ∨ v.ownBlock = some k) w W → W.cell? ⟨u, 1, none⟩ = some (.slice (some ⟨gl, 0, none⟩) n n) := fun W hW => hW.cell HT.out.c1 nS
  clear nS
  refine wp_region_ord [(0, true), (1, true), (2, true), (3, true), (4, true), (5, true), (6, true), (7, true), (8, false), (9, true)] (by kernel_rfl) (by kernel_rfl) (Upd (fun k => k = c ∨ v.ownBlock = some k) w) (Upd.refl _ _).drew ?_
  simp only [ordOps, List.getD_cons_zero, List.getD_cons_succ]
  iterate 8 (refine wpOrd_held (fun K hK => ?_); go_simp; first | (apply Exists.intro; refine ⟨fun W hW => ?_, hK _ ?_⟩; (go_simp; first | done | exact rfl); clear hK K) | (refine hK _ ?_; clear hK K))
  have hSd : Upd (fun k => k = c ∨ v.ownBlock = some k) w w.drew := (Upd.refl _ _).drew
  refine wpOrd_step (fun K hK => ?_) hSd
  go_simp
  have hkd : Kept w w.drew := (Upd.refl _ _).drew
  refine (rt_Levels (HT.out.kept hkd) HC.out).mono ?_
  rintro e w2 ⟨vo, rfl, ho, v2, n2, xs2, hT2, ht2⟩
  have hS2 := hSd.trans ht2.1
  have hoP := own_baseP ho hkd.size
  have HT2 := Lib.hid (And.intro hT2 (And.intro ((RTo.kept hkd).trans ht2) hoP))
  obtain ⟨A2, k2, hvo, hk2, hcl2⟩ := hoP.cells
  subst hvo
  refine hK _ _ hS2 ?_
  clear hK K hSd hkd ho hoP hT2 ht2 f1 f2
  iterate 1 (refine wpOrd_held (fun K hK => ?_); go_simp; first | (apply Exists.intro; refine ⟨fun W hW => ?_, hK _ ?_⟩; (go_simp; first | done | exact rfl); clear hK K) | (refine hK _ ?_; clear hK K))
  refine wpOrd_nil ?_
  clear hS2
  obtain ⟨m, g, cc, g2, c2, hm, hv, hcell, s1, s2⟩ := ownp_top HT2.out.2.2 HR.out.2.2.1
  simp only [Value.slice.injEq] at hv
  obtain ⟨rfl, hpm, rfl⟩ := hv
  rw [hpm]
  have hmb : (m : Int) ≤ 1024 := by have := depthM_le _ (leafD li) rfl; have := HR.out.2.2.2; omega
  have hwm : IntKind.i64.wrap (m : Int) = m := by rw [IntKind.wrap_i64]; omega
  have hmi : (m : Int) < (m : Int) + 1 := by omega
  have hr5 := HR.out.1.upd HT2.out.2.1.1 (HT.out.book.far HR.out.1 (by decide) (by decide))
  obtain ⟨X, hX⟩ : ∃ X, X = rootM shaM (leafD li) := ⟨_, rfl⟩
  rw [← hX] at s2
  obtain ⟨hrb, hs1, hs2⟩ := dig_end X hr5
  have HF : Hid (∃ v' n' xs', RTree (w2.setRow w0.heap.size (dA X)) B u c v' n' xs' M gl n li ∧ RTo c v w0 v' (w2.setRow w0.heap.size (dA X))) := by
    exact ⟨_, _, _, HT2.out.1.dig hr5 ((Upd.refl (fun k => k = w0.heap.size) w2).setRow _ _ fun _ => rfl), ((RTo.kept HR.out.2.1).trans HT2.out.2.1).setRow _ (Nat.le_refl _) _ hr5 (by decide)⟩
  have HGG := Lib.hid (And.intro hs1 hs2)
  have HXX := Lib.hid hX
  clear hs1 hs2 hr5 hpm hcl2 hk2 hm hX HR HT HT2
  go_wp2
  refine bodyPost_ret (v := .agg (dA X)) ?_ rfl (by rw [HXX.out]; exact ⟨rfl, by rw [← HXX.out]; exact HF.out⟩)
  rw [results_seg (P := Try.prog) (fn := Try.f32) rfl _ _ ⟨w0.heap.size, 0, none⟩ 32 _ rfl Try.underlying46 rfl sizeOf46 HGG.out.1, HGG.out.2]
end
end Go.Proofs.Ytnncpjekcljfbaa
/- Both trees over sets of all kinds; what both books have noted; bytes turned. -/
namespace Go.Proofs.Ytnncpjekcljfbaa
open Go.RowKit

/-- a byte, as a row of one cell -/
def bA (u : UInt8) : Array Value := #[.int .u8 (u.toNat : Int)]
theorem bA_size (u : UInt8) : (bA u).size = 1 := by simp [bA]
theorem encB_rows (R : Bytes) : encB R = rowsOf bA R := by
  induction R with
  | nil => rfl
  | cons u R ih => rw [rowsOf_cons, ← ih]; rfl
theorem OwnB.rows {W : World} {B : Nat} {v : Value} {R : Bytes} (h : OwnB W B v R) : OwnRows bA 1 W B 5 v R := by
  show W.ownsRow B 5 1 v R.length (rowsOf bA R)
  rw [← encB_rows]; exact h
theorem OwnRows.bytes {W : World} {B : Nat} {v : Value} {R : Bytes} (h : OwnRows bA 1 W B 5 v R) : OwnB W B v R := by
  show W.ownsRow B 5 1 v R.length (encB R)
  rw [encB_rows]; exact h
/-- a byte of an own row turned -/
theorem own_setByte {W : World} {B : Nat} {v : Value} {R : Bytes} (h : OwnB W B v R) {k : Nat} (hk : k < R.length) (u : UInt8) :
    ∃ g c vs, v = .slice (some ⟨g, 0, none⟩) R.length c ∧ B ≤ g ∧ Blk W g 5 vs ∧ W.cell? ⟨g, k, none⟩ = some (.int .u8 (R[k].toNat : Int)) ∧ W.frozen? ⟨g, k, none⟩ = false ∧ OwnB (W.setCell ⟨g, k, none⟩ (.int .u8 (u.toNat : Int))) B v (R.set k u) := by
  obtain ⟨g, c, hv, hg1, hg2⟩ := World.ownsRow.form h.rows (by omega)
  obtain ⟨g', cur, e1, e2, e3, e4⟩ := OwnRows.turn bA_size (by omega) h.rows hk u
  rw [hv] at e1
  obtain rfl : g = g' := Option.some.inj e1
  obtain ⟨A, c', he, -, hb⟩ := h.form
  rw [hv] at he
  simp only [Value.slice.injEq] at he
  obtain ⟨rfl, -, rfl⟩ := he
  obtain ⟨b, off, hA, hc⟩ := hb.get hk
  simp only [Option.some.injEq, Addr.mk.injEq, and_true] at hA
  obtain ⟨rfl, rfl⟩ := hA
  rw [Nat.zero_add] at hc
  refine ⟨g, c, cur, hv, hg1, e2, hc, frozen_of_row W g k _ _ e2, ?_⟩
  have e : W.setCell ⟨g, k, none⟩ (.int .u8 (u.toNat : Int)) = W.setRow g (splice cur (k * 1) (bA u).toList).toArray := by
    rw [setCell_eq_setRow W g k cur.toArray 5 (0, 0) _ e2, show (bA u).toList = [.int .u8 (u.toNat : Int)] from rfl, splice_set _ _ _ (by omega)]
  rw [e]
  exact e4.bytes

/-! ### a set, of all numbers and bytes -/
def setOk (n : Nat) (i : Int) (R : Bytes) : Prop := 0 ≤ i ∧ i < n ∧ R.length < 65536
instance (n : Nat) (i : Int) (R : Bytes) : Decidable (setOk n i R) := inferInstanceAs (Decidable (_ ∧ _ ∧ _))
def setE (n : Nat) (i : Int) (R : Bytes) : Int := if setOk n i R then 0 else if 0 ≤ i ∧ i < n then 5 else 9
section
variable {w W W' : World} {b r q lo hi t : Nat} {L L' : List Bytes} {D D' : List Dig} {B u c : Nat} {v v' : Value} {n0 n0' : Int} {xs xs' : List SlC} {M M' : List Bytes} {gl n : Nat} {li li' : List (SlC × Bytes)}
theorem pair_TSet_Z (h : Pair w W b r q lo hi t L D B u c v n0 xs M gl n li) (hD : D.length = n) {A : Option Addr} {R : Bytes} (k : Nat) (hR : Byt W A R) (i : Int) :
    Calls Try.prog 25 #[.pointer (some ⟨t, 0, none⟩), .int .i64 i, .slice A R.length k] W fun e W' => e = .returned (.int .i64 (setE n i R)) ∧ ∃ L' D', Pair w W' b r q lo hi t L' D' B u c v n0 xs M gl n li ∧ Upd (fun k => Book3 b r q k ∨ (lo ≤ k ∧ k < hi)) W W' ∧
      (setOk n i R → L' = notesM (noteM L (leafIn R)) (setIns shaM (levelsM shaM D) i.toNat (leafM shaM R)) ∧ D' = D.set i.toNat (leafM shaM R)) ∧ (¬ setOk n i R → L' = L ∧ D' = D) := by
  unfold setE
  by_cases hk : setOk n i R
  · rw [if_pos hk]
    obtain ⟨h1, h2, h3⟩ := hk
    obtain ⟨j, rfl⟩ : ∃ j : Nat, i = j := ⟨i.toNat, by omega⟩
    exact (pair_TSet h k hR h3 j (by omega)).mono fun e W' ⟨he, hP, hu⟩ => ⟨he, _, _, hP, hu, fun _ => ⟨rfl, rfl⟩, fun hn => absurd ⟨h1, h2, h3⟩ hn⟩
  · rw [if_neg hk]
    by_cases hi : 0 ≤ i ∧ i < n
    · rw [if_pos hi]
      obtain ⟨j, rfl⟩ : ∃ j : Nat, i = j := ⟨i.toNat, by omega⟩
      exact (tree_Set_long h.tree k (by unfold setOk at hk; omega) j (by omega)).mono fun e W' ⟨he, hu⟩ => ⟨he, _, _, h.kept hu, hu.to, fun h => absurd h hk, fun _ => ⟨rfl, rfl⟩⟩
    · rw [if_neg hi]
      exact (tree_Set_out h.tree i _ (by omega)).mono fun e W' ⟨he, hu⟩ => by subst hu; exact ⟨he, _, _, h, Upd.refl _ _, fun h => absurd h hk, fun _ => ⟨rfl, rfl⟩⟩
theorem pair_USet_Z (h : Pair w W b r q lo hi t L D B u c v n0 xs M gl n li) (hcnt : M.length ≤ 80000) {A : Option Addr} {R : Bytes} (k : Nat) (hR : Byt W A R) (i : Int) :
    Calls Try.prog 26 #[.pointer (some ⟨u, 0, none⟩), .int .i64 i, .slice A R.length k] W fun e W' => e = .returned (.int .i64 (setE n i R)) ∧ ∃ v' n' xs' M' li', Pair w W' b r q lo hi t L D B u c v' n' xs' M' gl n li' ∧ RT2 c gl v W v' W' ∧ (∀ g, g < W.heap.size → NoB xs li g → NoB xs' li' g) ∧
      (setOk n i R → M' = notesM (notesM M (leafI li')) (insM shaM (leafD li')) ∧ li'.map (·.2) = (li.map (·.2)).set i.toNat R) ∧ (¬ setOk n i R → M' = M ∧ li' = li) := by
  unfold setE
  by_cases hk : setOk n i R
  · rw [if_pos hk]
    obtain ⟨h1, h2, h3⟩ := hk
    obtain ⟨j, rfl⟩ : ∃ j : Nat, i = j := ⟨i.toNat, by omega⟩
    exact (pair_USet h hcnt k hR h3 j (by omega)).mono fun e W' ⟨he, v', n', xs', li', hP, hm, ht, hn⟩ => ⟨he, v', n', xs', _, li', hP, ht, hn, fun _ => ⟨rfl, hm⟩, fun hn => absurd ⟨h1, h2, h3⟩ hn⟩
  · rw [if_neg hk]
    have hend : ∀ z, (Calls Try.prog 26 #[.pointer (some ⟨u, 0, none⟩), .int .i64 i, .slice A R.length k] W fun e W' => e = .returned (.int .i64 z) ∧ W = W') → Calls Try.prog 26 #[.pointer (some ⟨u, 0, none⟩), .int .i64 i, .slice A R.length k] W fun e W' => e = .returned (.int .i64 z) ∧ ∃ v' n' xs' M' li', Pair w W' b r q lo hi t L D B u c v' n' xs' M' gl n li' ∧ RT2 c gl v W v' W' ∧ (∀ g, g < W.heap.size → NoB xs li g → NoB xs' li' g) ∧
        (setOk n i R → M' = notesM (notesM M (leafI li')) (insM shaM (leafD li')) ∧ li'.map (·.2) = (li.map (·.2)).set i.toNat R) ∧ (¬ setOk n i R → M' = M ∧ li' = li) := fun z hc =>
      hc.mono fun e W' ⟨he, hu⟩ => by
        subst hu
        exact ⟨he, _, _, _, _, _, h, ⟨Upd.refl _ _, .inl rfl⟩, fun _ _ hn => hn, fun h => absurd h hk, fun _ => ⟨rfl, rfl⟩⟩
    by_cases hi : 0 ≤ i ∧ i < n
    · rw [if_pos hi]
      obtain ⟨j, rfl⟩ : ∃ j : Nat, i = j := ⟨i.toNat, by omega⟩
      exact hend _ (ref_TSet_long h.rt j (by omega) A k (by unfold setOk at hk; omega))
    · rw [if_neg hi]
      exact hend _ (ref_TSet_out h.rt i _ (by omega))

/-- both trees over the same leaves, both books with the same inputs -/
structure Duo (w W : World) (b r q lo hi t : Nat) (L : List Bytes) (B u c : Nat) (v : Value) (n0 : Int) (xs : List SlC) (M : List Bytes) (gl n : Nat) (li : List (SlC × Bytes)) (Rs : List Bytes) : Prop where
  pair : Pair w W b r q lo hi t L (Rs.map (leafM shaM)) B u c v n0 xs M gl n li
  lib : li.map (·.2) = Rs
  same : ∀ x, x ∈ L ↔ x ∈ M
  nd : M.Nodup
theorem Duo.kept {Rs : List Bytes} (h : Duo w W b r q lo hi t L B u c v n0 xs M gl n li Rs) (hu : Kept W W') : Duo w W' b r q lo hi t L B u c v n0 xs M gl n li Rs := ⟨h.pair.kept hu, h.lib, h.same, h.nd⟩
theorem Duo.lenR {Rs : List Bytes} (h : Duo w W b r q lo hi t L B u c v n0 xs M gl n li Rs) : Rs.length = n := by rw [← h.lib, List.length_map, h.pair.rt.len]
/-- after a set of both -/
theorem duo_step {Rs : List Bytes} (h : Duo w W b r q lo hi t L B u c v n0 xs M gl n li Rs) {i : Int} {R : Bytes} (hP : Pair w W' b r q lo hi t L' D' B u c v' n0' xs' M' gl n li')
    (h1 : setOk n i R → L' = notesM (noteM L (leafIn R)) (setIns shaM (levelsM shaM (Rs.map (leafM shaM))) i.toNat (leafM shaM R)) ∧ D' = (Rs.map (leafM shaM)).set i.toNat (leafM shaM R)) (h2 : ¬ setOk n i R → L' = L ∧ D' = Rs.map (leafM shaM))
    (h3 : setOk n i R → M' = notesM (notesM M (leafI li')) (insM shaM (leafD li')) ∧ li'.map (·.2) = (li.map (·.2)).set i.toNat R) (h4 : ¬ setOk n i R → M' = M ∧ li' = li) :
    ∃ Rs', Duo w W' b r q lo hi t L' B u c v' n0' xs' M' gl n li' Rs' ∧ M'.length ≤ M.length + 2 * n := by
  by_cases hk : setOk n i R
  · obtain ⟨rfl, rfl⟩ := h1 hk
    obtain ⟨rfl, hm⟩ := h3 hk
    have hin : i.toNat < Rs.length := by rw [h.lenR]; unfold setOk at hk; omega
    have hlib : li'.map (·.2) = Rs.set i.toNat R := by rw [hm, h.lib]
    have hD : leafD li' = (Rs.map (leafM shaM)).set i.toNat (leafM shaM R) := by rw [leafD_map, hlib, List.map_set]
    have hD0 : leafD li = Rs.map (leafM shaM) := by rw [leafD_map, h.lib]
    have hI : ∀ x, x ∈ leafI li' → x ∈ leafI li ∨ x = leafIn R := fun x hx => by
      rw [leafI_map, hlib, List.mem_map] at hx
      obtain ⟨y, hy, rfl⟩ := hx
      rcases List.mem_or_eq_of_mem_set hy with h5 | h5
      · exact .inl (by rw [leafI_map, h.lib]; exact List.mem_map.2 ⟨y, h5, rfl⟩)
      · exact .inr (by rw [h5])
    refine ⟨Rs.set i.toNat R, ⟨by rw [List.map_set]; exact hP, hlib, fun x => ⟨fun hx => ?_, fun hx => ?_⟩, notesM_nodup (notesM_nodup h.nd)⟩, ?_⟩
    · rcases mem_notesM.1 hx with h5 | h5
      · rcases mem_noteM.1 h5 with h6 | h6
        · exact mem_notesM.2 (.inl (mem_notesM.2 (.inl ((h.same x).1 h6))))
        · refine mem_notesM.2 (.inl (mem_notesM.2 (.inr ?_)))
          rw [h6, leafI_map, hlib]
          exact List.mem_map.2 ⟨R, List.mem_of_getElem? (List.getElem?_set_self hin), rfl⟩
      · refine mem_notesM.2 (.inr ?_)
        rw [hD]
        exact setIns_sub _ rfl (by rw [List.length_map]; exact hin) x h5
    · rcases mem_notesM.1 hx with h5 | h5
      · rcases mem_notesM.1 h5 with h6 | h6
        · exact mem_notesM.2 (.inl (mem_noteM.2 (.inl ((h.same x).2 h6))))
        · rcases hI x h6 with h7 | h7
          · exact mem_notesM.2 (.inl (mem_noteM.2 (.inl ((h.same x).2 (h.pair.rt.nl x h7)))))
          · exact mem_notesM.2 (.inl (mem_noteM.2 (.inr h7)))
      · rw [hD] at h5
        have h6 : InsIn L (Rs.map (leafM shaM)) := fun r hr => (h.same r).2 (h.pair.rt.ni r (by rw [hD0]; exact hr))
        exact h6.set (by rw [List.length_map]; exact hin) (leafIn R) (leafM shaM R) x h5
    · have h5 := notes2_length M li'
      have h6 := hP.rt.len
      omega
  · obtain ⟨rfl, rfl⟩ := h2 hk
    obtain ⟨rfl, rfl⟩ := h4 hk
    exact ⟨Rs, ⟨hP, h.lib, h.same, h.nd⟩, by omega⟩
theorem Duo.mut {Rs : List Bytes} (h : Duo w W b r q lo hi t L B u c v n0 xs M gl n li Rs) {g : Nat} {vs : List Value} (hg : Blk W g 5 vs) (hno : NoB xs li g) (hh : hi ≤ g) (hw : w.heap.size ≤ g) (hu : Upd (fun k => k = g) W W') : Duo w W' b r q lo hi t L B u c v n0 xs M gl n li Rs := by
  refine ⟨⟨h.pair.ink.step (h.pair.ink.book.far (show W.heap[g]? = some (.cells vs.toArray 5 (0, 0)) from hg) (by decide) hu) hu (fun k e => .inr (by rw [show k = g from e]; exact hw)), h.pair.tree.upd hu (fun k h1 h2 _ e => by have e2 : k = g := e; omega), h.pair.rt.mut hg hno hu, h.pair.wlo, h.pair.wc, h.pair.clo, h.pair.lohi, h.pair.hiB, h.pair.hiu⟩, h.lib, h.same, h.nd⟩
theorem Duo.dig {Rs : List Bytes} (h : Duo w W b r q lo hi t L B u c v n0 xs M gl n li Rs) {g : Nat} {vs : List Value} (hg : Blk W g 46 vs) (hh : hi ≤ g) (hw : w.heap.size ≤ g) (hu : Upd (fun k => k = g) W W') : Duo w W' b r q lo hi t L B u c v n0 xs M gl n li Rs := by
  refine ⟨⟨h.pair.ink.step (h.pair.ink.book.far (show W.heap[g]? = some (.cells vs.toArray 46 (0, 0)) from hg) (by decide) hu) hu (fun k e => .inr (by rw [show k = g from e]; exact hw)), h.pair.tree.upd hu (fun k h1 h2 _ e => by have e2 : k = g := e; omega), h.pair.rt.dig hg hu, h.pair.wlo, h.pair.wc, h.pair.clo, h.pair.lohi, h.pair.hiB, h.pair.hiu⟩, h.lib, h.same, h.nd⟩
theorem Duo.read {Rs : List Bytes} (h : Duo w W b r q lo hi t L B u c v n0 xs M gl n li Rs) (hr : RTree W' B u c v' n0' xs' M gl n li) (ht : RTo c v W v' W') : Duo w W' b r q lo hi t L B u c v' n0' xs' M gl n li Rs := ⟨h.pair.ref hr ht.to2, h.lib, h.same, h.nd⟩
theorem Duo.leafD {Rs : List Bytes} (h : Duo w W b r q lo hi t L B u c v n0 xs M gl n li Rs) : leafD li = Rs.map (leafM shaM) := by rw [leafD_map, h.lib]
/-- as many inputs -/
theorem Duo.count {Rs : List Bytes} (h : Duo w W b r q lo hi t L B u c v n0 xs M gl n li Rs) : L.length = M.length := by
  obtain ⟨I, N, m, hb⟩ := h.pair.ink.book
  exact ((List.perm_ext_iff_of_nodup hb.inv.nd h.nd).2 h.same).length_eq
end
end Go.Proofs.Ytnncpjekcljfbaa
