import Derived.Test.YtepjbijhkkjbfaaGreatSetZa
set_option linter.unusedVariables false
set_option linter.unusedSimpArgs false
namespace Go.Proofs.YtepjbijhkkjbfaaGreat
inductive OT where
  | done
  | take (i : Nat) (t : OT)
  | one (i : Nat) (t : OT)
  | two (i j : Nat) (t u : OT)
inductive OO where
  | done
  | take (o : Oper) (t : OO)
  | one (o : Oper) (t : OO)
  | two (o p : Oper) (t u : OO)
def OT.ops (ops : List Oper) : OT → OO
  | .done => .done
  | .take i t => .take (ops.getD i default) (t.ops ops)
  | .one i t => .one (ops.getD i default) (t.ops ops)
  | .two i j t u => .two (ops.getD i default) (ops.getD j default) (t.ops ops) (u.ops ops)
def OT.fits (ops : Array Oper) : OT → Nat → Array Bool → Bool
  | .done, n, listed => n == 0 && (Region.ready .any ops listed).isEmpty
  | .take i t, n + 1, listed => (Region.ready .any ops listed).contains i && Region.free .any ops listed i && t.fits ops n (listed.setIfInBounds i true)
  | .one i t, n + 1, listed => decide (Region.ready .any ops listed = [i]) && t.fits ops n (listed.setIfInBounds i true)
  | .two i j t u, n + 1, listed => decide (Region.ready .any ops listed = [i, j]) && t.fits ops n (listed.setIfInBounds i true) && u.fits ops n (listed.setIfInBounds j true)
  | _, 0, _ => false
section
variable {P : Program} {ops : Array Oper} {S : World → Prop}
def stepOO (P : Program) (ops : Array Oper) (o : Oper) (K : Act → World → Prop) (a : Act) (w : World) : Prop :=
  if Region.wanted o (yielded ops a.tmps) then o.wp P a w K (fun _ _ _ => False) else K (a.put o.dst undef) w
def wpOO (P : Program) (ops : Array Oper) (S : World → Prop) (Q : Act → World → Prop) : OO → Act → World → Prop
  | .done, a, w => Q a w
  | .take o t, a, w => if Region.wanted o (yielded ops a.tmps) then ∃ v, HeldAt P S o a v ∧ wpOO P ops S Q t (a.put o.dst v) w else wpOO P ops S Q t (a.put o.dst undef) w
  | .one o t, a, w => S w ∧ stepOO P ops o (fun a' w' => S w' ∧ wpOO P ops S Q t a' w') a w
  | .two o p t u, a, w => S w ∧ stepOO P ops o (fun a' w' => S w' ∧ wpOO P ops S Q t a' w') a w ∧ stepOO P ops p (fun a' w' => S w' ∧ wpOO P ops S Q u a' w') a w
section
variable {Q : Act → World → Prop} {a : Act} {w : World} {o p : Oper} {t u : OO}
theorem wpOO_nil (h : Q a w) : wpOO P ops S Q .done a w := h
theorem wpOO_held (h : ∀ K : Act → Prop, (∀ a, wpOO P ops S Q t a w → K a) → if Region.wanted o (yielded ops a.tmps) then ∃ v, HeldAt P S o a v ∧ K (a.put o.dst v) else K (a.put o.dst undef)) : wpOO P ops S Q (.take o t) a w := h _ fun _ h => h
theorem wpOO_step (h : ∀ K : Act → World → Prop, (∀ a w, S w → wpOO P ops S Q t a w → K a w) → if Region.wanted o (yielded ops a.tmps) then o.wp P a w K (fun _ _ _ => False) else K (a.put o.dst undef) w) (hS : S w) : wpOO P ops S Q (.one o t) a w :=
  ⟨hS, h (fun a w => S w ∧ wpOO P ops S Q t a w) fun _ _ h1 h2 => ⟨h1, h2⟩⟩
theorem wpOO_fork (h : ∀ K : Act → World → Prop, (∀ a w, S w → wpOO P ops S Q t a w → K a w) → if Region.wanted o (yielded ops a.tmps) then o.wp P a w K (fun _ _ _ => False) else K (a.put o.dst undef) w)
    (h2 : ∀ K : Act → World → Prop, (∀ a w, S w → wpOO P ops S Q u a w → K a w) → if Region.wanted p (yielded ops a.tmps) then p.wp P a w K (fun _ _ _ => False) else K (a.put p.dst undef) w) (hS : S w) : wpOO P ops S Q (.two o p t u) a w :=
  ⟨hS, h (fun a w => S w ∧ wpOO P ops S Q t a w) fun _ _ h1 h2 => ⟨h1, h2⟩, h2 (fun a w => S w ∧ wpOO P ops S Q u a w) fun _ _ h1 h2 => ⟨h1, h2⟩⟩
end
theorem wpOp_of_step {Q : Exit → Act → World → Prop} {K : Act → World → Prop} {i : Nat} {o : Oper} {a : Act} {w : World} (ho : ops[i]? = some o) (h : stepOO P ops o K a w) : wpOp P ops (Norm Q) i K a w := by
  unfold wpOp; simp only [ho]; unfold stepOO at h
  by_cases hw : Region.wanted o (yielded ops a.tmps) = true
  · simp only [hw, if_true] at h ⊢
    exact .inl (Oper.wp_weaken h)
  · simp only [hw] at h ⊢
    exact h
theorem stepOO_mono {K K' : Act → World → Prop} {o : Oper} {a : Act} {w : World} (hk : ∀ a w, K a w → K' a w) (h : stepOO P ops o K a w) : stepOO P ops o K' a w := by
  unfold stepOO at *
  split
  · rename_i hw; rw [if_pos hw] at h; exact Oper.wp_mono (fun a w h => hk a w h) h
  · rename_i hw; rw [if_neg hw] at h; exact hk _ _ h
theorem wpAnyH_of_tree {Q : Exit → Act → World → Prop} (hsel : Region.noSelect ops = true) :
    ∀ (t : OT) (n : Nat) (listed : Array Bool) (a : Act) (w : World), S w → t.fits ops n listed = true →
      wpOO P ops S (fun a w => Q .normal a w) (t.ops ops.toList) a w → wpAnyH P .any ops (Norm Q) S n listed a w
  | .done, n, listed, a, w, hS, hB, h => by
    simp only [OT.fits, Bool.and_eq_true, beq_iff_eq] at hB; obtain ⟨rfl, hr⟩ := hB; exact ⟨by simpa using hr, h⟩
  | .take i t, 0, listed, a, w, hS, hB, h => by simp [OT.fits] at hB
  | .one i t, 0, listed, a, w, hS, hB, h => by simp [OT.fits] at hB
  | .two i j t u, 0, listed, a, w, hS, hB, h => by simp [OT.fits] at hB
  | .take i t, n + 1, listed, a, w, hS, hB, h => by
    simp only [OT.fits, Bool.and_eq_true] at hB; obtain ⟨⟨hr, hf⟩, hB⟩ := hB; have hr' : i ∈ Region.ready .any ops listed := by simpa using hr
    obtain ⟨_, o, ho, _⟩ := mem_ready.1 hr'; have hod : ops.toList.getD i default = o := by simp [List.getD, ho]
    simp only [OT.ops, hod, wpOO] at h
    by_cases hw : Region.wanted o (yielded ops a.tmps) = true
    · simp only [hw, if_true] at h
      obtain ⟨v, hv, hk⟩ := h; exact wpAnyH_take ho hsel hf hr (fun _ _ _ h => h.elim) (.inl ⟨hw, hv⟩) hS (wpAnyH_of_tree hsel t n _ _ _ hS hB hk)
    · simp only [hw] at h
      exact wpAnyH_take (v := undef) ho hsel hf hr (fun _ _ _ h => h.elim) (.inr ⟨by simpa using hw, rfl⟩) hS (wpAnyH_of_tree hsel t n _ _ _ hS hB h)
  | .one i t, n + 1, listed, a, w, hS, hB, h => by
    simp only [OT.fits, Bool.and_eq_true, decide_eq_true_eq] at hB; obtain ⟨hr, hB⟩ := hB; have hr' : i ∈ Region.ready .any ops listed := by rw [hr]; simp
    obtain ⟨_, o, ho, _⟩ := mem_ready.1 hr'; have hod : ops.toList.getD i default = o := by simp [List.getD, ho]
    simp only [OT.ops, hod, wpOO] at h; refine wpAnyH_all (rs := [i]) hr (by simp) fun k hk => ?_; obtain rfl : k = i := by simpa using hk
    exact wpOp_of_step ho (stepOO_mono (fun a' w' h' => ⟨h'.1, wpAnyH_of_tree hsel t n _ _ _ h'.1 hB h'.2⟩) h.2)
  | .two i j t u, n + 1, listed, a, w, hS, hB, h => by
    simp only [OT.fits, Bool.and_eq_true, decide_eq_true_eq] at hB; obtain ⟨⟨hr, hB⟩, hB2⟩ := hB; have hr' : i ∈ Region.ready .any ops listed := by rw [hr]; simp
    have hr2 : j ∈ Region.ready .any ops listed := by rw [hr]; simp
    obtain ⟨_, o, ho, _⟩ := mem_ready.1 hr'; obtain ⟨_, p, hp, _⟩ := mem_ready.1 hr2; have hod : ops.toList.getD i default = o := by simp [List.getD, ho]
    have hpd : ops.toList.getD j default = p := by simp [List.getD, hp]
    simp only [OT.ops, hod, hpd, wpOO] at h; refine wpAnyH_all (rs := [i, j]) hr (by simp) fun k hk => ?_; rcases (by simpa using hk : k = i ∨ k = j) with rfl | rfl
    · exact wpOp_of_step ho (stepOO_mono (fun a' w' h' => ⟨h'.1, wpAnyH_of_tree hsel t n _ _ _ h'.1 hB h'.2⟩) h.2.1)
    · exact wpOp_of_step hp (stepOO_mono (fun a' w' h' => ⟨h'.1, wpAnyH_of_tree hsel u n _ _ _ h'.1 hB2 h'.2⟩) h.2.2)
theorem wp_region_tree {id : Nat} {Q : Exit → Act → World → Prop} {a : Act} {w : World} {l : List Oper} (t : OT) (hm : P.follows .mixedOrders = true)
    (hB : (Region.noSelect l.toArray && t.fits l.toArray l.length (Array.replicate l.length false)) = true) (S : World → Prop) (hS : S w.drew)
    (h : wpOO P l.toArray S (fun a w => Q .normal a w) (t.ops l) a w.drew) : (Code.region id l.toArray true).wp P Q a w := by
  simp only [Bool.and_eq_true] at hB; obtain ⟨hsel, hB⟩ := hB; have H := wpAnyH_of_tree (P := P) (S := S) (Q := Q) hsel t l.length (Array.replicate l.length false) a w.drew hS hB (by simpa using h); exact Code.wp_mono Norm.le (wp_region_held (S := S) hm (by simpa using H))
end
end Go.Proofs.YtepjbijhkkjbfaaGreat
namespace Go.Proofs.YtepjbijhkkjbfaaGreat
inductive OT3 where
  | done
  | take (i : Nat) (t : OT3)
  | one (i : Nat) (t : OT3)
  | two (i j : Nat) (t u : OT3)
  | three (i j k : Nat) (t u v : OT3)
inductive OO3 where
  | done
  | take (o : Oper) (t : OO3)
  | one (o : Oper) (t : OO3)
  | two (o p : Oper) (t u : OO3)
  | three (o p r : Oper) (t u v : OO3)
def OT3.ops (ops : List Oper) : OT3 → OO3
  | .done => .done
  | .take i t => .take (ops.getD i default) (t.ops ops)
  | .one i t => .one (ops.getD i default) (t.ops ops)
  | .two i j t u => .two (ops.getD i default) (ops.getD j default) (t.ops ops) (u.ops ops)
  | .three i j k t u v => .three (ops.getD i default) (ops.getD j default) (ops.getD k default) (t.ops ops) (u.ops ops) (v.ops ops)
def OT3.fits (ops : Array Oper) : OT3 → Nat → Array Bool → Bool
  | .done, n, listed => n == 0 && (Region.ready .any ops listed).isEmpty
  | .take i t, n + 1, listed => (Region.ready .any ops listed).contains i && Region.free .any ops listed i && t.fits ops n (listed.setIfInBounds i true)
  | .one i t, n + 1, listed => decide (Region.ready .any ops listed = [i]) && t.fits ops n (listed.setIfInBounds i true)
  | .two i j t u, n + 1, listed => decide (Region.ready .any ops listed = [i, j]) && t.fits ops n (listed.setIfInBounds i true) && u.fits ops n (listed.setIfInBounds j true)
  | .three i j k t u v, n + 1, listed => decide (Region.ready .any ops listed = [i, j, k]) && t.fits ops n (listed.setIfInBounds i true) && u.fits ops n (listed.setIfInBounds j true) && v.fits ops n (listed.setIfInBounds k true)
  | _, 0, _ => false
section
variable {P : Program} {ops : Array Oper} {S : World → Prop}
def wpOT (P : Program) (ops : Array Oper) (S : World → Prop) (Q : Act → World → Prop) : OO3 → Act → World → Prop
  | .done, a, w => Q a w
  | .take o t, a, w => if Region.wanted o (yielded ops a.tmps) then ∃ v, HeldAt P S o a v ∧ wpOT P ops S Q t (a.put o.dst v) w else wpOT P ops S Q t (a.put o.dst undef) w
  | .one o t, a, w => S w ∧ stepOO P ops o (fun a' w' => S w' ∧ wpOT P ops S Q t a' w') a w
  | .two o p t u, a, w => S w ∧ stepOO P ops o (fun a' w' => S w' ∧ wpOT P ops S Q t a' w') a w ∧ stepOO P ops p (fun a' w' => S w' ∧ wpOT P ops S Q u a' w') a w
  | .three o p r t u v, a, w => S w ∧ stepOO P ops o (fun a' w' => S w' ∧ wpOT P ops S Q t a' w') a w ∧ stepOO P ops p (fun a' w' => S w' ∧ wpOT P ops S Q u a' w') a w ∧ stepOO P ops r (fun a' w' => S w' ∧ wpOT P ops S Q v a' w') a w
section
variable {Q : Act → World → Prop} {a : Act} {w : World} {o p r : Oper} {t u v : OO3}
theorem wpOT_nil (h : Q a w) : wpOT P ops S Q .done a w := h
theorem wpOT_held (h : ∀ K : Act → Prop, (∀ a, wpOT P ops S Q t a w → K a) → if Region.wanted o (yielded ops a.tmps) then ∃ v, HeldAt P S o a v ∧ K (a.put o.dst v) else K (a.put o.dst undef)) : wpOT P ops S Q (.take o t) a w := h _ fun _ h => h
theorem wpOT_step (h : ∀ K : Act → World → Prop, (∀ a w, S w → wpOT P ops S Q t a w → K a w) → if Region.wanted o (yielded ops a.tmps) then o.wp P a w K (fun _ _ _ => False) else K (a.put o.dst undef) w) (hS : S w) : wpOT P ops S Q (.one o t) a w :=
  ⟨hS, h (fun a w => S w ∧ wpOT P ops S Q t a w) fun _ _ h1 h2 => ⟨h1, h2⟩⟩
theorem wpOT_fork (h : ∀ K : Act → World → Prop, (∀ a w, S w → wpOT P ops S Q t a w → K a w) → if Region.wanted o (yielded ops a.tmps) then o.wp P a w K (fun _ _ _ => False) else K (a.put o.dst undef) w)
    (h2 : ∀ K : Act → World → Prop, (∀ a w, S w → wpOT P ops S Q u a w → K a w) → if Region.wanted p (yielded ops a.tmps) then p.wp P a w K (fun _ _ _ => False) else K (a.put p.dst undef) w) (hS : S w) : wpOT P ops S Q (.two o p t u) a w :=
  ⟨hS, h (fun a w => S w ∧ wpOT P ops S Q t a w) fun _ _ h1 h2 => ⟨h1, h2⟩, h2 (fun a w => S w ∧ wpOT P ops S Q u a w) fun _ _ h1 h2 => ⟨h1, h2⟩⟩
theorem wpOT_three (h : ∀ K : Act → World → Prop, (∀ a w, S w → wpOT P ops S Q t a w → K a w) → if Region.wanted o (yielded ops a.tmps) then o.wp P a w K (fun _ _ _ => False) else K (a.put o.dst undef) w)
    (h2 : ∀ K : Act → World → Prop, (∀ a w, S w → wpOT P ops S Q u a w → K a w) → if Region.wanted p (yielded ops a.tmps) then p.wp P a w K (fun _ _ _ => False) else K (a.put p.dst undef) w)
    (h3 : ∀ K : Act → World → Prop, (∀ a w, S w → wpOT P ops S Q v a w → K a w) → if Region.wanted r (yielded ops a.tmps) then r.wp P a w K (fun _ _ _ => False) else K (a.put r.dst undef) w) (hS : S w) : wpOT P ops S Q (.three o p r t u v) a w :=
  ⟨hS, h (fun a w => S w ∧ wpOT P ops S Q t a w) fun _ _ h1 h2 => ⟨h1, h2⟩, h2 (fun a w => S w ∧ wpOT P ops S Q u a w) fun _ _ h1 h2 => ⟨h1, h2⟩, h3 (fun a w => S w ∧ wpOT P ops S Q v a w) fun _ _ h1 h2 => ⟨h1, h2⟩⟩
end
theorem wpOT_mono {Q Q' : Act → World → Prop} (hq : ∀ a w, Q a w → Q' a w) : ∀ (t : OO3) (a : Act) (w : World), wpOT P ops S Q t a w → wpOT P ops S Q' t a w
  | .done, a, w, h => hq _ _ h
  | .take o t, a, w, h => by
    simp only [wpOT] at h ⊢
    split
    · rename_i hw; rw [if_pos hw] at h; obtain ⟨v, h1, h2⟩ := h; exact ⟨v, h1, wpOT_mono hq t _ _ h2⟩
    · rename_i hw; rw [if_neg hw] at h; exact wpOT_mono hq t _ _ h
  | .one o t, a, w, h => ⟨h.1, stepOO_mono (fun _ _ h => ⟨h.1, wpOT_mono hq t _ _ h.2⟩) h.2⟩
  | .two o p t u, a, w, h => ⟨h.1, stepOO_mono (fun _ _ h => ⟨h.1, wpOT_mono hq t _ _ h.2⟩) h.2.1, stepOO_mono (fun _ _ h => ⟨h.1, wpOT_mono hq u _ _ h.2⟩) h.2.2⟩
  | .three o p r t u v, a, w, h => ⟨h.1, stepOO_mono (fun _ _ h => ⟨h.1, wpOT_mono hq t _ _ h.2⟩) h.2.1, stepOO_mono (fun _ _ h => ⟨h.1, wpOT_mono hq u _ _ h.2⟩) h.2.2.1, stepOO_mono (fun _ _ h => ⟨h.1, wpOT_mono hq v _ _ h.2⟩) h.2.2.2⟩
theorem wpAnyH_of_tree3 {Q : Exit → Act → World → Prop} (hsel : Region.noSelect ops = true) :
    ∀ (t : OT3) (n : Nat) (listed : Array Bool) (a : Act) (w : World), S w → t.fits ops n listed = true →
      wpOT P ops S (fun a w => Q .normal a w) (t.ops ops.toList) a w → wpAnyH P .any ops (Norm Q) S n listed a w
  | .done, n, listed, a, w, hS, hB, h => by
    simp only [OT3.fits, Bool.and_eq_true, beq_iff_eq] at hB; obtain ⟨rfl, hr⟩ := hB; exact ⟨by simpa using hr, h⟩
  | .take i t, 0, listed, a, w, hS, hB, h => by simp [OT3.fits] at hB
  | .one i t, 0, listed, a, w, hS, hB, h => by simp [OT3.fits] at hB
  | .two i j t u, 0, listed, a, w, hS, hB, h => by simp [OT3.fits] at hB
  | .three i j k t u v, 0, listed, a, w, hS, hB, h => by simp [OT3.fits] at hB
  | .take i t, n + 1, listed, a, w, hS, hB, h => by
    simp only [OT3.fits, Bool.and_eq_true] at hB; obtain ⟨⟨hr, hf⟩, hB⟩ := hB; have hr' : i ∈ Region.ready .any ops listed := by simpa using hr
    obtain ⟨_, o, ho, _⟩ := mem_ready.1 hr'; have hod : ops.toList.getD i default = o := by simp [List.getD, ho]
    simp only [OT3.ops, hod, wpOT] at h
    by_cases hw : Region.wanted o (yielded ops a.tmps) = true
    · simp only [hw, if_true] at h
      obtain ⟨v, hv, hk⟩ := h; exact wpAnyH_take ho hsel hf hr (fun _ _ _ h => h.elim) (.inl ⟨hw, hv⟩) hS (wpAnyH_of_tree3 hsel t n _ _ _ hS hB hk)
    · simp only [hw] at h
      exact wpAnyH_take (v := undef) ho hsel hf hr (fun _ _ _ h => h.elim) (.inr ⟨by simpa using hw, rfl⟩) hS (wpAnyH_of_tree3 hsel t n _ _ _ hS hB h)
  | .one i t, n + 1, listed, a, w, hS, hB, h => by
    simp only [OT3.fits, Bool.and_eq_true, decide_eq_true_eq] at hB; obtain ⟨hr, hB⟩ := hB; have hr' : i ∈ Region.ready .any ops listed := by rw [hr]; simp
    obtain ⟨_, o, ho, _⟩ := mem_ready.1 hr'; have hod : ops.toList.getD i default = o := by simp [List.getD, ho]
    simp only [OT3.ops, hod, wpOT] at h; refine wpAnyH_all (rs := [i]) hr (by simp) fun k hk => ?_; obtain rfl : k = i := by simpa using hk
    exact wpOp_of_step ho (stepOO_mono (fun a' w' h' => ⟨h'.1, wpAnyH_of_tree3 hsel t n _ _ _ h'.1 hB h'.2⟩) h.2)
  | .two i j t u, n + 1, listed, a, w, hS, hB, h => by
    simp only [OT3.fits, Bool.and_eq_true, decide_eq_true_eq] at hB; obtain ⟨⟨hr, hB⟩, hB2⟩ := hB; have hr' : i ∈ Region.ready .any ops listed := by rw [hr]; simp
    have hr2 : j ∈ Region.ready .any ops listed := by rw [hr]; simp
    obtain ⟨_, o, ho, _⟩ := mem_ready.1 hr'; obtain ⟨_, p, hp, _⟩ := mem_ready.1 hr2; have hod : ops.toList.getD i default = o := by simp [List.getD, ho]
    have hpd : ops.toList.getD j default = p := by simp [List.getD, hp]
    simp only [OT3.ops, hod, hpd, wpOT] at h; refine wpAnyH_all (rs := [i, j]) hr (by simp) fun k hk => ?_; rcases (by simpa using hk : k = i ∨ k = j) with rfl | rfl
    · exact wpOp_of_step ho (stepOO_mono (fun a' w' h' => ⟨h'.1, wpAnyH_of_tree3 hsel t n _ _ _ h'.1 hB h'.2⟩) h.2.1)
    · exact wpOp_of_step hp (stepOO_mono (fun a' w' h' => ⟨h'.1, wpAnyH_of_tree3 hsel u n _ _ _ h'.1 hB2 h'.2⟩) h.2.2)
  | .three i j k t u v, n + 1, listed, a, w, hS, hB, h => by
    simp only [OT3.fits, Bool.and_eq_true, decide_eq_true_eq] at hB; obtain ⟨⟨⟨hr, hB⟩, hB2⟩, hB3⟩ := hB; have hr' : i ∈ Region.ready .any ops listed := by rw [hr]; simp
    have hr2 : j ∈ Region.ready .any ops listed := by rw [hr]; simp
    have hr3 : k ∈ Region.ready .any ops listed := by rw [hr]; simp
    obtain ⟨_, o, ho, _⟩ := mem_ready.1 hr'; obtain ⟨_, p, hp, _⟩ := mem_ready.1 hr2; obtain ⟨_, q, hq, _⟩ := mem_ready.1 hr3; have hod : ops.toList.getD i default = o := by simp [List.getD, ho]
    have hpd : ops.toList.getD j default = p := by simp [List.getD, hp]
    have hqd : ops.toList.getD k default = q := by simp [List.getD, hq]
    simp only [OT3.ops, hod, hpd, hqd, wpOT] at h; refine wpAnyH_all (rs := [i, j, k]) hr (by simp) fun m hm => ?_; rcases (by simpa using hm : m = i ∨ m = j ∨ m = k) with rfl | rfl | rfl
    · exact wpOp_of_step ho (stepOO_mono (fun a' w' h' => ⟨h'.1, wpAnyH_of_tree3 hsel t n _ _ _ h'.1 hB h'.2⟩) h.2.1)
    · exact wpOp_of_step hp (stepOO_mono (fun a' w' h' => ⟨h'.1, wpAnyH_of_tree3 hsel u n _ _ _ h'.1 hB2 h'.2⟩) h.2.2.1)
    · exact wpOp_of_step hq (stepOO_mono (fun a' w' h' => ⟨h'.1, wpAnyH_of_tree3 hsel v n _ _ _ h'.1 hB3 h'.2⟩) h.2.2.2)
theorem wp_region_tree3 {id : Nat} {Q : Exit → Act → World → Prop} {a : Act} {w : World} {l : List Oper} (t : OT3) (hm : P.follows .mixedOrders = true)
    (hB : (Region.noSelect l.toArray && t.fits l.toArray l.length (Array.replicate l.length false)) = true) (S : World → Prop) (hS : S w.drew)
    (h : wpOT P l.toArray S (fun a w => Q .normal a w) (t.ops l) a w.drew) : (Code.region id l.toArray true).wp P Q a w := by
  simp only [Bool.and_eq_true] at hB; obtain ⟨hsel, hB⟩ := hB; have H := wpAnyH_of_tree3 (P := P) (S := S) (Q := Q) hsel t l.length (Array.replicate l.length false) a w.drew hS hB (by simpa using h); exact Code.wp_mono Norm.le (wp_region_held (S := S) hm (by simpa using H))
end
end Go.Proofs.YtepjbijhkkjbfaaGreat
