/- A region that draws its order, walked in ONE order: what gives one value in every world that meets a condition S and leaves the world alone is taken as soon as it may come up; all else must be the only one that may. No program is named. -/
import Derived.Test.YtjimamgghkgdeaaBase
import Derived.OrdersHeld
namespace Go.Proofs.Ytjimamgghkgdeaa
section
variable {P : Program} {ops : Array Oper} {S : World → Prop}

/-- the order: a number, and whether it is taken ahead (true) or forced (false) -/
def ordB (ops : Array Oper) : List (Nat × Bool) → Array Bool → Bool
  | [], listed => (Region.ready .any ops listed).isEmpty
  | (i, true) :: l, listed => (Region.ready .any ops listed).contains i && Region.free .any ops listed i && ordB ops l (listed.setIfInBounds i true)
  | (i, false) :: l, listed => decide (Region.ready .any ops listed = [i]) && ordB ops l (listed.setIfInBounds i true)

/-- the operations in that order -/
def ordOps (ops : List Oper) : List (Nat × Bool) → List (Oper × Bool)
  | [] => []
  | (i, b) :: l => (ops.getD i default, b) :: ordOps ops l

/-- one value in every world that meets S, and nothing else -/
def HeldAt (P : Program) (S : World → Prop) (o : Oper) (a : Act) (v : Value) : Prop := ∀ w, S w → (execOp a.eval o).run P w = .ok (.value v) w

def wpOrd (P : Program) (ops : Array Oper) (S : World → Prop) (Q : Act → World → Prop) : List (Oper × Bool) → Act → World → Prop
  | [], a, w => Q a w
  | (o, true) :: l, a, w => if Region.wanted o (yielded ops a.tmps) then ∃ v, HeldAt P S o a v ∧ wpOrd P ops S Q l (a.put o.dst v) w else wpOrd P ops S Q l (a.put o.dst undef) w
  | (o, false) :: l, a, w => if Region.wanted o (yielded ops a.tmps) then o.wp P a w (fun a' w' => S w' ∧ wpOrd P ops S Q l a' w') (fun _ _ _ => False) else wpOrd P ops S Q l (a.put o.dst undef) w

section
variable {Q : Act → World → Prop} {a : Act} {w : World} {l : List (Oper × Bool)} {o : Oper}
theorem wpOrd_nil (h : Q a w) : wpOrd P ops S Q [] a w := h
theorem wpOrd_held (h : ∀ K : Act → Prop, (∀ a, wpOrd P ops S Q l a w → K a) → if Region.wanted o (yielded ops a.tmps) then ∃ v, HeldAt P S o a v ∧ K (a.put o.dst v) else K (a.put o.dst undef)) : wpOrd P ops S Q ((o, true) :: l) a w :=
  h _ (fun _ h => h)
theorem wpOrd_step (h : ∀ K : Act → World → Prop, (∀ a w, S w → wpOrd P ops S Q l a w → K a w) → if Region.wanted o (yielded ops a.tmps) then o.wp P a w K (fun _ _ _ => False) else K (a.put o.dst undef) w) (hS : S w) : wpOrd P ops S Q ((o, false) :: l) a w := by
  have := h (fun a w => S w ∧ wpOrd P ops S Q l a w) (fun _ _ h1 h2 => ⟨h1, h2⟩)
  unfold wpOrd
  split
  · rename_i hw; rw [if_pos hw] at this; exact this
  · rename_i hw; rw [if_neg hw] at this; exact this.2
end

/-- only by the common end -/
def Norm (Q : Exit → Act → World → Prop) : Exit → Act → World → Prop
  | .normal, a, w => Q .normal a w
  | _, _, _ => False

theorem Oper.wp_weaken {o : Oper} {a : Act} {w : World} {K : Act → World → Prop} {Q : Exit → Act → World → Prop} (h : o.wp P a w K (fun _ _ _ => False)) : o.wp P a w K (Norm Q) := by
  unfold Oper.wp at *
  generalize (execOp a.eval o).run P w = r at *
  cases r with
  | ok n w' =>
    cases n <;> simp only [Oper.upon] at h ⊢ <;>
      first
        | exact h
        | exact Calls.mono h (fun e w'' he => by
            cases e with
            | returned v => exact he
            | panicked c => exact he.elim
            | outgrown => obtain ⟨_, _, hf⟩ := he; exact hf.elim)
        | exact Rows.mono h (fun _ _ he => he)
  | halt x w' => cases x <;> simp only [Oper.upon] at h

theorem wpAnyH_of_ord {Q : Exit → Act → World → Prop} (hsel : Region.noSelect ops = true) :
    ∀ (idx : List (Nat × Bool)) (listed : Array Bool) (a : Act) (w : World), S w → ordB ops idx listed = true →
      wpOrd P ops S (fun a w => Q .normal a w) (ordOps ops.toList idx) a w → wpAnyH P .any ops (Norm Q) S idx.length listed a w
  | [], listed, a, w, hS, hB, h => ⟨by simpa [ordB] using hB, h⟩
  | (i, true) :: idx, listed, a, w, hS, hB, h => by
    simp only [ordB, Bool.and_eq_true] at hB
    obtain ⟨⟨hr, hf⟩, hB⟩ := hB
    have hr' : i ∈ Region.ready .any ops listed := by simpa using hr
    obtain ⟨_, o, ho, _⟩ := mem_ready.1 hr'
    have hod : ops.toList.getD i default = o := by simp [List.getD, ho]
    simp only [ordOps, hod, wpOrd] at h
    by_cases hw : Region.wanted o (yielded ops a.tmps) = true
    · simp only [hw, if_true] at h
      obtain ⟨v, hv, hk⟩ := h
      exact wpAnyH_take ho hsel hf hr (fun _ _ _ h => h.elim) (.inl ⟨hw, hv⟩) hS (wpAnyH_of_ord hsel idx _ _ _ hS hB hk)
    · simp only [hw] at h
      exact wpAnyH_take (v := undef) ho hsel hf hr (fun _ _ _ h => h.elim) (.inr ⟨by simpa using hw, rfl⟩) hS (wpAnyH_of_ord hsel idx _ _ _ hS hB h)
  | (i, false) :: idx, listed, a, w, hS, hB, h => by
    simp only [ordB, Bool.and_eq_true, decide_eq_true_eq] at hB
    obtain ⟨hr, hB⟩ := hB
    have hr' : i ∈ Region.ready .any ops listed := by rw [hr]; simp
    obtain ⟨_, o, ho, _⟩ := mem_ready.1 hr'
    have hod : ops.toList.getD i default = o := by simp [List.getD, ho]
    simp only [ordOps, hod, wpOrd] at h
    refine wpAnyH_all (rs := [i]) hr (by simp) fun j hj => ?_
    obtain rfl : j = i := by simpa using hj
    unfold wpOp
    simp only [ho]
    by_cases hw : Region.wanted o (yielded ops a.tmps) = true
    · simp only [hw, if_true] at h ⊢
      refine .inl (Oper.wp_weaken (Oper.wp_mono (fun a' w' h' => ⟨h'.1, ?_⟩) h))
      exact wpAnyH_of_ord hsel idx _ _ _ h'.1 hB h'.2
    · simp only [hw] at h ⊢
      exact ⟨hS, wpAnyH_of_ord hsel idx _ _ _ hS hB h⟩

theorem Norm.le {Q : Exit → Act → World → Prop} : ∀ (e : Exit) (a : Act) (w : World), Norm Q e a w → Q e a w := fun e a w h => by
  cases e <;> first | exact h | exact (h : False).elim

/-- THE REGION -/
theorem wp_region_ord {id : Nat} {Q : Exit → Act → World → Prop} {a : Act} {w : World} {l : List Oper} (idx : List (Nat × Bool)) (hm : P.follows .mixedOrders = true)
    (hB : (Region.noSelect l.toArray && decide (idx.length = l.length) && ordB l.toArray idx (Array.replicate l.length false)) = true) (S : World → Prop) (hS : S w.drew)
    (h : wpOrd P l.toArray S (fun a w => Q .normal a w) (ordOps l idx) a w.drew) : (Code.region id l.toArray true).wp P Q a w := by
  simp only [Bool.and_eq_true, decide_eq_true_eq] at hB
  obtain ⟨⟨hsel, hl⟩, hB⟩ := hB
  have H := wpAnyH_of_ord (P := P) (S := S) (Q := Q) hsel idx (Array.replicate l.length false) a w.drew hS hB (by simpa using h)
  rw [hl] at H
  exact Code.wp_mono Norm.le (wp_region_held (S := S) hm (by simpa using H))
end
end Go.Proofs.Ytjimamgghkgdeaa
