/- tree: one digest turned in its place. -/
import Derived.Test.YtjimamgghkgdeaaTreeK
namespace Go.Proofs.Ytjimamgghkgdeaa
open Go.RowKit

theorem rowsOf_set {α : Type} {f : α → Array Value} {n : Nat} (hf : ∀ x, (f x).size = n) (hn : 0 < n) (l : List α) (k : Nat) (x : α) (hk : k < l.length) : rowsOf f (l.set k x) = splice (rowsOf f l) (k * n) (f x).toList := by
  have hlen : k * n + n ≤ l.length * n := by rw [← Nat.succ_mul]; exact Nat.mul_le_mul_right n hk
  apply List.ext_getElem?
  intro j
  rw [splice_get _ _ _ _ (by rw [rowsOf_length hf, Array.length_toList, hf]; exact hlen), Array.length_toList, hf]
  by_cases hj : j < l.length * n
  · have hq : j / n < l.length := Nat.div_lt_of_lt_mul (by rwa [Nat.mul_comm] at hj)
    have hjm : j = (j / n) * n + j % n := by rw [Nat.mul_comm]; exact (Nat.div_add_mod j n).symm
    have hmod : j % n < n := Nat.mod_lt _ hn
    by_cases hkq : j / n = k
    · have hin : k * n ≤ j ∧ j < k * n + n := by rw [hkq] at hjm; omega
      rw [if_pos hin]
      have h1 := rowsOf_get hf (l.set k x) k (j - k * n) (by simpa using hk) (by omega)
      rw [show k * n + (j - k * n) = j by omega] at h1
      rw [h1]
      simp
    · have hout : ¬ (k * n ≤ j ∧ j < k * n + n) := by
        rintro ⟨h1, h2⟩
        apply hkq
        exact Nat.div_eq_of_lt_le h1 (by rw [Nat.succ_mul]; exact h2)
      rw [if_neg hout]
      have h1 := rowsOf_get hf (l.set k x) (j / n) (j % n) (by simpa using hq) hmod
      have h2 := rowsOf_get hf l (j / n) (j % n) hq hmod
      rw [← hjm] at h1 h2
      rw [h1, h2, List.getElem_set_ne (fun e => hkq e.symm)]
  · rw [if_neg (by omega), List.getElem?_eq_none (by rw [rowsOf_length hf, List.length_set]; omega), List.getElem?_eq_none (by rw [rowsOf_length hf]; omega)]

theorem OwnRows.turn {α : Type} {f : α → Array Value} {n t B : Nat} {W : World} {v : Value} {l : List α} (hf : ∀ x, (f x).size = n) (hn : 0 < n) (h : OwnRows f n W B t v l) {k : Nat} (hk : k < l.length) (x : α) :
    ∃ g cur, v.ownBlock = some g ∧ Blk W g t cur ∧ k * n + n ≤ cur.length ∧ OwnRows f n (W.setRow g (splice cur (k * n) (f x).toList).toArray) B t v (l.set k x) := by
  have hlen : k * n + n ≤ l.length * n := by rw [← Nat.succ_mul]; exact Nat.mul_le_mul_right n hk
  rcases h.2 with ⟨_, h0⟩ | ⟨g, cap, cur, rfl, hb, hg, h1, h2, h3, h4⟩
  · omega
  · have hcap : l.length * n ≤ cap * n := Nat.mul_le_mul_right n h1
    refine ⟨g, cur.toList, rfl, hg, by rw [Array.length_toList, h3]; omega, by rw [List.length_set, rowsOf_length hf, List.length_set], .inr ⟨g, cap, (splice cur.toList (k * n) (f x).toList).toArray, by rw [List.length_set], hb, setRow_heap W g cur _ t _ hg, by rw [List.length_set]; exact h1, h2, ?_, ?_⟩⟩
    · simp only [splice, List.size_toArray, List.length_append, List.length_take, List.length_drop, Array.length_toList, hf, h3]; omega
    · rw [rowsOf_set hf hn l k x hk, ← h4, List.length_set]
      apply List.ext_getElem?
      intro j
      have hfx : (f x).toList.length = n := by rw [Array.length_toList, hf]
      have ht : (List.take (l.length * n) cur.toList).length = l.length * n := by rw [List.length_take, show cur.toList.length = cap * n from by rw [Array.length_toList, h3]]; omega
      rw [splice_get _ _ _ _ (by rw [ht, hfx]; exact hlen)]
      by_cases hj : j < l.length * n
      · rw [List.getElem?_take_of_lt hj, List.getElem?_take_of_lt hj]
        show (splice cur.toList (k * n) (f x).toList)[j]? = _
        rw [splice_get _ _ _ _ (by rw [hfx, show cur.toList.length = cap * n from by rw [Array.length_toList, h3]]; omega)]
      · rw [List.getElem?_eq_none (by rw [List.length_take]; omega), if_neg (by rw [hfx]; omega), List.getElem?_eq_none (by rw [ht]; omega)]

theorem TreeI.turn {W : World} {lo hi t b n : Nat} {ls : List (List Dig)} {fv v : Value} {xs : List SlC} (h : TreeI W lo hi t b n ls fv v xs) {k : Nat} {l : List Dig} (hk : ls[k]? = some l) {g2 c2 : Nat} (hx : k < xs.length) (hxk : xs[k] = ⟨some ⟨g2, 0, none⟩, l.length, c2⟩)
    {i : Nat} (hi' : i < l.length) (d : Dig) :
    ∃ cur, Blk W g2 40 cur ∧ i * 32 + 32 ≤ cur.length ∧ TreeI (W.setRow g2 (splice cur (i * 32) (dA d).toList).toArray) lo hi t b n (ls.set k (l.set i d)) fv v xs := by
  obtain ⟨hk1, rfl⟩ := List.getElem?_eq_some_iff.1 hk
  obtain ⟨ho, hne⟩ := h.lev.row k hx hk1
  obtain ⟨g, cur, hg, hb, hc, ho2⟩ := OwnRows.turn dA_size (by omega) ho hi' d
  have hg' : xs[k].v.ownBlock = some g2 := by rw [hxk]; rfl
  rw [hg] at hg'
  obtain rfl : g = g2 := by simpa using hg'
  have hu : Upd (fun k => k = g) W (W.setRow g (splice cur (i * 32) (dA d).toList).toArray) := (Upd.refl _ W).setRow _ _ fun _ => rfl
  have hobt : ∀ j t' vs, Blk W j t' vs → t' ≠ 40 → ¬ j = g := fun j t' vs hj ht e => by subst e; exact ht (Blk.ty hj hb)
  refine ⟨cur, hb, hc, h.blk.upd hu (hobt _ _ _ h.blk (by decide)), OwnRows.upd h.all hu (fun j e => ?_), ⟨by rw [List.length_set]; exact h.lev.len, fun j hj hj' => ?_, h.lev.apart⟩, h.vhi, h.xhi, h.tlo, h.thi, Nat.le_trans h.sz hu.size, h.n1, h.n2⟩
  · obtain ⟨cu, hc⟩ := own_cells h.all e
    exact hobt j _ cu.toList (by unfold Blk; simpa using hc) (by decide)
  · by_cases hjk : j = k
    · subst hjk
      rw [List.getElem_set_self]
      exact ⟨ho2, by intro h0; have := congrArg List.length h0; simp at this; exact hne this⟩
    · rw [List.getElem_set_ne (fun e => hjk e.symm)]
      obtain ⟨h1, h2⟩ := h.lev.row j hj (by rwa [List.length_set] at hj')
      exact ⟨OwnRows.upd h1 hu (fun i hi e => h.lev.apart j k hj hx hjk (by rw [hi, hg, show i = g from e])), h2⟩

theorem setM_more {l : List Dig} (h : 1 < l.length) (i : Nat) (d : Dig) : setM shaM (levelsM shaM l) i d = l.set i d :: setM shaM (levelsM shaM (aboveM shaM l)) (i / 4) (upM shaM (group (l.set i d) (i / 4))) := by
  rw [levelsM_more h]
  cases hx : levelsM shaM (aboveM shaM l) with
  | nil => exact absurd hx (levelsM_ne _)
  | cons a l2 => rfl
theorem setIns_more {l : List Dig} (h : 1 < l.length) (i : Nat) (d : Dig) : setIns shaM (levelsM shaM l) i d = upIn (group (l.set i d) (i / 4)) :: setIns shaM (levelsM shaM (aboveM shaM l)) (i / 4) (upM shaM (group (l.set i d) (i / 4))) := by
  rw [levelsM_more h]
  cases hx : levelsM shaM (aboveM shaM l) with
  | nil => exact absurd hx (levelsM_ne _)
  | cons a l2 => rfl
end Go.Proofs.Ytjimamgghkgdeaa
