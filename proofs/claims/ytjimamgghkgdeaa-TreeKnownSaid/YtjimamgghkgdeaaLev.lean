/- Trees of digests, as lists: levels by fours; another leaf; roots that are the same. No program is named. -/
import Derived.Test.YtjimamgghkgdeaaBase
namespace Go.Proofs.Ytjimamgghkgdeaa

/-- bytes -/
abbrev Bytes := List UInt8

section
variable (H : Bytes → Dig)

/-- what a leaf's digest is of -/
def leafIn (r : Bytes) : Bytes := 0 :: r
/-- what a node's digest is of -/
def upIn (ds : List Dig) : Bytes := 1 :: ds.flatMap fun d => d.1
def leafM (r : Bytes) : Dig := H (leafIn r)
def upM (ds : List Dig) : Dig := H (upIn ds)
/-- the digests of a level that a node above has -/
def group (l : List Dig) (i : Nat) : List Dig := (l.drop (4 * i)).take 4
/-- how many nodes are above so many -/
def up4 (n : Nat) : Nat := (n + 3) / 4
def aboveM (l : List Dig) : List Dig := (List.range (up4 l.length)).map fun i => upM H (group l i)
def levelsM (l : List Dig) : List (List Dig) := if h : 1 < l.length then l :: levelsM (aboveM H l) else [l]
termination_by l.length
decreasing_by simp [aboveM, up4]; omega
/-- what is digested for the levels above the lowest one -/
def insM (l : List Dig) : List Bytes := if h : 1 < l.length then (List.range (up4 l.length)).map (fun i => upIn (group l i)) ++ insM (aboveM H l) else []
termination_by l.length
decreasing_by simp [aboveM, up4]; omega
/-- levels where one leaf is set -/
def setM : List (List Dig) → Nat → Dig → List (List Dig)
  | [], _, _ => []
  | [l], i, d => [l.set i d]
  | l :: l' :: ls, i, d => l.set i d :: setM (l' :: ls) (i / 4) (upM H (group (l.set i d) (i / 4)))
/-- .. and what is digested for that, ahead of the leaf -/
def setIns : List (List Dig) → Nat → Dig → List Bytes
  | [], _, _ => []
  | [_], _, _ => []
  | l :: l' :: ls, i, d => upIn (group (l.set i d) (i / 4)) :: setIns (l' :: ls) (i / 4) (upM H (group (l.set i d) (i / 4)))
/-- how many levels there are over so many leaves -/
def depthM (n : Nat) : Nat := if h : 1 < n then 1 + depthM (up4 n) else 1
termination_by n
decreasing_by simp [up4]; omega
end

variable {H : Bytes → Dig}

theorem up4_lt {n : Nat} (h : 1 < n) : up4 n < n := by unfold up4; omega
theorem up4_pos {n : Nat} (h : 0 < n) : 0 < up4 n := by unfold up4; omega
@[simp] theorem aboveM_length (l : List Dig) : (aboveM H l).length = up4 l.length := by simp [aboveM]
theorem aboveM_get (l : List Dig) (i : Nat) (h : i < (aboveM H l).length) : (aboveM H l)[i] = upM H (group l i) := by simp [aboveM]

theorem levelsM_one {l : List Dig} (h : l.length ≤ 1) : levelsM H l = [l] := by rw [levelsM]; simp; omega
theorem levelsM_more {l : List Dig} (h : 1 < l.length) : levelsM H l = l :: levelsM H (aboveM H l) := by rw [levelsM]; simp [h]
theorem insM_one {l : List Dig} (h : l.length ≤ 1) : insM H l = [] := by rw [insM]; simp; omega
theorem insM_more {l : List Dig} (h : 1 < l.length) : insM H l = (List.range (up4 l.length)).map (fun i => upIn (group l i)) ++ insM H (aboveM H l) := by rw [insM]; simp [h]
theorem levelsM_ne (l : List Dig) : levelsM H l ≠ [] := by rw [levelsM]; split <;> simp

theorem group_length (l : List Dig) (i : Nat) : (group l i).length = min 4 (l.length - 4 * i) := by simp [group]
theorem group_get (l : List Dig) (i j : Nat) (h : j < (group l i).length) : (group l i)[j] = l[4 * i + j]'(by rw [group_length] at h; omega) := by simp [group]
theorem group_set_ne {l : List Dig} {i k : Nat} {d : Dig} (h : k ≠ i / 4) : group (l.set i d) k = group l k := by
  unfold group
  apply List.ext_getElem?
  intro j
  simp only [List.getElem?_take, List.getElem?_drop, List.getElem?_set]
  by_cases hj : j < 4
  · rw [if_pos hj, if_pos hj, if_neg (by omega)]
  · rw [if_neg hj, if_neg hj]

theorem aboveM_set {l : List Dig} {i : Nat} {d : Dig} (hi : i < l.length) : aboveM H (l.set i d) = (aboveM H l).set (i / 4) (upM H (group (l.set i d) (i / 4))) := by
  apply List.ext_getElem
  · simp
  intro k h1 h2
  rw [aboveM_get, List.getElem_set]
  by_cases hk : k = i / 4
  · subst hk; simp
  · rw [if_neg (fun e => hk e.symm), aboveM_get, group_set_ne hk]

theorem levelsM_set (n : Nat) : ∀ {l : List Dig} {i : Nat} {d : Dig}, l.length = n → i < l.length → levelsM H (l.set i d) = setM H (levelsM H l) i d := by
  induction n using Nat.strongRecOn with
  | _ n ih =>
    intro l i d hn hi
    by_cases h : 1 < l.length
    · rw [levelsM_more (l := l.set i d) (by simpa using h), levelsM_more h, aboveM_set hi]
      have h2 := ih (up4 l.length) (by rw [← hn]; exact up4_lt h) (l := aboveM H l) (i := i / 4) (d := upM H (group (l.set i d) (i / 4))) (by simp) (by simp [up4]; omega)
      rw [h2]
      obtain ⟨a, r, e⟩ := List.exists_cons_of_ne_nil (levelsM_ne (H := H) (aboveM H l))
      rw [e]
      rfl
    · rw [levelsM_one (l := l.set i d) (by simp; omega), levelsM_one (by omega)]
      rfl

/-- what is digested where one leaf is set is what is digested for the new levels -/
theorem setIns_sub (n : Nat) : ∀ {l : List Dig} {i : Nat} {d : Dig}, l.length = n → i < l.length → ∀ r ∈ setIns H (levelsM H l) i d, r ∈ insM H (l.set i d) := by
  induction n using Nat.strongRecOn with
  | _ n ih =>
    intro l i d hn hi r hr
    by_cases h : 1 < l.length
    · rw [levelsM_more h] at hr
      obtain ⟨a, q, e⟩ := List.exists_cons_of_ne_nil (levelsM_ne (H := H) (aboveM H l))
      rw [insM_more (by simpa using h)]
      rw [e] at hr
      simp only [setIns, List.mem_cons] at hr
      rcases hr with rfl | hr
      · refine List.mem_append.2 (.inl (List.mem_map.2 ⟨i / 4, ?_, rfl⟩))
        simp [up4]; omega
      · refine List.mem_append.2 (.inr ?_)
        rw [aboveM_set hi]
        refine ih (up4 l.length) (by rw [← hn]; exact up4_lt h) (by simp) (by simp [up4]; omega) r ?_
        rw [e]; exact hr
    · rw [levelsM_one (by omega)] at hr
      simp [setIns] at hr
/-- .. and the other way round, but for what was digested for the old ones -/
theorem insM_set (n : Nat) : ∀ {l : List Dig} {i : Nat} {d : Dig}, l.length = n → i < l.length → ∀ r ∈ insM H (l.set i d), r ∈ setIns H (levelsM H l) i d ∨ r ∈ insM H l := by
  induction n using Nat.strongRecOn with
  | _ n ih =>
    intro l i d hn hi r hr
    by_cases h : 1 < l.length
    · rw [insM_more (by simpa using h)] at hr
      rw [levelsM_more h, insM_more h]
      obtain ⟨a, q, e⟩ := List.exists_cons_of_ne_nil (levelsM_ne (H := H) (aboveM H l))
      rcases List.mem_append.1 hr with hr | hr
      · obtain ⟨k, hk, rfl⟩ := List.mem_map.1 hr
        by_cases hki : k = i / 4
        · subst hki
          left; rw [e]; simp [setIns]
        · right
          rw [group_set_ne hki]
          exact List.mem_append.2 (.inl (List.mem_map.2 ⟨k, by simpa using hk, rfl⟩))
      · rw [aboveM_set hi] at hr
        rcases ih (up4 l.length) (by rw [← hn]; exact up4_lt h) (by simp) (by simp [up4]; omega) r hr with h2 | h2
        · left
          rw [e] at h2 ⊢
          simp only [setIns, List.mem_cons]
          exact .inr h2
        · exact .inr (List.mem_append.2 (.inr h2))
    · rw [insM_one (by simp; omega)] at hr
      simp at hr

/-! ### the last level, depths -/
theorem levelsM_depth (n : Nat) : ∀ {l : List Dig}, l.length = n → (levelsM H l).length = depthM n := by
  induction n using Nat.strongRecOn with
  | _ n ih =>
    intro l hn
    by_cases h : 1 < n
    · rw [levelsM_more (by omega), depthM, dif_pos h, List.length_cons, ih (up4 n) (up4_lt h) (by simp [hn])]; omega
    · rw [levelsM_one (by omega), depthM, dif_neg h]; rfl
theorem levelsM_last (n : Nat) : ∀ {l : List Dig}, l.length = n → 0 < n → ∃ r, (levelsM H l).getLast? = some [r] := by
  induction n using Nat.strongRecOn with
  | _ n ih =>
    intro l hn h0
    by_cases h : 1 < n
    · obtain ⟨r, hr⟩ := ih (up4 n) (up4_lt h) (l := aboveM H l) (by simp [hn]) (up4_pos h0)
      refine ⟨r, ?_⟩
      rw [levelsM_more (by omega)]
      obtain ⟨a, q, e⟩ := List.exists_cons_of_ne_nil (levelsM_ne (H := H) (aboveM H l))
      rw [e] at hr ⊢
      simpa using hr
    · rw [levelsM_one (by omega)]
      match l, hn with
      | [r], _ => exact ⟨r, rfl⟩
      | [], hn => simp at hn; omega
      | _ :: _ :: _, hn => simp at hn; omega
/-- the root -/
def rootM (H : Bytes → Dig) (l : List Dig) : Dig := (((levelsM H l).getLast?.getD []).head?).getD dig0
theorem rootM_last {l : List Dig} (h : l ≠ []) : (levelsM H l).getLast? = some [rootM H l] := by
  obtain ⟨r, hr⟩ := levelsM_last (H := H) l.length rfl (List.length_pos_iff.2 h)
  simp [rootM, hr]
theorem rootM_more {l : List Dig} (h : 1 < l.length) : rootM H l = rootM H (aboveM H l) := by
  obtain ⟨a, q, e⟩ := List.exists_cons_of_ne_nil (levelsM_ne (H := H) (aboveM H l))
  rw [rootM, levelsM_more h, rootM, e]
  simp
theorem rootM_one (d : Dig) : rootM H [d] = d := by rw [rootM, levelsM_one (by simp)]; rfl

/-- level n + 1 is made of level n -/
theorem levelsM_next : ∀ (n : Nat) (l : List Dig) (m : Nat) (a b : List Dig), l.length = n → (levelsM H l)[m]? = some a → (levelsM H l)[m + 1]? = some b → b = aboveM H a := by
  intro n
  induction n using Nat.strongRecOn with
  | _ n ih =>
    intro l m a b hn ha hb
    by_cases h : 1 < l.length
    · rw [levelsM_more h] at ha hb
      cases m with
      | zero =>
        simp at ha hb
        subst ha
        by_cases h2 : 1 < (aboveM H l).length
        · rw [levelsM_more h2] at hb; simpa using hb.symm
        · rw [levelsM_one (by omega)] at hb; simpa using hb.symm
      | succ m =>
        simp only [List.getElem?_cons_succ] at ha hb
        exact ih _ (by rw [← hn]; exact up4_lt h) (aboveM H l) m a b (by simp) ha hb
    · rw [levelsM_one (by omega)] at hb
      simp at hb

/-! ### the same inputs have the same parts -/
theorem flat_inj : ∀ {a b : List Dig}, a.flatMap (fun d => d.1) = b.flatMap (fun d => d.1) → a = b
  | [], [], _ => rfl
  | [], e :: b, h => by
    have := congrArg List.length h
    rw [List.flatMap_cons, List.length_append, e.2] at this
    simp at this
    omega
  | d :: a, [], h => by
    have := congrArg List.length h
    rw [List.flatMap_cons, List.length_append, d.2] at this
    simp at this
  | d :: a, e :: b, h => by
    simp only [List.flatMap_cons] at h
    have h2 := List.append_inj h (by rw [d.2, e.2])
    rw [Subtype.ext h2.1, flat_inj h2.2]
theorem upIn_inj {a b : List Dig} (h : upIn a = upIn b) : a = b := flat_inj (List.cons.inj h).2
theorem leafIn_inj {a b : Bytes} (h : leafIn a = leafIn b) : a = b := (List.cons.inj h).2
theorem leafIn_upIn (r : Bytes) (ds : List Dig) : leafIn r ≠ upIn ds := by
  intro h
  have := (List.cons.inj h).1
  exact absurd this (by decide)

theorem group_all {l l' : List Dig} (hl : l.length = l'.length) (h : ∀ i, i < up4 l.length → group l i = group l' i) : l = l' := by
  apply List.ext_getElem hl
  intro k h1 h2
  have hg := h (k / 4) (by unfold up4; omega)
  have a1 : k % 4 < (group l (k / 4)).length := by rw [group_length]; omega
  have a2 : k % 4 < (group l' (k / 4)).length := by rw [group_length]; omega
  have e1 := group_get l (k / 4) (k % 4) a1
  have e2 := group_get l' (k / 4) (k % 4) a2
  have hk : 4 * (k / 4) + k % 4 = k := by omega
  simp only [hk] at e1 e2
  rw [← e1, ← e2]
  simp only [hg]

/-- where unlike inputs have unlike digests, trees of as many leaves with the same root have the same leaves -/
theorem rootM_inj (n : Nat) : ∀ {l l' : List Dig}, l.length = n → l'.length = n → 0 < n → (∀ a ∈ insM H l, ∀ b ∈ insM H l', H a = H b → a = b) → rootM H l = rootM H l' → l = l' := by
  induction n using Nat.strongRecOn with
  | _ n ih =>
    intro l l' hn hn' h0 hinj hr
    by_cases h : 1 < n
    · rw [rootM_more (by omega), rootM_more (l := l') (by omega)] at hr
      rw [insM_more (by omega), insM_more (l := l') (by omega)] at hinj
      have h2 := ih (up4 n) (up4_lt h) (l := aboveM H l) (l' := aboveM H l') (by simp [hn]) (by simp [hn']) (up4_pos h0)
        (fun a ha b hb => hinj a (List.mem_append.2 (.inr ha)) b (List.mem_append.2 (.inr hb))) hr
      refine group_all (by rw [hn, hn']) fun i hi => upIn_inj (hinj _ (List.mem_append.2 (.inl (List.mem_map.2 ⟨i, by simpa using hi, rfl⟩))) _ (List.mem_append.2 (.inl (List.mem_map.2 ⟨i, by rw [hn'] ; rw [hn] at hi; simpa using hi, rfl⟩))) ?_)
      have g1 := aboveM_get (H := H) l i (by simpa using hi)
      have g2 := aboveM_get (H := H) l' i (by simp [hn']; rwa [hn] at hi)
      have : upM H (group l i) = upM H (group l' i) := by rw [← g1, ← g2]; simp only [h2]
      exact this
    · match l, l', hn, hn' with
      | [a], [b], _, _ => rw [rootM_one, rootM_one] at hr; rw [hr]
      | [], _, hn, _ => simp at hn; omega
      | [_], [], _, hn' => simp at hn'; omega
      | [_], _ :: _ :: _, _, hn' => simp at hn'; omega
      | _ :: _ :: _, _, hn, _ => simp at hn; omega

/-! ### what a book has noted -/
def noteM (L : List Bytes) (r : Bytes) : List Bytes := if r ∈ L then L else L ++ [r]
def notesM (L : List Bytes) (l : List Bytes) : List Bytes := l.foldl noteM L
theorem mem_noteM {L : List Bytes} {r x : Bytes} : x ∈ noteM L r ↔ x ∈ L ∨ x = r := by
  unfold noteM
  split
  · rename_i h
    constructor
    · exact .inl
    · rintro (h2 | rfl)
      · exact h2
      · exact h
  · simp
theorem mem_notesM {l : List Bytes} : ∀ {L : List Bytes} {x : Bytes}, x ∈ notesM L l ↔ x ∈ L ∨ x ∈ l := by
  induction l with
  | nil => intro L x; simp [notesM]
  | cons r l ih =>
    intro L x
    rw [notesM, List.foldl_cons, ← notesM, ih, mem_noteM]
    simp [or_assoc]
theorem noteM_nodup {L : List Bytes} (r : Bytes) (h : L.Nodup) : (noteM L r).Nodup := by
  unfold noteM
  split
  · exact h
  · rename_i hr
    rw [List.nodup_append]
    exact ⟨h, by simp, by rintro a ha b hb rfl; simp at hb; subst hb; exact hr ha⟩
theorem notesM_nodup {l : List Bytes} : ∀ {L : List Bytes}, L.Nodup → (notesM L l).Nodup := by
  induction l with
  | nil => intro L h; exact h
  | cons r l ih => intro L h; exact ih (noteM_nodup r h)
theorem notesM_append (L a b : List Bytes) : notesM L (a ++ b) = notesM (notesM L a) b := by simp [notesM]
theorem notesM_cons (L : List Bytes) (r : Bytes) (l : List Bytes) : notesM L (r :: l) = notesM (noteM L r) l := rfl
theorem noteM_mem {L : List Bytes} {r : Bytes} (h : r ∈ L) : noteM L r = L := by simp [noteM, h]
theorem notesM_mem {l : List Bytes} : ∀ {L : List Bytes}, (∀ r ∈ l, r ∈ L) → notesM L l = L := by
  induction l with
  | nil => intro L _; rfl
  | cons r l ih =>
    intro L h
    rw [notesM_cons, noteM_mem (h r (by simp))]
    exact ih fun x hx => h x (by simp [hx])
end Go.Proofs.Ytjimamgghkgdeaa
