/- A book of digests, as lists: the first input of each digest, and those whose digest another one had first. No program is named. -/
import Derived.Test.YtjimamgghkgdeaaLev
namespace Go.Proofs.Ytjimamgghkgdeaa

/-- the input under a digest -/
def findI (d : Dig) : List (Dig × Bytes) → Option Bytes
  | [] => none
  | (x, r) :: l => if x = d then some r else findI d l
theorem findI_none {d : Dig} : ∀ {I : List (Dig × Bytes)}, findI d I = none → ∀ p ∈ I, p.1 ≠ d
  | [], _, p, hp => by simp at hp
  | (x, r) :: l, h, p, hp => by
    unfold findI at h
    split at h
    · cases h
    · rename_i hx
      rcases List.mem_cons.1 hp with rfl | hp
      · exact hx
      · exact findI_none h p hp
theorem findI_some {d : Dig} {r : Bytes} : ∀ {I : List (Dig × Bytes)}, findI d I = some r → (d, r) ∈ I
  | [], h => by simp [findI] at h
  | (x, q) :: l, h => by
    unfold findI at h
    split at h
    · rename_i hx; cases h; subst hx; simp
    · exact List.mem_cons_of_mem _ (findI_some h)
theorem nodup_keys {I : List (Dig × Bytes)} (h : (I.map (·.1)).Nodup) {d : Dig} {r q : Bytes} (hr : (d, r) ∈ I) (hq : (d, q) ∈ I) : r = q := by
  induction I with
  | nil => simp at hr
  | cons p l ih =>
    simp only [List.map_cons, List.nodup_cons] at h
    rcases List.mem_cons.1 hr with e1 | h1
    · rcases List.mem_cons.1 hq with e2 | h2
      · exact (Prod.mk.inj (e1.trans e2.symm)).2
      · exact absurd (show p.1 ∈ l.map (·.1) from List.mem_map.2 ⟨(d, q), h2, by rw [← e1]⟩) h.1
    · rcases List.mem_cons.1 hq with e2 | h2
      · exact absurd (show p.1 ∈ l.map (·.1) from List.mem_map.2 ⟨(d, r), h1, by rw [← e2]⟩) h.1
      · exact ih h.2 h1 h2

/-- what a book has noted, L in the order in which it came, in its two parts -/
structure BookI (H : Bytes → Dig) (L : List Bytes) (I : List (Dig × Bytes)) (M : List Bytes) : Prop where
  dig : ∀ p ∈ I, p.1 = H p.2
  keys : (I.map (·.1)).Nodup
  mnd : M.Nodup
  more : ∀ r ∈ M, ∃ q, (H r, q) ∈ I ∧ q ≠ r
  mem : ∀ r, r ∈ L ↔ (H r, r) ∈ I ∨ r ∈ M
  nd : L.Nodup
  len : I.length + M.length = L.length

variable {H : Bytes → Dig} {L : List Bytes} {I : List (Dig × Bytes)} {M : List Bytes}
theorem BookI.nil (H : Bytes → Dig) : BookI H [] [] [] := ⟨by simp, by simp, by simp, by simp, by simp, by simp, rfl⟩

theorem BookI.first (h : BookI H L I M) {r : Bytes} (hr : findI (H r) I = none) : BookI H (noteM L r) (I ++ [(H r, r)]) M := by
  have hno := findI_none hr
  have hL : r ∉ L := fun hm => by
    rcases (h.mem r).1 hm with h1 | h1
    · exact hno _ h1 rfl
    · obtain ⟨q, hq, _⟩ := h.more r h1
      exact hno _ hq rfl
  have hn : noteM L r = L ++ [r] := by simp [noteM, hL]
  refine ⟨fun p hp => ?_, ?_, h.mnd, fun x hx => ?_, fun x => ?_, noteM_nodup r h.nd, ?_⟩
  · rcases List.mem_append.1 hp with hp | hp
    · exact h.dig p hp
    · rw [List.mem_singleton.1 hp]
  · rw [List.map_append, List.nodup_append]
    refine ⟨h.keys, by simp, ?_⟩
    rintro a ha b hb rfl
    obtain ⟨p, hp, rfl⟩ := List.mem_map.1 ha
    simp at hb
    exact hno p hp hb
  · obtain ⟨q, hq, hne⟩ := h.more x hx
    exact ⟨q, List.mem_append.2 (.inl hq), hne⟩
  · rw [mem_noteM, h.mem, List.mem_append, List.mem_singleton]
    constructor
    · rintro ((h1 | h1) | rfl)
      · exact .inl (.inl h1)
      · exact .inr h1
      · exact .inl (.inr rfl)
    · rintro ((h1 | h1) | h1)
      · exact .inl (.inl h1)
      · exact .inr (Prod.mk.inj h1).2
      · exact .inl (.inr h1)
  · rw [hn]; have := h.len; simp; omega

theorem BookI.again (h : BookI H L I M) {r : Bytes} (hr : findI (H r) I = some r) : BookI H (noteM L r) I M := by
  rw [noteM_mem ((h.mem r).2 (.inl (findI_some hr)))]
  exact h

/-- the inputs beside the first ones, where one comes -/
def moreM (M : List Bytes) (r : Bytes) : List Bytes := if r ∈ M then M else M ++ [r]
theorem BookI.other (h : BookI H L I M) {r q : Bytes} (hr : findI (H r) I = some q) (hne : q ≠ r) : BookI H (noteM L r) I (moreM M r) := by
  have hq := findI_some hr
  by_cases hM : r ∈ M
  · rw [noteM_mem ((h.mem r).2 (.inr hM)), moreM, if_pos hM]
    exact h
  · have hL : r ∉ L := fun hm => by
      rcases (h.mem r).1 hm with h1 | h1
      · exact hne (nodup_keys h.keys hq h1)
      · exact hM h1
    rw [moreM, if_neg hM]
    refine ⟨h.dig, h.keys, ?_, fun x hx => ?_, fun x => ?_, noteM_nodup r h.nd, ?_⟩
    · rw [List.nodup_append]
      exact ⟨h.mnd, by simp, by rintro a ha b hb rfl; simp at hb; subst hb; exact hM ha⟩
    · rcases List.mem_append.1 hx with hx | hx
      · exact h.more x hx
      · rw [List.mem_singleton.1 hx]; exact ⟨q, hq, hne⟩
    · rw [mem_noteM, h.mem, List.mem_append, List.mem_singleton, or_assoc]
    · have := h.len; simp [noteM, hL]; omega

/-- does the book tell of a clash? -/
def clashB (I : List (Dig × Bytes)) (M : List Bytes) : Bool := (findI dig0 I).isSome || decide (0 < M.length)
theorem BookI.inj (h : BookI H L I M) (hc : clashB I M = false) {a b : Bytes} (ha : a ∈ L) (hb : b ∈ L) (he : H a = H b) : a = b := by
  simp only [clashB, Bool.or_eq_false_iff, decide_eq_false_iff_not, Nat.not_lt, Nat.le_zero_eq, List.length_eq_zero_iff] at hc
  obtain ⟨_, rfl⟩ := hc
  have h1 := ((h.mem a).1 ha).resolve_right (by simp)
  have h2 := ((h.mem b).1 hb).resolve_right (by simp)
  rw [he] at h1
  exact nodup_keys h.keys h1 h2
theorem BookI.ne0 (h : BookI H L I M) (hc : clashB I M = false) {a : Bytes} (ha : a ∈ L) : H a ≠ dig0 := by
  intro h0
  simp only [clashB, Bool.or_eq_false_iff, decide_eq_false_iff_not, Nat.not_lt, Nat.le_zero_eq, List.length_eq_zero_iff] at hc
  obtain ⟨h1, rfl⟩ := hc
  have h2 := ((h.mem a).1 ha).resolve_right (by simp)
  cases hf : findI dig0 I with
  | some r => rw [hf] at h1; cases h1
  | none => exact findI_none hf _ h2 h0
end Go.Proofs.Ytjimamgghkgdeaa
