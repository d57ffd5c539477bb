import Derived.Test.YtepjbijhkkjbfaaGreatSetZn
import Derived.Test.YtepjbijhkkjbfaaGreatSetZg
import Derived.Test.YtepjbijhkkjbfaaGreatSetZh
set_option linter.unusedVariables false
set_option linter.unusedSimpArgs false
namespace Go.Proofs.YtepjbijhkkjbfaaGreat
def digAt (D : List Dig) (l p : Nat) : Dig := ((levelsM shaM D).getD l []).getD p dig0
theorem oldAt_eq (hs : List Bytes) (l p : Nat) : oldAt hs l p = digAt (hs.map (leafM shaM)) l p := rfl
theorem digAt_leaf {D : List Dig} {p : Nat} (h : p < D.length) : digAt D 0 p = D[p] := by
  obtain ⟨tl, h1, _⟩ := levelsM_head D; unfold digAt; rw [h1]; simp [h]
theorem digAt_more {D : List Dig} (h : 1 < D.length) (l p : Nat) : digAt D (l + 1) p = digAt (aboveM shaM D) l p := by
  unfold digAt; rw [levelsM_more h]
  rfl
theorem depth_gt {n l : Nat} (h : l + 1 < depthM n) : 1 < n := by
  rcases Nat.lt_or_ge 1 n with h1 | h1
  · exact h1
  · rw [depthM, dif_neg (by omega)] at h; omega
theorem kidsM_up (n l p : Nat) : kidsM (up4 n) l p = kidsM n (l + 1) p := by
  unfold kidsM; rw [sizeL_up]
theorem kidsM_pos {n l p : Nat} (h : p < sizeL n (l + 1)) : 1 ≤ kidsM n l p ∧ kidsM n l p ≤ 4 ∧ ∀ j, j < kidsM n l p → 4 * p + j < sizeL n l := by
  have h1 : p < up4 (sizeL n l) := h; unfold up4 at h1; unfold kidsM; refine ⟨by omega, by omega, fun j hj => by omega⟩
def kidsD (D : List Dig) (l p : Nat) : List Dig := (List.range (kidsM D.length l p)).map fun j => digAt D l (4 * p + j)
theorem kidsD_length (D : List Dig) (l p : Nat) : (kidsD D l p).length = kidsM D.length l p := by simp [kidsD]
theorem kidsD_get {D : List Dig} {l p j : Nat} (h : j < kidsM D.length l p) : (kidsD D l p).getD j dig0 = digAt D l (4 * p + j) := by
  simp [kidsD, h]
theorem kidsD_more {D : List Dig} (h : 1 < D.length) (l p : Nat) : kidsD D (l + 1) p = kidsD (aboveM shaM D) l p := by
  unfold kidsD; rw [aboveM_length, kidsM_up]; simp only [digAt_more h]
theorem group_kids {D x : List Dig} {l p : Nat} (hx : (levelsM shaM D)[l]? = some x) (hl : l < depthM D.length) : group x p = kidsD D l p := by
  obtain ⟨y, h1, h2, h3⟩ := lev_get hl; rw [hx] at h1; obtain rfl : x = y := Option.some.inj h1; apply List.ext_getElem
  · rw [group_length, kidsD_length, h3]; rfl
  · intro j hj hj2
    rw [group_length] at hj; rw [group_get _ _ _ (by rw [group_length]; exact hj)]; simp only [kidsD, List.getElem_map, List.getElem_range, digAt, h2]; rw [List.getD_eq_getElem?_getD, List.getElem?_eq_getElem (by omega)]
    rfl
theorem digAt_up : ∀ (l : Nat) {D : List Dig} {p : Nat}, l + 1 < depthM D.length → p < sizeL D.length (l + 1) → digAt D (l + 1) p = upM shaM (kidsD D l p)
  | 0, D, p, hl, hp => by
    have h1 := depth_gt hl; have hx : (levelsM shaM D)[0]? = some D := by obtain ⟨tl, e, _⟩ := levelsM_head D; rw [e]; rfl
    have h2 : p < (aboveM shaM D).length := by rw [aboveM_length]; exact hp
    rw [digAt_more h1, digAt_leaf h2, aboveM_get _ _ h2, group_kids hx (by omega)]
  | l + 1, D, p, hl, hp => by
    have h1 := depth_gt hl; rw [depthM_more h1] at hl; rw [digAt_more h1, kidsD_more h1]; exact digAt_up l (by rw [aboveM_length]; omega) (by rw [aboveM_length, sizeL_up]; exact hp)
theorem ins_kids : ∀ (l : Nat) {D : List Dig} {p : Nat}, l + 1 < depthM D.length → p < sizeL D.length (l + 1) → upIn (kidsD D l p) ∈ insM shaM D
  | 0, D, p, hl, hp => by
    have h1 := depth_gt hl; have hx : (levelsM shaM D)[0]? = some D := by obtain ⟨tl, e, _⟩ := levelsM_head D; rw [e]; rfl
    rw [insM_more h1, ← group_kids hx (by omega)]; exact List.mem_append_left _ (List.mem_map.2 ⟨p, List.mem_range.2 hp, rfl⟩)
  | l + 1, D, p, hl, hp => by
    have h1 := depth_gt hl; rw [depthM_more h1] at hl; rw [insM_more h1, kidsD_more h1]; exact List.mem_append_right _ (ins_kids l (by rw [aboveM_length]; omega) (by rw [aboveM_length, sizeL_up]; exact hp))
theorem depth_size : ∀ {n : Nat}, 1 ≤ n → sizeL n (depthM n - 1) = 1 := by
  intro n
  induction n using Nat.strongRecOn with
  | ind n ih =>
  intro h; rcases Nat.lt_or_ge 1 n with h1 | h1
  · have h2 := ih (up4 n) (up4_lt' h1) (up4_pos' h)
    have h3 := depthM_pos (up4 n); rw [depthM_more h1, show 1 + depthM (up4 n) - 1 = (depthM (up4 n) - 1) + 1 by omega, ← sizeL_up]; exact h2
  · have h2 : n = 1 := by omega
    subst h2; rw [depthM_one]; rfl
theorem digAt_root {D : List Dig} (h : D ≠ []) : digAt D (depthM D.length - 1) 0 = rootM shaM D := by
  have h1 := rootM_last (H := shaM) h; rw [List.getLast?_eq_getElem?, levelsM_depth _ rfl] at h1; have h2 : (levelsM shaM D).getD (depthM D.length - 1) [] = [rootM shaM D] := by rw [List.getD_eq_getElem?_getD, h1]; rfl
  unfold digAt; rw [h2]
  rfl
def below (n l p l' p' : Nat) : Prop := l' ≤ l ∧ p' / 4 ^ (l - l') = p ∧ p' < sizeL n l'
instance (n l p l' p' : Nat) : Decidable (below n l p l' p') := by unfold below; infer_instance
theorem div4 (p k : Nat) : p / 4 ^ (k + 1) = p / 4 ^ k / 4 := by rw [Nat.pow_succ, Nat.div_div_eq_div_mul]
theorem up_in (n : Nat) : ∀ (k l' p' : Nat), p' < sizeL n l' → p' / 4 ^ k < sizeL n (l' + k)
  | 0, l', p', h => by simpa using h
  | k + 1, l', p', h => by
    rw [div4]; have := up_in n k l' p' h; show _ < up4 (sizeL n (l' + k)); exact place_up this
theorem below_in {n l p l' p' : Nat} (h : below n l p l' p') : p < sizeL n l := by
  obtain ⟨h1, h2, h3⟩ := h; have := up_in n (l - l') l' p' h3; rw [show l' + (l - l') = l by omega, h2] at this; exact this
theorem below_self {n l p : Nat} (h : p < sizeL n l) : below n l p l p := ⟨Nat.le_refl _, by simp, h⟩
theorem below_top {n l p p' : Nat} : below n l p l p' ↔ p' = p ∧ p < sizeL n l := by
  unfold below; simp only [Nat.le_refl, Nat.sub_self, Nat.pow_zero, Nat.div_one, true_and]; constructor
  · rintro ⟨rfl, h⟩; exact ⟨rfl, h⟩
  · rintro ⟨rfl, h⟩; exact ⟨rfl, h⟩
theorem below_kid {n l p l' p' : Nat} (hl : l' ≤ l) : below n (l + 1) p l' p' ↔ ∃ j, j < kidsM n l p ∧ below n l (4 * p + j) l' p' := by
  constructor
  · rintro ⟨_, h2, h3⟩
    have h4 := up_in n (l - l') l' p' h3; rw [show l' + (l - l') = l by omega] at h4; rw [show l + 1 - l' = (l - l') + 1 by omega, div4] at h2; refine ⟨p' / 4 ^ (l - l') - 4 * p, ?_, hl, by omega, h3⟩; unfold kidsM; omega
  · rintro ⟨j, hj, _, h2, h3⟩
    refine ⟨by omega, ?_, h3⟩; rw [show l + 1 - l' = (l - l') + 1 by omega, div4, h2]; unfold kidsM at hj; omega
theorem below_down {n l p l' p' j : Nat} (hl : l' + 1 ≤ l) (hj : j < kidsM n l' p') (hp : p' < sizeL n (l' + 1)) : below n l p l' (4 * p' + j) ↔ below n l p (l' + 1) p' := by
  have h4 : (4 * p' + j) / 4 = p' := by have := (kidsM_pos hp).2.1; omega
  have h5 := (kidsM_pos hp).2.2 j hj; have h6 : ∀ k, (4 * p' + j) / 4 ^ (k + 1) = p' / 4 ^ k := fun k => by rw [Nat.pow_succ', ← Nat.div_div_eq_div_mul, h4]
  unfold below; rw [show l - l' = (l - (l' + 1)) + 1 by omega, h6]; constructor
  · rintro ⟨_, h2, _⟩; exact ⟨hl, h2, hp⟩
  · rintro ⟨_, h2, _⟩; exact ⟨by omega, h2, h5⟩
theorem learn_hit (n : Nat) (hs : List Bytes) : ∀ (l p : Nat) (s : KM × BM), p < sizeL n l →
    (∀ l' p', (learnM n (some hs) l p (oldAt hs l p) s).1 l' p' = if below n l p l' p' then some (oldAt hs l' p') else s.1 l' p') ∧
    (∀ p', (learnM n (some hs) l p (oldAt hs l p) s).2 p' = if below n l p 0 p' then some (hs.getD p' []) else s.2 p')
  | 0, p, s, hp => by
    rw [learnM_leaf rfl]; constructor
    · intro l' p'
      show putK s.1 0 p (oldAt hs 0 p) l' p' = _; unfold putK
      by_cases h : l' = 0 ∧ p' = p
      · obtain ⟨rfl, rfl⟩ := h
        rw [if_pos ⟨rfl, rfl⟩, if_pos (below_self hp)]
      · rw [if_neg h, if_neg (fun hb => h (by
          have h1 : l' = 0 := by have := hb.1; omega
          subst h1; exact ⟨rfl, (below_top.1 hb).1⟩))]
    · intro p'
      show putM s.2 p (hs.getD p []) p' = _; unfold putM
      by_cases h : p' = p
      · subst h; rw [if_pos rfl, if_pos (below_self hp)]
      · rw [if_neg h, if_neg (fun hb => h (below_top.1 hb).1)]
  | l + 1, p, s, hp => by
    rw [learnM_node rfl]; have hk := (kidsM_pos hp).2.2; have fold : ∀ (t : KM × BM) (k : Nat), k ≤ kidsM n l p →
        (∀ l' p', (kidsFold n hs l p k t).1 l' p' = if ∃ j, j < k ∧ below n l (4 * p + j) l' p' then some (oldAt hs l' p') else t.1 l' p') ∧
        (∀ p', (kidsFold n hs l p k t).2 p' = if ∃ j, j < k ∧ below n l (4 * p + j) 0 p' then some (hs.getD p' []) else t.2 p') := by
      intro t k
      induction k with
      | zero => intro _; exact ⟨fun l' p' => by rw [if_neg (by rintro ⟨j, hj, _⟩; omega)]; rfl, fun p' => by rw [if_neg (by rintro ⟨j, hj, _⟩; omega)]; rfl⟩
      | succ k ih =>
        intro hk2; obtain ⟨i1, i2⟩ := ih (by omega); obtain ⟨l1, l2⟩ := learn_hit n hs l (4 * p + k) (kidsFold n hs l p k t) (hk k (by omega)); rw [kidsFold_succ]; have hex : ∀ l' p', (∃ j, j < k + 1 ∧ below n l (4 * p + j) l' p') ↔ below n l (4 * p + k) l' p' ∨ ∃ j, j < k ∧ below n l (4 * p + j) l' p' := fun l' p' => by
          constructor
          · rintro ⟨j, hj, hb⟩
            rcases Nat.lt_succ_iff_lt_or_eq.1 hj with h1 | h1
            · exact .inr ⟨j, h1, hb⟩
            · subst h1; exact .inl hb
          · rintro (hb | ⟨j, hj, hb⟩)
            · exact ⟨k, by omega, hb⟩
            · exact ⟨j, by omega, hb⟩
        constructor
        · intro l' p'
          rw [l1, i1]
          by_cases h1 : below n l (4 * p + k) l' p'
          · rw [if_pos h1, if_pos ((hex _ _).2 (.inl h1))]
          · rw [if_neg h1]
            by_cases h2 : ∃ j, j < k ∧ below n l (4 * p + j) l' p'
            · rw [if_pos h2, if_pos ((hex _ _).2 (.inr h2))]
            · rw [if_neg h2, if_neg (fun h => ((hex _ _).1 h).elim h1 h2)]
        · intro p'
          rw [l2, i2]
          by_cases h1 : below n l (4 * p + k) 0 p'
          · rw [if_pos h1, if_pos ((hex _ _).2 (.inl h1))]
          · rw [if_neg h1]
            by_cases h2 : ∃ j, j < k ∧ below n l (4 * p + j) 0 p'
            · rw [if_pos h2, if_pos ((hex _ _).2 (.inr h2))]
            · rw [if_neg h2, if_neg (fun h => ((hex _ _).1 h).elim h1 h2)]
    obtain ⟨f1, f2⟩ := fold (putK s.1 (l + 1) p (oldAt hs (l + 1) p), s.2) (kidsM n l p) (Nat.le_refl _); constructor
    · intro l' p'
      rw [f1]
      by_cases hl : l' ≤ l
      · by_cases h1 : below n (l + 1) p l' p'
        · rw [if_pos h1, if_pos ((below_kid hl).1 h1)]
        · rw [if_neg h1, if_neg (fun h => h1 ((below_kid hl).2 h))]
          show putK s.1 (l + 1) p _ l' p' = _; unfold putK; rw [if_neg (by omega)]
      · rw [if_neg (by rintro ⟨j, _, hb⟩; exact hl hb.1)]
        show putK s.1 (l + 1) p _ l' p' = _; unfold putK
        by_cases h1 : l' = l + 1 ∧ p' = p
        · obtain ⟨rfl, rfl⟩ := h1
          rw [if_pos ⟨rfl, rfl⟩, if_pos (below_self hp)]
        · rw [if_neg h1, if_neg (fun hb => h1 (by
            have h2 : l' = l + 1 := by have := hb.1; omega
            subst h2; exact ⟨rfl, (below_top.1 hb).1⟩))]
    · intro p'
      rw [f2]
      by_cases h1 : below n (l + 1) p 0 p'
      · rw [if_pos h1, if_pos ((below_kid (Nat.zero_le _)).1 h1)]
      · rw [if_neg h1, if_neg (fun h => h1 ((below_kid (Nat.zero_le _)).2 h))]
theorem learn_cases (n : Nat) (O : Option (List Bytes)) (l p : Nat) (d : Dig) (s : KM × BM) (hp : p < sizeL n l) :
    (learnM n O l p d s = (putK s.1 l p d, s.2) ∧ ∀ hs, O = some hs → oldAt hs l p ≠ d) ∨
    ∃ hs, O = some hs ∧ oldAt hs l p = d ∧ (∀ l' p', (learnM n O l p d s).1 l' p' = if below n l p l' p' then some (oldAt hs l' p') else s.1 l' p') ∧
      ∀ p', (learnM n O l p d s).2 p' = if below n l p 0 p' then some (hs.getD p' []) else s.2 p' := by
  cases O with
  | none => exact .inl ⟨learnM_none _ _ _ _ _, fun _ e => by cases e⟩
  | some hs =>
    by_cases h : oldAt hs l p = d
    · subst h
      exact .inr ⟨hs, rfl, rfl, learn_hit n hs l p s hp⟩
    · exact .inl ⟨learnM_ne h s, fun hs' e => by cases e; exact h⟩
end Go.Proofs.YtepjbijhkkjbfaaGreat
namespace Go.Proofs.YtepjbijhkkjbfaaGreat
structure Shape (n : Nat) (s : KM × BM) (ex : Nat → Nat → Prop) : Prop where
  inb : ∀ l p d, s.1 l p = some d → l < depthM n ∧ p < sizeL n l
  kids : ∀ l p j, l + 1 < depthM n → p < sizeL n (l + 1) → ¬ ex l p → j < kidsM n l p → (s.1 l (4 * p + j)).isSome = (s.1 l (4 * p)).isSome
abbrev NoEx : Nat → Nat → Prop := fun _ _ => False
theorem putK_self (K : KM) (l p : Nat) (d : Dig) : putK K l p d l p = some d := by unfold putK; rw [if_pos ⟨rfl, rfl⟩]
theorem putK_ne (K : KM) {l p l' p' : Nat} (d : Dig) (h : ¬ (l' = l ∧ p' = p)) : putK K l p d l' p' = K l' p' := by unfold putK; rw [if_neg h]
theorem putK_mono (K : KM) (l p : Nat) (d : Dig) {l' p' : Nat} (h : (K l' p').isSome = true) : (putK K l p d l' p').isSome = true := by
  unfold putK; split
  · rfl
  · exact h
section
variable {n l p : Nat} {O : Option (List Bytes)} {d : Dig} {s : KM × BM} {ex : Nat → Nat → Prop}
theorem learn_known (hp : p < sizeL n l) {l' p' : Nat} (h : (s.1 l' p').isSome = true) : ((learnM n O l p d s).1 l' p').isSome = true := by
  rcases learn_cases n O l p d s hp with ⟨e, _⟩ | ⟨hs, _, _, e, _⟩
  · rw [e]; exact putK_mono _ _ _ _ h
  · rw [e]; split
    · rfl
    · exact h
theorem learn_self (hp : p < sizeL n l) : (learnM n O l p d s).1 l p = some d := by
  rcases learn_cases n O l p d s hp with ⟨e, _⟩ | ⟨hs, _, e0, e, _⟩
  · rw [e]; exact putK_self _ _ _ _
  · rw [e, if_pos (below_self hp), e0]
theorem learn_bytes (hp : p < sizeL n l) {p' : Nat} (h : (s.2 p').isSome = true) : ((learnM n O l p d s).2 p').isSome = true := by
  rcases learn_cases n O l p d s hp with ⟨e, _⟩ | ⟨hs, _, _, _, e⟩
  · rw [e]; exact h
  · rw [e]; split
    · rfl
    · exact h
theorem Shape.learn (h : Shape n s ex) (hl : l < depthM n) (hp : p < sizeL n l) (hex : l + 1 < depthM n → ∀ p' j, p' < sizeL n (l + 1) → j < kidsM n l p' → 4 * p' + j = p → ex l p') : Shape n (learnM n O l p d s) ex := by
  rcases learn_cases n O l p d s hp with ⟨e, _⟩ | ⟨hs, _, e0, e, _⟩
  · rw [e]
    refine ⟨fun l' p' d' hd => ?_, fun l' p' j hl' hp' hx hj => ?_⟩
    · by_cases h1 : l' = l ∧ p' = p
      · obtain ⟨rfl, rfl⟩ := h1; exact ⟨hl, hp⟩
      · have hd : putK s.1 l p d l' p' = some d' := hd
        rw [putK_ne _ _ h1] at hd; exact h.inb _ _ _ hd
    · have h0 := (kidsM_pos hp').1
      show (putK s.1 l p d l' (4 * p' + j)).isSome = (putK s.1 l p d l' (4 * p')).isSome; rw [putK_ne _ _ (by rintro ⟨rfl, e2⟩; exact hx (hex hl' _ _ hp' hj e2)), putK_ne _ _ (by rintro ⟨rfl, e2⟩; exact hx (hex hl' _ 0 hp' h0 e2))]; exact h.kids _ _ _ hl' hp' hx hj
  · refine ⟨fun l' p' d' hd => ?_, fun l' p' j hl' hp' hx hj => ?_⟩
    · rw [e] at hd
      by_cases h1 : below n l p l' p'
      · exact ⟨Nat.lt_of_le_of_lt h1.1 hl, h1.2.2⟩
      · rw [if_neg h1] at hd; exact h.inb _ _ _ hd
    · have h0 := (kidsM_pos hp').1
      rw [e, e]; rcases Nat.lt_trichotomy l' l with h1 | h1 | h1
      · have b1 := below_down (p := p) (show l' + 1 ≤ l by omega) hj hp'
        have b2 := below_down (p := p) (show l' + 1 ≤ l by omega) h0 hp'; rw [Nat.add_zero] at b2
        by_cases h2 : below n l p (l' + 1) p'
        · rw [if_pos (b1.2 h2), if_pos (b2.2 h2)]; rfl
        · rw [if_neg (fun hb => h2 (b1.1 hb)), if_neg (fun hb => h2 (b2.1 hb))]
          exact h.kids _ _ _ hl' hp' hx hj
      · subst h1
        rw [if_neg (fun hb => hx (hex hl' _ _ hp' hj (below_top.1 hb).1)), if_neg (fun hb : below n l' p l' (4 * p') => hx (hex hl' _ 0 hp' h0 (below_top.1 hb).1))]; exact h.kids _ _ _ hl' hp' hx hj
      · rw [if_neg (fun hb => by have := hb.1; omega), if_neg (fun hb => by have := hb.1; omega)]
        exact h.kids _ _ _ hl' hp' hx hj
end
theorem Shape.weaken {n : Nat} {s : KM × BM} {ex ex' : Nat → Nat → Prop} (h : Shape n s ex) (hx : ∀ l p, ex l p → ex' l p) : Shape n s ex' :=
  ⟨h.inb, fun l p j hl hp h1 hj => h.kids l p j hl hp (fun e => h1 (hx _ _ e)) hj⟩
section
variable {n l p : Nat} {O : Option (List Bytes)} {D : List Dig} {s : KM × BM}
theorem parts_shape (h : Shape n s NoEx) (hl : l + 1 < depthM n) (hp : p < sizeL n (l + 1)) : ∀ k, k ≤ kidsM n l p →
    Shape n (partsK n O l p D k s) (fun l' p' => l' = l ∧ p' = p) ∧ (∀ j, j < k → ((partsK n O l p D k s).1 l (4 * p + j)).isSome = true)
  | 0, _ => ⟨h.weaken (fun _ _ e => e.elim), fun j hj => absurd hj (Nat.not_lt_zero j)⟩
  | k + 1, hk => by
    obtain ⟨h1, h2⟩ := parts_shape h hl hp k (by omega); have h3 := (kidsM_pos hp).2.2 k (by omega); rw [partsK_succ]; refine ⟨h1.learn (by omega) h3 (fun _ p' j hp' hj e => ⟨rfl, by have := (kidsM_pos hp).2.1; have := (kidsM_pos hp').2.1; omega⟩), fun j hj => ?_⟩; rcases Nat.lt_succ_iff_lt_or_eq.1 hj with h4 | h4
    · exact learn_known h3 (h2 j h4)
    · subst h4; rw [learn_self h3]; rfl
theorem parts_all (h : Shape n s NoEx) (hl : l + 1 < depthM n) (hp : p < sizeL n (l + 1)) : Shape n (partsK n O l p D (kidsM n l p) s) NoEx := by
  obtain ⟨h1, h2⟩ := parts_shape (O := O) (D := D) h hl hp _ (Nat.le_refl _); refine ⟨h1.inb, fun l' p' j hl' hp' _ hj => ?_⟩
  by_cases h3 : l' = l ∧ p' = p
  · obtain ⟨rfl, rfl⟩ := h3
    have h4 := h2 0 (kidsM_pos hp).1; rw [Nat.add_zero] at h4; rw [h2 j hj, h4]
  · exact h1.kids _ _ _ hl' hp' h3 hj
theorem parts_mono (hp : p < sizeL n (l + 1)) : ∀ k, k ≤ kidsM n l p →
    (∀ l' p', (s.1 l' p').isSome = true → ((partsK n O l p D k s).1 l' p').isSome = true) ∧ (∀ p', (s.2 p').isSome = true → ((partsK n O l p D k s).2 p').isSome = true)
  | 0, _ => ⟨fun _ _ h => h, fun _ h => h⟩
  | k + 1, hk => by
    obtain ⟨h1, h2⟩ := parts_mono hp k (by omega); have h3 := (kidsM_pos hp).2.2 k (by omega); rw [partsK_succ]; exact ⟨fun l' p' h => learn_known h3 (h1 _ _ h), fun p' h => learn_bytes h3 (h2 _ h)⟩
end
def closedB (s : KM × BM) : Nat × Nat → Bool
  | (0, p) => (s.2 p).isSome
  | (l + 1, p) => (s.1 l (4 * p)).isSome
theorem lacks_closed (s : KM × BM) (l p : Nat) : lacksM s l p = ((s.1 l p).isSome && !closedB s (l, p)) := by
  cases l with
  | zero => cases h : s.2 p <;> simp [lacksM, closedB, h]
  | succ l => cases h : s.1 l (4 * p) <;> simp [lacksM, closedB, h]
theorem askL_eq_some {n : Nat} {s : KM × BM} {l p : Nat} (h : askL n s l = some p) : p < sizeL n l ∧ lacksM s l p = true := by
  unfold askL at h; rw [List.find?_range_eq_some] at h; exact ⟨List.mem_range.1 h.2.1, h.1⟩
theorem askL_eq_none {n : Nat} {s : KM × BM} {l : Nat} (h : askL n s l = none) {p : Nat} (hp : p < sizeL n l) : lacksM s l p = false := by
  unfold askL at h; rw [List.find?_eq_none] at h; have := h p (List.mem_range.2 hp); simpa using this
theorem askD_some {n : Nat} {s : KM × BM} : ∀ {k l p : Nat}, askD n s k = some (l, p) → l < k ∧ askL n s l = some p ∧ ∀ l', l < l' → l' < k → askL n s l' = none
  | 0, _, _, h => by cases h
  | k + 1, l, p, h => by
    rw [askD] at h; cases h1 : askL n s k with
    | some q =>
      rw [h1] at h; simp only [Option.some.injEq, Prod.mk.injEq] at h; obtain ⟨rfl, rfl⟩ := h; exact ⟨by omega, h1, fun l' h2 h3 => by omega⟩
    | none =>
      rw [h1] at h; obtain ⟨a1, a2, a3⟩ := askD_some h; refine ⟨by omega, a2, fun l' h2 h3 => ?_⟩; rcases Nat.lt_succ_iff_lt_or_eq.1 h3 with h4 | h4
      · exact a3 l' h2 h4
      · rw [h4]; exact h1
theorem askD_none {n : Nat} {s : KM × BM} : ∀ {k : Nat}, askD n s k = none → ∀ l, l < k → askL n s l = none
  | 0, _, l, hl => absurd hl (Nat.not_lt_zero l)
  | k + 1, h, l, hl => by
    rw [askD] at h; cases h1 : askL n s k with
    | some q => rw [h1] at h; cases h
    | none =>
      rw [h1] at h; rcases Nat.lt_succ_iff_lt_or_eq.1 hl with h4 | h4
      · exact askD_none h l h4
      · rw [h4]; exact h1
theorem askM_some {n : Nat} {s : KM × BM} {l p : Nat} (h : askM n s = some (l, p)) : l < depthM n ∧ p < sizeL n l ∧ (s.1 l p).isSome = true ∧ closedB s (l, p) = false := by
  obtain ⟨h1, h2, _⟩ := askD_some h; obtain ⟨h3, h4⟩ := askL_eq_some h2; rw [lacks_closed] at h4; simp only [Bool.and_eq_true, Bool.not_eq_true'] at h4; exact ⟨h1, h3, h4.1, h4.2⟩
theorem askM_lacks {n : Nat} {s : KM × BM} {l p : Nat} (h : askM n s = some (l, p)) : lacksM s l p = true := by
  obtain ⟨h1, h2, _⟩ := askD_some h; exact (askL_eq_some h2).2
theorem none_known {n : Nat} {s : KM × BM} (h : Shape n s NoEx) (ht : (s.1 (depthM n - 1) 0).isSome = true) (hn : 1 ≤ n) (ha : askM n s = none) : ∀ k, k < depthM n → ∀ p, p < sizeL n (depthM n - 1 - k) → (s.1 (depthM n - 1 - k) p).isSome = true
  | 0, _, p, hp => by
    rw [Nat.sub_zero] at hp ⊢; rw [depth_size hn] at hp; obtain rfl : p = 0 := by omega
    exact ht
  | k + 1, hk, p, hp => by
    obtain ⟨l, hl⟩ : ∃ l, l = depthM n - 1 - (k + 1) := ⟨_, rfl⟩; have h1 := none_known h ht hn ha k (by omega); rw [show depthM n - 1 - k = l + 1 by omega] at h1; rw [← hl] at hp ⊢; have hp4 : p / 4 < sizeL n (l + 1) := place_up hp; have h2 := askL_eq_none (askD_none ha (l + 1) (by omega)) hp4; rw [lacks_closed, h1 _ hp4] at h2; have h3 : (s.1 l (4 * (p / 4))).isSome = true := by simpa [closedB] using h2
    have hj : p % 4 < kidsM n l (p / 4) := by unfold kidsM; omega
    have h4 := h.kids l (p / 4) (p % 4) (by omega) hp4 id hj; rw [show 4 * (p / 4) + p % 4 = p by omega, h3] at h4; exact h4
theorem none_bytes {n : Nat} {s : KM × BM} (h : Shape n s NoEx) (ht : (s.1 (depthM n - 1) 0).isSome = true) (hn : 1 ≤ n) (ha : askM n s = none) {p : Nat} (hp : p < n) : (s.2 p).isSome = true := by
  have hd := depthM_pos n; have h1 := none_known h ht hn ha (depthM n - 1) (by omega) p (by rw [Nat.sub_self]; exact hp); rw [Nat.sub_self] at h1; have h2 := askL_eq_none (askD_none ha 0 (by omega)) (show p < sizeL n 0 from hp); rw [lacks_closed, h1] at h2; simpa [closedB] using h2
end Go.Proofs.YtepjbijhkkjbfaaGreat
namespace Go.Proofs.YtepjbijhkkjbfaaGreat
def NoCl (L : List Bytes) : Prop := ∀ x ∈ L, ∀ y ∈ L, shaM x = shaM y → x = y
structure Noted (L : List Bytes) (ls : List Bytes) : Prop where
  ins : InsIn L (ls.map (leafM shaM))
  leaf : ∀ R ∈ ls, leafIn R ∈ L
theorem Noted.more {L L' ls : List Bytes} (h : Noted L ls) (hs : ∀ x ∈ L, x ∈ L') : Noted L' ls := ⟨h.ins.more hs, fun R hR => hs _ (h.leaf R hR)⟩
abbrev digL (ls : List Bytes) (l p : Nat) : Dig := digAt (ls.map (leafM shaM)) l p
theorem digL_leaf {ls : List Bytes} {p : Nat} (h : p < ls.length) : digL ls 0 p = leafM shaM (ls.getD p []) := by
  rw [digL, digAt_leaf (by rw [List.length_map]; exact h), List.getElem_map, List.getD_eq_getElem?_getD, List.getElem?_eq_getElem h]
  rfl
abbrev kidsB (ls : List Bytes) (l p : Nat) : List Dig := kidsD (ls.map (leafM shaM)) l p
theorem digL_up {ls : List Bytes} {l p : Nat} (hl : l + 1 < depthM ls.length) (hp : p < sizeL ls.length (l + 1)) : digL ls (l + 1) p = upM shaM (kidsB ls l p) :=
  digAt_up l (by rw [List.length_map]; exact hl) (by rw [List.length_map]; exact hp)
theorem kidsB_noted {L ls : List Bytes} (h : Noted L ls) {l p : Nat} (hl : l + 1 < depthM ls.length) (hp : p < sizeL ls.length (l + 1)) : upIn (kidsB ls l p) ∈ L :=
  h.ins _ (ins_kids l (by rw [List.length_map]; exact hl) (by rw [List.length_map]; exact hp))
theorem kidsB_length (ls : List Bytes) (l p : Nat) : (kidsB ls l p).length = kidsM ls.length l p := by rw [kidsB, kidsD_length, List.length_map]
theorem kidsB_get {ls : List Bytes} {l p j : Nat} (h : j < kidsM ls.length l p) : (kidsB ls l p).getD j dig0 = digL ls l (4 * p + j) := kidsD_get (by rw [List.length_map]; exact h)
theorem upM_inj {L : List Bytes} (hn : NoCl L) {D E : List Dig} (h1 : upIn D ∈ L) (h2 : upIn E ∈ L) (h : upM shaM D = upM shaM E) : D = E := upIn_inj (hn _ h1 _ h2 h)
theorem leafM_inj {L : List Bytes} (hn : NoCl L) {R S : Bytes} (h1 : leafIn R ∈ L) (h2 : leafIn S ∈ L) (h : leafM shaM R = leafM shaM S) : R = S := leafIn_inj (hn _ h1 _ h2 h)
theorem getD_mem {ls : List Bytes} {p : Nat} (h : p < ls.length) : ls.getD p [] ∈ ls := by
  rw [List.getD_eq_getElem?_getD, List.getElem?_eq_getElem h]; exact List.getElem_mem h
theorem same_below {L ls hs : List Bytes} (hn : NoCl L) (h1 : Noted L ls) (h2 : Noted L hs) (he : hs.length = ls.length) : ∀ (l p : Nat), l < depthM ls.length → p < sizeL ls.length l → digL hs l p = digL ls l p →
    (∀ l' p', below ls.length l p l' p' → digL hs l' p' = digL ls l' p') ∧ ∀ p', below ls.length l p 0 p' → hs.getD p' [] = ls.getD p' []
  | 0, p, hl, hp, h => by
    refine ⟨fun l' p' hb => ?_, fun p' hb => ?_⟩
    · obtain rfl : l' = 0 := by have := hb.1; omega
      rw [(below_top.1 hb).1]; exact h
    · have hp2 : p < ls.length := hp
      rw [(below_top.1 hb).1]; rw [digL_leaf hp2, digL_leaf (by rw [he]; exact hp2)] at h; exact leafM_inj hn (h2.leaf _ (getD_mem (by rw [he]; exact hp2))) (h1.leaf _ (getD_mem hp2)) h
  | l + 1, p, hl, hp, h => by
    have hk : kidsB hs l p = kidsB ls l p := by
      rw [digL_up hl hp, digL_up (by rw [he]; exact hl) (by rw [he]; exact hp)] at h; exact upM_inj hn (kidsB_noted h2 (by rw [he]; exact hl) (by rw [he]; exact hp)) (kidsB_noted h1 hl hp) h
    have hj : ∀ j, j < kidsM ls.length l p → digL hs l (4 * p + j) = digL ls l (4 * p + j) := fun j hj => by
      rw [← kidsB_get hj, ← kidsB_get (ls := hs) (by rw [he]; exact hj), hk]
    have ih := fun j (hj' : j < kidsM ls.length l p) => same_below hn h1 h2 he l (4 * p + j) (by omega) ((kidsM_pos hp).2.2 j hj') (hj j hj'); refine ⟨fun l' p' hb => ?_, fun p' hb => ?_⟩
    · by_cases h3 : l' ≤ l
      · obtain ⟨j, hj', hb'⟩ := (below_kid h3).1 hb
        exact (ih j hj').1 _ _ hb'
      · obtain rfl : l' = l + 1 := by have := hb.1; omega
        rw [(below_top.1 hb).1]; exact h
    · obtain ⟨j, hj', hb'⟩ := (below_kid (Nat.zero_le _)).1 hb
      exact (ih j hj').2 _ hb'
theorem same_above {ls hs : List Bytes} (he : hs.length = ls.length) : ∀ (l p : Nat), l < depthM ls.length → p < sizeL ls.length l → (∀ q, below ls.length l p 0 q → hs.getD q [] = ls.getD q []) → digL hs l p = digL ls l p
  | 0, p, hl, hp, h => by
    have hp2 : p < ls.length := hp; rw [digL_leaf hp2, digL_leaf (by rw [he]; exact hp2), h p (below_self hp)]
  | l + 1, p, hl, hp, h => by
    rw [digL_up hl hp, digL_up (by rw [he]; exact hl) (by rw [he]; exact hp)]; have hk : kidsB hs l p = kidsB ls l p := by
      apply List.ext_getElem
      · rw [kidsB_length, kidsB_length, he]
      · intro j h1 h2
        rw [kidsB_length] at h1 h2; have h3 := same_above he l (4 * p + j) (by omega) ((kidsM_pos hp).2.2 j h2) (fun q hq => h q ((below_kid (Nat.zero_le _)).2 ⟨j, h2, hq⟩)); simpa [kidsB, kidsD] using h3
    rw [hk]
structure Real (ls : List Bytes) (s : KM × BM) : Prop where
  k : ∀ l p d, s.1 l p = some d → d = digL ls l p
  m : ∀ p R, s.2 p = some R → R = ls.getD p []
def OldOk (ls : List Bytes) (O : Option (List Bytes)) : Prop := ∀ hs, O = some hs → ∀ l p, l < depthM ls.length → p < sizeL ls.length l → digL hs l p = digL ls l p →
    (∀ l' p', below ls.length l p l' p' → digL hs l' p' = digL ls l' p') ∧ ∀ p', below ls.length l p 0 p' → hs.getD p' [] = ls.getD p' []
section
variable {ls : List Bytes} {O : Option (List Bytes)} {s : KM × BM} {l p : Nat}
theorem Real.learn (h : Real ls s) (ho : OldOk ls O) (hl : l < depthM ls.length) (hp : p < sizeL ls.length l) : Real ls (learnM ls.length O l p (digL ls l p) s) := by
  rcases learn_cases ls.length O l p (digL ls l p) s hp with ⟨e, _⟩ | ⟨hs, rfl, e0, e1, e2⟩
  · rw [e]
    refine ⟨fun l' p' d (hd : putK s.1 l p (digL ls l p) l' p' = some d) => ?_, h.m⟩
    by_cases h1 : l' = l ∧ p' = p
    · obtain ⟨rfl, rfl⟩ := h1
      rw [putK_self] at hd; exact (Option.some.inj hd).symm
    · rw [putK_ne _ _ h1] at hd; exact h.k _ _ _ hd
  · obtain ⟨o1, o2⟩ := ho hs rfl l p hl hp e0
    refine ⟨fun l' p' d hd => ?_, fun p' R hR => ?_⟩
    · rw [e1] at hd
      by_cases h1 : below ls.length l p l' p'
      · rw [if_pos h1] at hd
        rw [← o1 _ _ h1]; exact (Option.some.inj hd).symm
      · rw [if_neg h1] at hd; exact h.k _ _ _ hd
    · rw [e2] at hR
      by_cases h1 : below ls.length l p 0 p'
      · rw [if_pos h1] at hR
        rw [← o2 _ h1]; exact (Option.some.inj hR).symm
      · rw [if_neg h1] at hR; exact h.m _ _ hR
theorem Real.parts (h : Real ls s) (ho : OldOk ls O) (hl : l + 1 < depthM ls.length) (hp : p < sizeL ls.length (l + 1)) : ∀ k, k ≤ kidsM ls.length l p → Real ls (partsK ls.length O l p (kidsB ls l p) k s)
  | 0, _ => h
  | k + 1, hk => by
    rw [partsK_succ, kidsB_get (by omega)]; exact (h.parts ho hl hp k (by omega)).learn ho (by omega) ((kidsM_pos hp).2.2 k (by omega))
end
def partsE (n : Nat) (s : KM × BM) (lv pl : Int) (D : List Dig) : Int :=
  if ¬ (1 ≤ lv ∧ lv < depthM n ∧ 0 ≤ pl ∧ pl < sizeL n lv.toNat) then 9
  else if lacksM s lv.toNat pl.toNat = false then 220
  else if D.length ≠ kidsM n (lv.toNat - 1) pl.toNat then 2
  else if upM shaM D = (s.1 lv.toNat pl.toNat).getD dig0 then 0 else 100
def partsS (n : Nat) (O : Option (List Bytes)) (s : KM × BM) (lv pl : Int) (D : List Dig) : KM × BM :=
  if partsE n s lv pl D = 0 then partsK n O (lv.toNat - 1) pl.toNat D D.length s else s
end Go.Proofs.YtepjbijhkkjbfaaGreat
namespace Go.Proofs.YtepjbijhkkjbfaaGreat
open Go.RowKit
variable {Tu : Nat → Prop}
theorem bs_eq_nil (w : World) (a : Option Addr) (n c n' c' : Nat) : (binOp .eql 42 (.slice a n c) (.slice none n' c')).run Tryz.prog w = .ok (.bool a.isNone) w := Lib.run_eql_slice_nil w _ _ a n c n' c' Tryz.underlying42
attribute [local go_sem] bs_eq_nil
set_option maxHeartbeats 1000000 in
set_option maxRecDepth 20000 in
theorem bytes_Clone {w : World} {A : Option Addr} {R : Bytes} (c : Nat) (hR : Byt w A R) (hl : R.length ≤ 140737488351232) :
    Calls Tryz.prog 25 #[.slice A R.length c] w fun e W => ∃ v, e = .returned v ∧ OwnB W w.heap.size v R ∧ Kept w W := by
  have HX := Lib.hid (And.intro hR hl); cases A with
  | none =>
    have h0 : R = [] := by rcases hR with h0 | ⟨b, off, h0, _⟩; exact h0; cases h0
    subst h0; clear hR hl
    go_enter Tryz.func25, Tryz.ntmps25
    go_wp2
    go_ret
    exact ⟨_, rfl, OwnB.nil _ _, Upd.refl _ _⟩
  | some ad =>
    have HO := Lib.hid (show OwnB (w.alloc (.cells #[] 5)) w.heap.size (.slice (some ⟨w.heap.size, 0, none⟩) 0 0) [] from World.ownsRow_made (base := w.heap.size) (size := 1) (e := 5) w #[] 0 (Nat.le_refl _) (Nat.zero_le _) rfl); have hk : Kept w (w.alloc (.cells #[] 5)) := (Upd.refl _ w).alloc _; have HK := Lib.hid (And.intro hk (hR.kept hk)); clear hR hl hk
    go_enter Tryz.func25, Tryz.ntmps25
    go_wp2_with (at_builtin; refine wpList_append_bytes (R0 := []) rfl (.tmp 5) (.tmp 6) rfl rfl HO.out (some ad) c rfl HK.out.2 (by have := HX.out.2; simp only [List.length_nil]; omega) HK.out.1.size ?_; intro v' W' hown hu); have HF := Lib.hid (And.intro hown (show Kept w W' from HK.out.1.then hu (fun k hk e => by have e2 : some w.heap.size = some k := e; cases e2; omega))); clear hown hu HO HK; go_wp2
    go_ret
    exact ⟨_, rfl, by simpa using HF.out.1, HF.out.2⟩
theorem spot_store (a b : Int) (W : World) : (storeRow 70 (.pointer (some ⟨W.heap.size, 0, none⟩)) (.agg #[.int .i64 a, .int .i64 b])).run Tryz.prog (W.alloc (.cells #[.int .i64 0, .int .i64 0] 70)) = .ok .skip (W.alloc (.cells #[.int .i64 a, .int .i64 b] 70)) := by
  rw [row_store70 _ _ _ (rowB_new W #[.int .i64 0, .int .i64 0] 70 W.heap.size 2 rfl rfl) rfl rfl, setRow_new _ _ _ _ _ rfl]
attribute [local go_sem] spot_store
def leafE (n : Nat) (s : KM × BM) (place : Int) (R : Bytes) : Int :=
  if ¬ (0 ≤ place ∧ place < n) then 9 else if lacksM s 0 place.toNat = false then 220 else if 65536 ≤ R.length then 5 else if leafM shaM R = (s.1 0 place.toNat).getD dig0 then 0 else 100
def leafS (n : Nat) (s : KM × BM) (place : Int) (R : Bytes) : KM × BM := if leafE n s place R = 0 then (s.1, putM s.2 place.toNat R) else s
section
variable {w : World} {B f m1 m2 b r q n gs cs : Nat} {root : Dig} {O : Option (List Bytes)} {s : KM × BM} {hv ov : Value} {L : List Bytes} {A : Option Addr} {R : Bytes}
set_option maxHeartbeats 1000000 in
set_option maxRecDepth 20000 in
theorem fetch_Leaf_out (h : FetI Tu w B f m1 m2 b r q n root O s gs cs hv ov) (place : Int) (hp : ¬ (0 ≤ place ∧ place < n)) (x : Value) :
    Calls Tryz.prog 16 #[.pointer (some ⟨f, 0, none⟩), .int .i64 place, x] w fun e W => e = .returned (.int .i64 9) ∧ Kept w W := by
  have k1 : Kept w (w.alloc (.cells #[.int .i64 0, .int .i64 place] 70)) := (Upd.refl _ w).alloc _; have c0 := (h.kept k1).c.2.2.1; have c1 := (h.kept k1).c.2.1; have c2 := (h.kept k1).size (depthM_pos n); have hdp : (0 : Int) < (depthM n : Int) := by have := depthM_pos n; omega
  have HK := Lib.hid k1; have hn0 : sizeL n 0 = n := rfl; rw [hn0] at c2; clear h k1 hn0
  by_cases h0 : place < 0
  · have d0 : decide (place < 0) = true := decide_eq_true h0
    clear h0 hp
    go_enter Tryz.func16, Tryz.ntmps16
    go_wp2_with fail; refine (fetch_none c0).mono ?_; rintro e W ⟨rfl, rfl⟩; go_wp2
    go_ret
    exact ⟨rfl, HK.out⟩
  · have d0 : decide (place < 0) = false := decide_eq_false h0
    have d1 : decide ((n : Int) ≤ place) = true := decide_eq_true (by omega); clear h0 hp
    go_enter Tryz.func16, Tryz.ntmps16
    go_wp2_with fail; refine (fetch_none c0).mono ?_; rintro e W ⟨rfl, rfl⟩; go_wp2
    go_ret
    exact ⟨rfl, HK.out⟩
end
end Go.Proofs.YtepjbijhkkjbfaaGreat
namespace Go.Proofs.YtepjbijhkkjbfaaGreat
open Go.RowKit
variable {Tu : Nat → Prop}
attribute [local go_sem] spot_store
attribute [local irreducible] wpOrd
theorem lacks_known {s : KM × BM} {l p : Nat} (h : lacksM s l p = true) : ∃ d, s.1 l p = some d := by
  rw [lacks_closed, Bool.and_eq_true] at h; exact Option.isSome_iff_exists.1 h.1
theorem Blk.sp2 {W : World} {g : Nat} {x y : Int} (h : Blk W g 70 [.int .i64 x, .int .i64 y]) : segB W ⟨g, 0, none⟩ 2 = true ∧ segV W ⟨g, 0, none⟩ 2 = #[.int .i64 x, .int .i64 y] := by
  have := h.seg 0 2 [.int .i64 x, .int .i64 y] rfl (fun j _ => by rw [Nat.zero_add]); simpa using this
section
variable {w : World} {B f m1 m2 b r q n gs cs : Nat} {root : Dig} {O : Option (List Bytes)} {s : KM × BM} {hv ov : Value} {L : List Bytes} {A : Option Addr} {R : Bytes}
theorem leafE_no {p : Nat} (hp : p < n) (h : lacksM s 0 p = false) : leafE n s p R = 220 := by
  unfold leafE; rw [if_neg (by omega), if_pos (by simpa using h)]
theorem leafE_is {p : Nat} (hp : p < n) (h : lacksM s 0 p = true) {d : Dig} (hd : s.1 0 p = some d) : leafE n s p R = if 65536 ≤ R.length then 5 else if leafM shaM R = d then 0 else 100 := by
  unfold leafE; rw [if_neg (by omega), if_neg (by simp [h])]; simp [hd]
set_option maxHeartbeats 2000000 in
set_option maxRecDepth 20000 in
theorem fetch_Leaf_in (hT : ∀ k, Tu k → k < w.heap.size) (h : FetI Tu w B f m1 m2 b r q n root O s gs cs hv ov) (hb : BookL w b r q L) (p : Nat) (hp : p < n) (c : Nat) (hR : Byt w A R) (hlen : R.length ≤ 140737488351232) :
    Calls Tryz.prog 16 #[.pointer (some ⟨f, 0, none⟩), .int .i64 (p : Int), .slice A R.length c] w fun e W => e = .returned (.int .i64 (leafE n s p R)) ∧ (∃ L', BookL W b r q L' ∧ (∀ x ∈ L, x ∈ L') ∧ (leafE n s p R = 0 → leafIn R ∈ L')) ∧ FetI Tu W B f m1 m2 b r q n root O (leafS n s p R) gs cs hv ov ∧ Upd (fun k => Book3 b r q k ∨ k = m2) w W := by
  have hnot : ∀ (x : Bool) (w : World), (Op.unary .not (.bool x)).run Tryz.prog w = .ok (.bool (!x)) w := fun _ _ => rfl; have HTT := Lib.hid hT; clear hT; have hn2 := h.n2; have hS1 : Blk (w.alloc (.cells #[.int .i64 0, .int .i64 (p : Int)] 70)) w.heap.size 70 [.int .i64 0, .int .i64 (p : Int)] := Blk.new w _ _; have k1 : Kept w (w.alloc (.cells #[.int .i64 0, .int .i64 (p : Int)] 70)) := (Upd.refl _ w).alloc _; obtain ⟨w1, hW1⟩ : ∃ w1 : World, w1 = w.alloc (.cells #[.int .i64 0, .int .i64 (p : Int)] 70) := ⟨_, rfl⟩; rw [← hW1] at hS1 k1; have c0 := (h.kept k1).c.2.2.1; have c1 := (h.kept k1).c.2.1; have c2 := (h.kept k1).size (depthM_pos n); have hdp : (0 : Int) < (depthM n : Int) := by have := depthM_pos n; omega
  have hn0 : sizeL n 0 = n := rfl; rw [hn0] at c2; have d0 : decide ((p : Int) < 0) = false := decide_eq_false (by omega); have d1 : decide ((n : Int) ≤ (p : Int)) = false := decide_eq_false (by omega); obtain ⟨s1, s2⟩ := Blk.sp2 hS1; have HL : Calls Tryz.prog 38 #[.pointer (some ⟨f, 0, none⟩), .agg #[.int .i64 0, .int .i64 (p : Int)]] w1 fun e W => e = .returned (.bool (lacksM s 0 p)) ∧ Kept w1 W := fetch_lacks (h.kept k1) 0 p (by omega) (by omega); have HX := Lib.hid (And.intro (h.kept k1) (And.intro (hb.kept k1) (And.intro (hR.kept k1) (And.intro hS1 k1)))); have HN := Lib.hid (And.intro hp (And.intro hn2 hlen)); have hpn : (p : Int) < (n : Int) := by omega
  clear h hb hR hS1 k1 hn0 hp hn2 hlen; cases hlk : lacksM s 0 p with
  | false =>
    rw [hlk] at HL; have HE : Hid (leafE n s p R = 220 ∧ leafS n s p R = s) := by
      have h1 := leafE_no (R := R) HN.out.1 hlk; exact ⟨h1, by unfold leafS; rw [h1, if_neg (by decide)]⟩
    clear hlk
    go_enter Tryz.func16, Tryz.ntmps16
    go_wp2_with fail; rw [← hW1]; clear hW1; refine (fetch_none c0).mono ?_; rintro e W ⟨rfl, rfl⟩; go_wp2_with fail; refine HL.mono ?_; rintro e W ⟨rfl, hu⟩; have hku : Kept w W := HX.out.2.2.2.2.then hu (fun _ _ h => h); have HF := Lib.hid (And.intro (HX.out.1.kept hu) (And.intro (HX.out.2.1.kept hu) hku)); clear HL hu hku HX c0 c1 c2 s1 s2; go_wp2
    go_ret
    exact ⟨by rw [HE.out.1]; rfl, ⟨L, HF.out.2.1, fun _ h => h, fun e => by rw [HE.out.1] at e; exact absurd e (by decide)⟩, by rw [HE.out.2]; exact HF.out.1, HF.out.2.2.to⟩
  | true =>
    rw [hlk] at HL; obtain ⟨d, hd⟩ := lacks_known hlk; have HE := Lib.hid (And.intro (leafE_is (R := R) HN.out.1 hlk hd) hd); clear hlk hd
    go_enter Tryz.func16, Tryz.ntmps16
    go_wp2_with fail; rw [← hW1]; clear hW1; refine (fetch_none c0).mono ?_; rintro e W ⟨rfl, rfl⟩; go_wp2_with fail; refine HL.mono ?_; rintro e w2 ⟨rfl, hu⟩; have hku : Kept w w2 := HX.out.2.2.2.2.then hu (fun _ _ h => h); have H2 := Lib.hid (And.intro (HX.out.1.kept hu) (And.intro (HX.out.2.1.kept hu) (And.intro (HX.out.2.2.1.kept hu) (And.intro (HX.out.2.2.2.1.kept hu) hku)))); clear HL hu hku HX c0 c1 c2 s1 s2; have f0 : ∀ W, Upd (Book3 b r q) w2 W → W.cell? ⟨f, 0, none⟩ = some (.pointer (some ⟨b, 0, none⟩)) := fun W hW => (H2.out.1.book H2.out.2.1 hW).c.1; have f1 : ∀ W, Upd (Book3 b r q) w2 W → W.cell? ⟨f, 34, none⟩ = some (.map (some m1)) := fun W hW => (H2.out.1.book H2.out.2.1 hW).c.2.2.1; have f2 : ∀ W, Upd (Book3 b r q) w2 W → segB W ⟨w.heap.size, 0, none⟩ 2 = true := fun W hW => (Blk.sp2 (H2.out.2.2.2.1.upd hW (H2.out.2.1.not H2.out.2.2.2.1 (by decide)))).1; have f3 : ∀ W, Upd (Book3 b r q) w2 W → segV W ⟨w.heap.size, 0, none⟩ 2 = #[.int .i64 0, .int .i64 (p : Int)] := fun W hW => (Blk.sp2 (H2.out.2.2.2.1.upd hW (H2.out.2.1.not H2.out.2.2.2.1 (by decide)))).2; have f4 : ∀ W, Upd (Book3 b r q) w2 W → (Instr.lookup 61 (.map (some m1)) (.agg #[.int .i64 0, .int .i64 (p : Int)]) false).run Tryz.prog W = .ok (.agg (dA d)) W := fun W hW => by
      have := (H2.out.1.book H2.out.2.1 hW).k.look1 0 p ⟨by show 0 ≤ _; omega, by have := HN.out.1; have := HN.out.2.1; show p ≤ _; omega⟩; rw [HE.out.2] at this; exact this
    go_wp2_with fail; refine wp_region_ord [(0, true), (1, true), (2, true), (3, true), (4, true), (5, true), (6, true), (7, true), (8, true), (9, true), (10, true), (11, false), (12, true)] (by kernel_rfl) (by kernel_rfl) (Upd (Book3 b r q) w2) (Upd.refl _ w2).drew ?_; simp only [ordOps, List.getD_cons_zero, List.getD_cons_succ]
    iterate 11 (refine wpOrd_held (fun K hK => ?_); go_simp; first | (apply Exists.intro; refine ⟨fun W hW => ?_, hK _ ?_⟩; (go_simp; first | done | exact rfl); clear hK K) | (refine hK _ ?_; clear hK K))
    clear f0 f1 f2 f3 f4; have hud : Kept w2 w2.drew := (Upd.refl _ w2).drew; have HG := proof_LeafFits_any (H2.out.2.1.kept hud) c (H2.out.2.2.1.kept hud) d; have H3 := Lib.hid (And.intro (H2.out.1.kept hud) (And.intro (H2.out.2.1.kept hud) (And.intro (H2.out.2.2.1.kept hud) (show Kept w w2.drew from H2.out.2.2.2.2.then hud (fun _ _ h => h))))); have hSd : Upd (Book3 b r q) w2 w2.drew := hud.to; clear H2 hud; generalize w2.drew = wd at *; refine wpOrd_step (fun K hK => ?_) hSd; go_simp; refine HG.mono ?_; clear HG; rintro e w4 ⟨z, rfl, ⟨L4, hb4, hLL, hz⟩, hu4⟩; have hSe := hSd.trans hu4; have hR4 : Byt w4 A R := H3.out.2.1.byt H3.out.2.2.1 hu4; have HZ : Hid (leafE n s p R = z ∧ (z = 0 → leafIn R ∈ L4 ∧ R.length < 65536)) := by
      refine ⟨?_, fun e0 => ?_⟩
      · rw [HE.out.1]
        rcases hz with ⟨h1, h2, _⟩ | ⟨h1, h2⟩
        · rw [if_neg (by omega), h2]
        · rw [if_pos h1, h2]
      · rcases hz with ⟨h1, _, h2⟩ | ⟨_, h2⟩
        · exact ⟨h2, h1⟩
        · rw [h2] at e0; exact absurd e0 (by decide)
    have H4 := Lib.hid (And.intro (H3.out.1.book H3.out.2.1 hu4) (And.intro hb4 (And.intro hR4 (And.intro (show Upd (Book3 b r q) w w4 from H3.out.2.2.2.to.trans hu4) hLL)))); refine hK _ _ hSe ?_; clear hK K hz hu4 hSe hSd hb4 hLL hR4 H3
    iterate 1 (refine wpOrd_held (fun K hK => ?_); go_simp; first | (apply Exists.intro; refine ⟨fun W hW => ?_, hK _ ?_⟩; (go_simp; first | done | exact rfl); clear hK K) | (refine hK _ ?_; clear hK K))
    refine wpOrd_nil ?_
    by_cases hz0 : z = 0
    · subst hz0
      have f0 : ∀ W, Upd (fun k => k = m2) w4 W → W.cell? ⟨f, 35, none⟩ = some (.map (some m2)) := fun W hW => hW.cell H4.out.1.c.2.2.2.1 (fun e => (Quiet.map H4.out.1.m.map).not H4.out.1.blk (by decide) e); go_wp2_with fail; refine wp_region_ord [(0, true), (1, true), (2, true), (3, true), (4, true), (5, true), (6, false), (7, false)] (by kernel_rfl) (by kernel_rfl) (Upd (fun k => k = m2) w4) (Upd.refl _ w4).drew ?_; simp only [ordOps, List.getD_cons_zero, List.getD_cons_succ]
      iterate 6 (refine wpOrd_held (fun K hK => ?_); go_simp; first | (apply Exists.intro; refine ⟨fun W hW => ?_, hK _ ?_⟩; (go_simp; first | done | exact rfl); clear hK K) | (refine hK _ ?_; clear hK K))
      clear f0; have hud : Kept w4 w4.drew := (Upd.refl _ w4).drew; have HG := bytes_Clone c (H4.out.2.2.1.kept hud) HN.out.2.2; have H5 := Lib.hid (And.intro (H4.out.1.kept hud) (And.intro (H4.out.2.1.kept hud) (show Upd (Book3 b r q) w w4.drew from H4.out.2.2.2.1.drew))); have hSd : Upd (fun k => k = m2) w4 w4.drew := hud.to; have HLL := Lib.hid H4.out.2.2.2.2; clear H4 hud; generalize w4.drew = wd at *; refine wpOrd_step (fun K hK => ?_) hSd; go_simp; refine HG.mono ?_; clear HG; rintro e w5 ⟨v, rfl, hown, hu5⟩; obtain ⟨A5, c5, rfl, hc5, hb5⟩ := hown.form; have hSe := hSd.then hu5 (fun _ _ e => e.elim); refine hK _ _ hSe ?_; clear hK K; obtain ⟨w6, hrun, h6, hu6⟩ := (H5.out.1.kept hu5).putM p (by have := HN.out.1; have := HN.out.2.1; omega) (OwnB.leafAt (x := ⟨A5, R.length, c5⟩) hown) (HZ.out.2 (by simp)).2 (OffT.of (x := ⟨A5, R.length, c5⟩) hown fun k hk e => by have := HTT.out k e; have := H5.out.2.2.size; omega); have hS6 : Upd (fun k => k = m2) w4 w6 := hSe.trans hu6; have HF := Lib.hid (And.intro h6 (And.intro ((H5.out.2.1.kept hu5).upd hu6 (fun e => by have := H5.out.1.far b (.inl rfl); have := H5.out.1.b2; omega) (fun e => by have := H5.out.1.far r (.inr (.inl rfl)); have := H5.out.1.b2; omega) (fun e => by have := H5.out.1.far q (.inr (.inr rfl)); have := H5.out.1.b2; omega)) (show Upd (fun k => Book3 b r q k ∨ k = m2) w w6 from ((H5.out.2.2.mono (fun _ _ e => .inl e)).then hu5 (fun _ _ e => e.elim)).then hu6 (fun _ _ e => .inr e)))); simp only at hrun; clear h6 hu6 hown hu5 hc5 hb5 H5 hSd; refine wpOrd_step (fun K hK => ?_) hSe; go_simp; refine hK _ _ hS6 ?_; clear hK K hrun hSe hS6; refine wpOrd_nil ?_; go_wp2
      go_ret
      exact ⟨by rw [HZ.out.1]; rfl, ⟨L4, HF.out.2.1, HLL.out, fun _ => (HZ.out.2 (by simp)).1⟩, by unfold leafS; rw [HZ.out.1, if_pos rfl]; exact HF.out.1, HF.out.2.2⟩
    · have hdz : (z != 0) = true := by simpa using hz0
      have HNZ := Lib.hid hz0; clear hz0; go_wp2
      go_ret
      exact ⟨by rw [HZ.out.1]; rfl, ⟨L4, H4.out.2.1, H4.out.2.2.2.2, fun e => absurd (HZ.out.1.symm.trans e) HNZ.out⟩, by unfold leafS; rw [HZ.out.1, if_neg HNZ.out]; exact H4.out.1, H4.out.2.2.2.1.mono (fun _ _ e => .inl e)⟩
theorem fetch_Leaf (hT : ∀ k, Tu k → k < w.heap.size) (h : FetI Tu w B f m1 m2 b r q n root O s gs cs hv ov) (hb : BookL w b r q L) (place : Int) (c : Nat) (hR : Byt w A R) (hlen : R.length ≤ 140737488351232) :
    Calls Tryz.prog 16 #[.pointer (some ⟨f, 0, none⟩), .int .i64 place, .slice A R.length c] w fun e W => e = .returned (.int .i64 (leafE n s place R)) ∧ (∃ L', BookL W b r q L' ∧ (∀ x ∈ L, x ∈ L') ∧ (leafE n s place R = 0 → leafIn R ∈ L')) ∧ FetI Tu W B f m1 m2 b r q n root O (leafS n s place R) gs cs hv ov ∧ Upd (fun k => Book3 b r q k ∨ k = m2) w W := by
  by_cases hp : 0 ≤ place ∧ place < n
  · obtain ⟨p, rfl⟩ : ∃ p : Nat, place = p := ⟨place.toNat, by omega⟩
    exact fetch_Leaf_in hT h hb p (by omega) c hR hlen
  · have h1 : leafE n s place R = 9 := by unfold leafE; rw [if_pos hp]
    refine (fetch_Leaf_out h place hp _).mono fun e W ⟨he, hu⟩ => ⟨by rw [he, h1], ⟨L, hb.kept hu, fun _ h => h, fun e => by rw [h1] at e; exact absurd e (by decide)⟩, ?_, hu.to⟩; unfold leafS; rw [h1, if_neg (by decide)]; exact h.kept hu
end
end Go.Proofs.YtepjbijhkkjbfaaGreat
