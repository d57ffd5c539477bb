/- The plain laws of ledgers made of deeds. -/
import Derived.Test.YtjnaenmknbcjmaaTagF
namespace Go.Proofs.Ytjnaenmknbcjmaa

theorem mem_putE {e x : Ent} {L : List Ent} : x ∈ putE e L ↔ x ∈ L ∨ x = e := by
  unfold putE
  split
  · rename_i h
    constructor
    · exact .inl
    · rintro (h' | rfl)
      · exact h'
      · exact h
  · simp
theorem mem_puts {f : Int} {d : Dig} {x : Ent} : ∀ {R : List Int} {L : List Ent}, x ∈ R.foldl (fun L t => putE (f, t, d) L) L ↔ x ∈ L ∨ ∃ t ∈ R, x = (f, t, d)
  | [], L => by simp
  | t :: R, L => by
    rw [List.foldl_cons, mem_puts, mem_putE]
    simp only [List.mem_cons, exists_eq_or_imp, or_assoc]

theorem named_not_zero {R : List Int} (h : R.all namedB = true) : (0 : Int) ∉ R := fun h0 => by
  have := List.all_eq_true.1 h 0 h0
  simp [namedB] at this

theorem checkM_iff {L : List Ent} {f t : Int} {d : Dig} : checkM L f t d = true ↔ (f, t, d) ∈ L ∨ (f, 0, d) ∈ L := by
  simp [checkM]

/-- what a deed adds to what Check tells -/
def hitB (x : DeedV) (f t d : Int) : Bool :=
  decide (x.f = f) && decide (x.d = d) && namedB x.f &&
    (if x.k % 3 = 0 then (decide (x.t = t) || decide (x.t = 0)) && (namedB x.t || x.t == 0)
     else if x.k % 3 = 1 then decide (x.R.length ≤ 34) && x.R.all namedB && decide (t ∈ x.R) else false)

theorem digI_iff {x : DeedV} {d : Int} (hx : DeedOk x) (d0 : 0 ≤ d) (d1 : d ≤ 255) : digI d = digI x.d ↔ x.d = d :=
  ⟨fun h => (digI_inj d0 d1 hx.d0 hx.d1 h).symm, fun h => by rw [h]⟩

theorem checkM_step {L : List Ent} {x : DeedV} {f t d : Int} (hx : DeedOk x) (d0 : 0 ≤ d) (d1 : d ≤ 255) : checkM (stepM L x) f t (digI d) = (checkM L f t (digI d) || hitB x f t d) := by
  rw [Bool.eq_iff_iff, Bool.or_eq_true, checkM_iff, checkM_iff]
  unfold stepM hitB
  have hd := digI_iff hx d0 d1
  split
  · unfold tagM
    split
    · rename_i h
      simp only [Bool.and_eq_true, Bool.or_eq_true] at h
      simp only [mem_putE, Prod.mk.injEq, hd, Bool.and_eq_true, Bool.or_eq_true, decide_eq_true_eq, h, and_true]
      constructor
      · rintro ((h1 | ⟨rfl, rfl, rfl⟩) | (h1 | ⟨rfl, h2, rfl⟩))
        · exact .inl (.inl h1)
        · exact .inr ⟨⟨rfl, rfl⟩, .inl rfl⟩
        · exact .inl (.inr h1)
        · exact .inr ⟨⟨rfl, rfl⟩, .inr h2.symm⟩
      · rintro ((h1 | h1) | ⟨⟨rfl, rfl⟩, (h2 | h2)⟩)
        · exact .inl (.inl h1)
        · exact .inr (.inl h1)
        · exact .inl (.inr ⟨rfl, h2.symm, rfl⟩)
        · exact .inr (.inr ⟨rfl, h2.symm, rfl⟩)
    · rename_i h
      rw [Bool.and_eq_true] at h
      constructor
      · exact fun h1 => .inl h1
      · rintro (h1 | h1)
        · exact h1
        · simp only [Bool.and_eq_true] at h1
          exact (h ⟨h1.1.2, h1.2.2⟩).elim
  · split
    · unfold vecM
      split
      · rename_i h
        simp only [Bool.and_eq_true] at h
        have h0 := named_not_zero h.2
        simp only [mem_puts, Prod.mk.injEq, hd, Bool.and_eq_true, decide_eq_true_eq, h, and_true, of_decide_eq_true h.1.2, true_and]
        constructor
        · rintro ((h1 | ⟨y, hy, rfl, rfl, rfl⟩) | (h1 | ⟨y, hy, rfl, h2, rfl⟩))
          · exact .inl (.inl h1)
          · exact .inr ⟨⟨rfl, rfl⟩, hy⟩
          · exact .inl (.inr h1)
          · exact (h0 (h2 ▸ hy)).elim
        · rintro ((h1 | h1) | ⟨⟨rfl, rfl⟩, h2⟩)
          · exact .inl (.inl h1)
          · exact .inr (.inl h1)
          · exact .inl (.inr ⟨_, h2, rfl, rfl, rfl⟩)
      · rename_i h
        constructor
        · exact fun h1 => .inl h1
        · rintro (h1 | h1)
          · exact h1
          · simp only [Bool.and_eq_true] at h1 h
            exact (h ⟨⟨h1.1.2, h1.2.1.1⟩, h1.2.1.2⟩).elim
    · simp

/-! ### in whichever order -/
theorem putE_nodup {e : Ent} {L : List Ent} (h : L.Nodup) : (putE e L).Nodup := by
  unfold putE
  split
  · exact h
  · rename_i hn
    rw [List.nodup_append]
    exact ⟨h, by simp, fun a ha b hb => by simp at hb; rintro rfl; exact hn (hb ▸ ha)⟩
theorem puts_nodup {f : Int} {d : Dig} : ∀ {R : List Int} {L : List Ent}, L.Nodup → (R.foldl (fun L t => putE (f, t, d) L) L).Nodup
  | [], _, h => h
  | _ :: R, _, h => puts_nodup (R := R) (putE_nodup h)
theorem step_nodup {L : List Ent} (x : DeedV) (h : L.Nodup) : (stepM L x).Nodup := by
  unfold stepM tagM vecM
  split
  · split
    · exact putE_nodup h
    · exact h
  · split
    · split
      · exact puts_nodup h
      · exact h
    · exact h
theorem steps_nodup : ∀ (l : List DeedV) {L : List Ent}, L.Nodup → (l.foldl stepM L).Nodup
  | [], _, h => h
  | x :: l, _, h => steps_nodup l (step_nodup x h)

/-- what a deed adds -/
def adds (x : DeedV) (e : Ent) : Prop := e ∈ stepM [] x
theorem mem_step {L : List Ent} {x : DeedV} {e : Ent} : e ∈ stepM L x ↔ e ∈ L ∨ adds x e := by
  unfold adds stepM tagM vecM
  split
  · split
    · simp only [mem_putE, List.not_mem_nil, false_or]
    · simp
  · split
    · split
      · simp only [mem_puts, List.not_mem_nil, false_or]
      · simp
    · simp
theorem mem_steps {e : Ent} : ∀ {l : List DeedV} {L : List Ent}, e ∈ l.foldl stepM L ↔ e ∈ L ∨ ∃ x ∈ l, adds x e
  | [], L => by simp
  | x :: l, L => by
    rw [List.foldl_cons, mem_steps, mem_step]
    simp only [List.mem_cons, exists_eq_or_imp, or_assoc]

theorem turn_same {l : List DeedV} (h : l.length ≤ 60) : madeM l.reverse = l.reverse.foldl stepM [] ∧ (l.foldl stepM []).length = (madeM l.reverse).length ∧ ∀ f t d, checkM (l.foldl stepM []) f t d = checkM (madeM l.reverse) f t d := by
  have h1 : madeM l.reverse = l.reverse.foldl stepM [] := by unfold madeM; rw [List.take_of_length_le (by simpa using h)]
  rw [h1]
  have hm : ∀ e, e ∈ l.foldl stepM [] ↔ e ∈ l.reverse.foldl stepM [] := fun e => by rw [mem_steps, mem_steps]; simp only [List.mem_reverse]
  refine ⟨rfl, ?_, fun f t d => ?_⟩
  · exact ((List.perm_ext_iff_of_nodup (steps_nodup l List.nodup_nil) (steps_nodup l.reverse List.nodup_nil)).2 hm).length_eq
  · rw [Bool.eq_iff_iff, checkM_iff, checkM_iff, hm, hm]
end Go.Proofs.Ytjnaenmknbcjmaa
