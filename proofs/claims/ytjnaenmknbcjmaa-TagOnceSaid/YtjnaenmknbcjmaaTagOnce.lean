/- The same tag again is one: the statement TagOnce holds. For every input. -/
import Derived.Test.YtjnaenmknbcjmaaTagE
import Derived.Test.YtjnaenmknbcjmaaOpen
namespace Go.Proofs.Ytjnaenmknbcjmaa
open Go.ChangeShapes Go.WideShapes Go.ChangeAt Go.RowKit

set_option maxHeartbeats 1000000 in
theorem TagOnce_may (a0 a1 a2 : Int) (w2 : (Lit.int .u8 a2).wf = true) (w : World) (h1 : 1 ≤ a0) (h2 : a0 ≤ 34) (h3 : 0 ≤ a1) (h4 : a1 ≤ 34) :
    Calls Try.prog 9 #[.int .i64 a0, .int .i64 a1, .int .u8 a2] w fun e w' => e = .returned (.bool true) ∧ Kept w w' := by
  have hx : 0 ≤ a2 ∧ a2 ≤ 255 := by simpa [Lit.wf, IntKind.min, IntKind.max, IntKind.signed, IntKind.bits] using w2
  obtain ⟨h5, h6⟩ := hx
  have ht : (namedB a0 && (namedB a1 || a1 == 0)) = true := by
    simp [namedB]; omega
  have t1 : tagM [] a0 a1 (digI a2) = ([(a0, a1, digI a2)], 0) := by unfold tagM; rw [ht]; simp [putE]
  have t2 : tagM [(a0, a1, digI a2)] a0 a1 (digI a2) = ([(a0, a1, digI a2)], 0) := by unfold tagM; rw [ht]; simp [putE]
  clear ht
  have T1 := Lib.hid t1
  have T2 := Lib.hid t2
  clear t1 t2 w2
  go_enter Try.func9, Try.ntmps9
  go_wp2_with fail
  refine (law_works _).mono ?_
  rintro e W1 ⟨rfl, hu⟩
  have HU := Lib.hid hu
  clear hu
  go_wp2_with fail
  refine (tag_New _).mono ?_
  rintro e W2 ⟨b1, r1, rfl, hL1, hu, hb1, hr1⟩
  replace hb1 := Nat.le_trans HU.out.size hb1
  replace hr1 := Nat.le_trans HU.out.size hr1
  replace HU := Lib.hid (HU.out.then hu (fun _ _ h => h))
  clear hu
  go_wp2_with fail
  refine (law_digest _ (by omega) (by omega) _).mono ?_
  rintro e W3 ⟨rfl, hu⟩
  replace HU := Lib.hid (HU.out.then hu (fun _ _ h => h))
  replace hL1 := hL1.upd hu id id
  clear hu
  go_wp2_with fail
  refine (tag_Tag hL1 _ _ _).mono ?_
  rw [T1.out]
  rintro e W4 ⟨rfl, hL, hu⟩
  replace HU := Lib.hid (HU.out.then hu (fun i hi e => absurd hi (by omega)))
  clear hu hL1
  go_wp2_with fail
  refine (law_digest _ (by omega) (by omega) _).mono ?_
  rintro e W5 ⟨rfl, hu⟩
  replace HU := Lib.hid (HU.out.then hu (fun _ _ h => h))
  replace hL := hL.upd hu id id
  clear hu
  go_wp2_with fail
  refine (tag_Tag hL _ _ _).mono ?_
  rw [T2.out]
  rintro e W6 ⟨rfl, hL1, hu⟩
  replace HU := Lib.hid (HU.out.then hu (fun i hi e => absurd hi (by omega)))
  clear hu hL
  go_wp2_with (first
    | (go_at_call 27; refine (tag_Len (by assumption)).mono ?_; rintro e w3 ⟨rfl, rfl⟩)
    | (go_at_call 29; refine (tag_Asked (by assumption)).mono ?_; rintro e w3 ⟨rfl, rfl⟩))
  go_ret
  exact ⟨rfl, HU.out⟩

set_option maxHeartbeats 2000000 in
theorem TagOnce_not (a0 a1 a2 : Int) (w2 : (Lit.int .u8 a2).wf = true) (w : World) (hn : ¬ (1 ≤ a0 ∧ a0 ≤ 34 ∧ 0 ≤ a1 ∧ a1 ≤ 34)) :
    Calls Try.prog 9 #[.int .i64 a0, .int .i64 a1, .int .u8 a2] w fun e w' => e = .returned (.bool true) ∧ Kept w w' := by
  have hx : 0 ≤ a2 ∧ a2 ≤ 255 := by simpa [Lit.wf, IntKind.min, IntKind.max, IntKind.signed, IntKind.bits] using w2
  obtain ⟨h5, h6⟩ := hx
  have ht : (namedB a0 && (namedB a1 || a1 == 0)) = false := by
    rw [Bool.eq_false_iff]
    simp [namedB]; omega
  have t1 : tagM [] a0 a1 (digI a2) = ([], 2) := by unfold tagM; rw [ht]; rfl
  clear ht
  have T1 := Lib.hid t1
  clear t1 w2
  have h : a0 < 1 ∨ (1 ≤ a0 ∧ 34 < a0) ∨ (1 ≤ a0 ∧ a0 ≤ 34 ∧ a1 < 0) ∨ (1 ≤ a0 ∧ a0 ≤ 34 ∧ 0 ≤ a1 ∧ 34 < a1) := by omega
  clear hn
  rcases h with h1 | ⟨h1, h2⟩ | ⟨h1, h2, h3⟩ | ⟨h1, h2, h3, h4⟩
  all_goals
    go_enter Try.func9, Try.ntmps9
    go_wp2_with fail
    refine (law_works _).mono ?_
    rintro e W1 ⟨rfl, hu⟩
    have HU := Lib.hid hu
    clear hu
    go_wp2_with fail
    refine (tag_New _).mono ?_
    rintro e W2 ⟨b1, r1, rfl, hL1, hu, hb1, hr1⟩
    replace hb1 := Nat.le_trans HU.out.size hb1
    replace hr1 := Nat.le_trans HU.out.size hr1
    replace HU := Lib.hid (HU.out.then hu (fun _ _ h => h))
    clear hu
    go_wp2_with fail
    refine (law_digest _ (by omega) (by omega) _).mono ?_
    rintro e W3 ⟨rfl, hu⟩
    replace HU := Lib.hid (HU.out.then hu (fun _ _ h => h))
    replace hL1 := hL1.upd hu id id
    clear hu
    go_wp2_with fail
    refine (tag_Tag hL1 _ _ _).mono ?_
    rw [T1.out]
    rintro e W4 ⟨rfl, hL, hu⟩
    replace HU := Lib.hid (HU.out.then hu (fun i hi e => absurd hi (by omega)))
    clear hu hL1
    go_wp2_with fail
    refine (law_digest _ (by omega) (by omega) _).mono ?_
    rintro e W5 ⟨rfl, hu⟩
    replace HU := Lib.hid (HU.out.then hu (fun _ _ h => h))
    replace hL := hL.upd hu id id
    clear hu
    go_wp2_with fail
    refine (tag_Tag hL _ _ _).mono ?_
    rw [T1.out]
    rintro e W6 ⟨rfl, hL1, hu⟩
    replace HU := Lib.hid (HU.out.then hu (fun i hi e => absurd hi (by omega)))
    clear hu hL
    go_wp2_with (first
      | (go_at_call 27; refine (tag_Len (by assumption)).mono ?_; rintro e w3 ⟨rfl, rfl⟩)
      | (go_at_call 29; refine (tag_Asked (by assumption)).mono ?_; rintro e w3 ⟨rfl, rfl⟩))
    go_ret
    refine ⟨?_, HU.out⟩
    first
      | rfl
      | (have h4' : decide (a1 ≤ 34) = false := by simp; omega
         simp [h4'])

set_option maxRecDepth 100000 in
theorem TagOnce_lifted (os : Os) (started : os.Started) (H : Type) (enc : TypeId × Value → H) :
    ReturnsInHanded {} Try.checked os 9 .any (Rows.tagOnceSpec.pre6 enc Try.prog Try.f9 Rows.tagOnceRow.domain false) (Rows.tagOnceSpec.post enc Try.prog Try.f9 false true false false) := by
  refine law_lifted os started Try.func9 (by kernel_rfl) rfl rfl (by kernel_rfl) ?_
    (ChangeSpec.witness6 (enc := enc) (C := Try.checked) false ⟨#[], #[.int .i64 0, .int .i64 0, .int .u8 0], []⟩ 8 (by kernel_rfl) (by kernel_rfl) (by kernel_rfl) (by kernel_rfl)) ?_
  · intro ds h
    rw [Try.params9] at h
    match ds, h with
    | [d0, d1, d2], _ => rfl
  · intro W base args ds ps hval hA _
    rw [Try.params9] at hA hval
    obtain ⟨v0, vs0, d0, ds0, p0, q0, hargs, rfl, rfl, h0, r_0⟩ := trodAll_cons hA
    obtain ⟨v1, vs1, d1, ds1, p1, q1, rfl, rfl, rfl, h1, r_1⟩ := trodAll_cons r_0
    obtain ⟨v2, vs2, d2, ds2, p2, q2, rfl, rfl, rfl, h2, r_2⟩ := trodAll_cons r_1
    obtain ⟨rfl, rfl, rfl⟩ := trodAll_nil r_2
    obtain rfl : args = #[v0, v1, v2] := by cases args; simp_all
    obtain ⟨a0, rfl, rfl, rfl, w0⟩ := open_int Try.underlying3 (hval 0 3 v0 rfl rfl) h0
    obtain ⟨a1, rfl, rfl, rfl, w1⟩ := open_int Try.underlying3 (hval 1 3 v1 rfl rfl) h1
    obtain ⟨a2, rfl, rfl, rfl, w2⟩ := open_int Try.underlying5 (hval 2 5 v2 rfl rfl) h2
    by_cases h : 1 ≤ a0 ∧ a0 ≤ 34 ∧ 0 ≤ a1 ∧ a1 ≤ 34
    · exact TagOnce_may a0 a1 a2 w2 W h.1 h.2.1 h.2.2.1 h.2.2.2
    · exact TagOnce_not a0 a1 a2 w2 W h

theorem TagOnce_holds : Rows.TagOnceSaid :=
  OpenClaim.holds_of_wide 9 Try.f9 rfl rfl rfl rfl rfl rfl rfl ⟨rfl, rfl, rfl, rfl, rfl⟩ rfl rfl rfl rfl rfl (by kernel_rfl) Try.func9 (by kernel_rfl)
    (of_decide_eq_true (by kernel_rfl)) (by unfold Func.isWrapper; first | (rw [if_pos (by decide +kernel)]; kernel_rfl) | (rw [if_neg (by decide +kernel)]; exact ⟨rfl, rfl⟩))
    (fun os started H enc _ => TagOnce_lifted os started H enc)
end Go.Proofs.Ytjnaenmknbcjmaa
