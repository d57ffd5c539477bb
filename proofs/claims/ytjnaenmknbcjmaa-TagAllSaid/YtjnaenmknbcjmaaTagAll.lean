/- What is tagged for everybody counts for each, and only of its writer: the statement TagAll holds. For every input. -/
import Derived.Test.YtjnaenmknbcjmaaTagE
import Derived.Test.YtjnaenmknbcjmaaFrame
namespace Go.Proofs.Ytjnaenmknbcjmaa
open Go.ChangeShapes Go.WideShapes Go.ChangeAt Go.RowKit

theorem all_facts (f : Int) (hf : namedB f = true) (d d' : Dig) (hd : d ≠ d') (who to : Int) :
    (tagM [] f 0 d).2 = 0 ∧ checkM (tagM [] f 0 d).1 f to d = true ∧ checkM (tagM [] f 0 d).1 who to d = (who == f) ∧ checkM (tagM [] f 0 d).1 f to d' = false ∧ (tagM [] f 0 d).1.length = 1 := by
  have h : tagM [] f 0 d = ([(f, 0, d)], 0) := by simp [tagM, hf, putE]
  rw [h]
  refine ⟨rfl, ?_, ?_, ?_, rfl⟩
  · simp [checkM]
  · by_cases hw : who = f
    · simp [checkM, hw]
    · simp [checkM, hw]
  · have hd' : ¬ d' = d := fun e => hd e.symm
    simp [checkM, hd']

set_option maxHeartbeats 1000000 in
theorem TagAll_walk (a0 a1 a2 : Int) (w0 : (Lit.int .i64 a0).wf = true) (w1 : (Lit.int .i64 a1).wf = true) (w2 : (Lit.int .i64 a2).wf = true) (w : World) :
    Calls Try.prog 8 #[.int .i64 a0, .int .i64 a1, .int .i64 a2] w fun e w' => e = .returned (.bool true) ∧ Kept w w' := by
  go_enter Try.func8, Try.ntmps8
  go_wp2_with fail
  refine (law_works _).mono ?_
  rintro e W1 ⟨rfl, hu⟩
  have HU := Lib.hid hu
  clear hu
  go_wp2_with fail
  refine (ref_Bring _ _ w0 (by omega) (by omega) _).mono ?_
  rintro e W2 ⟨rfl, rfl⟩
  have hm := mod_range a0 34 (by omega)
  clear w0
  generalize a0 % 34 = m at *
  obtain ⟨hm0, hm1⟩ := hm
  go_wp2_with fail
  refine (tag_New _).mono ?_
  rintro e W2 ⟨b, r, rfl, hL, hu, hb, hr⟩
  replace hb : w.heap.size ≤ b := Nat.le_trans HU.out.size hb
  replace hr : w.heap.size ≤ r := Nat.le_trans HU.out.size hr
  replace HU := Lib.hid (HU.out.then hu (fun _ _ h => h))
  clear hu
  obtain ⟨f, hf⟩ : ∃ f, f = 1 + m := ⟨_, rfl⟩
  have hfn : namedB (1 + m) = true := by simp [namedB]; omega
  have hne : digI 9 ≠ digI 8 := by decide
  obtain ⟨t1, c1, c2, c3, l1⟩ := all_facts (1 + m) hfn (digI 9) (digI 8) hne a1 a2
  clear hne hf f
  have w0 : (Lit.int .i64 (1 + m)).wf = true := named_wf hfn
  go_wp2_with (first
    | (go_at_call 17; refine (law_digest _ (by omega) (by omega) _).mono ?_; rintro e w2 ⟨rfl, hu⟩; replace hL := hL.upd hu id id; replace HU := Lib.hid (HU.out.then hu (fun _ _ h => h)); clear hu)
    | (go_at_call 18; refine (tag_Tag (by assumption) _ _ _).mono ?_; rintro e w3 ⟨rfl, hL, hu⟩; replace HU := Lib.hid (HU.out.then hu (fun i hi e => absurd hi (by omega))); clear hu)
    | (go_at_call 25; refine (tag_Check (by assumption) (by omega) (by omega) _ _ _ (by assumption) (by assumption)).mono ?_; rintro e w3 ⟨rfl, hL, hu⟩; replace HU := Lib.hid (HU.out.then hu (fun i hi e => absurd hi (by omega))); clear hu)
    | (go_at_call 27; refine (tag_Len (by assumption)).mono ?_; rintro e w3 ⟨rfl, rfl⟩))
  go_ret
  exact ⟨by simp, HU.out⟩
set_option maxRecDepth 100000 in
theorem TagAll_lifted (os : Os) (started : os.Started) (H : Type) (enc : TypeId × Value → H) :
    ReturnsInHanded {} Try.checked os 8 .any (Rows.tagAllSpec.pre6 enc Try.prog Try.f8 Rows.tagAllRow.domain false) (Rows.tagAllSpec.post enc Try.prog Try.f8 false true false false) := by
  refine law_lifted os started Try.func8 (by kernel_rfl) rfl rfl (by kernel_rfl) ?_
    (ChangeSpec.witness6 (enc := enc) (C := Try.checked) false ⟨#[], #[.int .i64 0, .int .i64 0, .int .i64 0], []⟩ 8 (by kernel_rfl) (by kernel_rfl) (by kernel_rfl) (by kernel_rfl)) ?_
  · intro ds h
    rw [Try.params8] at h
    match ds, h with
    | [d0, d1, d2], _ => rfl
  · intro W base args ds ps hval hA _
    rw [Try.params8] at hA hval
    obtain ⟨v0, vs0, d0, ds0, p0, q0, hargs, rfl, rfl, h0, r_0⟩ := trodAll_cons hA
    obtain ⟨v1, vs1, d1, ds1, p1, q1, rfl, rfl, rfl, h1, r_1⟩ := trodAll_cons r_0
    obtain ⟨v2, vs2, d2, ds2, p2, q2, rfl, rfl, rfl, h2, r_2⟩ := trodAll_cons r_1
    obtain ⟨rfl, rfl, rfl⟩ := trodAll_nil r_2
    obtain rfl : args = #[v0, v1, v2] := by cases args; simp_all
    obtain ⟨a0, rfl, rfl, rfl, w0⟩ := open_int Try.underlying3 (hval 0 3 v0 rfl rfl) h0
    obtain ⟨a1, rfl, rfl, rfl, w1⟩ := open_int Try.underlying3 (hval 1 3 v1 rfl rfl) h1
    obtain ⟨a2, rfl, rfl, rfl, w2⟩ := open_int Try.underlying3 (hval 2 3 v2 rfl rfl) h2
    exact TagAll_walk a0 a1 a2 w0 w1 w2 W

theorem TagAll_holds : Rows.TagAllSaid :=
  OpenClaim.holds_of_wide 8 Try.f8 rfl rfl rfl rfl rfl rfl rfl ⟨rfl, rfl, rfl, rfl, rfl⟩ rfl rfl rfl rfl rfl (by kernel_rfl) Try.func8 (by kernel_rfl)
    (of_decide_eq_true (by kernel_rfl)) (by unfold Func.isWrapper; first | (rw [if_pos (by decide +kernel)]; kernel_rfl) | (rw [if_neg (by decide +kernel)]; exact ⟨rfl, rfl⟩))
    (fun os started H enc _ => TagAll_lifted os started H enc)
end Go.Proofs.Ytjnaenmknbcjmaa
