/- Vector is Tag for each: the statement TagVector holds. For every input. -/
import Derived.Test.YtjnaenmknbcjmaaTagE
import Derived.Test.YtjnaenmknbcjmaaOpen
import Derived.Test.YtjnaenmknbcjmaaMild
namespace Go.Proofs.Ytjnaenmknbcjmaa
open Go.ChangeShapes Go.WideShapes Go.ChangeAt Go.RowKit

set_option maxHeartbeats 1000000 in
theorem TagVector_ok (a0 a2 : Int) (w0 : (Lit.int .i64 a0).wf = true) (w2 : (Lit.int .i64 a2).wf = true) (A : Option Addr) (R : List Int) (c : Nat) (w : World) (hR : Ints w A R) (hlen : R.length * 8 ≤ 140737488351232)
    (hf : namedB a0 = true) (hl : R.length ≤ 34) (hx : ∀ x ∈ R, namedB x = true) :
    Calls Try.prog 6 #[.int .i64 a0, .slice A R.length c, .int .i64 a2] w fun e w' => e = .returned (.bool true) ∧ Kept w w' := by
  have hv : vecM [] a0 R (digI 7) = (R.foldl (fun L t => putE (a0, t, digI 7) L) [], 0) := by
    unfold vecM; rw [if_pos]; simp [hf, hl]; exact hx
  have HX := Lib.hid hx
  clear hx
  go_enter Try.func6, Try.ntmps6
  go_wp2_with fail
  refine (law_works _).mono ?_
  rintro e W1 ⟨rfl, hu⟩
  have HU := Lib.hid hu
  clear hu
  go_wp2_with fail
  refine (tag_New _).mono ?_
  rintro e W2 ⟨b1, r1, rfl, hL1, hu, hb1, hr1⟩
  replace hb1 := Nat.le_trans HU.out.size hb1
  replace hr1 := Nat.le_trans HU.out.size hr1
  replace HU := Lib.hid (HU.out.then hu (fun _ _ h => h))
  clear hu
  go_wp2_with fail
  refine (tag_New _).mono ?_
  rintro e W3 ⟨b2, r2, rfl, hL2, hu, hb2, hr2⟩
  have HN : Hid (b1 < b2 ∧ b1 < r2 ∧ r1 < b2 ∧ r1 < r2) := ⟨Nat.lt_of_lt_of_le hL1.lt hb2, Nat.lt_of_lt_of_le hL1.lt hr2, Nat.lt_of_lt_of_le hL1.map.lt hb2, Nat.lt_of_lt_of_le hL1.map.lt hr2⟩
  replace hL1 := hL1.upd hu id id
  replace hb2 := Nat.le_trans HU.out.size hb2
  replace hr2 := Nat.le_trans HU.out.size hr2
  replace HU := Lib.hid (HU.out.then hu (fun _ _ h => h))
  clear hu
  go_wp2_with fail
  refine (law_digest _ (by omega) (by omega) _).mono ?_
  rintro e W4 ⟨rfl, hu⟩
  replace hL1 := hL1.upd hu id id
  replace hL2 := hL2.upd hu id id
  replace HU := Lib.hid (HU.out.then hu (fun _ _ h => h))
  clear hu
  go_wp2_with fail
  refine (tag_Vector hL1 a0 (digI 7) A R c (hR.upd HU.out (fun _ h => h.elim))).mono ?_
  rintro e W5 ⟨rfl, hL1, hu⟩
  replace hL2 := hL2.upd hu (by have := HN.out; omega) (by have := HN.out; omega)
  replace HU := Lib.hid (HU.out.then hu (fun i hi e => absurd hi (by omega)))
  clear hu
  rw [hv] at hL1 ⊢
  clear hv
  have HL1 := Lib.hid hL1
  clear hL1
  go_wp2_with fail
  go_loopw [10] (fun i wr => ∃ k : Nat, k ≤ R.length ∧ i = .int .i64 k ∧ LedAt wr b2 r2 ((R.take k).foldl (fun L t => putE (a0, t, digI 7) L) []) 0 ∧ LedAt wr b1 r1 (R.foldl (fun L t => putE (a0, t, digI 7) L) []) 0 ∧ Kept w wr) (fun i _ => R.length - (intOf i).toNat)
  case atStart => exact ⟨0, Nat.zero_le _, rfl, hL2, HL1.out, HU.out⟩
  case round =>
    clear hL2 HL1 HU
    obtain ⟨k, hk, rfl, hL2, hL1, hu⟩ := hrel
    have H2 := Lib.hid hL2
    have H1 := Lib.hid hL1
    have HU := Lib.hid hu
    clear hL1 hL2 hu
    by_cases hlt : k < R.length
    · obtain ⟨gb, off, rfl, hcR⟩ := (hR.upd HU.out (fun _ h => h.elim)).get hlt
      have hb := HX.out R[k] (List.getElem_mem hlt)
      have f1 : ∀ W, Kept wr W → W.cell? ⟨gb, off + k, none⟩ = some (.int .i64 R[k]) := fun W hW => hW.cell hcR id
      clear hcR
      go_wp2_with fail
      refine wp_region_mild 7 (by kernel_rfl) (by kernel_rfl) (Kept wr) ((Upd.refl _ _).drew) ?_
      simp only [List.take_succ_cons, List.take_zero, List.drop_succ_cons, List.drop_zero]
      iterate 6 (refine wpMild_step (fun K hK => ?_); go_simp; apply Exists.intro; refine ⟨fun W hW => ?_, hK _ ?_⟩; (go_simp; first | exact rfl | exact ⟨rfl, hW⟩); clear hK K)
      refine wpMild_step (fun K hK => ?_)
      go_simp
      apply Exists.intro
      refine ⟨fun W hW => ?_, hK _ ?_⟩
      · go_simp
        refine (law_digest _ (by omega) (by omega) _).mono ?_
        rintro e w' ⟨rfl, hu⟩
        exact ⟨rfl, hW.then hu (fun _ _ h => h)⟩
      clear hK K
      refine wpMild_nil (fun wb hS => ?_)
      replace H1 := Lib.hid (H1.out.upd hS id id)
      have hL2 := H2.out.upd hS id id
      replace HU := Lib.hid (HU.out.then hS (fun _ _ h => h))
      have t1 : (tagM ((R.take k).foldl (fun L t => putE (a0, t, digI 7) L) []) a0 R[k] (digI 7)) = (putE (a0, R[k], digI 7) ((R.take k).foldl (fun L t => putE (a0, t, digI 7) L) []), 0) := by unfold tagM; rw [hf, hb]; rfl
      clear f1 hS
      go_wp2_with fail
      refine (tag_Tag hL2 _ _ _).mono ?_
      rw [t1]
      rintro e w3 ⟨rfl, hL, hu⟩
      clear hL2 t1
      have H3 := Lib.hid hL
      replace H1 := Lib.hid (H1.out.upd hu (by have := HN.out; omega) (by have := HN.out; omega))
      replace HU := Lib.hid (HU.out.then hu (fun i hi e => absurd hi (by omega)))
      clear hu hL
      go_wp2
      go_roundw
      case rel =>
        refine ⟨k + 1, by omega, by go_num, ?_, H1.out, HU.out⟩
        rw [List.take_succ_eq_append_getElem hlt, List.foldl_append]
        exact H3.out
      case measure => simp [intOf]; omega
    · obtain rfl : k = R.length := by omega
      have hL2 := H2.out
      rw [List.take_length] at hL2
      have hL1 := H1.out
      generalize R.foldl (fun L t => putE (a0, t, digI 7) L) [] = L at *
      clear HX H1 H2 hlt hk
      go_wp2_with (first
        | (go_at_call 27; refine (tag_Len (by assumption)).mono ?_; rintro e w3 ⟨rfl, rfl⟩))
      refine (law_digest _ (by omega) (by omega) _).mono ?_
      rintro e W6 ⟨rfl, hu⟩
      replace hL1 := hL1.upd hu id id
      replace hL2 := hL2.upd hu id id
      replace HU := Lib.hid (HU.out.then hu (fun _ _ h => h))
      clear hu
      go_wp2_with fail
      refine (tag_Check hL1 (by omega) (by omega) _ _ _ w0 w2).mono ?_
      rintro e W7 ⟨rfl, hL1, hu⟩
      replace hL2 := hL2.upd hu (by have := HN.out; omega) (by have := HN.out; omega)
      replace HU := Lib.hid (HU.out.then hu (fun i hi e => absurd hi (by omega)))
      clear hu
      go_wp2_with fail
      refine (law_digest _ (by omega) (by omega) _).mono ?_
      rintro e W8 ⟨rfl, hu⟩
      replace hL2 := hL2.upd hu id id
      replace HU := Lib.hid (HU.out.then hu (fun _ _ h => h))
      clear hu
      go_wp2_with fail
      refine (tag_Check hL2 (by omega) (by omega) _ _ _ w0 w2).mono ?_
      rintro e W9 ⟨rfl, hL2, hu⟩
      replace HU := Lib.hid (HU.out.then hu (fun i hi e => absurd hi (by omega)))
      clear hu
      go_wp2
      go_ret
      exact ⟨by simp, HU.out⟩

set_option maxHeartbeats 1000000 in
theorem TagVector_no (a0 a2 : Int) (w0 : (Lit.int .i64 a0).wf = true) (w2 : (Lit.int .i64 a2).wf = true) (A : Option Addr) (R : List Int) (c : Nat) (w : World) (hR : Ints w A R)
    (hv : vecM [] a0 R (digI 7) = ([], 2)) :
    Calls Try.prog 6 #[.int .i64 a0, .slice A R.length c, .int .i64 a2] w fun e w' => e = .returned (.bool true) ∧ Kept w w' := by
  go_enter Try.func6, Try.ntmps6
  go_wp2_with fail
  refine (law_works _).mono ?_
  rintro e W1 ⟨rfl, hu⟩
  have HU := Lib.hid hu
  clear hu
  go_wp2_with fail
  refine (tag_New _).mono ?_
  rintro e W2 ⟨b1, r1, rfl, hL1, hu, hb1, hr1⟩
  replace hb1 := Nat.le_trans HU.out.size hb1
  replace hr1 := Nat.le_trans HU.out.size hr1
  replace HU := Lib.hid (HU.out.then hu (fun _ _ h => h))
  clear hu
  go_wp2_with fail
  refine (tag_New _).mono ?_
  rintro e W3 ⟨b2, r2, rfl, hL2, hu, hb2, hr2⟩
  replace hL1 := hL1.upd hu id id
  replace HU := Lib.hid (HU.out.then hu (fun _ _ h => h))
  clear hu
  go_wp2_with fail
  refine (law_digest _ (by omega) (by omega) _).mono ?_
  rintro e W4 ⟨rfl, hu⟩
  replace hL1 := hL1.upd hu id id
  replace HU := Lib.hid (HU.out.then hu (fun _ _ h => h))
  clear hu
  go_wp2_with fail
  refine (tag_Vector hL1 a0 (digI 7) A R c (hR.upd HU.out (fun _ h => h.elim))).mono ?_
  rintro e W5 ⟨rfl, hL, hu⟩
  rw [hv] at hL ⊢
  replace HU := Lib.hid (HU.out.then hu (fun i hi e => absurd hi (by omega)))
  clear hu hv hL1 hL2
  have c1 : checkM [] a0 a2 (digI 7) = false := rfl
  go_wp2_with (first
    | (go_at_call 27; refine (tag_Len (by assumption)).mono ?_; rintro e w3 ⟨rfl, rfl⟩))
  refine (law_digest _ (by omega) (by omega) _).mono ?_
  rintro e W6 ⟨rfl, hu⟩
  replace hL := hL.upd hu id id
  replace HU := Lib.hid (HU.out.then hu (fun _ _ h => h))
  clear hu
  go_wp2_with fail
  refine (tag_Check hL (by omega) (by omega) _ _ _ w0 w2).mono ?_
  rintro e W7 ⟨rfl, hL1, hu⟩
  replace HU := Lib.hid (HU.out.then hu (fun i hi e => absurd hi (by omega)))
  clear hu
  go_wp2
  go_ret
  exact ⟨rfl, HU.out⟩

theorem TagVector_walk (a0 a2 : Int) (w0 : (Lit.int .i64 a0).wf = true) (w2 : (Lit.int .i64 a2).wf = true) (A : Option Addr) (R : List Int) (c : Nat) (w : World) (hR : Ints w A R) (hlen : R.length * 8 ≤ reachBytes) :
    Calls Try.prog 6 #[.int .i64 a0, .slice A R.length c, .int .i64 a2] w fun e w' => e = .returned (.bool true) ∧ Kept w w' := by
  by_cases h : (namedB a0 && decide (R.length ≤ 34) && R.all namedB) = true
  · simp only [Bool.and_eq_true, decide_eq_true_eq, List.all_eq_true] at h
    exact TagVector_ok a0 a2 w0 w2 A R c w hR hlen h.1.1 h.1.2 h.2
  · exact TagVector_no a0 a2 w0 w2 A R c w hR (by unfold vecM; rw [if_neg h])

set_option maxRecDepth 100000 in
theorem TagVector_lifted (os : Os) (started : os.Started) (H : Type) (enc : TypeId × Value → H) :
    ReturnsInHanded {} Try.checked os 6 .any (Rows.tagVectorSpec.pre6 enc Try.prog Try.f6 Rows.tagVectorRow.domain false) (Rows.tagVectorSpec.post enc Try.prog Try.f6 false true false false) := by
  refine law_lifted os started Try.func6 (by kernel_rfl) rfl rfl (by kernel_rfl) ?_
    (ChangeSpec.witness6 (enc := enc) (C := Try.checked) false ⟨#[], #[.int .i64 0, .slice none 0 0, .int .i64 0], []⟩ 8 (by kernel_rfl) (by kernel_rfl) (by kernel_rfl) (by kernel_rfl)) ?_
  · intro ds h
    rw [Try.params6] at h
    match ds, h with
    | [d0, d1, d2], _ => rfl
  · intro W base args ds ps hval hA hsz
    rw [Try.params6] at hA hval hsz
    obtain ⟨v0, vs0, d0, ds0, p0, q0, hargs, rfl, rfl, h0, r_0⟩ := trodAll_cons hA
    obtain ⟨v1, vs1, d1, ds1, p1, q1, rfl, rfl, rfl, h1, r_1⟩ := trodAll_cons r_0
    obtain ⟨v2, vs2, d2, ds2, p2, q2, rfl, rfl, rfl, h2, r_2⟩ := trodAll_cons r_1
    obtain ⟨rfl, rfl, rfl⟩ := trodAll_nil r_2
    obtain rfl : args = #[v0, v1, v2] := by cases args; simp_all
    obtain ⟨a0, rfl, rfl, rfl, w0⟩ := open_int Try.underlying3 (hval 0 3 v0 rfl rfl) h0
    obtain ⟨A1, n1, c1, rfl⟩ := okWide_slice Try.underlying30 (hval 1 30 v1 rfl rfl)
    have r1 := ReadsAs.of_trod hsz (j := 1) rfl rfl h1
    obtain ⟨a2, rfl, rfl, rfl, w2⟩ := open_int Try.underlying3 (hval 2 3 v2 rfl rfl) h2
    obtain ⟨A, R, cap, hcs, hlen, _, hR⟩ := r1.ints Try.underlying30 Try.underlying3 int_cells (by kernel_rfl)
    simp only [Value.cells, List.cons.injEq, Value.slice.injEq, and_true] at hcs
    obtain ⟨rfl, rfl, rfl⟩ := hcs
    exact TagVector_walk a0 a2 w0 w2 _ R _ W hR hlen

theorem TagVector_holds : Rows.TagVectorSaid :=
  OpenClaim.holds_of_wide 6 Try.f6 rfl rfl rfl rfl rfl rfl rfl ⟨rfl, rfl, rfl, rfl, rfl⟩ rfl rfl rfl rfl rfl (by kernel_rfl) Try.func6 (by kernel_rfl)
    (of_decide_eq_true (by kernel_rfl)) (by unfold Func.isWrapper; first | (rw [if_pos (by decide +kernel)]; kernel_rfl) | (rw [if_neg (by decide +kernel)]; exact ⟨rfl, rfl⟩))
    (fun os started H enc _ => TagVector_lifted os started H enc)
end Go.Proofs.Ytjnaenmknbcjmaa
