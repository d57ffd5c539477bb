/- A double is the same, behind all others, which stay as they are: the statement BagDouble holds. For every input. -/
import Derived.Test.YtkfekkemfahepaaBagQ
namespace Go.Proofs.Ytkfekkemfahepaa
open Go.ChangeShapes Go.WideShapes Go.ChangeAt Go.RowKit

set_option maxHeartbeats 4000000 in
set_option maxRecDepth 20000 in
theorem BagDouble_walk (A : Option Addr) (R : List Int) (c : Nat) (at_ : Int) (wat : (Lit.int .i64 at_).wf = true) (w : World) (hR : Ints w A R) (hlen : R.length * 8 ≤ 140737488351232) (hwf : ∀ x ∈ R, (Lit.int .i64 x).wf = true) :
    Calls Try.prog 7 #[.slice A R.length c, .int .i64 at_] w fun e w' => e = .returned (.bool true) ∧ Kept w w' := by
  go_enter Try.func7, Try.ntmps7
  go_wp2_with fail
  refine (law_works _).mono ?_
  rintro e W1 ⟨rfl, hu⟩
  go_wp2_with fail
  refine (law_played _ R _ w W1 hu hR hlen hwf).mono ?_
  rintro e W2 ⟨b, p, t, N, s, l, P, T, rfl, h, hp⟩
  have HP := Lib.hid hp
  have HWF := Lib.hid hwf
  clear hu hp hwf hR
  have hN60 := HP.out.n
  have hs0 := HP.out.s0
  have hs1 := HP.out.s1
  have hl0 := HP.out.l0
  have hl1 := HP.out.l1
  go_wp2_with fail
  refine h.Len.mono ?_
  rintro e W3 ⟨rfl, rfl⟩
  go_wp2_with fail
  refine h.Sent.mono ?_
  rintro e W3 ⟨rfl, rfl⟩
  rcases Nat.eq_zero_or_pos N.length with h0 | h0
  · have h0i : (N.length : Int) = 0 := by omega
    rw [h0i]
    go_wp2_with fail
    refine (h.Double_no at_ (by omega)).mono ?_
    rintro e W4 ⟨rfl, h'⟩
    clear h
    have h := h'
    clear h'
    go_wp2
    go_ret
    exact ⟨rfl, h.k⟩
  · have hn0 : (0 : Int) < N.length := by omega
    have hn1 : (N.length : Int) ≠ 0 := by omega
    go_wp2_with fail
    refine (ref_Bring _ _ wat (by omega) (by omega) _).mono ?_
    rintro e W4 ⟨rfl, rfl⟩
    obtain ⟨a, hqa, ha⟩ : ∃ a : Nat, at_ % N.length = a ∧ a < N.length := by
      have h1 := Int.emod_nonneg at_ hn1
      have h2 := Int.emod_lt_of_pos at_ hn0
      exact ⟨(at_ % N.length).toNat, by omega, by omega⟩
    rw [hqa]
    clear hqa
    go_wp2_with fail
    refine (h.Look a ha).mono ?_
    rintro e W5 ⟨x, rfl, h'⟩
    clear h
    have h := h'.alloc (.cells (envA x) 29)
    clear h'
    go_wp2_with fail
    generalize W5.alloc (.cells (envA x) 29) = W6 at *
    generalize W5.heap.size = g1 at *
    refine (h.Double hs0 (by omega) (by omega) a ha).mono ?_
    rintro e W7 ⟨rfl, h'⟩
    clear h
    have h := h'
    clear h'
    have hm1 : (N ++ [N[a]])[N.length]'(by simp) = N[a] := by simp
    have hm2 : (N ++ [N[a]])[a]'(by simp; omega) = N[a] := by rw [List.getElem_append_left]
    have hln : ((N ++ [N[a]]).length : Int) = N.length + 1 := by simp
    have hM := Lib.hid (And.intro hm1 (And.intro hm2 hln))
    clear hm1 hm2 hln
    go_wp2_with fail
    refine (h.Look N.length (by simp)).mono ?_
    rw [hM.out.1]
    rintro e W8 ⟨y, rfl, h'⟩
    clear h
    have h := h'.alloc (.cells (envA y) 29)
    clear h'
    go_wp2_with fail
    generalize W8.alloc (.cells (envA y) 29) = W9 at *
    generalize W8.heap.size = g2 at *
    refine (h.Look a (by simp; omega)).mono ?_
    rw [hM.out.2.1]
    rintro e Wa ⟨z, rfl, h'⟩
    clear h
    have h := h'.alloc (.cells (envA z) 29)
    clear h'
    have v1 := h.var (g := g1) (x := x) (by simp)
    have v2 := h.var (g := g2) (x := y) (by simp)
    have v3 := h.var (g := Wa.heap.size) (x := z) (by simp)
    have a1 := v1.s1
    have a2 := v1.s2
    have b1 := v2.s1
    have b2 := v2.s2
    have c1 := v3.s1
    have c2 := v3.s2
    clear v1 v2 v3
    generalize hm : N[a] = m at *
    go_wp2_with fail
    generalize Wa.alloc (.cells (envA z) 29) = Wb at *
    refine (ref_Same (h.y (x, m) (by simp)).at_ (h.y (y, m) (by simp)).at_).mono ?_
    rw [decide_eq_true rfl]
    rintro e Wc ⟨rfl, hu⟩
    replace h := h.kept hu
    have v1 := h.var (g := g1) (x := x) (by simp)
    have v3 := h.var (g := Wa.heap.size) (x := z) (by simp)
    clear a1 a2 b1 b2 c1 c2 hu
    have a1 := v1.s1
    have a2 := v1.s2
    have c1 := v3.s1
    have c2 := v3.s2
    clear v1 v3
    go_wp2_with fail
    refine (ref_Same (h.y (x, m) (by simp)).at_ (h.y (z, m) (by simp)).at_).mono ?_
    rw [decide_eq_true rfl]
    rintro e Wd ⟨rfl, hu⟩
    replace h := h.kept hu
    clear hu a1 a2 c1 c2
    go_wp2_with fail
    refine h.Len.mono ?_
    rw [hM.out.2.2]
    rintro e We ⟨rfl, rfl⟩
    go_wp2_with fail
    refine h.Sent.mono ?_
    rintro e We ⟨rfl, rfl⟩
    go_wp2
    go_ret
    exact ⟨rfl, h.k⟩
set_option maxRecDepth 100000 in
theorem BagDouble_lifted (os : Os) (started : os.Started) (H : Type) (enc : TypeId × Value → H) :
    ReturnsInHanded {} Try.checked os 7 .any (Rows.bagDoubleSpec.pre6 enc Try.prog Try.f7 Rows.bagDoubleRow.domain false) (Rows.bagDoubleSpec.post enc Try.prog Try.f7 false true false false) := by
  refine law_lifted os started Try.func7 (by kernel_rfl) rfl rfl (by kernel_rfl) ?_
    (ChangeSpec.witness6 (enc := enc) (C := Try.checked) false ⟨#[], #[.slice none 0 0, .int .i64 0], []⟩ 8 (by kernel_rfl) (by kernel_rfl) (by kernel_rfl) (by kernel_rfl)) ?_
  · intro ds h
    rw [Try.params7] at h
    match ds, h with
    | [d0, d1], _ => rfl
  · intro W base args ds ps hval hA hsz
    rw [Try.params7] at hA hval hsz
    obtain ⟨v0, vs0, d0, ds0, p0, q0, hargs, rfl, rfl, h0, r_0⟩ := trodAll_cons hA
    obtain ⟨v1, vs1, d1, ds1, p1, q1, rfl, rfl, rfl, h1, r_1⟩ := trodAll_cons r_0
    obtain ⟨rfl, rfl, rfl⟩ := trodAll_nil r_1
    obtain rfl : args = #[v0, v1] := by cases args; simp_all
    obtain ⟨A0, n0, c0, rfl⟩ := okWide_slice Try.underlying44 (hval 0 44 v0 rfl rfl)
    have r0 := ReadsAs.of_trod hsz (j := 0) rfl rfl h0
    obtain ⟨a1, rfl, rfl, rfl, w1⟩ := open_int Try.underlying3 (hval 1 3 v1 rfl rfl) h1
    obtain ⟨A, R, cap, hcs, hlen, hwf, hR⟩ := r0.ints Try.underlying44 Try.underlying3 int_cells (by kernel_rfl)
    simp only [Value.cells, List.cons.injEq, Value.slice.injEq, and_true] at hcs
    obtain ⟨rfl, rfl, rfl⟩ := hcs
    exact BagDouble_walk _ R _ a1 w1 W hR hlen hwf

theorem BagDouble_holds : Rows.BagDoubleSaid :=
  OpenClaim.holds_of_wide 7 Try.f7 rfl rfl rfl rfl rfl rfl rfl ⟨rfl, rfl, rfl, rfl, rfl⟩ rfl rfl rfl rfl rfl (by kernel_rfl) Try.func7 (by kernel_rfl)
    (of_decide_eq_true (by kernel_rfl)) (by unfold Func.isWrapper; first | (rw [if_pos (by decide +kernel)]; kernel_rfl) | (rw [if_neg (by decide +kernel)]; exact ⟨rfl, rfl⟩))
    (fun os started H enc _ => BagDouble_lifted os started H enc)
end Go.Proofs.Ytkfekkemfahepaa
