/- If the first one is taken again and again, all come in their order: the statement BagOrder holds. For every input. -/
import Derived.Test.YtkfekkemfahepaaBagM
namespace Go.Proofs.Ytkfekkemfahepaa
open Go.ChangeShapes Go.WideShapes Go.ChangeAt Go.RowKit

/-- the notes that are put -/
def nthN (R : List Int) (j : Nat) : Note := (1 + R.getD j 0 % 34, 1, [(j : Int)])
def putsN (R : List Int) (k : Nat) : List Note := (List.range k).map (nthN R)
theorem putsN_succ (R : List Int) (k : Nat) : putsN R (k + 1) = putsN R k ++ [nthN R k] := by simp [putsN, List.range_succ]
theorem putsN_length (R : List Int) (k : Nat) : (putsN R k).length = k := by simp [putsN]
theorem putsN_get (R : List Int) (n k : Nat) (hk : 0 < ((putsN R n).drop k).length) : ((putsN R n).drop k)[0] = nthN R k := by simp [putsN]
theorem putsN_tail (R : List Int) (n k : Nat) : ((putsN R n).drop k).eraseIdx 0 = (putsN R n).drop (k + 1) := by
  rw [List.eraseIdx_zero, List.tail_drop]

set_option maxHeartbeats 4000000 in
set_option maxRecDepth 20000 in
theorem BagOrder_walk (A : Option Addr) (R : List Int) (c : Nat) (w : World) (hR : Ints w A R) (hlen : R.length * 8 ≤ reachBytes) (hwf : ∀ x ∈ R, (Lit.int .i64 x).wf = true) :
    Calls Try.prog 5 #[.slice A R.length c] w fun e w' => e = .returned (.bool true) ∧ Kept w w' := by
  unfold reachBytes at hlen
  have HWF := Lib.hid hwf
  clear hwf
  go_enter Try.func5, Try.ntmps5
  go_wp2_with fail
  refine (law_works _).mono ?_
  rintro e W1 ⟨rfl, hu⟩
  go_wp2_with fail
  refine (LB.New w W1 hu).mono ?_
  rintro e W2 ⟨b, rfl, h⟩
  clear hu
  by_cases h60 : R.length ≤ 60
  · have h60i : (R.length : Int) ≤ 60 := by omega
    go_wp2_with fail
    clear h60i
    have hnR : R.length ≤ R.length := Nat.le_refl _
    have hn60 : R.length ≤ 60 := h60
    go_loopw [5] (fun i wr => ∃ k : Nat, k ≤ R.length ∧ i = .int .i64 k ∧ LB w wr b (putsN R k) k 0 (.slice none 0 0) [] (.slice none 0 0) [] [] []) (fun i _ => R.length - (intOf i).toNat)
    case atStart => exact ⟨0, Nat.zero_le _, rfl, h⟩
    case round =>
      clear h
      obtain ⟨k, hk, rfl, h⟩ := hrel
      by_cases hlt : k < R.length
      · have hkR : k < R.length := by omega
        obtain ⟨gb, off, rfl, hc0⟩ := (hR.kept h.k).get hkR
        have hw0 := HWF.out R[k] (List.getElem_mem hkR)
        have hx : Hid (R.getD k 0 = R[k]) := by show _ = _; simp [hkR]
        generalize R[k] = x at *
        have hk60 : (k : Int) < 60 := by omega
        go_wp2_with fail
        refine (ref_Bring _ _ hw0 (by omega) (by omega) _).mono ?_
        rintro e W3 ⟨rfl, rfl⟩
        have hm := mod_range x 34 (by omega)
        clear hc0
        obtain ⟨q, hq⟩ : ∃ q, q = x % 34 := ⟨_, rfl⟩
        rw [← hq] at hm ⊢
        have HQ := Lib.hid hq
        clear hq
        obtain ⟨hm0, hm1⟩ := hm
        have hu8 : IntKind.u8.wrap (k : Int) = k := by rw [IntKind.wrap_u8]; omega
        go_wp2_with fail
        refine (law_note (1 + q) 1 k _).mono ?_
        rintro e W4 ⟨y, rfl, hf, hu⟩
        replace h := h.kept hu
        clear hu
        go_wp2_with fail
        refine (h.Put (by omega) (by omega) hf.at_ (by simp [namedB]; omega) (show namedB 1 = true by decide) (by simp) (by rw [putsN_length]; omega)).mono ?_
        rintro e W5 ⟨rfl, h'⟩
        clear h hf
        have HL : Hid (LB w W5 b (putsN R (k + 1)) (k + 1) 0 (.slice none 0 0) [] (.slice none 0 0) [] [] []) := by
          show LB _ _ _ _ _ _ _ _ _ _ _ _
          rw [putsN_succ, nthN, hx.out, ← HQ.out]
          exact h'
        clear h' hu8
        go_wp2
        go_roundw
        case rel => exact ⟨k + 1, by omega, by go_num, HL.out⟩
        case measure => simp [intOf]; omega
      · obtain rfl : R.length = k := by omega
        clear hlt hk
        go_wp2_with fail
        go_loopw [6] (fun i wr => ∃ k : Nat, k ≤ R.length ∧ i = .int .i64 k ∧ LB w wr b ((putsN R (R.length)).drop k) R.length 0 (.slice none 0 0) [] (.slice none 0 0) [] [] []) (fun i _ => R.length - (intOf i).toNat)
        case atStart => exact ⟨0, Nat.zero_le _, rfl, h⟩
        case round =>
          clear h
          obtain ⟨k, hk, rfl, h⟩ := hrel
          have hNl : ((putsN R (R.length)).drop k).length = R.length - k := by rw [List.length_drop, putsN_length]
          by_cases hlt : k < R.length
          · have hkR : k < R.length := by omega
            obtain ⟨gb, off, hA, hc0⟩ := hR.get hkR
            subst hA
            have hw0 := HWF.out R[k] (List.getElem_mem hkR)
            have hx : Hid (R.getD k 0 = R[k]) := by show _ = _; simp [hkR]
            generalize R[k] = x at *
            have hk60 : (k : Int) < 60 := by omega
            have hu8 : IntKind.u8.wrap (k : Int) = k := by rw [IntKind.wrap_u8]; omega
            go_wp2_with fail
            refine (h.Take (by omega) 0 (by omega)).mono ?_
            rw [putsN_get, putsN_tail]
            rintro e W3 ⟨y, rfl, h'⟩
            clear h hNl
            have h := h'.alloc (.cells (envA y) 29)
            clear h'
            go_wp2_with fail
            generalize W3.alloc (.cells (envA y) 29) = W4 at *
            generalize W3.heap.size = g at *
            have f1 : ∀ W, (Kept w W ∧ EnvAt W g y) → W.cell? ⟨gb, off + k, none⟩ = some (.int .i64 x) := fun W hW => hW.1.cell hc0 id
            have f2 : ∀ W, (Kept w W ∧ EnvAt W g y) → segB W ⟨g, 0, none⟩ 3 = true := fun W hW => hW.2.s1
            have f3 : ∀ W, (Kept w W ∧ EnvAt W g y) → segV W ⟨g, 0, none⟩ 3 = envA y := fun W hW => hW.2.s2
            replace h := h.drew
            have hS : Kept w W4.drew ∧ EnvAt W4.drew g y := ⟨h.k, h.var (by simp)⟩
            refine wp_region_ord [(0, true), (1, true), (2, true), (3, true), (4, true), (5, true), (8, true), (9, true), (6, false), (7, true), (10, false), (11, true)] (by kernel_rfl) (by kernel_rfl) (fun W => Kept w W ∧ EnvAt W g y) hS ?_
            simp only [ordOps, List.getD_cons_zero, List.getD_cons_succ]
            iterate 8 (refine wpOrd_held (fun K hK => ?_); go_simp; first | (apply Exists.intro; refine ⟨fun W hW => ?_, hK _ ?_⟩; (go_simp; first | done | exact rfl); clear hK K) | (refine hK _ ?_; clear hK K))
            refine wpOrd_step (fun K hK => ?_) hS
            go_simp
            refine (ref_Bring _ _ hw0 (by omega) (by omega) _).mono ?_
            rintro e W5 ⟨rfl, rfl⟩
            refine hK _ _ hS ?_
            clear hK K
            have hm := mod_range x 34 (by omega)
            obtain ⟨q, hq⟩ : ∃ q, q = x % 34 := ⟨_, rfl⟩
            rw [← hq] at hm ⊢
            have HQ := Lib.hid hq
            clear hq
            obtain ⟨hm0, hm1⟩ := hm
            have hwq : IntKind.i64.wrap (1 + q) = 1 + q := by rw [IntKind.wrap_i64]; omega
            iterate 1 (refine wpOrd_held (fun K hK => ?_); go_simp; first | (apply Exists.intro; refine ⟨fun W hW => ?_, hK _ ?_⟩; (go_simp; first | done | exact rfl); clear hK K) | (refine hK _ ?_; clear hK K))
            refine wpOrd_step (fun K hK => ?_) hS
            go_simp
            refine (law_is (h.y (y, nthN R k) (by simp)).at_ 0 (1 + q) 1 k).mono ?_
            rw [show decide (nthN R k = (1 + q, 1, [(k : Int)])) = true by rw [nthN, hx.out, ← HQ.out]; simp]
            rintro e W5 ⟨rfl, hu⟩
            replace h := h.kept hu
            have hS5 : Kept w W5 ∧ EnvAt W5 g y := ⟨h.k, h.var (by simp)⟩
            refine hK _ _ hS5 ?_
            clear hK K
            iterate 1 (refine wpOrd_held (fun K hK => ?_); go_simp; first | (apply Exists.intro; refine ⟨fun W hW => ?_, hK _ ?_⟩; (go_simp; first | done | exact rfl); clear hK K) | (refine hK _ ?_; clear hK K))
            refine wpOrd_nil ?_
            clear f1 f2 f3 hS hS5 hu hu8 hwq hc0
            replace h := h.less (G' := []) (Y' := []) (by simp) (by simp)
            go_wp2
            go_roundw
            case rel => exact ⟨k + 1, by omega, by go_num, h⟩
            case measure => simp [intOf]; omega
          · obtain rfl : R.length = k := by omega
            have hN0 : (putsN R (R.length)).drop (R.length) = [] := List.eq_nil_of_length_eq_zero (by omega)
            rw [hN0] at h
            clear hlt hk hNl hN0
            go_wp2_with fail
            refine (h.Take_no 0 (.inr (by simp))).mono ?_
            rintro e W3 ⟨rfl, h'⟩
            clear h
            have h := h'.alloc (.cells (envA envZ) 29)
            clear h'
            go_wp2_with fail
            refine h.Len.mono ?_
            rintro e W4 ⟨rfl, rfl⟩
            go_wp2
            go_ret
            exact ⟨rfl, h.k⟩
  · have h60i : (60 : Int) < R.length := by omega
    go_wp2_with fail
    clear h60i
    obtain ⟨n, hn⟩ : ∃ n : Nat, n = 60 := ⟨_, rfl⟩
    rw [show Value.int .i64 60 = Value.int .i64 (n : Int) by rw [hn]; rfl]
    have hnR : n ≤ R.length := by omega
    have hn60 : n ≤ 60 := by omega
    clear hn h60
    go_loopw [5] (fun i wr => ∃ k : Nat, k ≤ n ∧ i = .int .i64 k ∧ LB w wr b (putsN R k) k 0 (.slice none 0 0) [] (.slice none 0 0) [] [] []) (fun i _ => n - (intOf i).toNat)
    case atStart => exact ⟨0, Nat.zero_le _, rfl, h⟩
    case round =>
      clear h
      obtain ⟨k, hk, rfl, h⟩ := hrel
      by_cases hlt : k < n
      · have hkR : k < R.length := by omega
        obtain ⟨gb, off, rfl, hc0⟩ := (hR.kept h.k).get hkR
        have hw0 := HWF.out R[k] (List.getElem_mem hkR)
        have hx : Hid (R.getD k 0 = R[k]) := by show _ = _; simp [hkR]
        generalize R[k] = x at *
        have hk60 : (k : Int) < 60 := by omega
        go_wp2_with fail
        refine (ref_Bring _ _ hw0 (by omega) (by omega) _).mono ?_
        rintro e W3 ⟨rfl, rfl⟩
        have hm := mod_range x 34 (by omega)
        clear hc0
        obtain ⟨q, hq⟩ : ∃ q, q = x % 34 := ⟨_, rfl⟩
        rw [← hq] at hm ⊢
        have HQ := Lib.hid hq
        clear hq
        obtain ⟨hm0, hm1⟩ := hm
        have hu8 : IntKind.u8.wrap (k : Int) = k := by rw [IntKind.wrap_u8]; omega
        go_wp2_with fail
        refine (law_note (1 + q) 1 k _).mono ?_
        rintro e W4 ⟨y, rfl, hf, hu⟩
        replace h := h.kept hu
        clear hu
        go_wp2_with fail
        refine (h.Put (by omega) (by omega) hf.at_ (by simp [namedB]; omega) (show namedB 1 = true by decide) (by simp) (by rw [putsN_length]; omega)).mono ?_
        rintro e W5 ⟨rfl, h'⟩
        clear h hf
        have HL : Hid (LB w W5 b (putsN R (k + 1)) (k + 1) 0 (.slice none 0 0) [] (.slice none 0 0) [] [] []) := by
          show LB _ _ _ _ _ _ _ _ _ _ _ _
          rw [putsN_succ, nthN, hx.out, ← HQ.out]
          exact h'
        clear h' hu8
        go_wp2
        go_roundw
        case rel => exact ⟨k + 1, by omega, by go_num, HL.out⟩
        case measure => simp [intOf]; omega
      · obtain rfl : n = k := by omega
        clear hlt hk
        go_wp2_with fail
        go_loopw [6] (fun i wr => ∃ k : Nat, k ≤ n ∧ i = .int .i64 k ∧ LB w wr b ((putsN R (n)).drop k) n 0 (.slice none 0 0) [] (.slice none 0 0) [] [] []) (fun i _ => n - (intOf i).toNat)
        case atStart => exact ⟨0, Nat.zero_le _, rfl, h⟩
        case round =>
          clear h
          obtain ⟨k, hk, rfl, h⟩ := hrel
          have hNl : ((putsN R (n)).drop k).length = n - k := by rw [List.length_drop, putsN_length]
          by_cases hlt : k < n
          · have hkR : k < R.length := by omega
            obtain ⟨gb, off, hA, hc0⟩ := hR.get hkR
            subst hA
            have hw0 := HWF.out R[k] (List.getElem_mem hkR)
            have hx : Hid (R.getD k 0 = R[k]) := by show _ = _; simp [hkR]
            generalize R[k] = x at *
            have hk60 : (k : Int) < 60 := by omega
            have hu8 : IntKind.u8.wrap (k : Int) = k := by rw [IntKind.wrap_u8]; omega
            go_wp2_with fail
            refine (h.Take (by omega) 0 (by omega)).mono ?_
            rw [putsN_get, putsN_tail]
            rintro e W3 ⟨y, rfl, h'⟩
            clear h hNl
            have h := h'.alloc (.cells (envA y) 29)
            clear h'
            go_wp2_with fail
            generalize W3.alloc (.cells (envA y) 29) = W4 at *
            generalize W3.heap.size = g at *
            have f1 : ∀ W, (Kept w W ∧ EnvAt W g y) → W.cell? ⟨gb, off + k, none⟩ = some (.int .i64 x) := fun W hW => hW.1.cell hc0 id
            have f2 : ∀ W, (Kept w W ∧ EnvAt W g y) → segB W ⟨g, 0, none⟩ 3 = true := fun W hW => hW.2.s1
            have f3 : ∀ W, (Kept w W ∧ EnvAt W g y) → segV W ⟨g, 0, none⟩ 3 = envA y := fun W hW => hW.2.s2
            replace h := h.drew
            have hS : Kept w W4.drew ∧ EnvAt W4.drew g y := ⟨h.k, h.var (by simp)⟩
            refine wp_region_ord [(0, true), (1, true), (2, true), (3, true), (4, true), (5, true), (8, true), (9, true), (6, false), (7, true), (10, false), (11, true)] (by kernel_rfl) (by kernel_rfl) (fun W => Kept w W ∧ EnvAt W g y) hS ?_
            simp only [ordOps, List.getD_cons_zero, List.getD_cons_succ]
            iterate 8 (refine wpOrd_held (fun K hK => ?_); go_simp; first | (apply Exists.intro; refine ⟨fun W hW => ?_, hK _ ?_⟩; (go_simp; first | done | exact rfl); clear hK K) | (refine hK _ ?_; clear hK K))
            refine wpOrd_step (fun K hK => ?_) hS
            go_simp
            refine (ref_Bring _ _ hw0 (by omega) (by omega) _).mono ?_
            rintro e W5 ⟨rfl, rfl⟩
            refine hK _ _ hS ?_
            clear hK K
            have hm := mod_range x 34 (by omega)
            obtain ⟨q, hq⟩ : ∃ q, q = x % 34 := ⟨_, rfl⟩
            rw [← hq] at hm ⊢
            have HQ := Lib.hid hq
            clear hq
            obtain ⟨hm0, hm1⟩ := hm
            have hwq : IntKind.i64.wrap (1 + q) = 1 + q := by rw [IntKind.wrap_i64]; omega
            iterate 1 (refine wpOrd_held (fun K hK => ?_); go_simp; first | (apply Exists.intro; refine ⟨fun W hW => ?_, hK _ ?_⟩; (go_simp; first | done | exact rfl); clear hK K) | (refine hK _ ?_; clear hK K))
            refine wpOrd_step (fun K hK => ?_) hS
            go_simp
            refine (law_is (h.y (y, nthN R k) (by simp)).at_ 0 (1 + q) 1 k).mono ?_
            rw [show decide (nthN R k = (1 + q, 1, [(k : Int)])) = true by rw [nthN, hx.out, ← HQ.out]; simp]
            rintro e W5 ⟨rfl, hu⟩
            replace h := h.kept hu
            have hS5 : Kept w W5 ∧ EnvAt W5 g y := ⟨h.k, h.var (by simp)⟩
            refine hK _ _ hS5 ?_
            clear hK K
            iterate 1 (refine wpOrd_held (fun K hK => ?_); go_simp; first | (apply Exists.intro; refine ⟨fun W hW => ?_, hK _ ?_⟩; (go_simp; first | done | exact rfl); clear hK K) | (refine hK _ ?_; clear hK K))
            refine wpOrd_nil ?_
            clear f1 f2 f3 hS hS5 hu hu8 hwq hc0
            replace h := h.less (G' := []) (Y' := []) (by simp) (by simp)
            go_wp2
            go_roundw
            case rel => exact ⟨k + 1, by omega, by go_num, h⟩
            case measure => simp [intOf]; omega
          · obtain rfl : n = k := by omega
            have hN0 : (putsN R (n)).drop (n) = [] := List.eq_nil_of_length_eq_zero (by omega)
            rw [hN0] at h
            clear hlt hk hNl hN0
            go_wp2_with fail
            refine (h.Take_no 0 (.inr (by simp))).mono ?_
            rintro e W3 ⟨rfl, h'⟩
            clear h
            have h := h'.alloc (.cells (envA envZ) 29)
            clear h'
            go_wp2_with fail
            refine h.Len.mono ?_
            rintro e W4 ⟨rfl, rfl⟩
            go_wp2
            go_ret
            exact ⟨rfl, h.k⟩
set_option maxRecDepth 100000 in
theorem BagOrder_lifted (os : Os) (started : os.Started) (H : Type) (enc : TypeId × Value → H) :
    ReturnsInHanded {} Try.checked os 5 .any (Rows.bagOrderSpec.pre6 enc Try.prog Try.f5 Rows.bagOrderRow.domain false) (Rows.bagOrderSpec.post enc Try.prog Try.f5 false true false false) := by
  refine law_lifted os started Try.func5 (by kernel_rfl) rfl rfl (by kernel_rfl) ?_
    (ChangeSpec.witness6 (enc := enc) (C := Try.checked) false ⟨#[], #[.slice none 0 0], []⟩ 8 (by kernel_rfl) (by kernel_rfl) (by kernel_rfl) (by kernel_rfl)) ?_
  · intro ds h
    rw [Try.params5] at h
    match ds, h with
    | [d0], _ => rfl
  · intro W base args ds ps hval hA hsz
    rw [Try.params5] at hA hval hsz
    obtain ⟨v0, vs0, d0, ds0, p0, q0, hargs, rfl, rfl, h0, r_0⟩ := trodAll_cons hA
    obtain ⟨rfl, rfl, rfl⟩ := trodAll_nil r_0
    obtain rfl : args = #[v0] := by cases args; simp_all
    obtain ⟨A0, n0, c0, rfl⟩ := okWide_slice Try.underlying44 (hval 0 44 v0 rfl rfl)
    have r0 := ReadsAs.of_trod hsz (j := 0) rfl rfl h0
    obtain ⟨A, R, cap, hcs, hlen, hwf, hR⟩ := r0.ints Try.underlying44 Try.underlying3 int_cells (by kernel_rfl)
    simp only [Value.cells, List.cons.injEq, Value.slice.injEq, and_true] at hcs
    obtain ⟨rfl, rfl, rfl⟩ := hcs
    exact BagOrder_walk _ R _ W hR hlen hwf

theorem BagOrder_holds : Rows.BagOrderSaid :=
  OpenClaim.holds_of_wide 5 Try.f5 rfl rfl rfl rfl rfl rfl rfl ⟨rfl, rfl, rfl, rfl, rfl⟩ rfl rfl rfl rfl rfl (by kernel_rfl) Try.func5 (by kernel_rfl)
    (of_decide_eq_true (by kernel_rfl)) (by unfold Func.isWrapper; first | (rw [if_pos (by decide +kernel)]; kernel_rfl) | (rw [if_neg (by decide +kernel)]; exact ⟨rfl, rfl⟩))
    (fun os started H enc _ => BagOrder_lifted os started H enc)
end Go.Proofs.Ytkfekkemfahepaa
