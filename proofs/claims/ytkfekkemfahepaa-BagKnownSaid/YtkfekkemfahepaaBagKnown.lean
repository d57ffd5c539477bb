/- Both ends, bags that are none: the statement BagKnown holds. It has no arguments. -/
import Derived.Test.YtkfekkemfahepaaBagQ
import Derived.Test.YtkfekkemfahepaaBagN
namespace Go.Proofs.Ytkfekkemfahepaa
open Go.ChangeShapes Go.WideShapes Go.ChangeAt Go.RowKit

theorem nextK_hit {N : List Note} {set : Int} {k : Nat} (hk : k < N.length) (h : hitS set N[k] = true) (hno : ∀ j (hj : j < N.length), j < k → hitS set N[j] = false) : nextM N set = k := by
  unfold nextM
  have : N.findIdx? (hitS set) = some k := by
    rw [List.findIdx?_eq_some_iff_getElem]
    exact ⟨hk, h, fun j hj => by simpa using hno j (by omega) hj⟩
  rw [this]
theorem nextK_miss {N : List Note} {set : Int} (hno : ∀ m ∈ N, hitS set m = false) : nextM N set = -1 := by
  unfold nextM
  have : N.findIdx? (hitS set) = none := by
    rw [List.findIdx?_eq_none_iff]
    exact hno
  rw [this]
def noteM : Note := (34, 34, [])
theorem manyM_get {n j : Nat} (hj : j < (List.replicate n noteM).length) : (List.replicate n noteM)[j] = noteM := by simp

set_option maxHeartbeats 8000000 in
set_option maxRecDepth 20000 in
theorem BagKnown_walk (w : World) : Calls Try.prog 10 #[] w fun e w' => e = .returned (.bool true) ∧ Kept w w' := by
  go_enter Try.func10, Try.ntmps10
  go_wp2_with fail
  refine (LB.New w w (Upd.refl _ _)).mono ?_
  rintro e w1 ⟨b, rfl, h⟩
  go_wp2_with fail
  refine (law_note 0 2 1 _).mono ?_
  rintro e w2 ⟨y, rfl, hf, hu⟩
  replace h := h.kept hu
  clear hu
  go_wp2_with fail
  refine (h.Put_no hf.at_ (by decide)).mono ?_
  rintro e w3 ⟨rfl, h'⟩
  clear h hf
  have h := h'
  clear h'
  go_wp2_with fail
  refine (law_note 1 35 1 _).mono ?_
  rintro e w4 ⟨y, rfl, hf, hu⟩
  replace h := h.kept hu
  clear hu
  go_wp2_with fail
  refine (h.Put_no hf.at_ (by decide)).mono ?_
  rintro e w5 ⟨rfl, h'⟩
  clear h hf
  have h := h'
  clear h'
  go_wp2_with fail
  refine (law_note 1 0 1 _).mono ?_
  rintro e w6 ⟨y, rfl, hf, hu⟩
  replace h := h.kept hu
  clear hu
  go_wp2_with fail
  refine (h.Put_no hf.at_ (by decide)).mono ?_
  rintro e w7 ⟨rfl, h'⟩
  clear h hf
  have h := h'
  clear h'
  go_wp2_with fail
  refine (law_note 35 1 1 _).mono ?_
  rintro e w8 ⟨y, rfl, hf, hu⟩
  replace h := h.kept hu
  clear hu
  go_wp2_with fail
  refine (h.Put_no hf.at_ (by decide)).mono ?_
  rintro e w9 ⟨rfl, h'⟩
  clear h hf
  have h := h'
  clear h'
  go_wp2_with fail
  have hz := heap_alloc_new w9 (.cells (zerosN 65537) 5)
  replace h := (h.alloc (.cells (zerosN 65537) 5)).less (G' := []) (Y' := []) (by simp) (by simp)
  generalize w9.alloc (.cells (zerosN 65537) 5) = wa at *
  refine (h.Put_long (zeros_note 1 2 (by omega) hz) (by decide) (by decide) (.inl (by simp only [List.length_replicate]; omega))).mono ?_
  rw [if_pos (by simp only [List.length_replicate]; omega)]
  rintro e wb ⟨rfl, h'⟩
  clear h hz
  have h := h'
  clear h'
  go_wp2_with fail
  have hz := heap_alloc_new wb (.cells (zerosN 65537) 5)
  replace h := (h.alloc (.cells (zerosN 65537) 5)).less (G' := []) (Y' := []) (by simp) (by simp)
  generalize wb.alloc (.cells (zerosN 65537) 5) = wc at *
  refine (h.Put_no (zeros_note 0 2 (by omega) hz) (by simp [namedB])).mono ?_
  rintro e wd ⟨rfl, h'⟩
  clear h hz
  have h := h'
  clear h'
  go_wp2_with fail
  refine h.Len.mono ?_
  rintro e we ⟨rfl, rfl⟩
  go_wp2_with fail
  refine h.Sent.mono ?_
  rintro e we ⟨rfl, rfl⟩
  go_wp2_with fail
  refine (h.Next (by simp) (-1)).mono ?_
  rw [show nextM [] (-1) = -1 from rfl]
  rintro e we ⟨rfl, h'⟩
  clear h
  have h := h'
  clear h'
  go_wp2_with fail
  go_loopw [3] (fun i wr => ∃ k : Nat, k ≤ 4096 ∧ i = .int .i64 k ∧ LB w wr b (List.replicate k noteM) k 0 (.slice none 0 0) [] (.slice none 0 0) [] [] []) (fun i _ => 4096 - (intOf i).toNat)
  case atStart => exact ⟨0, Nat.zero_le _, rfl, h⟩
  case round =>
    clear h
    obtain ⟨k, hk, rfl, h⟩ := hrel
    by_cases hlt : k < 4096
    · go_wp2_with fail
      refine (h.Put (m := noteM) (by omega) (by omega) ⟨rfl, rfl, rfl, .inl rfl, by simp [noteM]⟩ (by decide) (by decide) (by simp [noteM]) (by rw [List.length_replicate]; exact hlt)).mono ?_
      rintro e W5 ⟨rfl, h'⟩
      have HL : Hid (LB w W5 b (List.replicate (k + 1) noteM) (k + 1) 0 (.slice none 0 0) [] (.slice none 0 0) [] [] []) := by
        show LB _ _ _ _ _ _ _ _ _ _ _ _
        rw [List.replicate_succ']
        exact h'
      clear h h'
      go_wp2
      go_roundw
      case rel => exact ⟨k + 1, by omega, by go_num, HL.out⟩
      case measure => simp [intOf]; omega
    · obtain rfl : k = 4096 := by omega
      have x1 : nextM (List.replicate 4096 noteM) 17179869184 = 0 := nextK_hit (k := 0) (by rw [List.length_replicate]; omega) (by rw [manyM_get]; decide) fun j _ hj => absurd hj (Nat.not_lt_zero j)
      have x2 : nextM (List.replicate 4096 noteM) 8589934592 = -1 := nextK_miss fun m hm => by rw [List.eq_of_mem_replicate hm]; decide
      have x3 : nextM (List.replicate 4096 noteM) 0 = -1 := nextK_miss fun m hm => by rw [List.eq_of_mem_replicate hm]; decide
      have x4 : (List.replicate 4096 noteM).eraseIdx 4095 = List.replicate 4095 noteM := by rw [List.eraseIdx_replicate]; simp
      have x5 : nextM (List.replicate 4095 noteM ++ [(1, 2, [1])]) 6 = (4095 : Nat) := nextK_hit (k := 4095) (by rw [List.length_append, List.length_replicate]; simp) (by rw [List.getElem_append_right (by rw [List.length_replicate]; omega)]; simp only [List.length_replicate]; decide) fun j hj hj2 => by
        rw [List.getElem_append_left (by rw [List.length_replicate]; omega), manyM_get]
        decide
      have x6 : nextM (List.replicate 4095 noteM ++ [(1, 2, [1])]) 4 = -1 := nextK_miss fun m hm => by
        rcases List.mem_append.1 hm with hm | hm
        · rw [List.eq_of_mem_replicate hm]; decide
        · rw [List.mem_singleton.1 hm]; decide
      have hl1 : (List.replicate 4096 noteM).length = 4096 := List.length_replicate ..
      have hl2 : (List.replicate 4095 noteM).length = 4095 := List.length_replicate ..
      have X := Lib.hid (And.intro x1 (And.intro x2 (And.intro x3 (And.intro x4 (And.intro x5 (And.intro x6 (And.intro hl1 hl2)))))))
      clear x1 x2 x3 x4 x5 x6 hl1 hl2 hlt hk
      generalize List.replicate 4096 noteM = N1 at *
      generalize List.replicate 4095 noteM = N2 at *
      obtain ⟨x1, x2, x3, x4, x5, x6, hl1, hl2⟩ := X.out
      clear x1 x2 x3 x4 x5 x6
      go_wp2_with fail
      refine (law_note 1 2 1 _).mono ?_
      rintro e wf ⟨y, rfl, hf, hu⟩
      replace h := h.kept hu
      clear hu
      go_wp2_with fail
      refine (h.Put_long hf.at_ (by decide) (by decide) (.inr (by omega))).mono ?_
      rintro e wg ⟨rfl, h'⟩
      clear h hf
      have h := h'
      clear h'
      go_wp2_with fail
      refine (law_note 0 2 1 _).mono ?_
      rintro e wh ⟨y, rfl, hf, hu⟩
      replace h := h.kept hu
      clear hu
      go_wp2_with fail
      refine (h.Put_no hf.at_ (by decide)).mono ?_
      rintro e wi ⟨rfl, h'⟩
      clear h hf
      have h := h'
      clear h'
      go_wp2_with fail
      refine (h.Double_full (by omega) 0 (by omega)).mono ?_
      rintro e wj ⟨rfl, h'⟩
      clear h
      have h := h'
      clear h'
      go_wp2_with fail
      refine (h.Double_no 4096 (.inr (by omega))).mono ?_
      rintro e wk ⟨rfl, h'⟩
      clear h
      have h := h'
      clear h'
      go_wp2_with fail
      refine h.Len.mono ?_
      rintro e wl ⟨rfl, rfl⟩
      rw [hl1]
      go_wp2_with fail
      refine h.Sent.mono ?_
      rintro e wl ⟨rfl, rfl⟩
      go_wp2_with fail
      refine (h.Next (by omega) 17179869184).mono ?_
      rw [X.out.1]
      rintro e wm ⟨rfl, h'⟩
      clear h
      have h := h'
      clear h'
      go_wp2_with fail
      refine (h.Next (by omega) 8589934592).mono ?_
      rw [X.out.2.1]
      rintro e wn ⟨rfl, h'⟩
      clear h
      have h := h'
      clear h'
      go_wp2_with fail
      refine (h.Next (by omega) 0).mono ?_
      rw [X.out.2.2.1]
      rintro e wo ⟨rfl, h'⟩
      clear h
      have h := h'
      clear h'
      go_wp2_with fail
      refine (h.Drop (by omega) (by omega) (by omega) 4095 (by omega)).mono ?_
      rw [X.out.2.2.2.1]
      rintro e wp ⟨rfl, h'⟩
      clear h
      have h := h'
      clear h'
      go_wp2_with fail
      refine (law_note 1 2 1 _).mono ?_
      rintro e wq ⟨y, rfl, hf, hu⟩
      replace h := h.kept hu
      clear hu
      go_wp2_with fail
      refine (h.Put (by omega) (by omega) hf.at_ (by decide) (by decide) (by simp) (by omega)).mono ?_
      rintro e wr ⟨rfl, h'⟩
      clear h hf
      have h := h'
      clear h'
      go_wp2_with fail
      refine (h.Next (by rw [List.length_append]; simp; omega) 6).mono ?_
      rw [X.out.2.2.2.2.1]
      rintro e ws ⟨rfl, h'⟩
      clear h
      have h := h'
      clear h'
      go_wp2_with fail
      refine (h.Next (by rw [List.length_append]; simp; omega) 4).mono ?_
      rw [X.out.2.2.2.2.2.1]
      rintro e wt ⟨rfl, h'⟩
      clear h
      have h := h'
      clear h'
      have HK := Lib.hid h.k
      clear h X hl1 hl2
      go_wp2_with fail
      refine (LB.New w _ HK.out).mono ?_
      rintro e wu ⟨b2, rfl, h⟩
      clear HK
      have hz := heap_alloc_new wu (.cells (zerosN 65536) 5)
      replace h := (h.alloc (.cells (zerosN 65536) 5)).less (G' := []) (Y' := []) (by simp) (by simp)
      go_wp2_with fail
      generalize wu.alloc (.cells (zerosN 65536) 5) = wv at *
      refine (h.Put (by omega) (by omega) (zeros_note 1 2 (by omega) hz) (by simp [namedB]) (by simp [namedB]) (by simp only [List.length_replicate]; omega) (by simp)).mono ?_
      rintro e ww ⟨rfl, h'⟩
      clear h hz
      have h := h'
      clear h'
      go_wp2_with fail
      refine h.Len.mono ?_
      rw [List.nil_append, List.length_singleton]
      rintro e wx ⟨rfl, rfl⟩
      have HK := Lib.hid h.k
      clear h
      go_wp2_with fail
      go_loopw [7, 8] (fun p i wr => ∃ k : Nat, ∃ q, k ≤ 2 ∧ i = .int .i64 k ∧ p = .pointer q ∧ NoneB wr q ∧ Kept w wr) (fun _ i _ => 2 - (intOf i).toNat)
      case atStart => exact ⟨0, none, Nat.zero_le _, rfl, rfl, .inl rfl, HK.out⟩
      case round =>
        clear HK
        obtain ⟨k, q, hk, rfl, rfl, hN, hu⟩ := hrel
        have HU := Lib.hid hu
        clear hu
        by_cases hlt : k < 2
        · go_wp2_with fail
          refine (noneb_Look hN 0).mono ?_
          rintro e x1 ⟨rfl, hu⟩
          replace hu := hu.alloc (.cells (envA envZ) 29)
          replace hN := hN.kept hu
          replace HU := Lib.hid (HU.out.then hu (fun _ _ h => h))
          clear hu
          go_wp2_with fail
          generalize x1.alloc (.cells (envA envZ) 29) = x2 at *
          refine (noneb_Take hN 0).mono ?_
          rintro e x3 ⟨rfl, hu⟩
          replace hu := hu.alloc (.cells (envA envZ) 29)
          replace hN := hN.kept hu
          replace HU := Lib.hid (HU.out.then hu (fun _ _ h => h))
          clear hu
          go_wp2_with fail
          generalize x3.alloc (.cells (envA envZ) 29) = x4 at *
          refine (law_note 1 2 1 _).mono ?_
          rintro e x5 ⟨y, rfl, hf, hu⟩
          replace hN := hN.kept hu
          replace HU := Lib.hid (HU.out.then hu (fun _ _ h => h))
          clear hu
          clear hf
          go_wp2_with fail
          refine (noneb_Put hN y).mono ?_
          rintro e x6 ⟨rfl, hu⟩
          replace hN := hN.kept hu
          replace HU := Lib.hid (HU.out.then hu (fun _ _ h => h))
          clear hu
          go_wp2_with fail
          refine (noneb_Drop hN 0).mono ?_
          rintro e x7 ⟨rfl, hu⟩
          replace hN := hN.kept hu
          replace HU := Lib.hid (HU.out.then hu (fun _ _ h => h))
          clear hu
          go_wp2_with fail
          refine (noneb_Double hN 0).mono ?_
          rintro e x8 ⟨rfl, hu⟩
          replace hN := hN.kept hu
          replace HU := Lib.hid (HU.out.then hu (fun _ _ h => h))
          clear hu
          go_wp2_with fail
          refine (noneb_Next hN (-1)).mono ?_
          rintro e x9 ⟨rfl, hu⟩
          replace hN := hN.kept hu
          replace HU := Lib.hid (HU.out.then hu (fun _ _ h => h))
          clear hu
          go_wp2_with fail
          refine (noneb_Len hN).mono ?_
          rintro e xa ⟨rfl, rfl⟩
          go_wp2_with fail
          refine (noneb_Sent hN).mono ?_
          rintro e xa ⟨rfl, rfl⟩
          go_wp2_with fail
          refine (noneb_Lost hN).mono ?_
          rintro e xa ⟨rfl, rfl⟩
          go_wp2
          go_roundw
          case rel => exact ⟨k + 1, _, by omega, by go_num, rfl, .inr ⟨_, rfl, heap_alloc_new _ _⟩, HU.out.alloc _⟩
          case measure => simp [intOf]; omega
        · obtain rfl : k = 2 := by omega
          go_wp2_with fail
          refine (law_works _).mono ?_
          rintro e x1 ⟨rfl, hu⟩
          replace HU := Lib.hid (HU.out.then hu (fun _ _ h => h))
          clear hu
          go_wp2
          go_ret
          exact ⟨rfl, HU.out⟩
set_option maxRecDepth 100000 in
theorem BagKnown_lifted (os : Os) (started : os.Started) (H : Type) (enc : TypeId × Value → H) :
    ReturnsInHanded {} Try.checked os 10 .any (Rows.bagKnownSpec.pre6 enc Try.prog Try.f10 Rows.bagKnownRow.domain false) (Rows.bagKnownSpec.post enc Try.prog Try.f10 false true false false) := by
  refine law_lifted os started Try.func10 (by kernel_rfl) rfl rfl (by kernel_rfl) ?_
    (ChangeSpec.witness6 (enc := enc) (C := Try.checked) false ⟨#[], #[], []⟩ 8 (by kernel_rfl) (by kernel_rfl) (by kernel_rfl) (by kernel_rfl)) ?_
  · intro ds h
    rw [Try.params10] at h
    match ds, h with
    | [], _ => rfl
  · intro W base args ds ps hval hA _
    rw [Try.params10] at hA
    obtain ⟨hargs, rfl, rfl⟩ := trodAll_nil hA
    obtain rfl : args = #[] := by cases args; simp_all
    exact BagKnown_walk W

theorem BagKnown_holds : Rows.BagKnownSaid :=
  OpenClaim.holds_of_wide 10 Try.f10 rfl rfl rfl rfl rfl rfl rfl ⟨rfl, rfl, rfl, rfl, rfl⟩ rfl rfl rfl rfl rfl (by kernel_rfl) Try.func10 (by kernel_rfl)
    (of_decide_eq_true (by kernel_rfl)) (by unfold Func.isWrapper; first | (rw [if_pos (by decide +kernel)]; kernel_rfl) | (rw [if_neg (by decide +kernel)]; exact ⟨rfl, rfl⟩))
    (fun os started H enc _ => BagKnown_lifted os started H enc)
end Go.Proofs.Ytkfekkemfahepaa
