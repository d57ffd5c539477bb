/- The statements' helper works. -/
import Derived.Test.YtkfekkemfahepaaBagL
namespace Go.Proofs.Ytkfekkemfahepaa
open Go.RowKit

set_option maxHeartbeats 4000000 in
set_option maxRecDepth 20000 in
theorem law_works (w : World) : Calls Try.prog 34 #[] w fun e w' => e = .returned (.bool true) ∧ Kept w w' := by
  go_enter Try.func34, Try.ntmps34
  go_wp2_with fail
  refine (LB.New w w (Upd.refl _ _)).mono ?_
  rintro e w1 ⟨b, rfl, h⟩
  go_wp2_with fail
  refine (law_note 1 2 10 _).mono ?_
  rintro e w2 ⟨y, rfl, hf, hu⟩
  replace h := h.kept hu
  clear hu
  go_wp2_with fail
  refine (h.Put (by omega) (by omega) hf.at_ (by decide) (by decide) (by simp) (by simp)).mono ?_
  rintro e w3 ⟨rfl, h'⟩
  clear h hf
  have h := h'
  clear h'
  replace h : LB w w3 b [(1, 2, [10])] 1 0 _ _ _ _ _ _ := h
  go_wp2_with fail
  refine (law_note 2 3 11 _).mono ?_
  rintro e w4 ⟨y, rfl, hf, hu⟩
  replace h := h.kept hu
  clear hu
  go_wp2_with fail
  refine (h.Put (by omega) (by omega) hf.at_ (by decide) (by decide) (by simp) (by simp)).mono ?_
  rintro e w5 ⟨rfl, h'⟩
  clear h hf
  have h := h'
  clear h'
  replace h : LB w w5 b [(1, 2, [10]), (2, 3, [11])] 2 0 _ _ _ _ _ _ := h
  go_wp2_with fail
  refine (law_note 1 3 12 _).mono ?_
  rintro e w6 ⟨y, rfl, hf, hu⟩
  replace h := h.kept hu
  clear hu
  go_wp2_with fail
  refine (h.Put (by omega) (by omega) hf.at_ (by decide) (by decide) (by simp) (by simp)).mono ?_
  rintro e w7 ⟨rfl, h'⟩
  clear h hf
  have h := h'
  clear h'
  replace h : LB w w7 b [(1, 2, [10]), (2, 3, [11]), (1, 3, [12])] 3 0 _ _ _ _ _ _ := h
  go_wp2_with fail
  refine (h.Next (by simp) 10).mono ?_
  rw [show nextM [(1, 2, [10]), (2, 3, [11]), (1, 3, [12])] 10 = 2 from by decide]
  rintro e w8 ⟨rfl, h'⟩
  clear h
  have h := h'
  clear h'
  go_wp2_with fail
  refine (h.Double (by omega) (by omega) (by simp) 0 (by simp)).mono ?_
  rintro e w9 ⟨rfl, h'⟩
  clear h
  replace h' : LB w w9 b [(1, 2, [10]), (2, 3, [11]), (1, 3, [12]), (1, 2, [10])] 4 0 _ _ _ _ _ _ := h'
  have h := h'
  clear h'
  go_wp2_with fail
  refine (h.Take (by simp) 1 (by simp)).mono ?_
  rintro e wa ⟨y1, rfl, h'⟩
  clear h
  replace h' : LB w wa b [(1, 2, [10]), (1, 3, [12]), (1, 2, [10])] 4 0 _ _ _ _ _ ((y1, (2, 3, [11])) :: _) := h'
  replace h' := h'.alloc (.cells (envA y1) 29)
  have h := h'
  clear h'
  go_wp2_with fail
  generalize wa.alloc (.cells (envA y1) 29) = wb at *
  generalize wa.heap.size = g1 at *
  refine (h.Drop (by simp) (by omega) (by omega) 0 (by simp)).mono ?_
  rintro e wc ⟨rfl, h'⟩
  clear h
  replace h' : LB w wc b [(1, 3, [12]), (1, 2, [10])] 4 1 _ _ _ _ _ _ := h'
  have h := h'
  clear h'
  go_wp2_with fail
  refine h.Len.mono ?_
  rintro e wd ⟨rfl, rfl⟩
  go_wp2_with fail
  refine h.Sent.mono ?_
  rintro e wd ⟨rfl, rfl⟩
  go_wp2_with fail
  refine h.Lost.mono ?_
  rintro e wd ⟨rfl, rfl⟩
  go_wp2_with fail
  refine (h.Take (by simp) 1 (by simp)).mono ?_
  rintro e we ⟨y2, rfl, h'⟩
  clear h
  replace h' : LB w we b [(1, 3, [12])] 4 1 _ _ _ _ _ ((y2, (1, 2, [10])) :: _) := h'
  replace h' := h'.alloc (.cells (envA y2) 29)
  have h := h'
  clear h'
  have v1 := h.var (g := g1) (x := y1) (by simp)
  have a1 := v1.s1
  have a2 := v1.s2
  go_wp2_with fail
  generalize we.alloc (.cells (envA y2) 29) = wf at *
  generalize we.heap.size = g2 at *
  refine (law_is (h.y (y1, (2, 3, [11])) (by simp)).at_ 0 2 3 11).mono ?_
  rintro e wg ⟨rfl, hu⟩
  replace h := h.kept hu
  have v2 := h.var (g := g2) (x := y2) (by simp)
  have b1 := v2.s1
  have b2 := v2.s2
  clear hu v1 a1 a2
  go_wp2_with fail
  refine (law_is (h.y (y2, (1, 2, [10])) (by simp)).at_ 0 1 2 10).mono ?_
  rintro e wh ⟨rfl, hu⟩
  replace h := h.kept hu
  clear hu v2 b1 b2
  go_wp2_with fail
  refine h.Len.mono ?_
  rintro e wd ⟨rfl, rfl⟩
  go_wp2
  go_ret
  exact ⟨rfl, h.k⟩
end Go.Proofs.Ytkfekkemfahepaa
