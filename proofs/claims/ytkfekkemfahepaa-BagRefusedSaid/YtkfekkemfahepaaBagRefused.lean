/- What is refused changes nothing: the statement BagRefused holds. For every input. -/
import Derived.Test.YtkfekkemfahepaaBagQ
import Derived.Test.YtkfekkemfahepaaBagO
namespace Go.Proofs.Ytkfekkemfahepaa
open Go.ChangeShapes Go.WideShapes Go.ChangeAt Go.RowKit

set_option maxHeartbeats 8000000 in
set_option maxRecDepth 20000 in
theorem BagRefused_walk (A : Option Addr) (R : List Int) (c : Nat) (x : EnvC) (m : Note) (at_ : Int) (w0 : World) (hR0 : Ints w0 A R) (hlen : R.length * 8 ≤ 140737488351232) (hwf : ∀ x ∈ R, (Lit.int .i64 x).wf = true) (hx0 : NoteAt w0 x m) :
    Calls Try.prog 9 #[.slice A R.length c, .agg (envA x), .int .i64 at_] w0 fun e w' => e = .returned (.bool true) ∧ Kept w0 w' := by
  have hk0 : Kept w0 (w0.alloc (.cells (envA x) 29)) := (Upd.refl _ w0).alloc _
  have hv := EnvAt.new w0 x
  have hR := hR0.kept hk0
  have hx := hx0.kept hk0
  go_enter Try.func9, Try.ntmps9
  go_wp2_with fail
  generalize w0.alloc (.cells (envA x) 29) = w at *
  generalize w0.heap.size = g0 at *
  go_wp2_with fail
  refine (law_works _).mono ?_
  rintro e W1 ⟨rfl, hu⟩
  go_wp2_with fail
  refine (law_played _ R _ w W1 hu hR hlen hwf).mono ?_
  rintro e W2 ⟨b, p, t, N, s, l, P, T, rfl, h, hp⟩
  have HP := Lib.hid hp
  have HWF := Lib.hid hwf
  clear hu hp hwf hR
  have hN60 := HP.out.n
  have hs0 := HP.out.s0
  have hs1 := HP.out.s1
  have hl0 := HP.out.l0
  have hl1 := HP.out.l1
  go_wp2_with fail
  refine h.Len.mono ?_
  rintro e W3 ⟨rfl, rfl⟩
  go_wp2_with fail
  refine h.Sent.mono ?_
  rintro e W3 ⟨rfl, rfl⟩
  go_wp2_with fail
  refine h.Lost.mono ?_
  rintro e W3 ⟨rfl, rfl⟩
  have v := hv.kept h.k
  have c0 := v.c0
  have c1 := v.c1
  have c2 := v.c2
  have s1 := v.s1
  have s2 := v.s2
  clear v
  have hf := hx.f
  have ht := hx.t
  have hn := hx.n
  rcases (by omega : x.f < 1 ∨ (1 ≤ x.f ∧ 34 < x.f) ∨ (1 ≤ x.f ∧ x.f ≤ 34 ∧ x.t < 1) ∨ (1 ≤ x.f ∧ x.f ≤ 34 ∧ 1 ≤ x.t ∧ 34 < x.t) ∨ (1 ≤ x.f ∧ x.f ≤ 34 ∧ 1 ≤ x.t ∧ x.t ≤ 34 ∧ (65536 : Int) < x.n) ∨ (1 ≤ x.f ∧ x.f ≤ 34 ∧ 1 ≤ x.t ∧ x.t ≤ 34 ∧ (x.n : Int) ≤ 65536)) with h1 | ⟨h1, h2⟩ | ⟨h1, h2, h3⟩ | ⟨h1, h2, h3, h4⟩ | ⟨h1, h2, h3, h4, h5⟩ | ⟨h1, h2, h3, h4, h5⟩
  ·
    have hno2 : (namedB m.1 && namedB m.2.1) = false := by rw [← hf, ← ht]; simp [namedB]; omega
    have HNO2 := Lib.hid hno2
    clear hno2 hf ht hn
    go_wp2_with fail
    refine (h.Put_no (hx.kept h.k) HNO2.out).mono ?_
    rintro e W4 ⟨rfl, h'⟩
    clear h
    have h := h'
    clear h'
    have HN2 : Hid ((N.length : Int) = N.length) := rfl
    clear c0 c1 c2 s1 s2 hv
    by_cases hin : 0 ≤ at_ ∧ at_ < (N.length : Int)
    · obtain ⟨hat0, hat1⟩ := hin
      go_wp2_with fail
      refine h.Len.mono ?_
      try rw [HN2.out]
      rintro e W5 ⟨rfl, rfl⟩
      go_wp2_with fail
      refine h.Sent.mono ?_
      rintro e W5 ⟨rfl, rfl⟩
      go_wp2_with fail
      refine h.Lost.mono ?_
      rintro e W5 ⟨rfl, rfl⟩
      go_wp2
      go_ret
      exact ⟨by simp, hk0.then h.k fun _ _ h => h⟩
    · have hno : at_ < 0 ∨ (N).length ≤ at_ := by have := HN2.out; omega
      have HNOT := Lib.hid hno
      rcases (by omega : at_ < 0 ∨ (0 ≤ at_ ∧ (N.length : Int) ≤ at_)) with hat0 | ⟨hat0, hat1⟩
      all_goals
        clear hin hno
        go_wp2_with fail
        refine (h.Look_no at_ HNOT.out).mono ?_
        rintro e W5 ⟨rfl, h'⟩
        clear h
        have h := (h'.alloc (.cells (envA envZ) 29)).less (G' := []) (Y' := []) (by simp) (by simp)
        clear h'
        go_wp2_with fail
        generalize W5.alloc (.cells (envA envZ) 29) = W6 at *
        refine (h.Take_no at_ HNOT.out).mono ?_
        rintro e W7 ⟨rfl, h'⟩
        clear h
        have h := (h'.alloc (.cells (envA envZ) 29)).less (G' := []) (Y' := []) (by simp) (by simp)
        clear h'
        go_wp2_with fail
        generalize W7.alloc (.cells (envA envZ) 29) = W8 at *
        refine (h.Drop_no at_ HNOT.out).mono ?_
        rintro e W9 ⟨rfl, h'⟩
        clear h
        have h := h'
        clear h'
        go_wp2_with fail
        refine (h.Double_no at_ HNOT.out).mono ?_
        rintro e Wa ⟨rfl, h'⟩
        clear h
        have h := h'
        clear h'
        go_wp2_with fail
        refine h.Len.mono ?_
        try rw [HN2.out]
        rintro e Wb ⟨rfl, rfl⟩
        go_wp2_with fail
        refine h.Sent.mono ?_
        rintro e Wc ⟨rfl, rfl⟩
        go_wp2_with fail
        refine h.Lost.mono ?_
        rintro e Wc ⟨rfl, rfl⟩
        go_wp2
        go_ret
        exact ⟨by simp, hk0.then h.k fun _ _ h => h⟩
  ·
    have hno2 : (namedB m.1 && namedB m.2.1) = false := by rw [← hf, ← ht]; simp [namedB]; omega
    have HNO2 := Lib.hid hno2
    clear hno2 hf ht hn
    go_wp2_with fail
    refine (h.Put_no (hx.kept h.k) HNO2.out).mono ?_
    rintro e W4 ⟨rfl, h'⟩
    clear h
    have h := h'
    clear h'
    have HN2 : Hid ((N.length : Int) = N.length) := rfl
    clear c0 c1 c2 s1 s2 hv
    by_cases hin : 0 ≤ at_ ∧ at_ < (N.length : Int)
    · obtain ⟨hat0, hat1⟩ := hin
      go_wp2_with fail
      refine h.Len.mono ?_
      try rw [HN2.out]
      rintro e W5 ⟨rfl, rfl⟩
      go_wp2_with fail
      refine h.Sent.mono ?_
      rintro e W5 ⟨rfl, rfl⟩
      go_wp2_with fail
      refine h.Lost.mono ?_
      rintro e W5 ⟨rfl, rfl⟩
      go_wp2
      go_ret
      exact ⟨by simp, hk0.then h.k fun _ _ h => h⟩
    · have hno : at_ < 0 ∨ (N).length ≤ at_ := by have := HN2.out; omega
      have HNOT := Lib.hid hno
      rcases (by omega : at_ < 0 ∨ (0 ≤ at_ ∧ (N.length : Int) ≤ at_)) with hat0 | ⟨hat0, hat1⟩
      all_goals
        clear hin hno
        go_wp2_with fail
        refine (h.Look_no at_ HNOT.out).mono ?_
        rintro e W5 ⟨rfl, h'⟩
        clear h
        have h := (h'.alloc (.cells (envA envZ) 29)).less (G' := []) (Y' := []) (by simp) (by simp)
        clear h'
        go_wp2_with fail
        generalize W5.alloc (.cells (envA envZ) 29) = W6 at *
        refine (h.Take_no at_ HNOT.out).mono ?_
        rintro e W7 ⟨rfl, h'⟩
        clear h
        have h := (h'.alloc (.cells (envA envZ) 29)).less (G' := []) (Y' := []) (by simp) (by simp)
        clear h'
        go_wp2_with fail
        generalize W7.alloc (.cells (envA envZ) 29) = W8 at *
        refine (h.Drop_no at_ HNOT.out).mono ?_
        rintro e W9 ⟨rfl, h'⟩
        clear h
        have h := h'
        clear h'
        go_wp2_with fail
        refine (h.Double_no at_ HNOT.out).mono ?_
        rintro e Wa ⟨rfl, h'⟩
        clear h
        have h := h'
        clear h'
        go_wp2_with fail
        refine h.Len.mono ?_
        try rw [HN2.out]
        rintro e Wb ⟨rfl, rfl⟩
        go_wp2_with fail
        refine h.Sent.mono ?_
        rintro e Wc ⟨rfl, rfl⟩
        go_wp2_with fail
        refine h.Lost.mono ?_
        rintro e Wc ⟨rfl, rfl⟩
        go_wp2
        go_ret
        exact ⟨by simp, hk0.then h.k fun _ _ h => h⟩
  ·
    have hno2 : (namedB m.1 && namedB m.2.1) = false := by rw [← hf, ← ht]; simp [namedB]; omega
    have HNO2 := Lib.hid hno2
    clear hno2 hf ht hn
    go_wp2_with fail
    refine (h.Put_no (hx.kept h.k) HNO2.out).mono ?_
    rintro e W4 ⟨rfl, h'⟩
    clear h
    have h := h'
    clear h'
    have HN2 : Hid ((N.length : Int) = N.length) := rfl
    clear c0 c1 c2 s1 s2 hv
    by_cases hin : 0 ≤ at_ ∧ at_ < (N.length : Int)
    · obtain ⟨hat0, hat1⟩ := hin
      go_wp2_with fail
      refine h.Len.mono ?_
      try rw [HN2.out]
      rintro e W5 ⟨rfl, rfl⟩
      go_wp2_with fail
      refine h.Sent.mono ?_
      rintro e W5 ⟨rfl, rfl⟩
      go_wp2_with fail
      refine h.Lost.mono ?_
      rintro e W5 ⟨rfl, rfl⟩
      go_wp2
      go_ret
      exact ⟨by simp, hk0.then h.k fun _ _ h => h⟩
    · have hno : at_ < 0 ∨ (N).length ≤ at_ := by have := HN2.out; omega
      have HNOT := Lib.hid hno
      rcases (by omega : at_ < 0 ∨ (0 ≤ at_ ∧ (N.length : Int) ≤ at_)) with hat0 | ⟨hat0, hat1⟩
      all_goals
        clear hin hno
        go_wp2_with fail
        refine (h.Look_no at_ HNOT.out).mono ?_
        rintro e W5 ⟨rfl, h'⟩
        clear h
        have h := (h'.alloc (.cells (envA envZ) 29)).less (G' := []) (Y' := []) (by simp) (by simp)
        clear h'
        go_wp2_with fail
        generalize W5.alloc (.cells (envA envZ) 29) = W6 at *
        refine (h.Take_no at_ HNOT.out).mono ?_
        rintro e W7 ⟨rfl, h'⟩
        clear h
        have h := (h'.alloc (.cells (envA envZ) 29)).less (G' := []) (Y' := []) (by simp) (by simp)
        clear h'
        go_wp2_with fail
        generalize W7.alloc (.cells (envA envZ) 29) = W8 at *
        refine (h.Drop_no at_ HNOT.out).mono ?_
        rintro e W9 ⟨rfl, h'⟩
        clear h
        have h := h'
        clear h'
        go_wp2_with fail
        refine (h.Double_no at_ HNOT.out).mono ?_
        rintro e Wa ⟨rfl, h'⟩
        clear h
        have h := h'
        clear h'
        go_wp2_with fail
        refine h.Len.mono ?_
        try rw [HN2.out]
        rintro e Wb ⟨rfl, rfl⟩
        go_wp2_with fail
        refine h.Sent.mono ?_
        rintro e Wc ⟨rfl, rfl⟩
        go_wp2_with fail
        refine h.Lost.mono ?_
        rintro e Wc ⟨rfl, rfl⟩
        go_wp2
        go_ret
        exact ⟨by simp, hk0.then h.k fun _ _ h => h⟩
  ·
    have hno2 : (namedB m.1 && namedB m.2.1) = false := by rw [← hf, ← ht]; simp [namedB]; omega
    have HNO2 := Lib.hid hno2
    clear hno2 hf ht hn
    go_wp2_with fail
    refine (h.Put_no (hx.kept h.k) HNO2.out).mono ?_
    rintro e W4 ⟨rfl, h'⟩
    clear h
    have h := h'
    clear h'
    have HN2 : Hid ((N.length : Int) = N.length) := rfl
    clear c0 c1 c2 s1 s2 hv
    by_cases hin : 0 ≤ at_ ∧ at_ < (N.length : Int)
    · obtain ⟨hat0, hat1⟩ := hin
      go_wp2_with fail
      refine h.Len.mono ?_
      try rw [HN2.out]
      rintro e W5 ⟨rfl, rfl⟩
      go_wp2_with fail
      refine h.Sent.mono ?_
      rintro e W5 ⟨rfl, rfl⟩
      go_wp2_with fail
      refine h.Lost.mono ?_
      rintro e W5 ⟨rfl, rfl⟩
      go_wp2
      go_ret
      exact ⟨by simp, hk0.then h.k fun _ _ h => h⟩
    · have hno : at_ < 0 ∨ (N).length ≤ at_ := by have := HN2.out; omega
      have HNOT := Lib.hid hno
      rcases (by omega : at_ < 0 ∨ (0 ≤ at_ ∧ (N.length : Int) ≤ at_)) with hat0 | ⟨hat0, hat1⟩
      all_goals
        clear hin hno
        go_wp2_with fail
        refine (h.Look_no at_ HNOT.out).mono ?_
        rintro e W5 ⟨rfl, h'⟩
        clear h
        have h := (h'.alloc (.cells (envA envZ) 29)).less (G' := []) (Y' := []) (by simp) (by simp)
        clear h'
        go_wp2_with fail
        generalize W5.alloc (.cells (envA envZ) 29) = W6 at *
        refine (h.Take_no at_ HNOT.out).mono ?_
        rintro e W7 ⟨rfl, h'⟩
        clear h
        have h := (h'.alloc (.cells (envA envZ) 29)).less (G' := []) (Y' := []) (by simp) (by simp)
        clear h'
        go_wp2_with fail
        generalize W7.alloc (.cells (envA envZ) 29) = W8 at *
        refine (h.Drop_no at_ HNOT.out).mono ?_
        rintro e W9 ⟨rfl, h'⟩
        clear h
        have h := h'
        clear h'
        go_wp2_with fail
        refine (h.Double_no at_ HNOT.out).mono ?_
        rintro e Wa ⟨rfl, h'⟩
        clear h
        have h := h'
        clear h'
        go_wp2_with fail
        refine h.Len.mono ?_
        try rw [HN2.out]
        rintro e Wb ⟨rfl, rfl⟩
        go_wp2_with fail
        refine h.Sent.mono ?_
        rintro e Wc ⟨rfl, rfl⟩
        go_wp2_with fail
        refine h.Lost.mono ?_
        rintro e Wc ⟨rfl, rfl⟩
        go_wp2
        go_ret
        exact ⟨by simp, hk0.then h.k fun _ _ h => h⟩
  · have e1 : namedB m.1 = true := by rw [← hf]; simp [namedB, h1, h2]
    have e2 : namedB m.2.1 = true := by rw [← ht]; simp [namedB, h3, h4]
    have e3 : 65536 < m.2.2.length := by omega
    have HX := Lib.hid (And.intro e1 (And.intro e2 e3))
    clear e1 e2 e3 hf ht hn
    go_wp2_with fail
    refine (h.Put_long (hx.kept h.k) HX.out.1 HX.out.2.1 (.inl HX.out.2.2)).mono ?_
    rw [if_pos HX.out.2.2]
    rintro e W4 ⟨rfl, h'⟩
    clear h
    have h := h'
    clear h'
    have HN2 : Hid ((N.length : Int) = N.length) := rfl
    clear c0 c1 c2 s1 s2 hv
    by_cases hin : 0 ≤ at_ ∧ at_ < (N.length : Int)
    · obtain ⟨hat0, hat1⟩ := hin
      go_wp2_with fail
      refine h.Len.mono ?_
      try rw [HN2.out]
      rintro e W5 ⟨rfl, rfl⟩
      go_wp2_with fail
      refine h.Sent.mono ?_
      rintro e W5 ⟨rfl, rfl⟩
      go_wp2_with fail
      refine h.Lost.mono ?_
      rintro e W5 ⟨rfl, rfl⟩
      go_wp2
      go_ret
      exact ⟨by simp, hk0.then h.k fun _ _ h => h⟩
    · have hno : at_ < 0 ∨ (N).length ≤ at_ := by have := HN2.out; omega
      have HNOT := Lib.hid hno
      rcases (by omega : at_ < 0 ∨ (0 ≤ at_ ∧ (N.length : Int) ≤ at_)) with hat0 | ⟨hat0, hat1⟩
      all_goals
        clear hin hno
        go_wp2_with fail
        refine (h.Look_no at_ HNOT.out).mono ?_
        rintro e W5 ⟨rfl, h'⟩
        clear h
        have h := (h'.alloc (.cells (envA envZ) 29)).less (G' := []) (Y' := []) (by simp) (by simp)
        clear h'
        go_wp2_with fail
        generalize W5.alloc (.cells (envA envZ) 29) = W6 at *
        refine (h.Take_no at_ HNOT.out).mono ?_
        rintro e W7 ⟨rfl, h'⟩
        clear h
        have h := (h'.alloc (.cells (envA envZ) 29)).less (G' := []) (Y' := []) (by simp) (by simp)
        clear h'
        go_wp2_with fail
        generalize W7.alloc (.cells (envA envZ) 29) = W8 at *
        refine (h.Drop_no at_ HNOT.out).mono ?_
        rintro e W9 ⟨rfl, h'⟩
        clear h
        have h := h'
        clear h'
        go_wp2_with fail
        refine (h.Double_no at_ HNOT.out).mono ?_
        rintro e Wa ⟨rfl, h'⟩
        clear h
        have h := h'
        clear h'
        go_wp2_with fail
        refine h.Len.mono ?_
        try rw [HN2.out]
        rintro e Wb ⟨rfl, rfl⟩
        go_wp2_with fail
        refine h.Sent.mono ?_
        rintro e Wc ⟨rfl, rfl⟩
        go_wp2_with fail
        refine h.Lost.mono ?_
        rintro e Wc ⟨rfl, rfl⟩
        go_wp2
        go_ret
        exact ⟨by simp, hk0.then h.k fun _ _ h => h⟩
  · have e1 : namedB m.1 = true := by rw [← hf]; simp [namedB, h1, h2]
    have e2 : namedB m.2.1 = true := by rw [← ht]; simp [namedB, h3, h4]
    have e3 : m.2.2.length ≤ 65536 := by omega
    have HX := Lib.hid (And.intro e1 (And.intro e2 e3))
    clear e1 e2 e3 hf ht hn
    go_wp2_with fail
    refine (h.Put hs0 (by omega) (hx.kept h.k) HX.out.1 HX.out.2.1 HX.out.2.2 (by omega)).mono ?_
    rintro e W4 ⟨rfl, h'⟩
    clear h
    have h := h'
    clear h'
    have HN2 : Hid (((N ++ [m]).length : Int) = N.length + 1) := by show _ = _; simp
    generalize N ++ [m] = N2 at h HN2
    clear c0 c1 c2 s1 s2 h1 h2 h3 h4 h5 hv
    by_cases hin : 0 ≤ at_ ∧ at_ < (N.length : Int) + 1
    · obtain ⟨hat0, hat1⟩ := hin
      go_wp2_with fail
      refine h.Len.mono ?_
      try rw [HN2.out]
      rintro e W5 ⟨rfl, rfl⟩
      go_wp2_with fail
      refine h.Sent.mono ?_
      rintro e W5 ⟨rfl, rfl⟩
      go_wp2_with fail
      refine h.Lost.mono ?_
      rintro e W5 ⟨rfl, rfl⟩
      go_wp2
      go_ret
      exact ⟨by simp, hk0.then h.k fun _ _ h => h⟩
    · have hno : at_ < 0 ∨ (N2).length ≤ at_ := by have := HN2.out; omega
      have HNOT := Lib.hid hno
      rcases (by omega : at_ < 0 ∨ (0 ≤ at_ ∧ (N.length : Int) + 1 ≤ at_)) with hat0 | ⟨hat0, hat1⟩
      all_goals
        clear hin hno
        go_wp2_with fail
        refine (h.Look_no at_ HNOT.out).mono ?_
        rintro e W5 ⟨rfl, h'⟩
        clear h
        have h := (h'.alloc (.cells (envA envZ) 29)).less (G' := []) (Y' := []) (by simp) (by simp)
        clear h'
        go_wp2_with fail
        generalize W5.alloc (.cells (envA envZ) 29) = W6 at *
        refine (h.Take_no at_ HNOT.out).mono ?_
        rintro e W7 ⟨rfl, h'⟩
        clear h
        have h := (h'.alloc (.cells (envA envZ) 29)).less (G' := []) (Y' := []) (by simp) (by simp)
        clear h'
        go_wp2_with fail
        generalize W7.alloc (.cells (envA envZ) 29) = W8 at *
        refine (h.Drop_no at_ HNOT.out).mono ?_
        rintro e W9 ⟨rfl, h'⟩
        clear h
        have h := h'
        clear h'
        go_wp2_with fail
        refine (h.Double_no at_ HNOT.out).mono ?_
        rintro e Wa ⟨rfl, h'⟩
        clear h
        have h := h'
        clear h'
        go_wp2_with fail
        refine h.Len.mono ?_
        try rw [HN2.out]
        rintro e Wb ⟨rfl, rfl⟩
        go_wp2_with fail
        refine h.Sent.mono ?_
        rintro e Wc ⟨rfl, rfl⟩
        go_wp2_with fail
        refine h.Lost.mono ?_
        rintro e Wc ⟨rfl, rfl⟩
        go_wp2
        go_ret
        exact ⟨by simp, hk0.then h.k fun _ _ h => h⟩
set_option maxRecDepth 100000 in
theorem BagRefused_lifted (os : Os) (started : os.Started) (H : Type) (enc : TypeId × Value → H) :
    ReturnsInHanded {} Try.checked os 9 .any (Rows.bagRefusedSpec.pre6 enc Try.prog Try.f9 Rows.bagRefusedRow.domain false) (Rows.bagRefusedSpec.post enc Try.prog Try.f9 false true false false) := by
  refine law_lifted os started Try.func9 (by kernel_rfl) rfl rfl (by kernel_rfl) ?_
    (ChangeSpec.witness6 (enc := enc) (C := Try.checked) false ⟨#[], #[.slice none 0 0, .agg #[.int .i64 0,.int .i64 0,.slice none 0 0], .int .i64 0], []⟩ 8 (by kernel_rfl) (by kernel_rfl) (by kernel_rfl) (by kernel_rfl)) ?_
  · intro ds h
    rw [Try.params9] at h
    match ds, h with
    | [d0, d1, d2], _ => rfl
  · intro W base args ds ps hval hA hsz
    rw [Try.params9] at hA hval hsz
    obtain ⟨v0, vs0, d0, ds0, p0, q0, hargs, rfl, rfl, h0, r_0⟩ := trodAll_cons hA
    obtain ⟨v1, vs1, d1, ds1, p1, q1, rfl, rfl, rfl, h1, r_1⟩ := trodAll_cons r_0
    obtain ⟨v2, vs2, d2, ds2, p2, q2, rfl, rfl, rfl, h2, r_2⟩ := trodAll_cons r_1
    obtain ⟨rfl, rfl, rfl⟩ := trodAll_nil r_2
    obtain rfl : args = #[v0, v1, v2] := by cases args; simp_all
    obtain ⟨A0, n0, c0, rfl⟩ := okWide_slice Try.underlying44 (hval 0 44 v0 rfl rfl)
    have r0 := ReadsAs.of_trod hsz (j := 0) rfl rfl h0
    obtain ⟨cs1, rfl, _⟩ := ok_agg (P := Try.prog) (t := 29) (by kernel_rfl) (hval 1 29 v1 rfl rfl)
    have r1 := ReadsAs.of_trod hsz (j := 1) rfl rfl h1
    obtain ⟨a2, rfl, rfl, rfl, w2⟩ := open_int Try.underlying3 (hval 2 3 v2 rfl rfl) h2
    obtain ⟨A, R, cap, hcs, hlen, hwf, hR⟩ := r0.ints Try.underlying44 Try.underlying3 int_cells (by kernel_rfl)
    simp only [Value.cells, List.cons.injEq, Value.slice.injEq, and_true] at hcs
    obtain ⟨rfl, rfl, rfl⟩ := hcs
    obtain ⟨x, m, hcs1, hx, _, _⟩ := open_env r1
    obtain rfl : cs1 = envA x := Array.toList_inj.1 (by simpa [Value.cells] using hcs1)
    exact BagRefused_walk _ R _ x m a2 W hR hlen hwf hx

theorem BagRefused_holds : Rows.BagRefusedSaid :=
  OpenClaim.holds_of_wide 9 Try.f9 rfl rfl rfl rfl rfl rfl rfl ⟨rfl, rfl, rfl, rfl, rfl⟩ rfl rfl rfl rfl rfl (by kernel_rfl) Try.func9 (by kernel_rfl)
    (of_decide_eq_true (by kernel_rfl)) (by unfold Func.isWrapper; first | (rw [if_pos (by decide +kernel)]; kernel_rfl) | (rw [if_neg (by decide +kernel)]; exact ⟨rfl, rfl⟩))
    (fun os started H enc _ => BagRefused_lifted os started H enc)
end Go.Proofs.Ytkfekkemfahepaa
