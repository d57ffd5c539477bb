/- The statements' helper played, walked. -/
import Derived.Test.YtkfekkemfahepaaBagP
namespace Go.Proofs.Ytkfekkemfahepaa
open Go.RowKit

theorem Play.mono {k k' : Nat} {N : List Note} {s l : Int} {P T : List Note} (h : Play k N s l P T) (hk : k ≤ k') : Play k' N s l P T :=
  ⟨Nat.le_trans h.n hk, Nat.le_trans h.p hk, Nat.le_trans h.t hk, by have := h.s1; omega, h.l0, by have := h.l1; omega, h.np, h.tp, h.sum⟩
theorem shr_wf {x : Int} (h : (Lit.int .i64 x).wf = true) : (Lit.int .i64 (x / 8)).wf = true := by
  simp [Lit.wf, IntKind.min, IntKind.max, IntKind.signed, IntKind.bits] at h ⊢
  omega

set_option maxHeartbeats 8000000 in
set_option maxRecDepth 20000 in
theorem law_played (A : Option Addr) (R : List Int) (c : Nat) (w w0 : World) (hw : Kept w w0) (hR : Ints w A R) (hlen : R.length * 8 ≤ 140737488351232) (hwf : ∀ x ∈ R, (Lit.int .i64 x).wf = true) :
    Calls Try.prog 35 #[.slice A R.length c] w0 fun e w' => ∃ b p t N s l P T, e = .returned (.tuple #[.pointer (some ⟨b, 0, none⟩), p, t]) ∧ LB w w' b N s l p P t T [] [] ∧ Play 60 N s l P T := by
  have HWF := Lib.hid hwf
  clear hwf
  go_enter Try.func35, Try.ntmps35
  go_wp2_with fail
  refine (LB.New w w0 hw).mono ?_
  rintro e W2 ⟨b, rfl, h⟩
  clear hw
  go_wp2_with fail
  go_loopw [6, 7, 8] (fun p t i wr => ∃ k : Nat, ∃ N s l P T, k ≤ R.length ∧ k ≤ 60 ∧ i = .int .i64 k ∧ LB w wr b N s l p P t T [] [] ∧ Play k N s l P T) (fun _ _ i _ => 60 - (intOf i).toNat)
  case atStart => exact ⟨0, [], 0, 0, [], [], Nat.zero_le _, Nat.zero_le _, rfl, h, Play.zero⟩
  case round =>
    clear h
    obtain ⟨k, N, s, l, P, T, hk, hk6, rfl, h, hp⟩ := hrel
    have HP := Lib.hid hp
    clear hp
    by_cases hlt : k < R.length
    · by_cases hlt6 : k < 60
      · obtain ⟨gb, off, rfl, hc0⟩ := (hR.kept h.k).get hlt
        have hw0 := HWF.out R[k] (List.getElem_mem hlt)
        have hc1 : w.cell? ⟨gb, off + k, none⟩ = some (.int .i64 R[k]) := by
          obtain ⟨gb', off', e, hc⟩ := hR.get hlt
          simp only [Option.some.injEq, Addr.mk.injEq, and_true] at e
          obtain ⟨rfl, rfl⟩ := e
          exact hc
        generalize R[k] = x at *
        go_wp2_with fail
        refine (ref_Bring _ _ (shr_wf hw0) (by omega) (by omega) _).mono ?_
        rintro e W3 ⟨rfl, rfl⟩
        have hq := mod_range (x / 8) 64 (by omega)
        generalize x / 8 % 64 = q at *
        obtain ⟨hq0, hq1⟩ := hq
        have hNk := HP.out.n
        go_wp2_with fail
        refine h.Len.mono ?_
        rintro e W4 ⟨rfl, rfl⟩
        rcases Nat.eq_zero_or_pos N.length with h0 | h0
        · go_wp2_with fail
          refine (ref_Bring _ _ hw0 (by omega) (by omega) _).mono ?_
          rintro e W5 ⟨rfl, rfl⟩
          have hm := mod_range x 6 (by omega)
          clear hc0 hc1 hw0
          rcases (by omega : x % 6 = 0 ∨ x % 6 = 1 ∨ x % 6 = 2 ∨ x % 6 = 3 ∨ x % 6 = 4 ∨ x % 6 = 5) with hm0 | hm0 | hm0 | hm0 | hm0 | hm0
          ·
            rw [hm0]
            clear hm hm0
            have hu8 : IntKind.u8.wrap (k : Int) = k := by rw [IntKind.wrap_u8]; omega
            have hk60 : (k : Int) < 60 := by omega
            have hs0 := HP.out.s0
            have hs1 := HP.out.s1
            have hpl := HP.out.p
            go_wp2_with fail
            refine (law_note (1 + q % 34) (1 + q / 2 % 34) k _).mono ?_
            rintro e W6 ⟨y, rfl, hf, hu⟩
            replace h := ((h.kept hu).addY hf).alloc (.cells (envA y) 29)
            clear hu hf
            go_wp2_with fail
            generalize W6.alloc (.cells (envA y) 29) = W7 at *
            generalize W6.heap.size = g at *
            refine (h.Put hs0 (by omega) (h.y (y, (1 + q % 34, 1 + q / 2 % 34, [(k : Int)])) (by simp)).at_ (by simp [namedB]; omega) (by simp [namedB]; omega) (by simp) (by omega)).mono ?_
            rintro e W8 ⟨rfl, h'⟩
            clear h
            have h := h'
            clear h'
            have v := h.var (g := g) (x := y) (by simp)
            have s1 := v.s1
            have s2 := v.s2
            have hgl := v.lt
            have h8 := h.alloc (.cells (envA y) 29)
            obtain ⟨A', c', W9, hr, h9⟩ := h8.appendP (h8.y (y, (1 + q % 34, 1 + q / 2 % 34, [(k : Int)])) (by simp)) (by omega) W8.heap.size 1 (heap_alloc_new W8 _)
            have H9 := Lib.hid (h9.less (G' := []) (Y' := []) (by simp) (by simp))
            clear h h8 h9 v hu8
            go_wp2_with (at_builtin; refine wpList_append rfl (.tmp 64) (.tmp 66) rfl rfl rfl hr ?_)
            go_roundw
            case rel => exact ⟨k + 1, _, _, _, _, _, by omega, by omega, by go_num, H9.out, HP.out.put _⟩
            case measure => simp [intOf]; omega
          ·
            rw [hm0]
            clear hm hm0
            have hu8 : IntKind.u8.wrap (k : Int) = k := by rw [IntKind.wrap_u8]; omega
            have hk60 : (k : Int) < 60 := by omega
            have hs0 := HP.out.s0
            have hs1 := HP.out.s1
            have hpl := HP.out.p
            go_wp2_with fail
            refine (law_note (1 + q % 34) (1 + q / 2 % 34) k _).mono ?_
            rintro e W6 ⟨y, rfl, hf, hu⟩
            replace h := ((h.kept hu).addY hf).alloc (.cells (envA y) 29)
            clear hu hf
            go_wp2_with fail
            generalize W6.alloc (.cells (envA y) 29) = W7 at *
            generalize W6.heap.size = g at *
            refine (h.Put hs0 (by omega) (h.y (y, (1 + q % 34, 1 + q / 2 % 34, [(k : Int)])) (by simp)).at_ (by simp [namedB]; omega) (by simp [namedB]; omega) (by simp) (by omega)).mono ?_
            rintro e W8 ⟨rfl, h'⟩
            clear h
            have h := h'
            clear h'
            have v := h.var (g := g) (x := y) (by simp)
            have s1 := v.s1
            have s2 := v.s2
            have hgl := v.lt
            have h8 := h.alloc (.cells (envA y) 29)
            obtain ⟨A', c', W9, hr, h9⟩ := h8.appendP (h8.y (y, (1 + q % 34, 1 + q / 2 % 34, [(k : Int)])) (by simp)) (by omega) W8.heap.size 1 (heap_alloc_new W8 _)
            have H9 := Lib.hid (h9.less (G' := []) (Y' := []) (by simp) (by simp))
            clear h h8 h9 v hu8
            go_wp2_with (at_builtin; refine wpList_append rfl (.tmp 64) (.tmp 66) rfl rfl rfl hr ?_)
            go_roundw
            case rel => exact ⟨k + 1, _, _, _, _, _, by omega, by omega, by go_num, H9.out, HP.out.put _⟩
            case measure => simp [intOf]; omega
          ·
            rw [hm0]
            clear hm hm0
            have hu8 : IntKind.u8.wrap (k : Int) = k := by rw [IntKind.wrap_u8]; omega
            have hk60 : (k : Int) < 60 := by omega
            have hs0 := HP.out.s0
            have hs1 := HP.out.s1
            have hpl := HP.out.p
            go_wp2_with fail
            refine (law_note (1 + q % 34) (1 + q / 2 % 34) k _).mono ?_
            rintro e W6 ⟨y, rfl, hf, hu⟩
            replace h := ((h.kept hu).addY hf).alloc (.cells (envA y) 29)
            clear hu hf
            go_wp2_with fail
            generalize W6.alloc (.cells (envA y) 29) = W7 at *
            generalize W6.heap.size = g at *
            refine (h.Put hs0 (by omega) (h.y (y, (1 + q % 34, 1 + q / 2 % 34, [(k : Int)])) (by simp)).at_ (by simp [namedB]; omega) (by simp [namedB]; omega) (by simp) (by omega)).mono ?_
            rintro e W8 ⟨rfl, h'⟩
            clear h
            have h := h'
            clear h'
            have v := h.var (g := g) (x := y) (by simp)
            have s1 := v.s1
            have s2 := v.s2
            have hgl := v.lt
            have h8 := h.alloc (.cells (envA y) 29)
            obtain ⟨A', c', W9, hr, h9⟩ := h8.appendP (h8.y (y, (1 + q % 34, 1 + q / 2 % 34, [(k : Int)])) (by simp)) (by omega) W8.heap.size 1 (heap_alloc_new W8 _)
            have H9 := Lib.hid (h9.less (G' := []) (Y' := []) (by simp) (by simp))
            clear h h8 h9 v hu8
            go_wp2_with (at_builtin; refine wpList_append rfl (.tmp 64) (.tmp 66) rfl rfl rfl hr ?_)
            go_roundw
            case rel => exact ⟨k + 1, _, _, _, _, _, by omega, by omega, by go_num, H9.out, HP.out.put _⟩
            case measure => simp [intOf]; omega
          · rw [hm0]
            clear hm hm0
            go_wp2_with fail
            refine (h.Take_no 0 (.inr (by omega))).mono ?_
            rintro e W6 ⟨rfl, h'⟩
            clear h
            have h := h'.alloc (.cells (envA envZ) 29)
            clear h'
            go_wp2
            go_roundw
            case rel => exact ⟨k + 1, _, _, _, _, _, by omega, by omega, by go_num, h.less (by simp) (by simp), HP.out.same⟩
            case measure => simp [intOf]; omega
          · rw [hm0]
            clear hm hm0
            go_wp2_with fail
            refine (h.Drop_no 0 (.inr (by omega))).mono ?_
            rintro e W6 ⟨rfl, h'⟩
            clear h
            have h := h'
            clear h'
            go_wp2
            go_roundw
            case rel => exact ⟨k + 1, _, _, _, _, _, by omega, by omega, by go_num, h.less (by simp) (by simp), HP.out.same⟩
            case measure => simp [intOf]; omega
          · rw [hm0]
            clear hm hm0
            go_wp2_with fail
            refine (h.Double_no 0 (.inr (by omega))).mono ?_
            rintro e W6 ⟨rfl, h'⟩
            clear h
            have h := h'
            clear h'
            go_wp2
            go_roundw
            case rel => exact ⟨k + 1, _, _, _, _, _, by omega, by omega, by go_num, h.less (by simp) (by simp), HP.out.same⟩
            case measure => simp [intOf]; omega
        · have hn0 : (0 : Int) < N.length := by omega
          go_wp2_with fail
          refine h.Len.mono ?_
          rintro e W4 ⟨rfl, rfl⟩
          have hn1 : (N.length : Int) ≠ 0 := by omega
          go_wp2_with fail
          obtain ⟨a, hqa, ha⟩ : ∃ a : Nat, q % N.length = a ∧ a < N.length := by
            have h1 := Int.emod_nonneg q hn1
            have h2 := Int.emod_lt_of_pos q hn0
            exact ⟨(q % N.length).toNat, by omega, by omega⟩
          rw [hqa]
          clear hqa hn1
          refine (ref_Bring _ _ hw0 (by omega) (by omega) _).mono ?_
          rintro e W5 ⟨rfl, rfl⟩
          have hm := mod_range x 6 (by omega)
          clear hc0 hc1 hw0
          rcases (by omega : x % 6 = 0 ∨ x % 6 = 1 ∨ x % 6 = 2 ∨ x % 6 = 3 ∨ x % 6 = 4 ∨ x % 6 = 5) with hm0 | hm0 | hm0 | hm0 | hm0 | hm0
          ·
            rw [hm0]
            clear hm hm0
            have hu8 : IntKind.u8.wrap (k : Int) = k := by rw [IntKind.wrap_u8]; omega
            have hk60 : (k : Int) < 60 := by omega
            have hs0 := HP.out.s0
            have hs1 := HP.out.s1
            have hpl := HP.out.p
            go_wp2_with fail
            refine (law_note (1 + q % 34) (1 + q / 2 % 34) k _).mono ?_
            rintro e W6 ⟨y, rfl, hf, hu⟩
            replace h := ((h.kept hu).addY hf).alloc (.cells (envA y) 29)
            clear hu hf
            go_wp2_with fail
            generalize W6.alloc (.cells (envA y) 29) = W7 at *
            generalize W6.heap.size = g at *
            refine (h.Put hs0 (by omega) (h.y (y, (1 + q % 34, 1 + q / 2 % 34, [(k : Int)])) (by simp)).at_ (by simp [namedB]; omega) (by simp [namedB]; omega) (by simp) (by omega)).mono ?_
            rintro e W8 ⟨rfl, h'⟩
            clear h
            have h := h'
            clear h'
            have v := h.var (g := g) (x := y) (by simp)
            have s1 := v.s1
            have s2 := v.s2
            have hgl := v.lt
            have h8 := h.alloc (.cells (envA y) 29)
            obtain ⟨A', c', W9, hr, h9⟩ := h8.appendP (h8.y (y, (1 + q % 34, 1 + q / 2 % 34, [(k : Int)])) (by simp)) (by omega) W8.heap.size 1 (heap_alloc_new W8 _)
            have H9 := Lib.hid (h9.less (G' := []) (Y' := []) (by simp) (by simp))
            clear h h8 h9 v hu8
            go_wp2_with (at_builtin; refine wpList_append rfl (.tmp 64) (.tmp 66) rfl rfl rfl hr ?_)
            go_roundw
            case rel => exact ⟨k + 1, _, _, _, _, _, by omega, by omega, by go_num, H9.out, HP.out.put _⟩
            case measure => simp [intOf]; omega
          ·
            rw [hm0]
            clear hm hm0
            have hu8 : IntKind.u8.wrap (k : Int) = k := by rw [IntKind.wrap_u8]; omega
            have hk60 : (k : Int) < 60 := by omega
            have hs0 := HP.out.s0
            have hs1 := HP.out.s1
            have hpl := HP.out.p
            go_wp2_with fail
            refine (law_note (1 + q % 34) (1 + q / 2 % 34) k _).mono ?_
            rintro e W6 ⟨y, rfl, hf, hu⟩
            replace h := ((h.kept hu).addY hf).alloc (.cells (envA y) 29)
            clear hu hf
            go_wp2_with fail
            generalize W6.alloc (.cells (envA y) 29) = W7 at *
            generalize W6.heap.size = g at *
            refine (h.Put hs0 (by omega) (h.y (y, (1 + q % 34, 1 + q / 2 % 34, [(k : Int)])) (by simp)).at_ (by simp [namedB]; omega) (by simp [namedB]; omega) (by simp) (by omega)).mono ?_
            rintro e W8 ⟨rfl, h'⟩
            clear h
            have h := h'
            clear h'
            have v := h.var (g := g) (x := y) (by simp)
            have s1 := v.s1
            have s2 := v.s2
            have hgl := v.lt
            have h8 := h.alloc (.cells (envA y) 29)
            obtain ⟨A', c', W9, hr, h9⟩ := h8.appendP (h8.y (y, (1 + q % 34, 1 + q / 2 % 34, [(k : Int)])) (by simp)) (by omega) W8.heap.size 1 (heap_alloc_new W8 _)
            have H9 := Lib.hid (h9.less (G' := []) (Y' := []) (by simp) (by simp))
            clear h h8 h9 v hu8
            go_wp2_with (at_builtin; refine wpList_append rfl (.tmp 64) (.tmp 66) rfl rfl rfl hr ?_)
            go_roundw
            case rel => exact ⟨k + 1, _, _, _, _, _, by omega, by omega, by go_num, H9.out, HP.out.put _⟩
            case measure => simp [intOf]; omega
          ·
            rw [hm0]
            clear hm hm0
            have hu8 : IntKind.u8.wrap (k : Int) = k := by rw [IntKind.wrap_u8]; omega
            have hk60 : (k : Int) < 60 := by omega
            have hs0 := HP.out.s0
            have hs1 := HP.out.s1
            have hpl := HP.out.p
            go_wp2_with fail
            refine (law_note (1 + q % 34) (1 + q / 2 % 34) k _).mono ?_
            rintro e W6 ⟨y, rfl, hf, hu⟩
            replace h := ((h.kept hu).addY hf).alloc (.cells (envA y) 29)
            clear hu hf
            go_wp2_with fail
            generalize W6.alloc (.cells (envA y) 29) = W7 at *
            generalize W6.heap.size = g at *
            refine (h.Put hs0 (by omega) (h.y (y, (1 + q % 34, 1 + q / 2 % 34, [(k : Int)])) (by simp)).at_ (by simp [namedB]; omega) (by simp [namedB]; omega) (by simp) (by omega)).mono ?_
            rintro e W8 ⟨rfl, h'⟩
            clear h
            have h := h'
            clear h'
            have v := h.var (g := g) (x := y) (by simp)
            have s1 := v.s1
            have s2 := v.s2
            have hgl := v.lt
            have h8 := h.alloc (.cells (envA y) 29)
            obtain ⟨A', c', W9, hr, h9⟩ := h8.appendP (h8.y (y, (1 + q % 34, 1 + q / 2 % 34, [(k : Int)])) (by simp)) (by omega) W8.heap.size 1 (heap_alloc_new W8 _)
            have H9 := Lib.hid (h9.less (G' := []) (Y' := []) (by simp) (by simp))
            clear h h8 h9 v hu8
            go_wp2_with (at_builtin; refine wpList_append rfl (.tmp 64) (.tmp 66) rfl rfl rfl hr ?_)
            go_roundw
            case rel => exact ⟨k + 1, _, _, _, _, _, by omega, by omega, by go_num, H9.out, HP.out.put _⟩
            case measure => simp [intOf]; omega
          · rw [hm0]
            clear hm hm0
            have htl := HP.out.t
            go_wp2_with fail
            refine (h.Take (by omega) a ha).mono ?_
            rintro e W6 ⟨y, rfl, h'⟩
            clear h
            have h8 := (h'.alloc (.cells (envA y) 29)).alloc (.cells (envA y) 29)
            have hgn : ((W6.alloc (.cells (envA y) 29)).alloc (.cells (envA y) 29)).heap[W6.heap.size + 1]? = some (.cells (envA y) 29 (0, 0)) := by
              have := heap_alloc_new (W6.alloc (.cells (envA y) 29)) (.cells (envA y) 29)
              rwa [World.size_alloc] at this
            obtain ⟨A', c', W9, hr, h9⟩ := h8.appendT (h8.y (y, N[a]) (by simp)) (by omega) (W6.heap.size + 1) 1 hgn
            have H9 := Lib.hid (h9.less (G' := []) (Y' := []) (by simp) (by simp))
            clear h' h8 h9 hgn
            go_wp2_with (at_builtin; refine wpList_append rfl (.tmp 78) (.tmp 80) rfl rfl rfl hr ?_)
            go_roundw
            case rel => exact ⟨k + 1, _, _, _, _, _, by omega, by omega, by go_num, H9.out, HP.out.take a ha⟩
            case measure => simp [intOf]; omega
          · rw [hm0]
            clear hm hm0
            have hl0 := HP.out.l0
            have hl1 := HP.out.l1
            go_wp2_with fail
            refine (h.Drop (by omega) hl0 (by omega) a ha).mono ?_
            rintro e W6 ⟨rfl, h'⟩
            clear h
            have h := h'
            clear h'
            go_wp2
            go_roundw
            case rel => exact ⟨k + 1, _, _, _, _, _, by omega, by omega, by go_num, h, HP.out.drop a ha⟩
            case measure => simp [intOf]; omega
          · rw [hm0]
            clear hm hm0
            have hs0 := HP.out.s0
            have hs1 := HP.out.s1
            go_wp2_with fail
            refine (h.Double hs0 (by omega) (by omega) a ha).mono ?_
            rintro e W6 ⟨rfl, h'⟩
            clear h
            have h := h'
            clear h'
            go_wp2
            go_roundw
            case rel => exact ⟨k + 1, _, _, _, _, _, by omega, by omega, by go_num, h, HP.out.double a ha⟩
            case measure => simp [intOf]; omega
      · obtain rfl : k = 60 := by omega
        have hp := HP.out
        clear HP
        go_wp2
        refine bodyPost_ret (v := .tuple #[.pointer (some ⟨b, 0, none⟩), u6, u7]) ?_ rfl ⟨_, _, _, _, _, _, _, _, rfl, h, hp⟩
        rw [results_tmp3 (fn := Try.f35) rfl]
        rfl
    · obtain rfl : k = R.length := by omega
      have hp := HP.out.mono hk6
      clear HP
      go_wp2
      refine bodyPost_ret (v := .tuple #[.pointer (some ⟨b, 0, none⟩), u6, u7]) ?_ rfl ⟨_, _, _, _, _, _, _, _, rfl, h, hp⟩
      rw [results_tmp3 (fn := Try.f35) rfl]
      rfl
end Go.Proofs.Ytkfekkemfahepaa
