/- Those that stay do so in their order, whichever one goes: the statement BagStay holds. For every input. -/
import Derived.Test.YtkfekkemfahepaaBagQ
namespace Go.Proofs.Ytkfekkemfahepaa
open Go.ChangeShapes Go.WideShapes Go.ChangeAt Go.RowKit

section
variable {w W : World} {b : Nat} {N : List Note} {s l : Int} {p t : Value} {P T : List Note} {G : List (Nat × Obj)} {Y : List (EnvC × Note)}
theorem LB.forget (h : LB w W b N s l p P t T G Y) : LB w W b N s l (.slice none 0 0) [] (.slice none 0 0) [] G Y := by
  obtain ⟨B, v, zs, ps, ts, hl⟩ := h.ex
  exact ⟨⟨B, v, zs, [], [], hl.n, rfl, rfl, hl.bag, ⟨.nil _ _ _, by simp⟩, ⟨.nil _ _ _, by simp⟩, hl.sz, fun k hk => ⟨by simp [Value.ownBlock], by simp [Value.ownBlock]⟩, fun k hk => by simp [Value.ownBlock], fun q hq => ⟨(hl.a3 q hq).1, (hl.a3 q hq).2.1, by simp [Value.ownBlock], by simp [Value.ownBlock]⟩⟩, h.k, h.lo, h.g, h.y⟩
theorem LB.formP (h : LB w W b N s l p P t T G Y) : ∃ A c, p = .slice A P.length c := by
  obtain ⟨B, v, zs, ps, ts, hl⟩ := h.ex
  obtain ⟨A, c, hp⟩ := hl.put.rows.form
  exact ⟨A, c, by rw [hp, ← hl.pn, List.length_map]⟩
theorem LB.getP (h : LB w W b N s l p P t T G Y) {k : Nat} (hk : k < P.length) : ∃ g c z, p = .slice (some ⟨g, 0, none⟩) P.length c ∧ segB W ⟨g, k * 3, none⟩ 3 = true ∧ segV W ⟨g, k * 3, none⟩ 3 = envA z ∧ Fresh 0 W z P[k] ∧ g < W.heap.size := by
  obtain ⟨B, v, zs, ps, ts, hl⟩ := h.ex
  have hP := hl.pn
  subst hP
  rw [List.length_map] at hk
  obtain ⟨g, c, hp, _, hg, h1, h2⟩ := hl.put.rows.get envP_rows.size hk
  exact ⟨g, c, ps[k].1, by rw [hp, List.length_map], h1, h2, by simpa using hl.put.ok ps[k] (List.getElem_mem hk), hg⟩
end

/-- the notes ahead of k, but not number a -/
def wantN (N : List Note) (a k : Nat) : List Note := (N.take k).eraseIdx a
theorem wantN_same {N : List Note} {a k : Nat} (hk : k < N.length) (h : k = a) : wantN N a (k + 1) = wantN N a k := by
  subst h
  unfold wantN
  rw [List.take_succ_eq_append_getElem hk, List.eraseIdx_append_of_length_le (by rw [List.length_take]; omega), List.length_take, Nat.min_eq_left (by omega), Nat.sub_self, List.eraseIdx_cons_zero, List.append_nil, List.eraseIdx_of_length_le (by rw [List.length_take]; omega)]
theorem wantN_more {N : List Note} {a k : Nat} (hk : k < N.length) (h : k ≠ a) : wantN N a (k + 1) = wantN N a k ++ [N[k]] := by
  unfold wantN
  rw [List.take_succ_eq_append_getElem hk]
  by_cases hka : a < k
  · rw [List.eraseIdx_append_of_lt_length (by rw [List.length_take]; omega)]
  · rw [List.eraseIdx_of_length_le (by rw [List.length_append, List.length_take]; simp; omega), List.eraseIdx_of_length_le (by rw [List.length_take]; omega)]
theorem wantN_le (N : List Note) (a k : Nat) : (wantN N a k).length ≤ k := by
  unfold wantN
  rw [List.length_eraseIdx, List.length_take]
  split <;> omega

set_option maxHeartbeats 8000000 in
set_option maxRecDepth 20000 in
theorem BagStay_walk (A : Option Addr) (R : List Int) (c : Nat) (at_ : Int) (drop : Bool) (wat : (Lit.int .i64 at_).wf = true) (w : World) (hR : Ints w A R) (hlen : R.length * 8 ≤ 140737488351232) (hwf : ∀ x ∈ R, (Lit.int .i64 x).wf = true) :
    Calls Try.prog 6 #[.slice A R.length c, .int .i64 at_, .bool drop] w fun e w' => e = .returned (.bool true) ∧ Kept w w' := by
  go_enter Try.func6, Try.ntmps6
  go_wp2_with fail
  refine (law_works _).mono ?_
  rintro e W1 ⟨rfl, hu⟩
  go_wp2_with fail
  refine (law_played _ R _ w W1 hu hR hlen hwf).mono ?_
  rintro e W2 ⟨b, p, t, N, s, l, P, T, rfl, h, hp⟩
  have HP := Lib.hid hp
  have HWF := Lib.hid hwf
  clear hu hp hwf hR
  have hN60 := HP.out.n
  have hs0 := HP.out.s0
  have hs1 := HP.out.s1
  have hl0 := HP.out.l0
  have hl1 := HP.out.l1
  replace h := h.forget
  go_wp2_with fail
  refine h.Len.mono ?_
  rintro e W3 ⟨rfl, rfl⟩
  rcases Nat.eq_zero_or_pos N.length with h0 | h0
  · have h0i : (N.length : Int) = 0 := by omega
    rw [h0i]
    go_wp2
    go_ret
    exact ⟨rfl, h.k⟩
  · have hn0 : (0 : Int) < N.length := by omega
    have hn1 : (N.length : Int) ≠ 0 := by omega
    go_wp2_with fail
    refine (ref_Bring _ _ wat (by omega) (by omega) _).mono ?_
    rintro e W4 ⟨rfl, rfl⟩
    obtain ⟨a, hqa, ha⟩ : ∃ a : Nat, at_ % N.length = a ∧ a < N.length := by
      have h1 := Int.emod_nonneg at_ hn1
      have h2 := Int.emod_lt_of_pos at_ hn0
      exact ⟨(at_ % N.length).toNat, by omega, by omega⟩
    rw [hqa]
    clear hqa
    clear hn1
    have hel : (N.eraseIdx a).length = N.length - 1 := by rw [List.length_eraseIdx]; simp [ha]
    have HEL := Lib.hid hel
    clear hel
    go_wp2_with fail
    go_loopw [11, 12] (fun q i wr => ∃ k : Nat, k ≤ N.length ∧ i = .int .i64 k ∧ LB w wr b N s l q (wantN N a k) (.slice none 0 0) [] [] []) (fun _ i _ => N.length - (intOf i).toNat)
    case atStart => exact ⟨0, Nat.zero_le _, rfl, by simpa [wantN] using h⟩
    case round =>
      clear h
      obtain ⟨k, hk, rfl, h⟩ := hrel
      by_cases hlt : k < N.length
      · go_wp2_with fail
        refine (h.Look k hlt).mono ?_
        rintro e W5 ⟨x, rfl, h'⟩
        clear h
        have hwl := wantN_le N a k
        by_cases hka : k = a
        · subst hka
          have hw := Lib.hid (wantN_same (a := k) hlt rfl)
          have h := h'.alloc (.cells (envA x) 29)
          clear h'
          go_wp2
          go_roundw
          case rel => exact ⟨k + 1, by omega, by go_num, by rw [hw.out]; exact h.less (by simp) (by simp)⟩
          case measure => simp [intOf]; omega
        · have hw := Lib.hid (wantN_more hlt hka)
          have hkai : (k : Int) ≠ a := by omega
          have h8 := (h'.alloc (.cells (envA x) 29)).alloc (.cells (envA x) 29)
          have hgn : ((W5.alloc (.cells (envA x) 29)).alloc (.cells (envA x) 29)).heap[W5.heap.size + 1]? = some (.cells (envA x) 29 (0, 0)) := by
            have := heap_alloc_new (W5.alloc (.cells (envA x) 29)) (.cells (envA x) 29)
            rwa [World.size_alloc] at this
          obtain ⟨A', c', W9, hr, h9⟩ := h8.appendP (h8.y (x, N[k]) (by simp)) (by omega) (W5.heap.size + 1) 1 hgn
          have H9 := Lib.hid (h9.less (G' := []) (Y' := []) (by simp) (by simp))
          clear h' h8 h9 hgn
          go_wp2_with (at_builtin; refine wpList_append rfl (.tmp 50) (.tmp 52) rfl rfl rfl hr ?_)
          go_roundw
          case rel => exact ⟨k + 1, by omega, by go_num, by rw [hw.out]; exact H9.out⟩
          case measure => simp [intOf]; omega
      · obtain rfl : N.length = k := by omega
        have hw : wantN N a N.length = N.eraseIdx a := by unfold wantN; rw [List.take_length]
        rw [hw] at h
        clear hw hlt hk
        go_wp2_with fail
        refine h.Lost.mono ?_
        rintro e W5 ⟨rfl, rfl⟩
        cases drop
        · go_wp2_with fail
          refine (h.Take (by omega) a ha).mono ?_
          rintro e W6 ⟨y, rfl, h'⟩
          clear h
          have h := h'.alloc (.cells (envA y) 29)
          clear h'
          go_wp2_with fail
          refine h.Lost.mono ?_
          rintro e W7 ⟨rfl, rfl⟩
          replace h := h.less (G' := []) (Y' := []) (by simp) (by simp)
          generalize N.eraseIdx a = N1 at *
          have hN1 : N1.length ≤ 60 := by have := HEL.out; omega
          go_wp2_with fail
          go_loopw [18] (fun i wr => ∃ k : Nat, k ≤ N1.length ∧ i = .int .i64 k ∧ LB w wr b N1 s l u11 N1 (.slice none 0 0) [] [] []) (fun i _ => N1.length - (intOf i).toNat)
          case atStart => exact ⟨0, Nat.zero_le _, rfl, h⟩
          case round =>
            clear h
            obtain ⟨k, hk, rfl, h⟩ := hrel
            obtain ⟨A1, c1, hp1⟩ := h.formP
            subst hp1
            by_cases hlt : k < N1.length
            · go_wp2_with fail
              refine (h.Look k hlt).mono ?_
              rintro e Wb ⟨x, rfl, h'⟩
              clear h
              have h := h'.alloc (.cells (envA x) 29)
              clear h'
              go_wp2_with fail
              generalize Wb.alloc (.cells (envA x) 29) = Wc at *
              generalize Wb.heap.size = g at *
              replace h := h.drew
              obtain ⟨gq, cq, z, hz0, hz1, hz2, hz3, hz4⟩ := h.getP hlt
              simp only [Value.slice.injEq, true_and] at hz0
              obtain ⟨rfl, rfl⟩ := hz0
              have v := h.var (g := g) (x := x) (by simp)
              have f1 : ∀ W, Kept Wc.drew W → segB W ⟨g, 0, none⟩ 3 = true := fun W hW => (v.kept hW).s1
              have f2 : ∀ W, Kept Wc.drew W → segV W ⟨g, 0, none⟩ 3 = envA x := fun W hW => (v.kept hW).s2
              have f3 : ∀ W, Kept Wc.drew W → segB W ⟨gq, k * 3, none⟩ 3 = true := fun W hW => by rw [segB_same 3 (hW.block gq hz4 id)]; exact hz1
              have f4 : ∀ W, Kept Wc.drew W → segV W ⟨gq, k * 3, none⟩ 3 = envA z := fun W hW => by rw [segV_same 3 (hW.block gq hz4 id)]; exact hz2
              clear hz1 hz2 v
              refine wp_region_ord [(0, true), (1, true), (2, true), (3, true), (4, true), (5, true), (6, true), (7, true), (8, false), (9, true), (10, true)] (by kernel_rfl) (by kernel_rfl) (fun W => Kept Wc.drew W) (Upd.refl _ _) ?_
              simp only [ordOps, List.getD_cons_zero, List.getD_cons_succ]
              iterate 8 (refine wpOrd_held (fun K hK => ?_); go_simp; first | (apply Exists.intro; refine ⟨fun W hW => ?_, hK _ ?_⟩; (go_simp; first | done | exact rfl); clear hK K) | (refine hK _ ?_; clear hK K))
              refine wpOrd_step (fun K hK => ?_) (Upd.refl _ _)
              go_simp
              refine (ref_Same (h.y (x, N1[k]) (by simp)).at_ hz3.at_).mono ?_
              rw [decide_eq_true rfl]
              rintro e Wd ⟨rfl, hu⟩
              replace h := h.kept hu
              refine hK _ _ hu ?_
              clear hK K
              iterate 2 (refine wpOrd_held (fun K hK => ?_); go_simp; first | (apply Exists.intro; refine ⟨fun W hW => ?_, hK _ ?_⟩; (go_simp; first | done | exact rfl); clear hK K) | (refine hK _ ?_; clear hK K))
              refine wpOrd_nil ?_
              replace h := h.less (G' := []) (Y' := []) (by simp) (by simp)
              clear f1 f2 f3 f4 hu hz3 hz4
              go_wp2
              go_roundw
              case rel => exact ⟨k + 1, by omega, by go_num, h⟩
              case measure => simp [intOf]; omega
            · obtain rfl : N1.length = k := by omega
              clear hlt hk
              go_wp2_with fail
              refine h.Len.mono ?_
              rw [show (N1.length : Int) = N.length - 1 by have := HEL.out; omega]
              rintro e Wb ⟨rfl, rfl⟩
              go_wp2
              go_ret
              exact ⟨rfl, h.k⟩
        · go_wp2_with fail
          refine (h.Drop (by omega) hl0 (by omega) a ha).mono ?_
          rintro e W6 ⟨rfl, h'⟩
          clear h
          have h := h'
          clear h'
          go_wp2_with fail
          refine h.Lost.mono ?_
          rintro e W7 ⟨rfl, rfl⟩
          generalize N.eraseIdx a = N1 at *
          have hN1 : N1.length ≤ 60 := by have := HEL.out; omega
          go_wp2_with fail
          go_loopw [18] (fun i wr => ∃ k : Nat, k ≤ N1.length ∧ i = .int .i64 k ∧ LB w wr b N1 s (l + 1) u11 N1 (.slice none 0 0) [] [] []) (fun i _ => N1.length - (intOf i).toNat)
          case atStart => exact ⟨0, Nat.zero_le _, rfl, h⟩
          case round =>
            clear h
            obtain ⟨k, hk, rfl, h⟩ := hrel
            obtain ⟨A1, c1, hp1⟩ := h.formP
            subst hp1
            by_cases hlt : k < N1.length
            · go_wp2_with fail
              refine (h.Look k hlt).mono ?_
              rintro e Wb ⟨x, rfl, h'⟩
              clear h
              have h := h'.alloc (.cells (envA x) 29)
              clear h'
              go_wp2_with fail
              generalize Wb.alloc (.cells (envA x) 29) = Wc at *
              generalize Wb.heap.size = g at *
              replace h := h.drew
              obtain ⟨gq, cq, z, hz0, hz1, hz2, hz3, hz4⟩ := h.getP hlt
              simp only [Value.slice.injEq, true_and] at hz0
              obtain ⟨rfl, rfl⟩ := hz0
              have v := h.var (g := g) (x := x) (by simp)
              have f1 : ∀ W, Kept Wc.drew W → segB W ⟨g, 0, none⟩ 3 = true := fun W hW => (v.kept hW).s1
              have f2 : ∀ W, Kept Wc.drew W → segV W ⟨g, 0, none⟩ 3 = envA x := fun W hW => (v.kept hW).s2
              have f3 : ∀ W, Kept Wc.drew W → segB W ⟨gq, k * 3, none⟩ 3 = true := fun W hW => by rw [segB_same 3 (hW.block gq hz4 id)]; exact hz1
              have f4 : ∀ W, Kept Wc.drew W → segV W ⟨gq, k * 3, none⟩ 3 = envA z := fun W hW => by rw [segV_same 3 (hW.block gq hz4 id)]; exact hz2
              clear hz1 hz2 v
              refine wp_region_ord [(0, true), (1, true), (2, true), (3, true), (4, true), (5, true), (6, true), (7, true), (8, false), (9, true), (10, true)] (by kernel_rfl) (by kernel_rfl) (fun W => Kept Wc.drew W) (Upd.refl _ _) ?_
              simp only [ordOps, List.getD_cons_zero, List.getD_cons_succ]
              iterate 8 (refine wpOrd_held (fun K hK => ?_); go_simp; first | (apply Exists.intro; refine ⟨fun W hW => ?_, hK _ ?_⟩; (go_simp; first | done | exact rfl); clear hK K) | (refine hK _ ?_; clear hK K))
              refine wpOrd_step (fun K hK => ?_) (Upd.refl _ _)
              go_simp
              refine (ref_Same (h.y (x, N1[k]) (by simp)).at_ hz3.at_).mono ?_
              rw [decide_eq_true rfl]
              rintro e Wd ⟨rfl, hu⟩
              replace h := h.kept hu
              refine hK _ _ hu ?_
              clear hK K
              iterate 2 (refine wpOrd_held (fun K hK => ?_); go_simp; first | (apply Exists.intro; refine ⟨fun W hW => ?_, hK _ ?_⟩; (go_simp; first | done | exact rfl); clear hK K) | (refine hK _ ?_; clear hK K))
              refine wpOrd_nil ?_
              replace h := h.less (G' := []) (Y' := []) (by simp) (by simp)
              clear f1 f2 f3 f4 hu hz3 hz4
              go_wp2
              go_roundw
              case rel => exact ⟨k + 1, by omega, by go_num, h⟩
              case measure => simp [intOf]; omega
            · obtain rfl : N1.length = k := by omega
              clear hlt hk
              go_wp2_with fail
              refine h.Len.mono ?_
              rw [show (N1.length : Int) = N.length - 1 by have := HEL.out; omega]
              rintro e Wb ⟨rfl, rfl⟩
              go_wp2
              go_ret
              exact ⟨rfl, h.k⟩
set_option maxRecDepth 100000 in
theorem BagStay_lifted (os : Os) (started : os.Started) (H : Type) (enc : TypeId × Value → H) :
    ReturnsInHanded {} Try.checked os 6 .any (Rows.bagStaySpec.pre6 enc Try.prog Try.f6 Rows.bagStayRow.domain false) (Rows.bagStaySpec.post enc Try.prog Try.f6 false true false false) := by
  refine law_lifted os started Try.func6 (by kernel_rfl) rfl rfl (by kernel_rfl) ?_
    (ChangeSpec.witness6 (enc := enc) (C := Try.checked) false ⟨#[], #[.slice none 0 0, .int .i64 0, .bool false], []⟩ 8 (by kernel_rfl) (by kernel_rfl) (by kernel_rfl) (by kernel_rfl)) ?_
  · intro ds h
    rw [Try.params6] at h
    match ds, h with
    | [d0, d1, d2], _ => rfl
  · intro W base args ds ps hval hA hsz
    rw [Try.params6] at hA hval hsz
    obtain ⟨v0, vs0, d0, ds0, p0, q0, hargs, rfl, rfl, h0, r_0⟩ := trodAll_cons hA
    obtain ⟨v1, vs1, d1, ds1, p1, q1, rfl, rfl, rfl, h1, r_1⟩ := trodAll_cons r_0
    obtain ⟨v2, vs2, d2, ds2, p2, q2, rfl, rfl, rfl, h2, r_2⟩ := trodAll_cons r_1
    obtain ⟨rfl, rfl, rfl⟩ := trodAll_nil r_2
    obtain rfl : args = #[v0, v1, v2] := by cases args; simp_all
    obtain ⟨A0, n0, c0, rfl⟩ := okWide_slice Try.underlying44 (hval 0 44 v0 rfl rfl)
    have r0 := ReadsAs.of_trod hsz (j := 0) rfl rfl h0
    obtain ⟨a1, rfl, rfl, rfl, w1⟩ := open_int Try.underlying3 (hval 1 3 v1 rfl rfl) h1
    obtain ⟨a2, rfl, rfl, rfl⟩ := open_bool Try.underlying4 (hval 2 4 v2 rfl rfl) h2
    obtain ⟨A, R, cap, hcs, hlen, hwf, hR⟩ := r0.ints Try.underlying44 Try.underlying3 int_cells (by kernel_rfl)
    simp only [Value.cells, List.cons.injEq, Value.slice.injEq, and_true] at hcs
    obtain ⟨rfl, rfl, rfl⟩ := hcs
    exact BagStay_walk _ R _ a1 a2 w1 W hR hlen hwf

theorem BagStay_holds : Rows.BagStaySaid :=
  OpenClaim.holds_of_wide 6 Try.f6 rfl rfl rfl rfl rfl rfl rfl ⟨rfl, rfl, rfl, rfl, rfl⟩ rfl rfl rfl rfl rfl (by kernel_rfl) Try.func6 (by kernel_rfl)
    (of_decide_eq_true (by kernel_rfl)) (by unfold Func.isWrapper; first | (rw [if_pos (by decide +kernel)]; kernel_rfl) | (rw [if_neg (by decide +kernel)]; exact ⟨rfl, rfl⟩))
    (fun os started H enc _ => BagStay_lifted os started H enc)
end Go.Proofs.Ytkfekkemfahepaa
