/- What is taken, or there, was put, as it was: the statement BagJust holds. For every input. -/
import Derived.Test.YtkfekkemfahepaaBagQ
namespace Go.Proofs.Ytkfekkemfahepaa
open Go.ChangeShapes Go.WideShapes Go.ChangeAt Go.RowKit

set_option maxHeartbeats 2000000 in
theorem law_has {w : World} {B : Nat} {p : Value} {ps : List (EnvC × Note)} (h : NotesAt w B p ps) (hl : ps.length ≤ 4096) {x : EnvC} {m : Note} (hx : NoteAt w x m) (hm : m ∈ ps.map (·.2)) :
    Calls Try.prog 36 #[p, .agg (envA x)] w fun e w' => e = .returned (.bool true) ∧ Kept w w' := by
  obtain ⟨A0, c0, hp⟩ := h.rows.form
  subst hp
  have HM := Lib.hid hm
  clear hm
  have hu1 : Kept w (w.alloc (.cells (envA x) 29)) := (Upd.refl _ w).alloc _
  have hv := EnvAt.new w x
  go_enter Try.func36, Try.ntmps36
  go_wp2_with fail
  generalize w.alloc (.cells (envA x) 29) = W1 at *
  go_loopw [5] (fun i wr => ∃ k : Nat, k ≤ ps.length ∧ i = .int .i64 k ∧ (∀ j (hj : j < ps.length), j < k → ps[j].2 ≠ m) ∧ Kept W1 wr) (fun i _ => ps.length - (intOf i).toNat)
  case atStart => exact ⟨0, Nat.zero_le _, rfl, fun j _ hj => absurd hj (Nat.not_lt_zero j), Upd.refl _ _⟩
  case round =>
    obtain ⟨k, hk, rfl, hno, hu⟩ := hrel
    have HNO := Lib.hid hno
    clear hno
    by_cases hlt : k < ps.length
    · have hk2 : Kept w wr := hu1.then hu fun _ _ h => h
      obtain ⟨g, c, hv0, _, hgl, s1, s2⟩ := (h.kept hk2).rows.get envP_rows.size hlt
      simp only [Value.slice.injEq, true_and] at hv0
      obtain ⟨rfl, rfl⟩ := hv0
      have hz := (h.ok ps[k] (List.getElem_mem hlt)).at_
      rw [show envP ps[k] = envA ps[k].1 from rfl] at s2
      have hvr := hv.kept hu
      have f1 : ∀ W, Kept wr W → segB W ⟨w.heap.size, 0, none⟩ 3 = true := fun W hW => (hvr.kept hW).s1
      have f2 : ∀ W, Kept wr W → segV W ⟨w.heap.size, 0, none⟩ 3 = envA x := fun W hW => (hvr.kept hW).s2
      have f3 : ∀ W, Kept wr W → segB W ⟨g, k * 3, none⟩ 3 = true := fun W hW => by rw [segB_same 3 (hW.block g hgl id)]; exact s1
      have f4 : ∀ W, Kept wr W → segV W ⟨g, k * 3, none⟩ 3 = envA ps[k].1 := fun W hW => by rw [segV_same 3 (hW.block g hgl id)]; exact s2
      have hzd := hz.kept (hk2.drew)
      have hxd := hx.kept (hk2.drew)
      have hkd := hk2.drew
      have hud := hu.drew
      have HI : Hid (∀ n, n = ps[k].2 → ps[k].2 = n) := fun n h => h.symm
      generalize hz1 : ps[k].1 = z at *
      generalize hz2 : ps[k].2 = n at *
      clear s1 s2 hz hvr hu
      go_wp2_with fail
      refine wp_region_ord [(0, true), (1, true), (2, true), (3, true), (4, true), (5, false)] (by kernel_rfl) (by kernel_rfl) (fun W => Kept wr W) (Upd.refl _ _).drew ?_
      simp only [ordOps, List.getD_cons_zero, List.getD_cons_succ]
      iterate 5 (refine wpOrd_held (fun K hK => ?_); go_simp; first | (apply Exists.intro; refine ⟨fun W hW => ?_, hK _ ?_⟩; (go_simp; first | done | exact rfl); clear hK K) | (refine hK _ ?_; clear hK K))
      refine wpOrd_step (fun K hK => ?_) (Upd.refl _ _).drew
      go_simp
      refine (ref_Same hzd hxd).mono ?_
      by_cases hnm : n = m
      · rw [decide_eq_true hnm]
        rintro e W3 ⟨rfl, hu3⟩
        refine hK _ _ ((Upd.refl _ _).drew.then hu3 fun _ _ h => h) ?_
        clear hK K f1 f2 f3 f4
        refine wpOrd_nil ?_
        have HK : Hid (Kept w W3) := hkd.then hu3 fun _ _ h => h
        clear hu3 hkd hud hzd hxd
        go_wp2
        go_ret
        exact ⟨rfl, HK.out⟩
      · rw [decide_eq_false hnm]
        rintro e W3 ⟨rfl, hu3⟩
        refine hK _ _ ((Upd.refl _ _).drew.then hu3 fun _ _ h => h) ?_
        clear hK K f1 f2 f3 f4
        refine wpOrd_nil ?_
        have HK : Hid (Kept W1 W3) := hud.then hu3 fun _ _ h => h
        have HNM := Lib.hid hnm
        clear hu3 hkd hud hzd hxd hnm
        go_wp2
        go_roundw
        case rel => exact ⟨k + 1, by omega, by go_num, fun j hj hjk => by
          by_cases hjk' : j = k
          · subst hjk'; rw [hz2]; exact HNM.out
          · exact HNO.out j hj (by omega), HK.out⟩
        case measure => simp [intOf]; omega
    · exfalso
      obtain ⟨z, hz, hzm⟩ := List.mem_map.1 HM.out
      obtain ⟨j, hj, rfl⟩ := List.mem_iff_getElem.1 hz
      exact HNO.out j hj (by omega) hzm

section
variable {w W : World} {b : Nat} {N : List Note} {s l : Int} {p t : Value} {P T : List Note} {G : List (Nat × Obj)} {Y : List (EnvC × Note)}
theorem LB.has (h : LB w W b N s l p P t T G Y) (hP : P.length ≤ 4096) {x : EnvC} {m : Note} (hx : NoteAt W x m) (hm : m ∈ P) :
    Calls Try.prog 36 #[p, .agg (envA x)] W fun e w' => e = .returned (.bool true) ∧ LB w w' b N s l p P t T G Y := by
  obtain ⟨B, v, zs, ps, ts, hl⟩ := h.ex
  refine (law_has hl.put (by rw [← hl.pn, List.length_map] at hP; exact hP) hx (by rw [hl.pn]; exact hm)).mono ?_
  rintro e w' ⟨rfl, hu⟩
  exact ⟨rfl, h.kept hu⟩
theorem LB.formT (h : LB w W b N s l p P t T G Y) : ∃ A c, t = .slice A T.length c := by
  obtain ⟨B, v, zs, ps, ts, hl⟩ := h.ex
  obtain ⟨A, c, hp⟩ := hl.took.rows.form
  exact ⟨A, c, by rw [hp, ← hl.tn, List.length_map]⟩
theorem LB.getT (h : LB w W b N s l p P t T G Y) {k : Nat} (hk : k < T.length) : ∃ g c z, t = .slice (some ⟨g, 0, none⟩) T.length c ∧ segB W ⟨g, k * 3, none⟩ 3 = true ∧ segV W ⟨g, k * 3, none⟩ 3 = envA z ∧ Fresh 0 W z T[k] ∧ g < W.heap.size := by
  obtain ⟨B, v, zs, ps, ts, hl⟩ := h.ex
  have hP := hl.tn
  subst hP
  rw [List.length_map] at hk
  obtain ⟨g, c, hp, _, hg, h1, h2⟩ := hl.took.rows.get envP_rows.size hk
  exact ⟨g, c, ts[k].1, by rw [hp, List.length_map], h1, h2, by simpa using hl.took.ok ts[k] (List.getElem_mem hk), hg⟩
end

set_option maxHeartbeats 4000000 in
set_option maxRecDepth 20000 in
theorem BagJust_walk (A : Option Addr) (R : List Int) (c : Nat) (w : World) (hR : Ints w A R) (hlen : R.length * 8 ≤ 140737488351232) (hwf : ∀ x ∈ R, (Lit.int .i64 x).wf = true) :
    Calls Try.prog 4 #[.slice A R.length c] w fun e w' => e = .returned (.bool true) ∧ Kept w w' := by
  go_enter Try.func4, Try.ntmps4
  go_wp2_with fail
  refine (law_works _).mono ?_
  rintro e W1 ⟨rfl, hu⟩
  go_wp2_with fail
  refine (law_played _ R _ w W1 hu hR hlen hwf).mono ?_
  rintro e W2 ⟨b, p, t, N, s, l, P, T, rfl, h, hp⟩
  have HP := Lib.hid hp
  have HWF := Lib.hid hwf
  clear hu hp hwf hR
  have hN60 := HP.out.n
  have hs0 := HP.out.s0
  have hs1 := HP.out.s1
  have hl0 := HP.out.l0
  have hl1 := HP.out.l1
  have hT60 := HP.out.t
  have hP60 := HP.out.p
  obtain ⟨A1, c1, ht⟩ := h.formT
  subst ht
  go_wp2_with fail
  go_loopw [6] (fun i wr => ∃ k : Nat, k ≤ T.length ∧ i = .int .i64 k ∧ LB w wr b N s l p P (.slice A1 T.length c1) T [] []) (fun i _ => T.length - (intOf i).toNat)
  case atStart => exact ⟨0, Nat.zero_le _, rfl, h⟩
  case round =>
    clear h
    obtain ⟨k, hk, rfl, h⟩ := hrel
    by_cases hlt : k < T.length
    · obtain ⟨gq, cq, z, hz0, hz1, hz2, hz3, hz4⟩ := h.getT hlt
      simp only [Value.slice.injEq, true_and] at hz0
      obtain ⟨rfl, rfl⟩ := hz0
      go_wp2_with fail
      refine (h.has (by omega) hz3.at_ (HP.out.tp _ (List.getElem_mem hlt))).mono ?_
      rintro e W3 ⟨rfl, h'⟩
      clear h hz1 hz2 hz3 hz4
      have h := h'
      clear h'
      go_wp2
      go_roundw
      case rel => exact ⟨k + 1, by omega, by go_num, h⟩
      case measure => simp [intOf]; omega
    · obtain rfl : T.length = k := by omega
      clear hlt hk
      go_wp2_with fail
      go_loopw [7] (fun i wr => ∃ k : Nat, k ≤ N.length ∧ i = .int .i64 k ∧ LB w wr b N s l p P (.slice A1 T.length c1) T [] []) (fun i _ => N.length - (intOf i).toNat)
      case atStart => exact ⟨0, Nat.zero_le _, rfl, h⟩
      case round =>
        clear h
        obtain ⟨k, hk, rfl, h⟩ := hrel
        go_wp2_with fail
        refine h.Len.mono ?_
        rintro e W3 ⟨rfl, rfl⟩
        by_cases hlt : k < N.length
        · go_wp2_with fail
          refine (h.Look k hlt).mono ?_
          rintro e W4 ⟨x, rfl, h'⟩
          clear h
          have h := h'.alloc (.cells (envA x) 29)
          clear h'
          go_wp2_with fail
          generalize W4.alloc (.cells (envA x) 29) = W5 at *
          refine (h.has (by omega) (h.y (x, N[k]) (by simp)).at_ (HP.out.np _ (List.getElem_mem hlt))).mono ?_
          rintro e W6 ⟨rfl, h'⟩
          clear h
          have h := h'.less (G' := []) (Y' := []) (by simp) (by simp)
          clear h'
          go_wp2
          go_roundw
          case rel => exact ⟨k + 1, by omega, by go_num, h⟩
          case measure => simp [intOf]; omega
        · obtain rfl : N.length = k := by omega
          have hsum := HP.out.sum
          have HS := Lib.hid hsum
          clear hsum
          go_wp2_with fail
          refine h.Sent.mono ?_
          rintro e W4 ⟨rfl, rfl⟩
          go_wp2_with fail
          refine h.Lost.mono ?_
          rintro e W4 ⟨rfl, rfl⟩
          go_wp2_with fail
          refine h.Len.mono ?_
          rintro e W4 ⟨rfl, rfl⟩
          go_wp2
          go_ret
          exact ⟨by have := HS.out; simp; omega, h.k⟩
set_option maxRecDepth 100000 in
theorem BagJust_lifted (os : Os) (started : os.Started) (H : Type) (enc : TypeId × Value → H) :
    ReturnsInHanded {} Try.checked os 4 .any (Rows.bagJustSpec.pre6 enc Try.prog Try.f4 Rows.bagJustRow.domain false) (Rows.bagJustSpec.post enc Try.prog Try.f4 false true false false) := by
  refine law_lifted os started Try.func4 (by kernel_rfl) rfl rfl (by kernel_rfl) ?_
    (ChangeSpec.witness6 (enc := enc) (C := Try.checked) false ⟨#[], #[.slice none 0 0], []⟩ 8 (by kernel_rfl) (by kernel_rfl) (by kernel_rfl) (by kernel_rfl)) ?_
  · intro ds h
    rw [Try.params4] at h
    match ds, h with
    | [d0], _ => rfl
  · intro W base args ds ps hval hA hsz
    rw [Try.params4] at hA hval hsz
    obtain ⟨v0, vs0, d0, ds0, p0, q0, hargs, rfl, rfl, h0, r_0⟩ := trodAll_cons hA
    obtain ⟨rfl, rfl, rfl⟩ := trodAll_nil r_0
    obtain rfl : args = #[v0] := by cases args; simp_all
    obtain ⟨A0, n0, c0, rfl⟩ := okWide_slice Try.underlying44 (hval 0 44 v0 rfl rfl)
    have r0 := ReadsAs.of_trod hsz (j := 0) rfl rfl h0
    obtain ⟨A, R, cap, hcs, hlen, hwf, hR⟩ := r0.ints Try.underlying44 Try.underlying3 int_cells (by kernel_rfl)
    simp only [Value.cells, List.cons.injEq, Value.slice.injEq, and_true] at hcs
    obtain ⟨rfl, rfl, rfl⟩ := hcs
    exact BagJust_walk _ R _ W hR hlen hwf

theorem BagJust_holds : Rows.BagJustSaid :=
  OpenClaim.holds_of_wide 4 Try.f4 rfl rfl rfl rfl rfl rfl rfl ⟨rfl, rfl, rfl, rfl, rfl⟩ rfl rfl rfl rfl rfl (by kernel_rfl) Try.func4 (by kernel_rfl)
    (of_decide_eq_true (by kernel_rfl)) (by unfold Func.isWrapper; first | (rw [if_pos (by decide +kernel)]; kernel_rfl) | (rw [if_neg (by decide +kernel)]; exact ⟨rfl, rfl⟩))
    (fun os started H enc _ => BagJust_lifted os started H enc)
end Go.Proofs.Ytkfekkemfahepaa
