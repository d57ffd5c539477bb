/- A tag stays, whatever comes behind it: the statement TagStays holds. For every input. -/
import Derived.Test.YtjnaenmknbcjmaaTagF
namespace Go.Proofs.Ytjnaenmknbcjmaa
open Go.ChangeShapes Go.WideShapes Go.ChangeAt Go.RowKit

theorem wf_small {n : Int} (h0 : -1000000 ≤ n) (h1 : n ≤ 1000000) : (Lit.int .i64 n).wf = true := by
  simp [Lit.wf, IntKind.min, IntKind.max, IntKind.signed, IntKind.bits]; omega
theorem putE_mem {e x : Ent} {L : List Ent} (h : e ∈ L) : e ∈ putE x L := by
  unfold putE
  split
  · exact h
  · exact List.mem_append_left _ h
theorem tagM_mem {e : Ent} {L : List Ent} (f t : Int) (d : Dig) (h : e ∈ L) : e ∈ (tagM L f t d).1 := by
  unfold tagM
  split
  · exact putE_mem h
  · exact h
theorem foldl_mem {e : Ent} (f : Int) (d : Dig) : ∀ (R : List Int) {L : List Ent}, e ∈ L → e ∈ R.foldl (fun L t => putE (f, t, d) L) L
  | [], _, h => h
  | _ :: R, _, h => foldl_mem f d R (putE_mem h)
theorem vecM_mem {e : Ent} {L : List Ent} (f : Int) (R : List Int) (d : Dig) (h : e ∈ L) : e ∈ (vecM L f R d).1 := by
  unfold vecM
  split
  · exact foldl_mem f d R h
  · exact h
theorem checkM_mem {L : List Ent} {f t : Int} {d : Dig} (h : (f, t, d) ∈ L) : checkM L f t d = true := by
  unfold checkM; simp [h]

set_option maxHeartbeats 2000000 in
theorem TagStays_walk (a0 a1 : Int) (w0 : (Lit.int .i64 a0).wf = true) (w1 : (Lit.int .i64 a1).wf = true) (A : Option Addr) (l : List DeedV) (c : Nat) (w : World) (hD : Deeds w A l) (hok : ∀ x ∈ l, DeedOk x) (hlen : l.length * 72 ≤ reachBytes) :
    Calls Try.prog 5 #[.int .i64 a0, .int .i64 a1, .slice A l.length c] w fun e w' => e = .returned (.bool true) ∧ Kept w w' := by
  unfold reachBytes at hlen
  have HO := Lib.hid hok
  clear hok
  go_enter Try.func5, Try.ntmps5
  go_wp2_with fail
  refine (law_works _).mono ?_
  rintro e W1 ⟨rfl, hu⟩
  have HU := Lib.hid hu
  clear hu
  go_wp2_with fail
  refine (ref_Bring _ _ w0 (by omega) (by omega) _).mono ?_
  rintro e W2 ⟨rfl, rfl⟩
  have hm := mod_range a0 34 (by omega)
  generalize a0 % 34 = m at *
  go_wp2_with fail
  refine (ref_Bring _ _ w1 (by omega) (by omega) _).mono ?_
  rintro e W2 ⟨rfl, rfl⟩
  have ht := mod_range a1 35 (by omega)
  generalize a1 % 35 = T at *
  have hF : (namedB (1 + m) && (namedB T || T == 0)) = true := by simp [namedB]; omega
  have t1 : tagM [] (1 + m) T (digI 200) = ([(1 + m, T, digI 200)], 0) := by unfold tagM; rw [hF]; simp [putE]
  have T1 := Lib.hid t1
  clear t1 hF
  go_wp2_with fail
  refine (tag_New _).mono ?_
  rintro e W3 ⟨b1, r1, rfl, hL1, hu, hb1, hr1⟩
  replace hb1 := Nat.le_trans HU.out.size hb1
  replace hr1 := Nat.le_trans HU.out.size hr1
  replace HU := Lib.hid (HU.out.then hu (fun _ _ h => h))
  clear hu
  go_wp2_with fail
  refine (law_digest _ (by omega) (by omega) _).mono ?_
  rintro e W4 ⟨rfl, hu⟩
  replace HU := Lib.hid (HU.out.then hu (fun _ _ h => h))
  replace hL1 := hL1.upd hu id id
  clear hu
  go_wp2_with fail
  refine (tag_Tag hL1 _ _ _).mono ?_
  rw [T1.out]
  rintro e W5 ⟨rfl, hL, hu⟩
  replace HU := Lib.hid (HU.out.then hu (fun i hi e => absurd hi (by omega)))
  clear hu hL1
  go_wp2_with fail
  go_loopw [8] (fun i wr => ∃ k : Nat, ∃ L : List Ent, k ≤ l.length ∧ k ≤ 60 ∧ i = .int .i64 k ∧ LedAt wr b1 r1 L k ∧ (1 + m, T, digI 200) ∈ L ∧ Kept w wr) (fun i _ => 60 - (intOf i).toNat)
  case atStart => exact ⟨0, _, Nat.zero_le _, Nat.zero_le _, rfl, hL, by simp, HU.out⟩
  case round =>
    clear hL HU
    obtain ⟨k, L, hk, hk6, rfl, hL, hin, hu⟩ := hrel
    have HL := Lib.hid hL
    have HU := Lib.hid hu
    have HI := Lib.hid hin
    clear hL hu hin
    by_cases hlt : k < l.length
    · by_cases hlt6 : k < 60
      · obtain ⟨gb, off, rfl, hD1⟩ := hD.get hlt
        have hok := HO.out l[k] (List.getElem_mem hlt)
        generalize l[k] = x at *
        have f0 : ∀ W, Kept w W → W.cell? ⟨gb, off + k * 7, none⟩ = some (.int .i64 x.k) := fun W hW => hW.cell hD1.k id
        have f1 : ∀ W, Kept w W → W.cell? ⟨gb, off + k * 7 + 1, none⟩ = some (.int .i64 x.f) := fun W hW => hW.cell hD1.f id
        have f2 : ∀ W, Kept w W → W.cell? ⟨gb, off + k * 7 + 2, none⟩ = some (.int .i64 x.t) := fun W hW => hW.cell hD1.t id
        have f3 : ∀ W, Kept w W → W.cell? ⟨gb, off + k * 7 + 3, none⟩ = some (.slice x.A x.R.length x.c) := fun W hW => hW.cell hD1.r id
        have f4 : ∀ W, Kept w W → W.cell? ⟨gb, off + k * 7 + 4, none⟩ = some (.int .u8 x.d) := fun W hW => hW.cell hD1.d id
        have hW := HU.out
        have hd0 := hok.d0
        have hd1 := hok.d1
        go_wp2_with fail
        refine wp_region_ord [(0, true), (1, true), (2, true), (3, true), (4, true), (5, true), (6, true), (7, true), (8, true), (9, true), (10, true), (11, true), (12, true), (13, true), (14, true), (15, true), (16, false), (17, false)] (by kernel_rfl) (by kernel_rfl) (Kept w) (hW.drew) ?_
        simp only [ordOps, List.getD_cons_zero, List.getD_cons_succ]
        iterate 16 (refine wpOrd_held (fun K hK => ?_); go_simp; first | (apply Exists.intro; refine ⟨fun W hW => ?_, hK _ ?_⟩; (go_simp; first | done | exact rfl); clear hK K) | (refine hK _ ?_; clear hK K))
        refine wpOrd_step (fun K hK => ?_) hW.drew
        go_simp
        refine (law_digest _ hd0 hd1 _).mono ?_
        rintro e W3 ⟨rfl, hu⟩
        refine hK _ _ (hW.drew.then hu (fun _ _ h => h)) ?_
        clear hK K
        have hL3 := HL.out.drew.upd hu id id
        replace HU := Lib.hid (hW.drew.then hu (fun _ _ h => h))
        clear hu hW
        refine wpOrd_step (fun K hK => ?_) HU.out
        go_simp
        refine (tag_Tag hL3 _ _ _).mono ?_
        rintro e W4 ⟨rfl, hL4, hu⟩
        replace HU := Lib.hid (HU.out.then hu (fun i hi e => absurd hi (by omega)))
        refine hK _ _ HU.out ?_
        clear hK K hu hL3 HL
        refine wpOrd_nil ?_
        replace HI := Lib.hid (tagM_mem x.f x.t (digI x.d) HI.out)
        generalize (tagM L x.f x.t (digI x.d)).1 = L2 at *
        have hW := HU.out
        go_wp2_with fail
        refine wp_region_ord [(0, true), (1, true), (2, true), (3, true), (4, true), (5, true), (6, true), (7, true), (8, true), (9, true), (10, true), (11, true), (12, true), (13, true), (14, true), (15, true), (16, false), (17, false)] (by kernel_rfl) (by kernel_rfl) (Kept w) (hW.drew) ?_
        simp only [ordOps, List.getD_cons_zero, List.getD_cons_succ]
        iterate 16 (refine wpOrd_held (fun K hK => ?_); go_simp; first | (apply Exists.intro; refine ⟨fun W hW => ?_, hK _ ?_⟩; (go_simp; first | done | exact rfl); clear hK K) | (refine hK _ ?_; clear hK K))
        refine wpOrd_step (fun K hK => ?_) hW.drew
        go_simp
        refine (law_digest _ hd0 hd1 _).mono ?_
        rintro e W5 ⟨rfl, hu⟩
        refine hK _ _ (hW.drew.then hu (fun _ _ h => h)) ?_
        clear hK K
        have hL5 := hL4.drew.upd hu id id
        replace HU := Lib.hid (hW.drew.then hu (fun _ _ h => h))
        clear hu hW hL4
        refine wpOrd_step (fun K hK => ?_) HU.out
        go_simp
        refine (tag_Vector hL5 _ _ _ _ _ (hD1.kept HU.out).ints).mono ?_
        rintro e W6 ⟨rfl, hL6, hu⟩
        replace HU := Lib.hid (HU.out.then hu (fun i hi e => absurd hi (by omega)))
        refine hK _ _ HU.out ?_
        clear hK K hu hL5
        refine wpOrd_nil ?_
        replace HI := Lib.hid (vecM_mem x.f x.R (digI x.d) HI.out)
        generalize (vecM L2 x.f x.R (digI x.d)).1 = L3 at *
        clear f0 f1 f2 f3 f4
        go_wp2_with fail
        refine (law_digest _ (by omega) (by omega) _).mono ?_
        rintro e W7 ⟨rfl, hu⟩
        have hL7 := hL6.upd hu id id
        replace HU := Lib.hid (HU.out.then hu (fun _ _ h => h))
        clear hu hL6
        go_wp2_with fail
        refine (tag_Check hL7 (by omega) (by omega) _ _ _ (wf_small (by omega) (by omega)) (wf_small (by omega) (by omega))).mono ?_
        rw [checkM_mem HI.out]
        rintro e W8 ⟨rfl, hL8, hu⟩
        replace HU := Lib.hid (HU.out.then hu (fun i hi e => absurd hi (by omega)))
        clear hu hL7
        go_wp2
        go_roundw
        case rel => exact ⟨k + 1, L3, by omega, by omega, by go_num, hL8, HI.out, HU.out⟩
        case measure => simp [intOf]; omega
      · obtain rfl : k = 60 := by omega
        go_wp2
        go_ret
        exact ⟨rfl, HU.out⟩
    · obtain rfl : k = l.length := by omega
      go_wp2
      go_ret
      exact ⟨rfl, HU.out⟩

set_option maxRecDepth 100000 in
theorem TagStays_lifted (os : Os) (started : os.Started) (H : Type) (enc : TypeId × Value → H) :
    ReturnsInHanded {} Try.checked os 5 .any (Rows.tagStaysSpec.pre6 enc Try.prog Try.f5 Rows.tagStaysRow.domain false) (Rows.tagStaysSpec.post enc Try.prog Try.f5 false true false false) := by
  refine law_lifted os started Try.func5 (by kernel_rfl) rfl rfl (by kernel_rfl) ?_
    (ChangeSpec.witness6 (enc := enc) (C := Try.checked) false ⟨#[], #[.int .i64 0, .int .i64 0, .slice none 0 0], []⟩ 8 (by kernel_rfl) (by kernel_rfl) (by kernel_rfl) (by kernel_rfl)) ?_
  · intro ds h
    rw [Try.params5] at h
    match ds, h with
    | [d0, d1, d2], _ => rfl
  · intro W base args ds ps hval hA hsz
    rw [Try.params5] at hA hval hsz
    obtain ⟨v0, vs0, d0, ds0, p0, q0, hargs, rfl, rfl, h0, r_0⟩ := trodAll_cons hA
    obtain ⟨v1, vs1, d1, ds1, p1, q1, rfl, rfl, rfl, h1, r_1⟩ := trodAll_cons r_0
    obtain ⟨v2, vs2, d2, ds2, p2, q2, rfl, rfl, rfl, h2, r_2⟩ := trodAll_cons r_1
    obtain ⟨rfl, rfl, rfl⟩ := trodAll_nil r_2
    obtain rfl : args = #[v0, v1, v2] := by cases args; simp_all
    obtain ⟨a0, rfl, rfl, rfl, w0⟩ := open_int Try.underlying3 (hval 0 3 v0 rfl rfl) h0
    obtain ⟨a1, rfl, rfl, rfl, w1⟩ := open_int Try.underlying3 (hval 1 3 v1 rfl rfl) h1
    obtain ⟨A2, n2, c2, rfl⟩ := okWide_slice Try.underlying22 (hval 2 22 v2 rfl rfl)
    have r2 := ReadsAs.of_trod hsz (j := 2) rfl rfl h2
    obtain ⟨A, l, cap, hcs, hlen, hD, hok⟩ := open_deeds r2
    simp only [Value.cells, List.cons.injEq, Value.slice.injEq, and_true] at hcs
    obtain ⟨rfl, rfl, rfl⟩ := hcs
    exact TagStays_walk a0 a1 w0 w1 _ l _ W hD hok hlen

theorem TagStays_holds : Rows.TagStaysSaid :=
  OpenClaim.holds_of_wide 5 Try.f5 rfl rfl rfl rfl rfl rfl rfl ⟨rfl, rfl, rfl, rfl, rfl⟩ rfl rfl rfl rfl rfl (by kernel_rfl) Try.func5 (by kernel_rfl)
    (of_decide_eq_true (by kernel_rfl)) (by unfold Func.isWrapper; first | (rw [if_pos (by decide +kernel)]; kernel_rfl) | (rw [if_neg (by decide +kernel)]; exact ⟨rfl, rfl⟩))
    (fun os started H enc _ => TagStays_lifted os started H enc)
end Go.Proofs.Ytjnaenmknbcjmaa
