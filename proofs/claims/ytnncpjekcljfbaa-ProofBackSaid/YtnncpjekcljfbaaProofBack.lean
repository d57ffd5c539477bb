/- What Build answers fits: the statement ProofBack holds, of all leaves and numbers. -/
import Derived.Test.YtnncpjekcljfbaaSetF
namespace Go.Proofs.Ytnncpjekcljfbaa
open Go.ChangeShapes Go.WideShapes Go.ChangeAt Go.RowKit

attribute [local irreducible] wpOrd
set_option maxHeartbeats 1600000 in
set_option maxRecDepth 20000 in
theorem ProofBack_walk (A : Option Addr) (c : Nat) (l : List (SlC × Bytes)) (i : Int) (w : World) (hl : LeavesAt w A l) (hlm : l.length ≤ 140737488351232) (hiw : (Lit.int .i64 i).wf = true) :
    Calls Try.prog 7 #[.slice A l.length c, .int .i64 i] w fun e w' => e = .returned (.bool true) ∧ Kept w w' := by
  replace hiw := Lib.hid hiw
  have hnot : ∀ (x : Bool) (w : World), (Op.unary .not (.bool x)).run Try.prog w = .ok (.bool (!x)) w := fun _ _ => rfl
  have HX := Lib.hid (And.intro hl hlm)
  clear hl hlm
  obtain ⟨nl, hnl⟩ : ∃ nl, nl = l.length := ⟨_, rfl⟩
  rw [← hnl]
  have HNL := Lib.hid hnl
  clear hnl
  go_enter Try.func7, Try.ntmps7
  go_wp2_with fail
  refine (law_works10 _).mono ?_
  rintro e w1 ⟨rfl, hu⟩
  have HU := Lib.hid (hu)
  clear hu
  go_wp2_with fail
  refine (law_book _).mono ?_
  rintro e w2 ⟨b, r, q, rfl, hI⟩
  have HI := Lib.hid (hI.back HU.out)
  clear hI HU
  go_wp2_with fail
  rcases Nat.eq_zero_or_pos nl with h0 | h0
  · skip
    subst h0
    have HG := bastidelaw10_made_none (w := w2) (p := some ⟨b, 0, none⟩) (A := A) c
    refine HG.mono ?_
    clear HG
    rintro e w3 ⟨rfl, hu⟩
    have HF := Lib.hid (HI.out.kept hu).upd
    clear hu HI
    go_wp2
    go_ret
    exact ⟨rfl, HF.out⟩
  · skip
    have HG := bastidelaw10_made HI.out (l := l) (A := A) c (fun W hW => HX.out.1.kept (HI.out.keeps hW)) (by rw [← HNL.out]; exact h0) HX.out.2
    rw [← HNL.out] at HG
    have hnl0 : ¬ ((nl : Int) = 0) := by omega
    replace HI := Lib.hid HI.out.book
    refine HG.mono ?_
    clear HG
    rintro e w3 ⟨t, rfl, lo, hi, L, hM, -, hum⟩
    have HM := Lib.hid hM
    have HUM := Lib.hid hum
    have HLS := Lib.hid (show (bytesL l).length = min 40 nl by rw [bytesL_length, HNL.out])
    clear hM hum
    obtain ⟨n, hn⟩ : ∃ n, n = (bytesL l).length := ⟨_, rfl⟩
    have hn1 : 1 ≤ n ∧ n ≤ 40 ∧ n ≤ nl := by rw [hn, HLS.out]; omega
    have HN := Lib.hid (And.intro hn hn1)
    have HG := tree_Leaves HM.out.tree
    rw [List.length_map, ← hn] at HG
    clear hn hn1
    go_wp2_with fail
    refine HG.mono ?_
    clear HG
    rintro e W ⟨rfl, rfl⟩
    go_wp2_with fail
    refine (ref_Bring i n hiw.out (by have := HN.out; omega) (by have := HN.out; omega) _).mono ?_
    rintro e W ⟨rfl, rfl⟩
    obtain ⟨j, hj⟩ : ∃ j : Nat, i % (n : Int) = j := ⟨(i % (n : Int)).toNat, by have := (mod_range i n (by have := HN.out; omega)).1; omega⟩
    have hjn : j < n := by have := (mod_range i n (by have := HN.out; omega)).2; omega
    rw [hj]
    have HJ := Lib.hid hjn
    clear hj hjn
    go_wp2_with fail
    have HG := tree_Root HM.out.tree
    obtain ⟨rt, hrt⟩ : ∃ rt, rt = rootM shaM ((bytesL l).map (leafM shaM)) := ⟨_, rfl⟩
    rw [← hrt] at HG
    have HRT := Lib.hid hrt
    clear hrt
    refine HG.mono ?_
    clear HG
    rintro e w4 ⟨rfl, hu4⟩
    have hd5 : Blk (w4.alloc (.cells (dA rt) 46)) w4.heap.size 46 (encB (rt).1) := Blk.new w4 _ _
    have hk5 : Kept w4 (w4.alloc (.cells (dA rt) 46)) := (Upd.refl _ w4).alloc _
    have HD := Lib.hid hd5
    replace HM := Lib.hid ((HM.out.kept hu4).kept hk5)
    have HKR := Lib.hid (hu4.then hk5 (fun _ _ h => h))
    clear hu4 hk5 hd5
    have HB := proof_Build HM.out.tree j (by rw [List.length_map, ← HN.out.1]; exact HJ.out)
    have hjb : j < (bytesL l).length := by rw [← HN.out.1]; exact HJ.out
    obtain ⟨m, hm⟩ : ∃ m, depthM (bytesL l).length = m + 1 := by
      obtain ⟨m, hm, _⟩ := levelsM_top (D := (bytesL l).map (leafM shaM)) (by intro h1; have := HN.out; rw [List.map_eq_nil_iff] at h1; rw [h1] at this; simp at this; omega)
      rw [List.length_map] at hm
      exact ⟨m, hm⟩
    obtain ⟨hjl, hbj⟩ := bytesL_at hjb
    have hcl := climb_out (D := (bytesL l).map (leafM shaM)) (x := leafM shaM (l[j].2.take 100)) (k := m) (i := j) (by rw [List.length_map]; exact hm) (by rw [List.length_map]; exact hjb) (by rw [List.getElem_map, hbj])
    rw [List.length_map, ← HN.out.1, ← HRT.out] at hcl
    rw [List.length_map, hm, Nat.add_sub_cancel] at HB
    obtain ⟨P, hP⟩ : ∃ P, P = proofM ((bytesL l).map (leafM shaM)) m j := ⟨_, rfl⟩
    rw [← hP] at HB hcl
    have hPl := Lib.hid (show P.length ≤ 41 by
      have h1 := depthM_le _ ((bytesL l).map (leafM shaM)) rfl
      rw [List.length_map] at h1
      rw [hP, proofM_length]
      have := HN.out
      omega)
    obtain ⟨g1, o1, A1, c1, hA1, hcap, hRm, hcell⟩ := leaf_cell HX.out.1 hjl
    generalize l[j].2 = R at *
    obtain ⟨z, hz, hm1, hm2⟩ := min_num R.length
    have hzl : (R.take 100).length = z := by rw [List.length_take]; omega
    have HZ := Lib.hid (And.intro hcl (And.intro hcell (And.intro hzl (And.intro hz hcap))))
    clear hcl hcell hP hm hbj hjb hzl hz hcap
    subst hA1
    go_wp2_with fail
    generalize w4.heap.size = g5 at *
    generalize w4.alloc (.cells (dA rt) 46) = w5 at *
    refine HB.mono ?_
    clear HB
    rintro e w6 ⟨v6, rfl, hv6, hu6⟩
    obtain ⟨PA, pc, lp, rfl, hpc, hlp, hprf⟩ := hv6.proofs
    have hS : WkS w w6 b r q lo hi t g5 w5.heap.size L (bytesL l) rt PA lp := ⟨HM.out.kept hu6, HD.out.kept hu6, hprf⟩
    have hlp2 : lp.length = P.length := by have := congrArg List.length hlp; rwa [List.length_map] at this
    have hjn1 : (j : Int) < (nl : Int) := by have := HN.out; have := HJ.out; omega
    have hjn2 : j < nl := by omega
    have hjk : (j : Int) ≤ 40 := by have := HN.out; have := HJ.out; omega
    have hsl : ∀ W : World, (Instr.sliceAt 35 (.slice A1 R.length c1) none (some (.int .i64 (z : Int))) none).run Try.prog W = .ok (.slice A1 z c1) W := fun W => slice_u8_h W A1 R.length c1 z (by have := HZ.out.2.2.2; omega)
    have f1 : ∀ W, Upd (Book3 b r q) w6 W → W.cell? ⟨g1, o1 + j, none⟩ = some (.slice A1 R.length c1) := fun W hW => (HZ.out.2.1 W (hS.made.ink.keeps hW)).1
    have f2 : ∀ W, Upd (Book3 b r q) w6 W → segB W ⟨g5, 0, none⟩ 32 = true := fun W hW => (dig_at (hS.dig.upd hW (hS.made.ink.book.not hS.dig (by decide)))).1
    have f3 : ∀ W, Upd (Book3 b r q) w6 W → segV W ⟨g5, 0, none⟩ 32 = dA rt := fun W hW => (dig_at (hS.dig.upd hW (hS.made.ink.book.not hS.dig (by decide)))).2
    have HS := Lib.hid hS
    have HP := Lib.hid (And.intro hpc (And.intro hlp hlp2))
    clear hv6 hu6 hprf hpc hlp hlp2 hS HM HD
    generalize P.length = pl at *
    go_wp2_with fail
    refine wp_region_ord [(0, true), (1, true), (2, true), (3, true), (4, true), (5, true), (6, true), (7, true), (8, true), (9, true), (11, true), (12, true), (13, true), (14, true), (15, true), (16, true), (17, true), (18, true), (19, true), (20, true), (21, true), (22, true), (23, true), (10, false), (24, false), (25, true), (26, true), (27, true)] (by kernel_rfl) (by kernel_rfl) (Upd (Book3 b r q) w6) (Upd.refl _ _).drew ?_
    simp only [ordOps, List.getD_cons_zero, List.getD_cons_succ]
    iterate 23 (refine wpOrd_held (fun K hK => ?_); go_simp; first | (apply Exists.intro; refine ⟨fun W hW => ?_, hK _ ?_⟩; (go_simp; first | done | exact rfl); clear hK K) | (refine hK _ ?_; clear hK K))
    clear f1 f2 f3 hsl hm1 hm2
    have hSd : Upd (Book3 b r q) w6 w6.drew := (Upd.refl _ _).drew
    replace HS := Lib.hid (HS.out.kept (show Kept w6 w6.drew from (Upd.refl _ _).drew))
    generalize w6.drew = wd at *
    refine wpOrd_step (fun K hK => ?_) hSd
    go_simp
    have HG := tree_Leaves HS.out.made.tree
    rw [List.length_map, ← HN.out.1] at HG
    refine HG.mono ?_
    clear HG
    rintro e W ⟨rfl, rfl⟩
    refine hK _ _ hSd ?_
    clear hK K
    refine wpOrd_step (fun K hK => ?_) hSd
    go_simp
    have hRd : Byt wd A1 (R.take 100) := ((HZ.out.2.1 wd HS.out.made.ink.upd).2).take 100
    have HG := proof_Check (R := R.take 100) HS.out.made.ink.book rt n j (by have := HN.out; omega) HJ.out c1 hRd (by have := HZ.out; omega) (P := lp) pc (by rw [HP.out.2.2]; exact HP.out.1) (fun W hW => HS.out.far hW) (by have := HP.out.2.2; have := hPl.out; omega) P HP.out.2.1
    rw [if_pos HZ.out.1, HZ.out.2.2.1, HP.out.2.2] at HG
    refine HG.mono ?_
    clear HG
    rintro e we ⟨rfl, hb, hu⟩
    have hSe := hSd.trans hu
    have HF := Lib.hid (HS.out.to hb noted_more hu).made.ink.upd
    refine hK _ _ hSe ?_
    clear hK K hb hu hRd
    iterate 3 (refine wpOrd_held (fun K hK => ?_); go_simp; first | (apply Exists.intro; refine ⟨fun W hW => ?_, hK _ ?_⟩; (go_simp; first | done | exact rfl); clear hK K) | (refine hK _ ?_; clear hK K))
    refine wpOrd_nil ?_
    clear hSe hSd HS
    go_wp2
    go_ret
    exact ⟨rfl, HF.out⟩
set_option maxRecDepth 100000 in
theorem ProofBack_lifted (os : Os) (started : os.Started) (H : Type) (enc : TypeId × Value → H) :
    ReturnsInHanded {} Try.checked os 7 .any (Rows.proofBackSpec.pre6 enc Try.prog Try.f7 Rows.proofBackRow.domain false) (Rows.proofBackSpec.post enc Try.prog Try.f7 false true false false) := by
  refine law_lifted os started Try.func7 (by kernel_rfl) rfl rfl (by kernel_rfl) ?_
    (ChangeSpec.witness6 (enc := enc) (C := Try.checked) false ⟨#[], #[.slice none 0 0, .int .i64 0], []⟩ 8 (by kernel_rfl) (by kernel_rfl) (by kernel_rfl) (by kernel_rfl)) ?_
  · intro ds h
    rw [Try.params7] at h
    match ds, h with
    | [d0, d1], _ => rfl
  · intro W base args ds ps hval hA hsz
    rw [Try.params7] at hA hval hsz
    obtain ⟨v0, vs0, d0, ds0, p0, q0, hargs, rfl, rfl, h0, r_0⟩ := trodAll_cons hA
    obtain ⟨v1, vs1, d1, ds1, p1, q1, rfl, rfl, rfl, h1, r_1⟩ := trodAll_cons r_0
    obtain ⟨rfl, rfl, rfl⟩ := trodAll_nil r_1
    obtain rfl : args = #[v0, v1] := by cases args; simp_all
    obtain ⟨A0, n0, c0, rfl⟩ := okWide_slice Try.underlying52 (hval 0 52 v0 rfl rfl)
    have r0 := ReadsAs.of_trod hsz (j := 0) rfl rfl h0
    obtain ⟨a1, rfl, rfl, rfl, w1⟩ := open_int Try.underlying3 (hval 1 3 v1 rfl rfl) h1
    obtain ⟨A, c, l, hcs, hl, _, hmx⟩ := open_leaves r0
    simp only [Value.cells, List.cons.injEq, Value.slice.injEq, and_true] at hcs
    obtain ⟨rfl, rfl, rfl⟩ := hcs
    exact ProofBack_walk _ _ l a1 W hl hmx w1

theorem ProofBack_holds : Rows.ProofBackSaid :=
  OpenClaim.holds_of_wide 7 Try.f7 rfl rfl rfl rfl rfl rfl rfl ⟨rfl, rfl, rfl, rfl, rfl⟩ rfl rfl rfl rfl rfl (by kernel_rfl) Try.func7 (by kernel_rfl)
    (of_decide_eq_true (by kernel_rfl)) (by unfold Func.isWrapper; first | (rw [if_pos (by decide +kernel)]; kernel_rfl) | (rw [if_neg (by decide +kernel)]; exact ⟨rfl, rfl⟩))
    (fun os started H enc _ => ProofBack_lifted os started H enc)
end Go.Proofs.Ytnncpjekcljfbaa
