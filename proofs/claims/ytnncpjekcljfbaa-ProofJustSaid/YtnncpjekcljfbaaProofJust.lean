/- As long as the book tells of no clash, what fits a tree's root is a leaf of it: the statement ProofJust holds, of all leaves and claims. -/
import Derived.Test.YtnncpjekcljfbaaSetF
namespace Go.Proofs.Ytnncpjekcljfbaa
open Go.ChangeShapes Go.WideShapes Go.ChangeAt Go.RowKit

attribute [local irreducible] wpOrd
set_option maxHeartbeats 1600000 in
set_option maxRecDepth 20000 in
theorem ProofJust_walk (A : Option Addr) (c : Nat) (l : List (SlC × Bytes)) (d : Dig) (lv lf : Int) (x : SlC) (R : Bytes) (PA : Option Addr) (pc : Nat) (P : List (SlC × List Dig)) (w : World) (hl : LeavesAt w A l) (hlm : l.length ≤ 140737488351232)
    (hx : LeafAt w x R) (hRl : R.length ≤ 140737488351232) (hP : ProofAt w PA P) (hpc : P.length ≤ pc) (hPl : P.length ≤ 140737488351232) :
    Calls Try.prog 9 #[.slice A l.length c, .agg (clA d lv lf x ⟨PA, P.length, pc⟩)] w fun e w' => e = .returned (.bool true) ∧ Kept w w' := by
  obtain ⟨XA, xc, rfl, hxc, hxb⟩ := hx.form
  have hk0 : Kept w (w.alloc (.cells (clA d lv lf ⟨XA, R.length, xc⟩ ⟨PA, P.length, pc⟩) 72)) := (Upd.refl _ w).alloc _
  have hcl0 := ClAt.new w d lv lf ⟨XA, R.length, xc⟩ ⟨PA, P.length, pc⟩
  have HK0 := Lib.hid hk0
  have HA := Lib.hid (And.intro (hxb.kept hk0) (And.intro hRl (And.intro (hP.kept hk0) (And.intro hpc hPl))))
  have HC := Lib.hid hcl0
  replace hl := hl.kept hk0
  clear hx hxb hRl hP hpc hPl hk0 hcl0 hxc
  generalize hg0 : w.heap.size = g0 at *
  have hnot : ∀ (x : Bool) (w : World), (Op.unary .not (.bool x)).run Try.prog w = .ok (.bool (!x)) w := fun _ _ => rfl
  have HX := Lib.hid (And.intro hl hlm)
  clear hl hlm
  obtain ⟨nl, hnl⟩ : ∃ nl, nl = l.length := ⟨_, rfl⟩
  rw [← hnl]
  have HNL := Lib.hid hnl
  clear hnl
  go_enter Try.func9, Try.ntmps9
  go_wp2_with fail
  refine (law_works10 _).mono ?_
  rintro e w1 ⟨rfl, hu⟩
  have HU := Lib.hid (hu)
  clear hu
  go_wp2_with fail
  refine (law_book _).mono ?_
  rintro e w2 ⟨b, r, q, rfl, hI⟩
  have HI := Lib.hid (hI.back HU.out)
  clear hI HU
  go_wp2_with fail
  rcases Nat.eq_zero_or_pos nl with h0 | h0
  · skip
    subst h0
    have HG := bastidelaw10_made_none (w := w2) (p := some ⟨b, 0, none⟩) (A := A) c
    refine HG.mono ?_
    clear HG
    rintro e w3 ⟨rfl, hu⟩
    have HF := Lib.hid (HI.out.kept hu).upd
    clear hu HI
    go_wp2
    go_ret
    exact ⟨rfl, HK0.out.then HF.out (fun _ _ h => h)⟩
  · skip
    have HC2 := Lib.hid (HC.out.kept HI.out.upd)
    have HG := bastidelaw10_made HI.out (l := l) (A := A) c (fun W hW => HX.out.1.kept (HI.out.keeps hW)) (by rw [← HNL.out]; exact h0) HX.out.2
    rw [← HNL.out] at HG
    have hnl0 : ¬ ((nl : Int) = 0) := by omega
    replace HI := Lib.hid HI.out.book
    refine HG.mono ?_
    clear HG
    rintro e w3 ⟨t, rfl, lo, hi, L, hM, -, hum⟩
    have HM := Lib.hid hM
    have HUM := Lib.hid hum
    have HLS := Lib.hid (show (bytesL l).length = min 40 nl by rw [bytesL_length, HNL.out])
    clear hM hum
    replace HC2 := Lib.hid (HC2.out.book HI.out HUM.out)
    go_wp2_with fail
    have HG := tree_Root HM.out.tree
    obtain ⟨rt, hrt⟩ : ∃ rt, rt = rootM shaM ((bytesL l).map (leafM shaM)) := ⟨_, rfl⟩
    rw [← hrt] at HG
    have HRT := Lib.hid hrt
    clear hrt
    refine HG.mono ?_
    clear HG
    rintro e w4 ⟨rfl, hu4⟩
    have hd5 : Blk (w4.alloc (.cells (dA rt) 46)) w4.heap.size 46 (encB (rt).1) := Blk.new w4 _ _
    have hk5 : Kept w4 (w4.alloc (.cells (dA rt) 46)) := (Upd.refl _ w4).alloc _
    have HD := Lib.hid hd5
    replace HM := Lib.hid ((HM.out.kept hu4).kept hk5)
    have HKR := Lib.hid (hu4.then hk5 (fun _ _ h => h))
    clear hu4 hk5 hd5
    replace HC2 := Lib.hid ((HC2.out.kept HKR.out))
    obtain ⟨n, hn⟩ : ∃ n, n = (bytesL l).length := ⟨_, rfl⟩
    have HN := Lib.hid (And.intro hn (show 1 ≤ n ∧ n ≤ 40 ∧ n ≤ nl by rw [hn, HLS.out]; omega))
    clear hn
    go_wp2_with fail
    obtain ⟨g5, hg5⟩ : ∃ g5, g5 = w4.heap.size := ⟨_, rfl⟩
    rw [← hg5] at HD ⊢
    clear hg5
    generalize w4.alloc (.cells (dA rt) 46) = w5 at *
    have nb : ¬ Book3 b r q g5 := HM.out.ink.book.not HD.out (by decide)
    have f1 : ∀ W, Upd (Book3 b r q) w5 W → segB W ⟨g5, 0, none⟩ 32 = true := fun W hW => (dig_at (HD.out.upd hW nb)).1
    have f2 : ∀ W, Upd (Book3 b r q) w5 W → segV W ⟨g5, 0, none⟩ 32 = dA rt := fun W hW => (dig_at (HD.out.upd hW nb)).2
    have f3 : ∀ W, Upd (Book3 b r q) w5 W → W.cell? ⟨g0, 33, none⟩ = some (.int .i64 lf) := fun W hW => (HC2.out.book HM.out.ink.book hW).c33
    have f4 : ∀ W, Upd (Book3 b r q) w5 W → W.cell? ⟨g0, 34, none⟩ = some (.slice XA R.length xc) := fun W hW => (HC2.out.book HM.out.ink.book hW).c34
    have f5 : ∀ W, Upd (Book3 b r q) w5 W → W.cell? ⟨g0, 35, none⟩ = some (.slice PA P.length pc) := fun W hW => (HC2.out.book HM.out.ink.book hW).c35
    clear nb
    refine wp_region_ord [(0, true), (1, true), (2, true), (4, true), (5, true), (6, true), (7, true), (8, true), (9, true), (3, false), (10, false), (11, true)] (by kernel_rfl) (by kernel_rfl) (Upd (Book3 b r q) w5) (Upd.refl _ _).drew ?_
    simp only [ordOps, List.getD_cons_zero, List.getD_cons_succ]
    iterate 9 (refine wpOrd_held (fun K hK => ?_); go_simp; first | (apply Exists.intro; refine ⟨fun W hW => ?_, hK _ ?_⟩; (go_simp; first | done | exact rfl); clear hK K) | (refine hK _ ?_; clear hK K))
    clear f1 f2 f3 f4 f5
    have hSd : Upd (Book3 b r q) w5 w5.drew := (Upd.refl _ _).drew
    replace HM := Lib.hid (HM.out.kept (show Kept w5 w5.drew from (Upd.refl _ _).drew))
    replace HC2 := Lib.hid (HC2.out.kept (show Kept w5 w5.drew from (Upd.refl _ _).drew))
    generalize w5.drew = wd at *
    refine wpOrd_step (fun K hK => ?_) hSd
    go_simp
    have HG := tree_Leaves HM.out.tree
    rw [List.length_map, ← HN.out.1] at HG
    refine HG.mono ?_
    clear HG
    rintro e W ⟨rfl, rfl⟩
    refine hK _ _ hSd ?_
    clear hK K
    refine wpOrd_step (fun K hK => ?_) hSd
    go_simp
    have HG := proof_Check_any HM.out.ink.book rt n (by have := HN.out; omega) (by have := HN.out; omega) lf xc (HA.out.1.kept HM.out.ink.upd) pc HA.out.2.2.2.1 (fun W hW => HA.out.2.2.1.kept (HM.out.ink.keeps hW)) HA.out.2.2.2.2 (P.map (·.2)) rfl
    refine HG.mono ?_
    clear HG
    rintro e we ⟨z, rfl, ⟨L', hb, hLL, hz⟩, hu⟩
    have hSe := hSd.trans hu
    have HME := Lib.hid (HM.out.to hb hLL hu)
    have HCE := Lib.hid (HC2.out.book HM.out.ink.book hu)
    have HZ := Lib.hid hz
    refine hK _ _ hSe ?_
    clear hK K hb hu hLL hz hSd HM HC2 HD
    iterate 1 (refine wpOrd_held (fun K hK => ?_); go_simp; first | (apply Exists.intro; refine ⟨fun W hW => ?_, hK _ ?_⟩; (go_simp; first | done | exact rfl); clear hK K) | (refine hK _ ?_; clear hK K))
    refine wpOrd_nil ?_
    clear hSe
    by_cases hz0 : z = 0
    · subst hz0
      obtain ⟨j, hj, hjn, hRl, hcl, hin, hcin⟩ : ∃ j : Nat, lf = j ∧ j < n ∧ R.length < 65536 ∧ climb n j (leafM shaM R) (P.map (·.2)) = some rt ∧ leafIn R ∈ L' ∧ ∀ x ∈ climbIn n j (leafM shaM R) (P.map (·.2)), x ∈ L' := by
        rcases HZ.out with ⟨j, h1, h2, h3, h4, h5, h6⟩ | ⟨_, h⟩ | ⟨_, _, _, h⟩
        · refine ⟨j, h1, h2, h3, ?_, h5, h6⟩
          by_cases hc : climb n j (leafM shaM R) (P.map (·.2)) = some rt
          · exact hc
          · rw [if_neg hc] at h4; exact absurd h4 (by decide)
        · exact absurd h (by decide)
        · exact absurd h (by decide)
      subst hj
      have HJ := Lib.hid (And.intro hjn (And.intro hRl (And.intro hcl (And.intro hin hcin))))
      clear hjn hRl hcl hin hcin HZ
      go_wp2_with fail
      refine (book_Clash HME.out.ink.book).mono ?_
      rintro e wf ⟨cb, rfl, hcb, hu⟩
      replace HME := Lib.hid (HME.out.kept hu)
      replace HCE := Lib.hid (HCE.out.kept hu)
      clear hu
      cases cb with
      | true =>
        have HF := Lib.hid (show Kept w wf from HK0.out.then HME.out.ink.upd (fun _ _ h => h))
        clear HME HCE HJ hcb
        go_wp2
        go_ret
        exact ⟨rfl, HF.out⟩
      | false =>
        obtain ⟨hjn, hRl, hcl, hin, hcin⟩ := HJ.out
        have hjb : j < (bytesL l).length := by rw [← HN.out.1]; exact hjn
        obtain ⟨hjl, hbj⟩ := bytesL_at hjb
        obtain ⟨m, hm⟩ : ∃ m, depthM (bytesL l).length = m + 1 := by
          obtain ⟨m, hm, _⟩ := levelsM_top (D := (bytesL l).map (leafM shaM)) (by intro h1; rw [List.map_eq_nil_iff] at h1; rw [h1] at hjb; simp at hjb)
          rw [List.length_map] at hm
          exact ⟨m, hm⟩
        have hlm : ((bytesL l).map (leafM shaM)).length = n := by rw [List.length_map, HN.out.1]
        have hD := climb_just (hcb rfl) m ((bytesL l).map (leafM shaM)) j (leafM shaM R) (P.map (·.2)) (by rw [List.length_map]; exact hm) (by rw [hlm]; exact hjn) HME.out.ins (by rw [hlm]; exact hcin) (by rw [hlm, ← HRT.out]; exact hcl)
        rw [List.getElem_map] at hD
        have hR : l[j].2.take 100 = R := by
          rw [← hbj]
          exact leafIn_inj (hcb rfl _ (HME.out.leaf _ (List.getElem_mem hjb)) _ hin hD)
        obtain ⟨g1, o1, A1, c1, hA1, hcap, hRm, hcell⟩ := leaf_cell HX.out.1 hjl
        have hjn1 : (j : Int) < (nl : Int) := by have := HN.out; omega
        have hjn2 : j < nl := by have := HN.out; omega
        have hjk : (j : Int) ≤ 40 := by have := HN.out; omega
        generalize l[j].2 = R1 at *
        obtain ⟨z, hz, hm1, hm2⟩ := min_num R1.length
        have hzl : (R1.take 100).length = z := by rw [List.length_take]; omega
        subst hA1
        have hsl : ∀ W : World, (Instr.sliceAt 35 (.slice A1 R1.length c1) none (some (.int .i64 (z : Int))) none).run Try.prog W = .ok (.slice A1 z c1) W := fun W => slice_u8_h W A1 R1.length c1 z (by omega)
        have hKf := HME.out.ink.upd
        have f1 : ∀ W, Kept wf W → W.cell? ⟨g1, o1 + j, none⟩ = some (.slice A1 R1.length c1) := fun W hW => (hcell W (hKf.then hW (fun _ _ h => h))).1
        have f2 : ∀ W, Kept wf W → W.cell? ⟨g0, 33, none⟩ = some (.int .i64 (j : Int)) := fun W hW => (HCE.out.kept hW).c33
        have f3 : ∀ W, Kept wf W → W.cell? ⟨g0, 34, none⟩ = some (.slice XA R.length xc) := fun W hW => (HCE.out.kept hW).c34
        have HE := Lib.hid (And.intro (hcell _ hKf).2 (And.intro hR (And.intro hzl (And.intro hRl (And.intro hz hKf)))))
        clear hjn hRl hcl hin hcin hjb hjl hbj hm hlm hD hR hcell hzl hz hKf hcb HJ hcap hRm
        go_wp2_with fail
        refine wp_region_ord [(0, true), (1, true), (2, true), (3, true), (4, true), (5, true), (6, true), (7, true), (8, true), (9, true), (10, true), (11, true), (12, true), (13, true), (14, true), (15, false), (16, true)] (by kernel_rfl) (by kernel_rfl) (Kept wf) (Upd.refl _ _).drew ?_
        simp only [ordOps, List.getD_cons_zero, List.getD_cons_succ]
        iterate 15 (refine wpOrd_held (fun K hK => ?_); go_simp; first | (apply Exists.intro; refine ⟨fun W hW => ?_, hK _ ?_⟩; (go_simp; first | done | exact rfl); clear hK K) | (refine hK _ ?_; clear hK K))
        clear f1 f2 f3 hsl hm1 hm2
        have hSd : Kept wf wf.drew := (Upd.refl _ _).drew
        generalize wf.drew = wg at *
        refine wpOrd_step (fun K hK => ?_) hSd
        go_simp
        have hKg : Kept (w.alloc (.cells (clA d lv j ⟨XA, R.length, xc⟩ ⟨PA, P.length, pc⟩) 72)) wg := HE.out.2.2.2.2.2.then hSd (fun _ _ h => h)
        have HG := ref_EqBytes_any (R := R1.take 100) c1 xc ((HE.out.1.kept hSd).take 100) (HA.out.1.kept hKg) (by have := HE.out; omega) (by have := HE.out; omega)
        rw [HE.out.2.2.1, show decide (R1.take 100 = R) = true from decide_eq_true HE.out.2.1] at HG
        refine HG.mono ?_
        clear HG
        rintro e wh ⟨rfl, hu⟩
        have hSh : Kept wf wh := hSd.then hu (fun _ _ h => h)
        have HF := Lib.hid (show Kept w wh from HK0.out.then (HE.out.2.2.2.2.2.then hSh (fun _ _ h => h)) (fun _ _ h => h))
        refine hK _ _ hSh ?_
        clear hK K hu hKg
        iterate 1 (refine wpOrd_held (fun K hK => ?_); go_simp; first | (apply Exists.intro; refine ⟨fun W hW => ?_, hK _ ?_⟩; (go_simp; first | done | exact rfl); clear hK K) | (refine hK _ ?_; clear hK K))
        refine wpOrd_nil ?_
        clear hSh hSd HE HME HCE
        go_wp2
        go_ret
        exact ⟨rfl, HF.out⟩
    · have hz1 : (z == 0) = false := by simpa using hz0
      have HF := Lib.hid (show Kept w we from HK0.out.then HME.out.ink.upd (fun _ _ h => h))
      clear HME HCE HZ
      go_wp2
      go_ret
      exact ⟨rfl, HF.out⟩
set_option maxRecDepth 100000 in
theorem ProofJust_lifted (os : Os) (started : os.Started) (H : Type) (enc : TypeId × Value → H) :
    ReturnsInHanded {} Try.checked os 9 .any (Rows.proofJustSpec.pre6 enc Try.prog Try.f9 Rows.proofJustRow.domain false) (Rows.proofJustSpec.post enc Try.prog Try.f9 false true false false) := by
  refine law_lifted os started Try.func9 (by kernel_rfl) rfl rfl (by kernel_rfl) ?_
    (ChangeSpec.witness6 (enc := enc) (C := Try.checked) false ⟨#[], #[.slice none 0 0, .agg ((Array.replicate 32 (Value.int .u8 0)) ++ #[.int .i64 0,.int .i64 0,.slice none 0 0,.slice none 0 0])], []⟩ 8 (by kernel_rfl) (by kernel_rfl) (by kernel_rfl) (by kernel_rfl)) ?_
  · intro ds h
    rw [Try.params9] at h
    match ds, h with
    | [d0, d1], _ => rfl
  · intro W base args ds ps hval hA hsz
    rw [Try.params9] at hA hval hsz
    obtain ⟨v0, vs0, d0, ds0, p0, q0, hargs, rfl, rfl, h0, r_0⟩ := trodAll_cons hA
    obtain ⟨v1, vs1, d1, ds1, p1, q1, rfl, rfl, rfl, h1, r_1⟩ := trodAll_cons r_0
    obtain ⟨rfl, rfl, rfl⟩ := trodAll_nil r_1
    obtain rfl : args = #[v0, v1] := by cases args; simp_all
    obtain ⟨A0, n0, c0, rfl⟩ := okWide_slice Try.underlying52 (hval 0 52 v0 rfl rfl)
    have r0 := ReadsAs.of_trod hsz (j := 0) rfl rfl h0
    obtain ⟨cs1, rfl, _⟩ := ok_agg (P := Try.prog) (t := 72) (by kernel_rfl) (hval 1 72 v1 rfl rfl)
    have r1 := ReadsAs.of_trod hsz (j := 1) rfl rfl h1
    obtain ⟨A, c, l, hcs, hl, _, hmx⟩ := open_leaves r0
    simp only [Value.cells, List.cons.injEq, Value.slice.injEq, and_true] at hcs
    obtain ⟨rfl, rfl, rfl⟩ := hcs
    obtain ⟨d, lv, lf, x, R, PA, pc, P, hcs1, _, _, hx, hRl, hP, hpc, hPl⟩ := open_claim r1
    obtain rfl : cs1 = clA d lv lf x ⟨PA, P.length, pc⟩ := Array.toList_inj.1 (by simpa [clA, Value.cells] using hcs1)
    exact ProofJust_walk _ _ l d lv lf x R PA pc P W hl hmx hx hRl hP hpc hPl

theorem ProofJust_holds : Rows.ProofJustSaid :=
  OpenClaim.holds_of_wide 9 Try.f9 rfl rfl rfl rfl rfl rfl rfl ⟨rfl, rfl, rfl, rfl, rfl⟩ rfl rfl rfl rfl rfl (by kernel_rfl) Try.func9 (by kernel_rfl)
    (of_decide_eq_true (by kernel_rfl)) (by unfold Func.isWrapper; first | (rw [if_pos (by decide +kernel)]; kernel_rfl) | (rw [if_neg (by decide +kernel)]; exact ⟨rfl, rfl⟩))
    (fun os started H enc _ => ProofJust_lifted os started H enc)
end Go.Proofs.Ytnncpjekcljfbaa
