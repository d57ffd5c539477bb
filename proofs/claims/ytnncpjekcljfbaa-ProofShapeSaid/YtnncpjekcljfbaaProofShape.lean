/- A proof with a list more or less, or with a digest more, fits nothing: the statement ProofShape holds, of all leaves and numbers. -/
import Derived.Test.YtnncpjekcljfbaaSetF
import Derived.Test.YtnncpjekcljfbaaSetA
namespace Go.Proofs.Ytnncpjekcljfbaa
open Go.ChangeShapes Go.WideShapes Go.ChangeAt Go.RowKit

attribute [local irreducible] wpOrd
theorem proofM_le : ∀ (k : Nat) (D : List Dig) (i : Nat), ∀ l ∈ proofM D k i, l.length ≤ 4
  | 0, D, i, l, h => by simp [proofM] at h
  | k + 1, D, i, l, h => by
    rw [proofM] at h
    rcases List.mem_cons.1 h with rfl | h
    · rw [group_length]; omega
    · exact proofM_le k _ _ l h
theorem climb_odd {n j : Nat} {d x : Dig} {P P' : List (List Dig)} (h : climb n j d P = some x) (hl : P'.map List.length ≠ P.map List.length) : climb n j d P' ≠ some x := fun h2 => hl (climb_lens P' P n j d d x x h2 h)
set_option maxHeartbeats 3000000 in
set_option maxRecDepth 20000 in
theorem ProofShape_walk (A : Option Addr) (c : Nat) (l : List (SlC × Bytes)) (i how : Int) (w : World) (hl : LeavesAt w A l) (hlm : l.length ≤ 140737488351232) (hiw : (Lit.int .i64 i).wf = true) (hhw : (Lit.int .i64 how).wf = true) :
    Calls Try.prog 8 #[.slice A l.length c, .int .i64 i, .int .i64 how] w fun e w' => e = .returned (.bool true) ∧ Kept w w' := by
  replace hiw := Lib.hid hiw
  replace hhw := Lib.hid hhw
  have hnot : ∀ (x : Bool) (w : World), (Op.unary .not (.bool x)).run Try.prog w = .ok (.bool (!x)) w := fun _ _ => rfl
  have HX := Lib.hid (And.intro hl hlm)
  clear hl hlm
  obtain ⟨nl, hnl⟩ : ∃ nl, nl = l.length := ⟨_, rfl⟩
  rw [← hnl]
  have HNL := Lib.hid hnl
  clear hnl
  go_enter Try.func8, Try.ntmps8
  go_wp2_with fail
  refine (law_works10 _).mono ?_
  rintro e w1 ⟨rfl, hu⟩
  have HU := Lib.hid (hu)
  clear hu
  go_wp2_with fail
  refine (law_book _).mono ?_
  rintro e w2 ⟨b, r, q, rfl, hI⟩
  have HI := Lib.hid (hI.back HU.out)
  clear hI HU
  go_wp2_with fail
  rcases Nat.eq_zero_or_pos nl with h0 | h0
  · skip
    subst h0
    have HG := bastidelaw10_made_none (w := w2) (p := some ⟨b, 0, none⟩) (A := A) c
    refine HG.mono ?_
    clear HG
    rintro e w3 ⟨rfl, hu⟩
    have HF := Lib.hid (HI.out.kept hu).upd
    clear hu HI
    go_wp2
    go_ret
    exact ⟨rfl, HF.out⟩
  · skip
    have HG := bastidelaw10_made HI.out (l := l) (A := A) c (fun W hW => HX.out.1.kept (HI.out.keeps hW)) (by rw [← HNL.out]; exact h0) HX.out.2
    rw [← HNL.out] at HG
    have hnl0 : ¬ ((nl : Int) = 0) := by omega
    replace HI := Lib.hid HI.out.book
    refine HG.mono ?_
    clear HG
    rintro e w3 ⟨t, rfl, lo, hi, L, hM, -, hum⟩
    have HM := Lib.hid hM
    have HUM := Lib.hid hum
    have HLS := Lib.hid (show (bytesL l).length = min 40 nl by rw [bytesL_length, HNL.out])
    clear hM hum
    obtain ⟨n, hn⟩ : ∃ n, n = (bytesL l).length := ⟨_, rfl⟩
    have hn1 : 1 ≤ n ∧ n ≤ 40 ∧ n ≤ nl ∧ (n < 2 → nl < 2) := by rw [hn, HLS.out]; omega
    have HN := Lib.hid (And.intro hn hn1)
    have HG := tree_Leaves HM.out.tree
    rw [List.length_map, ← hn] at HG
    clear hn hn1
    go_wp2_with fail
    refine HG.mono ?_
    rintro e W ⟨rfl, rfl⟩
    by_cases hn2 : n < 2
    · have hd1 : decide ((n : Int) < 2) = true := decide_eq_true (by omega)
      have hd2 : decide ((nl : Int) < 2) = true := decide_eq_true (by have := HN.out; omega)
      have HF := Lib.hid HM.out.ink.upd
      clear HM hn2 HG
      go_wp2
      go_ret
      exact ⟨rfl, HF.out⟩
    · have hd1 : decide ((n : Int) < 2) = false := decide_eq_false (by omega)
      have hd1n : decide (n < 2) = false := decide_eq_false hn2
      replace hn2 := Lib.hid hn2
      go_wp2_with fail
      refine HG.mono ?_
      clear HG
      rintro e W ⟨rfl, rfl⟩
      go_wp2_with fail
      refine (ref_Bring i n hiw.out (by have := HN.out; omega) (by have := HN.out; omega) _).mono ?_
      rintro e W ⟨rfl, rfl⟩
      obtain ⟨j, hj⟩ : ∃ j : Nat, i % (n : Int) = j := ⟨(i % (n : Int)).toNat, by have := (mod_range i n (by have := HN.out; omega)).1; omega⟩
      have hjn : j < n := by have := (mod_range i n (by have := HN.out; omega)).2; omega
      rw [hj]
      have HJ := Lib.hid hjn
      clear hj hjn hd1 hd1n
      go_wp2_with fail
      have HG := tree_Root HM.out.tree
      obtain ⟨rt, hrt⟩ : ∃ rt, rt = rootM shaM ((bytesL l).map (leafM shaM)) := ⟨_, rfl⟩
      rw [← hrt] at HG
      have HRT := Lib.hid hrt
      clear hrt
      refine HG.mono ?_
      clear HG
      rintro e w4 ⟨rfl, hu4⟩
      have hd5 : Blk (w4.alloc (.cells (dA rt) 46)) w4.heap.size 46 (encB (rt).1) := Blk.new w4 _ _
      have hk5 : Kept w4 (w4.alloc (.cells (dA rt) 46)) := (Upd.refl _ w4).alloc _
      have HD := Lib.hid hd5
      replace HM := Lib.hid ((HM.out.kept hu4).kept hk5)
      have HKR := Lib.hid (hu4.then hk5 (fun _ _ h => h))
      clear hu4 hk5 hd5
      have HB := proof_Build HM.out.tree j (by rw [List.length_map, ← HN.out.1]; exact HJ.out)
      have hjb : j < (bytesL l).length := by rw [← HN.out.1]; exact HJ.out
      obtain ⟨m, hm⟩ : ∃ m, depthM (bytesL l).length = m + 1 := by
        obtain ⟨m, hm, _⟩ := levelsM_top (D := (bytesL l).map (leafM shaM)) (by intro h1; have := HN.out; rw [List.map_eq_nil_iff] at h1; rw [h1] at this; simp at this; omega)
        rw [List.length_map] at hm
        exact ⟨m, hm⟩
      have hm1 : 1 ≤ m := by
        have h1 := depthM_more (n := n) (by have := hn2.out; omega)
        rw [HN.out.1] at h1
        have h2 : 1 ≤ depthM (up4 (bytesL l).length) := by rw [depthM]; split <;> omega
        omega
      obtain ⟨hjl, hbj⟩ := bytesL_at hjb
      have hcl := climb_out (D := (bytesL l).map (leafM shaM)) (x := leafM shaM (l[j].2.take 100)) (k := m) (i := j) (by rw [List.length_map]; exact hm) (by rw [List.length_map]; exact hjb) (by rw [List.getElem_map, hbj])
      rw [List.length_map, ← HN.out.1, ← HRT.out] at hcl
      rw [List.length_map, hm, Nat.add_sub_cancel] at HB
      obtain ⟨lst, hlst⟩ : ∃ lst, m = lst + 1 := ⟨m - 1, by omega⟩
      have hP0 : ∃ p0 tl, proofM ((bytesL l).map (leafM shaM)) m j = p0 :: tl ∧ 1 ≤ p0.length := by
        rw [hlst, proofM]
        exact ⟨_, _, rfl, by rw [group_len (by rw [List.length_map]; exact hjb), List.length_map]; omega⟩
      obtain ⟨P, hP⟩ : ∃ P, P = proofM ((bytesL l).map (leafM shaM)) m j := ⟨_, rfl⟩
      rw [← hP] at HB hcl hP0
      have hPlen : P.length = lst + 1 := by rw [hP, proofM_length, hlst]
      have hPl := Lib.hid (show P.length ≤ 41 by
        have h1 := depthM_le _ ((bytesL l).map (leafM shaM)) rfl
        rw [List.length_map] at h1
        rw [hP, proofM_length]
        have := HN.out
        omega)
      have HP4 := Lib.hid (show ∀ p ∈ P, p.length ≤ 4 by rw [hP]; exact proofM_le _ _ _)
      have HP0 := Lib.hid hP0
      have HCL := Lib.hid hcl
      have HLJ := Lib.hid hjl
      have HPN := Lib.hid hPlen
      clear hcl hP hm hbj hjb hP0 hm1 hlst
      go_wp2_with fail
      obtain ⟨g5, hg5⟩ : ∃ g5, g5 = w4.heap.size := ⟨_, rfl⟩
      rw [← hg5] at HD ⊢
      clear hg5
      generalize w4.alloc (.cells (dA rt) 46) = w5 at *
      refine HB.mono ?_
      clear HB
      rintro e w6 ⟨v6, rfl, hv6, hu6⟩
      obtain ⟨PA, pc, lp, rfl, hpc, hlp, hprf⟩ := hv6.proofs
      have hlp2 : lp.length = P.length := by have := congrArg List.length hlp; rwa [List.length_map] at this
      have hS : WkS w w6 b r q lo hi t g5 w5.heap.size L (bytesL l) rt PA lp := ⟨HM.out.kept hu6, HD.out.kept hu6, hprf⟩
      have hpn : ¬ ((P.length : Int) = 0) := by omega
      have HG := ref_Copy pc hS.prf.proof (by have := hPl.out; omega) (fun p hp => by
        have h1 : p.2 ∈ P := by rw [← hlp]; exact List.mem_map.2 ⟨p, hp, rfl⟩
        have := HP4.out _ h1
        omega)
      rw [hlp, hlp2] at HG
      have HS := Lib.hid hS
      have HP := Lib.hid (And.intro hpc (And.intro hlp hlp2))
      clear hv6 hu6 hprf hpc hlp hlp2 hS HM HD hPlen
      obtain ⟨pl, hpl⟩ : ∃ pl, pl = P.length := ⟨_, rfl⟩
      rw [← hpl] at HG hpn ⊢
      have HPL := Lib.hid (And.intro hpl (show pl = lst + 1 ∧ pl ≤ 41 by rw [hpl]; exact ⟨HPN.out, hPl.out⟩))
      clear hpl
      go_wp2_with fail
      refine HG.mono ?_
      clear HG
      rintro e w7 ⟨v7, rfl, ⟨xs, hQ⟩, hu7⟩
      have HS6 := HS
      have HK7 := Lib.hid hu7
      replace HS := Lib.hid (HS.out.kept hu7)
      obtain ⟨A7, c7, l7, rfl, hc7, hl7, hprf7⟩ := hQ.own.proofs
      rw [← HPL.out.1] at hQ hc7 ⊢
      have HQ := Lib.hid (And.intro hQ (And.intro hc7 (And.intro hl7 hprf7)))
      have e1 : (pl : Int) - 1 = (lst : Int) := by have := HPL.out.2; omega
      have b1 : (pl : Int) ≤ 41 := by have := HPL.out.2; omega
      have b2 : (1 : Int) ≤ (pl : Int) := by have := HPL.out.2; omega
      have b3 : (lst : Int) ≤ 41 := by omega
      clear hQ hc7 hl7 hprf7 hu7
      go_wp2_with fail
      refine (ref_Bring how 4 hhw.out (by omega) (by omega) _).mono ?_
      rintro e W ⟨rfl, rfl⟩
      obtain ⟨hw, hhw4⟩ : ∃ hw : Nat, how % (4 : Int) = hw := ⟨(how % 4).toNat, by have := mod_range how 4 (by omega); omega⟩
      have hw4 : hw < 4 := by have := mod_range how 4 (by omega); omega
      rw [hhw4]
      clear hhw4 e1
      have hcases : hw = 0 ∨ hw = 1 ∨ hw = 2 ∨ hw = 3 := by omega
      clear hw4
      rcases hcases with rfl | rfl | rfl | rfl
      · have hsl0 : ∀ W, (Instr.sliceAt 63 (.slice A7 pl c7) none (some (.int .i64 (lst : Int))) none).run Try.prog W = .ok (.slice A7 lst c7) W := fun W => slice_dss_h W A7 pl c7 lst (by have := HQ.out.2.1; have := HPL.out; omega)
        have HO := Lib.hid (show PrfAt w7 w6.heap.size A7 (l7.take lst) ∧ (l7.take lst).length = lst ∧ lst ≤ c7 ∧ lst ≤ 41 ∧ climb n j (leafM shaM (l[j].2.take 100)) ((l7.take lst).map (·.2)) ≠ some rt by
          have h1 := HPL.out
          have h3 := HPN.out
          have h2 : l7.length = P.length := by have := congrArg List.length HQ.out.2.2.1; rwa [List.length_map] at this
          have h4 : (l7.take lst).length = lst := by rw [List.length_take]; omega
          refine ⟨HQ.out.2.2.2.take lst, h4, by have := HQ.out.2.1; omega, by omega, climb_odd HCL.out (fun e => ?_)⟩
          have e2 := congrArg List.length e
          rw [List.length_map, List.length_map, List.length_map, h4] at e2
          omega)
        clear HQ
        go_wp2_with fail
        -- here: world w7, odd: A7 lst c7 (l7.take lst) (address, length, capacity, list), HS, HO
        obtain ⟨g1, o1, A1, c1, hA1, hcap, hRm, hcell⟩ := leaf_cell HX.out.1 HLJ.out
        have hjn1 : (j : Int) < (nl : Int) := by have := HN.out; have := HJ.out; omega
        have hjn2 : j < nl := by omega
        have hjk : (j : Int) ≤ 40 := by have := HN.out; have := HJ.out; omega
        generalize l[j].2 = R at *
        subst hA1
        obtain ⟨z, hz, hm1, hm2⟩ := min_num R.length
        have hzl : (R.take 100).length = z := by rw [List.length_take]; omega
        have hsl : ∀ W : World, (Instr.sliceAt 35 (.slice A1 R.length c1) none (some (.int .i64 (z : Int))) none).run Try.prog W = .ok (.slice A1 z c1) W := fun W => slice_u8_h W A1 R.length c1 z (by omega)
        have f1 : ∀ W, Kept w7 W → W.cell? ⟨g1, o1 + j, none⟩ = some (.slice A1 R.length c1) := fun W hW => (hcell W (HS.out.made.ink.upd.then hW (fun _ _ h => h))).1
        have HZ := Lib.hid (And.intro hzl (And.intro hcell (show z ≤ 100 by omega)))
        clear hz hzl hcell hcap hRm
        go_wp2_with fail
        refine wp_region_ord [(0, true), (1, true), (2, true), (3, true), (4, true), (5, true), (6, true), (7, true), (8, true), (9, true), (10, true), (11, true)] (by kernel_rfl) (by kernel_rfl) (Kept w7) (Upd.refl _ _).drew ?_
        simp only [ordOps, List.getD_cons_zero, List.getD_cons_succ]
        iterate 12 (refine wpOrd_held (fun K hK => ?_); go_simp; first | (apply Exists.intro; refine ⟨fun W hW => ?_, hK _ ?_⟩; (go_simp; first | done | exact rfl); clear hK K) | (refine hK _ ?_; clear hK K))
        refine wpOrd_nil ?_
        clear f1 hsl hm1 hm2
        replace HO := Lib.hid (And.intro (HO.out.1.kept (show Kept w7 (w7).drew from (Upd.refl _ _).drew)) HO.out.2)
        replace HS := Lib.hid (HS.out.kept (show Kept w7 (w7).drew from (Upd.refl _ _).drew))
        generalize (w7).drew = wy at *
        have f2 : ∀ W, Upd (Book3 b r q) wy W → segB W ⟨g5, 0, none⟩ 32 = true := fun W hW => (dig_at (HS.out.dig.upd hW (HS.out.made.ink.book.not HS.out.dig (by decide)))).1
        have f3 : ∀ W, Upd (Book3 b r q) wy W → segV W ⟨g5, 0, none⟩ 32 = dA rt := fun W hW => (dig_at (HS.out.dig.upd hW (HS.out.made.ink.book.not HS.out.dig (by decide)))).2
        go_wp2_with fail
        refine wp_region_ord [(0, true), (1, true), (2, true), (4, true), (5, true), (6, true), (3, false), (7, false), (8, true), (9, true), (10, true), (11, true), (12, true), (14, true), (15, true), (16, true), (13, false), (17, false), (18, true), (19, true), (20, true)] (by kernel_rfl) (by kernel_rfl) (Upd (Book3 b r q) wy) (Upd.refl _ _).drew ?_
        simp only [ordOps, List.getD_cons_zero, List.getD_cons_succ]
        iterate 6 (refine wpOrd_held (fun K hK => ?_); go_simp; first | (apply Exists.intro; refine ⟨fun W hW => ?_, hK _ ?_⟩; (go_simp; first | done | exact rfl); clear hK K) | (refine hK _ ?_; clear hK K))
        have hSd : Upd (Book3 b r q) wy wy.drew := (Upd.refl _ _).drew
        have HSd := Lib.hid (HS.out.kept (show Kept wy wy.drew from (Upd.refl _ _).drew))
        have HOd := Lib.hid (HO.out.1.kept (show Kept wy wy.drew from (Upd.refl _ _).drew))
        generalize wy.drew = wd at *
        refine wpOrd_step (fun K hK => ?_) hSd
        go_simp
        have HG := tree_Leaves HSd.out.made.tree
        rw [List.length_map, ← HN.out.1] at HG
        refine HG.mono ?_
        clear HG
        rintro e W ⟨rfl, rfl⟩
        refine hK _ _ hSd ?_
        clear hK K
        refine wpOrd_step (fun K hK => ?_) hSd
        go_simp
        have HG := proof_Check (R := R.take 100) HSd.out.made.ink.book rt n j (by have := HN.out; omega) HJ.out c1 ((HZ.out.2.1 wd HSd.out.made.ink.upd).2.take 100) (by have := HZ.out; omega) (P := lp) pc (by rw [HP.out.2.2]; exact HP.out.1) (fun W hW => HSd.out.far hW) (by have := HP.out.2.2; have := hPl.out; omega) P HP.out.2.1
        rw [if_pos HCL.out, HZ.out.1, HP.out.2.2, ← HPL.out.1] at HG
        refine HG.mono ?_
        clear HG
        rintro e we ⟨rfl, hb, hu⟩
        have hSe := hSd.trans hu
        have HSe := Lib.hid (HSd.out.to hb noted_more hu)
        have HOe := Lib.hid (HOd.out.book HSd.out.made.ink.book hu)
        refine hK _ _ hSe ?_
        clear hK K hb hu HSd HOd hSd
        iterate 8 (refine wpOrd_held (fun K hK => ?_); go_simp; first | (apply Exists.intro; refine ⟨fun W hW => ?_, hK _ ?_⟩; (go_simp; first | done | exact rfl); clear hK K) | (refine hK _ ?_; clear hK K))
        clear f2 f3
        refine wpOrd_step (fun K hK => ?_) hSe
        go_simp
        have HG := tree_Leaves HSe.out.made.tree
        rw [List.length_map, ← HN.out.1] at HG
        refine HG.mono ?_
        clear HG
        rintro e W ⟨rfl, rfl⟩
        refine hK _ _ hSe ?_
        clear hK K
        refine wpOrd_step (fun K hK => ?_) hSe
        go_simp
        have HG := proof_Check (R := R.take 100) HSe.out.made.ink.book rt n j (by have := HN.out; omega) HJ.out c1 ((HZ.out.2.1 we HSe.out.made.ink.upd).2.take 100) (by have := HZ.out; omega) (P := (l7.take lst)) c7 (by rw [HO.out.2.1]; exact HO.out.2.2.1) (fun W hW => (HOe.out.book HSe.out.made.ink.book hW).proof) (by have := HO.out.2.1; have := HO.out.2.2.2.1; omega) _ rfl
        rw [if_neg HO.out.2.2.2.2, HZ.out.1, HO.out.2.1] at HG
        refine HG.mono ?_
        clear HG
        rintro e wf ⟨rfl, hb, hu⟩
        have hSf := hSe.trans hu
        have HF := Lib.hid (HSe.out.to hb noted_more hu).made.ink.upd
        refine hK _ _ hSf ?_
        clear hK K hb hu HSe HOe hSe
        iterate 3 (refine wpOrd_held (fun K hK => ?_); go_simp; first | (apply Exists.intro; refine ⟨fun W hW => ?_, hK _ ?_⟩; (go_simp; first | done | exact rfl); clear hK K) | (refine hK _ ?_; clear hK K))
        refine wpOrd_nil ?_
        clear hSf HS HO
        go_wp2
        go_ret
        exact ⟨rfl, HF.out⟩
      · obtain ⟨p1, p2⟩ := dig_at HS.out.dig
        have hk8 : Kept w7 (w7.alloc (.cells (dA rt) 46)) := (Upd.refl _ w7).alloc _
        have hB7 : w6.heap.size ≤ w7.heap.size := HQ.out.1.1.2.elim (fun h => by have := HPL.out; have := HPN.out; have := HQ.out.1.2.1; omega) (fun ⟨g, _, _, _, hb, hg, _⟩ => by have := (Array.getElem?_eq_some_iff.1 hg).1; omega)
        have ho8 : OwnD (w7.alloc (.cells (dA rt) 46)) w6.heap.size (.slice (some ⟨w7.heap.size, 0, none⟩) 1 1) [rt] :=
          ⟨by simp [rowsOf], .inr ⟨w7.heap.size, 1, dA rt, rfl, hB7, heap_alloc_new w7 _, Nat.le_refl _, by unfold maxLen; omega, by simp, by
            simp only [List.length_singleton, Nat.one_mul, rowsOf, List.flatMap_cons, List.flatMap_nil, List.append_nil]
            exact List.take_of_length_le (by simp)⟩⟩
        have hQ8 := HQ.out.1.kept hk8
        have hS8 := HS.out.kept hk8
        have hB8 := Nat.le_trans hB7 hk8.size
        have hk8' := hk8
        clear HS HQ hk8
        generalize hW8 : w7.alloc (.cells (dA rt) 46) = w8 at *
        have hk9 : Kept w8 (w8.alloc (.cells (slA ⟨some ⟨w7.heap.size, 0, none⟩, 1, 1⟩) 41)) := (Upd.refl _ w8).alloc _
        have hQ9 := hQ8.kept hk9
        have HS := Lib.hid (hS8.kept hk9)
        have ho9 := OwnRows.upd ho8 hk9 (fun _ _ h => h)
        have hg9 := heap_alloc_new w8 (.cells (slA ⟨some ⟨w7.heap.size, 0, none⟩, 1, 1⟩) 41)
        have HK9 := Lib.hid ((HK7.out.then hk8' (fun _ _ h => h)).then hk9 (fun _ _ h => h))
        have HQ9 := Lib.hid (And.intro hQ9 (And.intro ho9 (And.intro hg9 (Nat.le_trans hB8 hk9.size))))
        have hxl : xs.length = pl := by rw [hQ9.2.1, HPL.out.1]
        clear hk9 hk8' hQ8 hS8 hQ9 ho8 ho9 hg9
        generalize hW9 : w8.alloc (.cells (slA ⟨some ⟨w7.heap.size, 0, none⟩, 1, 1⟩) 41) = w9 at *
        replace hxl := Lib.hid hxl
        go_wp2_with (at_builtin; refine wpList_append_rows sl_rows rfl (.tmp 83) (.tmp 86) rfl rfl HQ9.out.1.1 ⟨some ⟨w7.heap.size, 0, none⟩, 1, 1⟩ w8.heap.size 1 _ _ rfl HQ9.out.2.2.1 (by have := hxl.out; unfold maxLen; omega) (by have := hxl.out; omega) HQ9.out.2.2.2 ?_; intro v10 w10 hown10 hu10 hnew10; obtain ⟨A10, c10, rfl⟩ : ∃ a c, v10 = .slice a (lst + 2) c := by { obtain ⟨a, c, h⟩ := OwnRows.form hown10; exact ⟨a, c, by rw [h, List.length_append, hxl.out, HPL.out.2.1]; rfl⟩ })
        have hfar : ∀ {x : Value} {D : List Dig}, OwnD w9 w6.heap.size x D → OwnD w10 w6.heap.size x D := fun hd => OwnRows.upd hd hu10 (fun k e e2 => by
          obtain ⟨c1, h1⟩ := own_cells hd e
          obtain ⟨c2, h2⟩ := own_cells HQ9.out.1.1 e2
          rw [h1] at h2
          simp only [Option.some.injEq, Obj.cells.injEq] at h2
          exact absurd h2.2.1 (by decide))
        have hxP : xs.length = P.length := HQ9.out.1.2.1
        have hOP : OwnP w10 w6.heap.size (.slice A10 (lst + 2) c10) (P ++ [[rt]]) := by
          refine ⟨_, hown10, by rw [List.length_append, List.length_append, hxP]; rfl, fun i hi hi' => ?_⟩
          by_cases hi2 : i < xs.length
          · rw [List.getElem_append_left hi2, List.getElem_append_left (by rw [← hxP]; exact hi2)]
            exact hfar (HQ9.out.1.2.2.1 i hi2 (by rw [← hxP]; exact hi2))
          · have hi3 : i = xs.length := by simp at hi; omega
            subst hi3
            have e1 : (xs ++ [(⟨some ⟨w7.heap.size, 0, none⟩, 1, 1⟩ : SlC)])[xs.length] = ⟨some ⟨w7.heap.size, 0, none⟩, 1, 1⟩ := by simp
            have e2 : (P ++ [[rt]])[xs.length]'hi' = [rt] := by rw [List.getElem_append_right (by omega)]; simp [hxP]
            rw [e1, e2]
            exact hfar HQ9.out.2.1
        obtain ⟨Ax, cx, lx, hvx, hcx, hlx, hprx⟩ := hOP.proofs
        simp only [Value.slice.injEq] at hvx
        obtain ⟨rfl, hvl, rfl⟩ := hvx
        have HO := Lib.hid (show PrfAt w10 w6.heap.size A10 lx ∧ lx.length = lst + 2 ∧ lst + 2 ≤ c10 ∧ lst + 2 ≤ 43 ∧ climb n j (leafM shaM (l[j].2.take 100)) (lx.map (·.2)) ≠ some rt by
          have h1 := HPL.out
          have h3 := HPN.out
          have h2 : lx.length = P.length + 1 := by have := congrArg List.length hlx; rw [List.length_map, List.length_append] at this; exact this
          refine ⟨hprx, by omega, by rw [hvl]; exact hcx, by omega, climb_odd HCL.out (fun e => ?_)⟩
          have e2 := congrArg List.length e
          rw [List.length_map, List.length_map, List.length_map] at e2
          omega)
        replace HS := Lib.hid (show WkS w w10 b r q lo hi t g5 w5.heap.size L (bytesL l) rt PA lp from HS6.out.kept (HK9.out.then hu10 (fun k hk e => by have := (World.ownsRow.lt HQ9.out.1.1 k e).1; omega)))
        clear hOP hfar hown10 hu10 hnew10 HQ9 hcx hlx hprx hvl p1 p2
        -- here: world w10, odd: A10 (lst + 2) c10 lx (address, length, capacity, list), HS, HO
        obtain ⟨g1, o1, A1, c1, hA1, hcap, hRm, hcell⟩ := leaf_cell HX.out.1 HLJ.out
        have hjn1 : (j : Int) < (nl : Int) := by have := HN.out; have := HJ.out; omega
        have hjn2 : j < nl := by omega
        have hjk : (j : Int) ≤ 40 := by have := HN.out; have := HJ.out; omega
        generalize l[j].2 = R at *
        subst hA1
        obtain ⟨z, hz, hm1, hm2⟩ := min_num R.length
        have hzl : (R.take 100).length = z := by rw [List.length_take]; omega
        have hsl : ∀ W : World, (Instr.sliceAt 35 (.slice A1 R.length c1) none (some (.int .i64 (z : Int))) none).run Try.prog W = .ok (.slice A1 z c1) W := fun W => slice_u8_h W A1 R.length c1 z (by omega)
        have f1 : ∀ W, Kept w10 W → W.cell? ⟨g1, o1 + j, none⟩ = some (.slice A1 R.length c1) := fun W hW => (hcell W (HS.out.made.ink.upd.then hW (fun _ _ h => h))).1
        have HZ := Lib.hid (And.intro hzl (And.intro hcell (show z ≤ 100 by omega)))
        clear hz hzl hcell hcap hRm
        go_wp2_with fail
        refine wp_region_ord [(0, true), (1, true), (2, true), (3, true), (4, true), (5, true), (6, true), (7, true), (8, true), (9, true), (10, true), (11, true)] (by kernel_rfl) (by kernel_rfl) (Kept w10) (Upd.refl _ _).drew ?_
        simp only [ordOps, List.getD_cons_zero, List.getD_cons_succ]
        iterate 12 (refine wpOrd_held (fun K hK => ?_); go_simp; first | (apply Exists.intro; refine ⟨fun W hW => ?_, hK _ ?_⟩; (go_simp; first | done | exact rfl); clear hK K) | (refine hK _ ?_; clear hK K))
        refine wpOrd_nil ?_
        clear f1 hsl hm1 hm2
        replace HO := Lib.hid (And.intro (HO.out.1.kept (show Kept w10 (w10).drew from (Upd.refl _ _).drew)) HO.out.2)
        replace HS := Lib.hid (HS.out.kept (show Kept w10 (w10).drew from (Upd.refl _ _).drew))
        generalize (w10).drew = wy at *
        have f2 : ∀ W, Upd (Book3 b r q) wy W → segB W ⟨g5, 0, none⟩ 32 = true := fun W hW => (dig_at (HS.out.dig.upd hW (HS.out.made.ink.book.not HS.out.dig (by decide)))).1
        have f3 : ∀ W, Upd (Book3 b r q) wy W → segV W ⟨g5, 0, none⟩ 32 = dA rt := fun W hW => (dig_at (HS.out.dig.upd hW (HS.out.made.ink.book.not HS.out.dig (by decide)))).2
        go_wp2_with fail
        refine wp_region_ord [(0, true), (1, true), (2, true), (4, true), (5, true), (6, true), (3, false), (7, false), (8, true), (9, true), (10, true), (11, true), (12, true), (14, true), (15, true), (16, true), (13, false), (17, false), (18, true), (19, true), (20, true)] (by kernel_rfl) (by kernel_rfl) (Upd (Book3 b r q) wy) (Upd.refl _ _).drew ?_
        simp only [ordOps, List.getD_cons_zero, List.getD_cons_succ]
        iterate 6 (refine wpOrd_held (fun K hK => ?_); go_simp; first | (apply Exists.intro; refine ⟨fun W hW => ?_, hK _ ?_⟩; (go_simp; first | done | exact rfl); clear hK K) | (refine hK _ ?_; clear hK K))
        have hSd : Upd (Book3 b r q) wy wy.drew := (Upd.refl _ _).drew
        have HSd := Lib.hid (HS.out.kept (show Kept wy wy.drew from (Upd.refl _ _).drew))
        have HOd := Lib.hid (HO.out.1.kept (show Kept wy wy.drew from (Upd.refl _ _).drew))
        generalize wy.drew = wd at *
        refine wpOrd_step (fun K hK => ?_) hSd
        go_simp
        have HG := tree_Leaves HSd.out.made.tree
        rw [List.length_map, ← HN.out.1] at HG
        refine HG.mono ?_
        clear HG
        rintro e W ⟨rfl, rfl⟩
        refine hK _ _ hSd ?_
        clear hK K
        refine wpOrd_step (fun K hK => ?_) hSd
        go_simp
        have HG := proof_Check (R := R.take 100) HSd.out.made.ink.book rt n j (by have := HN.out; omega) HJ.out c1 ((HZ.out.2.1 wd HSd.out.made.ink.upd).2.take 100) (by have := HZ.out; omega) (P := lp) pc (by rw [HP.out.2.2]; exact HP.out.1) (fun W hW => HSd.out.far hW) (by have := HP.out.2.2; have := hPl.out; omega) P HP.out.2.1
        rw [if_pos HCL.out, HZ.out.1, HP.out.2.2, ← HPL.out.1] at HG
        refine HG.mono ?_
        clear HG
        rintro e we ⟨rfl, hb, hu⟩
        have hSe := hSd.trans hu
        have HSe := Lib.hid (HSd.out.to hb noted_more hu)
        have HOe := Lib.hid (HOd.out.book HSd.out.made.ink.book hu)
        refine hK _ _ hSe ?_
        clear hK K hb hu HSd HOd hSd
        iterate 8 (refine wpOrd_held (fun K hK => ?_); go_simp; first | (apply Exists.intro; refine ⟨fun W hW => ?_, hK _ ?_⟩; (go_simp; first | done | exact rfl); clear hK K) | (refine hK _ ?_; clear hK K))
        clear f2 f3
        refine wpOrd_step (fun K hK => ?_) hSe
        go_simp
        have HG := tree_Leaves HSe.out.made.tree
        rw [List.length_map, ← HN.out.1] at HG
        refine HG.mono ?_
        clear HG
        rintro e W ⟨rfl, rfl⟩
        refine hK _ _ hSe ?_
        clear hK K
        refine wpOrd_step (fun K hK => ?_) hSe
        go_simp
        have HG := proof_Check (R := R.take 100) HSe.out.made.ink.book rt n j (by have := HN.out; omega) HJ.out c1 ((HZ.out.2.1 we HSe.out.made.ink.upd).2.take 100) (by have := HZ.out; omega) (P := lx) c10 (by rw [HO.out.2.1]; exact HO.out.2.2.1) (fun W hW => (HOe.out.book HSe.out.made.ink.book hW).proof) (by have := HO.out.2.1; have := HO.out.2.2.2.1; omega) _ rfl
        rw [if_neg HO.out.2.2.2.2, HZ.out.1, HO.out.2.1] at HG
        refine HG.mono ?_
        clear HG
        rintro e wf ⟨rfl, hb, hu⟩
        have hSf := hSe.trans hu
        have HF := Lib.hid (HSe.out.to hb noted_more hu).made.ink.upd
        refine hK _ _ hSf ?_
        clear hK K hb hu HSe HOe hSe
        iterate 3 (refine wpOrd_held (fun K hK => ?_); go_simp; first | (apply Exists.intro; refine ⟨fun W hW => ?_, hK _ ?_⟩; (go_simp; first | done | exact rfl); clear hK K) | (refine hK _ ?_; clear hK K))
        refine wpOrd_nil ?_
        clear hSf HS HO
        go_wp2
        go_ret
        exact ⟨rfl, HF.out⟩
      · have hkx : lst < xs.length := by rw [HQ.out.1.2.1, HPN.out]; omega
        have hkP : lst < P.length := by rw [HPN.out]; omega
        obtain ⟨g7, cc, hv7, hcell, cur, hgc⟩ := HQ.out.1.cell hkx
        simp only [Value.slice.injEq] at hv7
        obtain ⟨rfl, -, rfl⟩ := hv7
        have hx7 := HQ.out.1.2.2.1 lst hkx hkP
        have hap := HQ.out.1.2.2.2
        have hPset : (P.set lst (P[lst] ++ [dig0])).map List.length ≠ P.map List.length := fun e => by
          have h1 := congrArg (·[lst]?) e
          simp only [List.getElem?_map, List.getElem?_set_self hkP, List.getElem?_eq_getElem hkP, Option.map_some, Option.some.injEq, List.length_append, List.length_singleton] at h1
          omega
        have hP4 := HP4.out _ (List.getElem_mem hkP)
        obtain ⟨p0, hp0⟩ : ∃ p0, p0 = P[lst] := ⟨_, rfl⟩
        rw [← hp0] at hx7 hPset hP4
        obtain ⟨x, hxe⟩ : ∃ x, x = xs[lst] := ⟨_, rfl⟩
        rw [← hxe] at hx7 hcell
        obtain ⟨Ax, cx, hxv, hcx, -⟩ := hx7.digs
        obtain ⟨xA, xn, xc⟩ := x
        simp only [SlC.v_eq, Value.slice.injEq] at hxv
        obtain ⟨rfl, rfl, rfl⟩ := hxv
        simp only at hcell
        rw [SlC.v_eq] at hx7
        have hgx : ¬ (Value.slice xA p0.length xc).ownBlock = some g7 := fun e => by
          obtain ⟨c1, h1⟩ := own_cells hx7 e
          rw [h1] at hgc
          simp only [Option.some.injEq, Obj.cells.injEq] at hgc
          exact absurd hgc.2.1 (by decide)
        have hk8 : Kept w7 (w7.alloc (.cells (dA dig0) 46)) := (Upd.refl _ w7).alloc _
        have hB7 : w6.heap.size ≤ w7.heap.size := HK7.out.size
        have hx8 := OwnRows.upd hx7 hk8 (fun _ _ h => h)
        have hcell8 := hk8.cell hcell id
        have hgc8 := hk8.heap hgc id
        have hg8 := heap_alloc_new w7 (.cells (dA dig0) 46)
        have HQ8 := Lib.hid (HQ.out.1.kept hk8)
        have HK8 := Lib.hid (HK7.out.then hk8 (fun _ _ h => h))
        have hB8 : w6.heap.size ≤ (w7.alloc (.cells (dA dig0) 46)).heap.size := HK8.out.size
        have H8 := Lib.hid (And.intro hx8 (And.intro hgx (And.intro hcell8 (And.intro hgc8 (And.intro hg8 (And.intro hB8 hP4))))))
        clear HS HQ hk8 hB7 hB8 hx7 hx8 hgx hcell8 hgc8 hg8 hP4 hcx hgc
        generalize hW8 : w7.alloc (.cells (dA dig0) 46) = w8 at *
        have hls1 : (lst : Int) < (pl : Int) := by have := HPL.out; omega
        have hls2 : lst < pl := by have := HPL.out; omega
        replace hp0 := Lib.hid hp0
        replace hxe := Lib.hid hxe
        go_wp2_with (at_builtin; refine wpList_append_rows (l := p0) dig_rows rfl (.tmp 95) (.tmp 97) rfl rfl H8.out.1 dig0 w7.heap.size 1 _ _ rfl H8.out.2.2.2.2.1 (by have := H8.out.2.2.2.2.2.2; unfold maxLen; omega) (by have := H8.out.2.2.2.2.2.2; omega) H8.out.2.2.2.2.2.1 ?_; intro v9 w9 hown9 hu9 hnew9; obtain ⟨A9, c9, rfl⟩ : ∃ a c, v9 = .slice a (p0.length + 1) c := by { obtain ⟨a, c, h⟩ := OwnRows.form hown9; exact ⟨a, c, by rw [h, List.length_append]; rfl⟩ }; have hc9 := hu9.cell H8.out.2.2.1 H8.out.2.1; have hz9 := frozen_of_row w9 g7 lst _ _ (hu9.heap H8.out.2.2.2.1 H8.out.2.1))
        obtain ⟨gq, hgq, hset, -⟩ := own_setCell (OwnRows.upd HQ8.out.1 hu9 (fun k e e2 => by
          obtain ⟨c1, h1⟩ := own_cells HQ8.out.1 e
          obtain ⟨c2, h2⟩ := own_cells H8.out.1 e2
          rw [h1] at h2
          simp only [Option.some.injEq, Obj.cells.injEq] at h2
          exact absurd h2.2.1 (by decide))) (k := lst) hkx ⟨A9, p0.length + 1, c9⟩
        rw [show (Value.slice (some ⟨g7, 0, none⟩) pl c7).ownBlock = some g7 from rfl] at hgq
        obtain rfl := Option.some.inj hgq
        have hu10 : Upd (fun k => k = g7) w9 (w9.setCell ⟨g7, lst, none⟩ (.slice A9 (p0.length + 1) c9)) := (Upd.refl _ w9).setCell (p := ⟨g7, lst, none⟩) _ fun _ => rfl
        have hx10 : OwnD (w9.setCell ⟨g7, lst, none⟩ (.slice A9 (p0.length + 1) c9)) w6.heap.size (SlC.v ⟨A9, p0.length + 1, c9⟩) (p0 ++ [dig0]) := OwnRows.upd hown9 hu10 (fun k e e2 => by
          obtain ⟨c1, h1⟩ := own_cells hown9 e
          have e3 : k = g7 := e2
          subst e3
          have h2 := hu9.heap H8.out.2.2.2.1 H8.out.2.1
          rw [h1] at h2
          simp only [Option.some.injEq, Obj.cells.injEq] at h2
          exact absurd h2.2.1 (by decide))
        have hOP := HQ8.out.set hkx hset hx10 ((hu9.mono fun k _ e => Or.inl e).trans (hu10.mono fun k _ e => Or.inr e) : Upd (fun k => (Value.slice xA p0.length xc).ownBlock = some k ∨ k = g7) w8 _) (fun i hi hne m e e2 => by
          rcases e2 with e2 | e2
          · exact hap i lst hi hkx hne m e (by rw [← hxe.out, SlC.v_eq]; exact e2)
          · obtain ⟨c1, h1⟩ := own_cells (HQ8.out.2.2.1 i hi (by rw [← HQ8.out.2.1]; exact hi)) e
            subst e2
            rw [H8.out.2.2.2.1] at h1
            simp only [Option.some.injEq, Obj.cells.injEq] at h1
            exact absurd h1.2.1 (by decide))
        have HS := Lib.hid (HS6.out.kept ((HK8.out.then hu9 (fun k hk e => by have := (World.ownsRow.lt H8.out.1 k e).1; omega)).then hu10 (fun k hk e => by
          have e3 : k = g7 := e
          have := (World.ownsRow.lt HQ8.out.1 g7 rfl).1
          omega)))
        obtain ⟨Ax, cx, lx, hvx, hcx, hlx, hprx⟩ := hOP.proofs
        simp only [Value.slice.injEq] at hvx
        obtain ⟨hAx, hvl, rfl⟩ := hvx
        subst hAx
        have HO := Lib.hid (show PrfAt (w9.setCell ⟨g7, lst, none⟩ (.slice A9 (p0.length + 1) c9)) w6.heap.size (some ⟨g7, 0, none⟩) lx ∧ lx.length = pl ∧ pl ≤ c7 ∧ pl ≤ 41 ∧ climb n j (leafM shaM (l[j].2.take 100)) (lx.map (·.2)) ≠ some rt by
          have h1 := HPL.out
          have h2 : lx.length = P.length := by have := congrArg List.length hlx; rw [List.length_map, List.length_set] at this; exact this
          refine ⟨hprx, by omega, by rw [hvl]; exact hcx, by omega, climb_odd HCL.out (by rw [hlx]; exact hPset)⟩)
        clear hOP hown9 hu9 hnew9 hu10 hx10 hset HQ8 H8 hcx hlx hprx hvl hc9 hz9 hPset hap hkx hkP hcell hxe hp0
        generalize w9.setCell ⟨g7, lst, none⟩ (.slice A9 (p0.length + 1) c9) = w10 at *
        -- here: world w10, odd: (some ⟨g7, 0, none⟩) pl c7 lx (address, length, capacity, list), HS, HO
        obtain ⟨g1, o1, A1, c1, hA1, hcap, hRm, hcell⟩ := leaf_cell HX.out.1 HLJ.out
        have hjn1 : (j : Int) < (nl : Int) := by have := HN.out; have := HJ.out; omega
        have hjn2 : j < nl := by omega
        have hjk : (j : Int) ≤ 40 := by have := HN.out; have := HJ.out; omega
        generalize l[j].2 = R at *
        subst hA1
        obtain ⟨z, hz, hm1, hm2⟩ := min_num R.length
        have hzl : (R.take 100).length = z := by rw [List.length_take]; omega
        have hsl : ∀ W : World, (Instr.sliceAt 35 (.slice A1 R.length c1) none (some (.int .i64 (z : Int))) none).run Try.prog W = .ok (.slice A1 z c1) W := fun W => slice_u8_h W A1 R.length c1 z (by omega)
        have f1 : ∀ W, Kept w10 W → W.cell? ⟨g1, o1 + j, none⟩ = some (.slice A1 R.length c1) := fun W hW => (hcell W (HS.out.made.ink.upd.then hW (fun _ _ h => h))).1
        have HZ := Lib.hid (And.intro hzl (And.intro hcell (show z ≤ 100 by omega)))
        clear hz hzl hcell hcap hRm
        go_wp2_with fail
        refine wp_region_ord [(0, true), (1, true), (2, true), (3, true), (4, true), (5, true), (6, true), (7, true), (8, true), (9, true), (10, true), (11, true)] (by kernel_rfl) (by kernel_rfl) (Kept w10) (Upd.refl _ _).drew ?_
        simp only [ordOps, List.getD_cons_zero, List.getD_cons_succ]
        iterate 12 (refine wpOrd_held (fun K hK => ?_); go_simp; first | (apply Exists.intro; refine ⟨fun W hW => ?_, hK _ ?_⟩; (go_simp; first | done | exact rfl); clear hK K) | (refine hK _ ?_; clear hK K))
        refine wpOrd_nil ?_
        clear f1 hsl hm1 hm2
        replace HO := Lib.hid (And.intro (HO.out.1.kept (show Kept w10 (w10).drew from (Upd.refl _ _).drew)) HO.out.2)
        replace HS := Lib.hid (HS.out.kept (show Kept w10 (w10).drew from (Upd.refl _ _).drew))
        generalize (w10).drew = wy at *
        have f2 : ∀ W, Upd (Book3 b r q) wy W → segB W ⟨g5, 0, none⟩ 32 = true := fun W hW => (dig_at (HS.out.dig.upd hW (HS.out.made.ink.book.not HS.out.dig (by decide)))).1
        have f3 : ∀ W, Upd (Book3 b r q) wy W → segV W ⟨g5, 0, none⟩ 32 = dA rt := fun W hW => (dig_at (HS.out.dig.upd hW (HS.out.made.ink.book.not HS.out.dig (by decide)))).2
        go_wp2_with fail
        refine wp_region_ord [(0, true), (1, true), (2, true), (4, true), (5, true), (6, true), (3, false), (7, false), (8, true), (9, true), (10, true), (11, true), (12, true), (14, true), (15, true), (16, true), (13, false), (17, false), (18, true), (19, true), (20, true)] (by kernel_rfl) (by kernel_rfl) (Upd (Book3 b r q) wy) (Upd.refl _ _).drew ?_
        simp only [ordOps, List.getD_cons_zero, List.getD_cons_succ]
        iterate 6 (refine wpOrd_held (fun K hK => ?_); go_simp; first | (apply Exists.intro; refine ⟨fun W hW => ?_, hK _ ?_⟩; (go_simp; first | done | exact rfl); clear hK K) | (refine hK _ ?_; clear hK K))
        have hSd : Upd (Book3 b r q) wy wy.drew := (Upd.refl _ _).drew
        have HSd := Lib.hid (HS.out.kept (show Kept wy wy.drew from (Upd.refl _ _).drew))
        have HOd := Lib.hid (HO.out.1.kept (show Kept wy wy.drew from (Upd.refl _ _).drew))
        generalize wy.drew = wd at *
        refine wpOrd_step (fun K hK => ?_) hSd
        go_simp
        have HG := tree_Leaves HSd.out.made.tree
        rw [List.length_map, ← HN.out.1] at HG
        refine HG.mono ?_
        clear HG
        rintro e W ⟨rfl, rfl⟩
        refine hK _ _ hSd ?_
        clear hK K
        refine wpOrd_step (fun K hK => ?_) hSd
        go_simp
        have HG := proof_Check (R := R.take 100) HSd.out.made.ink.book rt n j (by have := HN.out; omega) HJ.out c1 ((HZ.out.2.1 wd HSd.out.made.ink.upd).2.take 100) (by have := HZ.out; omega) (P := lp) pc (by rw [HP.out.2.2]; exact HP.out.1) (fun W hW => HSd.out.far hW) (by have := HP.out.2.2; have := hPl.out; omega) P HP.out.2.1
        rw [if_pos HCL.out, HZ.out.1, HP.out.2.2, ← HPL.out.1] at HG
        refine HG.mono ?_
        clear HG
        rintro e we ⟨rfl, hb, hu⟩
        have hSe := hSd.trans hu
        have HSe := Lib.hid (HSd.out.to hb noted_more hu)
        have HOe := Lib.hid (HOd.out.book HSd.out.made.ink.book hu)
        refine hK _ _ hSe ?_
        clear hK K hb hu HSd HOd hSd
        iterate 8 (refine wpOrd_held (fun K hK => ?_); go_simp; first | (apply Exists.intro; refine ⟨fun W hW => ?_, hK _ ?_⟩; (go_simp; first | done | exact rfl); clear hK K) | (refine hK _ ?_; clear hK K))
        clear f2 f3
        refine wpOrd_step (fun K hK => ?_) hSe
        go_simp
        have HG := tree_Leaves HSe.out.made.tree
        rw [List.length_map, ← HN.out.1] at HG
        refine HG.mono ?_
        clear HG
        rintro e W ⟨rfl, rfl⟩
        refine hK _ _ hSe ?_
        clear hK K
        refine wpOrd_step (fun K hK => ?_) hSe
        go_simp
        have HG := proof_Check (R := R.take 100) HSe.out.made.ink.book rt n j (by have := HN.out; omega) HJ.out c1 ((HZ.out.2.1 we HSe.out.made.ink.upd).2.take 100) (by have := HZ.out; omega) (P := lx) c7 (by rw [HO.out.2.1]; exact HO.out.2.2.1) (fun W hW => (HOe.out.book HSe.out.made.ink.book hW).proof) (by have := HO.out.2.1; have := HO.out.2.2.2.1; omega) _ rfl
        rw [if_neg HO.out.2.2.2.2, HZ.out.1, HO.out.2.1] at HG
        refine HG.mono ?_
        clear HG
        rintro e wf ⟨rfl, hb, hu⟩
        have hSf := hSe.trans hu
        have HF := Lib.hid (HSe.out.to hb noted_more hu).made.ink.upd
        refine hK _ _ hSf ?_
        clear hK K hb hu HSe HOe hSe
        iterate 3 (refine wpOrd_held (fun K hK => ?_); go_simp; first | (apply Exists.intro; refine ⟨fun W hW => ?_, hK _ ?_⟩; (go_simp; first | done | exact rfl); clear hK K) | (refine hK _ ?_; clear hK K))
        refine wpOrd_nil ?_
        clear hSf HS HO
        go_wp2
        go_ret
        exact ⟨rfl, HF.out⟩
      · have hkd : Kept w7 w7.drew := (Upd.refl _ _).drew
        replace HQ := Lib.hid (And.intro (HQ.out.1.kept hkd) (And.intro HQ.out.2.1 (And.intro HQ.out.2.2.1 (HQ.out.2.2.2.kept hkd))))
        replace HK7 := Lib.hid (HK7.out.then hkd (fun _ _ h => h))
        have hSd : Kept w7 w7.drew := hkd
        obtain ⟨wd, hwd⟩ : ∃ wd, wd = w7.drew := ⟨_, rfl⟩
        rw [← hwd] at HQ HK7 hSd
        have HWD := Lib.hid hwd
        clear hkd hwd
        have hkx : 0 < xs.length := by rw [HQ.out.1.2.1, HPN.out]; omega
        have hkP : 0 < P.length := by rw [HPN.out]; omega
        obtain ⟨g7, cc, hv7, hcell, cur, hgc⟩ := HQ.out.1.cell hkx
        simp only [Value.slice.injEq] at hv7
        obtain ⟨rfl, -, rfl⟩ := hv7
        have hx7 := HQ.out.1.2.2.1 0 hkx hkP
        have hap := HQ.out.1.2.2.2
        have hp1 : 1 ≤ P[0].length := by
          obtain ⟨p0, tl, h1, h2⟩ := HP0.out
          subst h1
          exact h2
        have hPset : (P.set 0 (P[0].take (P[0].length - 1))).map List.length ≠ P.map List.length := fun e => by
          have h1 := congrArg (·[0]?) e
          simp only [List.getElem?_map, List.getElem?_set_self hkP, List.getElem?_eq_getElem hkP, Option.map_some, Option.some.injEq, List.length_take] at h1
          omega
        have hP4 := HP4.out _ (List.getElem_mem hkP)
        obtain ⟨p0, hp0⟩ : ∃ p0, p0 = P[0] := ⟨_, rfl⟩
        rw [← hp0] at hx7 hPset hP4 hp1
        obtain ⟨x, hxe⟩ : ∃ x, x = xs[0] := ⟨_, rfl⟩
        rw [← hxe] at hx7 hcell
        obtain ⟨Ax, cx, hxv, hcx, -⟩ := hx7.digs
        obtain ⟨xA, xn, xc⟩ := x
        simp only [SlC.v_eq, Value.slice.injEq] at hxv
        obtain ⟨rfl, rfl, rfl⟩ := hxv
        simp only at hcell
        rw [SlC.v_eq] at hx7
        have hcut := OwnD.cut hx7 (by omega) (p0.length - 1) (by omega)
        obtain ⟨q0, hq0⟩ : ∃ q0, q0 = p0.length - 1 := ⟨_, rfl⟩
        rw [← hq0] at hcut hPset
        have e9 : (p0.length : Int) - 1 = (q0 : Int) := by omega
        have b9 : (p0.length : Int) ≤ 4 := by omega
        have b8 : 1 ≤ (p0.length : Int) := by omega
        have hqx : q0 ≤ xc := by omega
        have ew9 : IntKind.i64.wrap (q0 : Int) = (q0 : Int) := by rw [IntKind.wrap_i64]; omega
        clear hq0
        have hz7 := frozen_of_row wd g7 0 _ _ hgc
        obtain ⟨gq, hgq, hset, -⟩ := own_setCell HQ.out.1.1 (k := 0) hkx ⟨xA, q0, xc⟩
        rw [show (Value.slice (some ⟨g7, 0, none⟩) pl c7).ownBlock = some g7 from rfl] at hgq
        obtain rfl := Option.some.inj hgq
        have hu10 : Upd (fun k => k = g7) wd (wd.setCell ⟨g7, 0, none⟩ (.slice xA q0 xc)) := (Upd.refl _ wd).setCell (p := ⟨g7, 0, none⟩) _ fun _ => rfl
        have hfar : ∀ i (hi : i < xs.length) m, xs[i].v.ownBlock = some m → m ≠ g7 := fun i hi m e e2 => by
          obtain ⟨c1, h1⟩ := own_cells (HQ.out.1.2.2.1 i hi (by rw [← HQ.out.1.2.1]; exact hi)) e
          subst e2
          rw [hgc] at h1
          simp only [Option.some.injEq, Obj.cells.injEq] at h1
          exact absurd h1.2.1 (by decide)
        have hx10 := OwnRows.upd hcut hu10 (fun k e e2 => hfar 0 hkx k (by rw [← hxe, SlC.v_eq]; cases xA with | none => exact e | some a => exact e) e2)
        have hOP := HQ.out.1.set hkx hset (x := ⟨xA, q0, xc⟩) hx10 hu10 (fun i hi hne m e e2 => hfar i hi m e e2)
        have HSx := Lib.hid (HS6.out.kept (HK7.out.then hu10 (fun k hk e => by
          have e3 : k = g7 := e
          have := (World.ownsRow.lt HQ.out.1.1 g7 rfl).1
          omega)))
        obtain ⟨Ax, cx, lx, hvx, hcx, hlx, hprx⟩ := hOP.proofs
        simp only [Value.slice.injEq] at hvx
        obtain ⟨hAx, hvl, rfl⟩ := hvx
        subst hAx
        have HO := Lib.hid (show PrfAt (wd.setCell ⟨g7, 0, none⟩ (.slice xA q0 xc)) w6.heap.size (some ⟨g7, 0, none⟩) lx ∧ lx.length = pl ∧ pl ≤ c7 ∧ pl ≤ 41 ∧ climb n j (leafM shaM (l[j].2.take 100)) (lx.map (·.2)) ≠ some rt by
          have h1 := HPL.out
          have h2 : lx.length = P.length := by have := congrArg List.length hlx; rw [List.length_map, List.length_set] at this; exact this
          refine ⟨hprx, by omega, by rw [hvl]; exact hcx, by omega, climb_odd HCL.out (by rw [hlx]; exact hPset)⟩)
        have hdsl : ∀ W, (Instr.sliceAt 41 (.slice xA p0.length xc) none (some (.int .i64 (q0 : Int))) none).run Try.prog W = .ok (.slice xA q0 xc) W := fun W => slice_ds_h W xA p0.length xc q0 hqx
        have hp5 : (0 : Int) < (pl : Int) := by omega
        have hp6 : 0 < pl := by have := HPL.out; omega
        have hS10 : Upd (fun k => k = g7) w7 (wd.setCell ⟨g7, 0, none⟩ (.slice xA q0 xc)) := hSd.to.trans hu10
        have hS9 : Upd (fun k => k = g7) w7 wd := hSd.to
        have HCE := Lib.hid hcell
        clear hcell
        clear hOP hu10 hx10 hset HQ hcx hlx hprx hvl hPset hap hkx hkP hxe hp0 HS hcut hfar hgc hx7 hSd
        go_wp2_with fail
        refine wp_region_tree (.take 0 (.take 1 (.take 2 (.take 4 (.take 5 (.two 3 6 (.one 6 (.take 7 (.take 8 (.take 9 (.take 10 (.one 11 .done)))))) (.take 7 (.take 8 (.one 3 (.take 9 (.take 10 (.one 11 .done)))))))))))) (by kernel_rfl) (by kernel_rfl) (Upd (fun k => k = g7) w7) (Upd.refl _ _).drew ?_
        simp only [OT.ops, List.getD_cons_zero, List.getD_cons_succ]
        iterate 5 (refine wpOO_held (fun K hK => ?_); go_simp; first | (apply Exists.intro; refine ⟨fun W hW => ?_, hK _ ?_⟩; (go_simp; first | done | exact rfl); clear hK K) | (refine hK _ ?_; clear hK K))
        rw [← HWD.out]
        have hcell := HCE.out
        clear HWD
        refine wpOO_fork (fun K hK => ?_) (fun K hK => ?_) hS9
        · go_simp
          refine hK _ _ hS9 ?_
          clear hK K
          refine wpOO_step (fun K hK => ?_) hS9
          go_simp
          refine hK _ _ hS9 ?_
          clear hK K
          iterate 4 (refine wpOO_held (fun K hK => ?_); go_simp; first | (apply Exists.intro; refine ⟨fun W hW => ?_, hK _ ?_⟩; (go_simp; first | done | exact rfl); clear hK K) | (refine hK _ ?_; clear hK K))
          refine wpOO_step (fun K hK => ?_) hS9
          go_simp
          refine hK _ _ hS10 ?_
          clear hK K hcell
          refine wpOO_nil ?_
          have HS := HSx
          clear hS9 hS10 HSx hz7 hdsl
          generalize wd.setCell ⟨g7, 0, none⟩ (.slice xA q0 xc) = w10 at *
          -- here: world w10, odd: (some ⟨g7, 0, none⟩) pl c7 lx (address, length, capacity, list), HS, HO
          obtain ⟨g1, o1, A1, c1, hA1, hcap, hRm, hcell⟩ := leaf_cell HX.out.1 HLJ.out
          have hjn1 : (j : Int) < (nl : Int) := by have := HN.out; have := HJ.out; omega
          have hjn2 : j < nl := by omega
          have hjk : (j : Int) ≤ 40 := by have := HN.out; have := HJ.out; omega
          generalize l[j].2 = R at *
          subst hA1
          obtain ⟨z, hz, hm1, hm2⟩ := min_num R.length
          have hzl : (R.take 100).length = z := by rw [List.length_take]; omega
          have hsl : ∀ W : World, (Instr.sliceAt 35 (.slice A1 R.length c1) none (some (.int .i64 (z : Int))) none).run Try.prog W = .ok (.slice A1 z c1) W := fun W => slice_u8_h W A1 R.length c1 z (by omega)
          have f1 : ∀ W, Kept w10 W → W.cell? ⟨g1, o1 + j, none⟩ = some (.slice A1 R.length c1) := fun W hW => (hcell W (HS.out.made.ink.upd.then hW (fun _ _ h => h))).1
          have HZ := Lib.hid (And.intro hzl (And.intro hcell (show z ≤ 100 by omega)))
          clear hz hzl hcell hcap hRm
          go_wp2_with fail
          refine wp_region_ord [(0, true), (1, true), (2, true), (3, true), (4, true), (5, true), (6, true), (7, true), (8, true), (9, true), (10, true), (11, true)] (by kernel_rfl) (by kernel_rfl) (Kept w10) (Upd.refl _ _).drew ?_
          simp only [ordOps, List.getD_cons_zero, List.getD_cons_succ]
          iterate 12 (refine wpOrd_held (fun K hK => ?_); go_simp; first | (apply Exists.intro; refine ⟨fun W hW => ?_, hK _ ?_⟩; (go_simp; first | done | exact rfl); clear hK K) | (refine hK _ ?_; clear hK K))
          refine wpOrd_nil ?_
          clear f1 hsl hm1 hm2
          replace HO := Lib.hid (And.intro (HO.out.1.kept (show Kept w10 (w10).drew from (Upd.refl _ _).drew)) HO.out.2)
          replace HS := Lib.hid (HS.out.kept (show Kept w10 (w10).drew from (Upd.refl _ _).drew))
          generalize (w10).drew = wy at *
          have f2 : ∀ W, Upd (Book3 b r q) wy W → segB W ⟨g5, 0, none⟩ 32 = true := fun W hW => (dig_at (HS.out.dig.upd hW (HS.out.made.ink.book.not HS.out.dig (by decide)))).1
          have f3 : ∀ W, Upd (Book3 b r q) wy W → segV W ⟨g5, 0, none⟩ 32 = dA rt := fun W hW => (dig_at (HS.out.dig.upd hW (HS.out.made.ink.book.not HS.out.dig (by decide)))).2
          go_wp2_with fail
          refine wp_region_ord [(0, true), (1, true), (2, true), (4, true), (5, true), (6, true), (3, false), (7, false), (8, true), (9, true), (10, true), (11, true), (12, true), (14, true), (15, true), (16, true), (13, false), (17, false), (18, true), (19, true), (20, true)] (by kernel_rfl) (by kernel_rfl) (Upd (Book3 b r q) wy) (Upd.refl _ _).drew ?_
          simp only [ordOps, List.getD_cons_zero, List.getD_cons_succ]
          iterate 6 (refine wpOrd_held (fun K hK => ?_); go_simp; first | (apply Exists.intro; refine ⟨fun W hW => ?_, hK _ ?_⟩; (go_simp; first | done | exact rfl); clear hK K) | (refine hK _ ?_; clear hK K))
          have hSd : Upd (Book3 b r q) wy wy.drew := (Upd.refl _ _).drew
          have HSd := Lib.hid (HS.out.kept (show Kept wy wy.drew from (Upd.refl _ _).drew))
          have HOd := Lib.hid (HO.out.1.kept (show Kept wy wy.drew from (Upd.refl _ _).drew))
          generalize wy.drew = wd at *
          refine wpOrd_step (fun K hK => ?_) hSd
          go_simp
          have HG := tree_Leaves HSd.out.made.tree
          rw [List.length_map, ← HN.out.1] at HG
          refine HG.mono ?_
          clear HG
          rintro e W ⟨rfl, rfl⟩
          refine hK _ _ hSd ?_
          clear hK K
          refine wpOrd_step (fun K hK => ?_) hSd
          go_simp
          have HG := proof_Check (R := R.take 100) HSd.out.made.ink.book rt n j (by have := HN.out; omega) HJ.out c1 ((HZ.out.2.1 wd HSd.out.made.ink.upd).2.take 100) (by have := HZ.out; omega) (P := lp) pc (by rw [HP.out.2.2]; exact HP.out.1) (fun W hW => HSd.out.far hW) (by have := HP.out.2.2; have := hPl.out; omega) P HP.out.2.1
          rw [if_pos HCL.out, HZ.out.1, HP.out.2.2, ← HPL.out.1] at HG
          refine HG.mono ?_
          clear HG
          rintro e we ⟨rfl, hb, hu⟩
          have hSe := hSd.trans hu
          have HSe := Lib.hid (HSd.out.to hb noted_more hu)
          have HOe := Lib.hid (HOd.out.book HSd.out.made.ink.book hu)
          refine hK _ _ hSe ?_
          clear hK K hb hu HSd HOd hSd
          iterate 8 (refine wpOrd_held (fun K hK => ?_); go_simp; first | (apply Exists.intro; refine ⟨fun W hW => ?_, hK _ ?_⟩; (go_simp; first | done | exact rfl); clear hK K) | (refine hK _ ?_; clear hK K))
          clear f2 f3
          refine wpOrd_step (fun K hK => ?_) hSe
          go_simp
          have HG := tree_Leaves HSe.out.made.tree
          rw [List.length_map, ← HN.out.1] at HG
          refine HG.mono ?_
          clear HG
          rintro e W ⟨rfl, rfl⟩
          refine hK _ _ hSe ?_
          clear hK K
          refine wpOrd_step (fun K hK => ?_) hSe
          go_simp
          have HG := proof_Check (R := R.take 100) HSe.out.made.ink.book rt n j (by have := HN.out; omega) HJ.out c1 ((HZ.out.2.1 we HSe.out.made.ink.upd).2.take 100) (by have := HZ.out; omega) (P := lx) c7 (by rw [HO.out.2.1]; exact HO.out.2.2.1) (fun W hW => (HOe.out.book HSe.out.made.ink.book hW).proof) (by have := HO.out.2.1; have := HO.out.2.2.2.1; omega) _ rfl
          rw [if_neg HO.out.2.2.2.2, HZ.out.1, HO.out.2.1] at HG
          refine HG.mono ?_
          clear HG
          rintro e wf ⟨rfl, hb, hu⟩
          have hSf := hSe.trans hu
          have HF := Lib.hid (HSe.out.to hb noted_more hu).made.ink.upd
          refine hK _ _ hSf ?_
          clear hK K hb hu HSe HOe hSe
          iterate 3 (refine wpOrd_held (fun K hK => ?_); go_simp; first | (apply Exists.intro; refine ⟨fun W hW => ?_, hK _ ?_⟩; (go_simp; first | done | exact rfl); clear hK K) | (refine hK _ ?_; clear hK K))
          refine wpOrd_nil ?_
          clear hSf HS HO
          go_wp2
          go_ret
          exact ⟨rfl, HF.out⟩
        · go_simp
          refine hK _ _ hS9 ?_
          clear hK K
          iterate 2 (refine wpOO_held (fun K hK => ?_); go_simp; first | (apply Exists.intro; refine ⟨fun W hW => ?_, hK _ ?_⟩; (go_simp; first | done | exact rfl); clear hK K) | (refine hK _ ?_; clear hK K))
          refine wpOO_step (fun K hK => ?_) hS9
          go_simp
          refine hK _ _ hS9 ?_
          clear hK K
          iterate 2 (refine wpOO_held (fun K hK => ?_); go_simp; first | (apply Exists.intro; refine ⟨fun W hW => ?_, hK _ ?_⟩; (go_simp; first | done | exact rfl); clear hK K) | (refine hK _ ?_; clear hK K))
          refine wpOO_step (fun K hK => ?_) hS9
          go_simp
          refine hK _ _ hS10 ?_
          clear hK K hcell
          refine wpOO_nil ?_
          have HS := HSx
          clear hS9 hS10 HSx hz7 hdsl
          generalize wd.setCell ⟨g7, 0, none⟩ (.slice xA q0 xc) = w10 at *
          -- here: world w10, odd: (some ⟨g7, 0, none⟩) pl c7 lx (address, length, capacity, list), HS, HO
          obtain ⟨g1, o1, A1, c1, hA1, hcap, hRm, hcell⟩ := leaf_cell HX.out.1 HLJ.out
          have hjn1 : (j : Int) < (nl : Int) := by have := HN.out; have := HJ.out; omega
          have hjn2 : j < nl := by omega
          have hjk : (j : Int) ≤ 40 := by have := HN.out; have := HJ.out; omega
          generalize l[j].2 = R at *
          subst hA1
          obtain ⟨z, hz, hm1, hm2⟩ := min_num R.length
          have hzl : (R.take 100).length = z := by rw [List.length_take]; omega
          have hsl : ∀ W : World, (Instr.sliceAt 35 (.slice A1 R.length c1) none (some (.int .i64 (z : Int))) none).run Try.prog W = .ok (.slice A1 z c1) W := fun W => slice_u8_h W A1 R.length c1 z (by omega)
          have f1 : ∀ W, Kept w10 W → W.cell? ⟨g1, o1 + j, none⟩ = some (.slice A1 R.length c1) := fun W hW => (hcell W (HS.out.made.ink.upd.then hW (fun _ _ h => h))).1
          have HZ := Lib.hid (And.intro hzl (And.intro hcell (show z ≤ 100 by omega)))
          clear hz hzl hcell hcap hRm
          go_wp2_with fail
          refine wp_region_ord [(0, true), (1, true), (2, true), (3, true), (4, true), (5, true), (6, true), (7, true), (8, true), (9, true), (10, true), (11, true)] (by kernel_rfl) (by kernel_rfl) (Kept w10) (Upd.refl _ _).drew ?_
          simp only [ordOps, List.getD_cons_zero, List.getD_cons_succ]
          iterate 12 (refine wpOrd_held (fun K hK => ?_); go_simp; first | (apply Exists.intro; refine ⟨fun W hW => ?_, hK _ ?_⟩; (go_simp; first | done | exact rfl); clear hK K) | (refine hK _ ?_; clear hK K))
          refine wpOrd_nil ?_
          clear f1 hsl hm1 hm2
          replace HO := Lib.hid (And.intro (HO.out.1.kept (show Kept w10 (w10).drew from (Upd.refl _ _).drew)) HO.out.2)
          replace HS := Lib.hid (HS.out.kept (show Kept w10 (w10).drew from (Upd.refl _ _).drew))
          generalize (w10).drew = wy at *
          have f2 : ∀ W, Upd (Book3 b r q) wy W → segB W ⟨g5, 0, none⟩ 32 = true := fun W hW => (dig_at (HS.out.dig.upd hW (HS.out.made.ink.book.not HS.out.dig (by decide)))).1
          have f3 : ∀ W, Upd (Book3 b r q) wy W → segV W ⟨g5, 0, none⟩ 32 = dA rt := fun W hW => (dig_at (HS.out.dig.upd hW (HS.out.made.ink.book.not HS.out.dig (by decide)))).2
          go_wp2_with fail
          refine wp_region_ord [(0, true), (1, true), (2, true), (4, true), (5, true), (6, true), (3, false), (7, false), (8, true), (9, true), (10, true), (11, true), (12, true), (14, true), (15, true), (16, true), (13, false), (17, false), (18, true), (19, true), (20, true)] (by kernel_rfl) (by kernel_rfl) (Upd (Book3 b r q) wy) (Upd.refl _ _).drew ?_
          simp only [ordOps, List.getD_cons_zero, List.getD_cons_succ]
          iterate 6 (refine wpOrd_held (fun K hK => ?_); go_simp; first | (apply Exists.intro; refine ⟨fun W hW => ?_, hK _ ?_⟩; (go_simp; first | done | exact rfl); clear hK K) | (refine hK _ ?_; clear hK K))
          have hSd : Upd (Book3 b r q) wy wy.drew := (Upd.refl _ _).drew
          have HSd := Lib.hid (HS.out.kept (show Kept wy wy.drew from (Upd.refl _ _).drew))
          have HOd := Lib.hid (HO.out.1.kept (show Kept wy wy.drew from (Upd.refl _ _).drew))
          generalize wy.drew = wd at *
          refine wpOrd_step (fun K hK => ?_) hSd
          go_simp
          have HG := tree_Leaves HSd.out.made.tree
          rw [List.length_map, ← HN.out.1] at HG
          refine HG.mono ?_
          clear HG
          rintro e W ⟨rfl, rfl⟩
          refine hK _ _ hSd ?_
          clear hK K
          refine wpOrd_step (fun K hK => ?_) hSd
          go_simp
          have HG := proof_Check (R := R.take 100) HSd.out.made.ink.book rt n j (by have := HN.out; omega) HJ.out c1 ((HZ.out.2.1 wd HSd.out.made.ink.upd).2.take 100) (by have := HZ.out; omega) (P := lp) pc (by rw [HP.out.2.2]; exact HP.out.1) (fun W hW => HSd.out.far hW) (by have := HP.out.2.2; have := hPl.out; omega) P HP.out.2.1
          rw [if_pos HCL.out, HZ.out.1, HP.out.2.2, ← HPL.out.1] at HG
          refine HG.mono ?_
          clear HG
          rintro e we ⟨rfl, hb, hu⟩
          have hSe := hSd.trans hu
          have HSe := Lib.hid (HSd.out.to hb noted_more hu)
          have HOe := Lib.hid (HOd.out.book HSd.out.made.ink.book hu)
          refine hK _ _ hSe ?_
          clear hK K hb hu HSd HOd hSd
          iterate 8 (refine wpOrd_held (fun K hK => ?_); go_simp; first | (apply Exists.intro; refine ⟨fun W hW => ?_, hK _ ?_⟩; (go_simp; first | done | exact rfl); clear hK K) | (refine hK _ ?_; clear hK K))
          clear f2 f3
          refine wpOrd_step (fun K hK => ?_) hSe
          go_simp
          have HG := tree_Leaves HSe.out.made.tree
          rw [List.length_map, ← HN.out.1] at HG
          refine HG.mono ?_
          clear HG
          rintro e W ⟨rfl, rfl⟩
          refine hK _ _ hSe ?_
          clear hK K
          refine wpOrd_step (fun K hK => ?_) hSe
          go_simp
          have HG := proof_Check (R := R.take 100) HSe.out.made.ink.book rt n j (by have := HN.out; omega) HJ.out c1 ((HZ.out.2.1 we HSe.out.made.ink.upd).2.take 100) (by have := HZ.out; omega) (P := lx) c7 (by rw [HO.out.2.1]; exact HO.out.2.2.1) (fun W hW => (HOe.out.book HSe.out.made.ink.book hW).proof) (by have := HO.out.2.1; have := HO.out.2.2.2.1; omega) _ rfl
          rw [if_neg HO.out.2.2.2.2, HZ.out.1, HO.out.2.1] at HG
          refine HG.mono ?_
          clear HG
          rintro e wf ⟨rfl, hb, hu⟩
          have hSf := hSe.trans hu
          have HF := Lib.hid (HSe.out.to hb noted_more hu).made.ink.upd
          refine hK _ _ hSf ?_
          clear hK K hb hu HSe HOe hSe
          iterate 3 (refine wpOrd_held (fun K hK => ?_); go_simp; first | (apply Exists.intro; refine ⟨fun W hW => ?_, hK _ ?_⟩; (go_simp; first | done | exact rfl); clear hK K) | (refine hK _ ?_; clear hK K))
          refine wpOrd_nil ?_
          clear hSf HS HO
          go_wp2
          go_ret
          exact ⟨rfl, HF.out⟩
set_option maxRecDepth 100000 in
theorem ProofShape_lifted (os : Os) (started : os.Started) (H : Type) (enc : TypeId × Value → H) :
    ReturnsInHanded {} Try.checked os 8 .any (Rows.proofShapeSpec.pre6 enc Try.prog Try.f8 Rows.proofShapeRow.domain false) (Rows.proofShapeSpec.post enc Try.prog Try.f8 false true false false) := by
  refine law_lifted os started Try.func8 (by kernel_rfl) rfl rfl (by kernel_rfl) ?_
    (ChangeSpec.witness6 (enc := enc) (C := Try.checked) false ⟨#[], #[.slice none 0 0, .int .i64 0, .int .i64 0], []⟩ 8 (by kernel_rfl) (by kernel_rfl) (by kernel_rfl) (by kernel_rfl)) ?_
  · intro ds h
    rw [Try.params8] at h
    match ds, h with
    | [d0, d1, d2], _ => rfl
  · intro W base args ds ps hval hA hsz
    rw [Try.params8] at hA hval hsz
    obtain ⟨v0, vs0, d0, ds0, p0, q0, hargs, rfl, rfl, h0, r_0⟩ := trodAll_cons hA
    obtain ⟨v1, vs1, d1, ds1, p1, q1, rfl, rfl, rfl, h1, r_1⟩ := trodAll_cons r_0
    obtain ⟨v2, vs2, d2, ds2, p2, q2, rfl, rfl, rfl, h2, r_2⟩ := trodAll_cons r_1
    obtain ⟨rfl, rfl, rfl⟩ := trodAll_nil r_2
    obtain rfl : args = #[v0, v1, v2] := by cases args; simp_all
    obtain ⟨A0, n0, c0, rfl⟩ := okWide_slice Try.underlying52 (hval 0 52 v0 rfl rfl)
    have r0 := ReadsAs.of_trod hsz (j := 0) rfl rfl h0
    obtain ⟨a1, rfl, rfl, rfl, w1⟩ := open_int Try.underlying3 (hval 1 3 v1 rfl rfl) h1
    obtain ⟨a2, rfl, rfl, rfl, w2⟩ := open_int Try.underlying3 (hval 2 3 v2 rfl rfl) h2
    obtain ⟨A, c, l, hcs, hl, _, hmx⟩ := open_leaves r0
    simp only [Value.cells, List.cons.injEq, Value.slice.injEq, and_true] at hcs
    obtain ⟨rfl, rfl, rfl⟩ := hcs
    exact ProofShape_walk _ _ l a1 a2 W hl hmx w1 w2

theorem ProofShape_holds : Rows.ProofShapeSaid :=
  OpenClaim.holds_of_wide 8 Try.f8 rfl rfl rfl rfl rfl rfl rfl ⟨rfl, rfl, rfl, rfl, rfl⟩ rfl rfl rfl rfl rfl (by kernel_rfl) Try.func8 (by kernel_rfl)
    (of_decide_eq_true (by kernel_rfl)) (by unfold Func.isWrapper; first | (rw [if_pos (by decide +kernel)]; kernel_rfl) | (rw [if_neg (by decide +kernel)]; exact ⟨rfl, rfl⟩))
    (fun os started H enc _ => ProofShape_lifted os started H enc)
end Go.Proofs.Ytnncpjekcljfbaa
