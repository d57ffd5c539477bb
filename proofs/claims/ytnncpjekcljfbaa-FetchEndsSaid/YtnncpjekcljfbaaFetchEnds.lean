/- If all that is asked is answered by who has the leaves, it ends: the statement FetchEnds holds, of all leaves. -/
import Derived.Test.YtnncpjekcljfbaaSetQ
import Derived.Test.YtnncpjekcljfbaaSetF
namespace Go.Proofs.Ytnncpjekcljfbaa
open Go.ChangeShapes Go.WideShapes Go.ChangeAt Go.RowKit

attribute [local irreducible] wpOrd
set_option maxHeartbeats 4000000 in
set_option maxRecDepth 20000 in
theorem FetchEnds_walk (A : Option Addr) (c : Nat) (l : List (SlC × Bytes)) (w : World) (hl : LeavesAt w A l) (hlm : l.length ≤ 140737488351232) :
    Calls Try.prog 15 #[.slice A l.length c] w fun e w' => e = .returned (.bool true) ∧ Kept w w' := by
  -- FetchEnds the law; here: hl : LeavesAt w A l, hlm : l.length ≤ ..; behind it: the tree is made; HM : Mad w w3 .. (.slice A2 n c2) lv, HLV : secs lv = cutB (secs l), n = lv.length; two goals: no leaves, some
  have hnot : ∀ (x : Bool) (w : World), (Op.unary .not (.bool x)).run Try.prog w = .ok (.bool (!x)) w := fun _ _ => rfl
  obtain ⟨nl, hnl⟩ : ∃ nl, nl = l.length := ⟨_, rfl⟩
  have HX := Lib.hid (And.intro hl (And.intro hlm hnl))
  rw [← hnl]
  clear hl hlm hnl
  go_enter Try.func15, Try.ntmps15
  go_wp2_with fail
  refine (law21_works _).mono ?_
  rintro e w1 ⟨rfl, hu1⟩
  have HG := law21_cut c (HX.out.1.kept hu1) HX.out.2.1
  rw [← HX.out.2.2] at HG
  have HU1 := Lib.hid hu1
  clear hu1
  go_wp2_with fail
  refine HG.mono ?_
  clear HG
  rintro e w2 ⟨v2, lv, rfl, hlv, hsl, hu2⟩
  obtain ⟨A2, c2, rfl⟩ := OwnRows.form hlv.1
  have hln : lv.length = min 60 nl := by
    have h1 := congrArg List.length hsl
    rw [cutB_length, List.length_map, List.length_map, ← HX.out.2.2] at h1
    exact h1
  rw [List.length_map] at hlv ⊢
  have HLV := Lib.hid (And.intro hlv (And.intro hsl hln))
  have HU2 := Lib.hid (show Kept w w2 from HU1.out.then hu2 (fun _ _ h => h))
  have hnm : lv.length ≤ 60 := by omega
  obtain ⟨n, hn⟩ : ∃ n, n = lv.length := ⟨_, rfl⟩
  rw [← hn]
  have HN := Lib.hid (And.intro hn (show n ≤ 60 ∧ (n = 0 → nl = 0) ∧ (1 ≤ n → nl ≠ 0) by omega))
  clear hlv hsl hln hu2 hn hnm
  go_wp2_with fail
  refine (law_book _).mono ?_
  rintro e w3 ⟨b, r, q, rfl, hI⟩
  have HI := Lib.hid hI
  clear hI
  go_wp2_with fail
  rcases Nat.eq_zero_or_pos n with h0 | h0
  · skip
    subst h0
    have hnl0 : nl = 0 := HN.out.2.2.1 (by simp)
    subst hnl0
    have HG := law21_made_none (w := w3) (p := some ⟨b, 0, none⟩) (A := A2) c2
    refine HG.mono ?_
    clear HG
    rintro e w4 ⟨rfl, hu⟩
    have HF := Lib.hid (show Kept w w4 from HU2.out.then (HI.out.upd.then hu (fun _ _ h => h)) (fun _ _ h => h))
    clear hu HI
    go_wp2
    go_ret
    exact ⟨rfl, HF.out⟩
  · skip
    have HG := law21_made (w0 := w) (l := lv) (A := A2) (HI.out.back HU2.out) c2 (((HLV.out.1.kept HI.out.upd)).low (HU1.out.size)) (by rw [← HN.out.1]; exact h0) (by rw [← HN.out.1]; exact HN.out.2.1) (by rw [HLV.out.2.1]; exact fun R hR => by have := cutB_len R hR; omega)
    rw [← HN.out.1] at HG
    have HN1 := Lib.hid h0
    refine HG.mono ?_
    clear HG
    rintro e w4 ⟨t, rfl, lo, hi, L, hM, -, -⟩
    have HM := Lib.hid hM
    clear hM HI h0
    go_wp2_with fail
    have HG := tree_Root HM.out.tree
    obtain ⟨rt, hrt⟩ : ∃ rt, rt = rootM shaM ((secs lv).map (leafM shaM)) := ⟨_, rfl⟩
    rw [← hrt] at HG
    have hrt2 : rt = digL (secs lv) (depthM n - 1) 0 := by
      have h1 := digL_root (ls := secs lv) (by rw [List.length_map, ← HN.out.1]; exact HN1.out)
      rw [List.length_map, ← HN.out.1] at h1
      rw [hrt, h1]
    have HRT := Lib.hid hrt2
    clear hrt hrt2
    refine HG.mono ?_
    clear HG
    rintro e w5 ⟨rfl, hu5⟩
    have hd6 : Blk (w5.alloc (.cells (dA rt) 46)) w5.heap.size 46 (encB (rt).1) := Blk.new w5 _ _
    have hk6 : Kept w5 (w5.alloc (.cells (dA rt) 46)) := (Upd.refl _ w5).alloc _
    have H6 := Lib.hid (And.intro ((HM.out.kept hu5).kept hk6) hd6)
    clear HM hu5 hk6 hd6
    -- Begin without what there is already
    obtain ⟨p1, p2⟩ := dig_at H6.out.2
    have HG := fetch_Begin0 (A := none) H6.out.1.ink.book rt n HN1.out (by have := HN.out.2.1; omega) 0
    go_wp2_with fail
    refine HG.mono ?_
    clear HG
    rintro e w7 ⟨f, rfl, ⟨B, m1, m2, gs, cs, hv, ov, hB, hF⟩, ⟨L7, hb7, hs7⟩, hu7⟩
    have H7 := Lib.hid (show FW w w7 b r q lo hi t L7 (.slice A2 n c2) lv B f m1 m2 rt none (begS n none rt) gs cs hv ov from ⟨H6.out.1.to hb7 hs7 hu7, by rw [← HN.out.1]; exact hF, Nat.le_trans H6.out.1.ink.upd.size hB⟩)
    have hn1 : (secs lv).length = n := by rw [List.length_map, ← HN.out.1]
    have HLL := Lib.hid hn1
    have hr7 : Real (secs lv) (begS n none rt) := by
      have h1 := real_beg (OldOk.none (secs lv)) (by rw [hn1]; exact HN1.out)
      rw [hn1, ← HRT.out] at h1
      exact h1
    have hd7 : Blk w7 w5.heap.size 46 (encB rt.1) := H6.out.2.upd hu7 (H6.out.1.ink.book.not H6.out.2 (by decide))
    have H8 := Lib.hid (And.intro (good_beg (O := none) HN1.out rt) (And.intro hr7 (open_beg HN1.out rt)))
    have HTT := Lib.hid (totL_le HN1.out)
    clear hb7 hs7 hu7 hF hB H6 p1 p2 hn1 hr7
    have f1 : ∀ W, Kept w7 W → segB W ⟨w5.heap.size, 0, none⟩ 32 = true := fun W hW => (dig_at (hd7.kept hW)).1
    have f2 : ∀ W, Kept w7 W → segV W ⟨w5.heap.size, 0, none⟩ 32 = dA rt := fun W hW => (dig_at (hd7.kept hW)).2
    clear hd7
    have hdr : decide (rt = rt) = true := decide_eq_true rfl
    go_wp2_with fail
    refine wp_region_ord [(0, true), (1, true), (2, true), (3, true), (4, true), (5, true), (6, true), (7, true), (9, true), (8, false), (10, true), (11, true)] (by kernel_rfl) (by kernel_rfl) (Kept w7) (Upd.refl _ _).drew ?_
    simp only [ordOps, List.getD_cons_zero, List.getD_cons_succ]
    iterate 9 (refine wpOrd_held (fun K hK => ?_); go_simp; first | (apply Exists.intro; refine ⟨fun W hW => ?_, hK _ ?_⟩; (go_simp; first | done | exact rfl); clear hK K) | (refine hK _ ?_; clear hK K))
    have hkd : Kept w7 w7.drew := (Upd.refl _ _).drew
    have HG := fetch_Root (H7.out.kept hkd).fet
    have H7d := Lib.hid (H7.out.kept hkd)
    clear f1 f2 H7
    generalize w7.drew = wd at *
    refine wpOrd_step (fun K hK => ?_) hkd
    go_simp
    refine HG.mono ?_
    clear HG
    rintro e w8 ⟨rfl, hu8⟩
    have hS8 := hkd.then hu8 (fun _ _ h => h)
    have H9 := Lib.hid (H7d.out.kept hu8)
    refine hK _ _ hS8 ?_
    clear hK K hu8 hkd H7d
    iterate 2 (refine wpOrd_held (fun K hK => ?_); go_simp; first | (apply Exists.intro; refine ⟨fun W hW => ?_, hK _ ?_⟩; (go_simp; first | done | exact rfl); clear hK K) | (refine hK _ ?_; clear hK K))
    refine wpOrd_nil ?_
    clear hS8 hdr
    have hdp2 : depthM n ≤ 1025 := depthM_small (by have := HN.out.2.1; omega)
    obtain ⟨dp, hdp⟩ : ∃ dp, dp = depthM n := ⟨_, rfl⟩
    have HDP := Lib.hid (And.intro hdp (show dp ≤ 1025 by rw [hdp]; exact hdp2))
    clear hdp hdp2
    go_wp2_with fail
    go_loopw [11, 10] (fun u1 u2 wr => ∃ k : Nat, k ≤ dp ∧ u1 = .int .i64 (k : Int) ∧ u2 = .int .i64 (totL n k : Int) ∧ FW w wr b r q lo hi t L7 (.slice A2 n c2) lv B f m1 m2 rt none (begS n none rt) gs cs hv ov) (fun u1 _ _ => 2000 - (intOf u1).toNat)
    case atStart => exact ⟨0, Nat.zero_le _, rfl, rfl, H9.out⟩
    case round =>
      clear H9
      obtain ⟨k, hk, rfl, rfl, hF⟩ := hrel
      have HG := tree_Depth hF.mad.tree
      rw [List.length_map, HLL.out, ← HDP.out.1] at HG
      have hdl : ((secs lv).map (leafM shaM)).length = n := by rw [List.length_map, HLL.out]
      rcases Nat.lt_or_ge k dp with hlt | hge
      · have hk1 : (k : Int) < (dp : Int) := by omega
        have hk5 : (k : Int) ≤ 1025 := by have := HDP.out.2; omega
        have ht5 : totL n (k + 1) ≤ 120 := by
          have h1 := totL_mono n (show k + 1 ≤ depthM n by rw [← HDP.out.1]; omega)
          have h2 := HTT.out
          have h3 := HN.out.2.1
          omega
        rw [totL_succ] at ht5
        obtain ⟨x, e1, -, e2⟩ := lev_get (D := (secs lv).map (leafM shaM)) (l := k) (by rw [hdl, ← HDP.out.1]; exact hlt)
        rw [hdl] at e2
        have hx : x.length ≤ 1024 := by rw [e2]; omega
        have HLv := tree_Level hF.mad.tree k e1 hx
        have HF := Lib.hid hF
        have HK := Lib.hid hlt
        clear hF hlt hk hdl e1
        go_wp2_with fail
        refine HG.mono ?_
        clear HG
        rintro e W ⟨rfl, rfl⟩
        go_wp2_with fail
        refine HLv.mono ?_
        clear HLv
        rintro e w10 ⟨v10, rfl, ho10, hu10⟩
        obtain ⟨A10, c10, rfl⟩ := OwnRows.form ho10
        rw [e2]
        have HF2 := Lib.hid (HF.out.kept hu10)
        obtain ⟨tl, htl⟩ : ∃ tl, tl = totL n k := ⟨_, rfl⟩
        have hts : totL n (k + 1) = tl + sizeL n k := by rw [totL_succ, htl]
        rw [← htl] at ht5 ⊢
        have HTS := Lib.hid hts
        obtain ⟨sz, hsz⟩ : ∃ sz, sz = sizeL n k := ⟨_, rfl⟩
        rw [← hsz] at ht5 HTS ⊢
        have ht6 : (tl : Int) + (sz : Int) ≤ 120 := by omega
        clear ho10 hu10 HF hts htl hsz e2 hx ht5
        go_wp2
        go_roundw
        case rel => exact ⟨k + 1, by have := HK.out; omega, by show _ = _; go_num, by show _ = _; rw [HTS.out]; go_num, HF2.out⟩
        case measure => have := HK.out; have := HDP.out.2; simp [intOf]; omega
      · obtain rfl : k = dp := by omega
        have hk1 : ¬ (k : Int) < (k : Int) := by omega
        have HF := Lib.hid hF
        clear hge hk hF hdl
        go_wp2_with fail
        refine HG.mono ?_
        clear HG
        rintro e W ⟨rfl, rfl⟩
        obtain ⟨mo, hmo⟩ : ∃ mo, mo = totL n k := ⟨_, rfl⟩
        rw [← hmo]
        have HMO := Lib.hid (And.intro hmo (show mo ≤ 120 by rw [hmo, HDP.out.1]; have := HTT.out; have := HN.out.2.1; omega))
        clear hmo
        obtain ⟨wo, rfl⟩ : ∃ wo : World, wo = wr := ⟨_, rfl⟩
        go_wp2_with fail
        go_loopw [14] (fun u1 wr => ∃ (i : Nat) (L' : List Bytes) (s : KM × BM), i ≤ mo ∧ u1 = .int .i64 (i : Int) ∧ FW w wr b r q lo hi t L' (.slice A2 n c2) lv B f m1 m2 rt none s gs cs hv ov ∧ Good n s ∧ Real (secs lv) s ∧ openC n s + i = mo) (fun u1 _ => 2000 - (intOf u1).toNat)
        case atStart => exact ⟨0, L7, _, Nat.zero_le _, rfl, HF.out, H8.out.1, H8.out.2.1, by rw [H8.out.2.2, HMO.out.1, HDP.out.1, Nat.add_zero]⟩
        case round =>
          clear HF H8
          obtain ⟨i, L', s, hi', rfl, hF, hG, hR, hO⟩ := hrel
          have hi5 : (i : Int) ≤ 120 := by have := HMO.out.2; omega
          rcases Nat.lt_or_ge i mo with hlt | hge
          · have hi1 : (i : Int) < (mo : Int) := by omega
            have hask := ask_of_open hG HN1.out (by omega)
            obtain ⟨x, hx⟩ := Option.isSome_iff_exists.1 hask
            have HD := fetch_Done_no hF.fet (by rw [← HN.out.1]; exact hx)
            have HF := Lib.hid (And.intro hF (And.intro hG (And.intro hR (And.intro hO (And.intro hask hlt)))))
            clear hF hG hR hO hask hx hlt hi'
            go_wp2_with fail
            refine HD.mono ?_
            clear HD
            rintro e w11 ⟨rfl, hu11⟩
            have hF11 := HF.out.1.kept hu11
            have hta := ans_taken HF.out.2.2.1 hF11.mad.len
            have HG := law21_answers c2 (show FW w _ b r q lo hi t _ (.slice A2 lv.length c2) lv B f m1 m2 rt none _ gs cs hv ov by rw [← HN.out.1]; exact hF11)
            rw [← HN.out.1, HF.out.2.2.2.2.1, hta] at HG
            have HTA := Lib.hid hta
            clear hu11 hF11 hta
            go_wp2_with fail
            refine HG.mono ?_
            clear HG
            rintro e w12 ⟨rfl, ⟨L12, hF12, -⟩, -⟩
            have hg := ans_good (O := none) (ls := secs lv) (by rw [HLL.out]; exact HF.out.2.1)
            have ho := ans_exact (ls := secs lv) (by rw [HLL.out]; exact HF.out.2.1) (by rw [HLL.out]; exact HF.out.2.2.2.2.1) HTA.out
            rw [HLL.out] at hg ho
            have H12 := Lib.hid (And.intro hF12 (And.intro hg (And.intro (ans_real HF.out.2.2.1 (OldOk.none _)) ho)))
            clear hF12 hg ho
            go_wp2
            go_roundw
            case rel => exact ⟨i + 1, L12, _, by have := HF.out.2.2.2.2.2; omega, by show _ = _; go_num, H12.out.1, H12.out.2.1, H12.out.2.2.1, by have h1 := H12.out.2.2.2; have h2 := HF.out.2.2.2.1; omega⟩
            case measure => have := HF.out.2.2.2.2.2; have := HMO.out.2; simp [intOf]; omega
          · obtain rfl : i = mo := by omega
            have hi1 : ¬ (i : Int) < (i : Int) := by omega
            have hask := open_zero (n := n) (s := s) (by omega)
            have HD := fetch_Done hF.fet (by rw [← HN.out.1]; exact hask)
            have HF := Lib.hid hF.mad.ink.upd
            clear hF hG hR hO hask hi' hge
            go_wp2_with fail
            refine HD.mono ?_
            clear HD
            rintro e w11 ⟨v11, l11, rfl, -, -, hu11⟩
            have HE := Lib.hid (HF.out.then hu11 (fun _ _ h => h))
            clear hu11 HF
            go_wp2
            go_ret
            exact ⟨rfl, HE.out⟩
set_option maxRecDepth 100000 in
theorem FetchEnds_lifted (os : Os) (started : os.Started) (H : Type) (enc : TypeId × Value → H) :
    ReturnsInHanded {} Try.checked os 15 .any (Rows.fetchEndsSpec.pre6 enc Try.prog Try.f15 Rows.fetchEndsRow.domain false) (Rows.fetchEndsSpec.post enc Try.prog Try.f15 false true false false) := by
  refine law_lifted os started Try.func15 (by kernel_rfl) rfl rfl (by kernel_rfl) ?_
    (ChangeSpec.witness6 (enc := enc) (C := Try.checked) false ⟨#[], #[.slice none 0 0], []⟩ 8 (by kernel_rfl) (by kernel_rfl) (by kernel_rfl) (by kernel_rfl)) ?_
  · intro ds h
    rw [Try.params15] at h
    match ds, h with
    | [d0], _ => rfl
  · intro W base args ds ps hval hA hsz
    rw [Try.params15] at hA hval hsz
    obtain ⟨v0, vs0, d0, ds0, p0, q0, hargs, rfl, rfl, h0, r_0⟩ := trodAll_cons hA
    obtain ⟨rfl, rfl, rfl⟩ := trodAll_nil r_0
    obtain rfl : args = #[v0] := by cases args; simp_all
    obtain ⟨A0, n0, c0, rfl⟩ := okWide_slice Try.underlying52 (hval 0 52 v0 rfl rfl)
    have r0 := ReadsAs.of_trod hsz (j := 0) rfl rfl h0
    obtain ⟨A, c, l, hcs, hl, _, hmx⟩ := open_leaves r0
    simp only [Value.cells, List.cons.injEq, Value.slice.injEq, and_true] at hcs
    obtain ⟨rfl, rfl, rfl⟩ := hcs
    exact FetchEnds_walk _ _ l W hl hmx

theorem FetchEnds_holds : Rows.FetchEndsSaid :=
  OpenClaim.holds_of_wide 15 Try.f15 rfl rfl rfl rfl rfl rfl rfl ⟨rfl, rfl, rfl, rfl, rfl⟩ rfl rfl rfl rfl rfl (by kernel_rfl) Try.func15 (by kernel_rfl)
    (of_decide_eq_true (by kernel_rfl)) (by unfold Func.isWrapper; first | (rw [if_pos (by decide +kernel)]; kernel_rfl) | (rw [if_neg (by decide +kernel)]; exact ⟨rfl, rfl⟩))
    (fun os started H enc _ => FetchEnds_lifted os started H enc)
end Go.Proofs.Ytnncpjekcljfbaa
