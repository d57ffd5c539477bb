/- What does not fit changes nothing: the statement FetchOthers holds, of all leaves, digests and bytes. -/
import Derived.Test.YtnncpjekcljfbaaSetQ
import Derived.Test.YtnncpjekcljfbaaSetF
namespace Go.Proofs.Ytnncpjekcljfbaa
open Go.ChangeShapes Go.WideShapes Go.ChangeAt Go.RowKit

attribute [local irreducible] wpOrd
set_option maxHeartbeats 4000000 in
set_option maxRecDepth 20000 in
theorem FetchOthers_walk (A : Option Addr) (c : Nat) (l : List (SlC × Bytes)) (AD AB : Option Addr) (cD cB : Nat) (D : List Dig) (R : Bytes) (w : World) (hl : LeavesAt w A l) (hlm : l.length ≤ 140737488351232) (hD : Digs w AD D) (hR : Byt w AB R) (hRl : R.length ≤ 140737488351232) :
    Calls Try.prog 14 #[.slice A l.length c, .slice AD D.length cD, .slice AB R.length cB] w fun e w' => e = .returned (.bool true) ∧ Kept w w' := by
  have HDR := Lib.hid (And.intro hD (And.intro hR hRl))
  clear hD hR hRl
  obtain ⟨nd, hnd⟩ : ∃ nd, nd = D.length := ⟨_, rfl⟩
  obtain ⟨nr, hnr⟩ : ∃ nr, nr = R.length := ⟨_, rfl⟩
  rw [← hnd, ← hnr]
  have HDN := Lib.hid (And.intro hnd hnr)
  clear hnd hnr
  -- FetchOthers the law; here: hl : LeavesAt w A l, hlm : l.length ≤ ..; behind it: the tree is made; HM : Mad w w3 .. (.slice A2 n c2) lv, HLV : secs lv = cutB (secs l), n = lv.length; two goals: no leaves, some
  have hnot : ∀ (x : Bool) (w : World), (Op.unary .not (.bool x)).run Try.prog w = .ok (.bool (!x)) w := fun _ _ => rfl
  obtain ⟨nl, hnl⟩ : ∃ nl, nl = l.length := ⟨_, rfl⟩
  have HX := Lib.hid (And.intro hl (And.intro hlm hnl))
  rw [← hnl]
  clear hl hlm hnl
  go_enter Try.func14, Try.ntmps14
  go_wp2_with fail
  refine (law21_works _).mono ?_
  rintro e w1 ⟨rfl, hu1⟩
  have HG := law21_cut c (HX.out.1.kept hu1) HX.out.2.1
  rw [← HX.out.2.2] at HG
  have HU1 := Lib.hid hu1
  clear hu1
  go_wp2_with fail
  refine HG.mono ?_
  clear HG
  rintro e w2 ⟨v2, lv, rfl, hlv, hsl, hu2⟩
  obtain ⟨A2, c2, rfl⟩ := OwnRows.form hlv.1
  have hln : lv.length = min 60 nl := by
    have h1 := congrArg List.length hsl
    rw [cutB_length, List.length_map, List.length_map, ← HX.out.2.2] at h1
    exact h1
  rw [List.length_map] at hlv ⊢
  have HLV := Lib.hid (And.intro hlv (And.intro hsl hln))
  have HU2 := Lib.hid (show Kept w w2 from HU1.out.then hu2 (fun _ _ h => h))
  have hnm : lv.length ≤ 60 := by omega
  obtain ⟨n, hn⟩ : ∃ n, n = lv.length := ⟨_, rfl⟩
  rw [← hn]
  have HN := Lib.hid (And.intro hn (show n ≤ 60 ∧ (n = 0 → nl = 0) ∧ (1 ≤ n → nl ≠ 0) by omega))
  clear hlv hsl hln hu2 hn hnm
  go_wp2_with fail
  refine (law_book _).mono ?_
  rintro e w3 ⟨b, r, q, rfl, hI⟩
  have HI := Lib.hid hI
  clear hI
  go_wp2_with fail
  rcases Nat.eq_zero_or_pos n with h0 | h0
  · skip
    subst h0
    have hnl0 : nl = 0 := HN.out.2.2.1 (by simp)
    subst hnl0
    have HG := law21_made_none (w := w3) (p := some ⟨b, 0, none⟩) (A := A2) c2
    refine HG.mono ?_
    clear HG
    rintro e w4 ⟨rfl, hu⟩
    have HF := Lib.hid (show Kept w w4 from HU2.out.then (HI.out.upd.then hu (fun _ _ h => h)) (fun _ _ h => h))
    clear hu HI
    go_wp2
    go_ret
    exact ⟨rfl, HF.out⟩
  · skip
    have HG := law21_made (w0 := w) (l := lv) (A := A2) (HI.out.back HU2.out) c2 (((HLV.out.1.kept HI.out.upd)).low (HU1.out.size)) (by rw [← HN.out.1]; exact h0) (by rw [← HN.out.1]; exact HN.out.2.1) (by rw [HLV.out.2.1]; exact fun R hR => by have := cutB_len R hR; omega)
    rw [← HN.out.1] at HG
    have HN1 := Lib.hid h0
    refine HG.mono ?_
    clear HG
    rintro e w4 ⟨t, rfl, lo, hi, L, hM, -, -⟩
    have HM := Lib.hid hM
    clear hM HI h0
    go_wp2_with fail
    have HG := tree_Root HM.out.tree
    obtain ⟨rt, hrt⟩ : ∃ rt, rt = rootM shaM ((secs lv).map (leafM shaM)) := ⟨_, rfl⟩
    rw [← hrt] at HG
    have hrt2 : rt = digL (secs lv) (depthM n - 1) 0 := by
      have h1 := digL_root (ls := secs lv) (by rw [List.length_map, ← HN.out.1]; exact HN1.out)
      rw [List.length_map, ← HN.out.1] at h1
      rw [hrt, h1]
    have HRT := Lib.hid hrt2
    clear hrt hrt2
    refine HG.mono ?_
    clear HG
    rintro e w5 ⟨rfl, hu5⟩
    have hd6 : Blk (w5.alloc (.cells (dA rt) 46)) w5.heap.size 46 (encB (rt).1) := Blk.new w5 _ _
    have hk6 : Kept w5 (w5.alloc (.cells (dA rt) 46)) := (Upd.refl _ w5).alloc _
    have H6 := Lib.hid (And.intro ((HM.out.kept hu5).kept hk6) hd6)
    clear HM hu5 hk6 hd6
    -- Begin without what there is already
    obtain ⟨p1, p2⟩ := dig_at H6.out.2
    have HG := fetch_Begin0 (A := none) H6.out.1.ink.book rt n HN1.out (by have := HN.out.2.1; omega) 0
    go_wp2_with fail
    refine HG.mono ?_
    clear HG
    rintro e w7 ⟨f, rfl, ⟨B, m1, m2, gs, cs, hv, ov, hB, hF⟩, ⟨L7, hb7, hs7⟩, hu7⟩
    have H7 := Lib.hid (show FW w w7 b r q lo hi t L7 (.slice A2 n c2) lv B f m1 m2 rt none (begS n none rt) gs cs hv ov from ⟨H6.out.1.to hb7 hs7 hu7, by rw [← HN.out.1]; exact hF, Nat.le_trans H6.out.1.ink.upd.size hB⟩)
    have hn1 : (secs lv).length = n := by rw [List.length_map, ← HN.out.1]
    have HLL := Lib.hid hn1
    have hr7 : Real (secs lv) (begS n none rt) := by
      have h1 := real_beg (OldOk.none (secs lv)) (by rw [hn1]; exact HN1.out)
      rw [hn1, ← HRT.out] at h1
      exact h1
    have H8 := Lib.hid (And.intro (good_beg (O := none) HN1.out rt) (And.intro hr7 (openC_le HN1.out (begS n none rt))))
    clear hb7 hs7 hu7 hF hB H6 p1 p2 hn1 hr7
    go_wp2_with fail
    go_loopw [14] (fun u1 wr => ∃ (k : Nat) (L' : List Bytes) (s : KM × BM), k ≤ 200 ∧ u1 = .int .i64 k ∧ FW w wr b r q lo hi t L' (.slice A2 n c2) lv B f m1 m2 rt none s gs cs hv ov ∧ Good n s ∧ (NoCl L' → Real (secs lv) s) ∧ openC n s + k ≤ 2 * n) (fun u1 _ => 2000 - (intOf u1).toNat)
    case atStart => exact ⟨0, L7, _, by omega, rfl, H7.out, H8.out.1, fun _ => H8.out.2.1, H8.out.2.2⟩
    case round =>
      clear H7 H8
      obtain ⟨k, L', s, hk, rfl, hF, hG, hR, hO⟩ := hrel
      have hk2 : k ≤ 120 := by have := HN.out.2.1; omega
      have hk1 : (k : Int) < 200 := by omega
      have HF := Lib.hid (And.intro hF (And.intro hG (And.intro hR hO)))
      have HK := Lib.hid (show k < 200 by omega)
      have HA := fetch_Ask hF.fet
      rw [← HN.out.1] at HA
      clear hF hG hR hO hk hk2
      cases ha : askM n s with
      | none =>
        rw [ha] at HA
        unfold askV at HA
        have HE := Lib.hid HF.out.1.mad.ink.upd
        clear ha HF
        go_wp2_with fail
        refine HA.mono ?_
        clear HA
        rintro e w8 ⟨rfl, hu⟩
        have HZ := Lib.hid (HE.out.then hu (fun _ _ h => h))
        clear hu HE
        go_wp2
        go_ret
        exact ⟨rfl, HZ.out⟩
      | some x =>
        obtain ⟨l0, p0⟩ := x
        rw [ha] at HA
        unfold askV at HA
        have HAK := Lib.hid ha
        clear ha
        go_wp2_with fail
        refine HA.mono ?_
        clear HA
        rintro e w8 ⟨rfl, hu⟩
        have hF8 := HF.out.1.kept hu
        have hR8 : Byt w8 AB R := HDR.out.2.1.kept hF8.mad.ink.upd
        have HG := fw_Leaf hF8 (p0 : Int) cB hR8 HDR.out.2.2
        rw [← HN.out.1, ← HDN.out.2] at HG
        obtain ⟨z, hz⟩ : ∃ z, z = leafE n s (p0 : Int) R := ⟨_, rfl⟩
        rw [← hz] at HG
        have HZ := Lib.hid hz
        clear hu hF8 hR8 hz
        go_wp2_with fail
        refine HG.mono ?_
        clear HG
        rintro e wl ⟨rfl, ⟨Ll, hFl, hsl, hil⟩, -⟩
        have hrl : NoCl Ll → Real (secs lv) (leafS n s (p0 : Int) R) := fun hn => by
          have h1 := real_leaf (HF.out.2.2.1 (hn.less hsl)) hn hFl.mad.noted (pl := (p0 : Int)) (R := R) (by rw [HLL.out, ← HZ.out]; exact hil)
          rw [HLL.out] at h1
          exact h1
        have H1 := Lib.hid (And.intro hFl (And.intro (good_leaf HF.out.2.1 (p0 : Int) R) hrl))
        have HZO : Hid ((z = 0 → openC n (leafS n s (p0 : Int) R) + 1 ≤ openC n s) ∧ openC n (leafS n s (p0 : Int) R) ≤ openC n s) := ⟨fun e => leaf_open (HZ.out.symm.trans e), openC_mono (leaf_closed _ _)⟩
        clear hFl hsl hil hrl
        have hp5 : (p0 : Int) ≤ 2000 := by
          have h1 := askM_some HAK.out
          have h2 := HF.out.1.fet.sz l0
          rw [← HN.out.1] at h2
          omega
        cases l0 with
        | zero =>
          have hl0 : ((0 : Nat) : Int) = 0 := rfl
          by_cases hz0 : z = 0
          · subst hz0
            clear hp5
            go_wp2
            go_roundw
            case rel => exact ⟨k + 1, Ll, _, by have := HK.out; omega, by show _ = _; go_num, H1.out.1, H1.out.2.1, H1.out.2.2, by have h1 := HZO.out.1 (by simp); have h2 := HF.out.2.2.2; omega⟩
            case measure => have := HK.out; simp [intOf]; omega
          · have hzn : (z == 0) = false := by simpa using hz0
            have hzd : decide (z = 0) = false := decide_eq_false hz0
            have hse : leafS n s (p0 : Int) R = s := leafS_ne (by rw [← HZ.out]; exact hz0)
            rw [hse] at H1
            have HS := Lib.hid H1.out.1
            have HG0 := Lib.hid H1.out.2.1
            have HR0 := Lib.hid H1.out.2.2
            have HO0 := Lib.hid HF.out.2.2.2
            have HA0 := Lib.hid (show (askM n s).isSome = true by rw [HAK.out]; rfl)
            have HGA := law21_asks H1.out.1.fet 0 p0
            rw [← HN.out.1, HAK.out, decide_eq_true rfl] at HGA
            change Calls Try.prog _ #[_, .int .i64 0, _] _ _ at HGA
            clear H1 hz0 hse
            go_wp2_with fail
            refine HGA.mono ?_
            clear HGA
            rintro e wa ⟨rfl, hua⟩
            replace HS := Lib.hid (HS.out.kept hua)
            clear hua hzn hzd
            go_wp2_with fail
            -- here: HS : FW w ws .. Ls .. ss, HG0 : Good, HR0 : NoCl Ls → Real, HO0 : openC n ss + k ≤ 2 * n, HA0 : (askM n ss).isSome = true, HK : k < 200; the goal is at the call of answers in world ws
            have HG := law21_answers c2 (show FW w _ b r q lo hi t _ (.slice A2 lv.length c2) lv B f m1 m2 rt none _ gs cs hv ov by rw [← HN.out.1]; exact HS.out)
            rw [← HN.out.1, HA0.out] at HG
            have HT := Lib.hid (fun hn => ans_taken (HR0.out hn) HS.out.mad.len)
            refine HG.mono ?_
            clear HG
            rintro e w8a ⟨rfl, ⟨L9, hF9, hs9⟩, -⟩
            have hg9 := ans_good (O := none) (ls := secs lv) (by rw [HLL.out]; exact HG0.out)
            rw [HLL.out] at hg9
            have hr9 : NoCl L9 → Real (secs lv) (ansS none _ (secs lv)) := fun hn => ans_real (HR0.out (hn.less hs9)) (OldOk.none _)
            have ho9 := ans_open (O := none) (ls := secs lv) (by rw [HLL.out]; exact HG0.out) (by rw [HLL.out]; exact HA0.out)
            rw [HLL.out] at ho9
            have H9 := Lib.hid (And.intro hF9 (And.intro hg9 (And.intro hr9 (And.intro ho9 hs9))))
            clear hF9 hg9 hr9 ho9 hs9
            cases ht : ansT _ (secs lv) with
            | true =>
              have HQ := Lib.hid ht
              clear ht
              go_wp2
              go_roundw
              case rel => exact ⟨k + 1, L9, _, by have := HK.out; omega, by show _ = _; go_num, H9.out.1, H9.out.2.1, H9.out.2.2.1, by have h1 := H9.out.2.2.2.1 HQ.out; have h2 := HO0.out; omega⟩
              case measure => have := HK.out; simp [intOf]; omega
            | false =>
              have HQ := Lib.hid ht
              clear ht
              go_wp2_with fail
              refine H9.out.1.clash.mono ?_
              rintro e w9 ⟨cb, rfl, hcb, hu9⟩
              have hct : cb = true := by
                cases cb with
                | true => rfl
                | false => exact absurd (HT.out ((hcb rfl).less H9.out.2.2.2.2)) (by rw [HQ.out]; decide)
              subst hct
              have HE := Lib.hid (H9.out.1.mad.ink.upd.then hu9 (fun _ _ h => h))
              clear hcb hu9
              go_wp2
              go_ret
              exact ⟨rfl, HE.out⟩
        | succ l1 =>
          obtain ⟨l2, hl2⟩ : ∃ l2, l2 = l1 + 1 := ⟨_, rfl⟩
          rw [← hl2] at HAK ⊢
          have hl3 : (0 : Int) < (l2 : Int) := by omega
          have hl4 : decide (0 < l2) = true := decide_eq_true (by omega)
          have HL2 := Lib.hid hl2
          have hD1 : Digs wl AD D := HDR.out.1.kept H1.out.1.mad.ink.upd
          have HG := fw_Parts H1.out.1 (l2 : Int) (p0 : Int) cD hD1
          rw [← HN.out.1, ← HDN.out.1] at HG
          obtain ⟨y, hy⟩ : ∃ y, y = partsE n (leafS n s (p0 : Int) R) (l2 : Int) (p0 : Int) D := ⟨_, rfl⟩
          rw [← hy] at HG
          have HY := Lib.hid hy
          have hask : askM n (leafS n s (p0 : Int) R) = some (l2, p0) := by
            by_cases hz0 : z = 0
            · obtain ⟨p', -, -, -, -, -, e⟩ := leafE_zero (HZ.out.symm.trans hz0)
              rw [e, HL2.out]
              exact askM_inner (by rw [← HL2.out]; exact HAK.out) _
            · rw [leafS_ne (by rw [← HZ.out]; exact hz0)]; exact HAK.out
          have HAS := Lib.hid hask
          clear hl2 hD1 hy hask
          generalize hs1 : leafS n s (p0 : Int) R = s1 at *
          clear hs1
          go_wp2_with fail
          refine HG.mono ?_
          clear HG
          rintro e wp ⟨rfl, ⟨Lp, hFp, hsp, hip⟩, -⟩
          have hrp : NoCl Lp → Real (secs lv) (partsS n none s1 (l2 : Int) (p0 : Int) D) := fun hn => by
            have h1 := real_parts (O := none) (H1.out.2.2 (hn.less hsp)) (OldOk.none _) hn hFp.mad.noted (lv := (l2 : Int)) (pl := (p0 : Int)) (D := D) (by rw [HLL.out, ← HY.out]; exact hip)
            rw [HLL.out] at h1
            exact h1
          have H2 := Lib.hid (And.intro hFp (And.intro (good_parts (O := none) H1.out.2.1 (l2 : Int) (p0 : Int) D) hrp))
          have HYO : Hid (y = 0 → openC n (partsS n none s1 (l2 : Int) (p0 : Int) D) + 1 ≤ openC n s1) := fun e => parts_open H1.out.2.1 (HY.out.symm.trans e)
          clear hFp hsp hip hrp
          by_cases hy0 : y = 0
          · subst hy0
            go_wp2
            go_roundw
            case rel => exact ⟨k + 1, Lp, _, by have := HK.out; omega, by show _ = _; go_num, H2.out.1, H2.out.2.1, H2.out.2.2, by have h1 := HYO.out (by simp); have h2 := HF.out.2.2.2; have h3 := HZO.out.2; omega⟩
            case measure => have := HK.out; simp [intOf]; omega
          · have hyn : (y == 0) = false := by simpa using hy0
            have hyd : decide (y = 0) = false := decide_eq_false hy0
            have hse : partsS n none s1 (l2 : Int) (p0 : Int) D = s1 := partsS_ne (by rw [← HY.out]; exact hy0)
            rw [hse] at H2
            have HS := Lib.hid H2.out.1
            have HG0 := Lib.hid H2.out.2.1
            have HR0 := Lib.hid H2.out.2.2
            have HO0 := Lib.hid (show openC n s1 + k ≤ 2 * n by have h2 := HF.out.2.2.2; have h3 := HZO.out.2; omega)
            have HA0 := Lib.hid (show (askM n s1).isSome = true by rw [HAS.out]; rfl)
            have HGA := law21_asks H2.out.1.fet l2 p0
            rw [← HN.out.1, HAS.out, decide_eq_true rfl] at HGA
            clear H2 hy0 hse
            go_wp2_with fail
            refine HGA.mono ?_
            clear HGA
            rintro e wa ⟨rfl, hua⟩
            replace HS := Lib.hid (HS.out.kept hua)
            clear hua hyn hyd
            go_wp2_with fail
            -- here: HS : FW w ws .. Ls .. ss, HG0 : Good, HR0 : NoCl Ls → Real, HO0 : openC n ss + k ≤ 2 * n, HA0 : (askM n ss).isSome = true, HK : k < 200; the goal is at the call of answers in world ws
            have HG := law21_answers c2 (show FW w _ b r q lo hi t _ (.slice A2 lv.length c2) lv B f m1 m2 rt none _ gs cs hv ov by rw [← HN.out.1]; exact HS.out)
            rw [← HN.out.1, HA0.out] at HG
            have HT := Lib.hid (fun hn => ans_taken (HR0.out hn) HS.out.mad.len)
            refine HG.mono ?_
            clear HG
            rintro e w8a ⟨rfl, ⟨L9, hF9, hs9⟩, -⟩
            have hg9 := ans_good (O := none) (ls := secs lv) (by rw [HLL.out]; exact HG0.out)
            rw [HLL.out] at hg9
            have hr9 : NoCl L9 → Real (secs lv) (ansS none _ (secs lv)) := fun hn => ans_real (HR0.out (hn.less hs9)) (OldOk.none _)
            have ho9 := ans_open (O := none) (ls := secs lv) (by rw [HLL.out]; exact HG0.out) (by rw [HLL.out]; exact HA0.out)
            rw [HLL.out] at ho9
            have H9 := Lib.hid (And.intro hF9 (And.intro hg9 (And.intro hr9 (And.intro ho9 hs9))))
            clear hF9 hg9 hr9 ho9 hs9
            cases ht : ansT _ (secs lv) with
            | true =>
              have HQ := Lib.hid ht
              clear ht
              go_wp2
              go_roundw
              case rel => exact ⟨k + 1, L9, _, by have := HK.out; omega, by show _ = _; go_num, H9.out.1, H9.out.2.1, H9.out.2.2.1, by have h1 := H9.out.2.2.2.1 HQ.out; have h2 := HO0.out; omega⟩
              case measure => have := HK.out; simp [intOf]; omega
            | false =>
              have HQ := Lib.hid ht
              clear ht
              go_wp2_with fail
              refine H9.out.1.clash.mono ?_
              rintro e w9 ⟨cb, rfl, hcb, hu9⟩
              have hct : cb = true := by
                cases cb with
                | true => rfl
                | false => exact absurd (HT.out ((hcb rfl).less H9.out.2.2.2.2)) (by rw [HQ.out]; decide)
              subst hct
              have HE := Lib.hid (H9.out.1.mad.ink.upd.then hu9 (fun _ _ h => h))
              clear hcb hu9
              go_wp2
              go_ret
              exact ⟨rfl, HE.out⟩
set_option maxRecDepth 100000 in
theorem FetchOthers_lifted (os : Os) (started : os.Started) (H : Type) (enc : TypeId × Value → H) :
    ReturnsInHanded {} Try.checked os 14 .any (Rows.fetchOthersSpec.pre6 enc Try.prog Try.f14 Rows.fetchOthersRow.domain false) (Rows.fetchOthersSpec.post enc Try.prog Try.f14 false true false false) := by
  refine law_lifted os started Try.func14 (by kernel_rfl) rfl rfl (by kernel_rfl) ?_
    (ChangeSpec.witness6 (enc := enc) (C := Try.checked) false ⟨#[], #[.slice none 0 0, .slice none 0 0, .slice none 0 0], []⟩ 8 (by kernel_rfl) (by kernel_rfl) (by kernel_rfl) (by kernel_rfl)) ?_
  · intro ds h
    rw [Try.params14] at h
    match ds, h with
    | [d0, d1, d2], _ => rfl
  · intro W base args ds ps hval hA hsz
    rw [Try.params14] at hA hval hsz
    obtain ⟨v0, vs0, d0, ds0, p0, q0, hargs, rfl, rfl, h0, r_0⟩ := trodAll_cons hA
    obtain ⟨v1, vs1, d1, ds1, p1, q1, rfl, rfl, rfl, h1, r_1⟩ := trodAll_cons r_0
    obtain ⟨v2, vs2, d2, ds2, p2, q2, rfl, rfl, rfl, h2, r_2⟩ := trodAll_cons r_1
    obtain ⟨rfl, rfl, rfl⟩ := trodAll_nil r_2
    obtain rfl : args = #[v0, v1, v2] := by cases args; simp_all
    obtain ⟨A0, n0, c0, rfl⟩ := okWide_slice Try.underlying52 (hval 0 52 v0 rfl rfl)
    have r0 := ReadsAs.of_trod hsz (j := 0) rfl rfl h0
    obtain ⟨A1, n1, c1, rfl⟩ := okWide_slice Try.underlying41 (hval 1 41 v1 rfl rfl)
    have r1 := ReadsAs.of_trod hsz (j := 1) rfl rfl h1
    obtain ⟨A2, n2, c2, rfl⟩ := okWide_slice Try.underlying35 (hval 2 35 v2 rfl rfl)
    have r2 := ReadsAs.of_trod hsz (j := 2) rfl rfl h2
    obtain ⟨A, c, l, hcs, hl, _, hmx⟩ := open_leaves r0
    simp only [Value.cells, List.cons.injEq, Value.slice.injEq, and_true] at hcs
    obtain ⟨rfl, rfl, rfl⟩ := hcs
    obtain ⟨A1, c1, D, hcs1, hD, _⟩ := open_digs r1
    simp only [Value.cells, List.cons.injEq, Value.slice.injEq, and_true] at hcs1
    obtain ⟨rfl, rfl, rfl⟩ := hcs1
    obtain ⟨x, R, hcs2, hx, hxl⟩ := open_bytes r2
    obtain ⟨XA, xc, rfl, hxc, hxb⟩ := hx.form
    simp only [Value.cells, SlC.v, List.cons.injEq, Value.slice.injEq, and_true] at hcs2
    obtain ⟨rfl, rfl, rfl⟩ := hcs2
    exact FetchOthers_walk _ _ l _ _ _ _ D R W hl hmx hD hxb hxl

theorem FetchOthers_holds : Rows.FetchOthersSaid :=
  OpenClaim.holds_of_wide 14 Try.f14 rfl rfl rfl rfl rfl rfl rfl ⟨rfl, rfl, rfl, rfl, rfl⟩ rfl rfl rfl rfl rfl (by kernel_rfl) Try.func14 (by kernel_rfl)
    (of_decide_eq_true (by kernel_rfl)) (by unfold Func.isWrapper; first | (rw [if_pos (by decide +kernel)]; kernel_rfl) | (rw [if_neg (by decide +kernel)]; exact ⟨rfl, rfl⟩))
    (fun os started H enc _ => FetchOthers_lifted os started H enc)
end Go.Proofs.Ytnncpjekcljfbaa
