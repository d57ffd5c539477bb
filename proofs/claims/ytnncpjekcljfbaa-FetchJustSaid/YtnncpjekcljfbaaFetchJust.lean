/- As long as the book tells of no clash, what is done are just the leaves whose root was told: the statement FetchJust holds, of all leaves, of what there is already and deeds. -/
import Derived.Test.YtnncpjekcljfbaaSetR
import Derived.Test.YtnncpjekcljfbaaSetF
namespace Go.Proofs.Ytnncpjekcljfbaa
open Go.ChangeShapes Go.WideShapes Go.ChangeAt Go.RowKit

attribute [local irreducible] wpOrd
set_option maxHeartbeats 4000000 in
set_option maxRecDepth 20000 in
theorem FetchJust_walk (A Ah Ad : Option Addr) (c ch cdd : Nat) (l lh : List (SlC × Bytes)) (dl : List DeedV) (w : World) (hl : LeavesAt w A l) (hlm : l.length ≤ 140737488351232) (hlh : LeavesAt w Ah lh) (hlhm : lh.length ≤ 140737488351232) (hdl : DeedsAt w Ad dl) :
    Calls Try.prog 17 #[.slice A l.length c, .slice Ah lh.length ch, .slice Ad dl.length cdd] w fun e w' => e = .returned (.bool true) ∧ Kept w w' := by
  obtain ⟨nd, hnd⟩ : ∃ nd, nd = dl.length := ⟨_, rfl⟩
  rw [← hnd]
  have HDL := Lib.hid (And.intro hdl hnd)
  clear hdl hnd
  have hnot : ∀ (x : Bool) (w : World), (Op.unary .not (.bool x)).run Try.prog w = .ok (.bool (!x)) w := fun _ _ => rfl
  obtain ⟨nl, hnl⟩ : ∃ nl, nl = l.length := ⟨_, rfl⟩
  obtain ⟨nh, hnh⟩ : ∃ nh, nh = lh.length := ⟨_, rfl⟩
  have HX := Lib.hid (And.intro hl (And.intro hlm hnl))
  have HXH := Lib.hid (And.intro hlh (And.intro hlhm hnh))
  rw [← hnl, ← hnh]
  clear hl hlm hnl hlh hlhm hnh
  go_enter Try.func17, Try.ntmps17
  go_wp2_with fail
  refine (law21_works _).mono ?_
  rintro e w1 ⟨rfl, hu1⟩
  have HG := law21_cut c (HX.out.1.kept hu1) HX.out.2.1
  rw [← HX.out.2.2] at HG
  have HU1 := Lib.hid hu1
  clear hu1
  go_wp2_with fail
  refine HG.mono ?_
  clear HG
  rintro e w2 ⟨v2, lv, rfl, hlv, hsl, hu2⟩
  obtain ⟨A2, c2, rfl⟩ := OwnRows.form hlv.1
  have hln : lv.length = min 60 nl := by
    have h1 := congrArg List.length hsl
    rw [cutB_length, List.length_map, List.length_map, ← HX.out.2.2] at h1
    exact h1
  rw [List.length_map] at hlv ⊢
  have HU2 := Lib.hid (show Kept w w2 from HU1.out.then hu2 (fun _ _ h => h))
  have hnm : lv.length ≤ 60 := by omega
  have HG := law21_cut ch (HXH.out.1.kept HU2.out) HXH.out.2.1
  rw [← HXH.out.2.2] at HG
  obtain ⟨n, hn⟩ : ∃ n, n = lv.length := ⟨_, rfl⟩
  rw [← hn]
  have HN := Lib.hid (And.intro hn (show n ≤ 60 ∧ (n = 0 → nl = 0) ∧ (1 ≤ n → nl ≠ 0) by omega))
  have HLV0 := Lib.hid (And.intro hlv (And.intro hsl hln))
  have HUS := Lib.hid (show w.heap.size ≤ w2.heap.size from (HU1.out.then hu2 (fun _ _ h => h)).size)
  clear hlv hsl hln hu2 hn hnm
  go_wp2_with fail
  refine HG.mono ?_
  clear HG
  rintro e w2h ⟨vh, lo2, rfl, hlo2, hslo, huh⟩
  obtain ⟨Ao, co, rfl⟩ := OwnRows.form hlo2.1
  rw [List.length_map] at hlo2 ⊢
  have HLO := Lib.hid (And.intro hlo2 hslo)
  have HLV := Lib.hid (And.intro (HLV0.out.1.kept huh) HLV0.out.2)
  replace HU2 := Lib.hid (show Kept w w2h from HU2.out.then huh (fun _ _ h => h))
  obtain ⟨no, hno⟩ : ∃ no, no = lo2.length := ⟨_, rfl⟩
  rw [← hno]
  have HNO := Lib.hid hno
  clear hlo2 hslo huh hno HLV0
  go_wp2_with fail
  refine (law_book _).mono ?_
  rintro e w3 ⟨b, r, q, rfl, hI⟩
  have HI := Lib.hid hI
  clear hI
  go_wp2_with fail
  rcases Nat.eq_zero_or_pos n with h0 | h0
  · skip
    subst h0
    have hnl0 : nl = 0 := HN.out.2.2.1 (by simp)
    subst hnl0
    have HG := law21_made_none (w := w3) (p := some ⟨b, 0, none⟩) (A := A2) c2
    refine HG.mono ?_
    clear HG
    rintro e w4 ⟨rfl, hu⟩
    have HF := Lib.hid (show Kept w w4 from HU2.out.then (HI.out.upd.then hu (fun _ _ h => h)) (fun _ _ h => h))
    clear hu HI
    go_wp2
    go_ret
    exact ⟨rfl, HF.out⟩
  · skip
    have HLO3 : Hid (OwnLv w3 w.heap.size (.slice Ao lo2.length co) lo2) := OwnLv.low (OwnLv.kept HLO.out.1 HI.out.upd) HUS.out
    have HG := law21_made (w0 := w) (l := lv) (A := A2) (HI.out.back HU2.out) c2 (((HLV.out.1.kept HI.out.upd)).low (HU1.out.size)) (by rw [← HN.out.1]; exact h0) (by rw [← HN.out.1]; exact HN.out.2.1) (by rw [HLV.out.2.1]; exact fun R hR => by have := cutB_len R hR; omega)
    rw [← HN.out.1] at HG
    have HN1 := Lib.hid h0
    refine HG.mono ?_
    clear HG
    rintro e w4 ⟨t, rfl, lo, hi, L, hM, -, hu4⟩
    have HLO4 : Hid (OwnLv w4 w.heap.size (.slice Ao lo2.length co) lo2) := OwnLv.book HLO3.out HI.out.book hu4
    have HM := Lib.hid hM
    clear hM HI h0 hu4 HLO3
    go_wp2_with fail
    have HG := tree_Root HM.out.tree
    obtain ⟨rt, hrt⟩ : ∃ rt, rt = rootM shaM ((secs lv).map (leafM shaM)) := ⟨_, rfl⟩
    rw [← hrt] at HG
    have hrt2 : rt = digL (secs lv) (depthM n - 1) 0 := by
      have h1 := digL_root (ls := secs lv) (by rw [List.length_map, ← HN.out.1]; exact HN1.out)
      rw [List.length_map, ← HN.out.1] at h1
      rw [hrt, h1]
    have HRT := Lib.hid hrt2
    have HLL := Lib.hid (show (secs lv).length = n by rw [List.length_map, ← HN.out.1])
    clear hrt hrt2
    refine HG.mono ?_
    clear HG
    rintro e w5 ⟨rfl, hu5⟩
    have hd6 : Blk (w5.alloc (.cells (dA rt) 46)) w5.heap.size 46 (encB (rt).1) := Blk.new w5 _ _
    have hk6 : Kept w5 (w5.alloc (.cells (dA rt) 46)) := (Upd.refl _ w5).alloc _
    have H6 := Lib.hid (And.intro ((HM.out.kept hu5).kept hk6) (And.intro hd6 ((HLO4.out.kept hu5).kept hk6)))
    clear HM hu5 hk6 hd6 HLO4
    obtain ⟨p1, p2⟩ := dig_at H6.out.2.1
    by_cases hno : no = n
    · subst hno
      have HG := fetch_Begin1 (l := lo2) (A := Ao) H6.out.1.ink.book rt no HN1.out (by have := HN.out.2.1; omega) co HNO.out.symm (fun W hW => (show OwnLv W w.heap.size (.slice Ao lo2.length co) lo2 from H6.out.2.2.dull (Dull.book H6.out.1.ink.book) hW).leaves) (by
        intro p hp
        have h1 : p.2 ∈ secs lo2 := List.mem_map_of_mem hp
        rw [HLO.out.2] at h1
        have := cutB_len _ h1; omega)
      rw [← HNO.out] at HG
      go_wp2_with fail
      refine HG.mono ?_
      clear HG
      rintro e w7 ⟨f, rfl, ⟨B, m1, m2, gs, cs, hv, ov, hB, hF⟩, ⟨L7, hb7, hs7, hno7⟩, hu7⟩
      obtain ⟨O, hO⟩ : ∃ O, O = some (secs lo2) := ⟨_, rfl⟩
      rw [← hO] at hF
      have H7 := Lib.hid (show FW w w7 b r q lo hi t L7 (.slice A2 no c2) lv B f m1 m2 rt O (begS no O rt) gs cs hv ov from ⟨H6.out.1.to hb7 hs7 hu7, by rw [← HN.out.1]; exact hF, Nat.le_trans H6.out.1.ink.upd.size hB⟩)
      have HOK : Hid (∀ L', (∀ x ∈ L7, x ∈ L') → NoCl L' → OldOk (secs lv) O) := fun L' hsub hn => by
        rw [hO]
        exact OldOk.of hn (H7.out.mad.noted.more hsub) (hno7.more hsub) (by rw [List.length_map, HLL.out, ← HNO.out])
      clear hb7 hs7 hu7 hF hB H6 p1 p2 hno7 hO
      obtain ⟨n, rfl⟩ : ∃ n, n = no := ⟨_, rfl⟩
      -- behind Begin: H7 : FW w w7 .. L7 .. O (begS n O rt) .., HOK : ∀ L', L7 ⊆ L' → NoCl L' → OldOk (secs lv) O
      have hr7 : NoCl L7 → Real (secs lv) (begS n O rt) := fun hn => by
        have h1 := real_beg (HOK.out L7 (fun _ h => h) hn) (by rw [HLL.out]; exact HN1.out)
        rw [HLL.out, ← HRT.out] at h1
        exact h1
      have H8 := Lib.hid (And.intro (good_beg (O := O) HN1.out rt) hr7)
      clear hr7
      go_wp2_with fail
      go_loopw [15] (fun u1 wr => ∃ (k : Nat) (L' : List Bytes) (s : KM × BM), k ≤ 40 ∧ k ≤ nd ∧ u1 = .int .i64 k ∧ FW w wr b r q lo hi t L' (.slice A2 n c2) lv B f m1 m2 rt O s gs cs hv ov ∧ Good n s ∧ (∀ x ∈ L7, x ∈ L') ∧ (NoCl L' → Real (secs lv) s)) (fun u1 _ => 2000 - (intOf u1).toNat)
      case atStart => exact ⟨0, L7, _, by omega, Nat.zero_le _, rfl, H7.out, H8.out.1, fun _ h => h, H8.out.2⟩
      case round =>
        clear H7 H8
        obtain ⟨k, L', s, hk, hkn, rfl, hF, hG, hL, hR⟩ := hrel
        by_cases hgo : k < nd ∧ k < 40
        · have hk1 : (k : Int) < (nd : Int) := by omega
          have hk2 : (k : Int) < 40 := by omega
          have hkd : k < dl.length := by rw [← HDL.out.2]; exact hgo.1
          obtain ⟨gb, off, hAd, hd⟩ := HDL.out.1 k hkd
          have hkeep : ∀ W, Upd (fun k => Book3 b r q k ∨ Maps2 m1 m2 k) wr W → Kept w W := fun W hW => hF.mad.ink.upd.then hW (fun i hi e => by
            have h1 := hF.hB
            have h2 := hF.fet.b1
            have h3 := hF.fet.b2
            rcases e with e | e
            · have := hF.mad.ink.far i e; omega
            · rcases e with e | e <;> omega)
          subst hAd
          generalize dl[k] = d at *
          obtain ⟨is, l1, p1, ⟨xA, xn, xc⟩, D, ⟨yA, yn, yc⟩, R⟩ := d
          have HK := Lib.hid (And.intro hgo (And.intro hF (And.intro hG (And.intro hL hR))))
          have g0 := (hd.kept hF.mad.ink.upd).c0
          simp only at g0
          have HDD := Lib.hid hd
          have f1 : ∀ W, Upd (fun k => Book3 b r q k ∨ Maps2 m1 m2 k) wr W → W.cell? ⟨gb, off + k * 5 + 1, none⟩ = some (.int .i64 l1) := fun W hW => (HDD.out.kept (hkeep W hW)).c1
          have f2 : ∀ W, Upd (fun k => Book3 b r q k ∨ Maps2 m1 m2 k) wr W → W.cell? ⟨gb, off + k * 5 + 2, none⟩ = some (.int .i64 p1) := fun W hW => (HDD.out.kept (hkeep W hW)).c2
          have f3 : ∀ W, Upd (fun k => Book3 b r q k ∨ Maps2 m1 m2 k) wr W → W.cell? ⟨gb, off + k * 5 + 3, none⟩ = some (.slice xA xn xc) := fun W hW => (HDD.out.kept (hkeep W hW)).c3
          have f4 : ∀ W, Upd (fun k => Book3 b r q k ∨ Maps2 m1 m2 k) wr W → W.cell? ⟨gb, off + k * 5 + 4, none⟩ = some (.slice yA yn yc) := fun W hW => (HDD.out.kept (hkeep W hW)).c4
          have HKP := Lib.hid hkeep
          have hkd2 : Kept wr wr.drew := (Upd.refl _ _).drew
          clear hd hkeep hF hG hL hR hgo hkd hk hkn
          cases is with
          | true =>
            go_wp2_with fail
            refine wp_region_ord [(0, true), (1, true), (2, true), (3, true), (4, true), (5, true), (6, true), (7, true), (8, true), (9, true), (10, true), (11, true), (12, true), (13, true), (14, true), (15, true), (16, false)] (by kernel_rfl) (by kernel_rfl) (Upd (fun k => Book3 b r q k ∨ Maps2 m1 m2 k) wr) hkd2.to ?_
            simp only [ordOps, List.getD_cons_zero, List.getD_cons_succ]
            iterate 16 (refine wpOrd_held (fun K hK => ?_); go_simp; first | (apply Exists.intro; refine ⟨fun W hW => ?_, hK _ ?_⟩; (go_simp; first | done | exact rfl); clear hK K) | (refine hK _ ?_; clear hK K))
            clear f1 f2 f3 f4 g0
            have hS : Upd (fun k => Book3 b r q k ∨ Maps2 m1 m2 k) wr wr.drew := hkd2.to
            have hDw := (HDD.out.kept (HKP.out _ hS)).ds
            simp only at hDw
            have hFd := HK.out.2.1.kept hkd2
            have HG := fw_Parts hFd l1 p1 xc hDw.1
            rw [← hDw.2, ← HN.out.1] at HG
            clear hkd2 hDw hFd
            generalize wr.drew = wd at *
            refine wpOrd_step (fun K hK => ?_) hS
            go_simp
            refine HG.mono ?_
            clear HG
            rintro e wp ⟨rfl, ⟨Lp, hFp, hsp, hip⟩, hup⟩
            have hS2 := hS.trans hup
            refine hK _ _ hS2 ?_
            clear hK K
            refine wpOrd_nil ?_
            have hrp : NoCl Lp → Real (secs lv) (partsS n O s l1 p1 D) := fun hn => by
              have h1 := real_parts (O := O) (HK.out.2.2.2.2 (hn.less hsp)) (HOK.out Lp (fun x hx => hsp x (HK.out.2.2.2.1 x hx)) hn) hn hFp.mad.noted (lv := l1) (pl := p1) (D := D) (by rw [HLL.out]; exact hip)
              rw [HLL.out] at h1
              exact h1
            have HQ := Lib.hid (And.intro hFp (And.intro (good_parts (O := O) HK.out.2.2.1 l1 p1 D) (And.intro (show ∀ x ∈ L7, x ∈ Lp from fun x hx => hsp x (HK.out.2.2.2.1 x hx)) hrp)))
            clear hFp hsp hip hrp hS hS2 hup
            go_wp2
            go_roundw
            case rel => exact ⟨k + 1, Lp, _, by have := HK.out.1; omega, by have := HK.out.1; omega, by show _ = _; go_num, HQ.out.1, HQ.out.2.1, HQ.out.2.2.1, HQ.out.2.2.2⟩
            case measure => have := HK.out.1; simp [intOf]; omega
          | false =>
            go_wp2_with fail
            refine wp_region_ord [(0, true), (1, true), (2, true), (3, true), (4, true), (5, true), (6, true), (7, true), (8, true), (9, true), (10, true), (11, false)] (by kernel_rfl) (by kernel_rfl) (Upd (fun k => Book3 b r q k ∨ Maps2 m1 m2 k) wr) hkd2.to ?_
            simp only [ordOps, List.getD_cons_zero, List.getD_cons_succ]
            iterate 11 (refine wpOrd_held (fun K hK => ?_); go_simp; first | (apply Exists.intro; refine ⟨fun W hW => ?_, hK _ ?_⟩; (go_simp; first | done | exact rfl); clear hK K) | (refine hK _ ?_; clear hK K))
            clear f1 f2 f3 f4 g0
            have hS : Upd (fun k => Book3 b r q k ∨ Maps2 m1 m2 k) wr wr.drew := hkd2.to
            have hDw := (HDD.out.kept (HKP.out _ hS)).bs
            simp only at hDw
            have hFd := HK.out.2.1.kept hkd2
            have HG := fw_Leaf hFd p1 yc hDw.1.1 hDw.2
            rw [← hDw.1.2.1, ← HN.out.1] at HG
            clear hkd2 hDw hFd
            generalize wr.drew = wd at *
            refine wpOrd_step (fun K hK => ?_) hS
            go_simp
            refine HG.mono ?_
            clear HG
            rintro e wp ⟨rfl, ⟨Lp, hFp, hsp, hip⟩, hup⟩
            have hS2 := hS.trans hup
            refine hK _ _ hS2 ?_
            clear hK K
            refine wpOrd_nil ?_
            have hrp : NoCl Lp → Real (secs lv) (leafS n s p1 R) := fun hn => by
              have h1 := real_leaf (HK.out.2.2.2.2 (hn.less hsp)) hn hFp.mad.noted (pl := p1) (R := R) (by rw [HLL.out]; exact hip)
              rw [HLL.out] at h1
              exact h1
            have HQ := Lib.hid (And.intro hFp (And.intro (good_leaf HK.out.2.2.1 p1 R) (And.intro (show ∀ x ∈ L7, x ∈ Lp from fun x hx => hsp x (HK.out.2.2.2.1 x hx)) hrp)))
            clear hFp hsp hip hrp hS hS2 hup
            go_wp2
            go_roundw
            case rel => exact ⟨k + 1, Lp, _, by have := HK.out.1; omega, by have := HK.out.1; omega, by show _ = _; go_num, HQ.out.1, HQ.out.2.1, HQ.out.2.2.1, HQ.out.2.2.2⟩
            case measure => have := HK.out.1; simp [intOf]; omega
        · have hx : ∃ zk : Bool, zk = decide ((k : Int) < (nd : Int)) := ⟨_, rfl⟩
          have HF := Lib.hid (And.intro hF (And.intro hG (And.intro hL hR)))
          obtain ⟨wo, rfl⟩ : ∃ wo : World, wo = wr := ⟨_, rfl⟩
          clear hF hG hL hR
          by_cases hkk : k < nd
          · have hk1 : (k : Int) < (nd : Int) := by omega
            have hk2 : ¬ (k : Int) < 40 := by omega
            clear hgo hk hkn hkk hx
            go_wp2_with fail
            go_loopw [16] (fun u1 wr => ∃ (i : Nat) (L2 : List Bytes) (s2 : KM × BM), i ≤ 200 ∧ u1 = .int .i64 (i : Int) ∧ FW w wr b r q lo hi t L2 (.slice A2 n c2) lv B f m1 m2 rt O s2 gs cs hv ov ∧ Good n s2 ∧ (∀ x ∈ L7, x ∈ L2) ∧ (NoCl L2 → Real (secs lv) s2) ∧ openC n s2 + i ≤ 2 * n) (fun u1 _ => 2000 - (intOf u1).toNat)
            case atStart => exact ⟨0, L', s, by omega, rfl, HF.out.1, HF.out.2.1, HF.out.2.2.1, HF.out.2.2.2, openC_le HN1.out _⟩
            case round =>
              clear HF
              obtain ⟨i, L2, s2, hi', rfl, hF, hG, hL, hR, hO⟩ := hrel
              have hi2 : i ≤ 120 := by have := HN.out.2.1; omega
              have hi1 : (i : Int) < 200 := by omega
              have HIK := Lib.hid hi2
              have HA := law21_answers c2 (show FW w _ b r q lo hi t _ (.slice A2 lv.length c2) lv B f m1 m2 rt O _ gs cs hv ov by rw [← HN.out.1]; exact hF)
              rw [← HN.out.1] at HA
              have HT := Lib.hid (fun hn => ans_taken (hR hn) hF.mad.len)
              have HQ := Lib.hid (And.intro hG (And.intro hL (And.intro hR hO)))
              clear hF hG hL hR hO hi' hi2
              go_wp2_with fail
              refine HA.mono ?_
              clear HA
              rintro e w9 ⟨rfl, ⟨L9, hF9, hs9⟩, -⟩
              cases hask : askM n s2 with
              | none =>
                obtain ⟨e1, e2⟩ := ans_none (O := O) (ls := secs lv) (s := s2) (by rw [HLL.out]; exact hask)
                rw [e1]
                rw [e2] at hF9
                have hb0 : (none : Option (Nat × Nat)).isSome = false := rfl
                rw [hb0]
                have HF := Lib.hid hF9
                have HEND : Hid ((askM n s2 = none ∧ (NoCl L9 → Real (secs lv) s2)) ∨ ¬ NoCl L9) := .inl ⟨hask, fun hn => HQ.out.2.2.1 (hn.less hs9)⟩
                have HGD := Lib.hid HQ.out.1
                clear hF9 hs9 e1 e2 hask hb0
                -- Done, Clash, SameLeaves; here: HF : FW wr .. Lx .. sx, HEND : askM n sx = none ∧ (NoCl Lx → Real) ∨ ¬ NoCl Lx, HGD : Good n sx
                have HG := fetch_Done_any HF.out.fet
                rw [← HN.out.1] at HG
                go_wp2_with fail
                refine HG.mono ?_
                clear HG
                rintro e wd ⟨Ad, md, cd, ld, rfl, hmd, hod, hsd, hud⟩
                have HFd := Lib.hid (HF.out.kept hud)
                rw [hmd] at hod
                have HD := Lib.hid (And.intro hmd (And.intro hod hsd))
                clear hmd hod hsd hud HF
                go_wp2_with fail
                refine HFd.out.clash.mono ?_
                rintro e wc ⟨cb, rfl, hcb, huc⟩
                have HFc := Lib.hid (HFd.out.kept huc)
                have HDc := Lib.hid (HD.out.2.1.kept huc)
                clear huc HFd
                cases cb with
                | true =>
                  have HE := Lib.hid HFc.out.mad.ink.upd
                  clear hcb HFc HDc
                  go_wp2
                  go_ret
                  exact ⟨rfl, HE.out⟩
                | false =>
                  have hn := hcb rfl
                  have hask : askM n s2 = none ∧ Real (secs lv) s2 := by
                    rcases HEND.out with ⟨h1, h2⟩ | h1
                    · exact ⟨h1, h2 hn⟩
                    · exact absurd hn h1
                  have hsame : secs ld = secs lv := by
                    rw [HD.out.2.2 hask.1]
                    have h1 := done_real hask.2 (by rw [HLL.out]; exact HGD.out) (by rw [HLL.out]; exact HN1.out) (by rw [HLL.out]; exact hask.1)
                    rw [HLL.out] at h1
                    exact h1
                  have hll : ld.length = n := by have := congrArg List.length hsame; rw [List.length_map, List.length_map, ← HN.out.1] at this; exact this
                  have HG := same_leaves cd c2 HDc.out.leaves (show LeavesAt wc A2 lv from (show OwnLv wc w.heap.size (.slice A2 lv.length c2) lv by rw [← HN.out.1]; exact HFc.out.mad.own).leaves) (by rw [hll]; have := HN.out.2.1; omega)
                  rw [hsame, decide_eq_true rfl, ← HN.out.1, ← HD.out.1] at HG
                  have hnn : (askM n s2).isNone = true := by rw [hask.1]; rfl
                  have HE := Lib.hid HFc.out.mad.ink.upd
                  clear hcb hn hask hsame hll HFc HDc
                  go_wp2_with fail
                  refine HG.mono ?_
                  clear HG
                  rintro e we ⟨rfl, hue⟩
                  have HZ := Lib.hid (show Kept w we from HE.out.then hue (fun _ _ h => h))
                  clear hue HE hnn
                  go_wp2
                  go_ret
                  exact ⟨rfl, HZ.out⟩
              | some x =>
                have hb0 : (some x).isSome = true := rfl
                rw [hb0]
                have hx : (askM n s2).isSome = true := by rw [hask]; rfl
                cases ht : ansT s2 (secs lv) with
                | true =>
                  have hg := ans_good (O := O) (ls := secs lv) (by rw [HLL.out]; exact HQ.out.1)
                  have ho := ans_open (O := O) (ls := secs lv) (by rw [HLL.out]; exact HQ.out.1) (by rw [HLL.out]; exact hx) ht
                  rw [HLL.out] at hg ho
                  have H9 := Lib.hid (And.intro hF9 (And.intro hg (And.intro (show ∀ x ∈ L7, x ∈ L9 from fun x hx => hs9 x (HQ.out.2.1 x hx)) (And.intro (show NoCl L9 → Real (secs lv) (ansS O s2 (secs lv)) from fun hn => ans_real (HQ.out.2.2.1 (hn.less hs9)) (HOK.out L9 (fun x hx => hs9 x (HQ.out.2.1 x hx)) hn)) ho))))
                  clear hF9 hs9 hask hb0 hx ht hg ho
                  go_wp2
                  go_roundw
                  case rel => exact ⟨i + 1, L9, _, by have := HIK.out; omega, by show _ = _; go_num, H9.out.1, H9.out.2.1, H9.out.2.2.1, H9.out.2.2.2.1, by have h1 := H9.out.2.2.2.2; have h2 := HQ.out.2.2.2; omega⟩
                  case measure => have := HIK.out; simp [intOf]; omega
                | false =>
                  have hno : ¬ NoCl L9 := fun hn => by
                    have h1 := HT.out (hn.less hs9)
                    rw [ht] at h1
                    exact absurd h1 (by decide)
                  have hg := ans_good (O := O) (ls := secs lv) (by rw [HLL.out]; exact HQ.out.1)
                  rw [HLL.out] at hg
                  have H9 := Lib.hid (And.intro hF9 (And.intro hg hno))
                  clear hF9 hs9 hask hb0 hx ht hg hno
                  go_wp2_with fail
                  refine H9.out.1.clash.mono ?_
                  rintro e w10 ⟨cb, rfl, hcb, hu10⟩
                  have hct : cb = true := by
                    cases cb with
                    | true => rfl
                    | false => exact absurd (hcb rfl) H9.out.2.2
                  subst hct
                  have HF := Lib.hid (H9.out.1.kept hu10)
                  have HEND : Hid ((askM n (ansS O s2 (secs lv)) = none ∧ (NoCl L9 → Real (secs lv) (ansS O s2 (secs lv)))) ∨ ¬ NoCl L9) := .inr H9.out.2.2
                  have HGD := Lib.hid H9.out.2.1
                  clear hcb hu10 H9
                  generalize ansS O s2 (secs lv) = s3 at *
                  -- Done, Clash, SameLeaves; here: HF : FW wr .. Lx .. sx, HEND : askM n sx = none ∧ (NoCl Lx → Real) ∨ ¬ NoCl Lx, HGD : Good n sx
                  have HG := fetch_Done_any HF.out.fet
                  rw [← HN.out.1] at HG
                  go_wp2_with fail
                  refine HG.mono ?_
                  clear HG
                  rintro e wd ⟨Ad, md, cd, ld, rfl, hmd, hod, hsd, hud⟩
                  have HFd := Lib.hid (HF.out.kept hud)
                  rw [hmd] at hod
                  have HD := Lib.hid (And.intro hmd (And.intro hod hsd))
                  clear hmd hod hsd hud HF
                  go_wp2_with fail
                  refine HFd.out.clash.mono ?_
                  rintro e wc ⟨cb, rfl, hcb, huc⟩
                  have HFc := Lib.hid (HFd.out.kept huc)
                  have HDc := Lib.hid (HD.out.2.1.kept huc)
                  clear huc HFd
                  cases cb with
                  | true =>
                    have HE := Lib.hid HFc.out.mad.ink.upd
                    clear hcb HFc HDc
                    go_wp2
                    go_ret
                    exact ⟨rfl, HE.out⟩
                  | false =>
                    have hn := hcb rfl
                    have hask : askM n s3 = none ∧ Real (secs lv) s3 := by
                      rcases HEND.out with ⟨h1, h2⟩ | h1
                      · exact ⟨h1, h2 hn⟩
                      · exact absurd hn h1
                    have hsame : secs ld = secs lv := by
                      rw [HD.out.2.2 hask.1]
                      have h1 := done_real hask.2 (by rw [HLL.out]; exact HGD.out) (by rw [HLL.out]; exact HN1.out) (by rw [HLL.out]; exact hask.1)
                      rw [HLL.out] at h1
                      exact h1
                    have hll : ld.length = n := by have := congrArg List.length hsame; rw [List.length_map, List.length_map, ← HN.out.1] at this; exact this
                    have HG := same_leaves cd c2 HDc.out.leaves (show LeavesAt wc A2 lv from (show OwnLv wc w.heap.size (.slice A2 lv.length c2) lv by rw [← HN.out.1]; exact HFc.out.mad.own).leaves) (by rw [hll]; have := HN.out.2.1; omega)
                    rw [hsame, decide_eq_true rfl, ← HN.out.1, ← HD.out.1] at HG
                    have hnn : (askM n s3).isNone = true := by rw [hask.1]; rfl
                    have HE := Lib.hid HFc.out.mad.ink.upd
                    clear hcb hn hask hsame hll HFc HDc
                    go_wp2_with fail
                    refine HG.mono ?_
                    clear HG
                    rintro e we ⟨rfl, hue⟩
                    have HZ := Lib.hid (show Kept w we from HE.out.then hue (fun _ _ h => h))
                    clear hue HE hnn
                    go_wp2
                    go_ret
                    exact ⟨rfl, HZ.out⟩
          · have hk1 : ¬ (k : Int) < (nd : Int) := by omega
            clear hgo hk hkn hkk hx
            go_wp2_with fail
            go_loopw [16] (fun u1 wr => ∃ (i : Nat) (L2 : List Bytes) (s2 : KM × BM), i ≤ 200 ∧ u1 = .int .i64 (i : Int) ∧ FW w wr b r q lo hi t L2 (.slice A2 n c2) lv B f m1 m2 rt O s2 gs cs hv ov ∧ Good n s2 ∧ (∀ x ∈ L7, x ∈ L2) ∧ (NoCl L2 → Real (secs lv) s2) ∧ openC n s2 + i ≤ 2 * n) (fun u1 _ => 2000 - (intOf u1).toNat)
            case atStart => exact ⟨0, L', s, by omega, rfl, HF.out.1, HF.out.2.1, HF.out.2.2.1, HF.out.2.2.2, openC_le HN1.out _⟩
            case round =>
              clear HF
              obtain ⟨i, L2, s2, hi', rfl, hF, hG, hL, hR, hO⟩ := hrel
              have hi2 : i ≤ 120 := by have := HN.out.2.1; omega
              have hi1 : (i : Int) < 200 := by omega
              have HIK := Lib.hid hi2
              have HA := law21_answers c2 (show FW w _ b r q lo hi t _ (.slice A2 lv.length c2) lv B f m1 m2 rt O _ gs cs hv ov by rw [← HN.out.1]; exact hF)
              rw [← HN.out.1] at HA
              have HT := Lib.hid (fun hn => ans_taken (hR hn) hF.mad.len)
              have HQ := Lib.hid (And.intro hG (And.intro hL (And.intro hR hO)))
              clear hF hG hL hR hO hi' hi2
              go_wp2_with fail
              refine HA.mono ?_
              clear HA
              rintro e w9 ⟨rfl, ⟨L9, hF9, hs9⟩, -⟩
              cases hask : askM n s2 with
              | none =>
                obtain ⟨e1, e2⟩ := ans_none (O := O) (ls := secs lv) (s := s2) (by rw [HLL.out]; exact hask)
                rw [e1]
                rw [e2] at hF9
                have hb0 : (none : Option (Nat × Nat)).isSome = false := rfl
                rw [hb0]
                have HF := Lib.hid hF9
                have HEND : Hid ((askM n s2 = none ∧ (NoCl L9 → Real (secs lv) s2)) ∨ ¬ NoCl L9) := .inl ⟨hask, fun hn => HQ.out.2.2.1 (hn.less hs9)⟩
                have HGD := Lib.hid HQ.out.1
                clear hF9 hs9 e1 e2 hask hb0
                -- Done, Clash, SameLeaves; here: HF : FW wr .. Lx .. sx, HEND : askM n sx = none ∧ (NoCl Lx → Real) ∨ ¬ NoCl Lx, HGD : Good n sx
                have HG := fetch_Done_any HF.out.fet
                rw [← HN.out.1] at HG
                go_wp2_with fail
                refine HG.mono ?_
                clear HG
                rintro e wd ⟨Ad, md, cd, ld, rfl, hmd, hod, hsd, hud⟩
                have HFd := Lib.hid (HF.out.kept hud)
                rw [hmd] at hod
                have HD := Lib.hid (And.intro hmd (And.intro hod hsd))
                clear hmd hod hsd hud HF
                go_wp2_with fail
                refine HFd.out.clash.mono ?_
                rintro e wc ⟨cb, rfl, hcb, huc⟩
                have HFc := Lib.hid (HFd.out.kept huc)
                have HDc := Lib.hid (HD.out.2.1.kept huc)
                clear huc HFd
                cases cb with
                | true =>
                  have HE := Lib.hid HFc.out.mad.ink.upd
                  clear hcb HFc HDc
                  go_wp2
                  go_ret
                  exact ⟨rfl, HE.out⟩
                | false =>
                  have hn := hcb rfl
                  have hask : askM n s2 = none ∧ Real (secs lv) s2 := by
                    rcases HEND.out with ⟨h1, h2⟩ | h1
                    · exact ⟨h1, h2 hn⟩
                    · exact absurd hn h1
                  have hsame : secs ld = secs lv := by
                    rw [HD.out.2.2 hask.1]
                    have h1 := done_real hask.2 (by rw [HLL.out]; exact HGD.out) (by rw [HLL.out]; exact HN1.out) (by rw [HLL.out]; exact hask.1)
                    rw [HLL.out] at h1
                    exact h1
                  have hll : ld.length = n := by have := congrArg List.length hsame; rw [List.length_map, List.length_map, ← HN.out.1] at this; exact this
                  have HG := same_leaves cd c2 HDc.out.leaves (show LeavesAt wc A2 lv from (show OwnLv wc w.heap.size (.slice A2 lv.length c2) lv by rw [← HN.out.1]; exact HFc.out.mad.own).leaves) (by rw [hll]; have := HN.out.2.1; omega)
                  rw [hsame, decide_eq_true rfl, ← HN.out.1, ← HD.out.1] at HG
                  have hnn : (askM n s2).isNone = true := by rw [hask.1]; rfl
                  have HE := Lib.hid HFc.out.mad.ink.upd
                  clear hcb hn hask hsame hll HFc HDc
                  go_wp2_with fail
                  refine HG.mono ?_
                  clear HG
                  rintro e we ⟨rfl, hue⟩
                  have HZ := Lib.hid (show Kept w we from HE.out.then hue (fun _ _ h => h))
                  clear hue HE hnn
                  go_wp2
                  go_ret
                  exact ⟨rfl, HZ.out⟩
              | some x =>
                have hb0 : (some x).isSome = true := rfl
                rw [hb0]
                have hx : (askM n s2).isSome = true := by rw [hask]; rfl
                cases ht : ansT s2 (secs lv) with
                | true =>
                  have hg := ans_good (O := O) (ls := secs lv) (by rw [HLL.out]; exact HQ.out.1)
                  have ho := ans_open (O := O) (ls := secs lv) (by rw [HLL.out]; exact HQ.out.1) (by rw [HLL.out]; exact hx) ht
                  rw [HLL.out] at hg ho
                  have H9 := Lib.hid (And.intro hF9 (And.intro hg (And.intro (show ∀ x ∈ L7, x ∈ L9 from fun x hx => hs9 x (HQ.out.2.1 x hx)) (And.intro (show NoCl L9 → Real (secs lv) (ansS O s2 (secs lv)) from fun hn => ans_real (HQ.out.2.2.1 (hn.less hs9)) (HOK.out L9 (fun x hx => hs9 x (HQ.out.2.1 x hx)) hn)) ho))))
                  clear hF9 hs9 hask hb0 hx ht hg ho
                  go_wp2
                  go_roundw
                  case rel => exact ⟨i + 1, L9, _, by have := HIK.out; omega, by show _ = _; go_num, H9.out.1, H9.out.2.1, H9.out.2.2.1, H9.out.2.2.2.1, by have h1 := H9.out.2.2.2.2; have h2 := HQ.out.2.2.2; omega⟩
                  case measure => have := HIK.out; simp [intOf]; omega
                | false =>
                  have hno : ¬ NoCl L9 := fun hn => by
                    have h1 := HT.out (hn.less hs9)
                    rw [ht] at h1
                    exact absurd h1 (by decide)
                  have hg := ans_good (O := O) (ls := secs lv) (by rw [HLL.out]; exact HQ.out.1)
                  rw [HLL.out] at hg
                  have H9 := Lib.hid (And.intro hF9 (And.intro hg hno))
                  clear hF9 hs9 hask hb0 hx ht hg hno
                  go_wp2_with fail
                  refine H9.out.1.clash.mono ?_
                  rintro e w10 ⟨cb, rfl, hcb, hu10⟩
                  have hct : cb = true := by
                    cases cb with
                    | true => rfl
                    | false => exact absurd (hcb rfl) H9.out.2.2
                  subst hct
                  have HF := Lib.hid (H9.out.1.kept hu10)
                  have HEND : Hid ((askM n (ansS O s2 (secs lv)) = none ∧ (NoCl L9 → Real (secs lv) (ansS O s2 (secs lv)))) ∨ ¬ NoCl L9) := .inr H9.out.2.2
                  have HGD := Lib.hid H9.out.2.1
                  clear hcb hu10 H9
                  generalize ansS O s2 (secs lv) = s3 at *
                  -- Done, Clash, SameLeaves; here: HF : FW wr .. Lx .. sx, HEND : askM n sx = none ∧ (NoCl Lx → Real) ∨ ¬ NoCl Lx, HGD : Good n sx
                  have HG := fetch_Done_any HF.out.fet
                  rw [← HN.out.1] at HG
                  go_wp2_with fail
                  refine HG.mono ?_
                  clear HG
                  rintro e wd ⟨Ad, md, cd, ld, rfl, hmd, hod, hsd, hud⟩
                  have HFd := Lib.hid (HF.out.kept hud)
                  rw [hmd] at hod
                  have HD := Lib.hid (And.intro hmd (And.intro hod hsd))
                  clear hmd hod hsd hud HF
                  go_wp2_with fail
                  refine HFd.out.clash.mono ?_
                  rintro e wc ⟨cb, rfl, hcb, huc⟩
                  have HFc := Lib.hid (HFd.out.kept huc)
                  have HDc := Lib.hid (HD.out.2.1.kept huc)
                  clear huc HFd
                  cases cb with
                  | true =>
                    have HE := Lib.hid HFc.out.mad.ink.upd
                    clear hcb HFc HDc
                    go_wp2
                    go_ret
                    exact ⟨rfl, HE.out⟩
                  | false =>
                    have hn := hcb rfl
                    have hask : askM n s3 = none ∧ Real (secs lv) s3 := by
                      rcases HEND.out with ⟨h1, h2⟩ | h1
                      · exact ⟨h1, h2 hn⟩
                      · exact absurd hn h1
                    have hsame : secs ld = secs lv := by
                      rw [HD.out.2.2 hask.1]
                      have h1 := done_real hask.2 (by rw [HLL.out]; exact HGD.out) (by rw [HLL.out]; exact HN1.out) (by rw [HLL.out]; exact hask.1)
                      rw [HLL.out] at h1
                      exact h1
                    have hll : ld.length = n := by have := congrArg List.length hsame; rw [List.length_map, List.length_map, ← HN.out.1] at this; exact this
                    have HG := same_leaves cd c2 HDc.out.leaves (show LeavesAt wc A2 lv from (show OwnLv wc w.heap.size (.slice A2 lv.length c2) lv by rw [← HN.out.1]; exact HFc.out.mad.own).leaves) (by rw [hll]; have := HN.out.2.1; omega)
                    rw [hsame, decide_eq_true rfl, ← HN.out.1, ← HD.out.1] at HG
                    have hnn : (askM n s3).isNone = true := by rw [hask.1]; rfl
                    have HE := Lib.hid HFc.out.mad.ink.upd
                    clear hcb hn hask hsame hll HFc HDc
                    go_wp2_with fail
                    refine HG.mono ?_
                    clear HG
                    rintro e we ⟨rfl, hue⟩
                    have HZ := Lib.hid (show Kept w we from HE.out.then hue (fun _ _ h => h))
                    clear hue HE hnn
                    go_wp2
                    go_ret
                    exact ⟨rfl, HZ.out⟩
    · have hno2 : ¬ (no : Int) = (n : Int) := by omega
      have HG := fetch_Begin0 (A := none) H6.out.1.ink.book rt n HN1.out (by have := HN.out.2.1; omega) 0
      go_wp2_with fail
      refine HG.mono ?_
      clear HG
      rintro e w7 ⟨f, rfl, ⟨B, m1, m2, gs, cs, hv, ov, hB, hF⟩, ⟨L7, hb7, hs7⟩, hu7⟩
      obtain ⟨O, hO⟩ : ∃ O : Option (List Bytes), O = none := ⟨_, rfl⟩
      rw [← hO] at hF
      have H7 := Lib.hid (show FW w w7 b r q lo hi t L7 (.slice A2 n c2) lv B f m1 m2 rt O (begS n O rt) gs cs hv ov from ⟨H6.out.1.to hb7 hs7 hu7, by rw [← HN.out.1]; exact hF, Nat.le_trans H6.out.1.ink.upd.size hB⟩)
      have HOK : Hid (∀ L', (∀ x ∈ L7, x ∈ L') → NoCl L' → OldOk (secs lv) O) := fun L' _ _ => by rw [hO]; exact OldOk.none _
      clear hb7 hs7 hu7 hF hB H6 p1 p2 hno hno2 hO
      -- behind Begin: H7 : FW w w7 .. L7 .. O (begS n O rt) .., HOK : ∀ L', L7 ⊆ L' → NoCl L' → OldOk (secs lv) O
      have hr7 : NoCl L7 → Real (secs lv) (begS n O rt) := fun hn => by
        have h1 := real_beg (HOK.out L7 (fun _ h => h) hn) (by rw [HLL.out]; exact HN1.out)
        rw [HLL.out, ← HRT.out] at h1
        exact h1
      have H8 := Lib.hid (And.intro (good_beg (O := O) HN1.out rt) hr7)
      clear hr7
      go_wp2_with fail
      go_loopw [15] (fun u1 wr => ∃ (k : Nat) (L' : List Bytes) (s : KM × BM), k ≤ 40 ∧ k ≤ nd ∧ u1 = .int .i64 k ∧ FW w wr b r q lo hi t L' (.slice A2 n c2) lv B f m1 m2 rt O s gs cs hv ov ∧ Good n s ∧ (∀ x ∈ L7, x ∈ L') ∧ (NoCl L' → Real (secs lv) s)) (fun u1 _ => 2000 - (intOf u1).toNat)
      case atStart => exact ⟨0, L7, _, by omega, Nat.zero_le _, rfl, H7.out, H8.out.1, fun _ h => h, H8.out.2⟩
      case round =>
        clear H7 H8
        obtain ⟨k, L', s, hk, hkn, rfl, hF, hG, hL, hR⟩ := hrel
        by_cases hgo : k < nd ∧ k < 40
        · have hk1 : (k : Int) < (nd : Int) := by omega
          have hk2 : (k : Int) < 40 := by omega
          have hkd : k < dl.length := by rw [← HDL.out.2]; exact hgo.1
          obtain ⟨gb, off, hAd, hd⟩ := HDL.out.1 k hkd
          have hkeep : ∀ W, Upd (fun k => Book3 b r q k ∨ Maps2 m1 m2 k) wr W → Kept w W := fun W hW => hF.mad.ink.upd.then hW (fun i hi e => by
            have h1 := hF.hB
            have h2 := hF.fet.b1
            have h3 := hF.fet.b2
            rcases e with e | e
            · have := hF.mad.ink.far i e; omega
            · rcases e with e | e <;> omega)
          subst hAd
          generalize dl[k] = d at *
          obtain ⟨is, l1, p1, ⟨xA, xn, xc⟩, D, ⟨yA, yn, yc⟩, R⟩ := d
          have HK := Lib.hid (And.intro hgo (And.intro hF (And.intro hG (And.intro hL hR))))
          have g0 := (hd.kept hF.mad.ink.upd).c0
          simp only at g0
          have HDD := Lib.hid hd
          have f1 : ∀ W, Upd (fun k => Book3 b r q k ∨ Maps2 m1 m2 k) wr W → W.cell? ⟨gb, off + k * 5 + 1, none⟩ = some (.int .i64 l1) := fun W hW => (HDD.out.kept (hkeep W hW)).c1
          have f2 : ∀ W, Upd (fun k => Book3 b r q k ∨ Maps2 m1 m2 k) wr W → W.cell? ⟨gb, off + k * 5 + 2, none⟩ = some (.int .i64 p1) := fun W hW => (HDD.out.kept (hkeep W hW)).c2
          have f3 : ∀ W, Upd (fun k => Book3 b r q k ∨ Maps2 m1 m2 k) wr W → W.cell? ⟨gb, off + k * 5 + 3, none⟩ = some (.slice xA xn xc) := fun W hW => (HDD.out.kept (hkeep W hW)).c3
          have f4 : ∀ W, Upd (fun k => Book3 b r q k ∨ Maps2 m1 m2 k) wr W → W.cell? ⟨gb, off + k * 5 + 4, none⟩ = some (.slice yA yn yc) := fun W hW => (HDD.out.kept (hkeep W hW)).c4
          have HKP := Lib.hid hkeep
          have hkd2 : Kept wr wr.drew := (Upd.refl _ _).drew
          clear hd hkeep hF hG hL hR hgo hkd hk hkn
          cases is with
          | true =>
            go_wp2_with fail
            refine wp_region_ord [(0, true), (1, true), (2, true), (3, true), (4, true), (5, true), (6, true), (7, true), (8, true), (9, true), (10, true), (11, true), (12, true), (13, true), (14, true), (15, true), (16, false)] (by kernel_rfl) (by kernel_rfl) (Upd (fun k => Book3 b r q k ∨ Maps2 m1 m2 k) wr) hkd2.to ?_
            simp only [ordOps, List.getD_cons_zero, List.getD_cons_succ]
            iterate 16 (refine wpOrd_held (fun K hK => ?_); go_simp; first | (apply Exists.intro; refine ⟨fun W hW => ?_, hK _ ?_⟩; (go_simp; first | done | exact rfl); clear hK K) | (refine hK _ ?_; clear hK K))
            clear f1 f2 f3 f4 g0
            have hS : Upd (fun k => Book3 b r q k ∨ Maps2 m1 m2 k) wr wr.drew := hkd2.to
            have hDw := (HDD.out.kept (HKP.out _ hS)).ds
            simp only at hDw
            have hFd := HK.out.2.1.kept hkd2
            have HG := fw_Parts hFd l1 p1 xc hDw.1
            rw [← hDw.2, ← HN.out.1] at HG
            clear hkd2 hDw hFd
            generalize wr.drew = wd at *
            refine wpOrd_step (fun K hK => ?_) hS
            go_simp
            refine HG.mono ?_
            clear HG
            rintro e wp ⟨rfl, ⟨Lp, hFp, hsp, hip⟩, hup⟩
            have hS2 := hS.trans hup
            refine hK _ _ hS2 ?_
            clear hK K
            refine wpOrd_nil ?_
            have hrp : NoCl Lp → Real (secs lv) (partsS n O s l1 p1 D) := fun hn => by
              have h1 := real_parts (O := O) (HK.out.2.2.2.2 (hn.less hsp)) (HOK.out Lp (fun x hx => hsp x (HK.out.2.2.2.1 x hx)) hn) hn hFp.mad.noted (lv := l1) (pl := p1) (D := D) (by rw [HLL.out]; exact hip)
              rw [HLL.out] at h1
              exact h1
            have HQ := Lib.hid (And.intro hFp (And.intro (good_parts (O := O) HK.out.2.2.1 l1 p1 D) (And.intro (show ∀ x ∈ L7, x ∈ Lp from fun x hx => hsp x (HK.out.2.2.2.1 x hx)) hrp)))
            clear hFp hsp hip hrp hS hS2 hup
            go_wp2
            go_roundw
            case rel => exact ⟨k + 1, Lp, _, by have := HK.out.1; omega, by have := HK.out.1; omega, by show _ = _; go_num, HQ.out.1, HQ.out.2.1, HQ.out.2.2.1, HQ.out.2.2.2⟩
            case measure => have := HK.out.1; simp [intOf]; omega
          | false =>
            go_wp2_with fail
            refine wp_region_ord [(0, true), (1, true), (2, true), (3, true), (4, true), (5, true), (6, true), (7, true), (8, true), (9, true), (10, true), (11, false)] (by kernel_rfl) (by kernel_rfl) (Upd (fun k => Book3 b r q k ∨ Maps2 m1 m2 k) wr) hkd2.to ?_
            simp only [ordOps, List.getD_cons_zero, List.getD_cons_succ]
            iterate 11 (refine wpOrd_held (fun K hK => ?_); go_simp; first | (apply Exists.intro; refine ⟨fun W hW => ?_, hK _ ?_⟩; (go_simp; first | done | exact rfl); clear hK K) | (refine hK _ ?_; clear hK K))
            clear f1 f2 f3 f4 g0
            have hS : Upd (fun k => Book3 b r q k ∨ Maps2 m1 m2 k) wr wr.drew := hkd2.to
            have hDw := (HDD.out.kept (HKP.out _ hS)).bs
            simp only at hDw
            have hFd := HK.out.2.1.kept hkd2
            have HG := fw_Leaf hFd p1 yc hDw.1.1 hDw.2
            rw [← hDw.1.2.1, ← HN.out.1] at HG
            clear hkd2 hDw hFd
            generalize wr.drew = wd at *
            refine wpOrd_step (fun K hK => ?_) hS
            go_simp
            refine HG.mono ?_
            clear HG
            rintro e wp ⟨rfl, ⟨Lp, hFp, hsp, hip⟩, hup⟩
            have hS2 := hS.trans hup
            refine hK _ _ hS2 ?_
            clear hK K
            refine wpOrd_nil ?_
            have hrp : NoCl Lp → Real (secs lv) (leafS n s p1 R) := fun hn => by
              have h1 := real_leaf (HK.out.2.2.2.2 (hn.less hsp)) hn hFp.mad.noted (pl := p1) (R := R) (by rw [HLL.out]; exact hip)
              rw [HLL.out] at h1
              exact h1
            have HQ := Lib.hid (And.intro hFp (And.intro (good_leaf HK.out.2.2.1 p1 R) (And.intro (show ∀ x ∈ L7, x ∈ Lp from fun x hx => hsp x (HK.out.2.2.2.1 x hx)) hrp)))
            clear hFp hsp hip hrp hS hS2 hup
            go_wp2
            go_roundw
            case rel => exact ⟨k + 1, Lp, _, by have := HK.out.1; omega, by have := HK.out.1; omega, by show _ = _; go_num, HQ.out.1, HQ.out.2.1, HQ.out.2.2.1, HQ.out.2.2.2⟩
            case measure => have := HK.out.1; simp [intOf]; omega
        · have hx : ∃ zk : Bool, zk = decide ((k : Int) < (nd : Int)) := ⟨_, rfl⟩
          have HF := Lib.hid (And.intro hF (And.intro hG (And.intro hL hR)))
          obtain ⟨wo, rfl⟩ : ∃ wo : World, wo = wr := ⟨_, rfl⟩
          clear hF hG hL hR
          by_cases hkk : k < nd
          · have hk1 : (k : Int) < (nd : Int) := by omega
            have hk2 : ¬ (k : Int) < 40 := by omega
            clear hgo hk hkn hkk hx
            go_wp2_with fail
            go_loopw [16] (fun u1 wr => ∃ (i : Nat) (L2 : List Bytes) (s2 : KM × BM), i ≤ 200 ∧ u1 = .int .i64 (i : Int) ∧ FW w wr b r q lo hi t L2 (.slice A2 n c2) lv B f m1 m2 rt O s2 gs cs hv ov ∧ Good n s2 ∧ (∀ x ∈ L7, x ∈ L2) ∧ (NoCl L2 → Real (secs lv) s2) ∧ openC n s2 + i ≤ 2 * n) (fun u1 _ => 2000 - (intOf u1).toNat)
            case atStart => exact ⟨0, L', s, by omega, rfl, HF.out.1, HF.out.2.1, HF.out.2.2.1, HF.out.2.2.2, openC_le HN1.out _⟩
            case round =>
              clear HF
              obtain ⟨i, L2, s2, hi', rfl, hF, hG, hL, hR, hO⟩ := hrel
              have hi2 : i ≤ 120 := by have := HN.out.2.1; omega
              have hi1 : (i : Int) < 200 := by omega
              have HIK := Lib.hid hi2
              have HA := law21_answers c2 (show FW w _ b r q lo hi t _ (.slice A2 lv.length c2) lv B f m1 m2 rt O _ gs cs hv ov by rw [← HN.out.1]; exact hF)
              rw [← HN.out.1] at HA
              have HT := Lib.hid (fun hn => ans_taken (hR hn) hF.mad.len)
              have HQ := Lib.hid (And.intro hG (And.intro hL (And.intro hR hO)))
              clear hF hG hL hR hO hi' hi2
              go_wp2_with fail
              refine HA.mono ?_
              clear HA
              rintro e w9 ⟨rfl, ⟨L9, hF9, hs9⟩, -⟩
              cases hask : askM n s2 with
              | none =>
                obtain ⟨e1, e2⟩ := ans_none (O := O) (ls := secs lv) (s := s2) (by rw [HLL.out]; exact hask)
                rw [e1]
                rw [e2] at hF9
                have hb0 : (none : Option (Nat × Nat)).isSome = false := rfl
                rw [hb0]
                have HF := Lib.hid hF9
                have HEND : Hid ((askM n s2 = none ∧ (NoCl L9 → Real (secs lv) s2)) ∨ ¬ NoCl L9) := .inl ⟨hask, fun hn => HQ.out.2.2.1 (hn.less hs9)⟩
                have HGD := Lib.hid HQ.out.1
                clear hF9 hs9 e1 e2 hask hb0
                -- Done, Clash, SameLeaves; here: HF : FW wr .. Lx .. sx, HEND : askM n sx = none ∧ (NoCl Lx → Real) ∨ ¬ NoCl Lx, HGD : Good n sx
                have HG := fetch_Done_any HF.out.fet
                rw [← HN.out.1] at HG
                go_wp2_with fail
                refine HG.mono ?_
                clear HG
                rintro e wd ⟨Ad, md, cd, ld, rfl, hmd, hod, hsd, hud⟩
                have HFd := Lib.hid (HF.out.kept hud)
                rw [hmd] at hod
                have HD := Lib.hid (And.intro hmd (And.intro hod hsd))
                clear hmd hod hsd hud HF
                go_wp2_with fail
                refine HFd.out.clash.mono ?_
                rintro e wc ⟨cb, rfl, hcb, huc⟩
                have HFc := Lib.hid (HFd.out.kept huc)
                have HDc := Lib.hid (HD.out.2.1.kept huc)
                clear huc HFd
                cases cb with
                | true =>
                  have HE := Lib.hid HFc.out.mad.ink.upd
                  clear hcb HFc HDc
                  go_wp2
                  go_ret
                  exact ⟨rfl, HE.out⟩
                | false =>
                  have hn := hcb rfl
                  have hask : askM n s2 = none ∧ Real (secs lv) s2 := by
                    rcases HEND.out with ⟨h1, h2⟩ | h1
                    · exact ⟨h1, h2 hn⟩
                    · exact absurd hn h1
                  have hsame : secs ld = secs lv := by
                    rw [HD.out.2.2 hask.1]
                    have h1 := done_real hask.2 (by rw [HLL.out]; exact HGD.out) (by rw [HLL.out]; exact HN1.out) (by rw [HLL.out]; exact hask.1)
                    rw [HLL.out] at h1
                    exact h1
                  have hll : ld.length = n := by have := congrArg List.length hsame; rw [List.length_map, List.length_map, ← HN.out.1] at this; exact this
                  have HG := same_leaves cd c2 HDc.out.leaves (show LeavesAt wc A2 lv from (show OwnLv wc w.heap.size (.slice A2 lv.length c2) lv by rw [← HN.out.1]; exact HFc.out.mad.own).leaves) (by rw [hll]; have := HN.out.2.1; omega)
                  rw [hsame, decide_eq_true rfl, ← HN.out.1, ← HD.out.1] at HG
                  have hnn : (askM n s2).isNone = true := by rw [hask.1]; rfl
                  have HE := Lib.hid HFc.out.mad.ink.upd
                  clear hcb hn hask hsame hll HFc HDc
                  go_wp2_with fail
                  refine HG.mono ?_
                  clear HG
                  rintro e we ⟨rfl, hue⟩
                  have HZ := Lib.hid (show Kept w we from HE.out.then hue (fun _ _ h => h))
                  clear hue HE hnn
                  go_wp2
                  go_ret
                  exact ⟨rfl, HZ.out⟩
              | some x =>
                have hb0 : (some x).isSome = true := rfl
                rw [hb0]
                have hx : (askM n s2).isSome = true := by rw [hask]; rfl
                cases ht : ansT s2 (secs lv) with
                | true =>
                  have hg := ans_good (O := O) (ls := secs lv) (by rw [HLL.out]; exact HQ.out.1)
                  have ho := ans_open (O := O) (ls := secs lv) (by rw [HLL.out]; exact HQ.out.1) (by rw [HLL.out]; exact hx) ht
                  rw [HLL.out] at hg ho
                  have H9 := Lib.hid (And.intro hF9 (And.intro hg (And.intro (show ∀ x ∈ L7, x ∈ L9 from fun x hx => hs9 x (HQ.out.2.1 x hx)) (And.intro (show NoCl L9 → Real (secs lv) (ansS O s2 (secs lv)) from fun hn => ans_real (HQ.out.2.2.1 (hn.less hs9)) (HOK.out L9 (fun x hx => hs9 x (HQ.out.2.1 x hx)) hn)) ho))))
                  clear hF9 hs9 hask hb0 hx ht hg ho
                  go_wp2
                  go_roundw
                  case rel => exact ⟨i + 1, L9, _, by have := HIK.out; omega, by show _ = _; go_num, H9.out.1, H9.out.2.1, H9.out.2.2.1, H9.out.2.2.2.1, by have h1 := H9.out.2.2.2.2; have h2 := HQ.out.2.2.2; omega⟩
                  case measure => have := HIK.out; simp [intOf]; omega
                | false =>
                  have hno : ¬ NoCl L9 := fun hn => by
                    have h1 := HT.out (hn.less hs9)
                    rw [ht] at h1
                    exact absurd h1 (by decide)
                  have hg := ans_good (O := O) (ls := secs lv) (by rw [HLL.out]; exact HQ.out.1)
                  rw [HLL.out] at hg
                  have H9 := Lib.hid (And.intro hF9 (And.intro hg hno))
                  clear hF9 hs9 hask hb0 hx ht hg hno
                  go_wp2_with fail
                  refine H9.out.1.clash.mono ?_
                  rintro e w10 ⟨cb, rfl, hcb, hu10⟩
                  have hct : cb = true := by
                    cases cb with
                    | true => rfl
                    | false => exact absurd (hcb rfl) H9.out.2.2
                  subst hct
                  have HF := Lib.hid (H9.out.1.kept hu10)
                  have HEND : Hid ((askM n (ansS O s2 (secs lv)) = none ∧ (NoCl L9 → Real (secs lv) (ansS O s2 (secs lv)))) ∨ ¬ NoCl L9) := .inr H9.out.2.2
                  have HGD := Lib.hid H9.out.2.1
                  clear hcb hu10 H9
                  generalize ansS O s2 (secs lv) = s3 at *
                  -- Done, Clash, SameLeaves; here: HF : FW wr .. Lx .. sx, HEND : askM n sx = none ∧ (NoCl Lx → Real) ∨ ¬ NoCl Lx, HGD : Good n sx
                  have HG := fetch_Done_any HF.out.fet
                  rw [← HN.out.1] at HG
                  go_wp2_with fail
                  refine HG.mono ?_
                  clear HG
                  rintro e wd ⟨Ad, md, cd, ld, rfl, hmd, hod, hsd, hud⟩
                  have HFd := Lib.hid (HF.out.kept hud)
                  rw [hmd] at hod
                  have HD := Lib.hid (And.intro hmd (And.intro hod hsd))
                  clear hmd hod hsd hud HF
                  go_wp2_with fail
                  refine HFd.out.clash.mono ?_
                  rintro e wc ⟨cb, rfl, hcb, huc⟩
                  have HFc := Lib.hid (HFd.out.kept huc)
                  have HDc := Lib.hid (HD.out.2.1.kept huc)
                  clear huc HFd
                  cases cb with
                  | true =>
                    have HE := Lib.hid HFc.out.mad.ink.upd
                    clear hcb HFc HDc
                    go_wp2
                    go_ret
                    exact ⟨rfl, HE.out⟩
                  | false =>
                    have hn := hcb rfl
                    have hask : askM n s3 = none ∧ Real (secs lv) s3 := by
                      rcases HEND.out with ⟨h1, h2⟩ | h1
                      · exact ⟨h1, h2 hn⟩
                      · exact absurd hn h1
                    have hsame : secs ld = secs lv := by
                      rw [HD.out.2.2 hask.1]
                      have h1 := done_real hask.2 (by rw [HLL.out]; exact HGD.out) (by rw [HLL.out]; exact HN1.out) (by rw [HLL.out]; exact hask.1)
                      rw [HLL.out] at h1
                      exact h1
                    have hll : ld.length = n := by have := congrArg List.length hsame; rw [List.length_map, List.length_map, ← HN.out.1] at this; exact this
                    have HG := same_leaves cd c2 HDc.out.leaves (show LeavesAt wc A2 lv from (show OwnLv wc w.heap.size (.slice A2 lv.length c2) lv by rw [← HN.out.1]; exact HFc.out.mad.own).leaves) (by rw [hll]; have := HN.out.2.1; omega)
                    rw [hsame, decide_eq_true rfl, ← HN.out.1, ← HD.out.1] at HG
                    have hnn : (askM n s3).isNone = true := by rw [hask.1]; rfl
                    have HE := Lib.hid HFc.out.mad.ink.upd
                    clear hcb hn hask hsame hll HFc HDc
                    go_wp2_with fail
                    refine HG.mono ?_
                    clear HG
                    rintro e we ⟨rfl, hue⟩
                    have HZ := Lib.hid (show Kept w we from HE.out.then hue (fun _ _ h => h))
                    clear hue HE hnn
                    go_wp2
                    go_ret
                    exact ⟨rfl, HZ.out⟩
          · have hk1 : ¬ (k : Int) < (nd : Int) := by omega
            clear hgo hk hkn hkk hx
            go_wp2_with fail
            go_loopw [16] (fun u1 wr => ∃ (i : Nat) (L2 : List Bytes) (s2 : KM × BM), i ≤ 200 ∧ u1 = .int .i64 (i : Int) ∧ FW w wr b r q lo hi t L2 (.slice A2 n c2) lv B f m1 m2 rt O s2 gs cs hv ov ∧ Good n s2 ∧ (∀ x ∈ L7, x ∈ L2) ∧ (NoCl L2 → Real (secs lv) s2) ∧ openC n s2 + i ≤ 2 * n) (fun u1 _ => 2000 - (intOf u1).toNat)
            case atStart => exact ⟨0, L', s, by omega, rfl, HF.out.1, HF.out.2.1, HF.out.2.2.1, HF.out.2.2.2, openC_le HN1.out _⟩
            case round =>
              clear HF
              obtain ⟨i, L2, s2, hi', rfl, hF, hG, hL, hR, hO⟩ := hrel
              have hi2 : i ≤ 120 := by have := HN.out.2.1; omega
              have hi1 : (i : Int) < 200 := by omega
              have HIK := Lib.hid hi2
              have HA := law21_answers c2 (show FW w _ b r q lo hi t _ (.slice A2 lv.length c2) lv B f m1 m2 rt O _ gs cs hv ov by rw [← HN.out.1]; exact hF)
              rw [← HN.out.1] at HA
              have HT := Lib.hid (fun hn => ans_taken (hR hn) hF.mad.len)
              have HQ := Lib.hid (And.intro hG (And.intro hL (And.intro hR hO)))
              clear hF hG hL hR hO hi' hi2
              go_wp2_with fail
              refine HA.mono ?_
              clear HA
              rintro e w9 ⟨rfl, ⟨L9, hF9, hs9⟩, -⟩
              cases hask : askM n s2 with
              | none =>
                obtain ⟨e1, e2⟩ := ans_none (O := O) (ls := secs lv) (s := s2) (by rw [HLL.out]; exact hask)
                rw [e1]
                rw [e2] at hF9
                have hb0 : (none : Option (Nat × Nat)).isSome = false := rfl
                rw [hb0]
                have HF := Lib.hid hF9
                have HEND : Hid ((askM n s2 = none ∧ (NoCl L9 → Real (secs lv) s2)) ∨ ¬ NoCl L9) := .inl ⟨hask, fun hn => HQ.out.2.2.1 (hn.less hs9)⟩
                have HGD := Lib.hid HQ.out.1
                clear hF9 hs9 e1 e2 hask hb0
                -- Done, Clash, SameLeaves; here: HF : FW wr .. Lx .. sx, HEND : askM n sx = none ∧ (NoCl Lx → Real) ∨ ¬ NoCl Lx, HGD : Good n sx
                have HG := fetch_Done_any HF.out.fet
                rw [← HN.out.1] at HG
                go_wp2_with fail
                refine HG.mono ?_
                clear HG
                rintro e wd ⟨Ad, md, cd, ld, rfl, hmd, hod, hsd, hud⟩
                have HFd := Lib.hid (HF.out.kept hud)
                rw [hmd] at hod
                have HD := Lib.hid (And.intro hmd (And.intro hod hsd))
                clear hmd hod hsd hud HF
                go_wp2_with fail
                refine HFd.out.clash.mono ?_
                rintro e wc ⟨cb, rfl, hcb, huc⟩
                have HFc := Lib.hid (HFd.out.kept huc)
                have HDc := Lib.hid (HD.out.2.1.kept huc)
                clear huc HFd
                cases cb with
                | true =>
                  have HE := Lib.hid HFc.out.mad.ink.upd
                  clear hcb HFc HDc
                  go_wp2
                  go_ret
                  exact ⟨rfl, HE.out⟩
                | false =>
                  have hn := hcb rfl
                  have hask : askM n s2 = none ∧ Real (secs lv) s2 := by
                    rcases HEND.out with ⟨h1, h2⟩ | h1
                    · exact ⟨h1, h2 hn⟩
                    · exact absurd hn h1
                  have hsame : secs ld = secs lv := by
                    rw [HD.out.2.2 hask.1]
                    have h1 := done_real hask.2 (by rw [HLL.out]; exact HGD.out) (by rw [HLL.out]; exact HN1.out) (by rw [HLL.out]; exact hask.1)
                    rw [HLL.out] at h1
                    exact h1
                  have hll : ld.length = n := by have := congrArg List.length hsame; rw [List.length_map, List.length_map, ← HN.out.1] at this; exact this
                  have HG := same_leaves cd c2 HDc.out.leaves (show LeavesAt wc A2 lv from (show OwnLv wc w.heap.size (.slice A2 lv.length c2) lv by rw [← HN.out.1]; exact HFc.out.mad.own).leaves) (by rw [hll]; have := HN.out.2.1; omega)
                  rw [hsame, decide_eq_true rfl, ← HN.out.1, ← HD.out.1] at HG
                  have hnn : (askM n s2).isNone = true := by rw [hask.1]; rfl
                  have HE := Lib.hid HFc.out.mad.ink.upd
                  clear hcb hn hask hsame hll HFc HDc
                  go_wp2_with fail
                  refine HG.mono ?_
                  clear HG
                  rintro e we ⟨rfl, hue⟩
                  have HZ := Lib.hid (show Kept w we from HE.out.then hue (fun _ _ h => h))
                  clear hue HE hnn
                  go_wp2
                  go_ret
                  exact ⟨rfl, HZ.out⟩
              | some x =>
                have hb0 : (some x).isSome = true := rfl
                rw [hb0]
                have hx : (askM n s2).isSome = true := by rw [hask]; rfl
                cases ht : ansT s2 (secs lv) with
                | true =>
                  have hg := ans_good (O := O) (ls := secs lv) (by rw [HLL.out]; exact HQ.out.1)
                  have ho := ans_open (O := O) (ls := secs lv) (by rw [HLL.out]; exact HQ.out.1) (by rw [HLL.out]; exact hx) ht
                  rw [HLL.out] at hg ho
                  have H9 := Lib.hid (And.intro hF9 (And.intro hg (And.intro (show ∀ x ∈ L7, x ∈ L9 from fun x hx => hs9 x (HQ.out.2.1 x hx)) (And.intro (show NoCl L9 → Real (secs lv) (ansS O s2 (secs lv)) from fun hn => ans_real (HQ.out.2.2.1 (hn.less hs9)) (HOK.out L9 (fun x hx => hs9 x (HQ.out.2.1 x hx)) hn)) ho))))
                  clear hF9 hs9 hask hb0 hx ht hg ho
                  go_wp2
                  go_roundw
                  case rel => exact ⟨i + 1, L9, _, by have := HIK.out; omega, by show _ = _; go_num, H9.out.1, H9.out.2.1, H9.out.2.2.1, H9.out.2.2.2.1, by have h1 := H9.out.2.2.2.2; have h2 := HQ.out.2.2.2; omega⟩
                  case measure => have := HIK.out; simp [intOf]; omega
                | false =>
                  have hno : ¬ NoCl L9 := fun hn => by
                    have h1 := HT.out (hn.less hs9)
                    rw [ht] at h1
                    exact absurd h1 (by decide)
                  have hg := ans_good (O := O) (ls := secs lv) (by rw [HLL.out]; exact HQ.out.1)
                  rw [HLL.out] at hg
                  have H9 := Lib.hid (And.intro hF9 (And.intro hg hno))
                  clear hF9 hs9 hask hb0 hx ht hg hno
                  go_wp2_with fail
                  refine H9.out.1.clash.mono ?_
                  rintro e w10 ⟨cb, rfl, hcb, hu10⟩
                  have hct : cb = true := by
                    cases cb with
                    | true => rfl
                    | false => exact absurd (hcb rfl) H9.out.2.2
                  subst hct
                  have HF := Lib.hid (H9.out.1.kept hu10)
                  have HEND : Hid ((askM n (ansS O s2 (secs lv)) = none ∧ (NoCl L9 → Real (secs lv) (ansS O s2 (secs lv)))) ∨ ¬ NoCl L9) := .inr H9.out.2.2
                  have HGD := Lib.hid H9.out.2.1
                  clear hcb hu10 H9
                  generalize ansS O s2 (secs lv) = s3 at *
                  -- Done, Clash, SameLeaves; here: HF : FW wr .. Lx .. sx, HEND : askM n sx = none ∧ (NoCl Lx → Real) ∨ ¬ NoCl Lx, HGD : Good n sx
                  have HG := fetch_Done_any HF.out.fet
                  rw [← HN.out.1] at HG
                  go_wp2_with fail
                  refine HG.mono ?_
                  clear HG
                  rintro e wd ⟨Ad, md, cd, ld, rfl, hmd, hod, hsd, hud⟩
                  have HFd := Lib.hid (HF.out.kept hud)
                  rw [hmd] at hod
                  have HD := Lib.hid (And.intro hmd (And.intro hod hsd))
                  clear hmd hod hsd hud HF
                  go_wp2_with fail
                  refine HFd.out.clash.mono ?_
                  rintro e wc ⟨cb, rfl, hcb, huc⟩
                  have HFc := Lib.hid (HFd.out.kept huc)
                  have HDc := Lib.hid (HD.out.2.1.kept huc)
                  clear huc HFd
                  cases cb with
                  | true =>
                    have HE := Lib.hid HFc.out.mad.ink.upd
                    clear hcb HFc HDc
                    go_wp2
                    go_ret
                    exact ⟨rfl, HE.out⟩
                  | false =>
                    have hn := hcb rfl
                    have hask : askM n s3 = none ∧ Real (secs lv) s3 := by
                      rcases HEND.out with ⟨h1, h2⟩ | h1
                      · exact ⟨h1, h2 hn⟩
                      · exact absurd hn h1
                    have hsame : secs ld = secs lv := by
                      rw [HD.out.2.2 hask.1]
                      have h1 := done_real hask.2 (by rw [HLL.out]; exact HGD.out) (by rw [HLL.out]; exact HN1.out) (by rw [HLL.out]; exact hask.1)
                      rw [HLL.out] at h1
                      exact h1
                    have hll : ld.length = n := by have := congrArg List.length hsame; rw [List.length_map, List.length_map, ← HN.out.1] at this; exact this
                    have HG := same_leaves cd c2 HDc.out.leaves (show LeavesAt wc A2 lv from (show OwnLv wc w.heap.size (.slice A2 lv.length c2) lv by rw [← HN.out.1]; exact HFc.out.mad.own).leaves) (by rw [hll]; have := HN.out.2.1; omega)
                    rw [hsame, decide_eq_true rfl, ← HN.out.1, ← HD.out.1] at HG
                    have hnn : (askM n s3).isNone = true := by rw [hask.1]; rfl
                    have HE := Lib.hid HFc.out.mad.ink.upd
                    clear hcb hn hask hsame hll HFc HDc
                    go_wp2_with fail
                    refine HG.mono ?_
                    clear HG
                    rintro e we ⟨rfl, hue⟩
                    have HZ := Lib.hid (show Kept w we from HE.out.then hue (fun _ _ h => h))
                    clear hue HE hnn
                    go_wp2
                    go_ret
                    exact ⟨rfl, HZ.out⟩
set_option maxRecDepth 100000 in
theorem FetchJust_lifted (os : Os) (started : os.Started) (H : Type) (enc : TypeId × Value → H) :
    ReturnsInHanded {} Try.checked os 17 .any (Rows.fetchJustSpec.pre6 enc Try.prog Try.f17 Rows.fetchJustRow.domain false) (Rows.fetchJustSpec.post enc Try.prog Try.f17 false true false false) := by
  refine law_lifted os started Try.func17 (by kernel_rfl) rfl rfl (by kernel_rfl) ?_
    (ChangeSpec.witness6 (enc := enc) (C := Try.checked) false ⟨#[], #[.slice none 0 0, .slice none 0 0, .slice none 0 0], []⟩ 8 (by kernel_rfl) (by kernel_rfl) (by kernel_rfl) (by kernel_rfl)) ?_
  · intro ds h
    rw [Try.params17] at h
    match ds, h with
    | [d0, d1, d2], _ => rfl
  · intro W base args ds ps hval hA hsz
    rw [Try.params17] at hA hval hsz
    obtain ⟨v0, vs0, d0, ds0, p0, q0, hargs, rfl, rfl, h0, r_0⟩ := trodAll_cons hA
    obtain ⟨v1, vs1, d1, ds1, p1, q1, rfl, rfl, rfl, h1, r_1⟩ := trodAll_cons r_0
    obtain ⟨v2, vs2, d2, ds2, p2, q2, rfl, rfl, rfl, h2, r_2⟩ := trodAll_cons r_1
    obtain ⟨rfl, rfl, rfl⟩ := trodAll_nil r_2
    obtain rfl : args = #[v0, v1, v2] := by cases args; simp_all
    obtain ⟨A0, n0, c0, rfl⟩ := okWide_slice Try.underlying52 (hval 0 52 v0 rfl rfl)
    have r0 := ReadsAs.of_trod hsz (j := 0) rfl rfl h0
    obtain ⟨A1, n1, c1, rfl⟩ := okWide_slice Try.underlying52 (hval 1 52 v1 rfl rfl)
    have r1 := ReadsAs.of_trod hsz (j := 1) rfl rfl h1
    obtain ⟨A2, n2, c2, rfl⟩ := okWide_slice Try.underlying132 (hval 2 132 v2 rfl rfl)
    have r2 := ReadsAs.of_trod hsz (j := 2) rfl rfl h2
    obtain ⟨A, c, l, hcs, hl, _, hmx⟩ := open_leaves r0
    simp only [Value.cells, List.cons.injEq, Value.slice.injEq, and_true] at hcs
    obtain ⟨rfl, rfl, rfl⟩ := hcs
    obtain ⟨A1, c1, lh, hcs1, hlh, _, hmx1⟩ := open_leaves r1
    simp only [Value.cells, List.cons.injEq, Value.slice.injEq, and_true] at hcs1
    obtain ⟨rfl, rfl, rfl⟩ := hcs1
    obtain ⟨A2, c2, dl, hcs2, hdl, _⟩ := open_deeds r2
    simp only [Value.cells, List.cons.injEq, Value.slice.injEq, and_true] at hcs2
    obtain ⟨rfl, rfl, rfl⟩ := hcs2
    exact FetchJust_walk _ _ _ _ _ _ l lh dl W hl hmx hlh hmx1 hdl

theorem FetchJust_holds : Rows.FetchJustSaid :=
  OpenClaim.holds_of_wide 17 Try.f17 rfl rfl rfl rfl rfl rfl rfl ⟨rfl, rfl, rfl, rfl, rfl⟩ rfl rfl rfl rfl rfl (by kernel_rfl) Try.func17 (by kernel_rfl)
    (of_decide_eq_true (by kernel_rfl)) (by unfold Func.isWrapper; first | (rw [if_pos (by decide +kernel)]; kernel_rfl) | (rw [if_neg (by decide +kernel)]; exact ⟨rfl, rfl⟩))
    (fun os started H enc _ => FetchJust_lifted os started H enc)
end Go.Proofs.Ytnncpjekcljfbaa
