/- What is had already is not asked for: the statement FetchHad holds, of all leaves and whichever are others. -/
import Derived.Test.YtnncpjekcljfbaaSetS
import Derived.Test.YtnncpjekcljfbaaSetF
namespace Go.Proofs.Ytnncpjekcljfbaa
open Go.ChangeShapes Go.WideShapes Go.ChangeAt Go.RowKit

attribute [local irreducible] wpOrd
set_option maxHeartbeats 2000000 in
set_option maxRecDepth 20000 in
theorem FetchHad_walk (A Ai : Option Addr) (c ci : Nat) (l : List (SlC × Bytes)) (li : List Int) (w : World) (hl : LeavesAt w A l) (hlm : l.length ≤ 140737488351232) (hli : IntsAt w Ai li) :
    Calls Try.prog 18 #[.slice A l.length c, .slice Ai li.length ci] w fun e w' => e = .returned (.bool true) ∧ Kept w w' := by
  obtain ⟨ni, hni⟩ : ∃ ni, ni = li.length := ⟨_, rfl⟩
  rw [← hni]
  have HLI := Lib.hid (And.intro hli hni)
  clear hli hni
  -- FetchHad the law; here: hl : LeavesAt w A l, hlm : l.length ≤ ..; behind it: the tree is made; HM : Mad w w3 .. (.slice A2 n c2) lv, HLV : secs lv = cutB (secs l), n = lv.length; two goals: no leaves, some
  have hnot : ∀ (x : Bool) (w : World), (Op.unary .not (.bool x)).run Try.prog w = .ok (.bool (!x)) w := fun _ _ => rfl
  obtain ⟨nl, hnl⟩ : ∃ nl, nl = l.length := ⟨_, rfl⟩
  have HX := Lib.hid (And.intro hl (And.intro hlm hnl))
  rw [← hnl]
  clear hl hlm hnl
  go_enter Try.func18, Try.ntmps18
  go_wp2_with fail
  refine (law21_works _).mono ?_
  rintro e w1 ⟨rfl, hu1⟩
  have HG := law21_cut c (HX.out.1.kept hu1) HX.out.2.1
  rw [← HX.out.2.2] at HG
  have HU1 := Lib.hid hu1
  clear hu1
  go_wp2_with fail
  refine HG.mono ?_
  clear HG
  rintro e w2 ⟨v2, lv, rfl, hlv, hsl, hu2⟩
  obtain ⟨A2, c2, rfl⟩ := OwnRows.form hlv.1
  have hln : lv.length = min 60 nl := by
    have h1 := congrArg List.length hsl
    rw [cutB_length, List.length_map, List.length_map, ← HX.out.2.2] at h1
    exact h1
  rw [List.length_map] at hlv ⊢
  have HLV := Lib.hid (And.intro hlv (And.intro hsl hln))
  have HU2 := Lib.hid (show Kept w w2 from HU1.out.then hu2 (fun _ _ h => h))
  have hnm : lv.length ≤ 60 := by omega
  obtain ⟨n, hn⟩ : ∃ n, n = lv.length := ⟨_, rfl⟩
  rw [← hn]
  have HN := Lib.hid (And.intro hn (show n ≤ 60 ∧ (n = 0 → nl = 0) ∧ (1 ≤ n → nl ≠ 0) by omega))
  clear hlv hsl hln hu2 hn hnm
  go_wp2_with fail
  refine (law_book _).mono ?_
  rintro e w3 ⟨b, r, q, rfl, hI⟩
  have HI := Lib.hid hI
  clear hI
  go_wp2_with fail
  rcases Nat.eq_zero_or_pos n with h0 | h0
  · skip
    subst h0
    have hnl0 : nl = 0 := HN.out.2.2.1 (by simp)
    subst hnl0
    have HG := law21_made_none (w := w3) (p := some ⟨b, 0, none⟩) (A := A2) c2
    refine HG.mono ?_
    clear HG
    rintro e w4 ⟨rfl, hu⟩
    have HF := Lib.hid (show Kept w w4 from HU2.out.then (HI.out.upd.then hu (fun _ _ h => h)) (fun _ _ h => h))
    clear hu HI
    go_wp2
    go_ret
    exact ⟨rfl, HF.out⟩
  · skip
    have HG := law21_made (w0 := w) (l := lv) (A := A2) (HI.out.back HU2.out) c2 (((HLV.out.1.kept HI.out.upd)).low (HU1.out.size)) (by rw [← HN.out.1]; exact h0) (by rw [← HN.out.1]; exact HN.out.2.1) (by rw [HLV.out.2.1]; exact fun R hR => by have := cutB_len R hR; omega)
    rw [← HN.out.1] at HG
    have HN1 := Lib.hid h0
    refine HG.mono ?_
    clear HG
    rintro e w4 ⟨t, rfl, lo, hi, L, hM, -, -⟩
    have HM := Lib.hid hM
    clear hM HI h0
    have HLL := Lib.hid (show (secs lv).length = n by rw [List.length_map, ← HN.out.1])
    have HG := law21_cut c2 (show LeavesAt w4 A2 lv from (show OwnLv w4 w.heap.size (.slice A2 lv.length c2) lv by rw [← HN.out.1]; exact HM.out.own).leaves) (by rw [← HN.out.1]; have := HN.out.2.1; omega)
    rw [← HN.out.1] at HG
    go_wp2_with fail
    refine HG.mono ?_
    clear HG
    rintro e w5 ⟨vo, lo2, rfl, hlo2, hslo, hu5⟩
    obtain ⟨Ao, co, rfl⟩ := OwnRows.form hlo2.1
    have hslo2 : secs lo2 = secs lv := by rw [hslo, HLV.out.2.1, cutB_cut]
    have hlon : lo2.length = n := by have := congrArg List.length hslo2; rw [List.length_map, HLL.out] at this; exact this
    rw [List.length_map, hlon] at hlo2 ⊢
    obtain ⟨go, cgo, hgo, hgo1, hgo2, -⟩ := OwnS.cell hlo2.1 (k := 0) (by rw [List.length_map, hlon]; exact HN1.out)
    simp only [Value.slice.injEq] at hgo
    obtain ⟨rfl, -, -⟩ := hgo
    have H5 := Lib.hid (And.intro HM.out (And.intro hlo2 (And.intro hslo2 (And.intro hlon (And.intro hu5 (And.intro hgo1 hgo2))))))
    have HS5 := Lib.hid (show w.heap.size ≤ w4.heap.size from HM.out.ink.upd.size)
    clear HM hlo2 hslo hslo2 hlon hu5 hgo1 hgo2
    go_wp2_with fail
    go_loopw [10, 9] (fun u1 v9 wr => ∃ (k : Nat) (ul : List Nat) (lo2 : List (SlC × Bytes)), k ≤ 8 ∧ k ≤ ni ∧ u1 = .int .i64 (k : Int) ∧ Kept w4 wr ∧ OwnLv wr w4.heap.size (.slice (some ⟨go, 0, none⟩) n co) lo2 ∧ lo2.length = n ∧ (∀ R ∈ secs lo2, R.length ≤ 101) ∧ (∀ q, q < n → q ∉ ul → (secs lo2).getD q [] = (secs lv).getD q []) ∧ OwnRows inA 1 wr w5.heap.size 3 v9 ul ∧ ul.length = k ∧ (∀ q ∈ ul, q < n) ∧ w5.heap.size ≤ wr.heap.size) (fun u1 _ _ => 2000 - (intOf u1).toNat)
    case atStart => exact ⟨0, [], lo2, by omega, Nat.zero_le _, rfl, H5.out.2.2.2.2.1, H5.out.2.1, H5.out.2.2.2.1, by rw [H5.out.2.2.1, HLV.out.2.1]; exact fun R hR => by have := cutB_len R hR; omega, fun q _ _ => by rw [H5.out.2.2.1], OwnRows.nil _ _ _, rfl, fun _ h => absurd h List.not_mem_nil, Nat.le_refl _⟩
    case round =>
      obtain ⟨k, ul, lo3, hk, hkn, rfl, hu, hO, hln, hlen, hsame, hrow, hul, hulb, hsz⟩ := hrel
      obtain ⟨A9, c9, hv9⟩ := OwnRows.form hrow
      subst hv9
      by_cases hgo : k < ni ∧ k < 8
      · have hk1 : (k : Int) < (ni : Int) := by omega
        have hk2 : (k : Int) < 8 := by omega
        have hkd : k < li.length := by rw [← HLI.out.2]; exact hgo.1
        obtain ⟨gi, oi, hAi, hci, hwx⟩ := (HLI.out.1.kept (H5.out.1.ink.upd.then hu (fun _ _ h => h))) k hkd
        subst hAi
        generalize li[k] = x at *
        have HB := ref_Bring x (n : Int) hwx (by have := HN1.out; omega) (by have := HN.out.2.1; omega) wr
        obtain ⟨a, ha⟩ : ∃ a : Nat, x % (n : Int) = (a : Int) := ⟨(x % (n : Int)).toNat, by have := Int.emod_nonneg x (show (n : Int) ≠ 0 by have := HN1.out; omega); omega⟩
        have han : a < n := by have h1 := Int.emod_lt_of_pos x (show (0 : Int) < (n : Int) by have := HN1.out; omega); omega
        rw [ha] at HB
        have hai : (a : Int) < (n : Int) := by omega
        have hmd := H5.out.1.kept hu
        have hal : a < lv.length := by rw [← HN.out.1]; exact han
        obtain ⟨g1, o1, A1, c1, hA1, hc1, hR1, -⟩ := LeavesAt.get (l := lv) (show LeavesAt wr A2 lv from (show OwnLv wr w.heap.size (.slice A2 lv.length c2) lv by rw [← HN.out.1]; exact hmd.own).leaves) hal
        have hRl : lv[a].2.length ≤ 100 := by
          have h1 : lv[a].2 ∈ secs lv := List.mem_map_of_mem (List.getElem_mem hal)
          rw [HLV.out.2.1] at h1
          exact cutB_len _ h1
        subst hA1
        generalize lv[a].2 = R at *
        have HCp := ref_CopyBytes c1 hR1 (by omega)
        have HQ := Lib.hid (And.intro hgo (And.intro hu (And.intro hO (And.intro hln (And.intro hlen (And.intro hsame (And.intro hrow (And.intro hul (And.intro hulb (And.intro hsz (And.intro han hRl)))))))))))
        clear hgo hu hO hln hlen hsame hrow hul hulb hsz hkd hwx ha han hmd hal hRl hk hkn hR1
        go_wp2_with fail
        refine HB.mono ?_
        clear HB
        rintro e W ⟨rfl, rfl⟩
        go_wp2_with fail
        refine HCp.mono ?_
        clear HCp
        rintro e w7 ⟨v7, rfl, ho7, hu7⟩
        obtain ⟨A7, c7, rfl, -, -⟩ := ho7.form
        obtain ⟨v8, w8, hbs8, hB8, hk8⟩ := run_bs1 1 w7
        change (sliceRow 35 1 #[(0, .int .u8 1)]).run Try.prog w7 = _ at hbs8
        obtain ⟨A8, c8, rfl, hc8, hb8⟩ := byt_one hB8
        have HO8 := Lib.hid (And.intro (ho7.kept hk8) (And.intro hb8 (And.intro (show Kept wr w8 from hu7.then hk8 (fun _ _ h => h)) (show R.length ≤ 100 from HQ.out.2.2.2.2.2.2.2.2.2.2.2))))
        obtain ⟨ra, hra⟩ : ∃ ra, ra = R.length := ⟨_, rfl⟩
        clear ho7 hu7 hB8 hk8 hc8 hb8 hci hc1
        go_wp2_with (first | (at_builtin; refine wpList_append_bytes rfl (.tmp 66) (.tmp 67) rfl rfl HO8.out.1 A8 c8 rfl HO8.out.2.1 (by have := HO8.out.2.2.2; simp only [List.length_singleton]; omega) HO8.out.2.2.1.size ?_; intro v' w9 hown hu'; obtain ⟨Av, cv, hvv, -, -⟩ := hown.form; rw [List.length_append, List.length_singleton] at hvv; subst hvv; have hk9 : Kept wr w9 := HO8.out.2.2.1.then hu' (fun i hi e => by have := (HO8.out.1.far i e).1; omega); have hO9 := HQ.out.2.2.1.kept hk9; obtain ⟨g9, hg9, hL10, hf10, y10, hc10⟩ := hO9.put (k := a) (x := ⟨Av, R.length + 1, cv⟩) (R := R ++ [1]) (by rw [HQ.out.2.2.2.1]; exact HQ.out.2.2.2.2.2.2.2.2.2.2.1) (hown.low HQ.out.2.1.size) (by have := HO8.out.2.2.2; simp only [List.length_append, List.length_singleton]; omega); have hgg : g9 = go := (Option.some.inj hg9).symm; subst hgg; have hgb := H5.out.2.2.2.2.2; have hr10 := OwnRows.alloc (OwnRows.upd (OwnRows.upd HQ.out.2.2.2.2.2.2.1 hk9 (fun _ _ => id)) ((Upd.refl (fun j => j = g9) w9).setCell (p := ⟨g9, a, none⟩) (.slice Av (R.length + 1) cv) fun _ => rfl) (fun j e e2 => by have := (World.ownsRow.lt HQ.out.2.2.2.2.2.2.1 j e).1; omega)) (.cells #[.int .i64 (a : Int)] 3); have hn10 := heap_alloc_new (w9.setCell ⟨g9, a, none⟩ (.slice Av (R.length + 1) cv)) (.cells #[.int .i64 (a : Int)] 3); rw [World.size_setCell] at hn10; have hs10 : w5.heap.size ≤ ((w9.setCell ⟨g9, a, none⟩ (.slice Av (R.length + 1) cv)).alloc (.cells #[.int .i64 (a : Int)] 3)).heap.size := (Nat.le_trans HQ.out.2.2.2.2.2.2.2.2.2.1 (((hk9.to (S := fun j => j = g9)).setCell (p := ⟨g9, a, none⟩) (.slice Av (R.length + 1) cv) fun _ => rfl).alloc (.cells #[.int .i64 (a : Int)] 3)).size)) | (at_builtin; refine wpList_append_rows in_rows rfl (.tmp 70) (.tmp 72) rfl rfl hr10 a w9.heap.size 1 _ _ rfl hn10 (by have := HQ.out.2.2.2.2.2.2.2.1; have := HQ.out.1; unfold maxLen; omega) (by have := HQ.out.2.2.2.2.2.2.2.1; have := HQ.out.1; omega) hs10 ?_; intro v11 w11 hown11 hu11 hnew11))
        have hlow5 := HQ.out.2.2.2.2.2.2.2.2.2.1
        have hk11 : Kept w4 w11 := (((HQ.out.2.1.then hk9 (fun _ _ h => h)).setCell (p := ⟨g9, a, none⟩) (.slice Av (R.length + 1) cv) (fun h => by have h1 := H5.out.2.2.2.2.2.1; have h2 : g9 < w4.heap.size := h; omega)).alloc (.cells #[.int .i64 (a : Int)] 3)).then hu11 (fun j hj e => by
          have h1 := (World.ownsRow.lt HQ.out.2.2.2.2.2.2.1 j e).1
          have h2 := H5.out.2.2.2.2.1.size
          omega)
        have hL11 := (hL10.kept ((Upd.refl (fun _ => False) _).alloc (.cells #[.int .i64 (a : Int)] 3))).upd2 hu11 (fun j ⟨cs', t', fr', hc, ht⟩ e => by
          obtain ⟨cur, hc2⟩ := own_cells hr10 e
          rcases ht with rfl | rfl
          · exact cells_ne hc hc2 (by decide) rfl
          · exact cells_ne hc hc2 (by decide) rfl)
        have hs11 : w5.heap.size ≤ w11.heap.size := Nat.le_trans hs10 hu11.size
        have HF := Lib.hid (And.intro hk11 (And.intro hL11 (And.intro hown11 hs11)))
        clear hk11 hL11 hown11 hs11 hlow5 hu11 hnew11 hr10 hn10 hs10 hL10 hf10 hc10 hO9 hk9 hown hu' hgb
        go_roundw
        case rel =>
          obtain ⟨hgo, hu, hO, hln, hlen, hsame, hrow, hul, hulb, hsz, han, hRl⟩ := HQ.out
          refine ⟨k + 1, ul ++ [a], lo3.set a (⟨Av, R.length + 1, cv⟩, R ++ [1]), by omega, by omega, by show _ = _; go_num, HF.out.1, HF.out.2.1, by rw [List.length_set, hln], fun R' hR' => ?_, fun q hq hnq => ?_, HF.out.2.2.1, by rw [List.length_append, hul]; rfl, fun q hq => ?_, HF.out.2.2.2⟩
          · rw [secs, List.map_set] at hR'
            rcases List.mem_or_eq_of_mem_set hR' with h1 | h1
            · exact hlen R' h1
            · rw [h1]; simp only [List.length_append, List.length_singleton]; omega
          · have hqa : q ≠ a := fun e => hnq (List.mem_append_right _ (List.mem_singleton.2 e))
            rw [secs, List.map_set, List.getD_eq_getElem?_getD, List.getElem?_set_ne (fun e => hqa e.symm), ← List.getD_eq_getElem?_getD]
            exact hsame q hq (fun hm => hnq (List.mem_append_left _ hm))
          · rcases List.mem_append.1 hq with h1 | h1
            · exact hulb q h1
            · rw [List.mem_singleton.1 h1]; exact han
        case measure => have := HQ.out.1; simp [intOf]; omega
      · by_cases hkk : k < ni
        · have hk1 : (k : Int) < (ni : Int) := by omega
          have hk2 : ¬ (k : Int) < 8 := by omega
          clear hkk
          -- behind the first loop, in world wr: hu, hO, hln, hlen, hsame, hrow, hulb, hsz
          have HZ := Lib.hid (And.intro hlen (And.intro hsame (And.intro hulb (And.intro hln (show ul.length ≤ 8 by omega)))))
          obtain ⟨m9, hm9⟩ : ∃ m9, m9 = ul.length := ⟨_, rfl⟩
          rw [← hm9] at hrow ⊢
          have HM9 := Lib.hid hm9
          have hM := H5.out.1.kept hu
          have HR := Lib.hid (And.intro hM (And.intro hO hrow))
          have HG := tree_Root hM.tree
          obtain ⟨rt, hrt⟩ : ∃ rt, rt = rootM shaM ((secs lv).map (leafM shaM)) := ⟨_, rfl⟩
          rw [← hrt] at HG
          have hrt2 : rt = digL (secs lv) (depthM n - 1) 0 := by
            have h1 := digL_root (ls := secs lv) (by rw [List.length_map, ← HN.out.1]; exact HN1.out)
            rw [List.length_map, ← HN.out.1] at h1
            rw [hrt, h1]
          have HRT := Lib.hid hrt2
          clear hrt hrt2 hu hO hln hlen hsame hrow hul hulb hsz hM hm9 hgo hk hkn
          go_wp2_with fail
          refine HG.mono ?_
          clear HG
          rintro e wR ⟨rfl, huR⟩
          have hd6 : Blk (wR.alloc (.cells (dA rt) 46)) wR.heap.size 46 (encB (rt).1) := Blk.new wR _ _
          have hk6 : Kept wR (wR.alloc (.cells (dA rt) 46)) := (Upd.refl _ wR).alloc _
          have H6 := Lib.hid (And.intro ((HR.out.1.kept huR).kept hk6) (And.intro hd6 (And.intro ((HR.out.2.1.kept huR).kept hk6) (OwnRows.upd (OwnRows.upd HR.out.2.2 huR (fun _ _ => id)) hk6 (fun _ _ => id)))))
          clear HR huR hk6 hd6
          obtain ⟨p1, p2⟩ := dig_at H6.out.2.1
          have HG := fetch_Begin1 (l := lo3) (A := some ⟨go, 0, none⟩) H6.out.1.ink.book rt n HN1.out (by have := HN.out.2.1; omega) co HZ.out.2.2.2.1 (fun W hW => (show OwnLv W w4.heap.size (.slice (some ⟨go, 0, none⟩) lo3.length co) lo3 by rw [HZ.out.2.2.2.1]; exact H6.out.2.2.1.dull (Dull.book H6.out.1.ink.book) hW).leaves) (by
            intro p hp
            have h1 : p.2 ∈ secs lo3 := List.mem_map_of_mem hp
            have := HZ.out.1 _ h1; omega)
          rw [HZ.out.2.2.2.1] at HG
          go_wp2_with fail
          refine HG.mono ?_
          clear HG
          rintro e w7 ⟨f, rfl, ⟨B, m1, m2, gs, cs, hv, ov, hB, hF⟩, ⟨L7, hb7, hs7, hno7⟩, hu7⟩
          have hsl3 : (secs lo3).length = n := by rw [List.length_map]; exact HZ.out.2.2.2.1
          obtain ⟨hs, hhs⟩ : ∃ hs, hs = secs lo3 := ⟨_, rfl⟩
          rw [← hhs] at hF hno7 hsl3
          have HHS := Lib.hid (And.intro hhs hsl3)
          have H7 := Lib.hid (show FW w w7 b r q lo hi t L7 (.slice A2 n c2) lv B f m1 m2 rt (some hs) (begS n (some hs) rt) gs cs hv ov from ⟨H6.out.1.to hb7 hs7 hu7, by rw [← HN.out.1]; exact hF, Nat.le_trans H6.out.1.ink.upd.size hB⟩)
          have HOK : Hid (∀ L', (∀ x ∈ L7, x ∈ L') → NoCl L' → OldOk (secs lv) (some hs)) := fun L' hsub hn =>
            OldOk.of hn (H7.out.mad.noted.more hsub) (hno7.more hsub) (by rw [HLL.out]; exact HHS.out.2)
          have HRW := Lib.hid (show OwnRows inA 1 w7 w5.heap.size 3 (.slice A9 m9 c9) ul from OwnRows.upd H6.out.2.2.2 hu7 (fun k e => by obtain ⟨cur, hc⟩ := own_cells H6.out.2.2.2 e; exact H6.out.1.ink.book.not hc (by decide)))
          have hr7 : NoCl L7 → Real (secs lv) (begS n (some hs) rt) := fun hn => by
            have h1 := real_beg (HOK.out L7 (fun _ h => h) hn) (by rw [HLL.out]; exact HN1.out)
            rw [HLL.out, ← HRT.out] at h1
            exact h1
          have H8 := Lib.hid (And.intro (good_beg (O := some hs) HN1.out rt) (And.intro hr7 (hit_beg (O := some hs) HN1.out rt)))
          clear hb7 hs7 hu7 hF hB H6 p1 p2 hno7 hhs hsl3 hr7
          go_wp2_with fail
          go_loopw [16] (fun u1 wr => ∃ (i : Nat) (L' : List Bytes) (s : KM × BM), i ≤ 200 ∧ u1 = .int .i64 (i : Int) ∧ FW w wr b r q lo hi t L' (.slice A2 n c2) lv B f m1 m2 rt (some hs) s gs cs hv ov ∧ Good n s ∧ (∀ x ∈ L7, x ∈ L') ∧ (NoCl L' → Real (secs lv) s) ∧ HitCl n (some hs) s ∧ openC n s + i ≤ 2 * n ∧ OwnRows inA 1 wr w5.heap.size 3 (.slice A9 m9 c9) ul) (fun u1 _ => 2000 - (intOf u1).toNat)
          case atStart => exact ⟨0, L7, _, by omega, rfl, H7.out, H8.out.1, fun _ h => h, H8.out.2.1, H8.out.2.2, openC_le HN1.out _, HRW.out⟩
          case round =>
            clear H7 H8 HRW
            obtain ⟨i, L', s, hi', rfl, hF, hG, hL, hR, hH, hO, hrow⟩ := hrel
            have hi2 : i ≤ 120 := by have := HN.out.2.1; omega
            have hi1 : (i : Int) < 200 := by omega
            have HIK := Lib.hid hi2
            have HA := fetch_Ask hF.fet
            rw [← HN.out.1] at HA
            have HQ := Lib.hid (And.intro hF (And.intro hG (And.intro hL (And.intro hR (And.intro hH (And.intro hO hrow))))))
            clear hF hG hL hR hH hO hrow hi' hi2
            cases hask : askM n s with
            | none =>
              rw [hask] at HA
              unfold askV at HA
              have HAS := Lib.hid hask
              clear hask
              go_wp2_with fail
              refine HA.mono ?_
              clear HA
              rintro e w8 ⟨rfl, hu8⟩
              have HF8 := Lib.hid (HQ.out.1.kept hu8)
              have HD := fetch_Done HF8.out.fet (by rw [← HN.out.1]; exact HAS.out)
              rw [← HN.out.1] at HD
              clear hu8
              go_wp2_with fail
              refine HD.mono ?_
              clear HD
              rintro e wd ⟨vd, ld, rfl, hod, hsd, hud⟩
              obtain ⟨Ad, cd, rfl⟩ := OwnRows.form hod.1
              rw [List.length_map] at hod ⊢
              have HF := Lib.hid (HF8.out.kept hud)
              have hll : ld.length = n := by have := congrArg List.length hsd; rw [bytesM_length, List.length_map] at this; exact this
              have HG := same_leaves cd c2 hod.leaves (show LeavesAt wd A2 lv from (show OwnLv wd w.heap.size (.slice A2 lv.length c2) lv by rw [← HN.out.1]; exact HF.out.mad.own).leaves) (by rw [hll]; have := HN.out.2.1; omega)
              rw [← HN.out.1, hll] at HG
              rw [hll]
              have HSD := Lib.hid hsd
              clear hod hsd hud HF8 hll
              go_wp2_with fail
              refine HG.mono ?_
              clear HG
              rintro e we ⟨rfl, hue⟩
              replace HF := Lib.hid (HF.out.kept hue)
              clear hue
              by_cases hsame : secs ld = secs lv
              · rw [decide_eq_true hsame]
                have HE := Lib.hid HF.out.mad.ink.upd
                clear HF hsame
                go_wp2
                go_ret
                exact ⟨rfl, HE.out⟩
              · rw [decide_eq_false hsame]
                have HNO : Hid (¬ NoCl L') := fun hn => hsame (by
                  have h1 := done_real (HQ.out.2.2.2.1 hn) (by rw [HLL.out]; exact HQ.out.2.1) (by rw [HLL.out]; exact HN1.out) (by rw [HLL.out]; exact HAS.out)
                  rw [HLL.out] at h1
                  rw [← h1]; exact HSD.out)
                clear hsame
                go_wp2_with fail
                -- here: HF : FW w wr .. Lx .. ; HNO : ¬ NoCl Lx; the goal is at the call of Clash
                refine HF.out.clash.mono ?_
                rintro e wz ⟨cb, rfl, hcb, huz⟩
                have hct : cb = true := by
                  cases cb with
                  | true => rfl
                  | false => exact absurd (hcb rfl) HNO.out
                subst hct
                have HE := Lib.hid (HF.out.mad.ink.upd.then huz (fun _ _ h => h))
                clear hcb huz HF
                go_wp2
                go_ret
                exact ⟨rfl, HE.out⟩
            | some x =>
              obtain ⟨l0, p0⟩ := x
              rw [hask] at HA
              unfold askV at HA
              have hsm := askM_some hask
              have hl5 : (l0 : Int) ≤ 1025 := by have := depthM_small (n := n) (by have := HN.out.2.1; omega); omega
              have HAS := Lib.hid hask
              clear hask hsm
              go_wp2_with fail
              refine HA.mono ?_
              clear HA
              rintro e w8 ⟨rfl, hu8⟩
              have H8 := Lib.hid (And.intro (HQ.out.1.kept hu8) (OwnRows.upd HQ.out.2.2.2.2.2.2 hu8 (fun _ _ => id)))
              clear hu8
              have hm95 : (m9 : Int) ≤ 8 := by have h1 := HM9.out; have h2 := HZ.out.2.2.2.2; omega
              go_wp2_with fail
              go_loopw [23, 22] (fun u1 u2 wq => ∃ j : Nat, j ≤ m9 ∧ u1 = .int .i64 (j : Int) ∧ u2 = .bool (wayB (ul.take j) l0 p0) ∧ wq = w8) (fun u1 _ _ => 2000 - (intOf u1).toNat)
              case atStart => exact ⟨0, Nat.zero_le _, rfl, by simp [wayB], by trivial⟩
              case round =>
                obtain ⟨j, hj, rfl, rfl, rfl⟩ := hrel
                rcases Nat.lt_or_ge j m9 with hlt | hge
                · have hj1 : (j : Int) < (m9 : Int) := by omega
                  have hj5 : (j : Int) ≤ 8 := by omega
                  have hjl : j < ul.length := by rw [← HM9.out]; exact hlt
                  obtain ⟨gu, cu, hvu, -, -, t1, t2⟩ := OwnRows.get (f := inA) (n := 1) (fun _ => rfl) H8.out.2 hjl
                  simp only [Value.slice.injEq] at hvu
                  obtain ⟨rfl, -, rfl⟩ := hvu
                  have hyn : ul[j] < n := HZ.out.2.2.1 _ (List.getElem_mem hjl)
                  have hcu := cell_of_seg t1 0 (.int .i64 (ul[j] : Nat)) (by rw [t2]; rfl)
                  rw [add_none, Nat.mul_one, Nat.add_zero] at hcu
                  have htk : wayB (ul.take (j + 1)) l0 p0 = (wayB (ul.take j) l0 p0 || decide (ul[j] / 4 ^ l0 = p0)) := by
                    rw [List.take_succ_eq_append_getElem hjl, wayB_snoc]
                  generalize ul[j] = y0 at *
                  have HT := Lib.hid (And.intro htk (And.intro hlt hyn))
                  clear t1 t2 htk hlt hyn hjl hj
                  obtain ⟨wb, hwb⟩ : ∃ wb : Bool, wb = wayB (ul.take j) l0 p0 := ⟨_, rfl⟩
                  rw [← hwb]
                  have HWB := Lib.hid hwb
                  clear hwb
                  obtain ⟨wo, rfl⟩ : ∃ wo : World, wo = wr := ⟨_, rfl⟩
                  go_wp2_with fail
                  go_loopw [25, 24] (fun u1 u2 wq => ∃ m : Nat, m ≤ l0 ∧ u1 = .int .i64 (m : Int) ∧ u2 = .int .i64 ((y0 / 4 ^ m : Nat) : Int) ∧ wq = wo) (fun u1 _ _ => 2000 - (intOf u1).toNat)
                  case atStart => exact ⟨0, Nat.zero_le _, rfl, by simp, by trivial⟩
                  case round =>
                    obtain ⟨m, hm, rfl, rfl, rfl⟩ := hrel
                    have hdy : y0 / 4 ^ m ≤ 60 := Nat.le_trans (Nat.div_le_self _ _) (by have h1 := HT.out.2.2; have h2 := HN.out.2.1; omega)
                    obtain ⟨z, hz⟩ : ∃ z, z = y0 / 4 ^ m := ⟨_, rfl⟩
                    rw [← hz] at hdy ⊢
                    have hz4 : y0 / 4 ^ (m + 1) = z / 4 := by rw [div4, hz]
                    have HZ4 := Lib.hid hz4
                    have hq4 := quo4 z
                    have hz5 : (z : Int) ≤ 60 := by omega
                    have hz6 : ((z / 4 : Nat) : Int) ≤ 60 := by omega
                    rcases Nat.lt_or_ge m l0 with hlt | hge
                    · have hm1 : (m : Int) < (l0 : Int) := by omega
                      have HML := Lib.hid (And.intro hlt (show m ≤ 1025 by omega))
                      clear hz hdy hz4 hlt hm
                      go_wp2
                      go_roundw
                      case rel => exact ⟨m + 1, HML.out.1, by show _ = _; go_num, by rw [HZ4.out]; show _ = _; go_num, by trivial⟩
                      case measure => have := HML.out.2; simp [intOf]; omega
                    · obtain rfl : m = l0 := by omega
                      have hm1 : ¬ (m : Int) < (m : Int) := by omega
                      have HZE := Lib.hid hz
                      clear hz hdy hz4 hge hm
                      cases wb with
                      | true =>
                        have HW2 : Hid (wayB (ul.take (j + 1)) m p0 = true) := by
                          show _ = _
                          rw [HT.out.1, ← HWB.out]; rfl
                        go_wp2
                        go_roundw
                        case rel => exact ⟨j + 1, HT.out.2.1, by show _ = _; go_num, by rw [HW2.out], by trivial⟩
                        case measure => simp [intOf]; omega
                      | false =>
                        by_cases hzp : z = p0
                        · have HW2 : Hid (wayB (ul.take (j + 1)) m p0 = true) := by
                            show _ = _
                            rw [HT.out.1, ← HWB.out, ← HZE.out, hzp]; simp
                          subst hzp
                          go_wp2
                          go_roundw
                          case rel => exact ⟨j + 1, HT.out.2.1, by show _ = _; go_num, by rw [HW2.out], by trivial⟩
                          case measure => simp [intOf]; omega
                        · have HW2 : Hid (wayB (ul.take (j + 1)) m p0 = false) := by
                            show _ = _
                            rw [HT.out.1, ← HWB.out, ← HZE.out, decide_eq_false hzp]; rfl
                          have hzp2 : ((z : Int) == (p0 : Int)) = false := by simp; omega
                          have hzp3 : decide (z = p0) = false := decide_eq_false hzp
                          clear hzp
                          go_wp2
                          go_roundw
                          case rel => exact ⟨j + 1, HT.out.2.1, by show _ = _; go_num, by rw [HW2.out], by trivial⟩
                          case measure => simp [intOf]; omega
                · obtain rfl : j = m9 := by omega
                  have hj1 : ¬ (j : Int) < (j : Int) := by omega
                  have htl : ul.take j = ul := List.take_of_length_le (by rw [← HM9.out]; exact Nat.le_refl _)
                  rw [htl]
                  obtain ⟨wb, hwb⟩ : ∃ wb : Bool, wb = wayB ul l0 p0 := ⟨_, rfl⟩
                  rw [← hwb]
                  have HWB := Lib.hid hwb
                  have HG := law21_answers c2 (show FW w _ b r q lo hi t _ (.slice A2 lv.length c2) lv B f m1 m2 rt (some hs) _ gs cs hv ov by rw [← HN.out.1]; exact H8.out.1)
                  rw [← HN.out.1, HAS.out, show (some (l0, p0)).isSome = true from rfl] at HG
                  have HWAY : Hid (NoCl L' → wb = true) := fun hn => by
                    rw [HWB.out, wayB_iff]
                    exact had_way (ls := secs lv) (hs := hs) (by rw [HLL.out]; exact HHS.out.2) (HQ.out.2.2.2.1 hn) (by rw [HLL.out]; exact HQ.out.2.2.2.2.1) (by rw [HLL.out]; exact HAS.out) (fun y hy hm => by rw [HHS.out.1]; exact HZ.out.2.1 y (by rw [← HLL.out]; exact hy) hm)
                  have HTK := Lib.hid (fun hn => ans_taken (HQ.out.2.2.2.1 hn) H8.out.1.mad.len)
                  clear hwb htl hge hj
                  go_wp2_with fail
                  refine HG.mono ?_
                  clear HG
                  rintro e w9 ⟨rfl, ⟨L9, hF9, hs9⟩, hu9⟩
                  have HF := Lib.hid hF9
                  have HS9 := Lib.hid (And.intro hs9 (show OwnRows inA 1 w9 w5.heap.size 3 (.slice A9 j c9) ul from OwnRows.upd H8.out.2 hu9 (fun k e => by
                    obtain ⟨cur, hc⟩ := own_cells H8.out.2 e
                    exact (Dull.or (Dull.book H8.out.1.mad.ink.book) (Dull.maps H8.out.1.fet.k.map H8.out.1.fet.m.map)) k _ _ _ hc (by decide))))
                  clear hF9 hs9 hu9
                  cases wb with
                  | false =>
                    have HNO : Hid (¬ NoCl L9) := fun hn => absurd (HWAY.out (hn.less HS9.out.1)) (by decide)
                    go_wp2_with fail
                    -- here: HF : FW w wr .. Lx .. ; HNO : ¬ NoCl Lx; the goal is at the call of Clash
                    refine HF.out.clash.mono ?_
                    rintro e wz ⟨cb, rfl, hcb, huz⟩
                    have hct : cb = true := by
                      cases cb with
                      | true => rfl
                      | false => exact absurd (hcb rfl) HNO.out
                    subst hct
                    have HE := Lib.hid (HF.out.mad.ink.upd.then huz (fun _ _ h => h))
                    clear hcb huz HF
                    go_wp2
                    go_ret
                    exact ⟨rfl, HE.out⟩
                  | true =>
                    cases ht : ansT s (secs lv) with
                    | false =>
                      have HNO : Hid (¬ NoCl L9) := fun hn => by
                        have h1 := HTK.out (hn.less HS9.out.1)
                        rw [ht] at h1
                        exact absurd h1 (by decide)
                      clear ht
                      go_wp2_with fail
                      -- here: HF : FW w wr .. Lx .. ; HNO : ¬ NoCl Lx; the goal is at the call of Clash
                      refine HF.out.clash.mono ?_
                      rintro e wz ⟨cb, rfl, hcb, huz⟩
                      have hct : cb = true := by
                        cases cb with
                        | true => rfl
                        | false => exact absurd (hcb rfl) HNO.out
                      subst hct
                      have HE := Lib.hid (HF.out.mad.ink.upd.then huz (fun _ _ h => h))
                      clear hcb huz HF
                      go_wp2
                      go_ret
                      exact ⟨rfl, HE.out⟩
                    | true =>
                      have hg := ans_good (O := some hs) (ls := secs lv) (by rw [HLL.out]; exact HQ.out.2.1)
                      have ho := ans_open (O := some hs) (ls := secs lv) (by rw [HLL.out]; exact HQ.out.2.1) (by rw [HLL.out, HAS.out]; rfl) ht
                      have hh := ans_hit (O := some hs) (ls := secs lv) (s := s) (by rw [HLL.out]; exact HQ.out.2.2.2.2.1)
                      rw [HLL.out] at hg ho hh
                      have H9 := Lib.hid (And.intro hg (And.intro (show ∀ x ∈ L7, x ∈ L9 from fun x hx => HS9.out.1 x (HQ.out.2.2.1 x hx)) (And.intro (show NoCl L9 → Real (secs lv) (ansS (some hs) s (secs lv)) from fun hn => ans_real (HQ.out.2.2.2.1 (hn.less HS9.out.1)) (HOK.out L9 (fun x hx => HS9.out.1 x (HQ.out.2.2.1 x hx)) hn)) (And.intro hh ho))))
                      clear hg ho hh ht
                      go_wp2
                      go_roundw
                      case rel => exact ⟨i + 1, L9, _, by have := HIK.out; omega, by show _ = _; go_num, HF.out, H9.out.1, H9.out.2.1, H9.out.2.2.1, H9.out.2.2.2.1, by have h1 := H9.out.2.2.2.2; have h2 := HQ.out.2.2.2.2.2.1; omega, HS9.out.2⟩
                      case measure => have := HIK.out; simp [intOf]; omega
        · have hk1 : ¬ (k : Int) < (ni : Int) := by omega
          clear hkk
          -- behind the first loop, in world wr: hu, hO, hln, hlen, hsame, hrow, hulb, hsz
          have HZ := Lib.hid (And.intro hlen (And.intro hsame (And.intro hulb (And.intro hln (show ul.length ≤ 8 by omega)))))
          obtain ⟨m9, hm9⟩ : ∃ m9, m9 = ul.length := ⟨_, rfl⟩
          rw [← hm9] at hrow ⊢
          have HM9 := Lib.hid hm9
          have hM := H5.out.1.kept hu
          have HR := Lib.hid (And.intro hM (And.intro hO hrow))
          have HG := tree_Root hM.tree
          obtain ⟨rt, hrt⟩ : ∃ rt, rt = rootM shaM ((secs lv).map (leafM shaM)) := ⟨_, rfl⟩
          rw [← hrt] at HG
          have hrt2 : rt = digL (secs lv) (depthM n - 1) 0 := by
            have h1 := digL_root (ls := secs lv) (by rw [List.length_map, ← HN.out.1]; exact HN1.out)
            rw [List.length_map, ← HN.out.1] at h1
            rw [hrt, h1]
          have HRT := Lib.hid hrt2
          clear hrt hrt2 hu hO hln hlen hsame hrow hul hulb hsz hM hm9 hgo hk hkn
          go_wp2_with fail
          refine HG.mono ?_
          clear HG
          rintro e wR ⟨rfl, huR⟩
          have hd6 : Blk (wR.alloc (.cells (dA rt) 46)) wR.heap.size 46 (encB (rt).1) := Blk.new wR _ _
          have hk6 : Kept wR (wR.alloc (.cells (dA rt) 46)) := (Upd.refl _ wR).alloc _
          have H6 := Lib.hid (And.intro ((HR.out.1.kept huR).kept hk6) (And.intro hd6 (And.intro ((HR.out.2.1.kept huR).kept hk6) (OwnRows.upd (OwnRows.upd HR.out.2.2 huR (fun _ _ => id)) hk6 (fun _ _ => id)))))
          clear HR huR hk6 hd6
          obtain ⟨p1, p2⟩ := dig_at H6.out.2.1
          have HG := fetch_Begin1 (l := lo3) (A := some ⟨go, 0, none⟩) H6.out.1.ink.book rt n HN1.out (by have := HN.out.2.1; omega) co HZ.out.2.2.2.1 (fun W hW => (show OwnLv W w4.heap.size (.slice (some ⟨go, 0, none⟩) lo3.length co) lo3 by rw [HZ.out.2.2.2.1]; exact H6.out.2.2.1.dull (Dull.book H6.out.1.ink.book) hW).leaves) (by
            intro p hp
            have h1 : p.2 ∈ secs lo3 := List.mem_map_of_mem hp
            have := HZ.out.1 _ h1; omega)
          rw [HZ.out.2.2.2.1] at HG
          go_wp2_with fail
          refine HG.mono ?_
          clear HG
          rintro e w7 ⟨f, rfl, ⟨B, m1, m2, gs, cs, hv, ov, hB, hF⟩, ⟨L7, hb7, hs7, hno7⟩, hu7⟩
          have hsl3 : (secs lo3).length = n := by rw [List.length_map]; exact HZ.out.2.2.2.1
          obtain ⟨hs, hhs⟩ : ∃ hs, hs = secs lo3 := ⟨_, rfl⟩
          rw [← hhs] at hF hno7 hsl3
          have HHS := Lib.hid (And.intro hhs hsl3)
          have H7 := Lib.hid (show FW w w7 b r q lo hi t L7 (.slice A2 n c2) lv B f m1 m2 rt (some hs) (begS n (some hs) rt) gs cs hv ov from ⟨H6.out.1.to hb7 hs7 hu7, by rw [← HN.out.1]; exact hF, Nat.le_trans H6.out.1.ink.upd.size hB⟩)
          have HOK : Hid (∀ L', (∀ x ∈ L7, x ∈ L') → NoCl L' → OldOk (secs lv) (some hs)) := fun L' hsub hn =>
            OldOk.of hn (H7.out.mad.noted.more hsub) (hno7.more hsub) (by rw [HLL.out]; exact HHS.out.2)
          have HRW := Lib.hid (show OwnRows inA 1 w7 w5.heap.size 3 (.slice A9 m9 c9) ul from OwnRows.upd H6.out.2.2.2 hu7 (fun k e => by obtain ⟨cur, hc⟩ := own_cells H6.out.2.2.2 e; exact H6.out.1.ink.book.not hc (by decide)))
          have hr7 : NoCl L7 → Real (secs lv) (begS n (some hs) rt) := fun hn => by
            have h1 := real_beg (HOK.out L7 (fun _ h => h) hn) (by rw [HLL.out]; exact HN1.out)
            rw [HLL.out, ← HRT.out] at h1
            exact h1
          have H8 := Lib.hid (And.intro (good_beg (O := some hs) HN1.out rt) (And.intro hr7 (hit_beg (O := some hs) HN1.out rt)))
          clear hb7 hs7 hu7 hF hB H6 p1 p2 hno7 hhs hsl3 hr7
          go_wp2_with fail
          go_loopw [16] (fun u1 wr => ∃ (i : Nat) (L' : List Bytes) (s : KM × BM), i ≤ 200 ∧ u1 = .int .i64 (i : Int) ∧ FW w wr b r q lo hi t L' (.slice A2 n c2) lv B f m1 m2 rt (some hs) s gs cs hv ov ∧ Good n s ∧ (∀ x ∈ L7, x ∈ L') ∧ (NoCl L' → Real (secs lv) s) ∧ HitCl n (some hs) s ∧ openC n s + i ≤ 2 * n ∧ OwnRows inA 1 wr w5.heap.size 3 (.slice A9 m9 c9) ul) (fun u1 _ => 2000 - (intOf u1).toNat)
          case atStart => exact ⟨0, L7, _, by omega, rfl, H7.out, H8.out.1, fun _ h => h, H8.out.2.1, H8.out.2.2, openC_le HN1.out _, HRW.out⟩
          case round =>
            clear H7 H8 HRW
            obtain ⟨i, L', s, hi', rfl, hF, hG, hL, hR, hH, hO, hrow⟩ := hrel
            have hi2 : i ≤ 120 := by have := HN.out.2.1; omega
            have hi1 : (i : Int) < 200 := by omega
            have HIK := Lib.hid hi2
            have HA := fetch_Ask hF.fet
            rw [← HN.out.1] at HA
            have HQ := Lib.hid (And.intro hF (And.intro hG (And.intro hL (And.intro hR (And.intro hH (And.intro hO hrow))))))
            clear hF hG hL hR hH hO hrow hi' hi2
            cases hask : askM n s with
            | none =>
              rw [hask] at HA
              unfold askV at HA
              have HAS := Lib.hid hask
              clear hask
              go_wp2_with fail
              refine HA.mono ?_
              clear HA
              rintro e w8 ⟨rfl, hu8⟩
              have HF8 := Lib.hid (HQ.out.1.kept hu8)
              have HD := fetch_Done HF8.out.fet (by rw [← HN.out.1]; exact HAS.out)
              rw [← HN.out.1] at HD
              clear hu8
              go_wp2_with fail
              refine HD.mono ?_
              clear HD
              rintro e wd ⟨vd, ld, rfl, hod, hsd, hud⟩
              obtain ⟨Ad, cd, rfl⟩ := OwnRows.form hod.1
              rw [List.length_map] at hod ⊢
              have HF := Lib.hid (HF8.out.kept hud)
              have hll : ld.length = n := by have := congrArg List.length hsd; rw [bytesM_length, List.length_map] at this; exact this
              have HG := same_leaves cd c2 hod.leaves (show LeavesAt wd A2 lv from (show OwnLv wd w.heap.size (.slice A2 lv.length c2) lv by rw [← HN.out.1]; exact HF.out.mad.own).leaves) (by rw [hll]; have := HN.out.2.1; omega)
              rw [← HN.out.1, hll] at HG
              rw [hll]
              have HSD := Lib.hid hsd
              clear hod hsd hud HF8 hll
              go_wp2_with fail
              refine HG.mono ?_
              clear HG
              rintro e we ⟨rfl, hue⟩
              replace HF := Lib.hid (HF.out.kept hue)
              clear hue
              by_cases hsame : secs ld = secs lv
              · rw [decide_eq_true hsame]
                have HE := Lib.hid HF.out.mad.ink.upd
                clear HF hsame
                go_wp2
                go_ret
                exact ⟨rfl, HE.out⟩
              · rw [decide_eq_false hsame]
                have HNO : Hid (¬ NoCl L') := fun hn => hsame (by
                  have h1 := done_real (HQ.out.2.2.2.1 hn) (by rw [HLL.out]; exact HQ.out.2.1) (by rw [HLL.out]; exact HN1.out) (by rw [HLL.out]; exact HAS.out)
                  rw [HLL.out] at h1
                  rw [← h1]; exact HSD.out)
                clear hsame
                go_wp2_with fail
                -- here: HF : FW w wr .. Lx .. ; HNO : ¬ NoCl Lx; the goal is at the call of Clash
                refine HF.out.clash.mono ?_
                rintro e wz ⟨cb, rfl, hcb, huz⟩
                have hct : cb = true := by
                  cases cb with
                  | true => rfl
                  | false => exact absurd (hcb rfl) HNO.out
                subst hct
                have HE := Lib.hid (HF.out.mad.ink.upd.then huz (fun _ _ h => h))
                clear hcb huz HF
                go_wp2
                go_ret
                exact ⟨rfl, HE.out⟩
            | some x =>
              obtain ⟨l0, p0⟩ := x
              rw [hask] at HA
              unfold askV at HA
              have hsm := askM_some hask
              have hl5 : (l0 : Int) ≤ 1025 := by have := depthM_small (n := n) (by have := HN.out.2.1; omega); omega
              have HAS := Lib.hid hask
              clear hask hsm
              go_wp2_with fail
              refine HA.mono ?_
              clear HA
              rintro e w8 ⟨rfl, hu8⟩
              have H8 := Lib.hid (And.intro (HQ.out.1.kept hu8) (OwnRows.upd HQ.out.2.2.2.2.2.2 hu8 (fun _ _ => id)))
              clear hu8
              have hm95 : (m9 : Int) ≤ 8 := by have h1 := HM9.out; have h2 := HZ.out.2.2.2.2; omega
              go_wp2_with fail
              go_loopw [23, 22] (fun u1 u2 wq => ∃ j : Nat, j ≤ m9 ∧ u1 = .int .i64 (j : Int) ∧ u2 = .bool (wayB (ul.take j) l0 p0) ∧ wq = w8) (fun u1 _ _ => 2000 - (intOf u1).toNat)
              case atStart => exact ⟨0, Nat.zero_le _, rfl, by simp [wayB], by trivial⟩
              case round =>
                obtain ⟨j, hj, rfl, rfl, rfl⟩ := hrel
                rcases Nat.lt_or_ge j m9 with hlt | hge
                · have hj1 : (j : Int) < (m9 : Int) := by omega
                  have hj5 : (j : Int) ≤ 8 := by omega
                  have hjl : j < ul.length := by rw [← HM9.out]; exact hlt
                  obtain ⟨gu, cu, hvu, -, -, t1, t2⟩ := OwnRows.get (f := inA) (n := 1) (fun _ => rfl) H8.out.2 hjl
                  simp only [Value.slice.injEq] at hvu
                  obtain ⟨rfl, -, rfl⟩ := hvu
                  have hyn : ul[j] < n := HZ.out.2.2.1 _ (List.getElem_mem hjl)
                  have hcu := cell_of_seg t1 0 (.int .i64 (ul[j] : Nat)) (by rw [t2]; rfl)
                  rw [add_none, Nat.mul_one, Nat.add_zero] at hcu
                  have htk : wayB (ul.take (j + 1)) l0 p0 = (wayB (ul.take j) l0 p0 || decide (ul[j] / 4 ^ l0 = p0)) := by
                    rw [List.take_succ_eq_append_getElem hjl, wayB_snoc]
                  generalize ul[j] = y0 at *
                  have HT := Lib.hid (And.intro htk (And.intro hlt hyn))
                  clear t1 t2 htk hlt hyn hjl hj
                  obtain ⟨wb, hwb⟩ : ∃ wb : Bool, wb = wayB (ul.take j) l0 p0 := ⟨_, rfl⟩
                  rw [← hwb]
                  have HWB := Lib.hid hwb
                  clear hwb
                  obtain ⟨wo, rfl⟩ : ∃ wo : World, wo = wr := ⟨_, rfl⟩
                  go_wp2_with fail
                  go_loopw [25, 24] (fun u1 u2 wq => ∃ m : Nat, m ≤ l0 ∧ u1 = .int .i64 (m : Int) ∧ u2 = .int .i64 ((y0 / 4 ^ m : Nat) : Int) ∧ wq = wo) (fun u1 _ _ => 2000 - (intOf u1).toNat)
                  case atStart => exact ⟨0, Nat.zero_le _, rfl, by simp, by trivial⟩
                  case round =>
                    obtain ⟨m, hm, rfl, rfl, rfl⟩ := hrel
                    have hdy : y0 / 4 ^ m ≤ 60 := Nat.le_trans (Nat.div_le_self _ _) (by have h1 := HT.out.2.2; have h2 := HN.out.2.1; omega)
                    obtain ⟨z, hz⟩ : ∃ z, z = y0 / 4 ^ m := ⟨_, rfl⟩
                    rw [← hz] at hdy ⊢
                    have hz4 : y0 / 4 ^ (m + 1) = z / 4 := by rw [div4, hz]
                    have HZ4 := Lib.hid hz4
                    have hq4 := quo4 z
                    have hz5 : (z : Int) ≤ 60 := by omega
                    have hz6 : ((z / 4 : Nat) : Int) ≤ 60 := by omega
                    rcases Nat.lt_or_ge m l0 with hlt | hge
                    · have hm1 : (m : Int) < (l0 : Int) := by omega
                      have HML := Lib.hid (And.intro hlt (show m ≤ 1025 by omega))
                      clear hz hdy hz4 hlt hm
                      go_wp2
                      go_roundw
                      case rel => exact ⟨m + 1, HML.out.1, by show _ = _; go_num, by rw [HZ4.out]; show _ = _; go_num, by trivial⟩
                      case measure => have := HML.out.2; simp [intOf]; omega
                    · obtain rfl : m = l0 := by omega
                      have hm1 : ¬ (m : Int) < (m : Int) := by omega
                      have HZE := Lib.hid hz
                      clear hz hdy hz4 hge hm
                      cases wb with
                      | true =>
                        have HW2 : Hid (wayB (ul.take (j + 1)) m p0 = true) := by
                          show _ = _
                          rw [HT.out.1, ← HWB.out]; rfl
                        go_wp2
                        go_roundw
                        case rel => exact ⟨j + 1, HT.out.2.1, by show _ = _; go_num, by rw [HW2.out], by trivial⟩
                        case measure => simp [intOf]; omega
                      | false =>
                        by_cases hzp : z = p0
                        · have HW2 : Hid (wayB (ul.take (j + 1)) m p0 = true) := by
                            show _ = _
                            rw [HT.out.1, ← HWB.out, ← HZE.out, hzp]; simp
                          subst hzp
                          go_wp2
                          go_roundw
                          case rel => exact ⟨j + 1, HT.out.2.1, by show _ = _; go_num, by rw [HW2.out], by trivial⟩
                          case measure => simp [intOf]; omega
                        · have HW2 : Hid (wayB (ul.take (j + 1)) m p0 = false) := by
                            show _ = _
                            rw [HT.out.1, ← HWB.out, ← HZE.out, decide_eq_false hzp]; rfl
                          have hzp2 : ((z : Int) == (p0 : Int)) = false := by simp; omega
                          have hzp3 : decide (z = p0) = false := decide_eq_false hzp
                          clear hzp
                          go_wp2
                          go_roundw
                          case rel => exact ⟨j + 1, HT.out.2.1, by show _ = _; go_num, by rw [HW2.out], by trivial⟩
                          case measure => simp [intOf]; omega
                · obtain rfl : j = m9 := by omega
                  have hj1 : ¬ (j : Int) < (j : Int) := by omega
                  have htl : ul.take j = ul := List.take_of_length_le (by rw [← HM9.out]; exact Nat.le_refl _)
                  rw [htl]
                  obtain ⟨wb, hwb⟩ : ∃ wb : Bool, wb = wayB ul l0 p0 := ⟨_, rfl⟩
                  rw [← hwb]
                  have HWB := Lib.hid hwb
                  have HG := law21_answers c2 (show FW w _ b r q lo hi t _ (.slice A2 lv.length c2) lv B f m1 m2 rt (some hs) _ gs cs hv ov by rw [← HN.out.1]; exact H8.out.1)
                  rw [← HN.out.1, HAS.out, show (some (l0, p0)).isSome = true from rfl] at HG
                  have HWAY : Hid (NoCl L' → wb = true) := fun hn => by
                    rw [HWB.out, wayB_iff]
                    exact had_way (ls := secs lv) (hs := hs) (by rw [HLL.out]; exact HHS.out.2) (HQ.out.2.2.2.1 hn) (by rw [HLL.out]; exact HQ.out.2.2.2.2.1) (by rw [HLL.out]; exact HAS.out) (fun y hy hm => by rw [HHS.out.1]; exact HZ.out.2.1 y (by rw [← HLL.out]; exact hy) hm)
                  have HTK := Lib.hid (fun hn => ans_taken (HQ.out.2.2.2.1 hn) H8.out.1.mad.len)
                  clear hwb htl hge hj
                  go_wp2_with fail
                  refine HG.mono ?_
                  clear HG
                  rintro e w9 ⟨rfl, ⟨L9, hF9, hs9⟩, hu9⟩
                  have HF := Lib.hid hF9
                  have HS9 := Lib.hid (And.intro hs9 (show OwnRows inA 1 w9 w5.heap.size 3 (.slice A9 j c9) ul from OwnRows.upd H8.out.2 hu9 (fun k e => by
                    obtain ⟨cur, hc⟩ := own_cells H8.out.2 e
                    exact (Dull.or (Dull.book H8.out.1.mad.ink.book) (Dull.maps H8.out.1.fet.k.map H8.out.1.fet.m.map)) k _ _ _ hc (by decide))))
                  clear hF9 hs9 hu9
                  cases wb with
                  | false =>
                    have HNO : Hid (¬ NoCl L9) := fun hn => absurd (HWAY.out (hn.less HS9.out.1)) (by decide)
                    go_wp2_with fail
                    -- here: HF : FW w wr .. Lx .. ; HNO : ¬ NoCl Lx; the goal is at the call of Clash
                    refine HF.out.clash.mono ?_
                    rintro e wz ⟨cb, rfl, hcb, huz⟩
                    have hct : cb = true := by
                      cases cb with
                      | true => rfl
                      | false => exact absurd (hcb rfl) HNO.out
                    subst hct
                    have HE := Lib.hid (HF.out.mad.ink.upd.then huz (fun _ _ h => h))
                    clear hcb huz HF
                    go_wp2
                    go_ret
                    exact ⟨rfl, HE.out⟩
                  | true =>
                    cases ht : ansT s (secs lv) with
                    | false =>
                      have HNO : Hid (¬ NoCl L9) := fun hn => by
                        have h1 := HTK.out (hn.less HS9.out.1)
                        rw [ht] at h1
                        exact absurd h1 (by decide)
                      clear ht
                      go_wp2_with fail
                      -- here: HF : FW w wr .. Lx .. ; HNO : ¬ NoCl Lx; the goal is at the call of Clash
                      refine HF.out.clash.mono ?_
                      rintro e wz ⟨cb, rfl, hcb, huz⟩
                      have hct : cb = true := by
                        cases cb with
                        | true => rfl
                        | false => exact absurd (hcb rfl) HNO.out
                      subst hct
                      have HE := Lib.hid (HF.out.mad.ink.upd.then huz (fun _ _ h => h))
                      clear hcb huz HF
                      go_wp2
                      go_ret
                      exact ⟨rfl, HE.out⟩
                    | true =>
                      have hg := ans_good (O := some hs) (ls := secs lv) (by rw [HLL.out]; exact HQ.out.2.1)
                      have ho := ans_open (O := some hs) (ls := secs lv) (by rw [HLL.out]; exact HQ.out.2.1) (by rw [HLL.out, HAS.out]; rfl) ht
                      have hh := ans_hit (O := some hs) (ls := secs lv) (s := s) (by rw [HLL.out]; exact HQ.out.2.2.2.2.1)
                      rw [HLL.out] at hg ho hh
                      have H9 := Lib.hid (And.intro hg (And.intro (show ∀ x ∈ L7, x ∈ L9 from fun x hx => HS9.out.1 x (HQ.out.2.2.1 x hx)) (And.intro (show NoCl L9 → Real (secs lv) (ansS (some hs) s (secs lv)) from fun hn => ans_real (HQ.out.2.2.2.1 (hn.less HS9.out.1)) (HOK.out L9 (fun x hx => HS9.out.1 x (HQ.out.2.2.1 x hx)) hn)) (And.intro hh ho))))
                      clear hg ho hh ht
                      go_wp2
                      go_roundw
                      case rel => exact ⟨i + 1, L9, _, by have := HIK.out; omega, by show _ = _; go_num, HF.out, H9.out.1, H9.out.2.1, H9.out.2.2.1, H9.out.2.2.2.1, by have h1 := H9.out.2.2.2.2; have h2 := HQ.out.2.2.2.2.2.1; omega, HS9.out.2⟩
                      case measure => have := HIK.out; simp [intOf]; omega
set_option maxRecDepth 100000 in
theorem FetchHad_lifted (os : Os) (started : os.Started) (H : Type) (enc : TypeId × Value → H) :
    ReturnsInHanded {} Try.checked os 18 .any (Rows.fetchHadSpec.pre6 enc Try.prog Try.f18 Rows.fetchHadRow.domain false) (Rows.fetchHadSpec.post enc Try.prog Try.f18 false true false false) := by
  refine law_lifted os started Try.func18 (by kernel_rfl) rfl rfl (by kernel_rfl) ?_
    (ChangeSpec.witness6 (enc := enc) (C := Try.checked) false ⟨#[], #[.slice none 0 0, .slice none 0 0], []⟩ 8 (by kernel_rfl) (by kernel_rfl) (by kernel_rfl) (by kernel_rfl)) ?_
  · intro ds h
    rw [Try.params18] at h
    match ds, h with
    | [d0, d1], _ => rfl
  · intro W base args ds ps hval hA hsz
    rw [Try.params18] at hA hval hsz
    obtain ⟨v0, vs0, d0, ds0, p0, q0, hargs, rfl, rfl, h0, r_0⟩ := trodAll_cons hA
    obtain ⟨v1, vs1, d1, ds1, p1, q1, rfl, rfl, rfl, h1, r_1⟩ := trodAll_cons r_0
    obtain ⟨rfl, rfl, rfl⟩ := trodAll_nil r_1
    obtain rfl : args = #[v0, v1] := by cases args; simp_all
    obtain ⟨A0, n0, c0, rfl⟩ := okWide_slice Try.underlying52 (hval 0 52 v0 rfl rfl)
    have r0 := ReadsAs.of_trod hsz (j := 0) rfl rfl h0
    obtain ⟨A1, n1, c1, rfl⟩ := okWide_slice Try.underlying127 (hval 1 127 v1 rfl rfl)
    have r1 := ReadsAs.of_trod hsz (j := 1) rfl rfl h1
    obtain ⟨A, c, l, hcs, hl, _, hmx⟩ := open_leaves r0
    simp only [Value.cells, List.cons.injEq, Value.slice.injEq, and_true] at hcs
    obtain ⟨rfl, rfl, rfl⟩ := hcs
    obtain ⟨A1, c1, li, hcs1, hli, _⟩ := open_ints r1
    simp only [Value.cells, List.cons.injEq, Value.slice.injEq, and_true] at hcs1
    obtain ⟨rfl, rfl, rfl⟩ := hcs1
    exact FetchHad_walk _ _ _ _ l li W hl hmx hli

theorem FetchHad_holds : Rows.FetchHadSaid :=
  OpenClaim.holds_of_wide 18 Try.f18 rfl rfl rfl rfl rfl rfl rfl ⟨rfl, rfl, rfl, rfl, rfl⟩ rfl rfl rfl rfl rfl (by kernel_rfl) Try.func18 (by kernel_rfl)
    (of_decide_eq_true (by kernel_rfl)) (by unfold Func.isWrapper; first | (rw [if_pos (by decide +kernel)]; kernel_rfl) | (rw [if_neg (by decide +kernel)]; exact ⟨rfl, rfl⟩))
    (fun os started H enc _ => FetchHad_lifted os started H enc)
end Go.Proofs.Ytnncpjekcljfbaa
