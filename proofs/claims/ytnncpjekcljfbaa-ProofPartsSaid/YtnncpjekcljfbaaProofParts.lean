/- A tree's parts fit what they are made into, and its leaves theirs: the statement ProofParts holds, of all leaves. -/
import Derived.Test.YtnncpjekcljfbaaSetF
namespace Go.Proofs.Ytnncpjekcljfbaa
open Go.ChangeShapes Go.WideShapes Go.ChangeAt Go.RowKit

attribute [local irreducible] wpOrd
set_option maxHeartbeats 1600000 in
set_option maxRecDepth 20000 in
theorem ProofParts_walk (A : Option Addr) (c : Nat) (l : List (SlC × Bytes)) (w : World) (hl : LeavesAt w A l) (hlm : l.length ≤ 140737488351232) :
    Calls Try.prog 11 #[.slice A l.length c] w fun e w' => e = .returned (.bool true) ∧ Kept w w' := by
  have hnot : ∀ (x : Bool) (w : World), (Op.unary .not (.bool x)).run Try.prog w = .ok (.bool (!x)) w := fun _ _ => rfl
  have HX := Lib.hid (And.intro hl hlm)
  clear hl hlm
  obtain ⟨nl, hnl⟩ : ∃ nl, nl = l.length := ⟨_, rfl⟩
  rw [← hnl]
  have HNL := Lib.hid hnl
  clear hnl
  go_enter Try.func11, Try.ntmps11
  go_wp2_with fail
  refine (law_works10 _).mono ?_
  rintro e w1 ⟨rfl, hu⟩
  have HU := Lib.hid (hu)
  clear hu
  go_wp2_with fail
  refine (law_book _).mono ?_
  rintro e w2 ⟨b, r, q, rfl, hI⟩
  have HI := Lib.hid (hI.back HU.out)
  clear hI HU
  go_wp2_with fail
  rcases Nat.eq_zero_or_pos nl with h0 | h0
  · skip
    subst h0
    have HG := bastidelaw10_made_none (w := w2) (p := some ⟨b, 0, none⟩) (A := A) c
    refine HG.mono ?_
    clear HG
    rintro e w3 ⟨rfl, hu⟩
    have HF := Lib.hid (HI.out.kept hu).upd
    clear hu HI
    go_wp2
    go_ret
    exact ⟨rfl, HF.out⟩
  · skip
    have HG := bastidelaw10_made HI.out (l := l) (A := A) c (fun W hW => HX.out.1.kept (HI.out.keeps hW)) (by rw [← HNL.out]; exact h0) HX.out.2
    rw [← HNL.out] at HG
    have hnl0 : ¬ ((nl : Int) = 0) := by omega
    replace HI := Lib.hid HI.out.book
    refine HG.mono ?_
    clear HG
    rintro e w3 ⟨t, rfl, lo, hi, L, hM, -, hum⟩
    have HM := Lib.hid hM
    have HUM := Lib.hid hum
    have HLS := Lib.hid (show (bytesL l).length = min 40 nl by rw [bytesL_length, HNL.out])
    clear hM hum
    obtain ⟨n, hn⟩ : ∃ n, n = (bytesL l).length := ⟨_, rfl⟩
    have HN := Lib.hid (And.intro hn (show 1 ≤ n ∧ n ≤ 40 ∧ n ≤ nl by rw [hn, HLS.out]; omega))
    clear hn
    obtain ⟨D, hD⟩ : ∃ D, D = (bytesL l).map (leafM shaM) := ⟨_, rfl⟩
    have HD := Lib.hid (And.intro hD (show D.length = n by rw [hD, List.length_map, HN.out.1]))
    obtain ⟨dp, hdp⟩ : ∃ dp, dp = depthM n := ⟨_, rfl⟩
    have HDP := Lib.hid (And.intro hdp (show dp ≤ 41 by rw [hdp]; have := depthM_le n D HD.out.2; have := HN.out; omega))
    clear hD hdp
    go_wp2_with fail
    go_loopw [5] (fun u1 wr => ∃ (k : Nat) (L' : List Bytes), k ≤ dp ∧ u1 = .int .i64 k ∧ Made w wr b r q lo hi t L' (bytesL l)) (fun u1 _ => 2000 - (intOf u1).toNat)
    case atStart => exact ⟨0, L, Nat.zero_le _, rfl, HM.out⟩
    case round =>
      clear HM HUM HI
      obtain ⟨k, L', hk, rfl, hM⟩ := hrel
      have HM := Lib.hid hM
      clear hM
      have HG := tree_Depth HM.out.tree
      rw [← HD.out.1, HD.out.2, ← HDP.out.1] at HG
      rcases Nat.lt_or_ge k dp with hlt | hge
      · have hk1 : (k : Int) < (dp : Int) := by omega
        have hk5 : (k : Int) ≤ 41 := by have := HDP.out.2; omega
        have HK := Lib.hid hlt
        clear hlt hk
        go_wp2_with fail
        refine HG.mono ?_
        clear HG
        rintro e W ⟨rfl, rfl⟩
        obtain ⟨lv, hlv, hlvl⟩ := levelsM_at HD.out.2 (by rw [← HDP.out.1]; exact HK.out) HN.out.2.1
        have hne := HM.out.tree.ne (m := k) (l := lv) (by rw [← HD.out.1]; exact hlv)
        have HLV := Lib.hid (And.intro hlv (And.intro hlvl hne))
        have HG := tree_Level HM.out.tree k (l := lv) (by rw [← HD.out.1]; exact hlv) (by have := HN.out; omega)
        clear hlv hlvl
        go_wp2_with fail
        refine HG.mono ?_
        clear HG
        rintro e w4 ⟨v4, rfl, hv4, hu4⟩
        obtain ⟨g4, c4, rfl, hg4, -⟩ := own_form hv4 hne
        have HM4 := Lib.hid (HM.out.kept hu4)
        have HV4 := Lib.hid hv4
        obtain ⟨ln, hln⟩ : ∃ ln, ln = lv.length := ⟨_, rfl⟩
        rw [← hln]
        have HLN := Lib.hid (And.intro hln (show ln ≤ 40 by rw [hln]; have := HLV.out.2.1; have := HN.out; omega))
        rw [← hln] at HV4
        clear hne hv4 hu4 HM hln hg4
        go_wp2_with fail
        go_loopw [8] (fun u1 wr => ∃ (i : Nat) (L' : List Bytes), i ≤ ln ∧ u1 = .int .i64 i ∧ Made w wr b r q lo hi t L' (bytesL l) ∧ OwnD wr 0 (.slice (some ⟨g4, 0, none⟩) ln c4) lv) (fun u1 _ => 2000 - (intOf u1).toNat)
        case atStart => exact ⟨0, L', Nat.zero_le _, rfl, HM4.out, own_base HV4.out (Nat.zero_le _)⟩
        case round =>
          clear HM4 HV4
          obtain ⟨i, L'', hi', rfl, hM, hV⟩ := hrel
          rcases Nat.lt_or_ge i ln with hilt | hige
          · have hi1 : (i : Int) < (ln : Int) := by omega
            have hi5 : (i : Int) ≤ 40 := by have := HLN.out.2; omega
            have HM := Lib.hid hM
            have HV := Lib.hid hV
            have HI' := Lib.hid hilt
            have hil : i < lv.length := by rw [← HLN.out.1]; exact hilt
            obtain ⟨x, hx⟩ : ∃ x, x = lv[i] := ⟨_, rfl⟩
            have HX' := Lib.hid (show lv[i]? = some x by rw [List.getElem?_eq_getElem hil, hx])
            clear hM hV hi' hilt
            have hVV : ∀ W, Upd (Book3 b r q) wr W → OwnD W 0 (.slice (some ⟨g4, 0, none⟩) ln c4) lv := fun W hW => OwnRows.upd HV.out hW (fun k e => by
              obtain ⟨cur, hc⟩ := own_cells HV.out e
              exact HM.out.ink.book.not hc (by decide))
            have hseg : ∀ W, Upd (Book3 b r q) wr W → segB W ⟨g4, i * 32, none⟩ 32 = true ∧ segV W ⟨g4, i * 32, none⟩ 32 = dA x := fun W hW => by
              rw [hx]; exact OwnD.seg (hVV W hW) hil
            have f1 : ∀ W, Upd (Book3 b r q) wr W → segB W ⟨g4, i * 32, none⟩ 32 = true := fun W hW => (hseg W hW).1
            have f2 : ∀ W, Upd (Book3 b r q) wr W → segV W ⟨g4, i * 32, none⟩ 32 = dA x := fun W hW => (hseg W hW).2
            replace hVV := Lib.hid hVV
            clear hseg hx
            by_cases hk0 : k = 0
            · have hlD : lv = D := by
                obtain ⟨tl, h1, _⟩ := levelsM_head D
                have h2 := HLV.out.1
                rw [hk0, h1] at h2
                exact (Option.some.inj h2).symm
              have hib : i < (bytesL l).length := by
                have h1 := HD.out.1
                rw [hlD, h1, List.length_map] at hil
                exact hil
              obtain ⟨hil2, hbi⟩ := bytesL_at hib
              have hxl : leafM shaM (l[i].2.take 100) = x := by
                have h1 := HX'.out
                rw [hlD, HD.out.1, List.getElem?_map, List.getElem?_eq_getElem hib, hbi] at h1
                exact Option.some.inj h1
              obtain ⟨g1, o1, A1, c1, hA1, hcap, hRm, hcell⟩ := leaf_cell HX.out.1 hil2
              have hin1 : (i : Int) < (nl : Int) := by have := HNL.out; omega
              have hin2 : i < nl := by have := HNL.out; omega
              generalize l[i].2 = R1 at *
              obtain ⟨z, hz, hm1, hm2⟩ := min_num R1.length
              have hzl : (R1.take 100).length = z := by rw [List.length_take]; omega
              subst hA1
              have hsl : ∀ W : World, (Instr.sliceAt 35 (.slice A1 R1.length c1) none (some (.int .i64 (z : Int))) none).run Try.prog W = .ok (.slice A1 z c1) W := fun W => slice_u8_h W A1 R1.length c1 z (by omega)
              have f3 : ∀ W, Upd (Book3 b r q) wr W → W.cell? ⟨g1, o1 + i, none⟩ = some (.slice A1 R1.length c1) := fun W hW => (hcell W (HM.out.ink.keeps hW)).1
              have hq0 : ((k : Int) == 0) = true := by rw [hk0]; rfl
              have hud : Kept wr wr.drew := (Upd.refl _ _).drew
              have HG2 := proof_LeafFits (R := R1.take 100) (HM.out.ink.book.kept hud) c1 ((hcell wr.drew (HM.out.ink.upd.then hud (fun _ _ h => h))).2.take 100) (by omega) x
              rw [hzl, if_pos hxl] at HG2
              have HMd := Lib.hid (HM.out.kept hud)
              have HVd := hVV.out
              clear hil hlD hib hil2 hbi hxl hcell hzl hz hcap hRm hVV hk0
              go_wp2_with fail
              refine wp_region_ord [(0, true), (1, true), (2, true), (3, true), (4, true), (5, true), (6, true), (7, true), (8, true), (9, true), (10, true), (11, true), (12, true), (13, true), (14, true), (15, true), (16, false), (17, true)] (by kernel_rfl) (by kernel_rfl) (Upd (Book3 b r q) wr) (Upd.refl _ _).drew ?_
              simp only [ordOps, List.getD_cons_zero, List.getD_cons_succ]
              iterate 16 (refine wpOrd_held (fun K hK => ?_); go_simp; first | (apply Exists.intro; refine ⟨fun W hW => ?_, hK _ ?_⟩; (go_simp; first | done | exact rfl); clear hK K) | (refine hK _ ?_; clear hK K))
              clear f1 f2 f3 hsl hm1 hm2
              have hSd : Upd (Book3 b r q) wr wr.drew := hud.to
              generalize wr.drew = wd at *
              refine wpOrd_step (fun K hK => ?_) hSd
              go_simp
              refine HG2.mono ?_
              clear HG2
              rintro e we ⟨rfl, hb, hu⟩
              have hSe := hSd.trans hu
              have HF := Lib.hid (And.intro (HMd.out.to hb (fun x hx => mem_noteM.2 (.inl hx)) hu) (HVd we hSe))
              refine hK _ _ hSe ?_
              clear hK K hb hu HMd HVd hSd hud
              iterate 1 (refine wpOrd_held (fun K hK => ?_); go_simp; first | (apply Exists.intro; refine ⟨fun W hW => ?_, hK _ ?_⟩; (go_simp; first | done | exact rfl); clear hK K) | (refine hK _ ?_; clear hK K))
              refine wpOrd_nil ?_
              clear hSe
              go_wp2
              go_roundw
              case rel => exact ⟨i + 1, _, by have := HI'.out; omega, by show _ = _; go_num, HF.out.1, HF.out.2⟩
              case measure => have := HI'.out; have := HLN.out.2; simp [intOf]; omega
            · have hq0 : ((k : Int) == 0) = false := by simp; omega
              obtain ⟨k', rfl⟩ : ∃ k', k = k' + 1 := ⟨k - 1, by omega⟩
              obtain ⟨l0, hl0, hl0l⟩ := levelsM_at HD.out.2 (m := k') (by rw [← HDP.out.1]; have := HK.out; omega) HN.out.2.1
              obtain ⟨hla, hl1⟩ := levelsM_step k' D hl0 HLV.out.1
              have hup : i < up4 l0.length := by rw [hla, aboveM_length] at hil; exact hil
              have hxu : upM shaM (group l0 i) = x := by
                have h1 := HX'.out
                rw [hla, List.getElem?_eq_getElem (by rw [aboveM_length]; exact hup), aboveM_get] at h1
                exact Option.some.inj h1
              have hgl : 1 ≤ (group l0 i).length ∧ (group l0 i).length ≤ 4 := by rw [group_length]; unfold up4 at hup; omega
              have HG2 := proof_Parts HM.out.tree k' i (l := l0) (l1 := lv) (by rw [← HD.out.1]; exact hl0) (by rw [← HD.out.1]; exact HLV.out.1) hil
              obtain ⟨kk, hkk⟩ : ∃ kk, kk = k' + 1 := ⟨_, rfl⟩
              rw [← hkk] at HG2 hq0 hk1 hk5 ⊢
              have HKK := Lib.hid hkk
              clear hil hla hl1 hup hl0l hl0 hk0 hkk
              go_wp2_with fail
              refine HG2.mono ?_
              clear HG2
              rintro e w5 ⟨v5, rfl, hv5, hu5⟩
              obtain ⟨A5, c5, rfl, hc5, hd5⟩ := hv5.digs
              have p1 := f1 w5 hu5.to
              have p2 := f2 w5 hu5.to
              have HM5 := Lib.hid (HM.out.kept hu5)
              have HV5 := Lib.hid (hVV.out w5 hu5.to)
              have HG3 := proof_Fits HM5.out.ink.book c5 hd5 hgl.1 hgl.2 x
              rw [if_pos hxu] at HG3
              clear f1 f2 hVV hv5 hu5 hc5 hd5 hgl hxu
              generalize (group l0 i).length = gl at *
              go_wp2_with fail
              refine HG3.mono ?_
              clear HG3
              rintro e w6 ⟨rfl, hb, hu⟩
              have HF := Lib.hid (And.intro (HM5.out.to hb (fun x hx => mem_noteM.2 (.inl hx)) hu) (OwnRows.upd HV5.out hu (fun k e => by
                obtain ⟨cur, hc⟩ := own_cells HV5.out e
                exact HM5.out.ink.book.not hc (by decide))))
              clear HM5 HV5 hb hu p1 p2
              go_wp2
              go_roundw
              case rel => exact ⟨i + 1, _, by have := HI'.out; omega, by show _ = _; go_num, HF.out.1, HF.out.2⟩
              case measure => have := HI'.out; have := HLN.out.2; simp [intOf]; omega
          · have hi1 : ¬ ((i : Int) < (ln : Int)) := by omega
            have HF := Lib.hid hM
            clear hM hV hi' hige
            go_wp2
            go_roundw
            case rel => exact ⟨k + 1, L'', by have := HK.out; omega, by show _ = _; go_num, HF.out⟩
            case measure => have := HK.out; have := HDP.out.2; simp [intOf]; omega
      · obtain rfl : k = dp := by omega
        have hk1 : ¬ ((k : Int) < (k : Int)) := by omega
        have HF := Lib.hid HM.out.ink.upd
        clear hge hk
        go_wp2_with fail
        refine HG.mono ?_
        clear HG
        rintro e W ⟨rfl, rfl⟩
        clear HM
        go_wp2
        go_ret
        exact ⟨rfl, HF.out⟩
set_option maxRecDepth 100000 in
theorem ProofParts_lifted (os : Os) (started : os.Started) (H : Type) (enc : TypeId × Value → H) :
    ReturnsInHanded {} Try.checked os 11 .any (Rows.proofPartsSpec.pre6 enc Try.prog Try.f11 Rows.proofPartsRow.domain false) (Rows.proofPartsSpec.post enc Try.prog Try.f11 false true false false) := by
  refine law_lifted os started Try.func11 (by kernel_rfl) rfl rfl (by kernel_rfl) ?_
    (ChangeSpec.witness6 (enc := enc) (C := Try.checked) false ⟨#[], #[.slice none 0 0], []⟩ 8 (by kernel_rfl) (by kernel_rfl) (by kernel_rfl) (by kernel_rfl)) ?_
  · intro ds h
    rw [Try.params11] at h
    match ds, h with
    | [d0], _ => rfl
  · intro W base args ds ps hval hA hsz
    rw [Try.params11] at hA hval hsz
    obtain ⟨v0, vs0, d0, ds0, p0, q0, hargs, rfl, rfl, h0, r_0⟩ := trodAll_cons hA
    obtain ⟨rfl, rfl, rfl⟩ := trodAll_nil r_0
    obtain rfl : args = #[v0] := by cases args; simp_all
    obtain ⟨A0, n0, c0, rfl⟩ := okWide_slice Try.underlying52 (hval 0 52 v0 rfl rfl)
    have r0 := ReadsAs.of_trod hsz (j := 0) rfl rfl h0
    obtain ⟨A, c, l, hcs, hl, _, hmx⟩ := open_leaves r0
    simp only [Value.cells, List.cons.injEq, Value.slice.injEq, and_true] at hcs
    obtain ⟨rfl, rfl, rfl⟩ := hcs
    exact ProofParts_walk _ _ l W hl hmx

theorem ProofParts_holds : Rows.ProofPartsSaid :=
  OpenClaim.holds_of_wide 11 Try.f11 rfl rfl rfl rfl rfl rfl rfl ⟨rfl, rfl, rfl, rfl, rfl⟩ rfl rfl rfl rfl rfl (by kernel_rfl) Try.func11 (by kernel_rfl)
    (of_decide_eq_true (by kernel_rfl)) (by unfold Func.isWrapper; first | (rw [if_pos (by decide +kernel)]; kernel_rfl) | (rw [if_neg (by decide +kernel)]; exact ⟨rfl, rfl⟩))
    (fun os started H enc _ => ProofParts_lifted os started H enc)
end Go.Proofs.Ytnncpjekcljfbaa
