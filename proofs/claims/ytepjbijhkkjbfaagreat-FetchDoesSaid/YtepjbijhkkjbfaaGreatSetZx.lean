import Derived.Test.YtepjbijhkkjbfaaGreatSetZw
import Derived.Test.YtepjbijhkkjbfaaGreatSetZp
set_option linter.unusedVariables false
set_option linter.unusedSimpArgs false
namespace Go.Proofs.YtepjbijhkkjbfaaGreat
open Go.RowKit
variable {Tu : Nat → Prop}
attribute [local irreducible] wpOrd
section
variable {w : World} {g c n : Nat} {root : Dig} {O : Option (List Bytes)} {s : KM × BM} {X : RX} {L : List Bytes} {A : Option Addr} {D : List Dig}
theorem partsS_no (lv pl : Int) (h : partsE n s lv pl D ≠ 0) : partsS n O s lv pl D = s := by unfold partsS; rw [if_neg h]
theorem partsE_out (lv pl : Int) (h : ¬ (1 ≤ lv ∧ lv < depthM n ∧ 0 ≤ pl ∧ pl < sizeL n lv.toNat)) : partsE n s lv pl D = 9 := by unfold partsE; rw [if_pos h]
set_option maxHeartbeats 2000000 in
set_option maxRecDepth 20000 in
theorem ref_FParts_out (h : RB Tu w g c n root O s X L) (lv pl : Int) (hp : ¬ (1 ≤ lv ∧ lv < depthM n ∧ 0 ≤ pl ∧ pl < sizeL n lv.toNat)) (k : Nat) :
    Calls Tryz.prog 14 #[.pointer (some ⟨g, 0, none⟩), .int .i64 lv, .int .i64 pl, .slice A D.length k] w fun e W => e = .returned (.int .i64 (partsE n s lv pl D)) ∧ (∃ L', L'.length ≤ L.length + 1 ∧ RB Tu W g c n root O (partsS n O s lv pl D) X L') ∧ Upd (fun k => ¬ Tu k) w W := by
  have c33 := h.f.cells.2.1; have HE := Lib.hid (And.intro (partsE_out (n := n) (s := s) (D := D) lv pl hp) (partsS_no (n := n) (s := s) (D := D) (O := O) lv pl (by rw [partsE_out lv pl hp]; decide))); have HX := Lib.hid h
  by_cases h0 : lv < 1
  · have d0 : decide (lv < 1) = true := decide_eq_true h0
    clear h hp h0
    go_enter Tryz.func14, Tryz.ntmps14
    go_wp2
    go_ret
    exact ⟨by rw [HE.out.1]; rfl, ⟨L, Nat.le_succ _, by rw [HE.out.2]; exact HX.out⟩, Upd.refl _ _⟩
  · have d0 : decide (lv < 1) = false := decide_eq_false h0
    by_cases h1 : (depthM n : Int) ≤ lv
    · have d1 : decide ((depthM n : Int) ≤ lv) = true := decide_eq_true h1
      clear h hp h0 h1
      go_enter Tryz.func14, Tryz.ntmps14
      go_wp2
      go_ret
      exact ⟨by rw [HE.out.1]; rfl, ⟨L, Nat.le_succ _, by rw [HE.out.2]; exact HX.out⟩, Upd.refl _ _⟩
    · have d1 : decide ((depthM n : Int) ≤ lv) = false := decide_eq_false h1
      by_cases h2 : pl < 0
      · have d2 : decide (pl < 0) = true := decide_eq_true h2
        clear h hp h0 h1 h2
        go_enter Tryz.func14, Tryz.ntmps14
        go_wp2
        go_ret
        exact ⟨by rw [HE.out.1]; rfl, ⟨L, Nat.le_succ _, by rw [HE.out.2]; exact HX.out⟩, Upd.refl _ _⟩
      · have d2 : decide (pl < 0) = false := decide_eq_false h2
        obtain ⟨l, rfl⟩ : ∃ l : Nat, lv = l := ⟨lv.toNat, by omega⟩; have hll : (l : Int) < (depthM n : Int) := by omega
        have c2 := h.f.size (l := l) (by omega); rw [Int.toNat_natCast] at hp; have d3 : decide ((sizeL n l : Int) ≤ pl) = true := decide_eq_true (by omega); clear h hp h0 h1 h2
        go_enter Tryz.func14, Tryz.ntmps14
        go_wp2
        go_ret
        exact ⟨by rw [HE.out.1]; rfl, ⟨L, Nat.le_succ _, by rw [HE.out.2]; exact HX.out⟩, Upd.refl _ _⟩
set_option maxHeartbeats 4000000 in
set_option maxRecDepth 20000 in
theorem ref_FParts_in (h : RB Tu w g c n root O s X L) (hM : L.length ≤ 90000) (l p : Nat) (hl : l + 1 < depthM n) (hp : p < sizeL n (l + 1)) (k : Nat) (hD : ∀ W', Upd (fun k => ¬ Tu k) w W' → Digs W' A D) :
    Calls Tryz.prog 14 #[.pointer (some ⟨g, 0, none⟩), .int .i64 ((l + 1 : Nat) : Int), .int .i64 (p : Int), .slice A D.length k] w fun e W => e = .returned (.int .i64 (partsE n s ((l + 1 : Nat) : Int) p D)) ∧ (∃ L', L'.length ≤ L.length + 1 ∧ RB Tu W g c n root O (partsS n O s ((l + 1 : Nat) : Int) p D) X L') ∧ Upd (fun k => ¬ Tu k) w W := by
  have hnot : ∀ (x : Bool) (w : World), (Op.unary .not (.bool x)).run Tryz.prog w = .ok (.bool (!x)) w := fun _ _ => rfl; have hn2 := h.f.n2; have hdp := depthM_small hn2; have hsz := h.f.sz (l + 1); have hsz1 := (h.f.sz l).2; have c33 := h.f.cells.2.1; have c2 := h.f.size hl; have c3 := h.f.size (l := l) (by omega); have HG := ref_lacks h.f hl hp; have hpp : 4 * p < sizeL n l := by
    have h1 : p < up4 (sizeL n l) := hp; unfold up4 at h1; omega
  have hkp : 1 ≤ kidsM n l p ∧ kidsM n l p ≤ 4 := by
    have h1 : p < up4 (sizeL n l) := hp; unfold kidsM; unfold up4 at h1; omega
  have hlvi : ((l + 1 : Nat) : Int) < (depthM n : Int) := by omega
  have d0 : decide (((l + 1 : Nat) : Int) < 1) = false := decide_eq_false (by omega); have d1 : decide ((depthM n : Int) ≤ ((l + 1 : Nat) : Int)) = false := decide_eq_false (by omega); have d2 : decide ((p : Int) < 0) = false := decide_eq_false (by omega); have d3 : decide ((sizeL n (l + 1) : Int) ≤ (p : Int)) = false := decide_eq_false (by omega); have d4 : decide (depthM n ≤ l + 1) = false := decide_eq_false (by omega); have d5 : decide (sizeL n (l + 1) ≤ p) = false := decide_eq_false (by omega); have hp5 : (p : Int) ≤ 2000 := by omega
  have hs5 : (sizeL n l : Int) ≤ 1024 := by omega
  have hl1 : IntKind.i64.wrap (((l + 1 : Nat) : Int) - 1) = (l : Int) := by rw [IntKind.wrap_i64]; omega
  have hl2 : ((l + 1 : Nat) : Int) - 1 = (l : Int) := by omega
  have hlj : (l : Int) < (depthM n : Int) := by omega
  have hl5 : (l : Int) ≤ 2000 := by omega
  have e2 : (if (sizeL n l : Int) - 4 * (p : Int) < 4 then (sizeL n l : Int) - 4 * (p : Int) else 4) = (kidsM n l p : Int) := by unfold kidsM; split <;> omega
  have HX := Lib.hid h; have HN := Lib.hid (And.intro hl (And.intro hp (And.intro hkp (And.intro hM hD)))); obtain ⟨lv, hlv⟩ : ∃ lv, lv = l + 1 := ⟨_, rfl⟩; rw [← hlv] at HG c2 hlvi d0 d1 d3 d4 d5 hl1 hl2 ⊢; have HLV := Lib.hid hlv; obtain ⟨dl, hdl⟩ : ∃ dl, dl = D.length := ⟨_, rfl⟩; rw [← hdl]; have HDL := Lib.hid hdl; clear h hn2 hdp hsz hsz1 hl hp hpp hkp hM hD hlv hdl; cases hlk : lacksM s lv p with
  | false =>
    rw [hlk] at HG; have h1 : partsE n s (lv : Int) (p : Int) D = 220 := partsE_no (n := n) (by have := HLV.out; omega) (by have := HLV.out; have := HN.out.1; omega) (by rw [HLV.out]; exact HN.out.2.1) hlk; have HE := Lib.hid (And.intro h1 (partsS_no (n := n) (s := s) (D := D) (O := O) (lv : Int) (p : Int) (by rw [h1]; decide))); clear h1 hlk
    go_enter Tryz.func14, Tryz.ntmps14
    go_wp2_with fail; refine HG.mono ?_; rintro e W ⟨rfl, rfl⟩; clear HG; go_wp2
    go_ret
    exact ⟨by rw [HE.out.1]; rfl, ⟨L, Nat.le_succ _, by rw [HE.out.2]; exact HX.out⟩, Upd.refl _ _⟩
  | true =>
    rw [hlk] at HG; obtain ⟨d, hd⟩ := lacks_known hlk; have HE := Lib.hid (And.intro (partsE_is (n := n) (D := D) (by have := HLV.out; omega) (by have := HLV.out; have := HN.out.1; omega) (by rw [HLV.out]; exact HN.out.2.1) hlk hd) hd); clear hlk hd
    by_cases hkd : dl = kidsM n l p
    rotate_left
    · have h1 : partsE n s (lv : Int) (p : Int) D = 2 := by
        rw [HE.out.1, if_pos]; rw [← HDL.out, show lv - 1 = l by have := HLV.out; omega]; exact hkd
      have hkn : ((dl : Int) != (kidsM n l p : Int)) = true := by simp; omega
      have hkn2 : decide ((dl : Int) = (kidsM n l p : Int)) = false := decide_eq_false (by omega); have HF := Lib.hid (And.intro h1 (partsS_no (n := n) (s := s) (D := D) (O := O) (lv : Int) (p : Int) (by rw [h1]; decide))); clear h1 hkd
      go_enter Tryz.func14, Tryz.ntmps14
      go_wp2_with fail; refine HG.mono ?_; rintro e W ⟨rfl, rfl⟩; clear HG; go_wp2
      go_ret
      exact ⟨by rw [HF.out.1]; rfl, ⟨L, Nat.le_succ _, by rw [HF.out.2]; exact HX.out⟩, Upd.refl _ _⟩
    · have hk4 : 1 ≤ dl ∧ dl ≤ 4 := by have := HN.out.2.2.1; omega
      have hPE : partsE n s (lv : Int) (p : Int) D = fitZ D d := by
        have hne : ¬ (D.length ≠ kidsM n (lv - 1) p) := by rw [← HDL.out, show lv - 1 = l by have := HLV.out; omega]; exact fun e => e hkd
        have hk5 : 1 ≤ D.length ∧ D.length ≤ 4 := by rw [← HDL.out]; exact hk4
        rw [HE.out.1, if_neg hne]; unfold fitZ; rw [if_pos hk5]
      obtain ⟨z, hz⟩ : ∃ z, z = fitZ D d := ⟨_, rfl⟩; have HZ := Lib.hid (hPE.trans hz.symm); have HK4 := Lib.hid (And.intro hk4 (show ∀ j, j < dl → 4 * p + j < sizeL n l from fun j hj => by rw [hkd] at hj; unfold kidsM at hj; omega)); rw [← hkd] at e2; obtain ⟨B, v, n0, xs, hr, hB, hcT, hvT, hto⟩ := HX.out.b.run HX.out.hT HX.out.f.av; have hS0 := fun W (hW : Upd (fun k => k = c ∨ v.ownBlock = some k) w W) => HX.out.f.bk hr hcT.2 (fun k e => (hvT k e).2) hW; obtain ⟨gk2, ck2, gd, cd, cur, hdv, r1, r2, r3, r4, -⟩ := HX.out.f.atD (l := lv) (p := p) (by rw [HLV.out]; exact HN.out.1) (by rw [HLV.out]; exact HN.out.2.1); rw [HE.out.2] at r3
      change segV w ⟨gd, p * 32, none⟩ 32 = dA d at r3
      obtain ⟨cu2, hcu2⟩ := slice_block HX.out.f.st.dr hdv; have hf1 := hr.far hcu2 (by decide) (by decide); have hf2 := hr.far r4 (by decide) (by decide); have f0 : ∀ W, Upd (fun k => k = c ∨ v.ownBlock = some k) w W → W.cell? ⟨g, 0, none⟩ = some (.pointer (some ⟨c, 0, none⟩)) := fun W hW => (hS0 W hW).cells.1; have f1 : ∀ W, Upd (fun k => k = c ∨ v.ownBlock = some k) w W → W.cell? ⟨g, 35, none⟩ = some (.slice (some ⟨gk2, 0, none⟩) (depthM n) ck2) := fun W hW => by rw [(hS0 W hW).cells.2.2.2.1, hdv]
      have f2 : ∀ W, Upd (fun k => k = c ∨ v.ownBlock = some k) w W → W.cell? ⟨gk2, lv, none⟩ = some (.slice (some ⟨gd, 0, none⟩) (sizeL n lv) cd) := fun W hW => hW.cell r1 hf1; have f3 : ∀ W, Upd (fun k => k = c ∨ v.ownBlock = some k) w W → segB W ⟨gd, p * 32, none⟩ 32 = true := fun W hW => (seg_kept (by omega) r2 r3 hW hf2).1; have f4 : ∀ W, Upd (fun k => k = c ∨ v.ownBlock = some k) w W → segV W ⟨gd, p * 32, none⟩ 32 = dA d := fun W hW => (seg_kept (by omega) r2 r3 hW hf2).2; have hkd2 : Kept w w.drew := (Upd.refl _ w).drew; have hu1 : Upd (fun k => k = c ∨ v.ownBlock = some k) w w.drew := hkd2.to; have HGL := rk_Fits (hr.kept hkd2) (Nat.le_trans hB hkd2.size) (by have := HN.out.2.2.2.1; omega) k (HN.out.2.2.2.2 _ hkd2.to) d; rw [← hz, ← HDL.out] at HGL; have HTO := Lib.hid (And.intro hto (And.intro hS0 (show ∀ k, (k = c ∨ v.ownBlock = some k) → ¬ Tu k from fun k e => by
        rcases e with rfl | e
        · exact hcT.1
        · exact (hvT k e).1)))
      have hpi : (p : Int) < (sizeL n lv : Int) := by rw [HLV.out]; have := HN.out.2.1; omega
      clear hr hB hcT hvT hto hS0 hdv r1 r2 r3 r4 hcu2 hf1 hf2 hkd2 hz hPE hkd hk4
      go_enter Tryz.func14, Tryz.ntmps14
      go_wp2_with fail; refine HG.mono ?_; rintro e W ⟨rfl, rfl⟩; clear HG; go_wp2_with fail; clear c33 c2 c3 d0 d1 d2 d3 d4 d5 e2; refine wp_region_ord [(0, true), (1, true), (2, true), (3, true), (4, true), (5, true), (6, true), (7, true), (8, true), (9, true), (10, true), (11, true), (12, true), (13, true), (14, true), (15, false), (16, true)] (by kernel_rfl) (by kernel_rfl) (Upd (fun k => k = c ∨ v.ownBlock = some k) w) hu1 ?_; simp only [ordOps, List.getD_cons_zero, List.getD_cons_succ]
      iterate 15 (refine wpOrd_held (fun K hK => ?_); go_simp; first | (apply Exists.intro; refine ⟨fun W hW => ?_, hK _ ?_⟩; (go_simp; first | done | exact rfl); clear hK K) | (refine hK _ ?_; clear hK K))
      clear f0 f1 f2 f3 f4; generalize hwd : w.drew = wd at *; refine wpOrd_step (fun K hK => ?_) hu1; go_simp; refine HGL.mono ?_; clear HGL; rintro e w2 ⟨rfl, L2, v2, n2, xs2, hL2, hr2, ht2⟩; have ht3 : RTo c v w v2 w2 := (RTo.kept (show Kept w wd by rw [← hwd]; exact (Upd.refl _ w).drew)).trans ht2; have hSe := hu1.trans ht2.1; have H2 := Lib.hid (And.intro (show RB Tu w2 g c n root O s X L2 from ⟨HTO.out.2.1 _ ht3.1, HTO.out.1 _ _ _ _ _ hr2 ht3, fun k e => Nat.lt_of_lt_of_le (HX.out.hT k e) ht3.1.size⟩) (And.intro hL2 (show Upd (fun k => ¬ Tu k) w w2 from ht3.1.mono fun k _ e => HTO.out.2.2 k e))); refine hK _ _ hSe ?_; clear hK K hSe hu1 hL2 hr2 ht2 ht3 HTO hwd
      iterate 1 (refine wpOrd_held (fun K hK => ?_); go_simp; first | (apply Exists.intro; refine ⟨fun W hW => ?_, hK _ ?_⟩; (go_simp; first | done | exact rfl); clear hK K) | (refine hK _ ?_; clear hK K))
      refine wpOrd_nil ?_
      by_cases hz0 : z = 0
      rotate_left
      · have hdz : (z != 0) = true := by simpa using hz0
        have HNZ := Lib.hid hz0; clear hz0; go_wp2
        go_ret
        exact ⟨by rw [HZ.out]; rfl, ⟨L2, H2.out.2.1, by rw [partsS_no _ _ (by rw [HZ.out]; exact HNZ.out)]; exact H2.out.1⟩, H2.out.2.2⟩
      · subst hz0
        go_wp2_with fail
        go_loopw [10] (fun i wr => ∃ k : Nat, k ≤ dl ∧ i = .int .i64 (k : Int) ∧ RFet Tu wr g c n root O (partsK n O l p D k s) X ∧ Upd (RW X) w2 wr) (fun i _ => 10 - (intOf i).toNat)
        case atStart => exact ⟨0, Nat.zero_le _, rfl, H2.out.1.f, Upd.refl _ _⟩
        case round =>
          obtain ⟨q, hq, rfl, hfet, hup⟩ := hrel; have hupT : Upd (fun k => ¬ Tu k) w wr := H2.out.2.2.trans (hup.mono fun k _ e => H2.out.1.f.rwT e); rcases Nat.lt_or_ge q dl with hlt | hge
          · have hqi : (q : Int) < (dl : Int) := by omega
            have hq5 : (q : Int) ≤ 4 := by have := HK4.out.1.2; omega
            have hmm := HK4.out.2 q hlt; obtain ⟨m, hmk⟩ : ∃ m, m = 4 * p + q := ⟨_, rfl⟩; rw [← hmk] at hmm; have hm1 : 4 * (p : Int) + (q : Int) = (m : Int) := by omega
            have hm5 : (m : Int) ≤ 2000 := by omega
            have hDW : Digs wr A D := HN.out.2.2.2.2 _ hupT; have hkD : q < D.length := by rw [← HDL.out]; exact hlt
            obtain ⟨ba, oa, hA, t1, t2⟩ := hDW.get hkD; obtain ⟨x, hx⟩ : ∃ x, x = D.getD q dig0 := ⟨_, rfl⟩; have hxk : D[q] = x := by rw [hx, List.getD_eq_getElem?_getD, List.getElem?_eq_getElem hkD]; rfl
            rw [hxk] at t2; subst hA; have HG := ref_learn l m x hfet (fun k e => Nat.lt_of_lt_of_le (H2.out.1.hT k e) hup.size) (by have := HN.out.1; omega) hmm; have HQ := Lib.hid (And.intro hlt (And.intro hup (And.intro hmk hx))); clear hfet hup hupT hlt hq hmm hmk hDW hkD hx hxk; go_wp2_with fail; refine HG.mono ?_; clear HG; rintro e w6 ⟨⟨v6, rfl⟩, hf6, hu7⟩; have HF := Lib.hid (And.intro hf6 (HQ.out.2.1.trans hu7)); clear hf6 hu7 t1 t2; go_wp2_with fail
            go_roundw
            case rel => exact ⟨q + 1, HQ.out.1, by show _ = _; go_num, by rw [partsK_succ, ← HQ.out.2.2.1, ← HQ.out.2.2.2]; exact HF.out.1, HF.out.2⟩
            case measure => have := HQ.out.1; have := HK4.out.1.2; simp [intOf]; omega
          · obtain rfl : q = dl := by omega
            have hqi : ¬ (q : Int) < (q : Int) := by omega
            have HF := Lib.hid (And.intro (H2.out.1.rw hfet hup) hupT); clear hfet hup hupT hge hq; go_wp2
            go_ret
            refine ⟨by rw [HZ.out]; rfl, ⟨L2, H2.out.2.1, ?_⟩, HF.out.2⟩; unfold partsS; rw [HZ.out, if_pos rfl, ← HDL.out, Int.toNat_natCast, Int.toNat_natCast, HLV.out, Nat.add_sub_cancel]; exact HF.out.1
theorem ref_FParts (h : RB Tu w g c n root O s X L) (hM : L.length ≤ 90000) (lv pl : Int) (k : Nat) (hD : ∀ W', Upd (fun k => ¬ Tu k) w W' → Digs W' A D) :
    Calls Tryz.prog 14 #[.pointer (some ⟨g, 0, none⟩), .int .i64 lv, .int .i64 pl, .slice A D.length k] w fun e W => e = .returned (.int .i64 (partsE n s lv pl D)) ∧ (∃ L', L'.length ≤ L.length + 1 ∧ RB Tu W g c n root O (partsS n O s lv pl D) X L') ∧ Upd (fun k => ¬ Tu k) w W := by
  by_cases hp : 1 ≤ lv ∧ lv < depthM n ∧ 0 ≤ pl ∧ pl < sizeL n lv.toNat
  · obtain ⟨l, rfl⟩ : ∃ l : Nat, lv = ((l + 1 : Nat) : Int) := ⟨lv.toNat - 1, by omega⟩
    obtain ⟨p, rfl⟩ : ∃ p : Nat, pl = p := ⟨pl.toNat, by omega⟩; rw [Int.toNat_natCast] at hp; exact ref_FParts_in h hM l p (by omega) (by omega) k hD
  · exact ref_FParts_out h lv pl hp k
end
end Go.Proofs.YtepjbijhkkjbfaaGreat
