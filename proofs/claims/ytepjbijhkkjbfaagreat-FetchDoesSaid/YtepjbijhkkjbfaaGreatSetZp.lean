import Derived.Test.YtepjbijhkkjbfaaGreatSetZo
import Derived.Test.YtepjbijhkkjbfaaGreatSetZh
set_option linter.unusedVariables false
set_option linter.unusedSimpArgs false
namespace Go.Proofs.YtepjbijhkkjbfaaGreat
open Go.RowKit
variable {Tu : Nat → Prop}
attribute [local go_sem] spot_store
attribute [local irreducible] wpOrd
section
variable {w : World} {B f m1 m2 b r q n gs cs : Nat} {root : Dig} {O : Option (List Bytes)} {s : KM × BM} {hv ov : Value} {L : List Bytes} {A : Option Addr} {D : List Dig}
theorem partsE_no {lv p : Nat} (h1 : 1 ≤ lv) (hl : lv < depthM n) (hp : p < sizeL n lv) (h : lacksM s lv p = false) : partsE n s lv p D = 220 := by
  unfold partsE; rw [if_neg (by simp only [Int.toNat_natCast]; omega), if_pos (by simpa using h)]
theorem partsE_is {lv p : Nat} (h1 : 1 ≤ lv) (hl : lv < depthM n) (hp : p < sizeL n lv) (h : lacksM s lv p = true) {d : Dig} (hd : s.1 lv p = some d) : partsE n s lv p D = if D.length ≠ kidsM n (lv - 1) p then 2 else if upM shaM D = d then 0 else 100 := by
  unfold partsE; rw [if_neg (by simp only [Int.toNat_natCast]; omega), if_neg (by simp [h])]; simp [hd]
set_option maxHeartbeats 1000000 in
set_option maxRecDepth 20000 in
theorem fetch_Parts_out (h : FetI Tu w B f m1 m2 b r q n root O s gs cs hv ov) (lv pl : Int) (hp : ¬ (1 ≤ lv ∧ lv < depthM n ∧ 0 ≤ pl ∧ pl < sizeL n lv.toNat)) (x : Value) :
    Calls Tryz.prog 13 #[.pointer (some ⟨f, 0, none⟩), .int .i64 lv, .int .i64 pl, x] w fun e W => e = .returned (.int .i64 9) ∧ Kept w W := by
  have k1 : Kept w (w.alloc (.cells #[.int .i64 lv, .int .i64 pl] 70)) := (Upd.refl _ w).alloc _; have c0 := (h.kept k1).c.2.2.1; have c1 := (h.kept k1).c.2.1; have HK := Lib.hid k1
  by_cases h0 : lv < 1
  · have d0 : decide (lv < 1) = true := decide_eq_true h0
    clear h k1 hp h0
    go_enter Tryz.func13, Tryz.ntmps13
    go_wp2_with fail; refine (fetch_none c0).mono ?_; rintro e W ⟨rfl, rfl⟩; go_wp2
    go_ret
    exact ⟨rfl, HK.out⟩
  · have d0 : decide (lv < 1) = false := decide_eq_false h0
    by_cases h1 : (depthM n : Int) ≤ lv
    · have d1 : decide ((depthM n : Int) ≤ lv) = true := decide_eq_true h1
      clear h k1 hp h0 h1
      go_enter Tryz.func13, Tryz.ntmps13
      go_wp2_with fail; refine (fetch_none c0).mono ?_; rintro e W ⟨rfl, rfl⟩; go_wp2
      go_ret
      exact ⟨rfl, HK.out⟩
    · have d1 : decide ((depthM n : Int) ≤ lv) = false := decide_eq_false h1
      by_cases h2 : pl < 0
      · have d2 : decide (pl < 0) = true := decide_eq_true h2
        clear h k1 hp h0 h1 h2
        go_enter Tryz.func13, Tryz.ntmps13
        go_wp2_with fail; refine (fetch_none c0).mono ?_; rintro e W ⟨rfl, rfl⟩; go_wp2
        go_ret
        exact ⟨rfl, HK.out⟩
      · have d2 : decide (pl < 0) = false := decide_eq_false h2
        obtain ⟨l, rfl⟩ : ∃ l : Nat, lv = l := ⟨lv.toNat, by omega⟩; have hll : (l : Int) < (depthM n : Int) := by omega
        have c2 := (h.kept k1).size (l := l) (by omega); rw [Int.toNat_natCast] at hp; have d3 : decide ((sizeL n l : Int) ≤ pl) = true := decide_eq_true (by omega); clear h k1 hp h0 h1 h2
        go_enter Tryz.func13, Tryz.ntmps13
        go_wp2_with fail; refine (fetch_none c0).mono ?_; rintro e W ⟨rfl, rfl⟩; go_wp2
        go_ret
        exact ⟨rfl, HK.out⟩
set_option maxHeartbeats 4000000 in
set_option maxRecDepth 20000 in
theorem fetch_Parts_in (h : FetI Tu w B f m1 m2 b r q n root O s gs cs hv ov) (hb : BookL w b r q L) (lv p : Nat) (h1 : 1 ≤ lv) (hl : lv < depthM n) (hp : p < sizeL n lv) (c : Nat) (hD : Digs w A D) :
    Calls Tryz.prog 13 #[.pointer (some ⟨f, 0, none⟩), .int .i64 (lv : Int), .int .i64 (p : Int), .slice A D.length c] w fun e W => e = .returned (.int .i64 (partsE n s lv p D)) ∧ (∃ L', BookL W b r q L' ∧ (∀ x ∈ L, x ∈ L') ∧ (partsE n s lv p D = 0 → upIn D ∈ L')) ∧ FetI Tu W B f m1 m2 b r q n root O (partsS n O s lv p D) gs cs hv ov ∧ Upd (fun k => Book3 b r q k ∨ Maps2 m1 m2 k) w W := by
  have hnot : ∀ (x : Bool) (w : World), (Op.unary .not (.bool x)).run Tryz.prog w = .ok (.bool (!x)) w := fun _ _ => rfl; have hn2 := h.n2; have hdp := depthM_small hn2; have hsz := h.sz lv; have hS1 : Blk (w.alloc (.cells #[.int .i64 (lv : Int), .int .i64 (p : Int)] 70)) w.heap.size 70 [.int .i64 (lv : Int), .int .i64 (p : Int)] := Blk.new w _ _; have k1 : Kept w (w.alloc (.cells #[.int .i64 (lv : Int), .int .i64 (p : Int)] 70)) := (Upd.refl _ w).alloc _; obtain ⟨w1, hW1⟩ : ∃ w1 : World, w1 = w.alloc (.cells #[.int .i64 (lv : Int), .int .i64 (p : Int)] 70) := ⟨_, rfl⟩; rw [← hW1] at hS1 k1; have c0 := (h.kept k1).c.2.2.1; have c1 := (h.kept k1).c.2.1; have c2 := (h.kept k1).size hl; have hlvi : (lv : Int) < (depthM n : Int) := by omega
  have d0 : decide ((lv : Int) < 1) = false := decide_eq_false (by omega); have d1 : decide ((depthM n : Int) ≤ (lv : Int)) = false := decide_eq_false (by omega); have d2 : decide ((p : Int) < 0) = false := decide_eq_false (by omega); have d3 : decide ((sizeL n lv : Int) ≤ (p : Int)) = false := decide_eq_false (by omega); have d4 : decide (depthM n ≤ lv) = false := decide_eq_false (by omega); have d5 : decide (sizeL n lv ≤ p) = false := decide_eq_false (by omega); obtain ⟨s1, s2⟩ := Blk.sp2 hS1; have HL : Calls Tryz.prog 38 #[.pointer (some ⟨f, 0, none⟩), .agg #[.int .i64 (lv : Int), .int .i64 (p : Int)]] w1 fun e W => e = .returned (.bool (lacksM s lv p)) ∧ Kept w1 W := fetch_lacks (h.kept k1) lv p (by omega) (by omega); have HX := Lib.hid (And.intro (h.kept k1) (And.intro (hb.kept k1) (And.intro (show Digs w1 A D from hD.kept k1) (And.intro hS1 k1)))); have HN := Lib.hid (And.intro h1 (And.intro hl (And.intro hp (And.intro hsz hdp)))); obtain ⟨dl, hdl⟩ : ∃ dl, dl = D.length := ⟨_, rfl⟩; rw [← hdl]; have HDL := Lib.hid hdl; clear h hb hD hS1 k1 hn2 hdl h1 hl hp hsz hdp; cases hlk : lacksM s lv p with
  | false =>
    rw [hlk] at HL; have HE : Hid (partsE n s lv p D = 220 ∧ partsS n O s lv p D = s) := by
      have h1 := partsE_no (D := D) HN.out.1 HN.out.2.1 HN.out.2.2.1 hlk; exact ⟨h1, by unfold partsS; rw [h1, if_neg (by decide)]⟩
    clear hlk
    go_enter Tryz.func13, Tryz.ntmps13
    go_wp2_with fail; rw [← hW1]; clear hW1; refine (fetch_none c0).mono ?_; rintro e W ⟨rfl, rfl⟩; go_wp2_with fail; refine HL.mono ?_; rintro e W ⟨rfl, hu⟩; have hku : Kept w W := HX.out.2.2.2.2.then hu (fun _ _ h => h); have HF := Lib.hid (And.intro (HX.out.1.kept hu) (And.intro (HX.out.2.1.kept hu) hku)); clear HL hu hku HX c0 c1 c2 s1 s2; go_wp2
    go_ret
    exact ⟨by rw [HE.out.1]; rfl, ⟨L, HF.out.2.1, fun _ h => h, fun e => by rw [HE.out.1] at e; exact absurd e (by decide)⟩, by rw [HE.out.2]; exact HF.out.1, HF.out.2.2.to⟩
  | true =>
    rw [hlk] at HL; obtain ⟨d, hd⟩ := lacks_known hlk; have HE := Lib.hid (And.intro (partsE_is (D := D) HN.out.1 HN.out.2.1 HN.out.2.2.1 hlk hd) hd); clear hlk hd; obtain ⟨l, hlv⟩ : ∃ l, lv = l + 1 := ⟨lv - 1, by have := HN.out.1; omega⟩; have HLV := Lib.hid hlv; clear hlv
    go_enter Tryz.func13, Tryz.ntmps13
    go_wp2_with fail; rw [← hW1]; clear hW1; refine (fetch_none c0).mono ?_; rintro e W ⟨rfl, rfl⟩; go_wp2_with fail; refine HL.mono ?_; rintro e w2 ⟨rfl, hu⟩; have hku : Kept w w2 := HX.out.2.2.2.2.then hu (fun _ _ h => h); have H2 := Lib.hid (And.intro (HX.out.1.kept hu) (And.intro (HX.out.2.1.kept hu) (And.intro (HX.out.2.2.1.kept hu) (And.intro (HX.out.2.2.2.1.kept hu) hku)))); clear HL hu hku HX c0 c1 c2 s1 s2 d0 d1 d2 d3 d4 d5 hlvi; obtain ⟨s1, s2⟩ := Blk.sp2 H2.out.2.2.2.1; have HC := fetch_children H2.out.1 l p (by rw [← HLV.out]; exact HN.out.2.1) (by rw [← HLV.out]; exact HN.out.2.2.1); rw [← HLV.out] at HC; have hk1 := kidsM_pos (n := n) (l := l) (p := p) (by rw [← HLV.out]; exact HN.out.2.2.1); obtain ⟨k0, hk0⟩ : ∃ k0, k0 = kidsM n l p := ⟨_, rfl⟩; rw [← hk0] at HC hk1; have HK0 := Lib.hid (And.intro hk0 hk1); clear hk0 hk1; go_wp2_with fail; refine HC.mono ?_; clear HC; rintro e w3 ⟨v, rfl, hrow, hu3⟩; obtain ⟨gk, ck, hv', -, -, -, -⟩ := OwnRows.get (f := spA) (n := 2) (fun _ => rfl) hrow (k := 0) (by rw [kidsL_length]; exact HK0.out.2.1); rw [kidsL_length] at hv'; subst hv'; have H3 := Lib.hid (And.intro (H2.out.1.kept hu3) (And.intro (H2.out.2.1.kept hu3) (And.intro (H2.out.2.2.1.kept hu3) (And.intro (H2.out.2.2.2.1.kept hu3) (And.intro (show Kept w w3 from H2.out.2.2.2.2.then hu3 (fun _ _ h => h)) (own_base hrow (Nat.zero_le _))))))); clear H2 hu3 hrow s1 s2
    by_cases hne : dl = k0
    rotate_left
    · have hne2 : ¬ (dl : Int) = (k0 : Int) := by omega
      have HE2 : Hid (partsE n s lv p D = 2 ∧ partsS n O s lv p D = s) := by
        have h1 : partsE n s lv p D = 2 := by rw [HE.out.1, if_pos]; rw [← HDL.out, HLV.out, Nat.add_sub_cancel, ← HK0.out.1]; exact hne
        exact ⟨h1, by unfold partsS; rw [h1, if_neg (by decide)]⟩
      go_wp2
      go_ret
      exact ⟨by rw [HE2.out.1]; rfl, ⟨L, H3.out.2.1, fun _ h => h, fun e => by rw [HE2.out.1] at e; exact absurd e (by decide)⟩, by rw [HE2.out.2]; exact H3.out.1, H3.out.2.2.2.2.1.to⟩
    · subst hne
      have f0 : ∀ W, Upd (Book3 b r q) w3 W → W.cell? ⟨f, 0, none⟩ = some (.pointer (some ⟨b, 0, none⟩)) := fun W hW => (H3.out.1.book H3.out.2.1 hW).c.1; have f1 : ∀ W, Upd (Book3 b r q) w3 W → W.cell? ⟨f, 34, none⟩ = some (.map (some m1)) := fun W hW => (H3.out.1.book H3.out.2.1 hW).c.2.2.1; have f2 : ∀ W, Upd (Book3 b r q) w3 W → segB W ⟨w.heap.size, 0, none⟩ 2 = true := fun W hW => (Blk.sp2 (H3.out.2.2.2.1.upd hW (H3.out.2.1.not H3.out.2.2.2.1 (by decide)))).1; have f3 : ∀ W, Upd (Book3 b r q) w3 W → segV W ⟨w.heap.size, 0, none⟩ 2 = #[.int .i64 (lv : Int), .int .i64 (p : Int)] := fun W hW => (Blk.sp2 (H3.out.2.2.2.1.upd hW (H3.out.2.1.not H3.out.2.2.2.1 (by decide)))).2; have f4 : ∀ W, Upd (Book3 b r q) w3 W → (Instr.lookup 61 (.map (some m1)) (.agg #[.int .i64 (lv : Int), .int .i64 (p : Int)]) false).run Tryz.prog W = .ok (.agg (dA d)) W := fun W hW => by
        have := (H3.out.1.book H3.out.2.1 hW).k.look1 lv p ⟨by have := HN.out.2.1; have := HN.out.2.2.2.2; show lv ≤ _; omega, by have := HN.out.2.2.1; have := HN.out.2.2.2.1; show p ≤ _; omega⟩; rw [HE.out.2] at this; exact this
      go_wp2_with fail; refine wp_region_ord [(0, true), (1, true), (2, true), (3, true), (4, true), (5, true), (6, true), (7, true), (8, true), (9, true), (10, true), (11, false), (12, true)] (by kernel_rfl) (by kernel_rfl) (Upd (Book3 b r q) w3) (Upd.refl _ w3).drew ?_; simp only [ordOps, List.getD_cons_zero, List.getD_cons_succ]
      iterate 11 (refine wpOrd_held (fun K hK => ?_); go_simp; first | (apply Exists.intro; refine ⟨fun W hW => ?_, hK _ ?_⟩; (go_simp; first | done | exact rfl); clear hK K) | (refine hK _ ?_; clear hK K))
      clear f0 f1 f2 f3 f4; have hud : Kept w3 w3.drew := (Upd.refl _ w3).drew; have HG := proof_Fits_any (H3.out.2.1.kept hud) c (H3.out.2.2.1.kept hud) d; rw [← HDL.out] at HG; have hSd : Upd (Book3 b r q) w3 w3.drew := hud.to; have H4 := Lib.hid (And.intro (H3.out.1.kept hud) (And.intro (H3.out.2.1.kept hud) (And.intro (H3.out.2.2.1.kept hud) (And.intro (show Kept w w3.drew from H3.out.2.2.2.2.1.then hud (fun _ _ h => h)) (OwnRows.drew H3.out.2.2.2.2.2))))); clear H3 hud; generalize w3.drew = wd at *; refine wpOrd_step (fun K hK => ?_) hSd; go_simp; refine HG.mono ?_; clear HG; rintro e w5 ⟨z, rfl, ⟨L5, hb5, hLL, hz⟩, hu5⟩; have hSe := hSd.trans hu5; have hq5 := Quiet.book H4.out.2.1; have HZ : Hid (partsE n s lv p D = z ∧ (z = 0 → upIn D ∈ L5)) := by
        have h0 := HK0.out; rcases hz with ⟨h1, h2, h3, h4⟩ | ⟨h1, _⟩
        · refine ⟨?_, fun _ => h4⟩
          rw [HE.out.1, if_neg (fun hne => hne (by rw [← HDL.out, HLV.out, Nat.add_sub_cancel]; exact h0.1)), h3]
        · exact absurd ⟨h0.2.1, h0.2.2.1⟩ h1
      have H5 := Lib.hid (And.intro (H4.out.1.book H4.out.2.1 hu5) (And.intro hb5 (And.intro (show Digs w5 A D from hq5.byt H4.out.2.2.1 hu5) (And.intro (show Upd (Book3 b r q) w w5 from H4.out.2.2.2.1.to.trans hu5) (hq5.rows H4.out.2.2.2.2 (by decide) hu5))))); have HLL := Lib.hid hLL; refine hK _ _ hSe ?_; clear hK K hz hu5 hSe hSd hb5 hLL hq5 H4
      iterate 1 (refine wpOrd_held (fun K hK => ?_); go_simp; first | (apply Exists.intro; refine ⟨fun W hW => ?_, hK _ ?_⟩; (go_simp; first | done | exact rfl); clear hK K) | (refine hK _ ?_; clear hK K))
      refine wpOrd_nil ?_
      by_cases hz0 : z = 0
      rotate_left
      · have hdz : (z != 0) = true := by simpa using hz0
        have HNZ := Lib.hid hz0; clear hz0; go_wp2
        go_ret
        exact ⟨by rw [HZ.out.1]; rfl, ⟨L5, H5.out.2.1, HLL.out, fun e => absurd (HZ.out.1.symm.trans e) HNZ.out⟩, by unfold partsS; rw [HZ.out.1, if_neg HNZ.out]; exact H5.out.1, H5.out.2.2.2.1.mono (fun _ _ e => .inl e)⟩
      · subst hz0
        go_wp2_with fail
        go_loopw [77] (fun i wr => ∃ k : Nat, k ≤ dl ∧ i = .int .i64 (k : Int) ∧ FetI Tu wr B f m1 m2 b r q n root O (partsK n O l p D k s) gs cs hv ov ∧ Upd (Maps2 m1 m2) w5 wr) (fun i _ => 10 - (intOf i).toNat)
        case atStart => exact ⟨0, Nat.zero_le _, rfl, H5.out.1, Upd.refl _ _⟩
        case round =>
          obtain ⟨k, hk, rfl, hfet, hup⟩ := hrel; rcases Nat.lt_or_ge k dl with hlt | hge
          · have hki : (k : Int) < (dl : Int) := by omega
            have hk5 : (k : Int) ≤ 4 := by have := HK0.out.2.2.1; omega
            obtain ⟨gk', ck', hv', -, -, t1, t2⟩ := OwnRows.get (f := spA) (n := 2) (fun _ => rfl) H5.out.2.2.2.2 (k := k) (by rw [kidsL_length]; exact hlt); simp only [Value.slice.injEq, Option.some.injEq, Addr.mk.injEq] at hv'; obtain ⟨⟨rfl, -⟩, -, -⟩ := hv'; rw [kidsL_get] at t2; obtain ⟨t1, t2⟩ := H5.out.1.mseg (by omega) t1 t2 hup; have hmm : 4 * p + k < sizeL n l := HK0.out.2.2.2 k hlt; obtain ⟨m, hmk⟩ : ∃ m, m = 4 * p + k := ⟨_, rfl⟩; rw [← hmk] at t2 hmm; have HMK := Lib.hid (And.intro hmk hmm); have hDW : Digs wr A D := H5.out.1.quiet.byt H5.out.2.2.1 hup; have hkD : k < D.length := by rw [← HDL.out]; exact hlt
            obtain ⟨ba, oa, hA, -, -⟩ := hDW.get hkD; subst hA; clear hmk; have hrb : (storeRow 70 (.pointer (some ⟨wr.heap.size, 0, none⟩)) (.agg (spA (l, m)))).run Tryz.prog (wr.alloc (.cells #[.int .i64 0, .int .i64 0] 70)) = .ok .skip (wr.alloc (.cells (spA (l, m)) 70)) := by
              rw [row_store70 _ _ _ (rowB_new wr #[.int .i64 0, .int .i64 0] 70 wr.heap.size 2 rfl rfl) rfl rfl, setRow_new _ _ _ _ _ rfl]
            go_wp2_with fail; clear hrb; have hka : Kept wr (wr.alloc (.cells (spA (l, m)) 70)) := (Upd.refl _ wr).alloc _; have hSA : Blk (wr.alloc (.cells (spA (l, m)) 70)) wr.heap.size 70 (spA (l, m)).toList := Blk.new wr _ _; have hfa := hfet.kept hka; have hDa : Digs (wr.alloc (.cells (spA (l, m)) 70)) (some ⟨ba, oa, none⟩) D := hDW.kept hka; have hua : Upd (Maps2 m1 m2) w5 (wr.alloc (.cells (spA (l, m)) 70)) := hup.alloc _; obtain ⟨wa, hwa⟩ : ∃ wa, wa = wr.alloc (.cells (spA (l, m)) 70) := ⟨_, rfl⟩; rw [← hwa] at hSA hfa hDa hua; obtain ⟨x, hx⟩ : ∃ x, x = D.getD k dig0 := ⟨_, rfl⟩; have hxk : D[k] = x := by rw [hx, List.getD_eq_getElem?_getD, List.getElem?_eq_getElem hkD]; rfl
            have hxs : ∀ W, Upd (Maps2 m1 m2) wa W → segB W ⟨ba, oa + k * 32, none⟩ 32 = true ∧ segV W ⟨ba, oa + k * 32, none⟩ 32 = dA x := fun W hW => by
              have h1 : Digs W (some ⟨ba, oa, none⟩) D := hfa.quiet.byt hDa hW; obtain ⟨b', o', e1, e2, e3⟩ := h1.get hkD; simp only [Option.some.injEq, Addr.mk.injEq, and_true] at e1; obtain ⟨rfl, rfl⟩ := e1; rw [hxk] at e3; exact ⟨e2, e3⟩
            have g0 : ∀ W, Upd (Maps2 m1 m2) wa W → segB W ⟨wr.heap.size, 0, none⟩ 2 = true := fun W hW => (hfa.mseg (by omega) (Blk.sp hSA).1 (Blk.sp hSA).2 hW).1; have g1 : ∀ W, Upd (Maps2 m1 m2) wa W → segV W ⟨wr.heap.size, 0, none⟩ 2 = spA (l, m) := fun W hW => (hfa.mseg (by omega) (Blk.sp hSA).1 (Blk.sp hSA).2 hW).2; have g2 : ∀ W, Upd (Maps2 m1 m2) wa W → segB W ⟨ba, oa + k * 32, none⟩ 32 = true := fun W hW => (hxs W hW).1; have g3 : ∀ W, Upd (Maps2 m1 m2) wa W → segV W ⟨ba, oa + k * 32, none⟩ 32 = dA x := fun W hW => (hxs W hW).2; have HA := Lib.hid (And.intro hfa (And.intro hua (And.intro hlt hx))); clear hfet hup hlt hk hmm hSA hfa hDa hua hka hxs hxk hDW hkD hx; rw [← hwa]; clear hwa; have hu6 : Upd (Maps2 m1 m2) wa wa.drew := (Upd.refl _ wa).drew; refine wp_region_ord [(0, true), (1, true), (2, true), (3, true), (4, true), (5, true), (6, false)] (by kernel_rfl) (by kernel_rfl) (Upd (Maps2 m1 m2) wa) hu6 ?_; simp only [ordOps, List.getD_cons_zero, List.getD_cons_succ]
            iterate 6 (refine wpOrd_held (fun K hK => ?_); go_simp; first | (apply Exists.intro; refine ⟨fun W hW => ?_, hK _ ?_⟩; (go_simp; first | done | exact rfl); clear hK K) | (refine hK _ ?_; clear hK K))
            have hfd := HA.out.1.kept (Upd.refl _ wa).drew; clear g0 g1 g2 g3; generalize wa.drew = wd at *; refine wpOrd_step (fun K hK => ?_) hu6; go_simp; have HG := fetch_learn hfd l m x (by have := HLV.out; have := HN.out.2.1; omega) HMK.out.2; clear hfd; refine HG.mono ?_; clear HG; rintro e w6 ⟨⟨v, rfl⟩, hf6, hu7⟩; have hS7 := hu6.trans hu7; refine hK _ _ hS7 ?_; clear hK K; have HF := Lib.hid (And.intro hf6 (show Upd (Maps2 m1 m2) w5 w6 from HA.out.2.1.trans hS7)); clear hf6 hu7 hS7 hu6; refine wpOrd_nil ?_; go_wp2_with fail
            go_roundw
            case rel => exact ⟨k + 1, HA.out.2.2.1, by show _ = _; go_num, by rw [partsK_succ, ← HMK.out.1, ← HA.out.2.2.2]; exact HF.out.1, HF.out.2⟩
            case measure => have := HA.out.2.2.1; have := HK0.out.2.2.1; simp [intOf]; omega
          · obtain rfl : k = dl := by omega
            have hki : ¬ (k : Int) < (k : Int) := by omega
            have hup2 : Upd (fun k => Book3 b r q k ∨ Maps2 m1 m2 k) w wr := (H5.out.2.2.2.1.mono (fun _ _ e => .inl e)).then hup (fun _ _ e => .inr e); have hbw : BookL wr b r q L5 := H5.out.2.1.upd hup (fun e => by have := H5.out.1.far b (.inl rfl); have := H5.out.1.b1; have := H5.out.1.b2; rcases e with e | e <;> omega) (fun e => by have := H5.out.1.far r (.inr (.inl rfl)); have := H5.out.1.b1; have := H5.out.1.b2; rcases e with e | e <;> omega) (fun e => by have := H5.out.1.far q (.inr (.inr rfl)); have := H5.out.1.b1; have := H5.out.1.b2; rcases e with e | e <;> omega); have HF := Lib.hid (And.intro hfet (And.intro hbw hup2)); clear hfet hup hge hk hbw hup2; go_wp2
            go_ret
            refine ⟨by rw [HZ.out.1]; rfl, ⟨L5, HF.out.2.1, HLL.out, fun _ => HZ.out.2 (by simp)⟩, ?_, HF.out.2.2⟩; unfold partsS; rw [HZ.out.1, if_pos rfl, ← HDL.out, Int.toNat_natCast, Int.toNat_natCast, HLV.out, Nat.add_sub_cancel]; exact HF.out.1
theorem fetch_Parts (h : FetI Tu w B f m1 m2 b r q n root O s gs cs hv ov) (hb : BookL w b r q L) (lv pl : Int) (c : Nat) (hD : Digs w A D) :
    Calls Tryz.prog 13 #[.pointer (some ⟨f, 0, none⟩), .int .i64 lv, .int .i64 pl, .slice A D.length c] w fun e W => e = .returned (.int .i64 (partsE n s lv pl D)) ∧ (∃ L', BookL W b r q L' ∧ (∀ x ∈ L, x ∈ L') ∧ (partsE n s lv pl D = 0 → upIn D ∈ L')) ∧ FetI Tu W B f m1 m2 b r q n root O (partsS n O s lv pl D) gs cs hv ov ∧ Upd (fun k => Book3 b r q k ∨ Maps2 m1 m2 k) w W := by
  by_cases hp : 1 ≤ lv ∧ lv < depthM n ∧ 0 ≤ pl ∧ pl < sizeL n lv.toNat
  · obtain ⟨l, rfl⟩ : ∃ l : Nat, lv = l := ⟨lv.toNat, by omega⟩
    obtain ⟨p, rfl⟩ : ∃ p : Nat, pl = p := ⟨pl.toNat, by omega⟩; rw [Int.toNat_natCast] at hp; exact fetch_Parts_in h hb l p (by omega) (by omega) (by omega) c hD
  · have h1 : partsE n s lv pl D = 9 := by unfold partsE; rw [if_pos hp]
    refine (fetch_Parts_out h lv pl hp _).mono fun e W ⟨he, hu⟩ => ⟨by rw [he, h1], ⟨L, hb.kept hu, fun _ h => h, fun e => by rw [h1] at e; exact absurd e (by decide)⟩, ?_, hu.to⟩; unfold partsS; rw [h1, if_neg (by decide)]; exact h.kept hu
end
end Go.Proofs.YtepjbijhkkjbfaaGreat
namespace Go.Proofs.YtepjbijhkkjbfaaGreat
open Go.RowKit
variable {Tu : Nat → Prop}
attribute [local irreducible] wpOrd
theorem OwnLv.snoc {W W' : World} {B : Nat} {v v' : Value} {l : List (SlC × Bytes)} {x : SlC} {R : Bytes} (h : OwnLv W B v l) (hx : OwnB W B x.v R) (hR : R.length ≤ 140737488351232)
    (ho : OwnS W' B v' (l.map (·.1) ++ [x])) (hu : Upd (fun k => v.ownBlock = some k) W W') : OwnLv W' B v' (l ++ [(x, R)]) := by
  have key : ∀ {y : Value} {S : Bytes}, OwnB W B y S → OwnB W' B y S := fun hy => hy.upd hu fun k e1 e2 => by
    obtain ⟨cur, hc⟩ := own_cells h.1 e2; obtain ⟨cur2, hc2⟩ := hy.block e1; rw [hc] at hc2; simp only [Option.some.injEq, Obj.cells.injEq] at hc2; exact absurd hc2.2.1 (by decide)
  refine ⟨by simpa using ho, fun p hp => ?_⟩; rcases List.mem_append.1 hp with h1 | h1
  · exact ⟨key (h.2 p h1).1, (h.2 p h1).2⟩
  · rw [List.mem_singleton.1 h1]; exact ⟨key hx, hR⟩
theorem OwnLv.nil (W : World) (B : Nat) : OwnLv W B (.slice none 0 0) [] := ⟨OwnRows.nil _ _ _, fun _ h => absurd h List.not_mem_nil⟩
def bytesM (n : Nat) (M : BM) : List Bytes := (List.range n).map fun p => (M p).getD []
theorem bytesM_length (n : Nat) (M : BM) : (bytesM n M).length = n := by simp [bytesM]
theorem bytesM_succ (k : Nat) (M : BM) : bytesM (k + 1) M = bytesM k M ++ [(M k).getD []] := by simp [bytesM, List.range_succ]
section
variable {w : World} {B f m1 m2 b r q n gs cs : Nat} {root : Dig} {O : Option (List Bytes)} {s : KM × BM} {hv ov : Value}
set_option maxHeartbeats 1000000 in
set_option maxRecDepth 20000 in
theorem fetch_Done_no (h : FetI Tu w B f m1 m2 b r q n root O s gs cs hv ov) {x : Nat × Nat} (ha : askM n s = some x) :
    Calls Tryz.prog 19 #[.pointer (some ⟨f, 0, none⟩)] w fun e W => e = .returned (.tuple #[.slice none 0 0, .bool false]) ∧ Kept w W := by
  have HG := fetch_Ask h; rw [ha] at HG; have HX := Lib.hid h; clear h ha; unfold askV at HG
  go_enter Tryz.func19, Tryz.ntmps19
  go_wp2_with fail; refine HG.mono ?_; clear HG; rintro e w2 ⟨rfl, hu⟩; have c0 := (HX.out.kept hu).c.2.2.1; have HF := Lib.hid hu; clear HX hu; go_wp2_with fail; refine (fetch_none c0).mono ?_; rintro e W ⟨rfl, rfl⟩; go_wp2
  go_ret2
  exact ⟨rfl, HF.out⟩
set_option maxHeartbeats 2000000 in
set_option maxRecDepth 20000 in
theorem fetch_Done (h : FetI Tu w B f m1 m2 b r q n root O s gs cs hv ov) (ha : askM n s = none) :
    Calls Tryz.prog 19 #[.pointer (some ⟨f, 0, none⟩)] w fun e W => ∃ v l, e = .returned (.tuple #[v, .bool true]) ∧ OwnLv W w.heap.size v l ∧ l.map (·.2) = bytesM n s.2 ∧ Kept w W := by
  have HG := fetch_Ask h; rw [ha] at HG; have HX := Lib.hid h; have HN := Lib.hid h.n2; clear h ha; unfold askV at HG
  go_enter Tryz.func19, Tryz.ntmps19
  go_wp2_with fail; refine HG.mono ?_; clear HG; rintro e w2 ⟨rfl, hu⟩; have H2 := Lib.hid (And.intro (HX.out.kept hu) hu); have c0 := H2.out.1.c.2.2.1; have c1 := H2.out.1.c.2.1; have c2 := H2.out.1.size (depthM_pos n); have hdp : (0 : Int) < (depthM n : Int) := by have := depthM_pos n; omega
  have hn0 : sizeL n 0 = n := rfl; rw [hn0] at c2; clear HX hu hn0; go_wp2_with fail; refine (fetch_none c0).mono ?_; rintro e W ⟨rfl, rfl⟩; go_wp2_with fail; clear c0 c1 c2 hdp
  go_loopw [26, 7] (fun i v wr => ∃ (k : Nat) (l : List (SlC × Bytes)), k ≤ n ∧ i = .int .i64 (k : Int) ∧ OwnLv wr w2.heap.size v l ∧ l.map (·.2) = bytesM k s.2 ∧ Kept w2 wr) (fun i _ _ => 3000 - (intOf i).toNat)
  case atStart => exact ⟨0, [], Nat.zero_le _, rfl, OwnLv.nil _ _, rfl, Upd.refl _ _⟩
  case round =>
    obtain ⟨k, l, hk, rfl, hown, hl, hup⟩ := hrel; rcases Nat.lt_or_ge k n with hlt | hge
    · have hki : (k : Int) < (n : Int) := by omega
      have hk5 : (k : Int) ≤ 1024 := by have := HN.out; omega
      have hll : l.length = k := by have := congrArg List.length hl; rw [bytesM_length, List.length_map] at this; exact this
      obtain ⟨⟨xA, xn, xc⟩, -, hlook, hxb, hxl⟩ := (H2.out.1.kept hup).m.look k (by have := HN.out; omega); simp only at hlook; have c3 := (H2.out.1.kept hup).c.2.2.2.1; obtain ⟨R, hR⟩ : ∃ R, R = (s.2 k).getD [] := ⟨_, rfl⟩; rw [← hR] at hxb hxl; have HC := bytes_Clone xc hxb.1 (by omega); rw [← hxb.2.1] at HC; have HQ := Lib.hid (And.intro hown (And.intro hl (And.intro hup (And.intro hlt (And.intro hR (And.intro hxl hll)))))); clear hown hl hup hlt hk hR hxl hll hxb; go_wp2_with fail; refine HC.mono ?_; clear HC; rintro e w3 ⟨v3, rfl, ho3, hu3⟩; obtain ⟨A3, c4, rfl, -, -⟩ := ho3.form; have hl3 := HQ.out.1.kept hu3; have hg := heap_alloc_new w3 (.cells (slA ⟨A3, R.length, c4⟩) 42); have hu4 : Kept w3 (w3.alloc (.cells (slA ⟨A3, R.length, c4⟩) 42)) := (Upd.refl _ w3).alloc _; have hk3 : Kept w2 w3 := HQ.out.2.2.1.then hu3 (fun _ _ h => h); have H4 := Lib.hid (And.intro (hl3.kept hu4) (And.intro (show OwnB (w3.alloc (.cells (slA ⟨A3, R.length, c4⟩) 42)) w2.heap.size (SlC.v ⟨A3, R.length, c4⟩) R from (ho3.low (HQ.out.2.2.1.size)).kept hu4) (And.intro hg (And.intro (hk3.then hu4 (fun _ _ h => h)) (show w2.heap.size ≤ (w3.alloc (.cells (slA ⟨A3, R.length, c4⟩) 42)).heap.size from (hk3.then hu4 (fun _ _ h => h)).size))))); have HLN := Lib.hid (show (l.map (·.1)).length ≤ 1023 by rw [List.length_map, HQ.out.2.2.2.2.2.2]; have := HN.out; have := HQ.out.2.2.2.1; omega); clear hl3 ho3 hg hu3 hu4 hk3 hlook c3; go_wp2_with (at_builtin; refine wpList_append_rows bs_rows rfl (.tmp 29) (.tmp 37) rfl rfl H4.out.1.1 ⟨A3, R.length, c4⟩ w3.heap.size 1 _ _ rfl H4.out.2.2.1 (by have := HLN.out; unfold maxLen; omega) (by have := HLN.out; omega) H4.out.2.2.2.2 ?_; intro v' w5 hown' hu' hnew)
      go_roundw
      case rel =>
        refine ⟨k + 1, l ++ [(⟨A3, R.length, c4⟩, R)], HQ.out.2.2.2.1, by show _ = _; go_num, OwnLv.snoc H4.out.1 H4.out.2.1 (by have := HQ.out.2.2.2.2.2.1; omega) hown' hu', ?_, H4.out.2.2.2.1.then hu' fun i hi e => ?_⟩
        · rw [List.map_append, HQ.out.2.1, bytesM_succ, ← HQ.out.2.2.2.2.1]; rfl
        · have := (World.ownsRow.lt H4.out.1.1 _ e).1
          omega
      case measure => have := HQ.out.2.2.2.1; have := HN.out; simp [intOf]; omega
    · obtain rfl : k = n := by omega
      have hki : ¬ (k : Int) < (k : Int) := by omega
      have HF := Lib.hid (And.intro (show OwnLv wr w.heap.size _ l from ⟨own_base hown.1 H2.out.2.size, fun p hp => ⟨(hown.2 p hp).1.low H2.out.2.size, (hown.2 p hp).2⟩⟩) (And.intro hl (show Kept w wr from H2.out.2.then hup (fun _ _ h => h)))); clear hown hl hup hge hk; go_wp2
      go_ret2
      first | exact ⟨_, l, rfl, HF.out.1, HF.out.2⟩ | exact ⟨_, rfl, l, HF.out.1, HF.out.2⟩
end
end Go.Proofs.YtepjbijhkkjbfaaGreat
