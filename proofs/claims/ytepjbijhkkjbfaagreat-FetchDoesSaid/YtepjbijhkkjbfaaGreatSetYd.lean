import Derived.Test.YtepjbijhkkjbfaaGreatSetYc
import Derived.Test.YtepjbijhkkjbfaaGreatSetZt
set_option linter.unusedVariables false
set_option linter.unusedSimpArgs false
namespace Go.Proofs.YtepjbijhkkjbfaaGreat
open Go.ChangeShapes Go.WideShapes Go.ChangeAt Go.RowKit
attribute [local irreducible] wpOrd
set_option maxHeartbeats 4000000 in
set_option maxRecDepth 20000 in
theorem FetchDoes_walk (root : Dig) (nn : Int) (A : Option Addr) (c0 : Nat) (l : List (SlC × Bytes)) (A2 : Option Addr) (c2 : Nat) (dl : List DeedV) (w : World) (hl : LeavesAt w A l) (h24 : l.length * 24 ≤ 140737488355328) (hd : DeedsAt w A2 dl) (hdl : dl.length ≤ 140737488351232) (hwf : (Lit.int .i64 nn).wf = true) :
    Calls Tryz.prog 3 #[.agg (planA root nn A l.length c0), .slice A2 dl.length c2] w fun e W => e = .returned (.bool true) ∧ Kept w W := by
  have hnot : ∀ (x : Bool) (w : World), (Op.unary .not (.bool x)).run Tryz.prog w = .ok (.bool (!x)) w := fun _ _ => rfl; have k1 : Kept w (w.alloc (.cells (planA root nn A l.length c0) 26)) := (Upd.refl _ w).alloc _; have r1 : Blk (w.alloc (.cells (planA root nn A l.length c0) 26)) w.heap.size 26 (encB root.1 ++ [Value.int .i64 nn, Value.slice A l.length c0]) := Blk.new w _ _; have hsz : (planA root nn A l.length c0).size = 34 := by simp [planA, encB_length, root.2]
  generalize hW1 : w.alloc (.cells (planA root nn A l.length c0) 26) = w1 at *; have hr32 : (encB root.1).length = 32 := by rw [encB_length, root.2]
  have p32 : ∀ W, Kept w1 W → W.cell? ⟨w.heap.size, 32, none⟩ = some (.int .i64 nn) := fun W hW => (r1.kept hW).cell (by rw [List.getElem?_append_right (by omega), hr32]; rfl); have p33 : ∀ W, Kept w1 W → W.cell? ⟨w.heap.size, 33, none⟩ = some (.slice A l.length c0) := fun W hW => (r1.kept hW).cell (by rw [List.getElem?_append_right (by omega), hr32]; rfl); have ps : ∀ W, Kept w1 W → segB W ⟨w.heap.size, 0, none⟩ 32 = true ∧ segV W ⟨w.heap.size, 0, none⟩ 32 = dA root := fun W hW => (r1.kept hW).seg 0 32 (encB root.1) hr32 (fun j hj => by rw [Nat.zero_add, List.getElem?_append_left (by omega)]); have HA := Lib.hid (And.intro (hl.kept k1) (And.intro h24 (And.intro (hd.kept k1) (And.intro hdl (And.intro hwf k1))))); have HP := Lib.hid (And.intro p32 (And.intro p33 ps)); have q33 := p33 w1 (Upd.refl _ _); obtain ⟨m, hm⟩ : ∃ m, m = l.length := ⟨_, rfl⟩; obtain ⟨dn, hdn⟩ : ∃ dn, dn = dl.length := ⟨_, rfl⟩; have HM := Lib.hid (And.intro hm hdn); have HG := law21_copied c0 HA.out.1 HA.out.2.1; rw [← hm] at HG hsz hW1 q33 HP ⊢; rw [← hdn]; clear hl h24 hd hdl hwf k1 r1 hr32 p32 p33 ps hm hdn
  go_enter Tryz.func3, Tryz.ntmps3
  go_wp2_with fail; refine HG.mono ?_; clear HG q33; rintro e wa ⟨vi, li, rfl, hoi, hsl, hua⟩; have hlm : li.length = m := by have := congrArg List.length hsl; rw [List.length_map, List.length_map] at this; rw [this, HM.out.1]
  obtain ⟨Ai, ki, rfl⟩ : ∃ Ai ki, vi = .slice Ai m ki := by
    obtain ⟨A', c', h⟩ := OwnRows.form hoi.1; exact ⟨A', c', by rw [h, List.length_map, hlm]⟩
  have H1 := Lib.hid (And.intro hoi (And.intro hsl (And.intro hua hlm))); have f1 : ∀ W, Kept w1 W → segB W ⟨w.heap.size, 0, none⟩ 32 = true := fun W hW => (HP.out.2.2 W hW).1; have f2 : ∀ W, Kept w1 W → segV W ⟨w.heap.size, 0, none⟩ 32 = dA root := fun W hW => (HP.out.2.2 W hW).2; have f3 := HP.out.1; have f4 := HP.out.2.1; clear hoi hsl hlm; go_wp2_with fail; have hS0 : Kept w1 wa.drew := hua.drew; refine wp_region_ord [(1, true), (2, true), (3, true), (4, true), (5, true), (0, false), (6, false), (7, true), (8, true), (9, true), (10, true), (11, true)] (by kernel_rfl) (by kernel_rfl) (Kept w1) hS0 ?_; simp only [ordOps, List.getD_cons_zero, List.getD_cons_succ]
  iterate 5 (refine wpOrd_held (fun K hK => ?_); go_simp; first | (apply Exists.intro; refine ⟨fun W hW => ?_, hK _ ?_⟩; (go_simp; first | done | exact rfl); clear hK K) | (refine hK _ ?_; clear hK K))
  have H2 := Lib.hid (And.intro (H1.out.1.kept (Upd.refl _ wa).drew) (show Kept wa wa.drew from (Upd.refl _ wa).drew)); clear hua; generalize wa.drew = wa2 at *; refine wpOrd_step (fun K hK => ?_) hS0; go_simp; refine (law_book _).mono ?_; rintro e wb ⟨b, r, q, rfl, hI⟩; have hSb : Kept w1 wb := hS0.then hI.upd fun _ _ e => e; refine hK _ _ hSb ?_; clear hK K hS0; have H3 := Lib.hid (And.intro (H2.out.1.kept hI.upd) hI); have HG := fb_any (A := Ai) (li := li) hI root nn ki (fun W hW => (H3.out.1.book hI.book hW).leaves); rw [H1.out.2.2.2] at HG; clear hI; refine wpOrd_step (fun K hK => ?_) hSb; go_simp; refine HG.mono ?_; clear HG; rintro e wc ⟨pv, z, rfl, hFB⟩; have hSc : Kept w1 wc := by
    rcases hFB with ⟨-, -, -, hu⟩ | ⟨-, -, -, -, hu⟩ | ⟨-, -, -, f, n', B, m1, m2, gs, cs, hv, ov, L', -, -, -, -, hu⟩
    · exact hSb.then hu fun _ _ e => e
    · exact hSb.then hu fun _ _ e => e
    · exact hSb.then hu fun k hk e => by have h1 := H3.out.2.far k e; have h2 := (H1.out.2.2.1.then H2.out.2 fun _ _ e => e).size; have h3 : w1.heap.size ≤ wa2.heap.size := h2; omega
  refine hK _ _ hSc ?_; clear hK K hSb
  iterate 5 (refine wpOrd_held (fun K hK => ?_); go_simp; first | (apply Exists.intro; refine ⟨fun W hW => ?_, hK _ ?_⟩; (go_simp; first | done | exact rfl); clear hK K) | (refine hK _ ?_; clear hK K))
  refine wpOrd_nil ?_; have H4 := Lib.hid hFB; clear hFB; go_wp2_with fail; have hS0 : Kept w1 wc.drew := hSc.drew; refine wp_region_ord [(1, true), (2, true), (3, true), (4, true), (5, true), (6, true), (0, false), (7, false), (8, true), (9, true), (10, true), (11, true), (12, true)] (by kernel_rfl) (by kernel_rfl) (Kept w1) hS0 ?_; simp only [ordOps, List.getD_cons_zero, List.getD_cons_succ]
  iterate 6 (refine wpOrd_held (fun K hK => ?_); go_simp; first | (apply Exists.intro; refine ⟨fun W hW => ?_, hK _ ?_⟩; (go_simp; first | done | exact rfl); clear hK K) | (refine hK _ ?_; clear hK K))
  clear f1 f2 f3 f4; have hkc : Kept wc wc.drew := (Upd.refl _ wc).drew; clear hSc; generalize wc.drew = wc2 at *; refine wpOrd_step (fun K hK => ?_) hS0; go_simp; refine (ref_New _).mono ?_; rintro e wd ⟨rfl, hr, hud⟩; have hSd : Kept w1 wd := hS0.then hud fun _ _ e => e; obtain ⟨c, hc⟩ : ∃ c, c = wc2.heap.size := ⟨_, rfl⟩; rw [← hc] at hr ⊢; have hcd : c < wd.heap.size := hr.lt; have hwc : w1.heap.size ≤ c := by rw [hc]; exact hS0.size
  refine hK _ _ hSd ?_; clear hK K; have HG := rg_any (wd := wd) (c := c) (Tv := fun k => k ≠ c ∧ k ≤ wd.heap.size) ⟨c, _, _, _, hr, Nat.le_of_lt hcd, ⟨fun e => e.1 rfl, id⟩, fun k e => (by cases e), fun x hx => absurd hx List.not_mem_nil⟩ (fun k e => e.2) ⟨by omega, Nat.le_refl _⟩ root nn c0 (A := A) (l := l)
    (fun W' hW => HA.out.1.kept (hSd.then hW fun k hk e => e ⟨by omega, by have := hSd.size; omega⟩))
    (fun hne a ha => by
      have hl0 : 0 < l.length := Nat.pos_of_ne_zero fun e => hne (List.eq_nil_of_length_eq_zero e); obtain ⟨b0, o0, A0, k0, hA0, hc0, -⟩ := HA.out.1.get hl0; rw [ha] at hA0; cases hA0
      have h1 : b0 < w1.heap.size := World.block_lt_of_cell? _ _ hc0; exact ⟨by show b0 ≠ c; omega, by show b0 ≤ wd.heap.size; omega⟩)
  rw [← HM.out.1] at HG; have H5 := Lib.hid (And.intro hkc (And.intro hud (And.intro hc (And.intro hcd hwc)))); clear hr hud hc hkc hS0; refine wpOrd_step (fun K hK => ?_) hSd; go_simp; refine HG.mono ?_; clear HG; rintro e we ⟨pv2, z2, rfl, hRG⟩; have hSe : Kept w1 we := by
    have key : Upd (fun k => ¬ (k ≠ c ∧ k ≤ wd.heap.size)) wd we → Kept w1 we := fun hu => hSd.then hu fun k hk e => e ⟨by omega, by have := hSd.size; omega⟩; rcases hRG with ⟨-, -, -, hu⟩ | ⟨-, -, -, -, hu⟩ | ⟨-, -, -, g, n', X, L', -, -, -, -, hu⟩ <;> exact key hu
  refine hK _ _ hSe ?_; clear hK K
  iterate 5 (refine wpOrd_held (fun K hK => ?_); go_simp; first | (apply Exists.intro; refine ⟨fun W hW => ?_, hK _ ?_⟩; (go_simp; first | done | exact rfl); clear hK K) | (refine hK _ ?_; clear hK K))
  refine wpOrd_nil ?_; have H6 := Lib.hid (And.intro hRG hSe); clear hRG hSe hSd hcd hwc; have hae : Kept wa we := by
    have h1 : Kept wa wb := H2.out.2.then H3.out.2.upd fun _ _ e => e; have h2 : Kept wa wc := by
      rcases H4.out with ⟨-, -, -, hu⟩ | ⟨-, -, -, -, hu⟩ | ⟨-, -, -, f, n', B, m1, m2, gs, cs, hv, ov, L', -, -, -, -, hu⟩
      · exact h1.then hu fun _ _ e => e
      · exact h1.then hu fun _ _ e => e
      · exact h1.then hu fun k hk e => by have h3 := H3.out.2.far k e; have h4 := H2.out.2.size; omega
    have h3 : Kept wa wd := (h2.then H5.out.1 fun _ _ e => e).then H5.out.2.1 fun _ _ e => e; have h5 : wa.heap.size ≤ c := by rw [H5.out.2.2.1]; exact (h2.then H5.out.1 fun _ _ e => e).size
    have key : Upd (fun k => ¬ (k ≠ c ∧ k ≤ wd.heap.size)) wd we → Kept wa we := fun hu => h3.then hu fun k hk e => e ⟨by omega, by have := h3.size; omega⟩; rcases H6.out.1 with ⟨-, -, -, hu⟩ | ⟨-, -, -, -, hu⟩ | ⟨-, -, -, g, n', X, L', -, -, -, -, hu⟩ <;> exact key hu
  have HSL := same_leaves ki c0 (H1.out.1.kept hae).leaves (HA.out.1.kept H6.out.2) (by rw [H1.out.2.2.2, HM.out.1]; have := HA.out.2.1; omega); rw [H1.out.2.2.2, ← HM.out.1, decide_eq_true H1.out.2.1] at HSL; have HAE := Lib.hid hae; clear hae; have hbl : longB li = longB l := longB_secs H1.out.2.1; have hml : l.length = m := HM.out.1.symm; have hlm : li.length = m := H1.out.2.2.2; have hFB := H4.out; have hRG := H6.out.1; unfold FB at hFB; unfold RG at hRG; rw [hlm] at hFB; rw [hml] at hRG; rcases hFB with ⟨rfl, rfl, hb1, -⟩ | ⟨rfl, rfl, hb1, hl1, -⟩ | ⟨rfl, hb1, hl1, f, n, B, m1, m2, gs, cs, hv, ov, L1, rfl, rfl, hf, hbk, hu1⟩
  · rcases hRG with ⟨rfl, rfl, hb2, -⟩ | ⟨rfl, rfl, hb2, -⟩ | ⟨rfl, hb2, -⟩
    · clear hb1 hb2 hbl hml hlm H4
      have q33 := HP.out.2.1 we H6.out.2; go_wp2_with fail; refine HSL.mono ?_; clear HSL; rintro e wf ⟨rfl, huf⟩; have HF := Lib.hid (show Kept w wf from (HA.out.2.2.2.2.2.then H6.out.2 fun _ _ e => e).then huf fun _ _ e => e); clear q33 huf; go_wp2_with fail; refine (law21_works _).mono ?_; rintro e wg ⟨rfl, hug⟩
      replace HF := Lib.hid (HF.out.then hug fun _ _ e => e)
      clear hug; go_wp2
      go_ret
      exact ⟨rfl, HF.out⟩
    · exact absurd hb1 hb2
    · exact absurd hb1 hb2
  · rcases hRG with ⟨rfl, rfl, hb2, -⟩ | ⟨rfl, rfl, hb2, hl2, -⟩ | ⟨rfl, hb2, hl2, -⟩
    · exact absurd hb2 hb1
    · clear hb1 hb2 hl1 hl2 hbl hml hlm H4
      have q33 := HP.out.2.1 we H6.out.2; go_wp2_with fail; refine HSL.mono ?_; clear HSL; rintro e wf ⟨rfl, huf⟩; have HF := Lib.hid (show Kept w wf from (HA.out.2.2.2.2.2.then H6.out.2 fun _ _ e => e).then huf fun _ _ e => e); clear q33 huf; go_wp2_with fail; refine (law21_works _).mono ?_; rintro e wg ⟨rfl, hug⟩
      replace HF := Lib.hid (HF.out.then hug fun _ _ e => e)
      clear hug; go_wp2
      go_ret
      exact ⟨rfl, HF.out⟩
    · rw [hbl, hl2] at hl1; cases hl1
  · rcases hRG with ⟨rfl, rfl, hb2, -⟩ | ⟨rfl, rfl, hb2, hl2, -⟩ | ⟨rfl, hb2, hl2, g, n2, X, M, rfl, hn2, hM, hrb, hu2⟩
    · exact absurd hb2 hb1
    · rw [hbl, hl2] at hl1; cases hl1
    · obtain rfl : n = n2 := by omega
      have q32 := HP.out.1 we H6.out.2; have q33 := HP.out.2.1 we H6.out.2
      by_cases h100 : (100 : Int) < (n : Int)
      · have hd1 : decide ((100 : Int) < (n : Int)) = true := decide_eq_true h100
        have hd1n : decide (100 < n) = true := decide_eq_true (by omega); clear hb1 hb2 hl1 hl2 hbl hml hlm H4 hf hbk hu1 hn2 hM hrb hu2 h100; go_wp2_with fail; refine HSL.mono ?_; clear HSL; rintro e wf ⟨rfl, huf⟩; have HF := Lib.hid (show Kept w wf from (HA.out.2.2.2.2.2.then H6.out.2 fun _ _ e => e).then huf fun _ _ e => e)
        replace q32 := huf.cell q32 id
        clear q33 huf; go_wp2_with fail; refine (law21_works _).mono ?_; rintro e wg ⟨rfl, hug⟩
        replace HF := Lib.hid (HF.out.then hug fun _ _ e => e)
        clear hug; go_wp2
        go_ret
        exact ⟨rfl, HF.out⟩
      · have hd1 : decide ((100 : Int) < (n : Int)) = false := decide_eq_false h100
        have hd1n : decide (100 < n) = false := decide_eq_false (by omega); have HJ : Hid (JJ w1 we f g n root (oldO li) (begS n (oldO li) root) (begS n (oldO li) root) 2048 (fun k => w1.heap.size ≤ k ∧ k < wa.heap.size)) := by
          have e1 : oldO l = oldO li := (oldO_secs H1.out.2.1).symm; rw [e1] at hrb; have e2 := H5.out.2.2.1; subst e2; exact jj_start (wc := wc2) H1.out.2.2.1 (show Ink0 wa wb b r q [] from ⟨H3.out.2.book, H2.out.2.then H3.out.2.upd fun _ _ e => e, fun k e => Nat.le_trans H2.out.2.size (H3.out.2.far k e)⟩) (hf.kept H5.out.1) (hbk.kept H5.out.1) (hu1.then H5.out.1 fun _ _ e => e.elim) H5.out.2.1 H5.out.2.2.2.1 hrb hM hu2
        have HN := Lib.hid (show n ≤ 100 ∧ m ≤ 100 from ⟨by omega, by unfold argBad at hb1; omega⟩); obtain ⟨O, hO⟩ : ∃ O, O = oldO li := ⟨_, rfl⟩; rw [← hO] at HJ; obtain ⟨s, hs⟩ : ∃ s, s = begS n O root := ⟨_, rfl⟩; rw [← hs] at HJ; clear hb1 hb2 hl1 hl2 hbl hml hlm H4 hf hbk hu1 hn2 hM hrb hu2 h100 hO hs; go_wp2_with fail; refine HSL.mono ?_; clear HSL; rintro e wf ⟨rfl, huf⟩
        replace q32 := huf.cell q32 id
        have hRw := (Rws.of H1.out.1).kept (HAE.out.then huf fun _ _ e => e); have HK := Lib.hid (And.intro (HJ.out.kept huf) hRw); have hlk : ∀ p ∈ li, ∀ k, p.1.v.ownBlock = some k → k < wa.heap.size := fun p hp k e => ((H1.out.1.2 p hp).1.far k e).2; have HLK := Lib.hid (And.intro hlk (show ∀ p ∈ li, p.2.length ≤ 140737488351232 from fun p hp => (H1.out.1.2 p hp).2)); have HLM := Lib.hid H1.out.2.2.2; clear q33 huf hRw hlk HJ H6 HAE H5 H3 H2 H1; go_wp2_with fail; clear q32 hd1 hd1n
        go_loopw [10] (fun u wr => ∃ i : Nat, i ≤ m ∧ u = .int .i64 (i : Int) ∧ JJ w1 wr f g n root O s s 2048 (fun k => w1.heap.size ≤ k ∧ k < wa.heap.size) ∧ Rws wr w1.heap.size (.slice Ai m ki) li) (fun u _ => 3000 - (intOf u).toNat)
        case atStart => exact ⟨0, Nat.zero_le _, rfl, HK.out.1, HK.out.2⟩
        case round =>
          clear HK; obtain ⟨i, hi, rfl, hJ, hR⟩ := hrel; rcases Nat.lt_or_ge i m with hlt | hge
          · have hii : (i : Int) < (m : Int) := by omega
            have hi5 : (i : Int) ≤ 100 := by have := HN.out.2; omega
            have hil : i < li.length := by rw [HLM.out]; exact hlt
            obtain ⟨gi, ci, Ax, cx, hv, hcell, hx, -⟩ := hR.row hil; rw [HLM.out] at hv; simp only [Value.slice.injEq, true_and] at hv; obtain ⟨rfl, rfl⟩ := hv; obtain ⟨ln, hln⟩ : ∃ ln, ln = li[i].2.length := ⟨_, rfl⟩; have hl5 : (ln : Int) ≤ 140737488351232 := by have := HLK.out.2 _ (List.getElem_mem hil); omega
            rw [← hln] at hcell hx; have HX := Lib.hid (And.intro hln (And.intro hx hlt)); have HQ := Lib.hid (And.intro hJ hR); clear hJ hR hlt hi hln hx hcell; go_wp2_with fail; obtain ⟨wo, rfl⟩ : ∃ wo : World, wo = wr := ⟨_, rfl⟩
            go_loopw [11] (fun u wr => ∃ k : Nat, k ≤ ln ∧ u = .int .i64 (k : Int) ∧ JJ w1 wr f g n root O s s 2048 (fun k => w1.heap.size ≤ k ∧ k < wa.heap.size) ∧ Rws wr w1.heap.size (.slice (some ⟨gi, 0, none⟩) m ki) li) (fun u _ => 140737488360000 - (intOf u).toNat)
            case atStart => exact ⟨0, Nat.zero_le _, rfl, HQ.out.1, HQ.out.2⟩
            case round =>
              clear HQ; obtain ⟨k, hk, rfl, hJ, hR⟩ := hrel; have hil : i < li.length := by rw [HLM.out]; exact HX.out.2.2
              obtain ⟨gi', ci', A2', c2', hv, hcell, hx2, cur, hcur⟩ := hR.row hil; rw [HLM.out] at hv; simp only [Value.slice.injEq, Option.some.injEq, Addr.mk.injEq, and_true, true_and] at hv; obtain ⟨rfl, -⟩ := hv; rw [HX.out.2.1] at hx2; simp only [SlC.mk.injEq] at hx2; obtain ⟨rfl, -, rfl⟩ := hx2; rw [← HX.out.1] at hcell; rcases Nat.lt_or_ge k ln with hlt | hge
              · have hki : (k : Int) < (ln : Int) := by omega
                have hk5 : (k : Int) ≤ 140737488351232 := by omega
                obtain ⟨g2, c3, vs, u0, hxb, -, hblk, -, -, -⟩ := hR.byte hil (k := k) (by rw [← HX.out.1]; exact hlt); rw [HX.out.2.1] at hxb; simp only [SlC.mk.injEq] at hxb; obtain ⟨rfl, -, rfl⟩ := hxb; have hgg : ¬ gi = g2 := fun e => cells_ne hcur hblk (by decide) e; have fo : ∀ W, Upd (fun j => j = g2) wr W → W.cell? ⟨gi, i, none⟩ = some (.slice (some ⟨g2, 0, none⟩) ln cx) := fun W hW => hW.cell hcell hgg; have hlw : w1.heap.size ≤ g2 ∧ g2 < wa.heap.size := by
                  have h1 : li[i].1.v.ownBlock = some g2 := by rw [HX.out.2.1]; rfl
                  obtain ⟨R0, h2, h3⟩ := hR.2 _ (List.getElem_mem hil); exact ⟨(h3.far g2 h1).1, HLK.out.1 _ (List.getElem_mem hil) g2 h1⟩
                have HQ := Lib.hid (And.intro hJ (And.intro hR (And.intro hlt hlw))); clear hJ hR hblk hcur hgg hlt hk hlw; go_wp2_with fail; have hS : Upd (fun j => j = g2) wr wr.drew := (Upd.refl _ wr).drew; refine wp_region_ord [(0, true), (1, true), (2, true), (3, true), (4, true), (5, true), (6, true), (7, true), (8, true), (9, true), (10, true), (11, false), (12, true), (13, true), (14, false)] (by kernel_rfl) (by kernel_rfl) (Upd (fun j => j = g2) wr) hS ?_; simp only [ordOps, List.getD_cons_zero, List.getD_cons_succ]
                iterate 11 (refine wpOrd_held (fun K hK => ?_); go_simp; first | (apply Exists.intro; refine ⟨fun W hW => ?_, hK _ ?_⟩; (go_simp; first | done | exact rfl); clear hK K) | (refine hK _ ?_; clear hK K))
                clear fo hcell; have hkd : Kept wr wr.drew := (Upd.refl _ wr).drew; obtain ⟨g2', c3', vs, u, hxb, -, hblk, hcb, hfz, hset⟩ := (HQ.out.2.1.kept hkd).byte hil (k := k) (by rw [← HX.out.1]; exact HQ.out.2.2.1); rw [HX.out.2.1] at hxb; simp only [SlC.mk.injEq, Option.some.injEq, Addr.mk.injEq, and_true] at hxb; obtain ⟨rfl, -⟩ := hxb; have hJd := HQ.out.1.kept hkd; clear hkd; generalize wr.drew = wd2 at *; have hw8 := u8_add u; have hu2 : Upd (fun j => j = g2) wd2 (wd2.setCell ⟨g2, k, none⟩ (.int .u8 ((u + 1).toNat : Int))) := (Upd.refl _ _).setCell (p := ⟨g2, k, none⟩) _ fun _ => rfl; have hS2 : Upd (fun j => j = g2) wr (wd2.setCell ⟨g2, k, none⟩ (.int .u8 ((u + 1).toNat : Int))) := hS.trans hu2; have HF := Lib.hid (And.intro (hJd.turn hu2 (fun j e => by rw [show j = g2 from e]; exact HQ.out.2.2.2) (fun j e => by rw [show j = g2 from e]; exact HQ.out.2.2.2.1)) hset); clear hJd hset hblk hu2; refine wpOrd_step (fun K hK => ?_) hS; go_simp; refine hK _ _ hS ?_; clear hK K; generalize hy : u + 1 = y at *
                iterate 2 (refine wpOrd_held (fun K hK => ?_); go_simp; first | (apply Exists.intro; refine ⟨fun W hW => ?_, hK _ ?_⟩; (go_simp; first | done | exact rfl); clear hK K) | (refine hK _ ?_; clear hK K))
                refine wpOrd_step (fun K hK => ?_) hS; go_simp; refine hK _ _ hS2 ?_; clear hK K hS hS2 hcb hfz hw8; refine wpOrd_nil ?_; go_wp2_with fail
                go_roundw
                case rel => exact ⟨k + 1, HQ.out.2.2.1, by show _ = _; go_num, HF.out.1, HF.out.2⟩
                case measure => have := HQ.out.2.2.1; simp [intOf]; omega
              · obtain rfl : k = ln := by omega
                have hki : ¬ ((k : Int) < (k : Int)) := by omega
                have HF := Lib.hid (And.intro hJ hR); clear hJ hR hge hk hcur; go_wp2_with fail
                go_roundw
                case rel => exact ⟨i + 1, HX.out.2.2, by show _ = _; go_num, HF.out.1, HF.out.2⟩
                case measure => have := HX.out.2.2; have := HN.out.2; simp [intOf]; omega
          · obtain rfl : i = m := by omega
            have hii : ¬ ((i : Int) < (i : Int)) := by omega
            have HJ := Lib.hid (JJ.sub (Lw' := fun _ => False) hJ fun _ e => e.elim); clear hJ hR hge hi HLK HLM; go_wp2_with fail; have hdn5 : (dn : Int) ≤ 140737488351232 := by have := HA.out.2.2.2.1; have := HM.out.2; omega
            go_loopw [12] (fun u wr => ∃ (i : Nat) (s : KM × BM), i ≤ dn ∧ i ≤ 60 ∧ u = .int .i64 (i : Int) ∧ JJ w1 wr f g n root O s s (2048 + i) (fun _ => False)) (fun u _ => 3000 - (intOf u).toNat)
            case atStart => exact ⟨0, s, Nat.zero_le _, Nat.zero_le _, rfl, HJ.out⟩
            case round =>
              clear HJ; obtain ⟨j, s, hjd, hj60, rfl, hJ⟩ := hrel
              by_cases hgo : j < dn ∧ j < 60
              · have hji : (j : Int) < (dn : Int) := by omega
                have hj6 : (j : Int) < 60 := by omega
                have HJ := Lib.hid (And.intro hJ hgo); have HG := jj_Ask hJ; obtain ⟨ax, ay, az, hav⟩ := askV_form (askM n s); rw [hav] at HG; have HAV := Lib.hid hav; clear hJ hgo hjd hj60 hav; go_wp2_with fail; refine HG.mono ?_; clear HG; rintro e wf2 ⟨rfl, hJ2, hu2⟩; have HG := jj_RAsk hJ2; rw [HAV.out] at HG; have HJ2 := Lib.hid hJ2; clear hJ2 hu2; go_wp2_with fail; refine HG.mono ?_; clear HG; rintro e W ⟨rfl, rfl⟩; have hjl : j < dl.length := by rw [← HM.out.2]; exact HJ.out.2.1
                obtain ⟨b0, o0, hA0, hD0⟩ := HA.out.2.2.1 j hjl; obtain ⟨d, hd0⟩ : ∃ d, d = dl[j]'hjl := ⟨_, rfl⟩; rw [← hd0] at hD0; subst hA0; obtain ⟨is, lv, pl, ⟨xA, xn, xc⟩, D, ⟨yA, yn, yc⟩, R⟩ := d; have hxn : xn = D.length := hD0.ds.2; have hyn : yn = R.length := hD0.bs.1.2.1; subst hxn hyn; have HDD := Lib.hid (show ∀ W, Kept w1 W → Digs W xA D ∧ Byt W yA R from fun W hW => ⟨(hD0.kept hW).ds.1, (hD0.kept hW).bs.1.1⟩); have HRL := Lib.hid (show R.length ≤ 140737488351232 from hD0.bs.2); obtain ⟨t1, t2⟩ := (hD0.kept HJ2.out.upd).seg
                change segV wf2 _ 5 = #[.bool is, .int .i64 lv, .int .i64 pl, .slice xA D.length xc, .slice yA R.length yc] at t2
                obtain ⟨Dn, hDn⟩ : ∃ Dn, Dn = D.length := ⟨_, rfl⟩; obtain ⟨Rn, hRn⟩ : ∃ Rn, Rn = R.length := ⟨_, rfl⟩; rw [← hDn, ← hRn] at t2; have HDR := Lib.hid (And.intro hDn hRn); have hrb : (storeRow 47 (.pointer (some ⟨wf2.heap.size, 0, none⟩)) (.agg #[.bool is, .int .i64 lv, .int .i64 pl, .slice xA Dn xc, .slice yA Rn yc])).run Tryz.prog (wf2.alloc (.cells #[.bool false, .int .i64 0, .int .i64 0, .slice none 0 0, .slice none 0 0] 47)) = .ok .skip (wf2.alloc (.cells #[.bool is, .int .i64 lv, .int .i64 pl, .slice xA Dn xc, .slice yA Rn yc] 47)) := by
                  rw [row_store47 _ _ _ (rowB_new wf2 #[.bool false, .int .i64 0, .int .i64 0, .slice none 0 0, .slice none 0 0] 47 wf2.heap.size 5 rfl rfl) rfl rfl, setRow_new _ _ _ _ _ rfl]
                have hk5 : Kept wf2 (wf2.alloc (.cells #[.bool is, .int .i64 lv, .int .i64 pl, .slice xA Dn xc, .slice yA Rn yc] 47)) := (Upd.refl _ wf2).alloc _; have hb5 : Blk (wf2.alloc (.cells #[.bool is, .int .i64 lv, .int .i64 pl, .slice xA Dn xc, .slice yA Rn yc] 47)) wf2.heap.size 47 [.bool is, .int .i64 lv, .int .i64 pl, .slice xA Dn xc, .slice yA Rn yc] := Blk.new wf2 _ _; obtain ⟨gd, hgd⟩ : ∃ gd, gd = wf2.heap.size := ⟨_, rfl⟩; have hJ5 : JJ w1 (wf2.alloc (.cells #[.bool is, .int .i64 lv, .int .i64 pl, .slice xA Dn xc, .slice yA Rn yc] 47)) f g n root O s s (2048 + j) (fun k => k = gd) := (HJ2.out.law hk5 (fun _ _ e => e.elim) (fun _ e => e.elim)).sub fun k e => .inr ⟨by rw [show k = gd from e, hgd]; exact Nat.le_refl _, by rw [show k = gd from e, hgd]; exact hb5.lt⟩; have q0 := hb5.cell (k := 0) rfl; rw [← hgd] at hb5; have H5 := Lib.hid (And.intro hJ5 (And.intro hb5 (show w1.heap.size ≤ gd by rw [hgd]; exact HJ2.out.upd.size))); have HGD := Lib.hid hgd; clear hk5 hb5 hJ5 hD0 hjl hd0 hDn hRn; cases is with
                | true =>
                  go_wp2_with fail; clear hrb t1 t2 q0; rw [← hgd]; generalize wf2.alloc (.cells #[.bool true, .int .i64 lv, .int .i64 pl, .slice xA Dn xc, .slice yA Rn yc] 47) = w5 at *; have hnl : ¬ NL w1 (fun k => k = gd) gd := fun e => e.1 rfl; have f1 : ∀ W, Upd (NL w1 (fun k => k = gd)) w5 W → W.cell? ⟨gd, 1, none⟩ = some (.int .i64 lv) := fun W hW => hW.cell (H5.out.2.1.cell rfl) hnl; have f2 : ∀ W, Upd (NL w1 (fun k => k = gd)) w5 W → W.cell? ⟨gd, 2, none⟩ = some (.int .i64 pl) := fun W hW => hW.cell (H5.out.2.1.cell rfl) hnl; have f3 : ∀ W, Upd (NL w1 (fun k => k = gd)) w5 W → W.cell? ⟨gd, 3, none⟩ = some (.slice xA Dn xc) := fun W hW => hW.cell (H5.out.2.1.cell rfl) hnl; have hS : Upd (NL w1 (fun k => k = gd)) w5 w5.drew := (Upd.refl _ _).drew; clear hgd; refine wp_region_ord [(0, true), (1, true), (2, true), (3, true), (4, true), (5, true), (6, true), (8, true), (9, true), (10, true), (11, true), (12, true), (13, true), (14, true), (7, false), (15, false), (16, true)] (by kernel_rfl) (by kernel_rfl) (Upd (NL w1 (fun k => k = gd)) w5) hS ?_; simp only [ordOps, List.getD_cons_zero, List.getD_cons_succ]
                  iterate 14 (refine wpOrd_held (fun K hK => ?_); go_simp; first | (apply Exists.intro; refine ⟨fun W hW => ?_, hK _ ?_⟩; (go_simp; first | done | exact rfl); clear hK K) | (refine hK _ ?_; clear hK K))
                  clear f1 f2 f3; have hJd := H5.out.1.kept (Upd.refl _ w5).drew; generalize w5.drew = wd3 at *; have HG := jj_Parts hJd lv pl xc (HDD.out wd3 hJd.upd).1; rw [← HDR.out.1] at HG; clear hJd; obtain ⟨zz, hzz⟩ : ∃ zz, zz = partsE n s lv pl D := ⟨_, rfl⟩; rw [← hzz] at HG; have HZ := Lib.hid hzz; clear hzz; refine wpOrd_step (fun K hK => ?_) hS; go_simp; refine HG.mono ?_; clear HG; rintro e w6 ⟨rfl, hJ6, hu6⟩; have hS6 := hS.trans hu6; refine hK _ _ hS6 ?_; clear hK K hS hu6; have HG := jj_RParts hJ6 (by have := HJ.out.2.2; omega) lv pl xc (D := D) (A := xA) (fun W' hW => (HDD.out W' (hJ6.upd.then hW fun k hk e => by have := e.2; omega)).1); rw [← HDR.out.1, ← HZ.out] at HG; clear hJ6; refine wpOrd_step (fun K hK => ?_) hS6; go_simp; refine HG.mono ?_; clear HG; rintro e w7 ⟨rfl, hJ7, hu7⟩; have hS7 := hS6.trans hu7; refine hK _ _ hS7 ?_; clear hK K hS6 hu7
                  iterate 1 (refine wpOrd_held (fun K hK => ?_); go_simp; first | (apply Exists.intro; refine ⟨fun W hW => ?_, hK _ ?_⟩; (go_simp; first | done | exact rfl); clear hK K) | (refine hK _ ?_; clear hK K))
                  refine wpOrd_nil ?_; have HF := Lib.hid (hJ7.sub (Lw' := fun _ => False) fun _ e => e.elim); clear hJ7 hS7; go_wp2_with fail
                  go_roundw
                  case rel => exact ⟨j + 1, _, by have := HJ.out.2.1; omega, by have := HJ.out.2.2; omega, by show _ = _; go_num, HF.out⟩
                  case measure => have := HJ.out.2.2; simp [intOf]; omega
                | false =>
                  have q4 := (H5.out.2.1.cell (k := 4) rfl); have HG := ref_CopyBytes yc (HDD.out _ H5.out.1.upd).2 HRL.out; rw [← HDR.out.2] at HG; rw [hgd] at q4; go_wp2_with fail; refine HG.mono ?_; clear HG hrb t1 t2 q0 q4; rw [← hgd]; clear hgd; generalize wf2.alloc (.cells #[.bool false, .int .i64 lv, .int .i64 pl, .slice xA Dn xc, .slice yA Rn yc] 47) = w5 at *; rintro e w6 ⟨vb, rfl, hob, hu6⟩; obtain ⟨Ab, kb, hvb, -, -⟩ := hob.form; rw [← HDR.out.2] at hvb; subst hvb; obtain ⟨lo, hlo⟩ : ∃ lo, lo = w5.heap.size := ⟨_, rfl⟩; obtain ⟨hi, hhi⟩ : ∃ hi, hi = w6.heap.size := ⟨_, rfl⟩; have hJ6 := (H5.out.1.law hu6 (fun _ _ e => e.elim) (fun _ e => e.elim)); rw [← hlo, ← hhi] at hJ6; rw [← hlo] at hob; have hfar : ∀ k, (Value.slice Ab Rn kb).ownBlock = some k → lo ≤ k ∧ k < hi := fun k e => by rw [hhi]; exact hob.far k e
                  have hlw1 : w1.heap.size ≤ lo := by rw [hlo]; exact H5.out.1.upd.size
                  have H6 := Lib.hid (And.intro hJ6 (And.intro hob (And.intro (H5.out.2.1.kept hu6) (And.intro hfar (And.intro H5.out.2.2 hlw1))))); clear hJ6 hob hu6 hlo hhi hfar hlw1; go_wp2_with fail; have hnl : ¬ NL w1 (fun k => k = gd ∨ (lo ≤ k ∧ k < hi)) gd := fun e => e.1 (.inl rfl); have f2 : ∀ W, Upd (NL w1 (fun k => k = gd ∨ (lo ≤ k ∧ k < hi))) w6 W → W.cell? ⟨gd, 2, none⟩ = some (.int .i64 pl) := fun W hW => hW.cell (H6.out.2.2.1.cell rfl) hnl; have f4 : ∀ W, Upd (NL w1 (fun k => k = gd ∨ (lo ≤ k ∧ k < hi))) w6 W → W.cell? ⟨gd, 4, none⟩ = some (.slice yA Rn yc) := fun W hW => hW.cell (H6.out.2.2.1.cell rfl) hnl; have hS : Upd (NL w1 (fun k => k = gd ∨ (lo ≤ k ∧ k < hi))) w6 w6.drew := (Upd.refl _ _).drew; have hoS : ∀ W, Upd (NL w1 (fun k => k = gd ∨ (lo ≤ k ∧ k < hi))) w6 W → OwnB W lo (.slice Ab Rn kb) R := fun W hW => H6.out.2.1.upd hW fun k e e2 => e2.1 (.inr (H6.out.2.2.2.1 k e)); have hbS : ∀ W, Upd (NL w1 (fun k => k = gd ∨ (lo ≤ k ∧ k < hi))) w6 W → Byt W Ab R := fun W hW => by
                    obtain ⟨A', k', h1, -, h2⟩ := (hoS W hW).form; simp only [Value.slice.injEq] at h1; rw [h1.1]; exact h2
                  have HOS := Lib.hid (And.intro hoS hbS); clear hoS hbS; refine wp_region_ord [(0, true), (1, true), (2, true), (3, true), (5, true), (6, true), (7, true), (8, true), (9, true), (4, false), (10, false), (11, true), (12, true), (13, true), (14, true), (15, true), (16, false), (17, true), (18, true)] (by kernel_rfl) (by kernel_rfl) (Upd (NL w1 (fun k => k = gd ∨ (lo ≤ k ∧ k < hi))) w6) hS ?_; simp only [ordOps, List.getD_cons_zero, List.getD_cons_succ]
                  iterate 9 (refine wpOrd_held (fun K hK => ?_); go_simp; first | (apply Exists.intro; refine ⟨fun W hW => ?_, hK _ ?_⟩; (go_simp; first | done | exact rfl); clear hK K) | (refine hK _ ?_; clear hK K))
                  have hJd := H6.out.1.kept (Upd.refl _ w6).drew; have hbd := HOS.out.2 _ hS; generalize w6.drew = wd3 at *; have HG := jj_Leaf hJd pl kb hbd HRL.out; rw [← HDR.out.2] at HG; clear hJd hbd; obtain ⟨zz, hzz⟩ : ∃ zz, zz = leafE n s pl R := ⟨_, rfl⟩; rw [← hzz] at HG; have HZ := Lib.hid hzz; clear hzz; refine wpOrd_step (fun K hK => ?_) hS; go_simp; refine HG.mono ?_; clear HG; rintro e w7 ⟨rfl, hJ7, hu7⟩; have hS7 : Upd (NL w1 (fun k => k = gd ∨ (lo ≤ k ∧ k < hi))) w6 w7 := hS.trans (hu7.mono fun k _ e => ⟨fun e2 => e.1 (e2.imp id fun e3 => e3), e.2⟩); refine hK _ _ hS7 ?_; clear hK K hS hu7; have HG := jj_RLeaf hJ7 (by have := HJ.out.2.2; omega) pl yc (R := R) (A := yA) (fun W' hW => (HDD.out W' (hJ7.upd.then hW fun k hk e => by have := e.2; omega)).2) HRL.out; rw [← HDR.out.2, ← HZ.out] at HG; clear hJ7; refine wpOrd_step (fun K hK => ?_) hS7; go_simp; refine HG.mono ?_; clear HG; rintro e w8 ⟨rfl, hJ8, hu8⟩; have hS8 : Upd (NL w1 (fun k => k = gd ∨ (lo ≤ k ∧ k < hi))) w6 w8 := hS7.trans (hu8.mono fun k _ e => ⟨fun e2 => e.1 (e2.imp id fun e3 => e3), e.2⟩); refine hK _ _ hS8 ?_; clear hK K hS7 hu8; have HG := ref_EqBytes_same kb yc (HOS.out.2 w8 hS8) (HDD.out w8 hJ8.upd).2 HRL.out; rw [← HDR.out.2] at HG; have HJ8 := Lib.hid hJ8; clear hJ8
                  iterate 5 (refine wpOrd_held (fun K hK => ?_); go_simp; first | (apply Exists.intro; refine ⟨fun W hW => ?_, hK _ ?_⟩; (go_simp; first | done | exact rfl); clear hK K) | (refine hK _ ?_; clear hK K))
                  refine wpOrd_step (fun K hK => ?_) hS8; go_simp; refine HG.mono ?_; clear HG; rintro e w9 ⟨rfl, hu9⟩; have hS9 := hS8.then hu9 fun _ _ e => e.elim; refine hK _ _ hS9 ?_; clear hK K
                  iterate 2 (refine wpOrd_held (fun K hK => ?_); go_simp; first | (apply Exists.intro; refine ⟨fun W hW => ?_, hK _ ?_⟩; (go_simp; first | done | exact rfl); clear hK K) | (refine hK _ ?_; clear hK K))
                  refine wpOrd_nil ?_; have H9 := Lib.hid (And.intro (HJ8.out.kept hu9) (HOS.out.1 w9 hS9)); clear f2 f4 hS8 hS9 hu9 hnl HJ8 HOS; have hRn5 : (Rn : Int) ≤ 140737488351232 := by have := HRL.out; have := HDR.out.2; omega
                  go_wp2_with fail; obtain ⟨wo, rfl⟩ : ∃ wo : World, wo = wr := ⟨_, rfl⟩
                  go_loopw [21] (fun u wr => ∃ (k : Nat) (Rm : Bytes), k ≤ Rn ∧ u = .int .i64 (k : Int) ∧ Rm.length = Rn ∧ OwnB wr lo (.slice Ab Rn kb) Rm ∧ JJ w1 wr f g n root O (leafS n s pl R) (leafS n s pl R) (2048 + j + 1) (fun k => k = gd ∨ (lo ≤ k ∧ k < hi))) (fun u _ => 140737488360000 - (intOf u).toNat)
                  case atStart => exact ⟨0, R, Nat.zero_le _, rfl, HDR.out.2.symm, H9.out.2, H9.out.1.sub fun k e => e.imp id fun e3 => e3⟩
                  case round =>
                    clear H9; obtain ⟨k, Rm, hk, rfl, hml, hom, hJm⟩ := hrel; rcases Nat.lt_or_ge k Rn with hlt | hge
                    · have hki : (k : Int) < (Rn : Int) := by omega
                      have hk5 : (k : Int) ≤ 140737488351232 := by omega
                      have hkR : k < Rm.length := by omega
                      obtain ⟨g2, cg, vs, hv, hgB, hblk, hcell, hfz, hset⟩ := own_setByte hom hkR (Rm[k] + 1); simp only [Value.slice.injEq] at hv; obtain ⟨rfl, -, rfl⟩ := hv; have hw8 := u8_add Rm[k]; have hg2 := H6.out.2.2.2.1 g2 rfl; have hJ2 := hJm.turn (S := fun j => j = g2) ((Upd.refl _ wr).setCell (p := ⟨g2, k, none⟩) (.int .u8 ((Rm[k] + 1).toNat : Int)) fun _ => rfl) (fun j e => by rw [show j = g2 from e]; exact .inr hg2) (fun j e => by rw [show j = g2 from e]; have := H6.out.2.2.2.2.2; omega); have hls : (Rm.set k (Rm[k] + 1)).length = Rn := by rw [List.length_set]; exact hml
                      generalize Rm.set k (Rm[k] + 1) = Rm2 at *; generalize hy : Rm[k] + 1 = y at *; generalize Rm[k] = x at *; have HF := Lib.hid (And.intro hset (And.intro hJ2 (And.intro hls hlt))); clear hset hJ2 hls hml hom hJm hblk hgB hg2 hkR hk hlt hy; go_wp2_with fail
                      go_roundw
                      case rel => exact ⟨k + 1, Rm2, HF.out.2.2.2, by show _ = _; go_num, HF.out.2.2.1, HF.out.1, HF.out.2.1⟩
                      case measure => have := HF.out.2.2.2; simp [intOf]; omega
                    · obtain rfl : k = Rn := by omega
                      have hki : ¬ ((k : Int) < (k : Int)) := by omega
                      have HF := Lib.hid (hJm.sub (Lw' := fun _ => False) fun _ e => e.elim); clear hml hom hJm hge hk; go_wp2_with fail
                      go_roundw
                      case rel => exact ⟨j + 1, _, by have := HJ.out.2.1; omega, by have := HJ.out.2.2; omega, by show _ = _; go_num, HF.out⟩
                      case measure => have := HJ.out.2.2; simp [intOf]; omega
              · have HJ := Lib.hid hJ
                by_cases hjn : j < dn
                · have hji : (j : Int) < (dn : Int) := by omega
                  have hj6 : ¬ ((j : Int) < 60) := by omega
                  clear hJ hgo hjd hj60 hjn; have HG := jj_Done HJ.out; obtain ⟨zb, hzb⟩ : ∃ zb, zb = (askM n s).isNone := ⟨_, rfl⟩; rw [← hzb] at HG; have HZB := Lib.hid hzb; clear hzb; go_wp2_with fail; refine HG.mono ?_; clear HG; rintro e wg ⟨Ax, mx, kx, lx, rfl, hmx, hox, hsx, hJg, hug⟩; obtain ⟨lo, hlo⟩ : ∃ lo, lo = wr.heap.size := ⟨_, rfl⟩; obtain ⟨hi, hhi⟩ : ∃ hi, hi = wg.heap.size := ⟨_, rfl⟩; have hJ2 := (HJ.out.law hug (fun _ _ e => e.elim) (fun _ e => e.elim)).sub (Lw' := fun k => lo ≤ k ∧ k < hi) fun k e => .inr (by rw [← hlo, ← hhi]; exact e); have hlw : w1.heap.size ≤ lo := by rw [hlo]; exact HJ.out.upd.size
                  rw [← hlo] at hox; have hfx : ∀ p ∈ lx, ∀ k, p.1.v.ownBlock = some k → lo ≤ k ∧ k < hi := fun p hp k e => by rw [hhi]; exact (hox.2 p hp).1.far k e
                  have HG := jj_RDone hJ2; rw [← HZB.out] at HG; have H2 := Lib.hid (And.intro hox (And.intro hsx (And.intro hfx (And.intro hlw hmx)))); have HHI := Lib.hid hhi; clear hox hsx hfx hlw hJg hug hJ2 hlo HJ hhi hmx; go_wp2_with fail; refine HG.mono ?_; clear HG; rintro e wh ⟨Ay, my, ky, ly, rfl, hmy, hoy, hsy, hJh, huh⟩; rw [← HHI.out] at hoy; have hxh := H2.out.1.kept huh; rw [H2.out.2.2.2.2] at hxh; rw [hmy] at hoy; have hllx : lx.length ≤ 100 := by
                    have h1 := congrArg List.length H2.out.2.1; rw [List.length_map] at h1; have h2 : (doneL n s).length ≤ n := by
                      unfold doneL
                      split
                      · rw [bytesM_length]; exact Nat.le_refl _
                      · exact Nat.zero_le _
                    have := HN.out.1; omega
                  have H3 := Lib.hid (And.intro hxh (And.intro hoy (And.intro hJh (And.intro hsy (And.intro hllx hmy))))); clear hxh hoy hJh hsy hmy huh hllx; go_wp2_with fail; have f1 : ∀ W, Kept wh W → segB W ⟨w.heap.size, 0, none⟩ 32 = true := fun W hW => (HP.out.2.2 W (H3.out.2.2.1.upd.then hW fun _ _ e => e)).1; have f2 : ∀ W, Kept wh W → segV W ⟨w.heap.size, 0, none⟩ 32 = dA root := fun W hW => (HP.out.2.2 W (H3.out.2.2.1.upd.then hW fun _ _ e => e)).2; have hdec : decide (root = root) = true := decide_eq_true rfl; have hS : Kept wh wh.drew := (Upd.refl _ _).drew; refine wp_region_ord [(0, true), (1, true), (2, false), (3, true), (4, true), (5, true), (6, true), (7, true), (8, true), (9, true), (10, true), (12, true), (13, true), (11, false), (14, true), (15, true)] (by kernel_rfl) (by kernel_rfl) (Kept wh) hS ?_; simp only [ordOps, List.getD_cons_zero, List.getD_cons_succ]
                  iterate 2 (refine wpOrd_held (fun K hK => ?_); go_simp; first | (apply Exists.intro; refine ⟨fun W hW => ?_, hK _ ?_⟩; (go_simp; first | done | exact rfl); clear hK K) | (refine hK _ ?_; clear hK K))
                  have H4 := Lib.hid (And.intro (H3.out.1.kept hS) (And.intro (H3.out.2.1.kept hS) (H3.out.2.2.1.kept hS))); generalize wh.drew = wi at *; have HSL := same_leaves kx ky H4.out.1.leaves H4.out.2.1.leaves (by have := H3.out.2.2.2.2.1; omega); rw [decide_eq_true (show secs lx = secs ly by rw [H2.out.2.1, H3.out.2.2.2.1]), ← H2.out.2.2.2.2, ← H3.out.2.2.2.2.2] at HSL; refine wpOrd_step (fun K hK => ?_) hS; go_simp; refine HSL.mono ?_; clear HSL; rintro e wj ⟨rfl, huj⟩; have hS2 : Kept wh wj := hS.then huj fun _ _ e => e; refine hK _ _ hS2 ?_; clear hK K hS; have HG := jj_Root (H4.out.2.2.kept huj); have H5 := Lib.hid (And.intro (H4.out.1.kept huj) (H4.out.2.1.kept huj)); clear huj
                  iterate 10 (refine wpOrd_held (fun K hK => ?_); go_simp; first | (apply Exists.intro; refine ⟨fun W hW => ?_, hK _ ?_⟩; (go_simp; first | done | exact rfl); clear hK K) | (refine hK _ ?_; clear hK K))
                  refine wpOrd_step (fun K hK => ?_) hS2; go_simp; refine HG.mono ?_; clear HG; rintro e wk ⟨rfl, hJk, huk⟩; have hS3 : Kept wh wk := hS2.then huk fun _ _ e => e; refine hK _ _ hS3 ?_; clear hK K hS2
                  iterate 2 (refine wpOrd_held (fun K hK => ?_); go_simp; first | (apply Exists.intro; refine ⟨fun W hW => ?_, hK _ ?_⟩; (go_simp; first | done | exact rfl); clear hK K) | (refine hK _ ?_; clear hK K))
                  refine wpOrd_nil ?_; have H6 := Lib.hid (And.intro (Rws.of (H5.out.1.kept huk)) (And.intro (H5.out.2.kept huk) hJk)); clear hS3 huk hJk f1 f2 hdec; have HLM := Lib.hid (H2.out.2.2.2.2.symm); have HLK := Lib.hid (And.intro H2.out.2.2.1 (And.intro (show ∀ p ∈ lx, p.2.length ≤ 140737488351232 from fun p hp => (H5.out.1.2 p hp).2) (And.intro (show mx ≤ 100 by have := H3.out.2.2.2.2.1; have := H2.out.2.2.2.2; omega) H2.out.2.2.2.1))); have HYY := Lib.hid (And.intro H3.out.2.2.2.1 H3.out.2.2.2.2.2); rw [H2.out.2.2.2.2.symm] at H6; clear H2 H3 H4 H5; go_wp2_with fail
                  go_loopw [26] (fun u wr => ∃ i : Nat, i ≤ mx ∧ u = .int .i64 (i : Int) ∧ JJ w1 wr f g n root O s s (2048 + j) (fun k => lo ≤ k ∧ k < hi) ∧ Rws wr lo (.slice Ax mx kx) lx ∧ OwnLv wr hi (.slice Ay ly.length ky) ly) (fun u _ => 3000 - (intOf u).toNat)
                  case atStart => exact ⟨0, Nat.zero_le _, rfl, H6.out.2.2, H6.out.1, H6.out.2.1⟩
                  case round =>
                    clear H6; obtain ⟨i, hi', rfl, hJ, hR, hY⟩ := hrel; rcases Nat.lt_or_ge i mx with hlt | hge
                    · have hii : (i : Int) < (mx : Int) := by omega
                      have hi5 : (i : Int) ≤ 100 := by have := HLK.out.2.2.1; omega
                      have hil : i < lx.length := by rw [HLM.out]; exact hlt
                      obtain ⟨gi, ci, Ay2, cx, hv, hcell, hx, -⟩ := hR.row hil; rw [HLM.out] at hv; simp only [Value.slice.injEq, true_and] at hv; obtain ⟨rfl, rfl⟩ := hv; obtain ⟨ln, hln⟩ : ∃ ln, ln = lx[i].2.length := ⟨_, rfl⟩; have hl5 : (ln : Int) ≤ 140737488351232 := by have := HLK.out.2.1 _ (List.getElem_mem hil); omega
                      rw [← hln] at hcell hx; have HX := Lib.hid (And.intro hln (And.intro hx hlt)); have HQ := Lib.hid (And.intro hJ (And.intro hR hY)); clear hJ hR hY hlt hi' hln hx hcell; go_wp2_with fail; obtain ⟨wo, rfl⟩ : ∃ wo : World, wo = wr := ⟨_, rfl⟩
                      go_loopw [27] (fun u wr => ∃ k : Nat, k ≤ ln ∧ u = .int .i64 (k : Int) ∧ JJ w1 wr f g n root O s s (2048 + j) (fun k => lo ≤ k ∧ k < hi) ∧ Rws wr lo (.slice (some ⟨gi, 0, none⟩) mx kx) lx ∧ OwnLv wr hi (.slice Ay ly.length ky) ly) (fun u _ => 140737488360000 - (intOf u).toNat)
                      case atStart => exact ⟨0, Nat.zero_le _, rfl, HQ.out.1, HQ.out.2.1, HQ.out.2.2⟩
                      case round =>
                        clear HQ; obtain ⟨k, hk, rfl, hJ, hR, hY⟩ := hrel; have hil : i < lx.length := by rw [HLM.out]; exact HX.out.2.2
                        obtain ⟨gi', ci', A2', c2', hv, hcell, hx2, cur, hcur⟩ := hR.row hil; rw [HLM.out] at hv; simp only [Value.slice.injEq, Option.some.injEq, Addr.mk.injEq, and_true, true_and] at hv; obtain ⟨rfl, -⟩ := hv; rw [HX.out.2.1] at hx2; simp only [SlC.mk.injEq] at hx2; obtain ⟨rfl, -, rfl⟩ := hx2; rw [← HX.out.1] at hcell; rcases Nat.lt_or_ge k ln with hlt | hge
                        · have hki : (k : Int) < (ln : Int) := by omega
                          have hk5 : (k : Int) ≤ 140737488351232 := by omega
                          obtain ⟨g2, c3, vs, u0, hxb, -, hblk, -, -, -⟩ := hR.byte hil (k := k) (by rw [← HX.out.1]; exact hlt); rw [HX.out.2.1] at hxb; simp only [SlC.mk.injEq] at hxb; obtain ⟨rfl, -, rfl⟩ := hxb; have hgg : ¬ gi = g2 := fun e => cells_ne hcur hblk (by decide) e; have fo : ∀ W, Upd (fun j => j = g2) wr W → W.cell? ⟨gi, i, none⟩ = some (.slice (some ⟨g2, 0, none⟩) ln cx) := fun W hW => hW.cell hcell hgg; have hlw : lo ≤ g2 ∧ g2 < hi := by
                            have h1 : lx[i].1.v.ownBlock = some g2 := by rw [HX.out.2.1]; rfl
                            exact HLK.out.1 _ (List.getElem_mem hil) g2 h1
                          have HQ := Lib.hid (And.intro hJ (And.intro hR (And.intro hlt (And.intro hlw hY)))); clear hJ hR hY hblk hcur hgg hlt hk hlw; go_wp2_with fail; have hS : Upd (fun j => j = g2) wr wr.drew := (Upd.refl _ wr).drew; refine wp_region_ord [(0, true), (1, true), (2, true), (3, true), (4, true), (5, true), (6, true), (7, true), (8, true), (9, true), (10, true), (11, false), (12, true), (13, true), (14, false)] (by kernel_rfl) (by kernel_rfl) (Upd (fun j => j = g2) wr) hS ?_; simp only [ordOps, List.getD_cons_zero, List.getD_cons_succ]
                          iterate 11 (refine wpOrd_held (fun K hK => ?_); go_simp; first | (apply Exists.intro; refine ⟨fun W hW => ?_, hK _ ?_⟩; (go_simp; first | done | exact rfl); clear hK K) | (refine hK _ ?_; clear hK K))
                          clear fo hcell; have hkd : Kept wr wr.drew := (Upd.refl _ wr).drew; obtain ⟨g2', c3', vs, u, hxb, -, hblk, hcb, hfz, hset⟩ := (HQ.out.2.1.kept hkd).byte hil (k := k) (by rw [← HX.out.1]; exact HQ.out.2.2.1); rw [HX.out.2.1] at hxb; simp only [SlC.mk.injEq, Option.some.injEq, Addr.mk.injEq, and_true] at hxb; obtain ⟨rfl, -⟩ := hxb; have hJd := HQ.out.1.kept hkd; have hYd := HQ.out.2.2.2.2.kept hkd; clear hkd; generalize wr.drew = wd2 at *; have hw8 := u8_add u; have hu2 : Upd (fun j => j = g2) wd2 (wd2.setCell ⟨g2, k, none⟩ (.int .u8 ((u + 1).toNat : Int))) := (Upd.refl _ _).setCell (p := ⟨g2, k, none⟩) _ fun _ => rfl; have hS2 : Upd (fun j => j = g2) wr (wd2.setCell ⟨g2, k, none⟩ (.int .u8 ((u + 1).toNat : Int))) := hS.trans hu2; have HF := Lib.hid (And.intro (hJd.turn hu2 (fun j e => by rw [show j = g2 from e]; exact HQ.out.2.2.2.1) (fun j e => by rw [show j = g2 from e]; have := HQ.out.2.2.2.1.1; have := HLK.out.2.2.2; omega)) (And.intro hset (hYd.upd hu2 fun j hj _ e => by rw [show j = g2 from e] at hj; have := HQ.out.2.2.2.1.2; omega))); clear hJd hYd hset hblk hu2; refine wpOrd_step (fun K hK => ?_) hS; go_simp; refine hK _ _ hS ?_; clear hK K; generalize hy : u + 1 = y at *
                          iterate 2 (refine wpOrd_held (fun K hK => ?_); go_simp; first | (apply Exists.intro; refine ⟨fun W hW => ?_, hK _ ?_⟩; (go_simp; first | done | exact rfl); clear hK K) | (refine hK _ ?_; clear hK K))
                          refine wpOrd_step (fun K hK => ?_) hS; go_simp; refine hK _ _ hS2 ?_; clear hK K hS hS2 hcb hfz hw8; refine wpOrd_nil ?_; go_wp2_with fail
                          go_roundw
                          case rel => exact ⟨k + 1, HQ.out.2.2.1, by show _ = _; go_num, HF.out.1, HF.out.2.1, HF.out.2.2⟩
                          case measure => have := HQ.out.2.2.1; simp [intOf]; omega
                        · obtain rfl : k = ln := by omega
                          have hki : ¬ ((k : Int) < (k : Int)) := by omega
                          have HF := Lib.hid (And.intro hJ (And.intro hR hY)); clear hJ hR hY hge hk hcur; go_wp2_with fail
                          go_roundw
                          case rel => exact ⟨i + 1, HX.out.2.2, by show _ = _; go_num, HF.out.1, HF.out.2.1, HF.out.2.2⟩
                          case measure => have := HX.out.2.2; have := HLK.out.2.2.1; simp [intOf]; omega
                    · obtain rfl : i = mx := by omega
                      have hii : ¬ ((i : Int) < (i : Int)) := by omega
                      have HG := jj_Done hJ; have HQ := Lib.hid hY; have HUP := Lib.hid hJ.upd; clear hJ hR hY hge hi'; go_wp2_with fail; refine HG.mono ?_; clear HG; rintro e wm ⟨Aq, mq, kq, lq, rfl, hmq, hoq, hsq, hJm, hum⟩; rw [hmq] at hoq; have HSL := same_leaves kq ky hoq.leaves (HQ.out.kept hum).leaves (by
                        have h1 := congrArg List.length hsq; rw [List.length_map] at h1; have h2 : (doneL n s).length ≤ n := by
                          unfold doneL
                          split
                          · rw [bytesM_length]; exact Nat.le_refl _
                          · exact Nat.zero_le _
                        have := HN.out.1; omega)
                      rw [decide_eq_true (show secs lq = secs ly by rw [hsq, HYY.out.1]), ← hmq, ← HYY.out.2] at HSL; have HF := Lib.hid (show Kept w wm from (HA.out.2.2.2.2.2.then HUP.out fun _ _ e => e).then hum fun _ _ e => e); clear hmq hoq hsq hJm hum; go_wp2_with fail; refine HSL.mono ?_; clear HSL; rintro e wq ⟨rfl, huq⟩
                      replace HF := Lib.hid (HF.out.then huq fun _ _ e => e)
                      clear huq; go_wp2_with fail; refine (law21_works _).mono ?_; rintro e wz ⟨rfl, huz⟩
                      replace HF := Lib.hid (HF.out.then huz fun _ _ e => e)
                      clear huz; go_wp2
                      go_ret
                      exact ⟨rfl, HF.out⟩
                · have hji : ¬ ((j : Int) < (dn : Int)) := by omega
                  clear hJ hgo hjd hj60 hjn; have HG := jj_Done HJ.out; obtain ⟨zb, hzb⟩ : ∃ zb, zb = (askM n s).isNone := ⟨_, rfl⟩; rw [← hzb] at HG; have HZB := Lib.hid hzb; clear hzb; go_wp2_with fail; refine HG.mono ?_; clear HG; rintro e wg ⟨Ax, mx, kx, lx, rfl, hmx, hox, hsx, hJg, hug⟩; obtain ⟨lo, hlo⟩ : ∃ lo, lo = wr.heap.size := ⟨_, rfl⟩; obtain ⟨hi, hhi⟩ : ∃ hi, hi = wg.heap.size := ⟨_, rfl⟩; have hJ2 := (HJ.out.law hug (fun _ _ e => e.elim) (fun _ e => e.elim)).sub (Lw' := fun k => lo ≤ k ∧ k < hi) fun k e => .inr (by rw [← hlo, ← hhi]; exact e); have hlw : w1.heap.size ≤ lo := by rw [hlo]; exact HJ.out.upd.size
                  rw [← hlo] at hox; have hfx : ∀ p ∈ lx, ∀ k, p.1.v.ownBlock = some k → lo ≤ k ∧ k < hi := fun p hp k e => by rw [hhi]; exact (hox.2 p hp).1.far k e
                  have HG := jj_RDone hJ2; rw [← HZB.out] at HG; have H2 := Lib.hid (And.intro hox (And.intro hsx (And.intro hfx (And.intro hlw hmx)))); have HHI := Lib.hid hhi; clear hox hsx hfx hlw hJg hug hJ2 hlo HJ hhi hmx; go_wp2_with fail; refine HG.mono ?_; clear HG; rintro e wh ⟨Ay, my, ky, ly, rfl, hmy, hoy, hsy, hJh, huh⟩; rw [← HHI.out] at hoy; have hxh := H2.out.1.kept huh; rw [H2.out.2.2.2.2] at hxh; rw [hmy] at hoy; have hllx : lx.length ≤ 100 := by
                    have h1 := congrArg List.length H2.out.2.1; rw [List.length_map] at h1; have h2 : (doneL n s).length ≤ n := by
                      unfold doneL
                      split
                      · rw [bytesM_length]; exact Nat.le_refl _
                      · exact Nat.zero_le _
                    have := HN.out.1; omega
                  have H3 := Lib.hid (And.intro hxh (And.intro hoy (And.intro hJh (And.intro hsy (And.intro hllx hmy))))); clear hxh hoy hJh hsy hmy huh hllx; go_wp2_with fail; have f1 : ∀ W, Kept wh W → segB W ⟨w.heap.size, 0, none⟩ 32 = true := fun W hW => (HP.out.2.2 W (H3.out.2.2.1.upd.then hW fun _ _ e => e)).1; have f2 : ∀ W, Kept wh W → segV W ⟨w.heap.size, 0, none⟩ 32 = dA root := fun W hW => (HP.out.2.2 W (H3.out.2.2.1.upd.then hW fun _ _ e => e)).2; have hdec : decide (root = root) = true := decide_eq_true rfl; have hS : Kept wh wh.drew := (Upd.refl _ _).drew; refine wp_region_ord [(0, true), (1, true), (2, false), (3, true), (4, true), (5, true), (6, true), (7, true), (8, true), (9, true), (10, true), (12, true), (13, true), (11, false), (14, true), (15, true)] (by kernel_rfl) (by kernel_rfl) (Kept wh) hS ?_; simp only [ordOps, List.getD_cons_zero, List.getD_cons_succ]
                  iterate 2 (refine wpOrd_held (fun K hK => ?_); go_simp; first | (apply Exists.intro; refine ⟨fun W hW => ?_, hK _ ?_⟩; (go_simp; first | done | exact rfl); clear hK K) | (refine hK _ ?_; clear hK K))
                  have H4 := Lib.hid (And.intro (H3.out.1.kept hS) (And.intro (H3.out.2.1.kept hS) (H3.out.2.2.1.kept hS))); generalize wh.drew = wi at *; have HSL := same_leaves kx ky H4.out.1.leaves H4.out.2.1.leaves (by have := H3.out.2.2.2.2.1; omega); rw [decide_eq_true (show secs lx = secs ly by rw [H2.out.2.1, H3.out.2.2.2.1]), ← H2.out.2.2.2.2, ← H3.out.2.2.2.2.2] at HSL; refine wpOrd_step (fun K hK => ?_) hS; go_simp; refine HSL.mono ?_; clear HSL; rintro e wj ⟨rfl, huj⟩; have hS2 : Kept wh wj := hS.then huj fun _ _ e => e; refine hK _ _ hS2 ?_; clear hK K hS; have HG := jj_Root (H4.out.2.2.kept huj); have H5 := Lib.hid (And.intro (H4.out.1.kept huj) (H4.out.2.1.kept huj)); clear huj
                  iterate 10 (refine wpOrd_held (fun K hK => ?_); go_simp; first | (apply Exists.intro; refine ⟨fun W hW => ?_, hK _ ?_⟩; (go_simp; first | done | exact rfl); clear hK K) | (refine hK _ ?_; clear hK K))
                  refine wpOrd_step (fun K hK => ?_) hS2; go_simp; refine HG.mono ?_; clear HG; rintro e wk ⟨rfl, hJk, huk⟩; have hS3 : Kept wh wk := hS2.then huk fun _ _ e => e; refine hK _ _ hS3 ?_; clear hK K hS2
                  iterate 2 (refine wpOrd_held (fun K hK => ?_); go_simp; first | (apply Exists.intro; refine ⟨fun W hW => ?_, hK _ ?_⟩; (go_simp; first | done | exact rfl); clear hK K) | (refine hK _ ?_; clear hK K))
                  refine wpOrd_nil ?_; have H6 := Lib.hid (And.intro (Rws.of (H5.out.1.kept huk)) (And.intro (H5.out.2.kept huk) hJk)); clear hS3 huk hJk f1 f2 hdec; have HLM := Lib.hid (H2.out.2.2.2.2.symm); have HLK := Lib.hid (And.intro H2.out.2.2.1 (And.intro (show ∀ p ∈ lx, p.2.length ≤ 140737488351232 from fun p hp => (H5.out.1.2 p hp).2) (And.intro (show mx ≤ 100 by have := H3.out.2.2.2.2.1; have := H2.out.2.2.2.2; omega) H2.out.2.2.2.1))); have HYY := Lib.hid (And.intro H3.out.2.2.2.1 H3.out.2.2.2.2.2); rw [H2.out.2.2.2.2.symm] at H6; clear H2 H3 H4 H5; go_wp2_with fail
                  go_loopw [26] (fun u wr => ∃ i : Nat, i ≤ mx ∧ u = .int .i64 (i : Int) ∧ JJ w1 wr f g n root O s s (2048 + j) (fun k => lo ≤ k ∧ k < hi) ∧ Rws wr lo (.slice Ax mx kx) lx ∧ OwnLv wr hi (.slice Ay ly.length ky) ly) (fun u _ => 3000 - (intOf u).toNat)
                  case atStart => exact ⟨0, Nat.zero_le _, rfl, H6.out.2.2, H6.out.1, H6.out.2.1⟩
                  case round =>
                    clear H6; obtain ⟨i, hi', rfl, hJ, hR, hY⟩ := hrel; rcases Nat.lt_or_ge i mx with hlt | hge
                    · have hii : (i : Int) < (mx : Int) := by omega
                      have hi5 : (i : Int) ≤ 100 := by have := HLK.out.2.2.1; omega
                      have hil : i < lx.length := by rw [HLM.out]; exact hlt
                      obtain ⟨gi, ci, Ay2, cx, hv, hcell, hx, -⟩ := hR.row hil; rw [HLM.out] at hv; simp only [Value.slice.injEq, true_and] at hv; obtain ⟨rfl, rfl⟩ := hv; obtain ⟨ln, hln⟩ : ∃ ln, ln = lx[i].2.length := ⟨_, rfl⟩; have hl5 : (ln : Int) ≤ 140737488351232 := by have := HLK.out.2.1 _ (List.getElem_mem hil); omega
                      rw [← hln] at hcell hx; have HX := Lib.hid (And.intro hln (And.intro hx hlt)); have HQ := Lib.hid (And.intro hJ (And.intro hR hY)); clear hJ hR hY hlt hi' hln hx hcell; go_wp2_with fail; obtain ⟨wo, rfl⟩ : ∃ wo : World, wo = wr := ⟨_, rfl⟩
                      go_loopw [27] (fun u wr => ∃ k : Nat, k ≤ ln ∧ u = .int .i64 (k : Int) ∧ JJ w1 wr f g n root O s s (2048 + j) (fun k => lo ≤ k ∧ k < hi) ∧ Rws wr lo (.slice (some ⟨gi, 0, none⟩) mx kx) lx ∧ OwnLv wr hi (.slice Ay ly.length ky) ly) (fun u _ => 140737488360000 - (intOf u).toNat)
                      case atStart => exact ⟨0, Nat.zero_le _, rfl, HQ.out.1, HQ.out.2.1, HQ.out.2.2⟩
                      case round =>
                        clear HQ; obtain ⟨k, hk, rfl, hJ, hR, hY⟩ := hrel; have hil : i < lx.length := by rw [HLM.out]; exact HX.out.2.2
                        obtain ⟨gi', ci', A2', c2', hv, hcell, hx2, cur, hcur⟩ := hR.row hil; rw [HLM.out] at hv; simp only [Value.slice.injEq, Option.some.injEq, Addr.mk.injEq, and_true, true_and] at hv; obtain ⟨rfl, -⟩ := hv; rw [HX.out.2.1] at hx2; simp only [SlC.mk.injEq] at hx2; obtain ⟨rfl, -, rfl⟩ := hx2; rw [← HX.out.1] at hcell; rcases Nat.lt_or_ge k ln with hlt | hge
                        · have hki : (k : Int) < (ln : Int) := by omega
                          have hk5 : (k : Int) ≤ 140737488351232 := by omega
                          obtain ⟨g2, c3, vs, u0, hxb, -, hblk, -, -, -⟩ := hR.byte hil (k := k) (by rw [← HX.out.1]; exact hlt); rw [HX.out.2.1] at hxb; simp only [SlC.mk.injEq] at hxb; obtain ⟨rfl, -, rfl⟩ := hxb; have hgg : ¬ gi = g2 := fun e => cells_ne hcur hblk (by decide) e; have fo : ∀ W, Upd (fun j => j = g2) wr W → W.cell? ⟨gi, i, none⟩ = some (.slice (some ⟨g2, 0, none⟩) ln cx) := fun W hW => hW.cell hcell hgg; have hlw : lo ≤ g2 ∧ g2 < hi := by
                            have h1 : lx[i].1.v.ownBlock = some g2 := by rw [HX.out.2.1]; rfl
                            exact HLK.out.1 _ (List.getElem_mem hil) g2 h1
                          have HQ := Lib.hid (And.intro hJ (And.intro hR (And.intro hlt (And.intro hlw hY)))); clear hJ hR hY hblk hcur hgg hlt hk hlw; go_wp2_with fail; have hS : Upd (fun j => j = g2) wr wr.drew := (Upd.refl _ wr).drew; refine wp_region_ord [(0, true), (1, true), (2, true), (3, true), (4, true), (5, true), (6, true), (7, true), (8, true), (9, true), (10, true), (11, false), (12, true), (13, true), (14, false)] (by kernel_rfl) (by kernel_rfl) (Upd (fun j => j = g2) wr) hS ?_; simp only [ordOps, List.getD_cons_zero, List.getD_cons_succ]
                          iterate 11 (refine wpOrd_held (fun K hK => ?_); go_simp; first | (apply Exists.intro; refine ⟨fun W hW => ?_, hK _ ?_⟩; (go_simp; first | done | exact rfl); clear hK K) | (refine hK _ ?_; clear hK K))
                          clear fo hcell; have hkd : Kept wr wr.drew := (Upd.refl _ wr).drew; obtain ⟨g2', c3', vs, u, hxb, -, hblk, hcb, hfz, hset⟩ := (HQ.out.2.1.kept hkd).byte hil (k := k) (by rw [← HX.out.1]; exact HQ.out.2.2.1); rw [HX.out.2.1] at hxb; simp only [SlC.mk.injEq, Option.some.injEq, Addr.mk.injEq, and_true] at hxb; obtain ⟨rfl, -⟩ := hxb; have hJd := HQ.out.1.kept hkd; have hYd := HQ.out.2.2.2.2.kept hkd; clear hkd; generalize wr.drew = wd2 at *; have hw8 := u8_add u; have hu2 : Upd (fun j => j = g2) wd2 (wd2.setCell ⟨g2, k, none⟩ (.int .u8 ((u + 1).toNat : Int))) := (Upd.refl _ _).setCell (p := ⟨g2, k, none⟩) _ fun _ => rfl; have hS2 : Upd (fun j => j = g2) wr (wd2.setCell ⟨g2, k, none⟩ (.int .u8 ((u + 1).toNat : Int))) := hS.trans hu2; have HF := Lib.hid (And.intro (hJd.turn hu2 (fun j e => by rw [show j = g2 from e]; exact HQ.out.2.2.2.1) (fun j e => by rw [show j = g2 from e]; have := HQ.out.2.2.2.1.1; have := HLK.out.2.2.2; omega)) (And.intro hset (hYd.upd hu2 fun j hj _ e => by rw [show j = g2 from e] at hj; have := HQ.out.2.2.2.1.2; omega))); clear hJd hYd hset hblk hu2; refine wpOrd_step (fun K hK => ?_) hS; go_simp; refine hK _ _ hS ?_; clear hK K; generalize hy : u + 1 = y at *
                          iterate 2 (refine wpOrd_held (fun K hK => ?_); go_simp; first | (apply Exists.intro; refine ⟨fun W hW => ?_, hK _ ?_⟩; (go_simp; first | done | exact rfl); clear hK K) | (refine hK _ ?_; clear hK K))
                          refine wpOrd_step (fun K hK => ?_) hS; go_simp; refine hK _ _ hS2 ?_; clear hK K hS hS2 hcb hfz hw8; refine wpOrd_nil ?_; go_wp2_with fail
                          go_roundw
                          case rel => exact ⟨k + 1, HQ.out.2.2.1, by show _ = _; go_num, HF.out.1, HF.out.2.1, HF.out.2.2⟩
                          case measure => have := HQ.out.2.2.1; simp [intOf]; omega
                        · obtain rfl : k = ln := by omega
                          have hki : ¬ ((k : Int) < (k : Int)) := by omega
                          have HF := Lib.hid (And.intro hJ (And.intro hR hY)); clear hJ hR hY hge hk hcur; go_wp2_with fail
                          go_roundw
                          case rel => exact ⟨i + 1, HX.out.2.2, by show _ = _; go_num, HF.out.1, HF.out.2.1, HF.out.2.2⟩
                          case measure => have := HX.out.2.2; have := HLK.out.2.2.1; simp [intOf]; omega
                    · obtain rfl : i = mx := by omega
                      have hii : ¬ ((i : Int) < (i : Int)) := by omega
                      have HG := jj_Done hJ; have HQ := Lib.hid hY; have HUP := Lib.hid hJ.upd; clear hJ hR hY hge hi'; go_wp2_with fail; refine HG.mono ?_; clear HG; rintro e wm ⟨Aq, mq, kq, lq, rfl, hmq, hoq, hsq, hJm, hum⟩; rw [hmq] at hoq; have HSL := same_leaves kq ky hoq.leaves (HQ.out.kept hum).leaves (by
                        have h1 := congrArg List.length hsq; rw [List.length_map] at h1; have h2 : (doneL n s).length ≤ n := by
                          unfold doneL
                          split
                          · rw [bytesM_length]; exact Nat.le_refl _
                          · exact Nat.zero_le _
                        have := HN.out.1; omega)
                      rw [decide_eq_true (show secs lq = secs ly by rw [hsq, HYY.out.1]), ← hmq, ← HYY.out.2] at HSL; have HF := Lib.hid (show Kept w wm from (HA.out.2.2.2.2.2.then HUP.out fun _ _ e => e).then hum fun _ _ e => e); clear hmq hoq hsq hJm hum; go_wp2_with fail; refine HSL.mono ?_; clear HSL; rintro e wq ⟨rfl, huq⟩
                      replace HF := Lib.hid (HF.out.then huq fun _ _ e => e)
                      clear huq; go_wp2_with fail; refine (law21_works _).mono ?_; rintro e wz ⟨rfl, huz⟩
                      replace HF := Lib.hid (HF.out.then huz fun _ _ e => e)
                      clear huz; go_wp2
                      go_ret
                      exact ⟨rfl, HF.out⟩
end Go.Proofs.YtepjbijhkkjbfaaGreat
