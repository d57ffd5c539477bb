/- Both ends, trees and books that are none: the closed statement ProofKnown holds. -/
import Derived.Test.YtnncpjekcljfbaaSetL
namespace Go.Proofs.Ytnncpjekcljfbaa
open Go.ChangeShapes Go.WideShapes Go.ChangeAt Go.RowKit

set_option maxHeartbeats 800000 in
set_option maxRecDepth 20000 in
theorem tree_Leaf_noR {w : World} {p : Option Addr} (h : NoBook w p) {A : Option Addr} {R : Bytes} (c : Nat) (hR : Byt w A R) (hl : R.length < 65536) :
    Calls Try.prog 43 #[.pointer p, .slice A R.length c] w fun e W => e = .returned (.tuple #[.agg (dA dig0), .int .i64 1]) ∧ Kept w W := by
  have hr1 : Blk (w.alloc (.cells (dA dig0) 46)) w.heap.size 46 (encB dig0.1) := Blk.new w _ _
  have hk1 : Kept w (w.alloc (.cells (dA dig0) 46)) := (Upd.refl _ w).alloc _
  generalize hW1 : w.alloc (.cells (dA dig0) 46) = w1 at *
  obtain ⟨v0, w2, hbs, hB, hk2⟩ := run_bs1 0 w1
  change (sliceRow 35 1 #[(0, .int .u8 0)]).run Try.prog w1 = _ at hbs
  have HX := Lib.hid (And.intro (h.kept hk1) (And.intro hr1 (And.intro hk1 (hR.kept hk1))))
  have HB := Lib.hid (And.intro hB hk2)
  have hl' : decide ((65536 : Int) ≤ ((R.length : Nat) : Int)) = false := by rw [decide_eq_false_iff_not]; omega
  have HLE := Lib.hid hl
  clear h hr1 hk1 hB hk2 hl hR
  go_enter Try.func43, Try.ntmps43
  go_wp2_with (at_builtin; refine wpList_append_bytes rfl (.tmp 11) (.tmp 12) rfl rfl HB.out.1 A c rfl (HX.out.2.2.2.kept HB.out.2) (by have := HLE.out; simp only [List.length_singleton]; omega) HB.out.2.size ?_; intro v' w3 hown hu3)
  have hr3 : Blk w3 w.heap.size 46 (encB dig0.1) := (HX.out.2.1.kept HB.out.2).upd hu3 (fun e => by have := (HB.out.1.far _ e).1; have := HX.out.2.1.lt; omega)
  have hk3 : Kept w w3 := (HX.out.2.2.1.then HB.out.2 fun _ _ h => h).then hu3 (fun i hi e => by have := (HB.out.1.far _ e).1; have := HX.out.2.2.1.size; omega)
  have h3 : NoBook w3 p := by
    rcases HX.out.1 with h0 | ⟨b, h1, h2⟩
    · exact .inl h0
    · refine .inr ⟨b, h1, hu3.cell (HB.out.2.cell h2 id) (fun e => ?_)⟩
      have h4 := (HB.out.1.far _ e).1
      have h5 : b < w1.heap.size := World.block_lt_of_cell? _ _ h2
      have h6 : w1.heap.size ≤ b := h4
      omega
  refine (ink_Of_no h3 v').mono ?_
  rintro e w4 ⟨rfl, hu4⟩
  have hr4 := hr3.kept hu4
  have hk4 : Kept w w4 := hk3.then hu4 (fun _ _ h => h)
  obtain ⟨hrb, hs1, hs2⟩ := dig_end dig0 hr4
  have HF : Hid (Kept w (w4.setRow w.heap.size (dA dig0)) ∧ segB (w4.setRow w.heap.size (dA dig0)) ⟨w.heap.size, 0, none⟩ 32 = true ∧ segV (w4.setRow w.heap.size (dA dig0)) ⟨w.heap.size, 0, none⟩ 32 = dA dig0) := ⟨Upd.setRow hk4 _ _ (fun h => absurd h (Nat.lt_irrefl _)), hs1, hs2⟩
  clear hs1 hs2
  clear hr4 hk4 hr3 hk3 h3 hu4 hu3 hown HX HB hbs hW1
  go_wp2
  refine bodyPost_ret (v := .tuple #[.agg (dA dig0), .int .i64 1]) ?_ rfl ⟨rfl, HF.out.1⟩
  rw [results_seg2 (P := Try.prog) (fn := Try.f43) (p := 4) (t := 5) (ty := 46) rfl _ _ ⟨w.heap.size, 0, none⟩ 32 _ (.int .i64 1) rfl rfl Try.underlying46 rfl sizeOf46 HF.out.2.1, HF.out.2.2]

theorem sixLev2 : (levelsM shaM sixD)[2]? = some [kR] := by
  obtain ⟨tl, h1, h2, _⟩ := levelsM_head sixD
  rw [h1, h2 (by rw [sixD_length]; omega)]
  obtain ⟨tl2, h3, h4, _⟩ := levelsM_head (aboveM shaM sixD)
  rw [h3, h4 (by rw [aboveM_length, sixD_length]; decide), k_above, levelsM_one (by simp), kT_up]
  rfl
theorem own_dig {W : World} {g B : Nat} {d : Dig} (h : W.heap[g]? = some (.cells (dA d) 46 (0, 0))) (hB : B ≤ g) : OwnD W B (.slice (some ⟨g, 0, none⟩) 1 1) [d] :=
  ⟨by simp [rowsOf, dA_size], .inr ⟨g, 1, dA d, rfl, hB, h, Nat.le_refl _, by unfold maxLen; omega, by rw [dA_size], by simp [rowsOf, List.take_of_length_le, dA_size]⟩⟩
theorem own_row1 {W : World} {g B : Nat} {x : SlC} {t : TypeId} (h : W.heap[g]? = some (.cells (slA x) t (0, 0))) (hB : B ≤ g) : OwnRows slA 1 W B t (.slice (some ⟨g, 0, none⟩) 1 1) [x] :=
  ⟨by simp [rowsOf, slA], .inr ⟨g, 1, slA x, rfl, hB, h, Nat.le_refl _, by unfold maxLen; omega, by simp, by simp [rowsOf, slA]⟩⟩

set_option maxHeartbeats 12000000 in
set_option maxRecDepth 20000 in
theorem ProofKnown_walk (w : World) :
    Calls Try.prog 12 #[] w fun e w' => e = .returned (.bool true) ∧ Kept w w' := by
  have hnot : ∀ (x : Bool) (w : World), (Op.unary .not (.bool x)).run Try.prog w = .ok (.bool (!x)) w := fun _ _ => rfl
  go_enter Try.func12, Try.ntmps12
  go_wp2_with fail
  refine (law_book w).mono ?_
  rintro e w1 ⟨b, r, q, rfl, hI⟩
  have HI := Lib.hid hI
  clear hI
  go_wp2_with fail
  refine (law_six w1).mono ?_
  rintro e w2 ⟨A, rfl, l, hl, hlv, hu2⟩
  have hl6 : l.length = 6 := by have := congrArg List.length hl; simpa [six] using this
  have HG := bastidelaw10_made (HI.out.kept hu2) (l := l) (A := A) 6 (fun W hW => (hlv.book (HI.out.book.kept hu2) hW).leaves) (by omega) (by omega)
  rw [hl6, bytesL_six hl] at HG
  clear HI hl hlv hu2 hl6
  go_wp2_with fail
  refine HG.mono ?_
  clear HG
  rintro e w3 ⟨t, rfl, lo, hi, L, hM, -, -⟩
  obtain ⟨v4, w4, hbs4, hB4, hk4⟩ := run_bs1 9 w3
  change (sliceRow 35 1 #[(0, .int .u8 9)]).run Try.prog w3 = _ at hbs4
  obtain ⟨A4, c4, rfl, hc4, hb4⟩ := byt_one hB4
  have hk5 : Kept w4 (w4.alloc (.cells (slA ⟨A4, 1, c4⟩) 35)) := (Upd.refl _ w4).alloc _
  have hlv5 : OwnLv (w4.alloc (.cells (slA ⟨A4, 1, c4⟩) 35)) w3.heap.size (.slice (some ⟨w4.heap.size, 0, none⟩) 1 1) [((⟨A4, 1, c4⟩ : SlC), [9])] :=
    ⟨own_row1 (heap_alloc_new w4 _) hk4.size, fun p hp => by
      simp only [List.mem_singleton] at hp
      subst hp
      exact ⟨hB4.kept hk5, by simp⟩⟩
  have HM := Lib.hid ((hM.kept hk4).kept hk5)
  have HG := bastidelaw10_made HM.out.ink (l := [((⟨A4, 1, c4⟩ : SlC), [9])]) (A := some ⟨w4.heap.size, 0, none⟩) 1 (fun W hW => (hlv5.book HM.out.ink.book hW).leaves) (by simp) (by simp)
  rw [show bytesL [((⟨A4, 1, c4⟩ : SlC), ([9] : Bytes))] = [[9]] from rfl, show ([((⟨A4, 1, c4⟩ : SlC), ([9] : Bytes))]).length = 1 from rfl] at HG
  clear hM hB4 hk4 hc4 hb4 hk5 hlv5
  go_wp2_with fail
  clear hbs4
  refine HG.mono ?_
  clear HG
  rintro e w6 ⟨t2, rfl, lo2, hi2, L2, hM2, -, hu6⟩
  have HT := Lib.hid (And.intro (show TreeAt w6 lo hi t b sixD from HM.out.tree.book HM.out.ink.book hu6) (And.intro hM2.ink (show TreeAt w6 lo2 hi2 t2 b [kS] from hM2.tree)))
  clear hM2 hu6 HM
  go_wp2_with fail
  have HG := tree_Root HT.out.1
  rw [show rootM shaM sixD = kR from rfl] at HG
  refine HG.mono ?_
  clear HG
  rintro e w7 ⟨rfl, hu7⟩
  have hd8 : Blk (w7.alloc (.cells (dA kR) 46)) w7.heap.size 46 (encB (kR).1) := Blk.new w7 _ _
  have hk8 : Kept w7 (w7.alloc (.cells (dA kR) 46)) := (Upd.refl _ w7).alloc _
  replace HT := Lib.hid (And.intro ((HT.out.1.kept hu7).kept hk8) (And.intro ((HT.out.2.1.kept hu7).kept hk8) (And.intro ((HT.out.2.2.kept hu7).kept hk8) hd8)))
  clear hu7 hk8 hd8
  go_wp2_with fail
  obtain ⟨gr, hgr⟩ : ∃ gr, gr = w7.heap.size := ⟨_, rfl⟩
  rw [← hgr] at HT ⊢
  clear hgr
  generalize w7.alloc (.cells (dA kR) 46) = w8 at *
  have HG := tree_Root HT.out.2.2.1
  rw [rootM_one] at HG
  refine HG.mono ?_
  clear HG
  rintro e w9 ⟨rfl, hu9⟩
  have hd10 : Blk (w9.alloc (.cells (dA kS) 46)) w9.heap.size 46 (encB (kS).1) := Blk.new w9 _ _
  have hk10 : Kept w9 (w9.alloc (.cells (dA kS) 46)) := (Upd.refl _ w9).alloc _
  replace HT := Lib.hid (And.intro ((HT.out.1.kept hu9).kept hk10) (And.intro ((HT.out.2.1.kept hu9).kept hk10) (And.intro ((HT.out.2.2.1.kept hu9).kept hk10) (And.intro ((HT.out.2.2.2.kept hu9).kept hk10) hd10))))
  clear hu9 hk10 hd10
  go_wp2_with fail
  obtain ⟨gs, hgs⟩ : ∃ gs, gs = w9.heap.size := ⟨_, rfl⟩
  rw [← hgs] at HT ⊢
  clear hgs
  generalize w9.alloc (.cells (dA kS) 46) = w10 at *
  have HG := proof_Build HT.out.1 0 (by rw [sixD_length]; omega)
  rw [sixD_length, depthM6, show proofM sixD (3 - 1) 0 = kP from rfl, show ((0 : Nat) : Int) = 0 from rfl] at HG
  refine HG.mono ?_
  clear HG
  rintro e w11 ⟨v11, rfl, hv11, hu⟩
  obtain ⟨PA, pc, lp, rfl, hpc, hlp, hprf⟩ := hv11.proofs
  rw [show kP.length = 2 from rfl] at hpc ⊢
  have hlp2 : lp.length = 2 := by have := congrArg List.length hlp; rw [List.length_map] at this; exact this
  have HP := Lib.hid (show lp.length ≤ pc ∧ lp.length = 2 ∧ lp.map (·.2) = kP from ⟨by omega, hlp2, hlp⟩)
  replace HT := Lib.hid (And.intro (HT.out.1.kept hu) (And.intro (HT.out.2.1.kept hu) (And.intro (HT.out.2.2.1.kept hu) (And.intro (HT.out.2.2.2.1.kept hu) (And.intro (HT.out.2.2.2.2.kept hu) hprf)))))
  clear hv11 hu hpc hlp hlp2 hprf
  go_wp2_with fail
  have HG := proof_Build HT.out.2.2.1 0 (by simp)
  rw [show ([kS] : List Dig).length = 1 from rfl, depthM1, show proofM [kS] (1 - 1) 0 = [] from rfl, show ((0 : Nat) : Int) = 0 from rfl] at HG
  refine HG.mono ?_
  clear HG
  rintro e w12 ⟨v12, rfl, hv12, hu⟩
  obtain ⟨PN, pn, ln, rfl, -, -, -⟩ := hv12.proofs
  rw [show ([] : List (List Dig)).length = 0 from rfl]
  replace HT := Lib.hid (And.intro (HT.out.1.kept hu) (And.intro (HT.out.2.1.kept hu) (And.intro (HT.out.2.2.2.1.kept hu) (And.intro (HT.out.2.2.2.2.1.kept hu) (HT.out.2.2.2.2.2.kept hu)))))
  clear hv12 hu
  go_wp2_with fail
  refine (proof_Build_out HT.out.1 6 (.inr (by rw [sixD_length]; omega))).mono ?_
  rintro e w13 ⟨rfl, hu⟩
  replace HT := Lib.hid (And.intro (HT.out.1.kept hu) (And.intro (HT.out.2.1.kept hu) (And.intro (HT.out.2.2.1.kept hu) (And.intro (HT.out.2.2.2.1.kept hu) (HT.out.2.2.2.2.kept hu)))))
  clear hu
  go_wp2_with fail
  refine (proof_Build_out HT.out.1 (-1) (.inl (by omega))).mono ?_
  rintro e w14 ⟨rfl, hu⟩
  replace HT := Lib.hid (And.intro (HT.out.1.kept hu) (And.intro (HT.out.2.1.kept hu) (And.intro (HT.out.2.2.1.kept hu) (And.intro (HT.out.2.2.2.1.kept hu) (HT.out.2.2.2.2.kept hu)))))
  clear hu
  go_wp2_with fail
  refine (proof_Parts_low HT.out.1 0 0 (by omega)).mono ?_
  rintro e w15 ⟨rfl, hu⟩
  replace HT := Lib.hid (And.intro (HT.out.1.kept hu) (And.intro (HT.out.2.1.kept hu) (And.intro (HT.out.2.2.1.kept hu) (And.intro (HT.out.2.2.2.1.kept hu) (HT.out.2.2.2.2.kept hu)))))
  clear hu
  go_wp2_with fail
  refine (proof_Parts_deep HT.out.1 3 0 (by omega) (by rw [sixD_length, depthM6]; omega)).mono ?_
  rintro e w16 ⟨rfl, hu⟩
  replace HT := Lib.hid (And.intro (HT.out.1.kept hu) (And.intro (HT.out.2.1.kept hu) (And.intro (HT.out.2.2.1.kept hu) (And.intro (HT.out.2.2.2.1.kept hu) (HT.out.2.2.2.2.kept hu)))))
  clear hu
  go_wp2_with fail
  have HG := proof_Parts_off HT.out.1 2 1 sixLev2 (by omega) (.inr (by simp))
  rw [show ((2 : Nat) : Int) = 2 from rfl] at HG
  refine HG.mono ?_
  clear HG
  rintro e w17 ⟨rfl, hu⟩
  replace HT := Lib.hid (And.intro (HT.out.1.kept hu) (And.intro (HT.out.2.1.kept hu) (And.intro (HT.out.2.2.1.kept hu) (And.intro (HT.out.2.2.2.1.kept hu) (HT.out.2.2.2.2.kept hu)))))
  clear hu
  go_wp2_with fail
  have HG := proof_Parts_off HT.out.1 1 (-1) sixLev1 (by omega) (.inl (by omega))
  rw [show ((1 : Nat) : Int) = 1 from rfl] at HG
  refine HG.mono ?_
  clear HG
  rintro e w18 ⟨rfl, hu⟩
  replace HT := Lib.hid (And.intro (HT.out.1.kept hu) (And.intro (HT.out.2.1.kept hu) (And.intro (HT.out.2.2.1.kept hu) (And.intro (HT.out.2.2.2.1.kept hu) (HT.out.2.2.2.2.kept hu)))))
  clear hu
  go_wp2_with fail
  have HG := proof_Parts HT.out.1 1 0 sixLev1 sixLev2 (by simp)
  rw [show group (aboveM shaM sixD) 0 = kT from rfl, show ((1 + 1 : Nat) : Int) = 2 from rfl, show ((0 : Nat) : Int) = 0 from rfl] at HG
  refine HG.mono ?_
  clear HG
  rintro e w19 ⟨vt, rfl, hvt, hu⟩
  obtain ⟨TA, tc, rfl, -, -⟩ := hvt.digs
  rw [kT_length] at hvt ⊢
  obtain ⟨w20, RL, hmk, hby, hkm⟩ := run_make_bz 65536 65536 rfl (by omega) w19
  have HS := Lib.hid (show KS w w20 b r q L2 w10.heap.size PA lp gr gs w18.heap.size (.slice TA 2 tc) (some ⟨w19.heap.size, 0, none⟩) RL from
    ⟨(HT.out.2.1.kept hu).kept hkm, (HT.out.2.2.2.2.kept hu).kept hkm, OwnRows.upd hvt hkm (fun _ _ h => h), (HT.out.2.2.1.kept hu).kept hkm, (HT.out.2.2.2.1.kept hu).kept hkm, hby.2⟩)
  have HRL := Lib.hid hby.1
  have hx2 : 0 < lp.length := by rw [HP.out.2.1]; omega
  obtain ⟨g0, o0, hPA, hcl0, -, hn0, -⟩ := ((HT.out.2.2.2.2.kept hu).proof) 0 hx2
  have hl0 : lp[0].2.length = 4 := by
    have h1 := congrArg (·[0]?) HP.out.2.2
    simp only [List.getElem?_map, List.getElem?_eq_getElem hx2, kP_eq] at h1
    simp at h1; rw [h1]; exact g0_length
  rw [SlC.v_eq, hn0, hl0] at hcl0
  generalize lp[0].1 = x0 at *
  obtain ⟨xa0, xn0, xc0⟩ := x0
  simp only [Nat.add_zero] at hcl0
  subst hPA
  obtain ⟨gL, hgL⟩ : ∃ gL, gL = w19.heap.size := ⟨_, rfl⟩
  rw [← hgL] at HS hmk
  clear hgL hvt hu hby hkm hn0 hl0 HT
  obtain ⟨p1, p2⟩ := HS.out.sp
  obtain ⟨v21, w21, hbs21, hB21, hk21⟩ := run_bs1 9 w20
  change (sliceRow 35 1 #[(0, .int .u8 9)]).run Try.prog w20 = _ at hbs21
  obtain ⟨A21, c21, rfl, hc21, hb21⟩ := byt_one hB21
  replace HS := Lib.hid (HS.out.kept hk21)
  have HB := Lib.hid hb21
  clear hB21 hk21 hc21 hb21
  -- Check: no proof, one byte 9 in world x
  have HG := proof_Check_Z HS.out.ink.book kS 1 0 (R := [9]) c21 HB.out (PA := none) (P := []) 0 (Nat.le_refl _) (fun W _ => ProofAt.nil W none) (by simp) [] rfl
  rw [c_a, show (([9] : Bytes)).length = 1 from rfl, show (([] : List (SlC × List Dig))).length = 0 from rfl] at HG
  go_wp2_with fail
  clear p1 p2 hbs21 hmk hcl0
  refine HG.mono ?_
  clear HG
  rintro e w22 ⟨rfl, ⟨Lw22, hb⟩, hu⟩
  replace HS := Lib.hid (HS.out.to hb hu)
  clear hb hu
  obtain ⟨p1, p2⟩ := HS.out.sp
  obtain ⟨v23, w23, hbs23, hB23, hk23⟩ := run_bs1 8 w22
  change (sliceRow 35 1 #[(0, .int .u8 8)]).run Try.prog w22 = _ at hbs23
  obtain ⟨A23, c23, rfl, hc23, hb23⟩ := byt_one hB23
  replace HS := Lib.hid (HS.out.kept hk23)
  have HB := Lib.hid hb23
  clear hB23 hk23 hc23 hb23
  -- Check: no proof, one byte 8 in world x
  have HG := proof_Check_Z HS.out.ink.book kS 1 0 (R := [8]) c23 HB.out (PA := none) (P := []) 0 (Nat.le_refl _) (fun W _ => ProofAt.nil W none) (by simp) [] rfl
  rw [c_b, show (([8] : Bytes)).length = 1 from rfl, show (([] : List (SlC × List Dig))).length = 0 from rfl] at HG
  go_wp2_with fail
  clear p1 p2 hbs23
  refine HG.mono ?_
  clear HG
  rintro e w24 ⟨rfl, ⟨Lw24, hb⟩, hu⟩
  replace HS := Lib.hid (HS.out.to hb hu)
  clear hb hu
  obtain ⟨p1, p2⟩ := HS.out.sp
  obtain ⟨v25, w25, hbs25, hB25, hk25⟩ := run_bs1 9 w24
  change (sliceRow 35 1 #[(0, .int .u8 9)]).run Try.prog w24 = _ at hbs25
  obtain ⟨A25, c25, rfl, hc25, hb25⟩ := byt_one hB25
  replace HS := Lib.hid (HS.out.kept hk25)
  have HB := Lib.hid hb25
  clear hB25 hk25 hc25 hb25
  obtain ⟨p3, p4⟩ := HS.out.sp
  have hk26 : Kept w25 (w25.alloc (.cells (dA kS) 46)) := (Upd.refl _ w25).alloc _
  have hg26 := heap_alloc_new w25 (.cells (dA kS) 46)
  obtain ⟨w26, hw26⟩ : ∃ w26, w26 = w25.alloc (.cells (dA kS) 46) := ⟨_, rfl⟩
  rw [← hw26] at hk26 hg26
  have hk27 : Kept w26 (w26.alloc (.cells (slA ⟨some ⟨w25.heap.size, 0, none⟩, 1, 1⟩) 41)) := (Upd.refl _ w26).alloc _
  have hoP : OwnP (w26.alloc (.cells (slA ⟨some ⟨w25.heap.size, 0, none⟩, 1, 1⟩) 41)) w25.heap.size (.slice (some ⟨w26.heap.size, 0, none⟩) 1 1) [[kS]] :=
    ⟨[⟨some ⟨w25.heap.size, 0, none⟩, 1, 1⟩], own_row1 (heap_alloc_new w26 _) hk26.size, rfl, fun i hi hi' => by
      obtain rfl : i = 0 := by simpa using hi
      exact OwnRows.upd (own_dig hg26 (Nat.le_refl _)) hk27 (fun _ _ h => h)⟩
  obtain ⟨PA2, pc2, lp2, hv2, hpc2, hlp2, hprf2⟩ := hoP.proofs
  rw [show ([[kS]] : List (List Dig)).length = 1 from rfl] at hv2 hpc2
  simp only [Value.slice.injEq, true_and] at hv2
  obtain ⟨rfl, rfl⟩ := hv2
  have hl2 : lp2.length = 1 := by have := congrArg List.length hlp2; rw [List.length_map] at this; exact this
  replace HS := Lib.hid ((HS.out.kept hk26).kept hk27)
  have HG := proof_Check_Z HS.out.ink.book kS 1 0 (R := [9]) c25 ((HB.out.kept hk26).kept hk27) (P := lp2) 1 (by omega) (fun W hW => (hprf2.book HS.out.ink.book hW).proof) (by omega) [[kS]] hlp2
  rw [c_c, show (([9] : Bytes)).length = 1 from rfl, hl2, hw26, World.size_alloc] at HG
  rw [hw26] at HS
  clear hk26 hg26 hk27 hoP hpc2 hlp2 hprf2 hl2 HB hw26 w26
  go_wp2_with fail
  clear p1 p2 p3 p4 hbs25
  refine HG.mono ?_
  clear HG
  rintro e w28 ⟨rfl, ⟨Lw28, hb⟩, hu⟩
  replace HS := Lib.hid (HS.out.to hb hu)
  clear hb hu
  obtain ⟨p1, p2⟩ := HS.out.rp
  -- Check: neither proof nor bytes
  have HG := proof_Check_Z HS.out.ink.book kR 6 6 (A := none) (R := []) 0 (.inl rfl) (PA := none) (P := []) 0 (Nat.le_refl _) (fun W _ => ProofAt.nil W none) (by simp) [] rfl
  rw [c_d, show (([] : Bytes)).length = 0 from rfl, show (([] : List (SlC × List Dig))).length = 0 from rfl] at HG
  go_wp2_with fail
  clear p1 p2
  refine HG.mono ?_
  clear HG
  rintro e w29 ⟨rfl, ⟨Lw29, hb⟩, hu⟩
  replace HS := Lib.hid (HS.out.to hb hu)
  clear hb hu
  obtain ⟨p1, p2⟩ := HS.out.rp
  -- Check: neither proof nor bytes
  have HG := proof_Check_Z HS.out.ink.book kR 6 (-1) (A := none) (R := []) 0 (.inl rfl) (PA := none) (P := []) 0 (Nat.le_refl _) (fun W _ => ProofAt.nil W none) (by simp) [] rfl
  rw [c_e, show (([] : Bytes)).length = 0 from rfl, show (([] : List (SlC × List Dig))).length = 0 from rfl] at HG
  go_wp2_with fail
  clear p1 p2
  refine HG.mono ?_
  clear HG
  rintro e w30 ⟨rfl, ⟨Lw30, hb⟩, hu⟩
  replace HS := Lib.hid (HS.out.to hb hu)
  clear hb hu
  obtain ⟨p1, p2⟩ := HS.out.rp
  -- Check: neither proof nor bytes
  have HG := proof_Check_Z HS.out.ink.book kR 0 0 (A := none) (R := []) 0 (.inl rfl) (PA := none) (P := []) 0 (Nat.le_refl _) (fun W _ => ProofAt.nil W none) (by simp) [] rfl
  rw [c_f, show (([] : Bytes)).length = 0 from rfl, show (([] : List (SlC × List Dig))).length = 0 from rfl] at HG
  go_wp2_with fail
  clear p1 p2
  refine HG.mono ?_
  clear HG
  rintro e w31 ⟨rfl, ⟨Lw31, hb⟩, hu⟩
  replace HS := Lib.hid (HS.out.to hb hu)
  clear hb hu
  obtain ⟨p1, p2⟩ := HS.out.rp
  -- Check: neither proof nor bytes
  have HG := proof_Check_Z HS.out.ink.book kR 1025 0 (A := none) (R := []) 0 (.inl rfl) (PA := none) (P := []) 0 (Nat.le_refl _) (fun W _ => ProofAt.nil W none) (by simp) [] rfl
  rw [c_g, show (([] : Bytes)).length = 0 from rfl, show (([] : List (SlC × List Dig))).length = 0 from rfl] at HG
  go_wp2_with fail
  clear p1 p2
  refine HG.mono ?_
  clear HG
  rintro e w32 ⟨rfl, ⟨Lw32, hb⟩, hu⟩
  replace HS := Lib.hid (HS.out.to hb hu)
  clear hb hu
  obtain ⟨p1, p2⟩ := HS.out.rp
  have HG := proof_Check_Z HS.out.ink.book kR 6 0 (R := RL) 65536 HS.out.lng (P := lp) pc HP.out.1 (fun W hW => (HS.out.prf.book HS.out.ink.book hW).proof) (by rw [HP.out.2.1]; omega) kP HP.out.2.2
  rw [c_h RL kP HRL.out, HP.out.2.1, HRL.out] at HG
  go_wp2_with fail
  clear p1 p2
  refine HG.mono ?_
  clear HG
  rintro e w33 ⟨rfl, ⟨Lw33, hb⟩, hu⟩
  replace HS := Lib.hid (HS.out.to hb hu)
  clear hb hu
  obtain ⟨p1, p2⟩ := HS.out.rp
  obtain ⟨v34, w34, hbs34, hB34, hk34⟩ := run_bs1 1 w33
  change (sliceRow 35 1 #[(0, .int .u8 1)]).run Try.prog w33 = _ at hbs34
  obtain ⟨A34, c34, rfl, hc34, hb34⟩ := byt_one hB34
  replace HS := Lib.hid (HS.out.kept hk34)
  have HB := Lib.hid hb34
  clear hB34 hk34 hc34 hb34
  have HG := proof_Check_no (w := w34) (p := none) kR dig0 6 0 (.slice A34 1 c34) (.slice (some ⟨g0, o0, none⟩) 2 pc) (by omega) (by omega) (by omega) (by omega) (z := 1) (by decide) (fun w1 hu => tree_Leaf_noR (.inl rfl) (R := [1]) c34 (HB.out.kept hu) (by simp))
  clear HB
  go_wp2_with fail
  clear p1 p2 hbs34
  refine HG.mono ?_
  clear HG
  rintro e w35 ⟨rfl, hu⟩
  replace HS := Lib.hid (HS.out.kept hu)
  clear hu
  obtain ⟨p1, p2⟩ := HS.out.rp
  have HG := proof_Check_range (w := w35) (p := none) kR 6 9 (.slice none 0 0) (.slice (some ⟨g0, o0, none⟩) 2 pc) (by omega) (by omega) (by omega)
  go_wp2_with fail
  clear p1 p2
  refine HG.mono ?_
  clear HG
  rintro e w36 ⟨rfl, hu⟩
  replace HS := Lib.hid (HS.out.kept hu)
  clear hu
  obtain ⟨p1, p2⟩ := HS.out.rp
  obtain ⟨v37, w37, hbs37, hB37, hk37⟩ := run_bs1 1 w36
  change (sliceRow 35 1 #[(0, .int .u8 1)]).run Try.prog w36 = _ at hbs37
  obtain ⟨A37, c37, rfl, hc37, hb37⟩ := byt_one hB37
  replace HS := Lib.hid (HS.out.kept hk37)
  have HB := Lib.hid hb37
  clear hB37 hk37 hc37 hb37
  -- Check: the proof, one byte 1
  have HG := proof_Check_Z HS.out.ink.book kR 6 0 (R := [1]) c37 HB.out (P := lp) pc HP.out.1 (fun W hW => (HS.out.prf.book HS.out.ink.book hW).proof) (by rw [HP.out.2.1]; omega) kP HP.out.2.2
  rw [c_k, HP.out.2.1, show (([1] : Bytes)).length = 1 from rfl] at HG
  clear HB
  go_wp2_with fail
  clear p1 p2 hbs37
  refine HG.mono ?_
  clear HG
  rintro e w38 ⟨rfl, ⟨Lw38, hb⟩, hu⟩
  replace HS := Lib.hid (HS.out.to hb hu)
  clear hb hu
  obtain ⟨p1, p2⟩ := HS.out.rp
  obtain ⟨v39, w39, hbs39, hB39, hk39⟩ := run_bs1 1 w38
  change (sliceRow 35 1 #[(0, .int .u8 1)]).run Try.prog w38 = _ at hbs39
  obtain ⟨A39, c39, rfl, hc39, hb39⟩ := byt_one hB39
  replace HS := Lib.hid (HS.out.kept hk39)
  have HB := Lib.hid hb39
  clear hB39 hk39 hc39 hb39
  -- Check: the proof, one byte 1
  have HG := proof_Check_Z HS.out.ink.book kR 5 0 (R := [1]) c39 HB.out (P := lp) pc HP.out.1 (fun W hW => (HS.out.prf.book HS.out.ink.book hW).proof) (by rw [HP.out.2.1]; omega) kP HP.out.2.2
  rw [c_l, HP.out.2.1, show (([1] : Bytes)).length = 1 from rfl] at HG
  clear HB
  go_wp2_with fail
  clear p1 p2 hbs39
  refine HG.mono ?_
  clear HG
  rintro e w40 ⟨rfl, ⟨Lw40, hb⟩, hu⟩
  replace HS := Lib.hid (HS.out.to hb hu)
  clear hb hu
  obtain ⟨p1, p2⟩ := HS.out.rp
  obtain ⟨v41, w41, hbs41, hB41, hk41⟩ := run_bs1 1 w40
  change (sliceRow 35 1 #[(0, .int .u8 1)]).run Try.prog w40 = _ at hbs41
  obtain ⟨A41, c41, rfl, hc41, hb41⟩ := byt_one hB41
  replace HS := Lib.hid (HS.out.kept hk41)
  have HB := Lib.hid hb41
  clear hB41 hk41 hc41 hb41
  -- Check: the proof, one byte 1
  have HG := proof_Check_Z HS.out.ink.book kR 4 0 (R := [1]) c41 HB.out (P := lp) pc HP.out.1 (fun W hW => (HS.out.prf.book HS.out.ink.book hW).proof) (by rw [HP.out.2.1]; omega) kP HP.out.2.2
  rw [c_m, HP.out.2.1, show (([1] : Bytes)).length = 1 from rfl] at HG
  clear HB
  go_wp2_with fail
  clear p1 p2 hbs41
  refine HG.mono ?_
  clear HG
  rintro e w42 ⟨rfl, ⟨Lw42, hb⟩, hu⟩
  replace HS := Lib.hid (HS.out.to hb hu)
  clear hb hu
  have hTD : ∀ {W : World} {L : List Bytes}, KS w W b r q L w10.heap.size (some ⟨g0, o0, none⟩) lp gr gs w18.heap.size (.slice TA 2 tc) (some ⟨gL, 0, none⟩) RL → Digs W TA kT := fun h => by
    obtain ⟨A', c', he, -, hd⟩ := h.top.digs
    simp only [Value.slice.injEq] at he
    obtain ⟨rfl, -, -⟩ := he
    exact hd
  have HTD := Lib.hid (show ∀ (W : World) (L : List Bytes), KS w W b r q L w10.heap.size (some ⟨g0, o0, none⟩) lp gr gs w18.heap.size (.slice TA 2 tc) (some ⟨gL, 0, none⟩) RL → Digs W TA kT from fun _ _ h => hTD h)
  clear hTD
  obtain ⟨p1, p2⟩ := HS.out.rp
  have HG := proof_Fits HS.out.ink.book tc (HTD.out _ _ HS.out) (by rw [kT_length]; omega) (by rw [kT_length]; omega) kR
  rw [kT_up, if_pos rfl, kT_length] at HG
  go_wp2_with fail
  clear p1 p2
  refine HG.mono ?_
  clear HG
  rintro e w43 ⟨rfl, hb, hu⟩
  replace HS := Lib.hid (HS.out.to hb hu)
  clear hb hu
  obtain ⟨p1, p2⟩ := HS.out.sp
  have HG := proof_Fits HS.out.ink.book tc (HTD.out _ _ HS.out) (by rw [kT_length]; omega) (by rw [kT_length]; omega) kS
  rw [kT_up, if_neg kRS, kT_length] at HG
  go_wp2_with fail
  clear p1 p2
  refine HG.mono ?_
  clear HG
  rintro e w44 ⟨rfl, hb, hu⟩
  replace HS := Lib.hid (HS.out.to hb hu)
  clear hb hu
  obtain ⟨p1, p2⟩ := HS.out.rp
  have HG := proof_Fits_no (w := w44) (p := some ⟨b, 0, none⟩) (x := .slice none 0 0) kR dig0 (z := 2) (by decide) (fun _ _ => tree_Up_no (A := none) (n := 0) 0 (by omega))
  go_wp2_with fail
  clear p1 p2
  refine HG.mono ?_
  clear HG
  rintro e w45 ⟨rfl, hu⟩
  replace HS := Lib.hid (HS.out.kept hu)
  clear hu
  obtain ⟨p1, p2⟩ := HS.out.rp
  have HG := proof_Fits_no (w := w45) (p := none) (x := .slice TA 2 tc) kR dig0 (z := 1) (by decide) (fun w1 hu => tree_Up_nil (.inl rfl) (D := kT) tc ((HTD.out _ _ HS.out).kept hu) (by rw [kT_length]; omega) (by rw [kT_length]; omega))
  go_wp2_with fail
  clear p1 p2
  refine HG.mono ?_
  clear HG
  rintro e w46 ⟨rfl, hu⟩
  replace HS := Lib.hid (HS.out.kept hu)
  clear hu
  obtain ⟨p1, p2⟩ := HS.out.sp
  obtain ⟨v47, w47, hbs47, hB47, hk47⟩ := run_bs1 9 w46
  change (sliceRow 35 1 #[(0, .int .u8 9)]).run Try.prog w46 = _ at hbs47
  obtain ⟨A47, c47, rfl, hc47, hb47⟩ := byt_one hB47
  replace HS := Lib.hid (HS.out.kept hk47)
  have HB := Lib.hid hb47
  clear hB47 hk47 hc47 hb47
  have HG := proof_LeafFits HS.out.ink.book (R := [9]) c47 HB.out (by simp) kS
  rw [show leafM shaM [9] = kS from rfl, if_pos rfl, show (([9] : Bytes)).length = 1 from rfl] at HG
  clear HB
  go_wp2_with fail
  clear p1 p2 hbs47
  refine HG.mono ?_
  clear HG
  rintro e w48 ⟨rfl, hb, hu⟩
  replace HS := Lib.hid (HS.out.to hb hu)
  clear hb hu
  obtain ⟨p1, p2⟩ := HS.out.rp
  obtain ⟨v49, w49, hbs49, hB49, hk49⟩ := run_bs1 9 w48
  change (sliceRow 35 1 #[(0, .int .u8 9)]).run Try.prog w48 = _ at hbs49
  obtain ⟨A49, c49, rfl, hc49, hb49⟩ := byt_one hB49
  replace HS := Lib.hid (HS.out.kept hk49)
  have HB := Lib.hid hb49
  clear hB49 hk49 hc49 hb49
  have HG := proof_LeafFits HS.out.ink.book (R := [9]) c49 HB.out (by simp) kR
  rw [show leafM shaM [9] = kS from rfl, if_neg (fun h => kRS h.symm), show (([9] : Bytes)).length = 1 from rfl] at HG
  clear HB
  go_wp2_with fail
  clear p1 p2 hbs49
  refine HG.mono ?_
  clear HG
  rintro e w50 ⟨rfl, hb, hu⟩
  replace HS := Lib.hid (HS.out.to hb hu)
  clear hb hu
  obtain ⟨p1, p2⟩ := HS.out.sp
  have HG := proof_LeafFits_no (w := w50) (p := some ⟨b, 0, none⟩) (x := .slice (some ⟨gL, 0, none⟩) 65536 65536) kS dig0 (z := 5) (by decide) (fun _ _ => tree_Leaf_long 65536 (by omega))
  go_wp2_with fail
  clear p1 p2
  refine HG.mono ?_
  clear HG
  rintro e w51 ⟨rfl, hu⟩
  replace HS := Lib.hid (HS.out.kept hu)
  clear hu
  obtain ⟨p1, p2⟩ := HS.out.sp
  have HG := proof_LeafFits_no (w := w51) (p := none) (x := .slice none 0 0) kS dig0 (z := 1) (by decide) (fun _ _ => tree_Leaf_no (.inl rfl) 0)
  go_wp2_with fail
  clear p1 p2
  refine HG.mono ?_
  clear HG
  rintro e w52 ⟨rfl, hu⟩
  replace HS := Lib.hid (HS.out.kept hu)
  clear hu
  have HK := Lib.hid HS.out.ink.upd
  clear HS HTD HP HRL
  go_wp2_with fail
  go_loopw [31, 30] (fun u1 u2 wr => ∃ (k : Nat) (p : Option Addr), k ≤ 2 ∧ u1 = .int .i64 k ∧ u2 = .pointer p ∧ NoTree wr p ∧ Kept w wr) (fun u1 _ _ => 2000 - (intOf u1).toNat)
  case atStart => exact ⟨0, none, Nat.zero_le _, rfl, rfl, .inl rfl, HK.out⟩
  case round =>
    clear HK
    obtain ⟨k, p, hk, rfl, rfl, hno, hu⟩ := hrel
    rcases Nat.lt_or_ge k 2 with hlt | hge
    · have hk1 : (k : Int) < 2 := by omega
      have HN := Lib.hid (And.intro hno (And.intro hu hlt))
      clear hno hu hlt hk
      go_wp2_with fail
      refine (proof_Build_no HN.out.1 0).mono ?_
      rintro e wa ⟨rfl, hu⟩
      replace HN := Lib.hid (And.intro (HN.out.1.kept hu) (And.intro (HN.out.2.1.then hu (fun _ _ h => h)) HN.out.2.2))
      clear hu
      go_wp2_with fail
      refine (proof_Parts_no HN.out.1 0 0).mono ?_
      rintro e wb ⟨rfl, hu⟩
      have hk2 : Kept wb (wb.alloc (.cells treeZ 103)) := (Upd.refl _ wb).alloc _
      have HF := Lib.hid (And.intro (show NoTree (wb.alloc (.cells treeZ 103)) (some ⟨wb.heap.size, 0, none⟩) from .inr ⟨wb.heap.size, rfl, by rw [cell_of_row _ wb.heap.size 0 _ _ _ (heap_alloc_new wb _)]; rfl⟩) (And.intro ((HN.out.2.1.then hu (fun _ _ h => h)).then hk2 (fun _ _ h => h)) HN.out.2.2))
      clear hu hk2 HN
      go_wp2_with fail
      go_roundw
      case rel => exact ⟨k + 1, _, by have := HF.out.2.2; omega, by show _ = _; go_num, rfl, HF.out.1, HF.out.2.1⟩
      case measure => have := HF.out.2.2; simp [intOf]; omega
    · obtain rfl : k = 2 := by omega
      have hk1 : ¬ (((2 : Nat) : Int) < 2) := by omega
      have HF := Lib.hid hu
      clear hno hu hge hk
      go_wp2_with fail
      refine (law_works10 _).mono ?_
      rintro e wz ⟨rfl, hu⟩
      replace HF := Lib.hid (HF.out.then hu (fun _ _ h => h))
      clear hu
      go_wp2
      go_ret
      exact ⟨rfl, HF.out⟩
set_option maxRecDepth 100000 in
theorem ProofKnown_lifted (os : Os) (started : os.Started) (H : Type) (enc : TypeId × Value → H) :
    ReturnsInHanded {} Try.checked os 12 .any (Rows.proofKnownSpec.pre6 enc Try.prog Try.f12 Rows.proofKnownRow.domain false) (Rows.proofKnownSpec.post enc Try.prog Try.f12 false true false false) := by
  refine law_lifted os started Try.func12 (by kernel_rfl) rfl rfl (by kernel_rfl) ?_
    (ChangeSpec.witness6 (enc := enc) (C := Try.checked) false ⟨#[], #[], []⟩ 8 (by kernel_rfl) (by kernel_rfl) (by kernel_rfl) (by kernel_rfl)) ?_
  · intro ds h
    rw [Try.params12] at h
    match ds, h with
    | [], _ => rfl
  · intro W base args ds ps hval hA _
    rw [Try.params12] at hA
    obtain ⟨hargs, rfl, rfl⟩ := trodAll_nil hA
    obtain rfl : args = #[] := by cases args; simp_all
    exact ProofKnown_walk W

theorem ProofKnown_holds : Rows.ProofKnownSaid :=
  OpenClaim.holds_of_wide 12 Try.f12 rfl rfl rfl rfl rfl rfl rfl ⟨rfl, rfl, rfl, rfl, rfl⟩ rfl rfl rfl rfl rfl (by kernel_rfl) Try.func12 (by kernel_rfl)
    (of_decide_eq_true (by kernel_rfl)) (by unfold Func.isWrapper; first | (rw [if_pos (by decide +kernel)]; kernel_rfl) | (rw [if_neg (by decide +kernel)]; exact ⟨rfl, rfl⟩))
    (fun os started H enc _ => ProofKnown_lifted os started H enc)
end Go.Proofs.Ytnncpjekcljfbaa
