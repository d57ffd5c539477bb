/- Fits and LeafFits answer as the chapter says: the statement ProofFits holds, of all digests, children and bytes. -/
import Derived.Test.YtnncpjekcljfbaaSetG
import Derived.Test.YtnncpjekcljfbaaSetF
namespace Go.Proofs.Ytnncpjekcljfbaa
open Go.ChangeShapes Go.WideShapes Go.ChangeAt Go.RowKit

attribute [local irreducible] wpOrd
set_option maxHeartbeats 1600000 in
set_option maxRecDepth 20000 in
theorem ProofFits_walk (d : Dig) (A1 A2 : Option Addr) (c1 c2 : Nat) (D : List Dig) (R : Bytes) (w : World) (hD : Digs w A1 D) (hR : Byt w A2 R) :
    Calls Try.prog 10 #[.agg (dA d), .slice A1 D.length c1, .slice A2 R.length c2] w fun e w' => e = .returned (.bool true) ∧ Kept w w' := by
  have hk0 : Kept w (w.alloc (.cells (dA d) 46)) := (Upd.refl _ w).alloc _
  have hb0 : Blk (w.alloc (.cells (dA d) 46)) w.heap.size 46 (encB d.1) := Blk.new w _ _
  have HK0 := Lib.hid (And.intro hk0 (show w.heap.size < (w.alloc (.cells (dA d) 46)).heap.size from (Array.getElem?_eq_some_iff.1 hb0).1))
  have HA := Lib.hid (And.intro (hD.kept hk0) (And.intro (hR.kept hk0) hb0))
  clear hD hR hk0 hb0
  obtain ⟨n, hn⟩ : ∃ n, n = D.length := ⟨_, rfl⟩
  obtain ⟨m, hm⟩ : ∃ m, m = R.length := ⟨_, rfl⟩
  rw [← hn, ← hm]
  have HN := Lib.hid (And.intro hn hm)
  clear hn hm
  go_enter Try.func10, Try.ntmps10
  go_wp2_with fail
  obtain ⟨g0, hg0⟩ : ∃ g0, g0 = w.heap.size := ⟨_, rfl⟩
  rw [← hg0] at HA HK0 ⊢
  clear hg0
  generalize w.alloc (.cells (dA d) 46) = wA at *
  refine (law_book _).mono ?_
  rintro e w1 ⟨b, r, q, rfl, hI⟩
  have HI := Lib.hid hI
  clear hI
  go_wp2_with fail
  refine (twin_New HI.out).mono ?_
  rintro e w2 ⟨c, rfl, hT⟩
  have HT := Lib.hid hT
  clear hT HI
  go_wp2_with fail
  have f1 : ∀ W, Upd (Beh wA) w2 W → segB W ⟨g0, 0, none⟩ 32 = true := fun W hW => (dig_at (HA.out.2.2.kept (HT.out.ink.upd.then hW (fun k hk e => by have : wA.heap.size ≤ k := e; omega)))).1
  have f2 : ∀ W, Upd (Beh wA) w2 W → segV W ⟨g0, 0, none⟩ 32 = dA d := fun W hW => (dig_at (HA.out.2.2.kept (HT.out.ink.upd.then hW (fun k hk e => by have : wA.heap.size ≤ k := e; omega)))).2
  refine wp_region_ord [(0, true), (1, true), (2, true), (4, true), (5, true), (6, true), (3, false), (7, false), (8, true), (9, true), (10, true), (11, true), (12, true), (14, true), (15, true), (16, true), (13, false), (17, false), (18, true), (19, true), (20, true), (21, false), (22, true), (23, true)] (by kernel_rfl) (by kernel_rfl) (Upd (Beh wA) w2) (Upd.refl _ _).drew ?_
  simp only [ordOps, List.getD_cons_zero, List.getD_cons_succ]
  iterate 6 (refine wpOrd_held (fun K hK => ?_); go_simp; first | (apply Exists.intro; refine ⟨fun W hW => ?_, hK _ ?_⟩; (go_simp; first | done | exact rfl); clear hK K) | (refine hK _ ?_; clear hK K))
  have hS : Upd (Beh wA) w2 w2.drew := (Upd.refl _ _).drew
  have HT2 := Lib.hid (HT.out.kept (show Kept w2 w2.drew from (Upd.refl _ _).drew))
  generalize w2.drew = w3 at *
  refine wpOrd_step (fun K hK => ?_) hS
  go_simp
  have HG := twin_Fits HT2.out c1 (HA.out.1.kept HT2.out.ink.upd) d
  rw [← HN.out.1] at HG
  refine HG.mono ?_
  clear HG
  rintro e w4 ⟨rfl, ⟨L4, hT⟩, hu⟩
  have HT4 := Lib.hid hT
  have hS4 := hS.trans hu
  refine hK _ _ hS4 ?_
  clear hK K hT hu hS HT2 HT
  refine wpOrd_step (fun K hK => ?_) hS4
  go_simp
  have HG := twin_RefFits HT4.out (by simp) c1 (HA.out.1.kept HT4.out.ink.upd) d
  rw [← HN.out.1] at HG
  refine HG.mono ?_
  clear HG
  rintro e w5 ⟨rfl, ⟨M5, hM5, hT⟩, hu⟩
  have HT5 := Lib.hid (And.intro hT hM5)
  have hS5 := hS4.trans hu
  refine hK _ _ hS5 ?_
  clear hK K hT hu hS4 HT4 hM5
  generalize fitZ D d = z1 at *
  iterate 8 (refine wpOrd_held (fun K hK => ?_); go_simp; first | (apply Exists.intro; refine ⟨fun W hW => ?_, hK _ ?_⟩; (go_simp; first | done | exact rfl); clear hK K) | (refine hK _ ?_; clear hK K))
  refine wpOrd_step (fun K hK => ?_) hS5
  go_simp
  have HG := twin_LeafFits HT5.out.1 c2 (HA.out.2.1.kept HT5.out.1.ink.upd) d
  rw [← HN.out.2] at HG
  refine HG.mono ?_
  clear HG
  rintro e w6 ⟨rfl, ⟨L6, hT⟩, hu⟩
  have HT6 := Lib.hid (And.intro hT HT5.out.2)
  have hS6 := hS5.trans hu
  refine hK _ _ hS6 ?_
  clear hK K hT hu hS5 HT5
  refine wpOrd_step (fun K hK => ?_) hS6
  go_simp
  have HG := twin_RefLeafFits HT6.out.1 (by have := HT6.out.2; simp at this; omega) c2 (HA.out.2.1.kept HT6.out.1.ink.upd) d
  rw [← HN.out.2] at HG
  refine HG.mono ?_
  clear HG
  rintro e w7 ⟨rfl, ⟨M7, -, hT⟩, hu⟩
  have HT7 := Lib.hid hT
  have hS7 := hS6.trans hu
  refine hK _ _ hS7 ?_
  clear hK K hT hu hS6 HT6
  generalize leafZ R d = z2 at *
  iterate 3 (refine wpOrd_held (fun K hK => ?_); go_simp; first | (apply Exists.intro; refine ⟨fun W hW => ?_, hK _ ?_⟩; (go_simp; first | done | exact rfl); clear hK K) | (refine hK _ ?_; clear hK K))
  refine wpOrd_step (fun K hK => ?_) hS7
  go_simp
  refine (law_works10 _).mono ?_
  rintro e w8 ⟨rfl, hu⟩
  have HF := Lib.hid (HK0.out.1.then (HT7.out.ink.upd.then hu (fun _ _ h => h)) (fun _ _ h => h))
  have hS8 := hS7.trans (hu.to (S := Beh wA))
  refine hK _ _ hS8 ?_
  clear hK K hu hS7 HT7
  iterate 2 (refine wpOrd_held (fun K hK => ?_); go_simp; first | (apply Exists.intro; refine ⟨fun W hW => ?_, hK _ ?_⟩; (go_simp; first | done | exact rfl); clear hK K) | (refine hK _ ?_; clear hK K))
  refine wpOrd_nil ?_
  clear f1 f2 hS8
  go_wp2
  go_ret
  exact ⟨rfl, HF.out⟩
set_option maxRecDepth 100000 in
theorem ProofFits_lifted (os : Os) (started : os.Started) (H : Type) (enc : TypeId × Value → H) :
    ReturnsInHanded {} Try.checked os 10 .any (Rows.proofFitsSpec.pre6 enc Try.prog Try.f10 Rows.proofFitsRow.domain false) (Rows.proofFitsSpec.post enc Try.prog Try.f10 false true false false) := by
  refine law_lifted os started Try.func10 (by kernel_rfl) rfl rfl (by kernel_rfl) ?_
    (ChangeSpec.witness6 (enc := enc) (C := Try.checked) false ⟨#[], #[.agg (Array.replicate 32 (Value.int .u8 0)), .slice none 0 0, .slice none 0 0], []⟩ 8 (by kernel_rfl) (by kernel_rfl) (by kernel_rfl) (by kernel_rfl)) ?_
  · intro ds h
    rw [Try.params10] at h
    match ds, h with
    | [d0, d1, d2], _ => rfl
  · intro W base args ds ps hval hA hsz
    rw [Try.params10] at hA hval hsz
    obtain ⟨v0, vs0, d0, ds0, p0, q0, hargs, rfl, rfl, h0, r_0⟩ := trodAll_cons hA
    obtain ⟨v1, vs1, d1, ds1, p1, q1, rfl, rfl, rfl, h1, r_1⟩ := trodAll_cons r_0
    obtain ⟨v2, vs2, d2, ds2, p2, q2, rfl, rfl, rfl, h2, r_2⟩ := trodAll_cons r_1
    obtain ⟨rfl, rfl, rfl⟩ := trodAll_nil r_2
    obtain rfl : args = #[v0, v1, v2] := by cases args; simp_all
    obtain ⟨cs0, rfl, _⟩ := ok_agg (P := Try.prog) (t := 46) (by kernel_rfl) (hval 0 46 v0 rfl rfl)
    have r0 := ReadsAs.of_trod hsz (j := 0) rfl rfl h0
    obtain ⟨A1, n1, c1, rfl⟩ := okWide_slice Try.underlying41 (hval 1 41 v1 rfl rfl)
    have r1 := ReadsAs.of_trod hsz (j := 1) rfl rfl h1
    obtain ⟨A2, n2, c2, rfl⟩ := okWide_slice Try.underlying35 (hval 2 35 v2 rfl rfl)
    have r2 := ReadsAs.of_trod hsz (j := 2) rfl rfl h2
    obtain ⟨d, hd⟩ := open_dig r0
    obtain rfl : cs0 = dA d := Array.toList_inj.1 (by simpa [dA, Value.cells] using hd)
    obtain ⟨A, c, D, hcs, hD, _⟩ := open_digs r1
    simp only [Value.cells, List.cons.injEq, Value.slice.injEq, and_true] at hcs
    obtain ⟨rfl, rfl, rfl⟩ := hcs
    obtain ⟨x, R, hcs2, hx, _⟩ := open_bytes r2
    obtain ⟨XA, xc, rfl, hxc, hxb⟩ := hx.form
    simp only [Value.cells, SlC.v, List.cons.injEq, Value.slice.injEq, and_true] at hcs2
    obtain ⟨rfl, rfl, rfl⟩ := hcs2
    exact ProofFits_walk d _ _ _ _ D R W hD hxb

theorem ProofFits_holds : Rows.ProofFitsSaid :=
  OpenClaim.holds_of_wide 10 Try.f10 rfl rfl rfl rfl rfl rfl rfl ⟨rfl, rfl, rfl, rfl, rfl⟩ rfl rfl rfl rfl rfl (by kernel_rfl) Try.func10 (by kernel_rfl)
    (of_decide_eq_true (by kernel_rfl)) (by unfold Func.isWrapper; first | (rw [if_pos (by decide +kernel)]; kernel_rfl) | (rw [if_neg (by decide +kernel)]; exact ⟨rfl, rfl⟩))
    (fun os started H enc _ => ProofFits_lifted os started H enc)
end Go.Proofs.Ytnncpjekcljfbaa
