/- Check answers as the chapter says, of all claims; what is handed in stays: the statement ProofChecks holds, of all claims. -/
import Derived.Test.YtnncpjekcljfbaaSetH
namespace Go.Proofs.Ytnncpjekcljfbaa
open Go.ChangeShapes Go.WideShapes Go.ChangeAt Go.RowKit

attribute [local irreducible] wpOrd
set_option maxHeartbeats 1600000 in
set_option maxRecDepth 20000 in
theorem ProofChecks_walk (d : Dig) (lv lf : Int) (x : SlC) (R : Bytes) (PA : Option Addr) (pc : Nat) (P : List (SlC × List Dig)) (w : World)
    (hx : LeafAt w x R) (hRl : R.length ≤ 140737488351232) (hP : ProofAt w PA P) (hpc : P.length ≤ pc) (hPl : P.length * 24 ≤ 140737488351232) (hPd : ∀ p ∈ P, p.2.length * 32 ≤ 140737488351232) :
    Calls Try.prog 6 #[.agg (clA d lv lf x ⟨PA, P.length, pc⟩)] w fun e w' => e = .returned (.bool true) ∧ Kept w w' := by
  obtain ⟨XA, xc, rfl, hxc, hxb⟩ := hx.form
  have hk0 : Kept w (w.alloc (.cells (clA d lv lf ⟨XA, R.length, xc⟩ ⟨PA, P.length, pc⟩) 72)) := (Upd.refl _ w).alloc _
  have hcl0 := ClAt.new w d lv lf ⟨XA, R.length, xc⟩ ⟨PA, P.length, pc⟩
  have HK0 := Lib.hid hk0
  have HA := Lib.hid (And.intro (hxb.kept hk0) (And.intro hRl (And.intro (hP.kept hk0) (And.intro hpc (And.intro hPl hPd)))))
  have HC := Lib.hid hcl0
  clear hx hxb hRl hP hpc hPl hPd hk0 hcl0 hxc
  generalize hg0 : w.heap.size = g0 at *
  obtain ⟨n, hn⟩ : ∃ n, n = P.length := ⟨_, rfl⟩
  obtain ⟨m, hm⟩ : ∃ m, m = R.length := ⟨_, rfl⟩
  rw [← hn, ← hm] at HC HK0 HA
  rw [← hn, ← hm]
  have HN := Lib.hid (And.intro hn hm)
  clear hn hm
  go_enter Try.func6, Try.ntmps6
  go_wp2_with fail
  clear hg0
  generalize w.alloc (.cells (clA d lv lf ⟨XA, m, xc⟩ ⟨PA, n, pc⟩) 72) = wA at *
  have f1 : ∀ W, Kept wA W → W.cell? ⟨g0, 34, none⟩ = some (.slice XA m xc) := fun W hW => (HC.out.kept hW).c34
  have f2 : ∀ W, Kept wA W → W.cell? ⟨g0, 35, none⟩ = some (.slice PA n pc) := fun W hW => (HC.out.kept hW).c35
  refine wp_region_ord [(0, true), (1, true), (3, true), (4, true), (2, false), (5, false), (6, true), (7, true)] (by kernel_rfl) (by kernel_rfl) (Kept wA) (Upd.refl _ _).drew ?_
  simp only [ordOps, List.getD_cons_zero, List.getD_cons_succ]
  iterate 4 (refine wpOrd_held (fun K hK => ?_); go_simp; first | (apply Exists.intro; refine ⟨fun W hW => ?_, hK _ ?_⟩; (go_simp; first | done | exact rfl); clear hK K) | (refine hK _ ?_; clear hK K))
  clear f1 f2
  have hS : Kept wA wA.drew := (Upd.refl _ _).drew
  refine wpOrd_step (fun K hK => ?_) hS
  go_simp
  have HG := ref_CopyBytes xc (HA.out.1.kept hS) (by rw [← HN.out.2]; exact HA.out.2.1)
  rw [← HN.out.2] at HG
  refine HG.mono ?_
  clear HG
  rintro e w1 ⟨v1, rfl, ho1, hu1⟩
  obtain ⟨A1, c1, rfl, -, -⟩ := ho1.form
  rw [← HN.out.2] at ho1 ⊢
  have hS1 : Kept wA w1 := hS.then hu1 (fun _ _ h => h)
  have HO1 := Lib.hid (OwnB.base ho1 hS.size)
  refine hK _ _ hS1 ?_
  clear hK K ho1 hu1 hS
  refine wpOrd_step (fun K hK => ?_) hS1
  go_simp
  have HG := ref_Copy pc (HA.out.2.2.1.kept hS1) (by have := HA.out.2.2.2.2.1; rw [← HN.out.1]; omega) (fun p hp => by have := HA.out.2.2.2.2.2 p hp; omega)
  rw [← HN.out.1] at HG
  refine HG.mono ?_
  clear HG
  rintro e w2 ⟨v2, rfl, ⟨xs2, hq2⟩, hu2⟩
  obtain ⟨A2, c2, l2, rfl, -, -, -⟩ := hq2.own.proofs
  rw [List.length_map, ← HN.out.1] at hq2 ⊢
  have hS2 : Kept wA w2 := hS1.then hu2 (fun _ _ h => h)
  have HP2 := Lib.hid (show PC wA w2 (.slice A1 m c1) R (.slice A2 n c2) (P.map (·.2)) from ⟨hS2, OwnB.kept HO1.out hu2, hq2.own.base hS1.size⟩)
  refine hK _ _ hS2 ?_
  clear hK K hq2 hu2 hS1 HO1
  iterate 2 (refine wpOrd_held (fun K hK => ?_); go_simp; first | (apply Exists.intro; refine ⟨fun W hW => ?_, hK _ ?_⟩; (go_simp; first | done | exact rfl); clear hK K) | (refine hK _ ?_; clear hK K))
  refine wpOrd_nil ?_
  clear hS2
  go_wp2_with fail
  have hKA : ∀ W, Upd (Beh wA) w2 W → Kept wA W := fun W hW => HP2.out.upd.then hW (fun k hk e => by have : wA.heap.size ≤ k := e; omega)
  have f1 : ∀ W, Upd (Beh wA) w2 W → segB W ⟨g0, 0, none⟩ 32 = true := fun W hW => ((HC.out.kept (hKA W hW)).seg).1
  have f2 : ∀ W, Upd (Beh wA) w2 W → segV W ⟨g0, 0, none⟩ 32 = dA d := fun W hW => ((HC.out.kept (hKA W hW)).seg).2
  have f3 : ∀ W, Upd (Beh wA) w2 W → W.cell? ⟨g0, 32, none⟩ = some (.int .i64 lv) := fun W hW => (HC.out.kept (hKA W hW)).c32
  have f4 : ∀ W, Upd (Beh wA) w2 W → W.cell? ⟨g0, 33, none⟩ = some (.int .i64 lf) := fun W hW => (HC.out.kept (hKA W hW)).c33
  clear hKA
  refine wp_region_ord [(1, true), (2, true), (3, true), (4, true), (5, true), (6, true), (7, true), (8, true), (0, false), (9, false), (10, true)] (by kernel_rfl) (by kernel_rfl) (Upd (Beh wA) w2) (Upd.refl _ _).drew ?_
  simp only [ordOps, List.getD_cons_zero, List.getD_cons_succ]
  iterate 8 (refine wpOrd_held (fun K hK => ?_); go_simp; first | (apply Exists.intro; refine ⟨fun W hW => ?_, hK _ ?_⟩; (go_simp; first | done | exact rfl); clear hK K) | (refine hK _ ?_; clear hK K))
  clear f1 f2 f3 f4
  have hS : Upd (Beh wA) w2 w2.drew := (Upd.refl _ _).drew
  replace HP2 := Lib.hid (HP2.out.kept (show Kept w2 w2.drew from (Upd.refl _ _).drew))
  generalize w2.drew = wd at *
  refine wpOrd_step (fun K hK => ?_) hS
  go_simp
  refine (law_book _).mono ?_
  rintro e w3 ⟨b, r, q, rfl, hI⟩
  have hS3 : Upd (Beh wA) w2 w3 := hS.trans hI.upd.to
  have HI := Lib.hid hI.book
  have HF3 := Lib.hid (show ∀ k, Book3 b r q k → wA.heap.size ≤ k from fun k hk => Nat.le_trans HP2.out.upd.size (hI.far k hk))
  replace HP2 := Lib.hid (HP2.out.kept hI.upd)
  refine hK _ _ hS3 ?_
  clear hK K hI hS
  refine wpOrd_step (fun K hK => ?_) hS3
  go_simp
  obtain ⟨A1', c1', he1, hcR, hbR⟩ := HP2.out.inb.form
  simp only [Value.slice.injEq] at he1
  obtain ⟨rfl, -, rfl⟩ := he1
  obtain ⟨A2', c2', l2, he2, hc2, hl2, hp2⟩ := HP2.out.prf.proofs
  simp only [Value.slice.injEq] at he2
  obtain ⟨rfl, -, rfl⟩ := he2
  have hll : l2.length = n := by have := congrArg List.length hl2; rw [List.length_map, List.length_map] at this; rw [HN.out.1]; exact this
  have HG := proof_Check_Z HI.out d lv lf c1 hbR c2 (P := l2) (by rw [List.length_map, ← HN.out.1] at hc2; omega) (fun W hW => (hp2.book HI.out hW).proof) (by rw [hll]; have := HA.out.2.2.2.2.1; omega) (P.map (·.2)) hl2
  rw [← HN.out.2, hll] at HG
  refine HG.mono ?_
  clear HG
  rintro e w4 ⟨rfl, -, hu⟩
  have hS4 : Upd (Beh wA) w2 w4 := hS3.trans (hu.mono fun k _ e => HF3.out k e)
  replace HP2 := Lib.hid (HP2.out.step hu HI.out.aloof HF3.out)
  refine hK _ _ hS4 ?_
  clear hK K hu hS3 hbR hcR hc2 hl2 hp2 hll HI HF3
  iterate 1 (refine wpOrd_held (fun K hK => ?_); go_simp; first | (apply Exists.intro; refine ⟨fun W hW => ?_, hK _ ?_⟩; (go_simp; first | done | exact rfl); clear hK K) | (refine hK _ ?_; clear hK K))
  refine wpOrd_nil ?_
  clear hS4
  obtain ⟨zz, hzz⟩ : ∃ zz, zz = chkZ d lv lf R (P.map (·.2)) := ⟨_, rfl⟩
  rw [← hzz]
  have HZZ := Lib.hid hzz
  clear hzz
  go_wp2_with fail
  have hKA : ∀ W, Upd (Beh wA) w4 W → Kept wA W := fun W hW => HP2.out.upd.then hW (fun k hk e => by have : wA.heap.size ≤ k := e; omega)
  have f1 : ∀ W, Upd (Beh wA) w4 W → segB W ⟨g0, 0, none⟩ 32 = true := fun W hW => ((HC.out.kept (hKA W hW)).seg).1
  have f2 : ∀ W, Upd (Beh wA) w4 W → segV W ⟨g0, 0, none⟩ 32 = dA d := fun W hW => ((HC.out.kept (hKA W hW)).seg).2
  have f3 : ∀ W, Upd (Beh wA) w4 W → W.cell? ⟨g0, 32, none⟩ = some (.int .i64 lv) := fun W hW => (HC.out.kept (hKA W hW)).c32
  have f4 : ∀ W, Upd (Beh wA) w4 W → W.cell? ⟨g0, 33, none⟩ = some (.int .i64 lf) := fun W hW => (HC.out.kept (hKA W hW)).c33
  have f5 : ∀ W, Upd (Beh wA) w4 W → W.cell? ⟨g0, 34, none⟩ = some (.slice XA m xc) := fun W hW => (HC.out.kept (hKA W hW)).c34
  have f6 : ∀ W, Upd (Beh wA) w4 W → W.cell? ⟨g0, 35, none⟩ = some (.slice PA n pc) := fun W hW => (HC.out.kept (hKA W hW)).c35
  clear hKA
  refine wp_region_ord [(1, true), (2, true), (3, true), (4, true), (5, true), (6, true), (7, true), (8, true), (9, true), (10, true), (0, false), (11, false), (12, true)] (by kernel_rfl) (by kernel_rfl) (Upd (Beh wA) w4) (Upd.refl _ _).drew ?_
  simp only [ordOps, List.getD_cons_zero, List.getD_cons_succ]
  iterate 10 (refine wpOrd_held (fun K hK => ?_); go_simp; first | (apply Exists.intro; refine ⟨fun W hW => ?_, hK _ ?_⟩; (go_simp; first | done | exact rfl); clear hK K) | (refine hK _ ?_; clear hK K))
  clear f1 f2 f3 f4 f5 f6
  have hS : Upd (Beh wA) w4 w4.drew := (Upd.refl _ _).drew
  replace HP2 := Lib.hid (HP2.out.kept (show Kept w4 w4.drew from (Upd.refl _ _).drew))
  generalize w4.drew = we at *
  refine wpOrd_step (fun K hK => ?_) hS
  go_simp
  refine (ref_New _).mono ?_
  rintro e w5 ⟨rfl, hr, hu⟩
  have hS5 : Upd (Beh wA) w4 w5 := hS.trans hu.to
  have hle : wA.heap.size ≤ we.heap.size := HP2.out.upd.size
  replace HP2 := Lib.hid (HP2.out.kept hu)
  obtain ⟨cc, hcc⟩ : ∃ cc, cc = we.heap.size := ⟨_, rfl⟩
  rw [← hcc] at hr hle ⊢
  have HR := Lib.hid (And.intro hr hle)
  refine hK _ _ hS5 ?_
  clear hK K hr hu hS hle hcc
  refine wpOrd_step (fun K hK => ?_) hS5
  go_simp
  have hfar : ∀ k, (k = cc ∨ (Value.slice none 0 0).ownBlock = some k) → wA.heap.size ≤ k := fun k e => by
    rcases e with rfl | e
    · exact HR.out.2
    · cases e
  have HG := ref_Check_Z HR.out.1 (Nat.le_of_lt HR.out.1.lt) (by simp) d lv lf xc (HA.out.1.kept HP2.out.upd) pc (P := P) (fun W v' hW => HA.out.2.2.1.kept (HP2.out.upd.then hW.1 (fun k hk e => by have := hfar k e; omega))) (by have := HA.out.2.2.2.2.1; rw [← HN.out.1]; omega) (P.map (·.2)) rfl
  rw [← HN.out.1, ← HN.out.2, ← HZZ.out] at HG
  refine HG.mono ?_
  clear HG
  rintro e w6 ⟨rfl, v6, n6, xs6, M6, -, ht6⟩
  have hS6 : Upd (Beh wA) w4 w6 := hS5.trans (ht6.1.mono fun k _ e => hfar k e)
  replace HP2 := Lib.hid (HP2.out.step ht6.1 HR.out.1.aloof hfar)
  refine hK _ _ hS6 ?_
  clear hK K ht6 hS5 hfar HR
  iterate 1 (refine wpOrd_held (fun K hK => ?_); go_simp; first | (apply Exists.intro; refine ⟨fun W hW => ?_, hK _ ?_⟩; (go_simp; first | done | exact rfl); clear hK K) | (refine hK _ ?_; clear hK K))
  refine wpOrd_nil ?_
  clear hS6
  have c34 := (HC.out.kept HP2.out.upd).c34
  go_wp2_with fail
  obtain ⟨A1', c1', he1, hcR, hbR⟩ := HP2.out.inb.form
  simp only [Value.slice.injEq] at he1
  obtain ⟨rfl, -, rfl⟩ := he1
  have HG := ref_EqBytes_same c1 xc hbR (HA.out.1.kept HP2.out.upd) (by rw [← HN.out.2]; exact HA.out.2.1)
  rw [← HN.out.2] at HG
  refine HG.mono ?_
  clear HG c34
  rintro e w7 ⟨rfl, hu⟩
  replace HP2 := Lib.hid (HP2.out.kept hu)
  clear hu hbR hcR
  have c35 := (HC.out.kept HP2.out.upd).c35
  go_wp2_with fail
  obtain ⟨A2', c2', l3, he2, hc3, hl3, hp3⟩ := HP2.out.prf.proofs
  simp only [Value.slice.injEq] at he2
  obtain ⟨rfl, -, rfl⟩ := he2
  have hll : l3.length = n := by have := congrArg List.length hl3; rw [List.length_map, List.length_map] at this; rw [HN.out.1]; exact this
  have HG := ref_Same10 c2 pc hp3.proof (HA.out.2.2.1.kept HP2.out.upd) hl3 (by rw [hll]; have := HA.out.2.2.2.2.1; omega) (fun p hp => by
    have h1 : p.2 ∈ P.map (·.2) := by rw [← hl3]; exact List.mem_map.2 ⟨p, hp, rfl⟩
    obtain ⟨p', hp', e'⟩ := List.mem_map.1 h1
    have := HA.out.2.2.2.2.2 p' hp'
    rw [← e']; omega)
  rw [hll, ← HN.out.1] at HG
  refine HG.mono ?_
  clear HG c35
  rintro e w8 ⟨rfl, hu⟩
  replace HP2 := Lib.hid (HP2.out.kept hu)
  clear hu hc3 hl3 hp3 hll
  go_wp2_with fail
  refine (law_works10 _).mono ?_
  rintro e w9 ⟨rfl, hu⟩
  have HF := Lib.hid (show Kept w w9 from HK0.out.then (HP2.out.upd.then hu (fun _ _ h => h)) (fun _ _ h => h))
  clear hu HP2
  go_wp2
  go_ret
  exact ⟨rfl, HF.out⟩
set_option maxRecDepth 100000 in
theorem ProofChecks_lifted (os : Os) (started : os.Started) (H : Type) (enc : TypeId × Value → H) :
    ReturnsInHanded {} Try.checked os 6 .any (Rows.proofChecksSpec.pre6 enc Try.prog Try.f6 Rows.proofChecksRow.domain false) (Rows.proofChecksSpec.post enc Try.prog Try.f6 false true false false) := by
  refine law_lifted os started Try.func6 (by kernel_rfl) rfl rfl (by kernel_rfl) ?_
    (ChangeSpec.witness6 (enc := enc) (C := Try.checked) false ⟨#[], #[.agg ((Array.replicate 32 (Value.int .u8 0)) ++ #[.int .i64 0,.int .i64 0,.slice none 0 0,.slice none 0 0])], []⟩ 8 (by kernel_rfl) (by kernel_rfl) (by kernel_rfl) (by kernel_rfl)) ?_
  · intro ds h
    rw [Try.params6] at h
    match ds, h with
    | [d0], _ => rfl
  · intro W base args ds ps hval hA hsz
    rw [Try.params6] at hA hval hsz
    obtain ⟨v0, vs0, d0, ds0, p0, q0, hargs, rfl, rfl, h0, r_0⟩ := trodAll_cons hA
    obtain ⟨rfl, rfl, rfl⟩ := trodAll_nil r_0
    obtain rfl : args = #[v0] := by cases args; simp_all
    obtain ⟨cs0, rfl, _⟩ := ok_agg (P := Try.prog) (t := 72) (by kernel_rfl) (hval 0 72 v0 rfl rfl)
    have r0 := ReadsAs.of_trod hsz (j := 0) rfl rfl h0
    obtain ⟨d, lv, lf, x, R, PA, pc, P, hcs1, _, _, hx, hRl, hP, hpc, _⟩ := open_claim r0
    obtain ⟨hPl, hPd⟩ := claim_lens r0 hcs1 hP
    obtain rfl : cs0 = clA d lv lf x ⟨PA, P.length, pc⟩ := Array.toList_inj.1 (by simpa [clA, Value.cells] using hcs1)
    exact ProofChecks_walk d lv lf x R PA pc P W hx hRl hP hpc hPl hPd

theorem ProofChecks_holds : Rows.ProofChecksSaid :=
  OpenClaim.holds_of_wide 6 Try.f6 rfl rfl rfl rfl rfl rfl rfl ⟨rfl, rfl, rfl, rfl, rfl⟩ rfl rfl rfl rfl rfl (by kernel_rfl) Try.func6 (by kernel_rfl)
    (of_decide_eq_true (by kernel_rfl)) (by unfold Func.isWrapper; first | (rw [if_pos (by decide +kernel)]; kernel_rfl) | (rw [if_neg (by decide +kernel)]; exact ⟨rfl, rfl⟩))
    (fun os started H enc _ => ProofChecks_lifted os started H enc)
end Go.Proofs.Ytnncpjekcljfbaa
