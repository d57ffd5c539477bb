/- Trees are as the chapter says, of all numbers of leaves and sets: the statement TreeSets holds, of all numbers and sets. -/
import Derived.Test.YtnncpjekcljfbaaSetK
namespace Go.Proofs.Ytnncpjekcljfbaa
open Go.ChangeShapes Go.WideShapes Go.ChangeAt Go.RowKit

attribute [local irreducible] wpOrd
theorem u8_add (x : UInt8) : IntKind.u8.wrap ((x.toNat : Int) + 1) = (((x + 1).toNat : Nat) : Int) := by
  rw [IntKind.wrap_u8, UInt8.toNat_add]
  have : (1 : UInt8).toNat = 1 := rfl
  rw [this]
  omega
set_option maxHeartbeats 4000000 in
set_option maxRecDepth 20000 in
theorem TreeSets_walk (a : Int) (A : Option Addr) (c0 : Nat) (l : List (Int × SlC × Bytes)) (w : World) (ha : (Lit.int .i64 a).wf = true) (hl : SetsAt w A l) (hlm : l.length ≤ 140737488351232) :
    Calls Try.prog 3 #[.int .i64 a, .slice A l.length c0] w fun e w' => e = .returned (.bool true) ∧ Kept w w' := by
  have hnot : ∀ (x : Bool) (w : World), (Op.unary .not (.bool x)).run Try.prog w = .ok (.bool (!x)) w := fun _ _ => rfl
  have HA := Lib.hid (And.intro hl (And.intro hlm ha))
  clear hl hlm ha
  obtain ⟨ln, hln⟩ : ∃ ln, ln = l.length := ⟨_, rfl⟩
  rw [← hln]
  have HLN := Lib.hid hln
  clear hln
  go_enter Try.func3, Try.ntmps3
  go_wp2_with fail
  refine (law_book _).mono ?_
  rintro e w1 ⟨b, r, q, rfl, hI⟩
  have HI := Lib.hid hI
  clear hI
  go_wp2_with fail
  refine (ref_New _).mono ?_
  rintro e w2 ⟨rfl, hr, hu⟩
  obtain ⟨c, hc⟩ : ∃ c, c = w1.heap.size := ⟨_, rfl⟩
  rw [← hc] at hr ⊢
  have HI2 := Lib.hid (And.intro (HI.out.kept hu) (And.intro hr (show w.heap.size ≤ c by rw [hc]; exact HI.out.upd.size)))
  clear hr hu hc HI
  by_cases h60 : 60 < a
  · have hd : decide (60 < a) = true := decide_eq_true h60
    by_cases h1024 : a ≤ 1024
    · obtain ⟨n, rfl⟩ : ∃ n : Nat, a = n := ⟨a.toNat, by omega⟩
      have hd2 : decide ((n : Int) ≤ 1024) = true := decide_eq_true h1024
      have hd2n : decide (n ≤ 1024) = true := decide_eq_true (by omega)
      have HG := tree_New HI2.out.1.book n (by omega) (by omega)
      clear h60 h1024
      go_wp2_with fail
      refine HG.mono ?_
      clear HG
      rintro e w3 ⟨t, rfl, -, -, hb, hu⟩
      have HF := Lib.hid (HI2.out.1.to hb hu).upd
      clear hb hu HI2
      go_wp2_with fail
      refine (law_works _).mono ?_
      rintro e w4 ⟨rfl, hu⟩
      replace HF := Lib.hid (HF.out.then hu (fun _ _ h => h))
      clear hu
      go_wp2
      go_ret
      exact ⟨rfl, HF.out⟩
    · have hd2 : decide (a ≤ 1024) = false := decide_eq_false h1024
      have HG := tree_New_bad (w := w2) (p := some ⟨b, 0, none⟩) a (.inr (by omega))
      clear h60 h1024
      go_wp2_with fail
      refine HG.mono ?_
      clear HG
      rintro e w3 ⟨rfl, hu⟩
      have HF := Lib.hid (HI2.out.1.upd.then hu (fun _ _ h => h))
      clear hu HI2
      go_wp2_with fail
      refine (law_works _).mono ?_
      rintro e w4 ⟨rfl, hu⟩
      replace HF := Lib.hid (HF.out.then hu (fun _ _ h => h))
      clear hu
      go_wp2
      go_ret
      exact ⟨rfl, HF.out⟩
  · have hd : decide (60 < a) = false := decide_eq_false h60
    by_cases h1 : a < 1
    · have HG := tree_New_bad (w := w2) (p := some ⟨b, 0, none⟩) a (.inl h1)
      have HG2 := fun W => ref_TNew_bad (w := W) (p := some ⟨c, 0, none⟩) a (.inl h1)
      clear h60 h1
      go_wp2_with fail
      refine HG.mono ?_
      clear HG
      rintro e w3 ⟨rfl, hu⟩
      have HF := Lib.hid (HI2.out.1.upd.then hu (fun _ _ h => h))
      clear hu HI2
      go_wp2_with fail
      refine (HG2 _).mono ?_
      clear HG2
      rintro e W ⟨rfl, rfl⟩
      go_wp2_with fail
      refine (law_works _).mono ?_
      rintro e w4 ⟨rfl, hu⟩
      replace HF := Lib.hid (HF.out.then hu (fun _ _ h => h))
      clear hu
      go_wp2
      go_ret
      exact ⟨rfl, HF.out⟩
    · obtain ⟨n, rfl⟩ : ∃ n : Nat, a = n := ⟨a.toNat, by omega⟩
      have HN := Lib.hid (show 1 ≤ n ∧ n ≤ 60 by omega)
      have hdn : decide (60 < n) = false := decide_eq_false (by omega)
      clear h60 h1
      go_wp2_with fail
      clear hd hdn
      refine (half_New HI2.out.1 HI2.out.2.1 HI2.out.2.2 n HN.out.1 (by have := HN.out; omega)).mono ?_
      rintro e w3 ⟨t, rfl, lo, hi, hH⟩
      have HH := Lib.hid hH
      clear hH HI2
      go_wp2_with fail
      refine (pair_New HH.out n HN.out.1 (by have := HN.out; omega)).mono ?_
      rintro e w4 ⟨u, rfl, B, v, n0, xs, gl, li, hP, hli⟩
      have HD := Lib.hid (show ∃ Rs L v n0 xs M li, Duo w w4 b r q lo hi t L B u c v n0 xs M gl n li Rs ∧ M.length ≤ 200 from by
        refine ⟨List.replicate n [], _, v, n0, xs, _, li, ⟨by rw [List.map_replicate]; exact hP, hli, fun x => ?_, notesM_nodup (notesM_nodup List.nodup_nil)⟩, ?_⟩
        · have hn1 := HN.out.1
          constructor
          · intro hx
            rcases mem_notesM.1 hx with h1 | h1
            · rcases mem_noteM.1 h1 with h2 | h2
              · simp at h2
              · exact mem_notesM.2 (.inl (mem_notesM.2 (.inr (List.mem_replicate.2 ⟨by omega, h2⟩))))
            · exact mem_notesM.2 (.inr h1)
          · intro hx
            rcases mem_notesM.1 hx with h1 | h1
            · rcases mem_notesM.1 h1 with h2 | h2
              · simp at h2
              · exact mem_notesM.2 (.inl (mem_noteM.2 (.inr (List.mem_replicate.1 h2).2)))
            · exact mem_notesM.2 (.inr h1)
        · have h1 := notesM_length (notesM [] (List.replicate n (leafIn []))) (insM shaM (List.replicate n (leafM shaM [])))
          have h2 := notesM_length [] (List.replicate n (leafIn []))
          have h3 := insM_length _ (List.replicate n (leafM shaM [])) rfl
          rw [List.length_replicate] at h2 h3
          have := HN.out
          simp at h2
          omega)
      clear hP hli HH
      go_wp2_with fail
      go_loopw [13] (fun u1 wr => ∃ (k : Nat) (Rs : List Bytes) (L : List Bytes) (v : Value) (n0 : Int) (xs : List SlC) (M : List Bytes) (li : List (SlC × Bytes)), k ≤ ln ∧ k ≤ 30 ∧ u1 = .int .i64 k ∧ Duo w wr b r q lo hi t L B u c v n0 xs M gl n li Rs ∧ M.length ≤ 200 + 200 * k) (fun u1 _ => 2000 - (intOf u1).toNat)
      case atStart =>
        obtain ⟨Rs, L, v, n0, xs, M, li, h1, h2⟩ := HD.out
        exact ⟨0, Rs, L, v, n0, xs, M, li, Nat.zero_le _, Nat.zero_le _, rfl, h1, h2⟩
      case round =>
        clear HD v n0 xs li
        obtain ⟨k, Rs, L, v, n0, xs, M, li, hkl, hk30, rfl, hD, hM⟩ := hrel
        have hcase : (k < ln ∧ k < 30) ∨ (k < ln ∧ ¬ k < 30) ∨ ¬ k < ln := by omega
        rcases hcase with ⟨hlt, hlt30⟩ | hend
        · have hk1 : (k : Int) < (ln : Int) := by omega
          have hk2 : (k : Int) < 30 := by omega
          have hkL : k < l.length := by rw [← HLN.out]; exact hlt
          obtain ⟨bl, ol, hA, hc1, hc2, hlf, hwf, hRl⟩ := HA.out.1 k hkL
          obtain ⟨A1, k1, hx1, hcap, hby⟩ := hlf.form
          rw [hx1, SlC.v_eq] at hc2
          subst hA
          generalize l[k].1 = at1 at *
          generalize l[k].2.2 = R at *
          have f1 : ∀ W, Kept w W → W.cell? ⟨bl, ol + k * 2, none⟩ = some (.int .i64 at1) := fun W hW => hW.cell hc1 id
          have f2 : ∀ W, Kept w W → W.cell? ⟨bl, ol + k * 2 + 1, none⟩ = some (.slice A1 R.length k1) := fun W hW => hW.cell hc2 id
          have p2 := f2 wr hD.pair.ink.upd
          have HQ := Lib.hid (And.intro hD (And.intro hM (And.intro hlt (And.intro hlt30 (And.intro hby hRl)))))
          replace f1 := Lib.hid f1
          replace f2 := Lib.hid f2
          clear hD hM hlt hlt30 hkl hk30 hkL hc1 hc2 hlf hx1 hcap hby hRl hwf
          go_wp2_with fail
          refine (ref_CopyBytes k1 (HQ.out.2.2.2.2.1.kept HQ.out.1.pair.ink.upd) HQ.out.2.2.2.2.2).mono ?_
          clear p2
          rintro e w5 ⟨vi, rfl, hoi, hu⟩
          obtain ⟨Ai, ki, rfl, -, -⟩ := hoi.form
          have H5 := Lib.hid (And.intro (HQ.out.1.kept hu) (And.intro hoi (And.intro (show hi ≤ wr.heap.size from HQ.out.1.pair.tree.sz) (show w.heap.size ≤ wr.heap.size from HQ.out.1.pair.ink.upd.size))))
          have HNB := Lib.hid (show ∀ g, (Value.slice Ai R.length ki).ownBlock = some g → NoB xs li g ∧ hi ≤ g ∧ w.heap.size ≤ g ∧ g < w5.heap.size from fun g e => by
            have h1 := (hoi.far g e).1
            have h2 := (hoi.far g e).2
            have h3 : hi ≤ wr.heap.size := HQ.out.1.pair.tree.sz
            have h4 : w.heap.size ≤ wr.heap.size := HQ.out.1.pair.ink.upd.size
            exact ⟨HQ.out.1.pair.rt.noNew h1, by omega, by omega, h2⟩)
          clear hoi hu
          go_wp2_with fail
          replace f1 := f1.out
          replace f2 := f2.out
          refine wp_region_ord [(0, true), (1, true), (2, true), (3, true), (4, true), (5, true), (6, true), (8, true), (9, true), (10, true), (11, true), (12, true), (13, true), (14, true), (15, true), (16, true), (17, true), (18, true), (7, false), (19, false), (20, true), (21, true), (22, true), (23, true), (24, true), (25, true), (26, true), (27, true), (28, false), (29, true), (30, true)] (by kernel_rfl) (by kernel_rfl) (Kept w) (H5.out.1.kept (Upd.refl _ _).drew).pair.ink.upd ?_
          simp only [ordOps, List.getD_cons_zero, List.getD_cons_succ]
          iterate 18 (refine wpOrd_held (fun K hK => ?_); go_simp; first | (apply Exists.intro; refine ⟨fun W hW => ?_, hK _ ?_⟩; (go_simp; first | done | exact rfl); clear hK K) | (refine hK _ ?_; clear hK K))
          have hkd : Kept w5 w5.drew := (Upd.refl _ _).drew
          have hS6 : Kept w w5.drew := (H5.out.1.kept hkd).pair.ink.upd
          have H6 := Lib.hid (And.intro (H5.out.1.kept hkd) (And.intro (H5.out.2.1.kept hkd) (And.intro H5.out.2.2.1 (And.intro H5.out.2.2.2 hkd.size))))
          clear hkd H5
          generalize w5.drew = w6 at *
          refine wpOrd_step (fun K hK => ?_) hS6
          go_simp
          obtain ⟨Ai', ki', he1, -, hbi⟩ := H6.out.2.1.form
          simp only [Value.slice.injEq] at he1
          obtain ⟨rfl, -, rfl⟩ := he1
          obtain ⟨zz, hzz⟩ : ∃ zz, zz = setE n at1 R := ⟨_, rfl⟩
          have HG := pair_TSet_Z H6.out.1.pair (by rw [List.length_map, H6.out.1.lenR]) ki hbi at1
          rw [← hzz] at HG
          refine HG.mono ?_
          clear HG
          rintro e w7 ⟨rfl, L', D', hP7, hu7, hs1, hs2⟩
          have hS7 : Kept w w7 := hP7.ink.upd
          have ho7 : OwnB w7 wr.heap.size (.slice Ai R.length ki) R := H6.out.2.1.upd hu7 (fun g e e2 => by
            obtain ⟨cur, hcg⟩ := H6.out.2.1.block e
            rcases e2 with e2 | e2
            · exact H6.out.1.pair.ink.book.not hcg (by decide) e2
            · have := (HNB.out g e).2.1; omega)
          have H7 := Lib.hid (And.intro hP7 (And.intro ho7 (And.intro hs1 (And.intro hs2 (Nat.le_trans H6.out.2.2.2.2 hu7.size)))))
          refine hK _ _ hS7 ?_
          clear hK K hS6 hbi hP7 hu7 hs1 hs2 ho7
          refine wpOrd_step (fun K hK => ?_) hS7
          go_simp
          have HG := pair_USet_Z H7.out.1 (by have := HQ.out.2.1; have := HQ.out.2.2.2.1; omega) k1 (HQ.out.2.2.2.2.1.kept hS7) at1
          rw [← hzz] at HG
          refine HG.mono ?_
          clear HG
          rintro e w8 ⟨rfl, v8, n8, xs8, M8, li8, hP8, ht8, hn8, hs3, hs4⟩
          have hS8 : Kept w w8 := hP8.ink.upd
          have ho8 : OwnB w8 wr.heap.size (.slice Ai R.length ki) R := H7.out.2.1.aloof ht8.1 H7.out.1.aloof
          obtain ⟨Rs8, hD8, hM8⟩ := duo_step H6.out.1 hP8 H7.out.2.2.1 H7.out.2.2.2.1 hs3 hs4
          have hnb8 : ∀ g, (Value.slice Ai R.length ki).ownBlock = some g → NoB xs8 li8 g ∧ hi ≤ g ∧ w.heap.size ≤ g := fun g e => by
            obtain ⟨h1, h2, h3, h4⟩ := HNB.out g e
            exact ⟨hn8 g (Nat.lt_of_lt_of_le h4 H7.out.2.2.2.2) h1, h2, h3⟩
          have H8 := Lib.hid (And.intro hD8 (And.intro ho8 (And.intro hM8 hnb8)))
          refine hK _ _ hS8 ?_
          clear hK K hS7 hP8 ht8 hn8 hs3 hs4 ho8 hD8 hM8 hnb8 H7 H6 HNB
          iterate 8 (refine wpOrd_held (fun K hK => ?_); go_simp; first | (apply Exists.intro; refine ⟨fun W hW => ?_, hK _ ?_⟩; (go_simp; first | done | exact rfl); clear hK K) | (refine hK _ ?_; clear hK K))
          refine wpOrd_step (fun K hK => ?_) hS8
          go_simp
          obtain ⟨Ai', ki', he1, -, hbi⟩ := H8.out.2.1.form
          simp only [Value.slice.injEq] at he1
          obtain ⟨rfl, -, rfl⟩ := he1
          have HG := ref_EqBytes_same ki k1 hbi (HQ.out.2.2.2.2.1.kept hS8) HQ.out.2.2.2.2.2
          refine HG.mono ?_
          clear HG
          rintro e w9 ⟨rfl, hu⟩
          have hS9 : Kept w w9 := hS8.then hu (fun _ _ h => h)
          have H9 := Lib.hid (And.intro (H8.out.1.kept hu) (And.intro (H8.out.2.1.kept hu) H8.out.2.2))
          refine hK _ _ hS9 ?_
          clear hK K hS8 hu hbi H8
          iterate 2 (refine wpOrd_held (fun K hK => ?_); go_simp; first | (apply Exists.intro; refine ⟨fun W hW => ?_, hK _ ?_⟩; (go_simp; first | done | exact rfl); clear hK K) | (refine hK _ ?_; clear hK K))
          refine wpOrd_nil ?_
          clear hS9 f1 f2 hzz
          obtain ⟨m, hm⟩ : ∃ m, m = R.length := ⟨_, rfl⟩
          rw [← hm] at H9 ⊢
          have HM := Lib.hid (And.intro hm (show m ≤ 140737488351232 by rw [hm]; exact HQ.out.2.2.2.2.2))
          clear hm
          go_wp2_with fail
          obtain ⟨wo, rfl⟩ : ∃ wo : World, wo = wr := ⟨_, rfl⟩
          go_loopw [15] (fun u1 wr2 => ∃ (j : Nat) (Rm : Bytes), j ≤ m ∧ u1 = .int .i64 j ∧ Rm.length = m ∧ OwnB wr2 wo.heap.size (.slice Ai m ki) Rm ∧ Duo w wr2 b r q lo hi t L' B u c v8 n8 xs8 M8 gl n li8 Rs8) (fun u1 _ => 140737488360000 - (intOf u1).toNat)
          case atStart => exact ⟨0, R, Nat.zero_le _, rfl, HM.out.1.symm, H9.out.2.1, H9.out.1⟩
          case round =>
            obtain ⟨j, Rm, hj, rfl, hml, hom, hDm⟩ := hrel
            rcases Nat.lt_or_ge j m with hlt | hge
            · have hj1 : (j : Int) < (m : Int) := by omega
              have hj5 : (j : Int) ≤ 140737488351232 := by have := HM.out.2; omega
              have hjR : j < Rm.length := by omega
              obtain ⟨g, cg, vs, hv, hgB, hblk, hcell, hfz, hset⟩ := own_setByte hom hjR (Rm[j] + 1)
              simp only [Value.slice.injEq] at hv
              obtain ⟨rfl, -, rfl⟩ := hv
              have hw8 := u8_add Rm[j]
              obtain ⟨hn1, hn2, hn3⟩ := H9.out.2.2.2 g rfl
              have hD2 := hDm.mut hblk hn1 hn2 hn3 ((Upd.refl (fun k => k = g) wr).setCell (p := ⟨g, j, none⟩) (.int .u8 ((Rm[j] + 1).toNat : Int)) fun _ => rfl)
              have hls : (Rm.set j (Rm[j] + 1)).length = m := by rw [List.length_set]; exact hml
              generalize Rm.set j (Rm[j] + 1) = Rm2 at *
              generalize hy : Rm[j] + 1 = y at *
              generalize Rm[j] = x at *
              have HF := Lib.hid (And.intro hset (And.intro hD2 (And.intro hls hlt)))
              clear hset hD2 hls hml hom hDm hblk hgB hn1 hn2 hn3 hjR hj hlt hy
              go_wp2_with fail
              go_roundw
              case rel => exact ⟨j + 1, Rm2, by have := HF.out; omega, by show _ = _; go_num, HF.out.2.2.1, HF.out.1, HF.out.2.1⟩
              case measure => have := HF.out.2.2.2; have := HM.out.2; simp [intOf]; omega
            · obtain rfl : j = m := by omega
              have hj1 : ¬ ((j : Int) < (j : Int)) := by omega
              have HF := Lib.hid hDm
              clear hml hom hDm hge hj
              go_wp2_with fail
              go_roundw
              case rel => exact ⟨k + 1, Rs8, L', v8, n8, xs8, M8, li8, by have := HQ.out; omega, by have := HQ.out; omega, by show _ = _; go_num, HF.out, by have := H9.out.2.2.1; have := HQ.out.2.1; have := HN.out; omega⟩
              case measure => have := HQ.out.2.2.2.1; simp [intOf]; omega
        · rcases hend with ⟨h1, h2⟩ | h1
          · have hk1 : (k : Int) < (ln : Int) := by omega
            have hk2 : ¬ ((k : Int) < 30) := by omega
            have hk5 : (k : Int) ≤ 30 := by omega
            have HD := Lib.hid (And.intro hD (show M.length ≤ 6200 by omega))
            clear hD hM h1 h2 hkl hk30
            go_wp2_with fail
            clear hk1 hk5
            go_loopw [16] (fun u1 wr => ∃ (j : Nat) (v : Value) (n0 : Int) (xs : List SlC), j ≤ 6 ∧ u1 = .int .i64 ((j : Int) - 1) ∧ Duo w wr b r q lo hi t L B u c v n0 xs M gl n li Rs) (fun u1 _ => 2000 - (intOf u1 + 5).toNat)
            case atStart => exact ⟨0, v, n0, xs, Nat.zero_le _, rfl, HD.out.1⟩
            case round =>
              have HML := Lib.hid HD.out.2
              clear HD v n0 xs
              obtain ⟨j, v, n0, xs, hj, rfl, hD⟩ := hrel
              obtain ⟨x, hx⟩ : ∃ x : Int, x = (j : Int) - 1 := ⟨_, rfl⟩
              rw [← hx]
              obtain ⟨D, hDe⟩ : ∃ D, D = Rs.map (leafM shaM) := ⟨_, rfl⟩
              have hDl : D.length ≤ 1024 := by rw [hDe, List.length_map, hD.lenR]; exact hD.pair.rt.n2
              have HX := Lib.hid (And.intro hx (And.intro hDe (And.intro hDl hj)))
              by_cases hlt : j < 6
              · have hx1 : x ≤ 4 := by omega
                have hx2 : -1 ≤ x := by omega
                have HJ := Lib.hid hlt
                have HD := Lib.hid hD
                clear hx hDe hDl hj hlt hD
                go_wp2_with fail
                have HG := tree_Level_Z (D := D) (by have := HD.out.pair.tree; rw [← HX.out.2.1] at this; exact this) HX.out.2.2.1 x
                obtain ⟨Q, hQ⟩ : ∃ Q, Q = levP D x := ⟨_, rfl⟩
                obtain ⟨E1, hE1⟩ : ∃ E1, E1 = levE D x := ⟨_, rfl⟩
                have HQE := Lib.hid (And.intro hQ (And.intro hE1 (show Q.length ≤ 1024 by rw [hQ]; exact Nat.le_trans (levP_le _ _) HX.out.2.2.1)))
                rw [← hQ, ← hE1] at HG
                clear hQ hE1
                refine HG.mono ?_
                clear HG
                rintro e wb ⟨vx, rfl, hvx, hu⟩
                have H2 := Lib.hid (And.intro (HD.out.kept hu) (And.intro hvx (show hi ≤ wr.heap.size ∧ w.heap.size ≤ wr.heap.size from ⟨HD.out.pair.tree.sz, HD.out.pair.ink.upd.size⟩)))
                clear hvx hu HD
                go_wp2_with fail
                have HG := ref_TLevel_Z H2.out.1.pair.rt (by have := HML.out; omega) (D := D) (by rw [H2.out.1.leafD, HX.out.2.1]) x
                rw [← HQE.out.1, ← HQE.out.2.1] at HG
                refine HG.mono ?_
                clear HG
                rintro e wd ⟨vy, rfl, hvy, v3, n3, xs3, hr3, ht3⟩
                have hvx3 : OwnD wd wr.heap.size vx Q := OwnRows.upd H2.out.2.1 ht3.1 (fun g e => by obtain ⟨cur, hc⟩ := own_cells H2.out.2.1 e; exact H2.out.1.pair.rt.book.far hc (by decide) (by decide))
                have H3 := Lib.hid (And.intro (H2.out.1.read hr3 ht3) (And.intro hvx3 H2.out.2.2))
                obtain ⟨Ax, kx, rfl, -, hdx⟩ := hvx3.digs
                obtain ⟨Ay, ky, rfl, -, hdy⟩ := hvy.digs
                have HG := ref_Same9 kx ky hdx hdy (by have := HQE.out.2.2; omega)
                obtain ⟨qn, hqn⟩ : ∃ qn, qn = Q.length := ⟨_, rfl⟩
                rw [← hqn] at H3 HG ⊢
                have HQN := Lib.hid hqn
                have hqb : (qn : Int) ≤ 1024 := by have := HQE.out.2.2; omega
                clear hqn hvx3 hvy hr3 ht3 hdx hdy H2
                go_wp2_with fail
                refine HG.mono ?_
                clear HG
                rintro e we ⟨rfl, hu⟩
                have H4 := Lib.hid (And.intro (H3.out.1.kept hu) (And.intro (OwnRows.upd H3.out.2.1 hu (fun _ _ h => h)) H3.out.2.2))
                clear hu H3
                go_wp2_with fail
                obtain ⟨wo, rfl⟩ : ∃ wo : World, wo = wr := ⟨_, rfl⟩
                go_loopw [21] (fun u1 wr => ∃ (i : Nat) (Q' : List Dig), i ≤ qn ∧ u1 = .int .i64 i ∧ Q'.length = qn ∧ OwnD wr wo.heap.size (.slice Ax qn kx) Q' ∧ Duo w wr b r q lo hi t L B u c v3 n3 xs3 M gl n li Rs) (fun u1 _ => 2000 - (intOf u1).toNat)
                case atStart => exact ⟨0, Q, Nat.zero_le _, rfl, HQN.out.symm, H4.out.2.1, H4.out.1⟩
                case round =>
                  obtain ⟨i, Q', hi', rfl, hQl, hp, hD⟩ := hrel
                  rcases Nat.lt_or_ge i qn with hlt | hge
                  · have hi1 : (i : Int) < (qn : Int) := by omega
                    obtain ⟨g, cp, hv, hg1, hg2⟩ := World.ownsRow.form hp (by omega)
                    simp only [Value.slice.injEq] at hv
                    obtain ⟨rfl, -, rfl⟩ := hv
                    obtain ⟨g', cur, e1, e2, e3, e4⟩ := OwnRows.turn dA_size (by omega) hp (k := i) (by omega) dig0
                    obtain rfl : g = g' := Option.some.inj e1
                    have hst := run_storeMid (P := Try.prog) e2 46 32 (i * 32) sizeOf46 (dA dig0) (dA_size dig0) e3 (dA_one dig0)
                    have hgl := (World.ownsRow.lt hp g rfl).1
                    obtain ⟨z1, z2⟩ := H4.out.2.2
                    have HF := Lib.hid (And.intro e4 (And.intro (hD.dig e2 (by omega) (by omega) ((Upd.refl (fun k => k = g) wr).setRow g (splice cur (i * 32) (dA dig0).toList).toArray fun _ => rfl)) (And.intro hQl hlt)))
                    clear hp hD e1 e2 e3 e4 hgl z1 z2 hlt hQl hi' hg1 hg2
                    go_wp2_with fail
                    go_roundw
                    case rel => exact ⟨i + 1, _, by have := HF.out; omega, by show _ = _; go_num, by rw [List.length_set]; exact HF.out.2.2.1, HF.out.1, HF.out.2.1⟩
                    case measure => have := HF.out.2.2.2; simp [intOf]; omega
                  · obtain rfl : i = qn := by omega
                    have hi1 : ¬ ((i : Int) < (i : Int)) := by omega
                    have HF := Lib.hid hD
                    clear hp hD hQl hge hi'
                    go_wp2_with fail
                    go_roundw
                    case rel => exact ⟨j + 1, v3, n3, xs3, by have := HJ.out; omega, by have := HX.out.1; show _ = _; rw [HX.out.1]; go_num, HF.out⟩
                    case measure => have := HX.out.1; have := HJ.out; simp [intOf]; omega
              · have hx1 : ¬ (x ≤ 4) := by omega
                have hx2 : x ≤ 5 := by omega
                have HD := Lib.hid hD
                clear hx hDe hDl hj hlt hD
                go_wp2_with fail
                have HG := tree_Root HD.out.pair.tree
                obtain ⟨rt, hrt⟩ : ∃ rt, rt = rootM shaM (Rs.map (leafM shaM)) := ⟨_, rfl⟩
                rw [← hrt] at HG
                have HRT := Lib.hid hrt
                clear hrt
                refine HG.mono ?_
                clear HG
                rintro e wb ⟨rfl, hu⟩
                have hd5 : Blk (wb.alloc (.cells (dA rt) 46)) wb.heap.size 46 (encB (rt).1) := Blk.new wb _ _
                have hk5 : Kept wb (wb.alloc (.cells (dA rt) 46)) := (Upd.refl _ wb).alloc _
                have H5 := Lib.hid (And.intro ((HD.out.kept hu).kept hk5) hd5)
                clear hd5 hk5 hu HD
                go_wp2_with fail
                obtain ⟨gr, hgr⟩ : ∃ gr, gr = wb.heap.size := ⟨_, rfl⟩
                rw [← hgr] at H5 ⊢
                clear hgr
                generalize wb.alloc (.cells (dA rt) 46) = wc at *
                have f1 : ∀ W, Upd (fun k => k ≠ gr) wc W → segB W ⟨gr, 0, none⟩ 32 = true := fun W hW => (dig_at (H5.out.2.upd hW (fun h => h rfl))).1
                have f2 : ∀ W, Upd (fun k => k ≠ gr) wc W → segV W ⟨gr, 0, none⟩ 32 = dA rt := fun W hW => (dig_at (H5.out.2.upd hW (fun h => h rfl))).2
                refine wp_region_ord [(0, true), (1, true), (2, true), (3, true), (4, true), (5, false), (6, true), (7, true), (8, true), (9, true), (11, true), (10, false), (12, false), (13, true), (14, true), (15, true), (16, true), (18, true), (17, false), (19, false), (20, true), (21, true), (22, true), (23, true), (25, true), (24, false), (26, false), (27, true), (28, true), (29, true), (30, false), (31, true), (32, true)] (by kernel_rfl) (by kernel_rfl) (Upd (fun k => k ≠ gr) wc) (Upd.refl _ _).drew ?_
                simp only [ordOps, List.getD_cons_zero, List.getD_cons_succ]
                iterate 5 (refine wpOrd_held (fun K hK => ?_); go_simp; first | (apply Exists.intro; refine ⟨fun W hW => ?_, hK _ ?_⟩; (go_simp; first | done | exact rfl); clear hK K) | (refine hK _ ?_; clear hK K))
                have hS : Upd (fun k => k ≠ gr) wc wc.drew := (Upd.refl _ _).drew
                have hkd : Kept wc wc.drew := (Upd.refl _ _).drew
                have H6 := Lib.hid (And.intro (H5.out.1.kept hkd) (H5.out.2.kept hkd))
                clear hkd H5
                generalize wc.drew = wd at *
                refine wpOrd_step (fun K hK => ?_) hS
                go_simp
                have HG := ref_TRoot H6.out.1.pair.rt (by have := HML.out; omega)
                rw [H6.out.1.leafD, ← HRT.out] at HG
                refine HG.mono ?_
                clear HG
                rintro e we ⟨rfl, v2, n2, xs2, hr2, ht2⟩
                have hf2 := H6.out.1.pair.rt.book.far H6.out.2 (by decide) (by decide)
                have hS2 : Upd (fun k => k ≠ gr) wc we := hS.trans (ht2.1.mono fun k _ e e2 => hf2 (by rw [← e2]; exact e))
                have H7 := Lib.hid (And.intro (H6.out.1.read hr2 ht2) (H6.out.2.upd ht2.1 hf2))
                refine hK _ _ hS2 ?_
                clear hK K hS hr2 ht2 hf2 H6
                iterate 5 (refine wpOrd_held (fun K hK => ?_); go_simp; first | (apply Exists.intro; refine ⟨fun W hW => ?_, hK _ ?_⟩; (go_simp; first | done | exact rfl); clear hK K) | (refine hK _ ?_; clear hK K))
                refine wpOrd_step (fun K hK => ?_) hS2
                go_simp
                have HG := tree_Depth H7.out.1.pair.tree
                rw [List.length_map, H7.out.1.lenR] at HG
                refine HG.mono ?_
                clear HG
                rintro e W ⟨rfl, rfl⟩
                refine hK _ _ hS2 ?_
                clear hK K
                refine wpOrd_step (fun K hK => ?_) hS2
                go_simp
                refine (ref_TDepth H7.out.1.pair.rt (by have := HML.out; omega)).mono ?_
                rintro e wf ⟨rfl, v4, n4, xs4, hr4, ht4⟩
                have hf4 := H7.out.1.pair.rt.book.far H7.out.2 (by decide) (by decide)
                have hS4 : Upd (fun k => k ≠ gr) wc wf := hS2.trans (ht4.1.mono fun k _ e e2 => hf4 (by rw [← e2]; exact e))
                have H8 := Lib.hid (H7.out.1.read hr4 ht4)
                refine hK _ _ hS4 ?_
                clear hK K hS2 hr4 ht4 hf4 H7
                generalize depthM n = dn at *
                iterate 5 (refine wpOrd_held (fun K hK => ?_); go_simp; first | (apply Exists.intro; refine ⟨fun W hW => ?_, hK _ ?_⟩; (go_simp; first | done | exact rfl); clear hK K) | (refine hK _ ?_; clear hK K))
                refine wpOrd_step (fun K hK => ?_) hS4
                go_simp
                have HG := tree_Leaves H8.out.pair.tree
                rw [List.length_map, H8.out.lenR] at HG
                refine HG.mono ?_
                clear HG
                rintro e W ⟨rfl, rfl⟩
                refine hK _ _ hS4 ?_
                clear hK K
                refine wpOrd_step (fun K hK => ?_) hS4
                go_simp
                refine (ref_TLeaves H8.out.pair.rt).mono ?_
                rintro e W ⟨rfl, rfl⟩
                refine hK _ _ hS4 ?_
                clear hK K
                iterate 5 (refine wpOrd_held (fun K hK => ?_); go_simp; first | (apply Exists.intro; refine ⟨fun W hW => ?_, hK _ ?_⟩; (go_simp; first | done | exact rfl); clear hK K) | (refine hK _ ?_; clear hK K))
                refine wpOrd_step (fun K hK => ?_) hS4
                go_simp
                obtain ⟨Ib, Nb, mb, hbk⟩ := H8.out.pair.ink.book
                have HG := ink_Len hbk
                rw [H8.out.count, show IntKind.i64.wrap (M.length : Int) = (M.length : Int) by rw [IntKind.wrap_i64]; have := HML.out; omega] at HG
                refine HG.mono ?_
                clear HG hbk
                rintro e wg ⟨rfl, hu⟩
                have hS5 : Upd (fun k => k ≠ gr) wc wg := hS4.trans hu.to
                have H9 := Lib.hid (H8.out.kept hu)
                refine hK _ _ hS5 ?_
                clear hK K hS4 hu H8
                refine wpOrd_step (fun K hK => ?_) hS5
                go_simp
                refine (ref_Len H9.out.pair.rt.book).mono ?_
                rintro e W ⟨rfl, rfl⟩
                refine hK _ _ hS5 ?_
                clear hK K
                generalize M.length = mn at *
                iterate 3 (refine wpOrd_held (fun K hK => ?_); go_simp; first | (apply Exists.intro; refine ⟨fun W hW => ?_, hK _ ?_⟩; (go_simp; first | done | exact rfl); clear hK K) | (refine hK _ ?_; clear hK K))
                refine wpOrd_step (fun K hK => ?_) hS5
                go_simp
                refine (law_works _).mono ?_
                rintro e wh ⟨rfl, hu⟩
                have hS6 : Upd (fun k => k ≠ gr) wc wh := hS5.trans hu.to
                have HF := Lib.hid (H9.out.kept hu).pair.ink.upd
                refine hK _ _ hS6 ?_
                clear hK K hS5 hu H9
                iterate 2 (refine wpOrd_held (fun K hK => ?_); go_simp; first | (apply Exists.intro; refine ⟨fun W hW => ?_, hK _ ?_⟩; (go_simp; first | done | exact rfl); clear hK K) | (refine hK _ ?_; clear hK K))
                refine wpOrd_nil ?_
                clear f1 f2 hS6
                go_wp2
                go_ret
                exact ⟨rfl, HF.out⟩
          · have hk1 : ¬ ((k : Int) < (ln : Int)) := by omega
            have hk5 : (k : Int) ≤ 30 := by omega
            have HD := Lib.hid (And.intro hD (show M.length ≤ 6200 by omega))
            clear hD hM h1 hkl hk30
            go_wp2_with fail
            clear hk1 hk5
            go_loopw [16] (fun u1 wr => ∃ (j : Nat) (v : Value) (n0 : Int) (xs : List SlC), j ≤ 6 ∧ u1 = .int .i64 ((j : Int) - 1) ∧ Duo w wr b r q lo hi t L B u c v n0 xs M gl n li Rs) (fun u1 _ => 2000 - (intOf u1 + 5).toNat)
            case atStart => exact ⟨0, v, n0, xs, Nat.zero_le _, rfl, HD.out.1⟩
            case round =>
              have HML := Lib.hid HD.out.2
              clear HD v n0 xs
              obtain ⟨j, v, n0, xs, hj, rfl, hD⟩ := hrel
              obtain ⟨x, hx⟩ : ∃ x : Int, x = (j : Int) - 1 := ⟨_, rfl⟩
              rw [← hx]
              obtain ⟨D, hDe⟩ : ∃ D, D = Rs.map (leafM shaM) := ⟨_, rfl⟩
              have hDl : D.length ≤ 1024 := by rw [hDe, List.length_map, hD.lenR]; exact hD.pair.rt.n2
              have HX := Lib.hid (And.intro hx (And.intro hDe (And.intro hDl hj)))
              by_cases hlt : j < 6
              · have hx1 : x ≤ 4 := by omega
                have hx2 : -1 ≤ x := by omega
                have HJ := Lib.hid hlt
                have HD := Lib.hid hD
                clear hx hDe hDl hj hlt hD
                go_wp2_with fail
                have HG := tree_Level_Z (D := D) (by have := HD.out.pair.tree; rw [← HX.out.2.1] at this; exact this) HX.out.2.2.1 x
                obtain ⟨Q, hQ⟩ : ∃ Q, Q = levP D x := ⟨_, rfl⟩
                obtain ⟨E1, hE1⟩ : ∃ E1, E1 = levE D x := ⟨_, rfl⟩
                have HQE := Lib.hid (And.intro hQ (And.intro hE1 (show Q.length ≤ 1024 by rw [hQ]; exact Nat.le_trans (levP_le _ _) HX.out.2.2.1)))
                rw [← hQ, ← hE1] at HG
                clear hQ hE1
                refine HG.mono ?_
                clear HG
                rintro e wb ⟨vx, rfl, hvx, hu⟩
                have H2 := Lib.hid (And.intro (HD.out.kept hu) (And.intro hvx (show hi ≤ wr.heap.size ∧ w.heap.size ≤ wr.heap.size from ⟨HD.out.pair.tree.sz, HD.out.pair.ink.upd.size⟩)))
                clear hvx hu HD
                go_wp2_with fail
                have HG := ref_TLevel_Z H2.out.1.pair.rt (by have := HML.out; omega) (D := D) (by rw [H2.out.1.leafD, HX.out.2.1]) x
                rw [← HQE.out.1, ← HQE.out.2.1] at HG
                refine HG.mono ?_
                clear HG
                rintro e wd ⟨vy, rfl, hvy, v3, n3, xs3, hr3, ht3⟩
                have hvx3 : OwnD wd wr.heap.size vx Q := OwnRows.upd H2.out.2.1 ht3.1 (fun g e => by obtain ⟨cur, hc⟩ := own_cells H2.out.2.1 e; exact H2.out.1.pair.rt.book.far hc (by decide) (by decide))
                have H3 := Lib.hid (And.intro (H2.out.1.read hr3 ht3) (And.intro hvx3 H2.out.2.2))
                obtain ⟨Ax, kx, rfl, -, hdx⟩ := hvx3.digs
                obtain ⟨Ay, ky, rfl, -, hdy⟩ := hvy.digs
                have HG := ref_Same9 kx ky hdx hdy (by have := HQE.out.2.2; omega)
                obtain ⟨qn, hqn⟩ : ∃ qn, qn = Q.length := ⟨_, rfl⟩
                rw [← hqn] at H3 HG ⊢
                have HQN := Lib.hid hqn
                have hqb : (qn : Int) ≤ 1024 := by have := HQE.out.2.2; omega
                clear hqn hvx3 hvy hr3 ht3 hdx hdy H2
                go_wp2_with fail
                refine HG.mono ?_
                clear HG
                rintro e we ⟨rfl, hu⟩
                have H4 := Lib.hid (And.intro (H3.out.1.kept hu) (And.intro (OwnRows.upd H3.out.2.1 hu (fun _ _ h => h)) H3.out.2.2))
                clear hu H3
                go_wp2_with fail
                obtain ⟨wo, rfl⟩ : ∃ wo : World, wo = wr := ⟨_, rfl⟩
                go_loopw [21] (fun u1 wr => ∃ (i : Nat) (Q' : List Dig), i ≤ qn ∧ u1 = .int .i64 i ∧ Q'.length = qn ∧ OwnD wr wo.heap.size (.slice Ax qn kx) Q' ∧ Duo w wr b r q lo hi t L B u c v3 n3 xs3 M gl n li Rs) (fun u1 _ => 2000 - (intOf u1).toNat)
                case atStart => exact ⟨0, Q, Nat.zero_le _, rfl, HQN.out.symm, H4.out.2.1, H4.out.1⟩
                case round =>
                  obtain ⟨i, Q', hi', rfl, hQl, hp, hD⟩ := hrel
                  rcases Nat.lt_or_ge i qn with hlt | hge
                  · have hi1 : (i : Int) < (qn : Int) := by omega
                    obtain ⟨g, cp, hv, hg1, hg2⟩ := World.ownsRow.form hp (by omega)
                    simp only [Value.slice.injEq] at hv
                    obtain ⟨rfl, -, rfl⟩ := hv
                    obtain ⟨g', cur, e1, e2, e3, e4⟩ := OwnRows.turn dA_size (by omega) hp (k := i) (by omega) dig0
                    obtain rfl : g = g' := Option.some.inj e1
                    have hst := run_storeMid (P := Try.prog) e2 46 32 (i * 32) sizeOf46 (dA dig0) (dA_size dig0) e3 (dA_one dig0)
                    have hgl := (World.ownsRow.lt hp g rfl).1
                    obtain ⟨z1, z2⟩ := H4.out.2.2
                    have HF := Lib.hid (And.intro e4 (And.intro (hD.dig e2 (by omega) (by omega) ((Upd.refl (fun k => k = g) wr).setRow g (splice cur (i * 32) (dA dig0).toList).toArray fun _ => rfl)) (And.intro hQl hlt)))
                    clear hp hD e1 e2 e3 e4 hgl z1 z2 hlt hQl hi' hg1 hg2
                    go_wp2_with fail
                    go_roundw
                    case rel => exact ⟨i + 1, _, by have := HF.out; omega, by show _ = _; go_num, by rw [List.length_set]; exact HF.out.2.2.1, HF.out.1, HF.out.2.1⟩
                    case measure => have := HF.out.2.2.2; simp [intOf]; omega
                  · obtain rfl : i = qn := by omega
                    have hi1 : ¬ ((i : Int) < (i : Int)) := by omega
                    have HF := Lib.hid hD
                    clear hp hD hQl hge hi'
                    go_wp2_with fail
                    go_roundw
                    case rel => exact ⟨j + 1, v3, n3, xs3, by have := HJ.out; omega, by have := HX.out.1; show _ = _; rw [HX.out.1]; go_num, HF.out⟩
                    case measure => have := HX.out.1; have := HJ.out; simp [intOf]; omega
              · have hx1 : ¬ (x ≤ 4) := by omega
                have hx2 : x ≤ 5 := by omega
                have HD := Lib.hid hD
                clear hx hDe hDl hj hlt hD
                go_wp2_with fail
                have HG := tree_Root HD.out.pair.tree
                obtain ⟨rt, hrt⟩ : ∃ rt, rt = rootM shaM (Rs.map (leafM shaM)) := ⟨_, rfl⟩
                rw [← hrt] at HG
                have HRT := Lib.hid hrt
                clear hrt
                refine HG.mono ?_
                clear HG
                rintro e wb ⟨rfl, hu⟩
                have hd5 : Blk (wb.alloc (.cells (dA rt) 46)) wb.heap.size 46 (encB (rt).1) := Blk.new wb _ _
                have hk5 : Kept wb (wb.alloc (.cells (dA rt) 46)) := (Upd.refl _ wb).alloc _
                have H5 := Lib.hid (And.intro ((HD.out.kept hu).kept hk5) hd5)
                clear hd5 hk5 hu HD
                go_wp2_with fail
                obtain ⟨gr, hgr⟩ : ∃ gr, gr = wb.heap.size := ⟨_, rfl⟩
                rw [← hgr] at H5 ⊢
                clear hgr
                generalize wb.alloc (.cells (dA rt) 46) = wc at *
                have f1 : ∀ W, Upd (fun k => k ≠ gr) wc W → segB W ⟨gr, 0, none⟩ 32 = true := fun W hW => (dig_at (H5.out.2.upd hW (fun h => h rfl))).1
                have f2 : ∀ W, Upd (fun k => k ≠ gr) wc W → segV W ⟨gr, 0, none⟩ 32 = dA rt := fun W hW => (dig_at (H5.out.2.upd hW (fun h => h rfl))).2
                refine wp_region_ord [(0, true), (1, true), (2, true), (3, true), (4, true), (5, false), (6, true), (7, true), (8, true), (9, true), (11, true), (10, false), (12, false), (13, true), (14, true), (15, true), (16, true), (18, true), (17, false), (19, false), (20, true), (21, true), (22, true), (23, true), (25, true), (24, false), (26, false), (27, true), (28, true), (29, true), (30, false), (31, true), (32, true)] (by kernel_rfl) (by kernel_rfl) (Upd (fun k => k ≠ gr) wc) (Upd.refl _ _).drew ?_
                simp only [ordOps, List.getD_cons_zero, List.getD_cons_succ]
                iterate 5 (refine wpOrd_held (fun K hK => ?_); go_simp; first | (apply Exists.intro; refine ⟨fun W hW => ?_, hK _ ?_⟩; (go_simp; first | done | exact rfl); clear hK K) | (refine hK _ ?_; clear hK K))
                have hS : Upd (fun k => k ≠ gr) wc wc.drew := (Upd.refl _ _).drew
                have hkd : Kept wc wc.drew := (Upd.refl _ _).drew
                have H6 := Lib.hid (And.intro (H5.out.1.kept hkd) (H5.out.2.kept hkd))
                clear hkd H5
                generalize wc.drew = wd at *
                refine wpOrd_step (fun K hK => ?_) hS
                go_simp
                have HG := ref_TRoot H6.out.1.pair.rt (by have := HML.out; omega)
                rw [H6.out.1.leafD, ← HRT.out] at HG
                refine HG.mono ?_
                clear HG
                rintro e we ⟨rfl, v2, n2, xs2, hr2, ht2⟩
                have hf2 := H6.out.1.pair.rt.book.far H6.out.2 (by decide) (by decide)
                have hS2 : Upd (fun k => k ≠ gr) wc we := hS.trans (ht2.1.mono fun k _ e e2 => hf2 (by rw [← e2]; exact e))
                have H7 := Lib.hid (And.intro (H6.out.1.read hr2 ht2) (H6.out.2.upd ht2.1 hf2))
                refine hK _ _ hS2 ?_
                clear hK K hS hr2 ht2 hf2 H6
                iterate 5 (refine wpOrd_held (fun K hK => ?_); go_simp; first | (apply Exists.intro; refine ⟨fun W hW => ?_, hK _ ?_⟩; (go_simp; first | done | exact rfl); clear hK K) | (refine hK _ ?_; clear hK K))
                refine wpOrd_step (fun K hK => ?_) hS2
                go_simp
                have HG := tree_Depth H7.out.1.pair.tree
                rw [List.length_map, H7.out.1.lenR] at HG
                refine HG.mono ?_
                clear HG
                rintro e W ⟨rfl, rfl⟩
                refine hK _ _ hS2 ?_
                clear hK K
                refine wpOrd_step (fun K hK => ?_) hS2
                go_simp
                refine (ref_TDepth H7.out.1.pair.rt (by have := HML.out; omega)).mono ?_
                rintro e wf ⟨rfl, v4, n4, xs4, hr4, ht4⟩
                have hf4 := H7.out.1.pair.rt.book.far H7.out.2 (by decide) (by decide)
                have hS4 : Upd (fun k => k ≠ gr) wc wf := hS2.trans (ht4.1.mono fun k _ e e2 => hf4 (by rw [← e2]; exact e))
                have H8 := Lib.hid (H7.out.1.read hr4 ht4)
                refine hK _ _ hS4 ?_
                clear hK K hS2 hr4 ht4 hf4 H7
                generalize depthM n = dn at *
                iterate 5 (refine wpOrd_held (fun K hK => ?_); go_simp; first | (apply Exists.intro; refine ⟨fun W hW => ?_, hK _ ?_⟩; (go_simp; first | done | exact rfl); clear hK K) | (refine hK _ ?_; clear hK K))
                refine wpOrd_step (fun K hK => ?_) hS4
                go_simp
                have HG := tree_Leaves H8.out.pair.tree
                rw [List.length_map, H8.out.lenR] at HG
                refine HG.mono ?_
                clear HG
                rintro e W ⟨rfl, rfl⟩
                refine hK _ _ hS4 ?_
                clear hK K
                refine wpOrd_step (fun K hK => ?_) hS4
                go_simp
                refine (ref_TLeaves H8.out.pair.rt).mono ?_
                rintro e W ⟨rfl, rfl⟩
                refine hK _ _ hS4 ?_
                clear hK K
                iterate 5 (refine wpOrd_held (fun K hK => ?_); go_simp; first | (apply Exists.intro; refine ⟨fun W hW => ?_, hK _ ?_⟩; (go_simp; first | done | exact rfl); clear hK K) | (refine hK _ ?_; clear hK K))
                refine wpOrd_step (fun K hK => ?_) hS4
                go_simp
                obtain ⟨Ib, Nb, mb, hbk⟩ := H8.out.pair.ink.book
                have HG := ink_Len hbk
                rw [H8.out.count, show IntKind.i64.wrap (M.length : Int) = (M.length : Int) by rw [IntKind.wrap_i64]; have := HML.out; omega] at HG
                refine HG.mono ?_
                clear HG hbk
                rintro e wg ⟨rfl, hu⟩
                have hS5 : Upd (fun k => k ≠ gr) wc wg := hS4.trans hu.to
                have H9 := Lib.hid (H8.out.kept hu)
                refine hK _ _ hS5 ?_
                clear hK K hS4 hu H8
                refine wpOrd_step (fun K hK => ?_) hS5
                go_simp
                refine (ref_Len H9.out.pair.rt.book).mono ?_
                rintro e W ⟨rfl, rfl⟩
                refine hK _ _ hS5 ?_
                clear hK K
                generalize M.length = mn at *
                iterate 3 (refine wpOrd_held (fun K hK => ?_); go_simp; first | (apply Exists.intro; refine ⟨fun W hW => ?_, hK _ ?_⟩; (go_simp; first | done | exact rfl); clear hK K) | (refine hK _ ?_; clear hK K))
                refine wpOrd_step (fun K hK => ?_) hS5
                go_simp
                refine (law_works _).mono ?_
                rintro e wh ⟨rfl, hu⟩
                have hS6 : Upd (fun k => k ≠ gr) wc wh := hS5.trans hu.to
                have HF := Lib.hid (H9.out.kept hu).pair.ink.upd
                refine hK _ _ hS6 ?_
                clear hK K hS5 hu H9
                iterate 2 (refine wpOrd_held (fun K hK => ?_); go_simp; first | (apply Exists.intro; refine ⟨fun W hW => ?_, hK _ ?_⟩; (go_simp; first | done | exact rfl); clear hK K) | (refine hK _ ?_; clear hK K))
                refine wpOrd_nil ?_
                clear f1 f2 hS6
                go_wp2
                go_ret
                exact ⟨rfl, HF.out⟩
set_option maxRecDepth 100000 in
theorem TreeSets_lifted (os : Os) (started : os.Started) (H : Type) (enc : TypeId × Value → H) :
    ReturnsInHanded {} Try.checked os 3 .any (Rows.treeSetsSpec.pre6 enc Try.prog Try.f3 Rows.treeSetsRow.domain false) (Rows.treeSetsSpec.post enc Try.prog Try.f3 false true false false) := by
  refine law_lifted os started Try.func3 (by kernel_rfl) rfl rfl (by kernel_rfl) ?_
    (ChangeSpec.witness6 (enc := enc) (C := Try.checked) false ⟨#[], #[.int .i64 0, .slice none 0 0], []⟩ 8 (by kernel_rfl) (by kernel_rfl) (by kernel_rfl) (by kernel_rfl)) ?_
  · intro ds h
    rw [Try.params3] at h
    match ds, h with
    | [d0, d1], _ => rfl
  · intro W base args ds ps hval hA hsz
    rw [Try.params3] at hA hval hsz
    obtain ⟨v0, vs0, d0, ds0, p0, q0, hargs, rfl, rfl, h0, r_0⟩ := trodAll_cons hA
    obtain ⟨v1, vs1, d1, ds1, p1, q1, rfl, rfl, rfl, h1, r_1⟩ := trodAll_cons r_0
    obtain ⟨rfl, rfl, rfl⟩ := trodAll_nil r_1
    obtain rfl : args = #[v0, v1] := by cases args; simp_all
    obtain ⟨a0, rfl, rfl, rfl, w0⟩ := open_int Try.underlying3 (hval 0 3 v0 rfl rfl) h0
    obtain ⟨A1, n1, c1, rfl⟩ := okWide_slice Try.underlying22 (hval 1 22 v1 rfl rfl)
    have r1 := ReadsAs.of_trod hsz (j := 1) rfl rfl h1
    obtain ⟨A, c, l, hcs, hl, hlc, hmx⟩ := open_sets r1
    simp only [Value.cells, List.cons.injEq, Value.slice.injEq, and_true] at hcs
    obtain ⟨rfl, rfl, rfl⟩ := hcs
    exact TreeSets_walk a0 _ _ l W w0 hl hmx

theorem TreeSets_holds : Rows.TreeSetsSaid :=
  OpenClaim.holds_of_wide 3 Try.f3 rfl rfl rfl rfl rfl rfl rfl ⟨rfl, rfl, rfl, rfl, rfl⟩ rfl rfl rfl rfl rfl (by kernel_rfl) Try.func3 (by kernel_rfl)
    (of_decide_eq_true (by kernel_rfl)) (by unfold Func.isWrapper; first | (rw [if_pos (by decide +kernel)]; kernel_rfl) | (rw [if_neg (by decide +kernel)]; exact ⟨rfl, rfl⟩))
    (fun os started H enc _ => TreeSets_lifted os started H enc)
end Go.Proofs.Ytnncpjekcljfbaa
