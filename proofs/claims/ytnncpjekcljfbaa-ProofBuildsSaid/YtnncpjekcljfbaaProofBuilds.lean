/- Build and Parts answer as the chapter says; what is answered is memory of its own: the statement ProofBuilds holds, of all leaves and numbers. -/
import Derived.Test.YtnncpjekcljfbaaSetJ
namespace Go.Proofs.Ytnncpjekcljfbaa
open Go.ChangeShapes Go.WideShapes Go.ChangeAt Go.RowKit

attribute [local irreducible] wpOrd
set_option maxHeartbeats 3000000 in
set_option maxRecDepth 20000 in
theorem ProofBuilds_walk (A : Option Addr) (c0 : Nat) (l : List (SlC × Bytes)) (lf a0 a1 : Int) (w : World) (hl : LeavesAt w A l) (hlm : l.length ≤ 140737488351232) :
    Calls Try.prog 5 #[.slice A l.length c0, .int .i64 lf, .agg (in2 a0 a1)] w fun e w' => e = .returned (.bool true) ∧ Kept w w' := by
  have hnot : ∀ (x : Bool) (w : World), (Op.unary .not (.bool x)).run Try.prog w = .ok (.bool (!x)) w := fun _ _ => rfl
  have hk0 : Kept w (w.alloc (.cells (in2 a0 a1) 60)) := (Upd.refl _ w).alloc _
  have hb0 : Blk (w.alloc (.cells (in2 a0 a1) 60)) w.heap.size 60 [.int .i64 a0, .int .i64 a1] := Blk.new w _ _
  have HK0 := Lib.hid hk0
  have HA := Lib.hid (And.intro (hl.kept hk0) (And.intro hlm hb0))
  clear hl hlm hk0 hb0
  obtain ⟨nl, hnl⟩ : ∃ nl, nl = l.length := ⟨_, rfl⟩
  rw [← hnl]
  have HNL := Lib.hid hnl
  clear hnl
  go_enter Try.func5, Try.ntmps5
  go_wp2_with fail
  obtain ⟨g0, hg0⟩ : ∃ g0, g0 = w.heap.size := ⟨_, rfl⟩
  rw [← hg0] at HA ⊢
  clear hg0
  generalize w.alloc (.cells (in2 a0 a1) 60) = wA at *
  rcases Nat.eq_zero_or_pos nl with h0 | h0
  · subst h0
    refine (law_both_none c0).mono ?_
    rintro e w1 ⟨b, rfl, hu⟩
    have HF := Lib.hid (HK0.out.then hu (fun _ _ h => h))
    clear hu
    go_wp2_with fail
    refine (law_works10 _).mono ?_
    rintro e w2 ⟨rfl, hu⟩
    replace HF := Lib.hid (HF.out.then hu (fun _ _ h => h))
    clear hu
    go_wp2
    go_ret
    exact ⟨rfl, HF.out⟩
  · have HG := law_both c0 HA.out.1 (by rw [← HNL.out]; exact h0) HA.out.2.1
    rw [← HNL.out] at HG
    clear h0
    refine HG.mono ?_
    clear HG
    rintro e w1 ⟨t, b, u, rfl, r, q, lo, hi, L, B, c, v, n0, xs, M, gl, li, hP, hli, hM⟩
    obtain ⟨D, hD⟩ : ∃ D, D = (bytesL l).map (leafM shaM) := ⟨_, rfl⟩
    have hLD : leafD li = D := by rw [leafD_map, hli, hD]
    obtain ⟨n, hn⟩ : ∃ n, n = (bytesL l).length := ⟨_, rfl⟩
    rw [← hD, ← hn] at hP
    have hDl : D.length ≤ 1024 := by rw [hD, List.length_map, ← hn]; exact hP.rt.n2
    have HP := Lib.hid (And.intro hP (And.intro hLD (And.intro hM hDl)))
    clear hP hli hM hD hLD hn hDl
    go_wp2_with fail
    refine (proof_Build_Z HP.out.1.tree lf).mono ?_
    rintro e w2 ⟨vx, rfl, hx, hu⟩
    obtain ⟨P, hP⟩ : ∃ P, P = buildP D lf := ⟨_, rfl⟩
    obtain ⟨E1, hE1⟩ : ∃ E1, E1 = buildE D lf := ⟨_, rfl⟩
    obtain ⟨Q, hQ⟩ : ∃ Q, Q = partsP D a0 a1 := ⟨_, rfl⟩
    obtain ⟨E2, hE2⟩ : ∃ E2, E2 = partsE D a0 a1 := ⟨_, rfl⟩
    have HPE := Lib.hid (And.intro hP (And.intro hE1 (And.intro hQ (And.intro hE2 (And.intro (buildP_ok D lf HP.out.2.2.2) (partsP_ok D a0 a1))))))
    rw [← hP] at hx
    rw [← hE1]
    clear hP hE1 hQ hE2
    obtain ⟨ys, hx2⟩ := hx.x
    have H2 := Lib.hid (And.intro (HP.out.1.kept hu) (And.intro hx2 HP.out.1.tree.sz))
    have hsz12 := Lib.hid (show wA.heap.size ≤ w1.heap.size ∧ w1.heap.size ≤ w2.heap.size from ⟨HP.out.1.ink.upd.size, hu.size⟩)
    clear hx hx2 hu
    go_wp2_with fail
    have HG := ref_Build_Z H2.out.1.rt (by have := HP.out.2.2.1; omega) HP.out.2.1 lf
    rw [← HPE.out.1, ← HPE.out.2.1] at HG
    refine HG.mono ?_
    clear HG
    rintro e w3 ⟨vy, rfl, hy, v3, n3, xs3, hr3, ht3⟩
    obtain ⟨zs, hy2⟩ := hy.x
    have H3 := Lib.hid (And.intro (H2.out.1.ref hr3 ht3.to2) (And.intro (H2.out.2.1.aloof ht3.1 H2.out.1.rt.book.aloof) (And.intro hy2 H2.out.2.2)))
    have hbA : Blk w3 g0 60 [.int .i64 a0, .int .i64 a1] := HA.out.2.2.kept H3.out.1.ink.upd
    have s0 := hbA.cell (k := 0) rfl
    have s1 := hbA.cell (k := 1) rfl
    have hsz23 := Lib.hid (show w2.heap.size ≤ w3.heap.size from ht3.1.size)
    clear hy hy2 hr3 ht3 hbA H2
    go_wp2_with fail
    have HG := proof_Parts_Z H3.out.1.tree a0 a1
    rw [← HPE.out.2.2.1, ← HPE.out.2.2.2.1] at HG
    refine HG.mono ?_
    clear HG s0 s1
    rintro e w4 ⟨vp, rfl, hp, hu⟩
    have H4 := Lib.hid (And.intro (H3.out.1.kept hu) (And.intro (H3.out.2.1.kept hu) (And.intro (H3.out.2.2.1.kept hu) (And.intro hp H3.out.2.2.2))))
    have hbA : Blk w4 g0 60 [.int .i64 a0, .int .i64 a1] := HA.out.2.2.kept H4.out.1.ink.upd
    have s0 := hbA.cell (k := 0) rfl
    have s1 := hbA.cell (k := 1) rfl
    clear hp hu hbA H3
    go_wp2_with fail
    have HG := ref_Parts_Z H4.out.1.rt (by have := HP.out.2.2.1; omega) HP.out.2.1 a0 a1
    rw [← HPE.out.2.2.1, ← HPE.out.2.2.2.1] at HG
    refine HG.mono ?_
    clear HG s0 s1
    rintro e w5 ⟨vq, rfl, hq, v5, n5, xs5, hr5, ht5⟩
    have ha5 := H4.out.1.rt.book.aloof
    have H5 := Lib.hid (And.intro (H4.out.1.ref hr5 ht5.to2) (And.intro (H4.out.2.1.aloof ht5.1 ha5) (And.intro (H4.out.2.2.1.aloof ht5.1 ha5) (And.intro (show OwnD w5 w3.heap.size vp Q from OwnRows.upd H4.out.2.2.2.1 ht5.1 (fun k e => by obtain ⟨cur, hc⟩ := own_cells H4.out.2.2.2.1 e; exact ha5.not hc (by decide))) (And.intro hq H4.out.2.2.2.2)))))
    clear hq hr5 ht5 ha5 H4
    obtain ⟨Ax, kx, hvx, hkx⟩ := H5.out.2.1.form
    obtain ⟨Ay, ky, hvy, hky⟩ := H5.out.2.2.1.form
    obtain ⟨Ap, kp, hvp, hkp, hdp⟩ := H5.out.2.2.2.1.digs
    obtain ⟨Aq, kq, hvq, hkq, hdq⟩ := H5.out.2.2.2.2.1.digs
    subst hvx hvy hvp hvq
    obtain ⟨Ax', kx', lx, hex, -, hlx, hpx⟩ := H5.out.2.1.own.proofs
    obtain ⟨Ay', ky', ly, hey, -, hly, hpy⟩ := H5.out.2.2.1.own.proofs
    simp only [Value.slice.injEq] at hex hey
    obtain ⟨rfl, -, rfl⟩ := hex
    obtain ⟨rfl, -, rfl⟩ := hey
    have hxl : lx.length = P.length := by have := congrArg List.length hlx; rwa [List.length_map] at this
    have hyl : ly.length = P.length := by have := congrArg List.length hly; rwa [List.length_map] at this
    have HG1 := ref_Same10 kx ky hpx.proof hpy.proof (hlx.trans hly.symm) (by rw [hxl]; have := HPE.out.2.2.2.2.1.1; rw [HPE.out.1]; omega) (fun p hp => by
      have h1 : p.2 ∈ P := by rw [← hlx]; exact List.mem_map.2 ⟨p, hp, rfl⟩
      rw [HPE.out.1] at h1
      have := (HPE.out.2.2.2.2.1.2 _ h1).2
      omega)
    rw [hxl, hyl] at HG1
    have HS9 := Lib.hid (And.intro hdp hdq)
    clear hdp hdq hkp hkq hkx hky hlx hly hpx hpy hxl hyl
    obtain ⟨pn, hpn⟩ : ∃ pn, pn = P.length := ⟨_, rfl⟩
    obtain ⟨qn, hqn⟩ : ∃ qn, qn = Q.length := ⟨_, rfl⟩
    rw [← hpn] at HG1
    rw [← hpn] at H5
    rw [← hqn] at H5
    rw [← hpn, ← hqn]
    have HLN := Lib.hid (And.intro hpn hqn)
    clear hpn hqn
    go_wp2_with fail
    refine HG1.mono ?_
    clear HG1
    rintro e w6 ⟨rfl, hu⟩
    have HG2 := ref_Same9 kp kq (HS9.out.1.kept hu) (HS9.out.2.kept hu) (by have := HPE.out.2.2.2.2.2; rw [HPE.out.2.2.1]; omega)
    rw [← HLN.out.2] at HG2
    have HU6 := Lib.hid hu
    clear hu HS9
    go_wp2_with fail
    refine HG2.mono ?_
    clear HG2
    rintro e w7 ⟨rfl, hu⟩
    have hu7 : Kept w5 w7 := HU6.out.then hu (fun _ _ h => h)
    have H7 := Lib.hid (And.intro (H5.out.1.tree.kept hu7) (And.intro (H5.out.2.1.kept hu7) (And.intro (H5.out.2.2.1.kept hu7) (And.intro (OwnRows.upd H5.out.2.2.2.1 hu7 (fun _ _ h => h)) (And.intro H5.out.2.2.2.2.2 (And.intro H5.out.1.wlo (H5.out.1.ink.upd.then hu7 (fun _ _ h => h))))))))
    clear hu hu7 HU6 H5
    go_wp2_with fail
    have hHS := hsz12.out
    have hHS2 := hsz23.out
    have HSZ := Lib.hid (And.intro hHS.1 (And.intro hHS.2 (And.intro hHS2 H7.out.2.2.2.2.1)))
    clear hHS hHS2
    have hqb : (qn : Int) ≤ 4 := by have := HPE.out.2.2.2.2.2; rw [← HPE.out.2.2.1, ← HLN.out.2] at this; omega
    go_loopw [19] (fun u1 wr => ∃ (k : Nat) (Q' : List Dig), k ≤ qn ∧ u1 = .int .i64 k ∧ Q'.length = qn ∧ OwnD wr w3.heap.size (.slice Ap qn kp) Q' ∧ TreeAt wr lo hi t b D ∧ OwnX wr w1.heap.size w2.heap.size (.slice Ax pn kx) P ys ∧ OwnX wr w2.heap.size w3.heap.size (.slice Ay pn ky) P zs ∧ Kept wA wr) (fun u1 _ => 2000 - (intOf u1).toNat)
    case atStart => exact ⟨0, Q, Nat.zero_le _, rfl, HLN.out.2.symm, H7.out.2.2.2.1, H7.out.1, H7.out.2.1, H7.out.2.2.1, H7.out.2.2.2.2.2.2⟩
    case round =>
      clear H7
      obtain ⟨k, Q', hk, rfl, hQl, hp, hT, hx, hy, hu⟩ := hrel
      rcases Nat.lt_or_ge k qn with hlt | hge
      · have hk1 : (k : Int) < (qn : Int) := by omega
        obtain ⟨g, cp, hv, hg1, hg2⟩ := World.ownsRow.form hp (by omega)
        simp only [Value.slice.injEq] at hv
        obtain ⟨rfl, -, rfl⟩ := hv
        obtain ⟨g', cur, e1, e2, e3, e4⟩ := OwnRows.turn dA_size (by omega) hp (k := k) (by omega) dig0
        obtain rfl : g = g' := Option.some.inj e1
        have hst := run_storeMid (P := Try.prog) e2 46 32 (k * 32) sizeOf46 (dA dig0) (dA_size dig0) e3 (dA_one dig0)
        have hu2 : Upd (fun k => k = g) wr (wr.setRow g (splice cur (k * 32) (dA dig0).toList).toArray) := (Upd.refl _ _).setRow _ _ fun _ => rfl
        have hgl := (World.ownsRow.lt hp g rfl).1
        obtain ⟨z1, z2, z3, z4⟩ := HSZ.out
        have HF := Lib.hid (And.intro e4 (And.intro (hT.upd hu2 (fun j h1 h2 _ e => by have e5 : j = g := e; omega)) (And.intro (hx.upd hu2 (fun j h1 h2 _ e => by have e5 : j = g := e; omega)) (And.intro (hy.upd hu2 (fun j h1 h2 _ e => by have e5 : j = g := e; omega)) (And.intro (hu.then hu2 (fun j h1 e => by have e5 : j = g := e; omega)) (And.intro hQl hlt))))))
        clear hp hT hx hy hu e1 e2 e3 e4 hu2 hgl z1 z2 z3 z4 hlt hQl hk hg1 hg2
        go_wp2_with fail
        go_roundw
        case rel => exact ⟨k + 1, _, by have := HF.out; omega, by show _ = _; go_num, by rw [List.length_set]; exact HF.out.2.2.2.2.2.1, HF.out.1, HF.out.2.1, HF.out.2.2.1, HF.out.2.2.2.1, HF.out.2.2.2.2.1⟩
        case measure => have := HF.out.2.2.2.2.2.2; simp [intOf]; omega
      · obtain rfl : k = qn := by omega
        have hk1 : ¬ ((k : Int) < (k : Int)) := by omega
        have H8 := Lib.hid (And.intro hT (And.intro hx (And.intro hy hu)))
        have hpb : (pn : Int) ≤ 1100 := by have := HPE.out.2.2.2.2.1.1; rw [← HPE.out.1, ← HLN.out.1] at this; omega
        have hP1 : ∀ p ∈ P, 1 ≤ p.length := fun p hp => by rw [HPE.out.1] at hp; exact (HPE.out.2.2.2.2.1.2 p hp).1
        have HP1 := Lib.hid hP1
        clear hp hT hx hy hu hQl hge hk hP1
        go_wp2_with fail
        go_loopw [20] (fun u1 wr => ∃ (j : Nat) (P' : List (List Dig)), j ≤ pn ∧ u1 = .int .i64 j ∧ P'.length = pn ∧ (∀ p ∈ P', 1 ≤ p.length) ∧ OwnX wr w1.heap.size w2.heap.size (.slice Ax pn kx) P' ys ∧ TreeAt wr lo hi t b D ∧ OwnX wr w2.heap.size w3.heap.size (.slice Ay pn ky) P zs ∧ Kept wA wr) (fun u1 _ => 2000 - (intOf u1).toNat)
        case atStart => exact ⟨0, P, Nat.zero_le _, rfl, HLN.out.1.symm, HP1.out, H8.out.2.1, H8.out.1, H8.out.2.2.1, H8.out.2.2.2⟩
        case round =>
          clear H8
          obtain ⟨j, P', hj, rfl, hPl, hP', hx, hT, hy, hu⟩ := hrel
          rcases Nat.lt_or_ge j pn with hlt | hge
          · have hj1 : (j : Int) < (pn : Int) := by omega
            have hjx : j < ys.length := by rw [hx.len]; omega
            have hjP : j < P'.length := by omega
            obtain ⟨gx, cx, A3, k3, hv, hyj, hcell⟩ := hx.cell hjx hjP
            simp only [Value.slice.injEq] at hv
            obtain ⟨rfl, -, rfl⟩ := hv
            have hone : 1 ≤ P'[j].length := hP' _ (List.getElem_mem hjP)
            obtain ⟨g, cur, e1, e2, e3, e4, e5, P2, e6, e7, e8, e9⟩ := hx.turn0 hP' hjx dig0
            have hod := hx.each j hjx hjP
            obtain ⟨g', cp, hv', -, -⟩ := World.ownsRow.form hod (by omega)
            rw [hyj, SlC.v_eq] at hv'
            simp only [Value.slice.injEq] at hv'
            obtain ⟨rfl, -, rfl⟩ := hv'
            rw [hyj] at e1
            obtain rfl : g' = g := Option.some.inj e1
            have hst := run_storeMid (P := Try.prog) e4 46 32 0 sizeOf46 (dA dig0) (dA_size dig0) e5 (dA_one dig0)
            have hu2 : Upd (fun k => k = g') wr (wr.setRow g' (splice cur 0 (dA dig0).toList).toArray) := (Upd.refl _ _).setRow _ _ fun _ => rfl
            obtain ⟨z1, z2, z3, z4⟩ := HSZ.out
            have HF := Lib.hid (And.intro (e6.trans hPl) (And.intro e7 (And.intro e9 (And.intro (hT.upd hu2 (fun j h1 h2 _ e => by have e5 : j = g' := e; omega)) (And.intro (hy.upd hu2 (fun j h1 h2 _ e => by have e5 : j = g' := e; omega)) (And.intro (hu.then hu2 (fun j h1 e => by have e5 : j = g' := e; omega)) hlt))))))
            have hm0 : (0 : Int) < (P'[j].length : Int) := by omega
            have hm0n : 0 < P'[j].length := by omega
            generalize P'[j].length = mm at *
            clear hx hT hy hu e1 e2 e3 e4 e5 e6 e7 e8 e9 hu2 z1 z2 z3 z4 hlt hPl hj hP' hod hyj hone hjx hjP
            go_wp2_with fail
            go_roundw
            case rel => exact ⟨j + 1, P2, by have := HF.out; omega, by show _ = _; go_num, HF.out.1, HF.out.2.1, HF.out.2.2.1, HF.out.2.2.2.1, HF.out.2.2.2.2.1, HF.out.2.2.2.2.2.1⟩
            case measure => have := HF.out.2.2.2.2.2.2; simp [intOf]; omega
          · obtain rfl : j = pn := by omega
            have hj1 : ¬ ((j : Int) < (j : Int)) := by omega
            have H9 := Lib.hid (And.intro hT (And.intro hy hu))
            clear hx hT hy hu hPl hge hj hP' HP1
            go_wp2_with fail
            have HG := proof_Build_Z H9.out.1 lf
            rw [← HPE.out.1, ← HPE.out.2.1] at HG
            refine HG.mono ?_
            clear HG
            rintro e wf ⟨vz, rfl, hz, hu⟩
            obtain ⟨Az, kz, lz, rfl, -, hlz, hpz⟩ := hz.proofs
            obtain ⟨Ay', ky', ly, hey, -, hly, hpy⟩ := (H9.out.2.1.kept hu).own.proofs
            simp only [Value.slice.injEq] at hey
            obtain ⟨rfl, -, rfl⟩ := hey
            have hzl : lz.length = P.length := by have := congrArg List.length hlz; rwa [List.length_map] at this
            have hyl : ly.length = P.length := by have := congrArg List.length hly; rwa [List.length_map] at this
            have HG1 := ref_Same10 kz ky hpz.proof hpy.proof (hlz.trans hly.symm) (by rw [hzl]; have := HPE.out.2.2.2.2.1.1; rw [HPE.out.1]; omega) (fun p hp => by
              have h1 : p.2 ∈ P := by rw [← hlz]; exact List.mem_map.2 ⟨p, hp, rfl⟩
              rw [HPE.out.1] at h1
              have := (HPE.out.2.2.2.2.1.2 _ h1).2
              omega)
            rw [hzl, hyl, ← HLN.out.1] at HG1
            rw [← HLN.out.1]
            have HK := Lib.hid (H9.out.2.2.then hu (fun _ _ h => h))
            clear hz hlz hpz hly hpy hzl hyl hu H9
            go_wp2_with fail
            refine HG1.mono ?_
            clear HG1
            rintro e wg ⟨rfl, hu⟩
            replace HK := Lib.hid (HK.out.then hu (fun _ _ h => h))
            clear hu
            go_wp2_with fail
            refine (law_works10 _).mono ?_
            rintro e wh ⟨rfl, hu⟩
            have HF := Lib.hid (HK0.out.then (HK.out.then hu (fun _ _ h => h)) (fun _ _ h => h))
            clear hu HK
            go_wp2
            go_ret
            exact ⟨rfl, HF.out⟩
set_option maxRecDepth 100000 in
theorem ProofBuilds_lifted (os : Os) (started : os.Started) (H : Type) (enc : TypeId × Value → H) :
    ReturnsInHanded {} Try.checked os 5 .any (Rows.proofBuildsSpec.pre6 enc Try.prog Try.f5 Rows.proofBuildsRow.domain false) (Rows.proofBuildsSpec.post enc Try.prog Try.f5 false true false false) := by
  refine law_lifted os started Try.func5 (by kernel_rfl) rfl rfl (by kernel_rfl) ?_
    (ChangeSpec.witness6 (enc := enc) (C := Try.checked) false ⟨#[], #[.slice none 0 0, .int .i64 0, .agg #[.int .i64 0,.int .i64 0]], []⟩ 8 (by kernel_rfl) (by kernel_rfl) (by kernel_rfl) (by kernel_rfl)) ?_
  · intro ds h
    rw [Try.params5] at h
    match ds, h with
    | [d0, d1, d2], _ => rfl
  · intro W base args ds ps hval hA hsz
    rw [Try.params5] at hA hval hsz
    obtain ⟨v0, vs0, d0, ds0, p0, q0, hargs, rfl, rfl, h0, r_0⟩ := trodAll_cons hA
    obtain ⟨v1, vs1, d1, ds1, p1, q1, rfl, rfl, rfl, h1, r_1⟩ := trodAll_cons r_0
    obtain ⟨v2, vs2, d2, ds2, p2, q2, rfl, rfl, rfl, h2, r_2⟩ := trodAll_cons r_1
    obtain ⟨rfl, rfl, rfl⟩ := trodAll_nil r_2
    obtain rfl : args = #[v0, v1, v2] := by cases args; simp_all
    obtain ⟨A0, n0, c0, rfl⟩ := okWide_slice Try.underlying52 (hval 0 52 v0 rfl rfl)
    have r0 := ReadsAs.of_trod hsz (j := 0) rfl rfl h0
    obtain ⟨a1, rfl, rfl, rfl, w1⟩ := open_int Try.underlying3 (hval 1 3 v1 rfl rfl) h1
    obtain ⟨cs2, rfl, _⟩ := ok_agg (P := Try.prog) (t := 60) (by kernel_rfl) (hval 2 60 v2 rfl rfl)
    have r2 := ReadsAs.of_trod hsz (j := 2) rfl rfl h2
    obtain ⟨A, c, l, hcs, hl, _, hmx⟩ := open_leaves r0
    simp only [Value.cells, List.cons.injEq, Value.slice.injEq, and_true] at hcs
    obtain ⟨rfl, rfl, rfl⟩ := hcs
    obtain ⟨x, y, hcs2, _, _⟩ := open_in2 r2
    obtain rfl : cs2 = in2 x y := Array.toList_inj.1 (by simpa [in2, Value.cells] using hcs2)
    exact ProofBuilds_walk _ _ l a1 x y W hl hmx

theorem ProofBuilds_holds : Rows.ProofBuildsSaid :=
  OpenClaim.holds_of_wide 5 Try.f5 rfl rfl rfl rfl rfl rfl rfl ⟨rfl, rfl, rfl, rfl, rfl⟩ rfl rfl rfl rfl rfl (by kernel_rfl) Try.func5 (by kernel_rfl)
    (of_decide_eq_true (by kernel_rfl)) (by unfold Func.isWrapper; first | (rw [if_pos (by decide +kernel)]; kernel_rfl) | (rw [if_neg (by decide +kernel)]; exact ⟨rfl, rfl⟩))
    (fun os started H enc _ => ProofBuilds_lifted os started H enc)
end Go.Proofs.Ytnncpjekcljfbaa
