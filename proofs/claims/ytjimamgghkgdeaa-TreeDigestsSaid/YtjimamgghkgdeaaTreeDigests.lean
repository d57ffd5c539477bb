/- Leaves' and nodes' digests are those of their bytes behind a mark: the statement TreeDigests holds. For every input. -/
import Derived.Test.YtjimamgghkgdeaaArgs
namespace Go.Proofs.Ytjimamgghkgdeaa
open Go.ChangeShapes Go.WideShapes Go.ChangeAt Go.RowKit

attribute [local irreducible] wpOrd
/-- bytes appended, what it is stays behind a name -/
theorem run_append_bytes {W : World} {B : Nat} {v : Value} {R0 R : Bytes} (hv : OwnB W B v R0) (A : Option Addr) (c : Nat) (hR : Byt W A R) (hlen : R0.length + R.length ≤ 140737488351232) (hB : B ≤ W.heap.size) :
    ∃ v' W', (Builtin.append_ #[32, 32] 32 #[v, .slice A R.length c]).run Try.prog W = .ok v' W' ∧ OwnB W' B v' (R0 ++ R) ∧ Upd (fun k => v.ownBlock = some k) W W' := by
  obtain ⟨i0, hi, hz0, hz1, hz2⟩ := u8_info
  obtain ⟨A0, c0, rfl, hc0, _⟩ := hv.form
  have hnone : ∀ A : Option Addr, ∃ v' W', (Builtin.append_ #[32, 32] 32 #[.slice A0 R0.length c0, .slice A 0 c]).run Try.prog W = .ok v' W' ∧ OwnB W' B v' (R0 ++ []) ∧ Upd (fun k => (Value.slice A0 R0.length c0).ownBlock = some k) W W' := by
    intro A
    have hsrc : Src Try.prog i0.size 32 (.slice A 0 c) 0 [] W := by
      cases A with
      | none => exact Src.ofNil W Try.underlying32 c
      | some ad => exact Src.ofSlice W Try.underlying32 ad 0 c [] (by simp) (fun j u hu => by simp at hu) (fun u hu => by cases hu)
    exact ⟨_, _, run_append_nothing W 32 32 32 5 i0 Try.underlying32 hi A0 R0.length c0 hc0 _ hsrc, by rw [List.append_nil]; exact hv, Upd.refl _ _⟩
  rcases hR with rfl | ⟨b, off, rfl, hc⟩
  · exact hnone A
  · by_cases h0 : R = []
    · subst h0; exact hnone _
    · obtain ⟨v', W', hr, ho, hgr, _⟩ := run_append_own_at (P := Try.prog) W B 32 32 5 i0 (.int .u8 0) 1 1 Try.underlying32 hi hz0 hz1 hz2 rfl (by decide) _ R0.length (encB R0) hv ⟨b, off, none⟩ R.length c (encB R) (by simp [encB_length]) (fun j u hu => by rw [add_none]; exact hc j u hu) (encB_one R) (by unfold maxLen; omega) (by omega) hB
      refine ⟨v', W', hr, ?_, (Upd.of_grown hgr).mono fun k _ h => h.symm⟩
      unfold OwnB
      rw [List.length_append, encB_append]
      exact ho

theorem step_append_g {P : Program} {ops : Array Oper} {o : Oper} {a : Act} {W : World} {K : Act → World → Prop} {Q : Exit → Act → World → Prop} {E : Prop} (hw : Region.wanted o (yielded ops a.tmps) = true) (s x : Operand) {ts : Nat} (ho : o.op = .call { callee := .builtin .append, args := #[s, x], argTypes := #[ts, ts] }) {v1 v2 v' : Value} {W' : World} (hs : a.eval s = v1) (hx : a.eval x = v2)
    (hr : (Builtin.append_ #[ts, ts] o.type #[v1, v2]).run P W = .ok v' W') (hk : K (a.put o.dst v') W') :
    if Region.wanted o (yielded ops a.tmps) = true then o.wp P a W K Q else E := by
  rw [if_pos hw]
  unfold Oper.wp execOp
  simp only [ho, resolve, invoke, builtin, Sem.run_bind, Sem.run_pure, Result.andThen_ok, List.map_toArray, List.map_cons, List.map_nil, hs, hx, hr]
  exact hk
theorem min_num1000 (n : Nat) : ∃ k : Nat, k = min n 1000 ∧ (if (1000 : Int) < (n : Int) then (1000 : Int) else (n : Int)) = (k : Int) ∧ (if 1000 < n then (1000 : Int) else (n : Int)) = (k : Int) := by
  refine ⟨_, rfl, ?_, ?_⟩ <;> split <;> omega
/-- a byte of a digest in memory -/
theorem Digs.byte {W : World} {A : Option Addr} {D : List Dig} (h : Digs W A D) {k j : Nat} (hk : k < D.length) (hj : j < 32) : ∃ b off, A = some ⟨b, off, none⟩ ∧ W.cell? ⟨b, off + k * 32 + j, none⟩ = some (.int .u8 ((D[k].1[j]'(by rw [D[k].2]; exact hj)).toNat : Int)) := by
  rcases h with h0 | ⟨b, off, rfl, h⟩
  · have h1 := flatD_length D
    rw [h0] at h1; simp at h1; omega
  · refine ⟨b, off, rfl, ?_⟩
    rw [Nat.add_assoc]
    refine h (k * 32 + j) _ ?_
    rw [← rowsOf_dA, rowsOf_get dA_size D k j hk hj]
    have hjl : j < (D[k].1).length := by rw [D[k].2]; exact hj
    simp [dA, encB, List.getElem?_map, List.getElem?_eq_getElem hjl]
theorem two_noted (r : Bytes) (ds : List Dig) : (noteM (noteM [] (leafIn r)) (upIn ds)).length = 2 := by
  have h := leafIn_upIn r ds
  unfold noteM
  simp [Ne.symm h]

set_option maxHeartbeats 800000 in
set_option maxRecDepth 20000 in
theorem TreeDigests_walk (x : SlC) (R : Bytes) (AD : Option Addr) (cD : Nat) (D : List Dig) (w : World) (hx : LeafAt w x R) (hD : Digs w AD D) :
    Calls Try.prog 6 #[x.v, .slice AD D.length cD] w fun e w' => e = .returned (.bool true) ∧ Kept w w' := by
  have hnot : ∀ (x : Bool) (w : World), (Op.unary .not (.bool x)).run Try.prog w = .ok (.bool (!x)) w := fun _ _ => rfl
  obtain ⟨A, c, rfl, hc, hR⟩ := hx.form
  rw [SlC.v_eq]
  simp only
  obtain ⟨z, hz, hm1, hm2⟩ := min_num1000 R.length
  have hsl : ∀ W : World, (Instr.sliceAt 32 (.slice A R.length c) none (some (.int .i64 (z : Int))) none).run Try.prog W = .ok (.slice A z c) W := fun W => slice_u8_h W A R.length c z (by omega)
  have hzl : (R.take z).length = z := by rw [List.length_take]; omega
  have hR1 := hR.take z
  have HA := Lib.hid (And.intro hz (And.intro hzl (And.intro hR1 hD)))
  clear hz hzl hR1 hx hc hR hD
  generalize R.take z = R1 at *
  go_enter Try.func6, Try.ntmps6
  go_wp2_with fail
  refine (law_works _).mono ?_
  rintro e w1 ⟨rfl, hu⟩
  have HU := Lib.hid hu
  clear hu
  go_wp2_with fail
  refine (law_book _).mono ?_
  rintro e w2 ⟨b, r, q, rfl, hI⟩
  have HI := Lib.hid hI
  clear hI
  go_wp2_with fail
  clear hm1 hm2 hsl
  have HG := tree_Leaf (R := R1) HI.out.book c ((HA.out.2.2.1.kept HU.out).kept HI.out.upd) (by have := HA.out.1; have := HA.out.2.1; omega)
  rw [HA.out.2.1] at HG
  refine HG.mono ?_
  clear HG
  rintro e w3 ⟨rfl, hb, hu⟩
  replace HI := Lib.hid (HI.out.to hb hu)
  obtain ⟨d, hd⟩ : ∃ d, d = leafM shaM R1 := ⟨_, rfl⟩
  rw [← hd]
  have HD := Lib.hid (show shaM (0 :: R1) = d from hd.symm)
  generalize hL1 : noteM [] (leafIn R1) = L1 at *
  have HL1 := Lib.hid hL1.symm
  have hd6 : Blk (w3.alloc (.cells (dA d) 40)) w3.heap.size 40 (encB (d).1) := Blk.new w3 _ _
  have hk6 : Kept w3 (w3.alloc (.cells (dA d) 40)) := (Upd.refl _ w3).alloc _
  replace HI := Lib.hid (HI.out.kept hk6)
  clear hb hu hd hL1
  go_wp2_with fail
  generalize w3.heap.size = g6 at *
  generalize w3.alloc (.cells (dA d) 40) = w4 at *
  have hu4 : Kept w4 w4.drew := (Upd.refl _ w4).drew
  have f1 : ∀ W, Kept w4 W → segB W ⟨g6, 0, none⟩ 32 = true := fun W hW => (dig_at (hd6.kept hW)).1
  have f2 : ∀ W, Kept w4 W → segV W ⟨g6, 0, none⟩ 32 = dA d := fun W hW => (dig_at (hd6.kept hW)).2
  clear hk6 hd6
  refine wp_region_ord [(0, true), (1, true), (2, true), (3, true), (5, true), (4, false), (6, false), (7, false), (8, true), (9, true)] (by kernel_rfl) (by kernel_rfl) (Kept w4) hu4 ?_
  simp only [ordOps, List.getD_cons_zero, List.getD_cons_succ]
  iterate 5 (refine wpOrd_held (fun K hK => ?_); go_simp; first | (apply Exists.intro; refine ⟨fun W hW => ?_, hK _ ?_⟩; (go_simp; first | done | exact rfl); clear hK K) | (refine hK _ ?_; clear hK K))
  clear f1 f2
  generalize w4.drew = w4d at *
  obtain ⟨v5, w5, hbs, hB5, hk5⟩ := run_bs1 0 w4d
  change (sliceRow 32 1 #[(0, .int .u8 0)]).run Try.prog w4d = _ at hbs
  have hu5 : Kept w4 w5 := hu4.then hk5 (fun _ _ h => h)
  refine wpOrd_step (fun K hK => ?_) hu4
  go_simp
  refine hK _ _ hu5 ?_
  clear hK K
  have hR5 : Byt w5 A R1 := (((HA.out.2.2.1.kept HU.out).kept HI.out.upd).kept hu5)
  obtain ⟨v6, w6, hap, hB6, hk6⟩ := run_append_bytes hB5 A c hR5 (by have := HA.out.1; have := HA.out.2.1; simp only [List.length_singleton]; omega) hk5.size
  rw [HA.out.2.1] at hap
  have hu6 : Kept w4 w6 := hu5.then hk6 (fun i hi e => by have := (hB5.far _ e).1; have := hu4.size; omega)
  refine wpOrd_step (fun K hK => ?_) hu5
  refine step_append_g (by go_simp) (.tmp 31) (.tmp 32) rfl rfl rfl hap ?_
  refine hK _ _ hu6 ?_
  clear hK K
  obtain ⟨R6, hR6⟩ : ∃ R6, R6 = ([0] ++ R1 : Bytes) := ⟨_, rfl⟩
  rw [← hR6] at hB6
  have hd6 : Hid (shaM R6 = d) := by show _ = _; rw [hR6]; exact HD.out
  obtain ⟨A6, c6, rfl, hc6, hb6⟩ := hB6.form
  have HS := Lib.hid (And.intro hc6 hb6)
  have HL6 := Lib.hid (show R6.length ≤ 1001 by rw [hR6]; have := HA.out.1; have := HA.out.2.1; simp; omega)
  clear hR6
  clear hc6 hb6 hbs hap hB5 hB6 hk5 hk6 hR5 hu4
  refine wpOrd_step (fun K hK => ?_) hu6
  go_simp
  have HG := sha_Of c6 HS.out.2 (by have := HL6.out; omega) HS.out.1
  rw [hd6.out] at HG
  refine HG.mono ?_
  clear HG
  rintro e w7 ⟨rfl, hu7⟩
  replace hu7 : Kept w4 w7 := hu6.then hu7 (fun _ _ h => h)
  refine hK _ _ hu7 ?_
  clear hK K
  iterate 2 (refine wpOrd_held (fun K hK => ?_); go_simp; first | (apply Exists.intro; refine ⟨fun W hW => ?_, hK _ ?_⟩; (go_simp; first | done | exact rfl); clear hK K) | (refine hK _ ?_; clear hK K))
  refine wpOrd_nil ?_
  replace HI := Lib.hid (HI.out.kept hu7)
  have HW := Lib.hid (And.intro HI.out (And.intro (show Kept w w7 from HU.out.then HI.out.upd (fun _ _ h => h)) HA.out.2.2.2))
  clear hu5 hu6 hu7 HS HL6 HI
  by_cases hok : 1 ≤ D.length ∧ D.length ≤ 4
  · have HDL := Lib.hid hok
    have d1 : decide ((D.length : Int) < 1) = false := decide_eq_false (by omega)
    have d4 : decide ((4 : Int) < (D.length : Int)) = false := decide_eq_false (by omega)
    have d4n : decide (4 < D.length) = false := decide_eq_false (by omega)
    clear hok
    go_wp2_with fail
    have HG := tree_Up HW.out.1.book cD (HW.out.2.2.kept HW.out.2.1) HDL.out.1 HDL.out.2
    refine HG.mono ?_
    clear HG
    rintro e w8 ⟨rfl, hb8, hu8⟩
    have hI8 := HW.out.1.to hb8 hu8
    obtain ⟨d2, hd2⟩ : ∃ d2, d2 = upM shaM D := ⟨_, rfl⟩
    rw [← hd2]
    have HD2 := Lib.hid (show shaM (upIn D) = d2 from hd2.symm)
    generalize hL2 : noteM L1 (upIn D) = L2 at *
    have HL2 : Hid (L2.length = 2) := by show _ = _; rw [← hL2, HL1.out]; exact two_noted _ _
    have hd8 : Blk (w8.alloc (.cells (dA d2) 40)) w8.heap.size 40 (encB (d2).1) := Blk.new w8 _ _
    have hk8 : Kept w8 (w8.alloc (.cells (dA d2) 40)) := (Upd.refl _ w8).alloc _
    replace hI8 := hI8.kept hk8
    have H8 := Lib.hid (And.intro hI8 (And.intro (show Kept w _ from HU.out.then hI8.upd (fun _ _ h => h)) hd8))
    clear hb8 hu8 hI8 hd2 hL2 hk8 hd8 HW
    obtain ⟨v9, w10, hbs, hB9, hk9⟩ := run_bs1 1 (w8.alloc (.cells (dA d2) 40))
    change (sliceRow 32 1 #[(0, .int .u8 1)]).run Try.prog (w8.alloc (.cells (dA d2) 40)) = _ at hbs
    have H9 := Lib.hid (And.intro hB9 hk9)
    clear hB9 hk9
    go_wp2_with fail
    clear hbs
    generalize w8.heap.size = g8 at *
    generalize w8.alloc (.cells (dA d2) 40) = w9 at *
    go_loopw [11, 10] (fun u1 v wr => ∃ k : Nat, k ≤ D.length ∧ u1 = .int .i64 k ∧ OwnB wr w9.heap.size v (1 :: flatD (D.take k)) ∧ Kept w9 wr) (fun u1 _ _ => 100 - (intOf u1).toNat)
    case atStart => exact ⟨0, Nat.zero_le _, rfl, H9.out.1, H9.out.2⟩
    case round =>
      obtain ⟨k, hk, rfl, hown, hu⟩ := hrel
      rcases Nat.lt_or_ge k D.length with hlt | hge
      · have hk' : (k : Int) < (D.length : Int) := by omega
        have hk5 : (k : Int) < 4 := by have := HDL.out.2; omega
        have HO := Lib.hid (And.intro hown hu)
        clear hown hu
        have hsn : Hid (1 :: flatD (D.take (k + 1)) = (1 :: flatD (D.take k)) ++ D[k].1) := by show _ = _; rw [flatD_snoc D k hlt]; rfl
        have hFl : Hid ((1 :: flatD (D.take k) : Bytes).length ≤ 200) := by
          show _ ≤ _
          rw [List.length_cons, flatD_length, List.length_take]
          have := HDL.out.2
          omega
        have hby : ∀ W, Kept w9 W → ∀ j, j < 32 → ∃ u, D[k].1[j]? = some u ∧ ∃ b off, AD = some ⟨b, off, none⟩ ∧ W.cell? ⟨b, off + k * 32 + j, none⟩ = some (.int .u8 (u.toNat : Int)) := fun W hW j hj => by
          have h1 := ((HA.out.2.2.2.kept H8.out.2.1).kept hW).byte hlt hj
          exact ⟨_, List.getElem?_eq_getElem (by rw [D[k].2]; exact hj), h1⟩
        generalize flatD (D.take k) = F at *
        obtain ⟨y, hy⟩ : ∃ y, y = D[k] := ⟨_, rfl⟩
        rw [← hy] at hsn
        rw [← hy] at hby
        replace hby := Lib.hid hby
        have HK := Lib.hid hlt
        clear hy hk
        go_wp2_with fail
        go_loopw [12, 10] (fun u1 v wr => ∃ j : Nat, j ≤ 32 ∧ u1 = .int .i64 j ∧ OwnB wr w9.heap.size v (1 :: F ++ y.1.take j) ∧ Kept w9 wr) (fun u1 _ _ => 100 - (intOf u1).toNat)
        case atStart => exact ⟨0, Nat.zero_le _, rfl, by simpa using HO.out.1, HO.out.2⟩
        case round =>
          obtain ⟨j, hj, rfl, hown, hu⟩ := hrel
          rcases Nat.lt_or_ge j 32 with hjl | hjl
          · have hj' : (j : Int) < 32 := by omega
            have hjy : j < y.1.length := by rw [y.2]; exact hjl
            obtain ⟨u, hu8, bb, off, rfl, hcell⟩ := hby.out _ hu j hjl
            replace hu8 : u = y.1[j] := by rw [List.getElem?_eq_getElem hjy] at hu8; exact (Option.some.inj hu8).symm
            have HC : Hid ((1 :: F ++ y.1.take (j + 1) : Bytes) = (1 :: F ++ y.1.take j) ++ [u]) := by show _ = _; rw [List.take_succ_eq_append_getElem hjy, ← hu8]; simp
            obtain ⟨v2, wr2, hbs, hB2, hk2⟩ := run_bs1 u wr
            obtain ⟨A2, c2, rfl, hc2, hb2⟩ := byt_one hB2
            have HR := Lib.hid (And.intro (hown.kept hk2) (And.intro hb2 (And.intro (show Kept w9 wr2 from hu.then hk2 fun _ _ h => h) (show (1 :: F ++ y.1.take j : Bytes).length ≤ 240 by have := hFl.out; rw [List.length_append, List.length_take]; omega))))
            clear hown hu hB2 hk2 hb2 hc2 hu8 hjy
            go_wp2_with (at_builtin; refine wpList_append_bytes (R := [u]) rfl (.tmp 69) (.tmp 76) rfl rfl HR.out.1 A2 c2 rfl HR.out.2.1 (by have := HR.out.2.2.2; simp only [List.length_singleton]; omega) HR.out.2.2.1.size ?_; intro v' w3' hown hu3)
            go_roundw
            case rel =>
              refine ⟨j + 1, by omega, by show _ = _; go_num, by rw [HC.out]; exact hown, HR.out.2.2.1.then hu3 fun i hi e => ?_⟩
              have := (HR.out.1.far _ e).1
              omega
            case measure => simp [intOf]; omega
          · obtain rfl : j = 32 := by omega
            rw [show y.1.take 32 = y.1 from List.take_of_length_le (Nat.le_of_eq y.2), ← hsn.out] at hown
            clear hjl hj
            have HP := Lib.hid (And.intro hown hu)
            clear hown hu
            go_wp2
            go_roundw
            case rel => exact ⟨k + 1, by have := HK.out; omega, by show _ = _; go_num, HP.out.1, HP.out.2⟩
            case measure => have := HK.out; simp [intOf]; omega
      · obtain rfl : k = D.length := by omega
        have hk' : ¬ ((D.length : Int) < (D.length : Int)) := by omega
        rw [List.take_length] at hown
        obtain ⟨A3, c3, rfl, hc3, hb3⟩ := hown.form
        have hlen : (1 :: flatD D : Bytes).length ≤ 65536 := by rw [List.length_cons, flatD_length]; have := HDL.out.2; omega
        have HY := Lib.hid (And.intro hc3 (And.intro (show Byt wr A3 (upIn D) from hb3) (show (upIn D).length ≤ 65536 from hlen)))
        have HX := Lib.hid (And.intro (H8.out.1.kept hu) (And.intro (show Kept w wr from H8.out.2.1.then hu (fun _ _ h => h)) (H8.out.2.2.kept hu)))
        rw [show (1 :: flatD D : Bytes).length = (upIn D).length from rfl]
        clear hown hu hc3 hb3 hlen hk hge
        go_wp2_with fail
        generalize hW0 : wr = wx at *
        have hux : Kept wx wx.drew := (Upd.refl _ wx).drew
        have f1 : ∀ W, Kept wx W → segB W ⟨g8, 0, none⟩ 32 = true := fun W hW => (dig_at (HX.out.2.2.kept hW)).1
        have f2 : ∀ W, Kept wx W → segV W ⟨g8, 0, none⟩ 32 = dA d2 := fun W hW => (dig_at (HX.out.2.2.kept hW)).2
        refine wp_region_ord [(0, true), (1, true), (2, true), (3, true), (4, true), (5, false), (6, true), (7, true), (8, true), (9, true), (10, false), (11, true), (12, true), (13, true)] (by kernel_rfl) (by kernel_rfl) (Kept wx) hux ?_
        simp only [ordOps, List.getD_cons_zero, List.getD_cons_succ]
        iterate 5 (refine wpOrd_held (fun K hK => ?_); go_simp; first | (apply Exists.intro; refine ⟨fun W hW => ?_, hK _ ?_⟩; (go_simp; first | done | exact rfl); clear hK K) | (refine hK _ ?_; clear hK K))
        clear f1 f2
        generalize wx.drew = wd at *
        refine wpOrd_step (fun K hK => ?_) hux
        go_simp
        have HG := sha_Of (R := upIn D) c3 (HY.out.2.1.kept hux) (by have := HY.out.2.2; omega) HY.out.1
        rw [HD2.out] at HG
        refine HG.mono ?_
        clear HG
        rintro e we ⟨rfl, hue⟩
        replace hue : Kept wx we := hux.then hue (fun _ _ h => h)
        refine hK _ _ hue ?_
        clear hK K
        iterate 4 (refine wpOrd_held (fun K hK => ?_); go_simp; first | (apply Exists.intro; refine ⟨fun W hW => ?_, hK _ ?_⟩; (go_simp; first | done | exact rfl); clear hK K) | (refine hK _ ?_; clear hK K))
        refine wpOrd_step (fun K hK => ?_) hue
        go_simp
        obtain ⟨I, M, m, hB⟩ := (HX.out.1.kept hue).book
        refine (ink_Len hB).mono ?_
        rw [HL2.out]
        rintro e wf ⟨rfl, huf⟩
        replace huf : Kept wx wf := hue.then huf (fun _ _ h => h)
        refine hK _ _ huf ?_
        clear hK K hB
        iterate 3 (refine wpOrd_held (fun K hK => ?_); go_simp; first | (apply Exists.intro; refine ⟨fun W hW => ?_, hK _ ?_⟩; (go_simp; first | done | exact rfl); clear hK K) | (refine hK _ ?_; clear hK K))
        refine wpOrd_nil ?_
        have HF := Lib.hid (HX.out.2.1.then huf (fun _ _ h => h))
        clear hux hue huf
        go_wp2
        go_ret
        exact ⟨rfl, HF.out⟩
  · have HB := Lib.hid (show D.length < 1 ∨ 4 < D.length by omega)
    rcases HB.out with h0 | h4
    · have d1 : decide ((D.length : Int) < 1) = true := decide_eq_true (by omega)
      clear hok h0
      go_wp2_with fail
      have HG := tree_Up_no (p := some ⟨b, 0, none⟩) (A := AD) (n := D.length) (w := w7) cD HB.out
      refine HG.mono ?_
      clear HG
      rintro e w8 ⟨rfl, hu9⟩
      have hd8 : Blk (w8.alloc (.cells (dA dig0) 40)) w8.heap.size 40 (encB (dig0).1) := Blk.new w8 _ _
      have hk8 : Kept w8 (w8.alloc (.cells (dA dig0) 40)) := (Upd.refl _ w8).alloc _
      have HK2 := Lib.hid ((HW.out.2.1.then hu9 (fun _ _ h => h)).then hk8 (fun _ _ h => h))
      have H8 := Lib.hid (dig_at hd8)
      clear hu9 hk8 hd8
      obtain ⟨p1, p2⟩ := H8.out
      go_wp2
      go_ret
      exact ⟨rfl, HK2.out⟩
    · have d1 : decide ((D.length : Int) < 1) = false := decide_eq_false (by omega)
      have d4 : decide ((4 : Int) < (D.length : Int)) = true := decide_eq_true (by omega)
      have d4n : decide (4 < D.length) = true := decide_eq_true (by omega)
      clear hok h4
      go_wp2_with fail
      have HG := tree_Up_no (p := some ⟨b, 0, none⟩) (A := AD) (n := D.length) (w := w7) cD HB.out
      refine HG.mono ?_
      clear HG
      rintro e w8 ⟨rfl, hu9⟩
      have hd8 : Blk (w8.alloc (.cells (dA dig0) 40)) w8.heap.size 40 (encB (dig0).1) := Blk.new w8 _ _
      have hk8 : Kept w8 (w8.alloc (.cells (dA dig0) 40)) := (Upd.refl _ w8).alloc _
      have HK2 := Lib.hid ((HW.out.2.1.then hu9 (fun _ _ h => h)).then hk8 (fun _ _ h => h))
      have H8 := Lib.hid (dig_at hd8)
      clear hu9 hk8 hd8
      obtain ⟨p1, p2⟩ := H8.out
      go_wp2
      go_ret
      exact ⟨rfl, HK2.out⟩
set_option maxRecDepth 100000 in
theorem TreeDigests_lifted (os : Os) (started : os.Started) (H : Type) (enc : TypeId × Value → H) :
    ReturnsInHanded {} Try.checked os 6 .any (Rows.treeDigestsSpec.pre6 enc Try.prog Try.f6 Rows.treeDigestsRow.domain false) (Rows.treeDigestsSpec.post enc Try.prog Try.f6 false true false false) := by
  refine law_lifted os started Try.func6 (by kernel_rfl) rfl rfl (by kernel_rfl) ?_
    (ChangeSpec.witness6 (enc := enc) (C := Try.checked) false ⟨#[], #[.slice none 0 0, .slice none 0 0], []⟩ 8 (by kernel_rfl) (by kernel_rfl) (by kernel_rfl) (by kernel_rfl)) ?_
  · intro ds h
    rw [Try.params6] at h
    match ds, h with
    | [d0, d1], _ => rfl
  · intro W base args ds ps hval hA hsz
    rw [Try.params6] at hA hval hsz
    obtain ⟨v0, vs0, d0, ds0, p0, q0, hargs, rfl, rfl, h0, r_0⟩ := trodAll_cons hA
    obtain ⟨v1, vs1, d1, ds1, p1, q1, rfl, rfl, rfl, h1, r_1⟩ := trodAll_cons r_0
    obtain ⟨rfl, rfl, rfl⟩ := trodAll_nil r_1
    obtain rfl : args = #[v0, v1] := by cases args; simp_all
    obtain ⟨A0, n0, c0, rfl⟩ := okWide_slice Try.underlying32 (hval 0 32 v0 rfl rfl)
    have r0 := ReadsAs.of_trod hsz (j := 0) rfl rfl h0
    obtain ⟨A1, n1, c1, rfl⟩ := okWide_slice Try.underlying35 (hval 1 35 v1 rfl rfl)
    have r1 := ReadsAs.of_trod hsz (j := 1) rfl rfl h1
    obtain ⟨x, R, hcs, hx, _⟩ := open_bytes r0
    obtain ⟨xA, xn, xc⟩ := x
    simp only [Value.cells, SlC.v, List.cons.injEq, Value.slice.injEq, and_true] at hcs
    obtain ⟨rfl, rfl, rfl⟩ := hcs
    obtain ⟨AD, cD, D, hds, hD, _⟩ := open_digs r1
    simp only [Value.cells, List.cons.injEq, Value.slice.injEq, and_true] at hds
    obtain ⟨rfl, rfl, rfl⟩ := hds
    exact TreeDigests_walk ⟨_, _, _⟩ R _ _ D W hx hD

theorem TreeDigests_holds : Rows.TreeDigestsSaid :=
  OpenClaim.holds_of_wide 6 Try.f6 rfl rfl rfl rfl rfl rfl rfl ⟨rfl, rfl, rfl, rfl, rfl⟩ rfl rfl rfl rfl rfl (by kernel_rfl) Try.func6 (by kernel_rfl)
    (of_decide_eq_true (by kernel_rfl)) (by unfold Func.isWrapper; first | (rw [if_pos (by decide +kernel)]; kernel_rfl) | (rw [if_neg (by decide +kernel)]; exact ⟨rfl, rfl⟩))
    (fun os started H enc _ => TreeDigests_lifted os started H enc)
end Go.Proofs.Ytjimamgghkgdeaa
