/- Where one leaf is set, in each level only the node above it changes: the statement TreePath holds. For every input. -/
import Derived.Test.YtjimamgghkgdeaaArgs
namespace Go.Proofs.Ytjimamgghkgdeaa
open Go.ChangeShapes Go.WideShapes Go.ChangeAt Go.RowKit

attribute [local irreducible] wpOrd
theorem levelsM_path : ∀ (m : Nat) {l : List Dig} {i : Nat} {d : Dig}, i < l.length → ∀ {a b : List Dig}, (levelsM shaM (l.set i d))[m]? = some a → (levelsM shaM l)[m]? = some b → i / 4 ^ m < b.length ∧ ∃ e, a = b.set (i / 4 ^ m) e
  | 0, l, i, d, hi, a, b, ha, hb => by
    obtain ⟨_, h1, _⟩ := levelsM_head (l.set i d)
    obtain ⟨_, h2, _⟩ := levelsM_head l
    rw [h1] at ha
    rw [h2] at hb
    simp only [List.getElem?_cons_zero, Option.some.injEq] at ha hb
    subst ha hb
    rw [Nat.pow_zero, Nat.div_one]
    exact ⟨hi, d, rfl⟩
  | m + 1, l, i, d, hi, a, b, ha, hb => by
    have hma : m < (levelsM shaM (l.set i d)).length := by have := (List.getElem?_eq_some_iff.1 ha).1; omega
    have hmb : m < (levelsM shaM l).length := by have := (List.getElem?_eq_some_iff.1 hb).1; omega
    have h1 := List.getElem?_eq_getElem hma
    have h2 := List.getElem?_eq_getElem hmb
    obtain ⟨hlt, e, he⟩ := levelsM_path m hi h1 h2
    have e1 := levelsM_next _ _ m _ _ rfl h1 ha
    have e2 := levelsM_next _ _ m _ _ rfl h2 hb
    rw [e1, he, aboveM_set hlt, ← e2, Nat.div_div_eq_div_mul, ← Nat.pow_succ]
    refine ⟨?_, _, rfl⟩
    rw [e2, aboveM_length, Nat.pow_succ, ← Nat.div_div_eq_div_mul]
    unfold up4
    omega

set_option maxHeartbeats 800000 in
set_option maxRecDepth 20000 in
theorem TreePath_walk (a at_ : Int) (x : SlC) (R : Bytes) (w : World) (ha : (Lit.int .i64 a).wf = true) (hat : (Lit.int .i64 at_).wf = true) (hx : LeafAt w x R) :
    Calls Try.prog 4 #[.int .i64 a, .int .i64 at_, x.v] w fun e w' => e = .returned (.bool true) ∧ Kept w w' := by
  have hnot : ∀ (x : Bool) (w : World), (Op.unary .not (.bool x)).run Try.prog w = .ok (.bool (!x)) w := fun _ _ => rfl
  obtain ⟨A, c, rfl, hc, hR⟩ := hx.form
  have HR := Lib.hid (And.intro hc hR)
  rw [SlC.v_eq]
  clear hx hc hR
  go_enter Try.func4, Try.ntmps4
  go_wp2_with fail
  refine (law_works _).mono ?_
  rintro e w1 ⟨rfl, hu⟩
  have HU := Lib.hid hu
  clear hu
  go_wp2_with fail
  refine (ref_Bring a 200 ha (by omega) (by omega) _).mono ?_
  rintro e W ⟨rfl, rfl⟩
  obtain ⟨n, hn, hn1, hn2⟩ := leaves_of a 200 (by omega) (by omega)
  have hw : IntKind.i64.wrap (1 + a % 200) = n := by rw [hn, IntKind.wrap_i64]; omega
  have HN := Lib.hid (And.intro hn1 hn2)
  clear hn hn1 hn2
  go_wp2_with fail
  refine (ref_Bring at_ n hat (by have := HN.out.1; omega) (by have := HN.out.2; omega) _).mono ?_
  rintro e W ⟨rfl, rfl⟩
  obtain ⟨i, hi⟩ : ∃ i : Nat, at_ % (n : Int) = i := ⟨(at_ % (n : Int)).toNat, by have := (mod_range at_ n (by have := HN.out.1; omega)).1; omega⟩
  have hin : i < n := by have := (mod_range at_ n (by have := HN.out.1; omega)).2; omega
  rw [hi]
  have HIN := Lib.hid hin
  clear hi hin
  go_wp2_with fail
  refine (law_book _).mono ?_
  rintro e w2 ⟨b, r, q, rfl, hI⟩
  have HI := Lib.hid hI
  clear hI
  go_wp2_with fail
  refine (tree_New HI.out.book n HN.out.1 (by have := HN.out.2; omega)).mono ?_
  rintro e w3 ⟨t, rfl, hlo, hT, hb, hu⟩
  have HT := Lib.hid (And.intro HI.out.upd.size hT)
  replace HI := Lib.hid (HI.out.to hb hu)
  clear hlo hT hb hu
  go_wp2_with fail
  refine (tree_New HI.out.book n HN.out.1 (by have := HN.out.2; omega)).mono ?_
  rintro e w4 ⟨u, rfl, hlo, hT, hb, hu⟩
  replace HT := Lib.hid (And.intro HT.out.1 (HT.out.2.book HI.out.book hu))
  have HV := Lib.hid hT
  have HIb := Lib.hid HI.out.upd.size
  replace HI := Lib.hid (HI.out.to hb hu)
  clear hlo hT hb hu
  obtain ⟨k, hk, hm1, hm2⟩ := min_num R.length
  have hsl : ∀ W : World, (Instr.sliceAt 32 (.slice A R.length c) none (some (.int .i64 (k : Int))) none).run Try.prog W = .ok (.slice A k c) W := fun W => slice_u8_h W A R.length c k (by have := HR.out.1; omega)
  have hkl : (R.take k).length = k := by rw [List.length_take]; omega
  have HK := Lib.hid (And.intro hk hkl)
  clear hk hkl
  go_wp2_with fail
  have hRk : Byt w4 A (R.take k) := ((HR.out.2.kept HU.out).kept HI.out.upd).take k
  have HG := tree_Set (R := R.take k) HI.out.book HT.out.2 c hRk (by have := HK.out; omega) i (by simpa using HIN.out)
  rw [HK.out.2] at HG
  refine HG.mono ?_
  rintro e w5 ⟨rfl, hT, hb5, hu5⟩
  obtain ⟨D1, hD1⟩ : ∃ D1, D1 = List.replicate n (leafM shaM []) := ⟨_, rfl⟩
  rw [← hD1] at HV hT
  obtain ⟨y, hy⟩ : ∃ y, y = leafM shaM (R.take k) := ⟨_, rfl⟩
  rw [← hy] at hT
  have hD1n : D1.length = n := by rw [hD1, List.length_replicate]
  obtain ⟨D2, hD2⟩ : ∃ D2, D2 = D1.set i y := ⟨_, rfl⟩
  rw [← hD2] at hT
  have hD2n : D2.length = n := by rw [hD2, List.length_set, hD1n]
  have hV5 := HV.out.upd hu5 (fun k h1 h2 ⟨cs, t', hc, ht'⟩ e => e.elim (fun e => HI.out.book.not hc ht' e) (fun e => by omega))
  have hpath : ∀ m a b, (levelsM shaM D2)[m]? = some a → (levelsM shaM D1)[m]? = some b → i / 4 ^ m < b.length ∧ ∃ e, a = b.set (i / 4 ^ m) e := fun m a b h1 h2 => levelsM_path m (by rw [hD1n]; exact HIN.out) (by rw [← hD2]; exact h1) h2
  have hI5 := HI.out.step hb5 hu5 (fun k e => e.imp id (fun e => by have h1 := HT.out.1; omega))
  have HW := Lib.hid (And.intro (show Kept w w5 from HU.out.then hI5.upd (fun _ _ h => h)) (And.intro hT hV5))
  have HP := Lib.hid (And.intro hpath (And.intro hD1n hD2n))
  clear HG hT hb5 hu5 hRk hy hD1 hD1n hD2 hD2n hV5 hpath hI5 HT HV HI HIb HU HK HR hm1 hm2 hsl
  go_wp2_with fail
  go_loopw [12, 1] (fun u1 v1 wr => ∃ m : Nat, m ≤ depthM n ∧ u1 = .int .i64 m ∧ v1 = .int .i64 (i / 4 ^ m : Nat) ∧ Kept w5 wr) (fun u1 _ _ => 2000 - (intOf u1).toNat)
  case atStart => exact ⟨0, by omega, rfl, by rw [Nat.pow_zero, Nat.div_one], Upd.refl _ _⟩
  case round =>
    obtain ⟨m, hm, rfl, rfl, hu⟩ := hrel
    have hT := HW.out.2.1.kept hu
    have hV := HW.out.2.2.kept hu
    have HK := Lib.hid (And.intro hu (And.intro hT hV))
    have e1 : depthM D2.length = depthM n := by rw [HP.out.2.2]
    have e2 : depthM D1.length = depthM n := by rw [HP.out.2.1]
    have hdb : (depthM n : Int) ≤ 1024 := by have := depthM_le n D1 HP.out.2.1; have := HN.out.2; omega
    clear hu hT hV
    obtain ⟨qq, hqq⟩ : ∃ qq, qq = i / 4 ^ m := ⟨_, rfl⟩
    rw [← hqq]
    have HQ := Lib.hid hqq
    clear hqq
    rcases Nat.lt_or_ge m (depthM n) with hlt | hge
    · obtain ⟨la, hla, hlal⟩ := levelsM_at HP.out.2.2 hlt HN.out.1
      obtain ⟨lb, hlb, hlbl⟩ := levelsM_at HP.out.2.1 hlt HN.out.1
      have hmd : (m : Int) < (depthM n : Int) := by omega
      have hna := HK.out.2.1.ne hla
      have hnb := HK.out.2.2.ne hlb
      obtain ⟨hq, e, he⟩ := HP.out.1 m la lb hla hlb
      rw [← HQ.out] at hq he
      have hab : la.length = lb.length := by rw [he, List.length_set]
      have HE := Lib.hid (And.intro hq (And.intro he (And.intro hla (And.intro hlb (And.intro hlal (And.intro hlbl (And.intro hna hnb)))))))
      clear hq he hla hlb hlal hlbl hna hnb
      go_wp2_with fail
      refine (tree_Depth HK.out.2.1).mono ?_
      rw [e1]
      rintro e0 W ⟨rfl, rfl⟩
      go_wp2_with fail
      refine (tree_Level HK.out.2.1 m HE.out.2.2.1 (by have := HE.out.2.2.2.2.1; have := HN.out.2; omega)).mono ?_
      rintro e0 wa ⟨va, rfl, hva, hua⟩
      obtain ⟨ga, ca, rfl, _, _⟩ := own_form hva HE.out.2.2.2.2.2.2.1
      go_wp2_with fail
      refine (tree_Level (HK.out.2.2.kept hua) m HE.out.2.2.2.1 (by have := HE.out.2.2.2.2.2.1; have := HN.out.2; omega)).mono ?_
      rintro e0 wb ⟨vb, rfl, hvb, hub⟩
      obtain ⟨gb, cb, rfl, _, _⟩ := own_form hvb HE.out.2.2.2.2.2.2.2
      have HAB := Lib.hid (And.intro (OwnRows.upd hva hub (fun _ _ h => h)) (And.intro hvb (show Kept w5 wb from (HK.out.1.then hua (fun _ _ h => h)).then hub (fun _ _ h => h))))
      clear hva hua hvb hub
      rw [← hab]
      have HAL := Lib.hid hab
      clear hab
      go_wp2_with fail
      go_loopw [17] (fun u1 wr2 => ∃ j : Nat, j ≤ la.length ∧ u1 = .int .i64 j ∧ Kept wb wr2) (fun u1 _ => 2000 - (intOf u1).toNat)
      case atStart => exact ⟨0, Nat.zero_le _, rfl, Upd.refl _ _⟩
      case round =>
        obtain ⟨j, hj, rfl, hu2⟩ := hrel
        rcases Nat.lt_or_ge j la.length with hjl | hjl
        · have hja : (j : Int) < (la.length : Int) := by omega
          have hjlen : (j : Int) ≤ 1024 := by have h1 := HE.out.2.2.2.2.1; have := HN.out.2; omega
          have hjb : j < lb.length := by have := HAL.out; omega
          have f1 : ∀ W, Kept wb W → segB W ⟨ga, j * 32, none⟩ 32 = true := fun W hW => (OwnD.seg (OwnRows.upd HAB.out.1 hW (fun _ _ h => h)) (k := j) hjl).1
          have f2 : ∀ W, Kept wb W → segV W ⟨ga, j * 32, none⟩ 32 = dA la[j] := fun W hW => (OwnD.seg (OwnRows.upd HAB.out.1 hW (fun _ _ h => h)) (k := j) hjl).2
          have f3 : ∀ W, Kept wb W → segB W ⟨gb, j * 32, none⟩ 32 = true := fun W hW => (OwnD.seg (OwnRows.upd HAB.out.2.1 hW (fun _ _ h => h)) (k := j) hjb).1
          have f4 : ∀ W, Kept wb W → segV W ⟨gb, j * 32, none⟩ 32 = dA lb[j] := fun W hW => (OwnD.seg (OwnRows.upd HAB.out.2.1 hW (fun _ _ h => h)) (k := j) hjb).2
          have hsame : Hid (j ≠ qq → la[j] = lb[j]) := fun hne => by
            obtain ⟨hq, he, _⟩ := HE.out
            subst he
            rw [List.getElem_set_ne (fun e => hne e.symm)]
          generalize la[j] = da at *
          generalize lb[j] = db at *
          have HU2 := Lib.hid hu2.drew
          clear hjb hu2
          by_cases hjq : j = qq
          · subst hjq
            clear hsame
            go_wp2_with fail
            refine wp_region_ord [(0, true), (1, true), (2, true), (3, true), (4, true), (5, true), (6, true), (7, true), (8, true), (9, true), (10, true), (11, true), (12, true), (13, true)] (by kernel_rfl) (by kernel_rfl) (Kept wb) HU2.out ?_
            simp only [ordOps, List.getD_cons_zero, List.getD_cons_succ]
            iterate 14 (refine wpOrd_held (fun K hK => ?_); go_simp; first | (apply Exists.intro; refine ⟨fun W hW => ?_, hK _ ?_⟩; (go_simp; first | done | exact rfl); clear hK K) | (refine hK _ ?_; clear hK K))
            refine wpOrd_nil ?_
            clear f1 f2 f3 f4
            generalize wr.drew = wr3 at *
            go_wp2
            go_roundw
            case rel => exact ⟨j + 1, by omega, by show _ = _; go_num, HU2.out⟩
            case measure => simp [intOf]; omega
          · have hjq2 : ¬ ((j : Int) = (qq : Int)) := by omega
            obtain rfl := hsame.out hjq
            clear hsame
            go_wp2_with fail
            refine wp_region_ord [(0, true), (1, true), (2, true), (3, true), (4, true), (5, true), (6, true), (7, true), (8, true), (9, true), (10, true), (11, true), (12, true), (13, true)] (by kernel_rfl) (by kernel_rfl) (Kept wb) HU2.out ?_
            simp only [ordOps, List.getD_cons_zero, List.getD_cons_succ]
            iterate 14 (refine wpOrd_held (fun K hK => ?_); go_simp; first | (apply Exists.intro; refine ⟨fun W hW => ?_, hK _ ?_⟩; (go_simp; first | done | exact rfl); clear hK K) | (refine hK _ ?_; clear hK K))
            refine wpOrd_nil ?_
            clear f1 f2 f3 f4
            generalize wr.drew = wr3 at *
            go_wp2
            go_roundw
            case rel => exact ⟨j + 1, by omega, by show _ = _; go_num, HU2.out⟩
            case measure => simp [intOf]; omega
        · obtain rfl : j = la.length := by omega
          have hja : ¬ ((la.length : Int) < (la.length : Int)) := by omega
          have HF := Lib.hid (HAB.out.2.2.then hu2 (fun _ _ h => h))
          obtain ⟨q4, hq4⟩ : ∃ q4, q4 = qq / 4 := ⟨_, rfl⟩
          have hqq4 : (qq : Int) / 4 = (q4 : Int) := by omega
          have hq1 : Hid (i / 4 ^ (m + 1) = q4) := by show _ = _; rw [hq4, HQ.out, Nat.pow_succ, Nat.div_div_eq_div_mul]
          have hw4 : IntKind.i64.wrap (q4 : Int) = (q4 : Int) := by rw [IntKind.wrap_i64]; have h1 := HE.out.1; have h2 := HE.out.2.2.2.2.2.1; have := HN.out.2; omega
          clear hu2 hj hjl hq4
          go_wp2
          go_roundw
          case rel => exact ⟨m + 1, by omega, by show _ = _; go_num, by rw [hq1.out], HF.out⟩
          case measure => simp [intOf]; omega
    · obtain rfl : m = depthM n := by omega
      have hmd : ¬ ((depthM n : Int) < (depthM n : Int)) := by omega
      go_wp2_with fail
      refine (tree_Depth HK.out.2.1).mono ?_
      rw [e1]
      rintro e0 W ⟨rfl, rfl⟩
      go_wp2_with fail
      refine (tree_Depth HK.out.2.1).mono ?_
      rw [e1]
      rintro e0 W ⟨rfl, rfl⟩
      go_wp2_with fail
      refine (tree_Depth HK.out.2.2).mono ?_
      rw [e2]
      rintro e0 W ⟨rfl, rfl⟩
      have HF := Lib.hid (HW.out.1.then HK.out.1 (fun _ _ h => h))
      go_wp2
      go_ret
      exact ⟨by simp, HF.out⟩
set_option maxRecDepth 100000 in
theorem TreePath_lifted (os : Os) (started : os.Started) (H : Type) (enc : TypeId × Value → H) :
    ReturnsInHanded {} Try.checked os 4 .any (Rows.treePathSpec.pre6 enc Try.prog Try.f4 Rows.treePathRow.domain false) (Rows.treePathSpec.post enc Try.prog Try.f4 false true false false) := by
  refine law_lifted os started Try.func4 (by kernel_rfl) rfl rfl (by kernel_rfl) ?_
    (ChangeSpec.witness6 (enc := enc) (C := Try.checked) false ⟨#[], #[.int .i64 0, .int .i64 0, .slice none 0 0], []⟩ 8 (by kernel_rfl) (by kernel_rfl) (by kernel_rfl) (by kernel_rfl)) ?_
  · intro ds h
    rw [Try.params4] at h
    match ds, h with
    | [d0, d1, d2], _ => rfl
  · intro W base args ds ps hval hA hsz
    rw [Try.params4] at hA hval hsz
    obtain ⟨v0, vs0, d0, ds0, p0, q0, hargs, rfl, rfl, h0, r_0⟩ := trodAll_cons hA
    obtain ⟨v1, vs1, d1, ds1, p1, q1, rfl, rfl, rfl, h1, r_1⟩ := trodAll_cons r_0
    obtain ⟨v2, vs2, d2, ds2, p2, q2, rfl, rfl, rfl, h2, r_2⟩ := trodAll_cons r_1
    obtain ⟨rfl, rfl, rfl⟩ := trodAll_nil r_2
    obtain rfl : args = #[v0, v1, v2] := by cases args; simp_all
    obtain ⟨a0, rfl, rfl, rfl, w0⟩ := open_int Try.underlying3 (hval 0 3 v0 rfl rfl) h0
    obtain ⟨a1, rfl, rfl, rfl, w1⟩ := open_int Try.underlying3 (hval 1 3 v1 rfl rfl) h1
    obtain ⟨A2, n2, c2, rfl⟩ := okWide_slice Try.underlying32 (hval 2 32 v2 rfl rfl)
    have r2 := ReadsAs.of_trod hsz (j := 2) rfl rfl h2
    obtain ⟨x, R, hcs, hx, _⟩ := open_bytes r2
    obtain ⟨xA, xn, xc⟩ := x
    simp only [Value.cells, SlC.v, List.cons.injEq, Value.slice.injEq, and_true] at hcs
    obtain ⟨rfl, rfl, rfl⟩ := hcs
    exact TreePath_walk a0 a1 ⟨_, _, _⟩ R W w0 w1 hx

theorem TreePath_holds : Rows.TreePathSaid :=
  OpenClaim.holds_of_wide 4 Try.f4 rfl rfl rfl rfl rfl rfl rfl ⟨rfl, rfl, rfl, rfl, rfl⟩ rfl rfl rfl rfl rfl (by kernel_rfl) Try.func4 (by kernel_rfl)
    (of_decide_eq_true (by kernel_rfl)) (by unfold Func.isWrapper; first | (rw [if_pos (by decide +kernel)]; kernel_rfl) | (rw [if_neg (by decide +kernel)]; exact ⟨rfl, rfl⟩))
    (fun os started H enc _ => TreePath_lifted os started H enc)
end Go.Proofs.Ytjimamgghkgdeaa
