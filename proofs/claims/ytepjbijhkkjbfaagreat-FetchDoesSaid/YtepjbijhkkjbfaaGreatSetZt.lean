import Derived.Test.YtepjbijhkkjbfaaGreatSetZs
import Derived.Test.YtepjbijhkkjbfaaGreatSetZi
import Derived.Test.YtepjbijhkkjbfaaGreatSetZh
import Derived.Test.YtepjbijhkkjbfaaGreatSetZg
set_option linter.unusedVariables false
set_option linter.unusedSimpArgs false
namespace Go.Proofs.YtepjbijhkkjbfaaGreat
open Go.RowKit
attribute [local irreducible] wpOrd
set_option maxHeartbeats 1600000 in
set_option maxRecDepth 20000 in
theorem eq_bytes_all {w : World} {A A2 : Option Addr} {R R2 : Bytes} (c c2 : Nat) (h1 : Byt w A R) (h2 : Byt w A2 R2) (l1 : R.length ≤ 140737488351232) :
    Calls Tryz.prog 18 #[.slice A R.length c, .slice A2 R2.length c2] w fun e W => e = .returned (.bool (decide (R = R2))) ∧ Kept w W := by
  have HX := Lib.hid (And.intro h1 h2); clear h1 h2
  by_cases hll : R.length = R2.length
  · have HL := Lib.hid (And.intro hll l1)
    rw [← hll]; clear hll l1
    go_enter Tryz.func18, Tryz.ntmps18
    go_wp2_with fail
    go_loopw [5] (fun u1 wr => ∃ k : Nat, k ≤ R.length ∧ u1 = .int .i64 k ∧ R.take k = R2.take k ∧ Kept w wr) (fun u1 _ => 281474976710656 - (intOf u1).toNat)
    case atStart => exact ⟨0, Nat.zero_le _, rfl, by trivial, Upd.refl _ _⟩
    case round =>
      obtain ⟨k, hk, rfl, he, hu⟩ := hrel; rcases Nat.lt_or_ge k R.length with hlt | hge
      · have hlt2 : k < R2.length := by have := HL.out.1; omega
        have hk' : (k : Int) < (R.length : Int) := by omega
        have hw : IntKind.i64.wrap ((k : Int) + 1) = ((k + 1 : Nat) : Int) := by rw [IntKind.wrap_i64]; have := HL.out.2; omega
        obtain ⟨b, off, rfl, hc⟩ := (HX.out.1.kept hu).get hlt; obtain ⟨b2, off2, rfl, hc2⟩ := (HX.out.2.kept hu).get hlt2; have HS := Lib.hid (show R[k] = R2[k] → R.take (k + 1) = R2.take (k + 1) from fun e => by rw [List.take_succ_eq_append_getElem hlt, List.take_succ_eq_append_getElem hlt2, he, e]); have HN := Lib.hid (show R[k] ≠ R2[k] → R ≠ R2 from fun e e2 => e (by subst e2; rfl)); have f1 : ∀ W, Kept wr W → W.cell? ⟨b, off + k, none⟩ = some (.int .u8 (R[k].toNat : Int)) := fun W hW => hW.cell hc id; have f2 : ∀ W, Kept wr W → W.cell? ⟨b2, off2 + k, none⟩ = some (.int .u8 (R2[k].toNat : Int)) := fun W hW => hW.cell hc2 id; generalize R[k] = x at *; generalize R2[k] = y at *; have HK := Lib.hid (And.intro hlt (show Kept w wr.drew from hu.drew)); have hud : Kept wr wr.drew := (Upd.refl _ wr).drew; clear he hc hc2 hlt hlt2 hk hu
        by_cases hxy : x = y
        · subst hxy
          go_wp2_with fail; refine wp_region_ord [(0, true), (1, true), (2, true), (3, true), (4, true), (5, true), (6, true), (7, true), (8, true)] (by kernel_rfl) (by kernel_rfl) (Kept wr) hud ?_; simp only [ordOps, List.getD_cons_zero, List.getD_cons_succ]
          iterate 9 (refine wpOrd_held (fun K hK => ?_); go_simp; first | (apply Exists.intro; refine ⟨fun W hW => ?_, hK _ ?_⟩; (go_simp; first | done | exact rfl); clear hK K) | (refine hK _ ?_; clear hK K))
          refine wpOrd_nil ?_; clear f1 f2 hud; go_wp2
          go_roundw
          case rel => exact ⟨k + 1, by have := HK.out.1; omega, by show _ = _; go_num, HS.out (by trivial), HK.out.2⟩
          case measure => have := HK.out.1; have := HL.out.2; simp [intOf]; omega
        · have hne : ¬ ((x.toNat : Int) = (y.toNat : Int)) := fun e => hxy (u8_inj e)
          have hne2 : ¬ (x.toNat = y.toNat) := fun e => hne (by rw [e]); have hd : decide (R = R2) = false := decide_eq_false (HN.out hxy); have HD := Lib.hid hd; clear hxy hd; go_wp2_with fail; refine wp_region_ord [(0, true), (1, true), (2, true), (3, true), (4, true), (5, true), (6, true), (7, true), (8, true)] (by kernel_rfl) (by kernel_rfl) (Kept wr) hud ?_; simp only [ordOps, List.getD_cons_zero, List.getD_cons_succ]
          iterate 9 (refine wpOrd_held (fun K hK => ?_); go_simp; first | (apply Exists.intro; refine ⟨fun W hW => ?_, hK _ ?_⟩; (go_simp; first | done | exact rfl); clear hK K) | (refine hK _ ?_; clear hK K))
          refine wpOrd_nil ?_; clear f1 f2 hud; go_wp2
          go_ret
          exact ⟨by rw [HD.out]; rfl, HK.out.2⟩
      · obtain rfl : k = R.length := by omega
        have hk' : ¬ ((R.length : Int) < (R.length : Int)) := by omega
        have hd : decide (R = R2) = true := decide_eq_true (by
          have h3 : R2.take R.length = R2 := by rw [HL.out.1, List.take_length]
          rwa [List.take_length, h3] at he)
        have HD := Lib.hid (And.intro hd hu); clear hd hu he hk hge; go_wp2
        go_ret
        exact ⟨by rw [HD.out.1]; rfl, HD.out.2⟩
  · have hd : decide (R = R2) = false := decide_eq_false (fun e => hll (by rw [e]))
    have hne : ¬ ((R.length : Int) = (R2.length : Int)) := by omega
    have HD := Lib.hid hd; clear hd HX
    go_enter Tryz.func18, Tryz.ntmps18
    go_wp2
    go_ret
    exact ⟨by rw [HD.out]; rfl, Upd.refl _ _⟩
set_option maxHeartbeats 1600000 in
set_option maxRecDepth 20000 in
theorem same_leaves {w : World} {A A2 : Option Addr} {l l2 : List (SlC × Bytes)} (c c2 : Nat) (h1 : LeavesAt w A l) (h2 : LeavesAt w A2 l2) (l1 : l.length ≤ 140737488351232) :
    Calls Tryz.prog 9 #[.slice A l.length c, .slice A2 l2.length c2] w fun e W => e = .returned (.bool (decide (secs l = secs l2))) ∧ Kept w W := by
  by_cases hll : l.length = l2.length
  · have HX := Lib.hid (And.intro h1 (And.intro h2 (And.intro hll l1)))
    rw [← hll]; clear h1 h2 hll l1; obtain ⟨n, hn⟩ : ∃ n, n = l.length := ⟨_, rfl⟩; rw [← hn]; have HN := Lib.hid hn; clear hn; have hnot : ∀ (x : Bool) (w : World), (Op.unary .not (.bool x)).run Tryz.prog w = .ok (.bool (!x)) w := fun _ _ => rfl
    go_enter Tryz.func9, Tryz.ntmps9
    go_wp2_with fail
    go_loopw [5] (fun u1 wr => ∃ k : Nat, k ≤ n ∧ u1 = .int .i64 k ∧ (secs l).take k = (secs l2).take k ∧ Kept w wr) (fun u1 _ => 281474976710656 - (intOf u1).toNat)
    case atStart => exact ⟨0, Nat.zero_le _, rfl, by trivial, Upd.refl _ _⟩
    case round =>
      obtain ⟨k, hk, rfl, he, hu⟩ := hrel; rcases Nat.lt_or_ge k n with hlt | hge
      · have hk' : (k : Int) < (n : Int) := by omega
        have hk1 : k < l.length := by rw [← HN.out]; exact hlt
        have hk2 : k < l2.length := by rw [← HX.out.2.2.1]; exact hk1
        have hw : IntKind.i64.wrap ((k : Int) + 1) = ((k + 1 : Nat) : Int) := by rw [IntKind.wrap_i64]; have := HX.out.2.2.2; omega
        obtain ⟨g1, o1, A1, c1, hA1, -, hR1, hcell1⟩ := leaf_cell HX.out.1 hk1; obtain ⟨g2, o2, A3, c3, hA2, -, hR2, hcell2⟩ := leaf_cell HX.out.2.1 hk2; have hs1 : (secs l).take (k + 1) = (secs l).take k ++ [l[k].2] := by
          rw [List.take_succ_eq_append_getElem (by rw [List.length_map]; exact hk1), List.getElem_map]
        have hs2 : (secs l2).take (k + 1) = (secs l2).take k ++ [l2[k].2] := by
          rw [List.take_succ_eq_append_getElem (by rw [List.length_map]; exact hk2), List.getElem_map]
        have HS := Lib.hid (show l[k].2 = l2[k].2 → (secs l).take (k + 1) = (secs l2).take (k + 1) from fun e => by rw [hs1, hs2, he, e]); have HD := Lib.hid (show l[k].2 ≠ l2[k].2 → secs l ≠ secs l2 from fun e e2 => e (by
          have h3 := congrArg (·[k]?) e2; simpa [secs, hk1, hk2] using h3))
        subst hA1 hA2; generalize l[k].2 = R1 at *; generalize l2[k].2 = R2 at *; have f1 : ∀ W, Kept wr W → W.cell? ⟨g1, o1 + k, none⟩ = some (.slice A1 R1.length c1) := fun W hW => (hcell1 W (hu.then hW (fun _ _ h => h))).1; have f2 : ∀ W, Kept wr W → W.cell? ⟨g2, o2 + k, none⟩ = some (.slice A3 R2.length c3) := fun W hW => (hcell2 W (hu.then hW (fun _ _ h => h))).1; have hud : Kept wr wr.drew := (Upd.refl _ wr).drew; have HG := eq_bytes_all c1 c3 (hcell1 wr.drew hu.drew).2 (hcell2 wr.drew hu.drew).2 hR1; have HK := Lib.hid (And.intro hlt (show Kept w wr.drew from hu.drew)); have HKB := Lib.hid (show k < 140737488351232 by have := HX.out.2.2.2; omega); clear he hcell1 hcell2 hs1 hs2 hlt hk hu hk1 hk2 hR1 hR2; go_wp2_with fail; refine wp_region_ord [(0, true), (1, true), (2, true), (3, true), (4, true), (5, true), (6, true), (7, true), (8, false), (9, true)] (by kernel_rfl) (by kernel_rfl) (Kept wr) hud ?_; simp only [ordOps, List.getD_cons_zero, List.getD_cons_succ]
        iterate 8 (refine wpOrd_held (fun K hK => ?_); go_simp; first | (apply Exists.intro; refine ⟨fun W hW => ?_, hK _ ?_⟩; (go_simp; first | done | exact rfl); clear hK K) | (refine hK _ ?_; clear hK K))
        clear f1 f2; generalize wr.drew = wd at *; refine wpOrd_step (fun K hK => ?_) hud; go_simp; refine HG.mono ?_; clear HG; rintro e w5 ⟨rfl, hu5⟩; have hS5 := hud.then hu5 (fun _ _ h => h); have HF := Lib.hid (show Kept w w5 from HK.out.2.then hu5 (fun _ _ h => h)); refine hK _ _ hS5 ?_; clear hK K
        by_cases hxy : R1 = R2
        · rw [decide_eq_true hxy]
          have HT := Lib.hid (HS.out hxy)
          iterate 1 (refine wpOrd_held (fun K hK => ?_); go_simp; first | (apply Exists.intro; refine ⟨fun W hW => ?_, hK _ ?_⟩; (go_simp; first | done | exact rfl); clear hK K) | (refine hK _ ?_; clear hK K))
          refine wpOrd_nil ?_; clear hud hu5 hS5 hxy; go_wp2
          go_roundw
          case rel => exact ⟨k + 1, by have := HK.out.1; omega, by show _ = _; go_num, HT.out, HF.out⟩
          case measure => have := HK.out.1; have := HKB.out; simp [intOf]; omega
        · rw [decide_eq_false hxy]
          have HT := Lib.hid (show decide (secs l = secs l2) = false from decide_eq_false (HD.out hxy))
          iterate 1 (refine wpOrd_held (fun K hK => ?_); go_simp; first | (apply Exists.intro; refine ⟨fun W hW => ?_, hK _ ?_⟩; (go_simp; first | done | exact rfl); clear hK K) | (refine hK _ ?_; clear hK K))
          refine wpOrd_nil ?_; clear hud hu5 hS5 hxy; go_wp2
          go_ret
          exact ⟨by rw [HT.out]; rfl, HF.out⟩
      · obtain rfl : k = n := by omega
        have hk' : ¬ ((k : Int) < (k : Int)) := by omega
        have hd : decide (secs l = secs l2) = true := decide_eq_true (by
          rw [List.take_of_length_le (by rw [List.length_map, ← HN.out]; exact Nat.le_refl _), List.take_of_length_le (by rw [List.length_map, ← HX.out.2.2.1, ← HN.out]; exact Nat.le_refl _)] at he; exact he)
        have HD := Lib.hid (And.intro hd hu); clear hd hu he hk hge; go_wp2
        go_ret
        exact ⟨by rw [HD.out.1]; rfl, HD.out.2⟩
  · have hd : decide (secs l = secs l2) = false := decide_eq_false (fun e => hll (by have := congrArg List.length e; simpa using this))
    have hne : ¬ ((l.length : Int) = (l2.length : Int)) := by omega
    have HD := Lib.hid hd; clear hd h1 h2 l1
    go_enter Tryz.func9, Tryz.ntmps9
    go_wp2
    go_ret
    exact ⟨by rw [HD.out]; rfl, Upd.refl _ _⟩
end Go.Proofs.YtepjbijhkkjbfaaGreat
namespace Go.Proofs.YtepjbijhkkjbfaaGreat
open Go.RowKit
attribute [local irreducible] wpOrd
structure Mad (w0 W : World) (b r q lo hi t : Nat) (L : List Bytes) (v : Value) (lv : List (SlC × Bytes)) : Prop where
  ink : Ink0 w0 W b r q L
  tree : TreeAt W lo hi t b ((secs lv).map (leafM shaM))
  lo : w0.heap.size ≤ lo
  noted : Noted L (secs lv)
  own : OwnLv W w0.heap.size v lv
  ne : 1 ≤ lv.length
  le : lv.length ≤ 60
  len : ∀ R ∈ secs lv, R.length < 65536
def Dull (W : World) (S : Nat → Prop) : Prop := ∀ k cs t fr, W.heap[k]? = some (.cells cs t fr) → t ≠ 79 → ¬ S k
section
variable {w0 W W' : World} {b r q lo hi t : Nat} {L L' : List Bytes} {v : Value} {lv : List (SlC × Bytes)} {S T : Nat → Prop}
theorem Dull.nil (W : World) : Dull W (fun _ => False) := fun _ _ _ _ _ _ => id
theorem Dull.book (h : BookL W b r q L) : Dull W (Book3 b r q) := fun _ _ _ _ hk ht => h.not hk ht
theorem Dull.or (h : Dull W S) (h2 : Dull W T) : Dull W (fun k => S k ∨ T k) := fun k cs t fr hk ht e => e.elim (h k cs t fr hk ht) (h2 k cs t fr hk ht)
theorem Dull.maps {m1 m2 : Nat} (h1 : ∃ es c, W.heap[m1]? = some (.map es c)) (h2 : ∃ es c, W.heap[m2]? = some (.map es c)) : Dull W (Maps2 m1 m2) := fun _ _ _ _ hk _ e => by
  rcases e with e | e
  · exact cells_ne_map hk h1 e.symm
  · exact cells_ne_map hk h2 e.symm
theorem OwnLv.dull {B : Nat} (h : OwnLv W B v lv) (hd : Dull W S) (hu : Upd S W W') : OwnLv W' B v lv :=
  h.upd2 hu (fun k ⟨cs, t, fr, hc, ht⟩ => hd k cs t fr hc (by rcases ht with rfl | rfl <;> decide))
theorem Mad.step (h : Mad w0 W b r q lo hi t L v lv) (hb : BookL W' b r q L') (hs : ∀ x ∈ L, x ∈ L') (hu : Upd S W W') (hd : Dull W S) (hS : ∀ k, S k → Book3 b r q k ∨ w0.heap.size ≤ k) : Mad w0 W' b r q lo hi t L' v lv :=
  ⟨h.ink.step hb hu hS, h.tree.upd hu (fun k _ _ ⟨_, _, hc, ht⟩ => hd k _ _ _ hc ht), h.lo, h.noted.more hs, h.own.dull hd hu, h.ne, h.le, h.len⟩
theorem Mad.kept (h : Mad w0 W b r q lo hi t L v lv) (hu : Kept W W') : Mad w0 W' b r q lo hi t L v lv := h.step (h.ink.book.kept hu) (fun _ h => h) hu (Dull.nil W) (fun _ e => e.elim)
theorem Mad.to (h : Mad w0 W b r q lo hi t L v lv) (hb : BookL W' b r q L') (hs : ∀ x ∈ L, x ∈ L') (hu : Upd (Book3 b r q) W W') : Mad w0 W' b r q lo hi t L' v lv := h.step hb hs hu (Dull.book h.ink.book) (fun _ e => .inl e)
end
set_option maxHeartbeats 1600000 in
set_option maxRecDepth 20000 in
theorem law21_made {w0 w : World} {b r q : Nat} {L : List Bytes} (hI : Ink0 w0 w b r q L) {A : Option Addr} {l : List (SlC × Bytes)} (c : Nat) (hO : OwnLv w w0.heap.size (.slice A l.length c) l) (h1 : 1 ≤ l.length) (hl : l.length ≤ 60) (hs : ∀ R ∈ secs l, R.length < 65536) :
    Calls Tryz.prog 31 #[.pointer (some ⟨b, 0, none⟩), .slice A l.length c] w fun e W => ∃ t, e = .returned (.pointer (some ⟨t, 0, none⟩)) ∧ ∃ lo hi L', Mad w0 W b r q lo hi t L' (.slice A l.length c) l ∧ (∀ x ∈ L, x ∈ L') ∧ Upd (Book3 b r q) w W := by
  have HG := tree_New hI.book l.length h1 (by omega); have HX := Lib.hid (And.intro hI (And.intro hO (And.intro h1 (And.intro hl hs)))); clear hI hO h1 hl hs; obtain ⟨n, hn⟩ : ∃ n, n = l.length := ⟨_, rfl⟩; rw [← hn] at HG ⊢; have HNN := Lib.hid hn; clear hn
  go_enter Tryz.func31, Tryz.ntmps31
  go_wp2_with fail; refine HG.mono ?_; clear HG; rintro e w2 ⟨t, rfl, htlo, hT, hb, hu⟩; have HT := Lib.hid (And.intro hT (And.intro hb hu)); clear hT hb hu htlo; go_wp2_with fail; obtain ⟨lo, hlo⟩ : ∃ lo, lo = w.heap.size := ⟨_, rfl⟩; obtain ⟨hi, hhi⟩ : ∃ hi, hi = w2.heap.size := ⟨_, rfl⟩; rw [← hlo, ← hhi] at HT
  replace hlo := Lib.hid hlo
  clear hhi
  go_loopw [7] (fun u1 wr => ∃ (k : Nat) (D : List Dig) (L' : List Bytes), k ≤ n ∧ u1 = .int .i64 k ∧ D.length = n ∧ (∀ j, j < k → D[j]? = (leafD l)[j]?) ∧ TreeAt wr lo hi t b D ∧ BookL wr b r q L' ∧ InsIn L' D ∧ (∀ R ∈ (secs l).take k, leafIn R ∈ L') ∧ (∀ x ∈ L, x ∈ L') ∧ Upd (Book3 b r q) w wr) (fun u1 _ => 2000 - (intOf u1).toNat)
  case atStart =>
    exact ⟨0, _, _, Nat.zero_le _, rfl, List.length_replicate, fun j hj => absurd hj (Nat.not_lt_zero j), HT.out.1, HT.out.2.1, InsIn.new _ _, by simp, fun x hx => mem_notesM.2 (.inl (mem_noteM.2 (.inl hx))), HT.out.2.2⟩
  case round =>
    clear HT; obtain ⟨k, D, L', hk, rfl, hDn, hDk, hT, hb, hins, hlf, hLL, hu⟩ := hrel; have hOr := HX.out.2.1.dull (Dull.book HX.out.1.book) hu; rcases Nat.lt_or_ge k n with hlt | hge
    · have hk1 : (k : Int) < (n : Int) := by omega
      have hk1024 : (k : Int) ≤ 1024 := by have := HX.out.2.2.2.1; have := HNN.out; omega
      have hkl : k < l.length := by have := HNN.out; omega
      obtain ⟨g1, o1, A1, c1, hA1, hc1, hR1, -⟩ := (LeavesAt.get (l := l) hOr.leaves hkl); have hRl : l[k].2.length < 65536 := HX.out.2.2.2.2 _ (List.mem_map_of_mem (List.getElem_mem hkl)); have hsk : (secs l)[k]? = some l[k].2 := by simp [secs, hkl]
      subst hA1; generalize l[k].2 = R at *; have HS := tree_Set hb hT c1 hR1 hRl k (by omega); have HQ := Lib.hid (And.intro hDn (And.intro hDk (And.intro hins (And.intro hlf (And.intro hLL (And.intro hu (And.intro hsk hlt))))))); clear hDn hDk hT hb hins hlf hLL hu hsk hlt hk hR1 hRl hkl hOr; go_wp2_with fail; clear hc1; refine HS.mono ?_; clear HS; rintro e we ⟨rfl, hTe, hbe, hue⟩; have hSe : Upd (Book3 b r q) w we := HQ.out.2.2.2.2.2.1.then hue (fun i hi e => e.elim id (fun e => by have := hlo.out; omega)); have HF := Lib.hid (And.intro hTe (And.intro hbe hSe)); have HG2 := Lib.hid (HQ.out.2.2.1.set (i := k) (by rw [HQ.out.1]; exact HQ.out.2.2.2.2.2.2.2) (leafIn R) (leafM shaM R)); clear hTe hbe hue hSe; go_wp2
      go_roundw
      case rel =>
        obtain ⟨hDn, hDk, hins, hlf, hLL, hu, hsk, hlt⟩ := HQ.out; refine ⟨k + 1, _, _, by omega, by show _ = _; go_num, by rw [List.length_set, hDn], fun j hj => ?_, HF.out.1, HF.out.2.1, HG2.out, fun R' hR' => ?_, fun x hx => mem_notesM.2 (.inl (mem_noteM.2 (.inl (hLL x hx)))), HF.out.2.2⟩
        · by_cases hjk : j = k
          · subst hjk
            rw [List.getElem?_set_self (by omega), leafD_secs, List.getElem?_map, hsk]; rfl
          · rw [List.getElem?_set_ne (fun e => hjk e.symm)]
            exact hDk j (by omega)
        · have hkb : k < (secs l).length := (List.getElem?_eq_some_iff.1 hsk).1
          rw [List.take_succ_eq_append_getElem hkb] at hR'; rcases List.mem_append.1 hR' with h1 | h1
          · exact mem_notesM.2 (.inl (mem_noteM.2 (.inl (hlf R' h1))))
          · simp only [List.mem_singleton] at h1
            have h2 := (List.getElem?_eq_some_iff.1 hsk).2; rw [h1, h2]; exact mem_notesM.2 (.inl (mem_noteM.2 (.inr rfl)))
      case measure => have := HQ.out.2.2.2.2.2.2.2; have := HX.out.2.2.2.1; have := HNN.out; simp [intOf]; omega
    · obtain rfl : k = n := by omega
      have hk1 : ¬ ((k : Int) < (k : Int)) := by omega
      have hDl : D = leafD l := List.ext_getElem? fun j => by
        rcases Nat.lt_or_ge j k with h1 | h1
        · exact hDk j h1
        · rw [List.getElem?_eq_none (by omega), List.getElem?_eq_none (by rw [leafD_length, ← HNN.out]; exact h1)]
      have HF : Hid (Mad w0 wr b r q lo hi t L' (.slice A l.length c) l ∧ (∀ x ∈ L, x ∈ L') ∧ Upd (Book3 b r q) w wr) := by
        rw [List.take_of_length_le (by rw [List.length_map, ← HNN.out]; exact Nat.le_refl _)] at hlf; rw [hDl, leafD_secs] at hT hins; exact ⟨⟨HX.out.1.to hb hu, hT, by rw [hlo.out]; exact HX.out.1.upd.size, ⟨hins, hlf⟩, hOr, HX.out.2.2.1, HX.out.2.2.2.1, HX.out.2.2.2.2⟩, hLL, hu⟩
      have HNN2 := Lib.hid HNN.out; clear hDn hDk hT hb hins hlf hLL hu hge hk hDl hOr HNN; go_wp2
      go_ret
      rw [HNN2.out]; exact ⟨_, rfl, _, _, _, HF.out⟩
structure FW (w0 W : World) (b r q lo hi t : Nat) (L : List Bytes) (v : Value) (lv : List (SlC × Bytes)) (B f m1 m2 : Nat) (root : Dig) (O : Option (List Bytes)) (s : KM × BM) (gs cs : Nat) (hv ov : Value) : Prop where
  mad : Mad w0 W b r q lo hi t L v lv
  fet : FetI NoT W B f m1 m2 b r q lv.length root O s gs cs hv ov
  hB : w0.heap.size ≤ B
section
variable {w0 W W' : World} {b r q lo hi t : Nat} {L L' : List Bytes} {v : Value} {lv : List (SlC × Bytes)} {B f m1 m2 gs cs : Nat} {root : Dig} {O : Option (List Bytes)} {s s' : KM × BM} {hv ov : Value}
theorem FW.kept (h : FW w0 W b r q lo hi t L v lv B f m1 m2 root O s gs cs hv ov) (hu : Kept W W') : FW w0 W' b r q lo hi t L v lv B f m1 m2 root O s gs cs hv ov := ⟨h.mad.kept hu, h.fet.kept hu, h.hB⟩
theorem FW.step (h : FW w0 W b r q lo hi t L v lv B f m1 m2 root O s gs cs hv ov) (hb : BookL W' b r q L') (hs : ∀ x ∈ L, x ∈ L') (hf : FetI NoT W' B f m1 m2 b r q lv.length root O s' gs cs hv ov) (hu : Upd (fun k => Book3 b r q k ∨ Maps2 m1 m2 k) W W') : FW w0 W' b r q lo hi t L' v lv B f m1 m2 root O s' gs cs hv ov :=
  ⟨h.mad.step hb hs hu (Dull.or (Dull.book h.mad.ink.book) (Dull.maps h.fet.k.map h.fet.m.map)) (fun k e => e.imp id fun e => by have := h.fet.b1; have := h.fet.b2; have := h.hB; rcases e with e | e <;> omega), hf, h.hB⟩
theorem fw_Leaf (h : FW w0 W b r q lo hi t L v lv B f m1 m2 root O s gs cs hv ov) (place : Int) {A : Option Addr} {R : Bytes} (c : Nat) (hR : Byt W A R) (hlen : R.length ≤ 140737488351232) :
    Calls Tryz.prog 16 #[.pointer (some ⟨f, 0, none⟩), .int .i64 place, .slice A R.length c] W fun e W' => e = .returned (.int .i64 (leafE lv.length s place R)) ∧ (∃ L', FW w0 W' b r q lo hi t L' v lv B f m1 m2 root O (leafS lv.length s place R) gs cs hv ov ∧ (∀ x ∈ L, x ∈ L') ∧ (leafE lv.length s place R = 0 → leafIn R ∈ L')) ∧ Upd (fun k => Book3 b r q k ∨ Maps2 m1 m2 k) W W' :=
  (fetch_Leaf (fun _ e => False.elim e) h.fet h.mad.ink.book place c hR hlen).mono fun e W' ⟨he, ⟨L', hb, hs, hi⟩, hf, hu⟩ => ⟨he, ⟨L', h.step hb hs hf (hu.mono fun k _ e => e.imp id .inr), hs, hi⟩, hu.mono fun k _ e => e.imp id .inr⟩
theorem fw_Parts (h : FW w0 W b r q lo hi t L v lv B f m1 m2 root O s gs cs hv ov) (l p : Int) {A : Option Addr} {D : List Dig} (c : Nat) (hD : Digs W A D) :
    Calls Tryz.prog 13 #[.pointer (some ⟨f, 0, none⟩), .int .i64 l, .int .i64 p, .slice A D.length c] W fun e W' => e = .returned (.int .i64 (partsE lv.length s l p D)) ∧ (∃ L', FW w0 W' b r q lo hi t L' v lv B f m1 m2 root O (partsS lv.length O s l p D) gs cs hv ov ∧ (∀ x ∈ L, x ∈ L') ∧ (partsE lv.length s l p D = 0 → upIn D ∈ L')) ∧ Upd (fun k => Book3 b r q k ∨ Maps2 m1 m2 k) W W' :=
  (fetch_Parts h.fet h.mad.ink.book l p c hD).mono fun e W' ⟨he, ⟨L', hb, hs, hi⟩, hf, hu⟩ => ⟨he, ⟨L', h.step hb hs hf hu, hs, hi⟩, hu⟩
end
end Go.Proofs.YtepjbijhkkjbfaaGreat
namespace Go.Proofs.YtepjbijhkkjbfaaGreat
open Go.RowKit
attribute [local irreducible] wpOrd
def ansT (s : KM × BM) (ls : List Bytes) : Bool := match askM ls.length s with
  | none => true
  | some (0, p) => decide (leafE ls.length s (p : Int) (ls.getD p []) = 0)
  | some (l + 1, p) => decide (partsE ls.length s ((l + 1 : Nat) : Int) (p : Int) (kidsB ls l p) = 0)
def ansS (O : Option (List Bytes)) (s : KM × BM) (ls : List Bytes) : KM × BM := match askM ls.length s with
  | none => s
  | some (0, p) => leafS ls.length s (p : Int) (ls.getD p [])
  | some (l + 1, p) => partsS ls.length O s ((l + 1 : Nat) : Int) (p : Int) (kidsB ls l p)
section
variable {w0 W : World} {b r q lo hi t : Nat} {L : List Bytes} {lv : List (SlC × Bytes)} {B f m1 m2 gs cs : Nat} {root : Dig} {O : Option (List Bytes)} {s : KM × BM} {hv ov : Value} {A : Option Addr}
set_option maxHeartbeats 1600000 in
set_option maxRecDepth 20000 in
theorem law21_answers (c : Nat) (h : FW w0 W b r q lo hi t L (.slice A lv.length c) lv B f m1 m2 root O s gs cs hv ov) :
    Calls Tryz.prog 35 #[.pointer (some ⟨f, 0, none⟩), .pointer (some ⟨t, 0, none⟩), .slice A lv.length c] W fun e W' => e = .returned (.tuple #[.bool (askM lv.length s).isSome, .bool (ansT s (secs lv))]) ∧ (∃ L', FW w0 W' b r q lo hi t L' (.slice A lv.length c) lv B f m1 m2 root O (ansS O s (secs lv)) gs cs hv ov ∧ (∀ x ∈ L, x ∈ L')) ∧ Upd (fun k => Book3 b r q k ∨ Maps2 m1 m2 k) W W' := by
  have hnot : ∀ (x : Bool) (w : World), (Op.unary .not (.bool x)).run Tryz.prog w = .ok (.bool (!x)) w := fun _ _ => rfl; have HG := fetch_Ask h.fet; have HX := Lib.hid h; have hsl : (secs lv).length = lv.length := List.length_map _; have HSL := Lib.hid hsl; clear h hsl; cases ha : askM lv.length s with
  | none =>
    rw [ha] at HG; unfold askV at HG; have HE : Hid (ansT s (secs lv) = true ∧ ansS O s (secs lv) = s) := by
      show _ ∧ _; unfold ansT ansS; rw [HSL.out, ha]; exact ⟨rfl, rfl⟩
    clear ha
    go_enter Tryz.func35, Tryz.ntmps35
    go_wp2_with fail; refine HG.mono ?_; clear HG; rintro e W2 ⟨rfl, hu⟩; have HF := Lib.hid (And.intro (HX.out.kept hu) hu); clear HX hu; go_wp2
    go_ret2
    exact ⟨by rw [HE.out.1]; rfl, ⟨L, by rw [HE.out.2]; exact HF.out.1, fun _ h => h⟩, HF.out.2.to⟩
  | some x =>
    obtain ⟨l, p⟩ := x; rw [ha] at HG; unfold askV at HG; obtain ⟨hl, hp, -, -⟩ := askM_some ha; have hn := HX.out.mad.le; have hsz := HX.out.fet.sz l; have hdp := depthM_small HX.out.fet.n2; have HN := Lib.hid (And.intro hl (And.intro hp (And.intro hn (And.intro hsz hdp)))); cases l with
    | zero =>
      have HE : Hid (ansT s (secs lv) = decide (leafE lv.length s (p : Int) ((secs lv).getD p []) = 0) ∧ ansS O s (secs lv) = leafS lv.length s (p : Int) ((secs lv).getD p [])) := by
        show _ ∧ _; unfold ansT ansS; rw [HSL.out, ha]; exact ⟨rfl, rfl⟩
      have hpn : p < lv.length := hp; have hd0 : decide ((p : Int) < 0) = false := decide_eq_false (by omega); have hd1 : decide ((lv.length : Int) ≤ (p : Int)) = false := decide_eq_false (by omega); have hd2 : decide (lv.length ≤ p) = false := decide_eq_false (by omega); have hpi : (p : Int) < (lv.length : Int) := by omega
      have hl0 : ((0 : Nat) : Int) = 0 := rfl; have HPN := Lib.hid hpn; clear ha hl hp hn hsz hdp hpn; obtain ⟨n, hnn⟩ : ∃ n, n = lv.length := ⟨_, rfl⟩; rw [← hnn] at hd1 hd2 hpi; have HNN := Lib.hid hnn; rw [show Value.slice A lv.length c = Value.slice A n c by rw [hnn]]; clear hnn
      go_enter Tryz.func35, Tryz.ntmps35
      go_wp2_with fail; refine HG.mono ?_; clear HG; rintro e W2 ⟨rfl, hu⟩; have H2 := Lib.hid (And.intro (HX.out.kept hu) hu); have hpn : p < lv.length := HPN.out; clear HPN; obtain ⟨g1, o1, A1, c1, hA1, hc1, hR1, -⟩ := LeavesAt.get (l := lv) H2.out.1.mad.own.leaves hpn; have hR : lv[p].2 = (secs lv).getD p [] := by simp [secs, hpn]
      rw [hR] at hc1 hR1; have hlen : ((secs lv).getD p []).length < 65536 := H2.out.1.mad.len _ (getD_mem (by rw [HSL.out]; exact hpn)); subst hA1; clear hR HX hu hpn; generalize (secs lv).getD p [] = R at *; have HG := fw_Leaf H2.out.1 (p : Int) c1 hR1 (by omega); clear hR1 hlen; rw [← HNN.out] at HG HE; obtain ⟨z, hz⟩ : ∃ z, z = leafE n s (p : Int) R := ⟨_, rfl⟩; rw [← hz] at HG HE; clear hz; go_wp2_with fail; refine HG.mono ?_; clear HG; rintro e W3 ⟨rfl, ⟨L3, hF3, hs3, -⟩, hu3⟩; have HF := Lib.hid (And.intro hF3 (And.intro hs3 (show Upd (fun k => Book3 b r q k ∨ Maps2 m1 m2 k) W W3 from H2.out.2.to.trans hu3))); clear hF3 hs3 hu3 H2 hc1
      by_cases hz0 : z = 0
      · subst hz0
        go_wp2
        go_ret2
        exact ⟨by rw [HE.out.1]; rfl, ⟨L3, by rw [HE.out.2]; exact HF.out.1, HF.out.2.1⟩, HF.out.2.2⟩
      · have hzn : (z == 0) = false := by simpa using hz0
        have hzd : decide (z = 0) = false := decide_eq_false hz0; have HZD := Lib.hid hzd; go_wp2
        go_ret2
        exact ⟨by rw [HE.out.1, HZD.out]; rfl, ⟨L3, by rw [HE.out.2]; exact HF.out.1, HF.out.2.1⟩, HF.out.2.2⟩
    | succ l =>
      have HE : Hid (ansT s (secs lv) = decide (partsE lv.length s ((l + 1 : Nat) : Int) (p : Int) (kidsB (secs lv) l p) = 0) ∧ ansS O s (secs lv) = partsS lv.length O s ((l + 1 : Nat) : Int) (p : Int) (kidsB (secs lv) l p)) := by
        show _ ∧ _; unfold ansT ansS; rw [HSL.out, ha]; exact ⟨rfl, rfl⟩
      obtain ⟨k, hk⟩ : ∃ k, k = l + 1 := ⟨_, rfl⟩; rw [← hk] at HG HE; have HK := Lib.hid hk; have hk0 : ¬ (k : Int) = 0 := by omega
      have hk1 : ((k : Int) == 0) = false := by simp; omega
      have hk2 : (k : Int) ≤ 2000 := by omega
      clear ha hl hp hn hsz hdp hk; obtain ⟨n, hnn⟩ : ∃ n, n = lv.length := ⟨_, rfl⟩; have HNN := Lib.hid hnn; rw [show Value.slice A lv.length c = Value.slice A n c by rw [hnn]]; clear hnn
      go_enter Tryz.func35, Tryz.ntmps35
      go_wp2_with fail; refine HG.mono ?_; clear HG; rintro e W2 ⟨rfl, hu⟩; have hDl : ((secs lv).map (leafM shaM)).length = lv.length := by rw [List.length_map, HSL.out]
      obtain ⟨x0, e1, -, e2⟩ := lev_get (D := (secs lv).map (leafM shaM)) (l := l) (by rw [hDl]; have := HN.out.1; omega); obtain ⟨x1, e3, -, e4⟩ := lev_get (D := (secs lv).map (leafM shaM)) (l := l + 1) (by rw [hDl]; have := HN.out.1; omega); rw [hDl] at e4; have HG := proof_Parts (HX.out.kept hu).mad.tree l p e1 e3 (by rw [e4]; exact HN.out.2.1); rw [group_kids e1 (by rw [hDl]; have := HN.out.1; omega), ← HK.out] at HG; have H2 := Lib.hid (And.intro (HX.out.kept hu) hu); clear hDl e1 e2 e3 e4 HX hu; go_wp2_with fail; refine HG.mono ?_; clear HG; rintro e W3 ⟨v3, rfl, hv3, hu3⟩; obtain ⟨A3, c3, rfl, -, hd3⟩ := OwnD.digs hv3; have H3 := Lib.hid (And.intro (H2.out.1.kept hu3) (show Kept W W3 from H2.out.2.then hu3 (fun _ _ h => h))); have HG := fw_Parts H3.out.1 (k : Int) (p : Int) c3 hd3; clear hv3 hd3 hu3 H2
      change Calls Tryz.prog _ #[_, _, _, .slice A3 (kidsB (secs lv) l p).length c3] _ _ at HG
      obtain ⟨z, hz⟩ : ∃ z, z = partsE lv.length s (k : Int) (p : Int) (kidsB (secs lv) l p) := ⟨_, rfl⟩; rw [← hz] at HE
      change Calls Tryz.prog _ #[_, _, _, .slice A3 (kidsB (secs lv) l p).length c3] _ (fun e W' => e = .returned (.int .i64 (partsE lv.length s (k : Int) (p : Int) (kidsB (secs lv) l p))) ∧ _) at HG
      rw [← hz] at HG; clear hz; generalize (kidsB (secs lv) l p).length = kl at *; go_wp2_with fail; refine HG.mono ?_; clear HG; rintro e W4 ⟨rfl, ⟨L4, hF4, hs4, -⟩, hu4⟩; have HF := Lib.hid (And.intro hF4 (And.intro hs4 (show Upd (fun k => Book3 b r q k ∨ Maps2 m1 m2 k) W W4 from H3.out.2.to.trans hu4))); clear hF4 hs4 hu4 H3
      by_cases hz0 : z = 0
      · subst hz0
        go_wp2
        go_ret2
        exact ⟨by rw [HE.out.1]; rfl, ⟨L4, by rw [HE.out.2, HNN.out]; exact HF.out.1, HF.out.2.1⟩, HF.out.2.2⟩
      · have hzn : (z == 0) = false := by simpa using hz0
        have hzd : decide (z = 0) = false := decide_eq_false hz0; have HZD := Lib.hid hzd; go_wp2
        go_ret2
        exact ⟨by rw [HE.out.1, HZD.out]; rfl, ⟨L4, by rw [HE.out.2, HNN.out]; exact HF.out.1, HF.out.2.1⟩, HF.out.2.2⟩
set_option maxHeartbeats 1600000 in
set_option maxRecDepth 20000 in
theorem law21_asks {n : Nat} (h : FetI NoT W B f m1 m2 b r q n root O s gs cs hv ov) (l p : Nat) :
    Calls Tryz.prog 34 #[.pointer (some ⟨f, 0, none⟩), .int .i64 (l : Int), .int .i64 (p : Int)] W fun e W' => e = .returned (.bool (decide (askM n s = some (l, p)))) ∧ Kept W W' := by
  have HG := fetch_Ask h; clear h; cases ha : askM n s with
  | none =>
    rw [ha] at HG; unfold askV at HG; clear ha; rw [show decide ((none : Option (Nat × Nat)) = some (l, p)) = false from rfl]
    go_enter Tryz.func34, Tryz.ntmps34
    go_wp2_with fail; refine HG.mono ?_; clear HG; rintro e W2 ⟨rfl, hu⟩; have HF := Lib.hid hu; clear hu; go_wp2
    go_ret
    exact ⟨rfl, HF.out⟩
  | some x =>
    obtain ⟨l', p'⟩ := x; rw [ha] at HG; unfold askV at HG; clear ha
    by_cases h1 : l' = l
    · by_cases h2 : p' = p
      · subst h1 h2
        rw [decide_eq_true rfl]
        go_enter Tryz.func34, Tryz.ntmps34
        go_wp2_with fail; refine HG.mono ?_; clear HG; rintro e W2 ⟨rfl, hu⟩; have HF := Lib.hid hu; clear hu; go_wp2
        go_ret
        exact ⟨rfl, HF.out⟩
      · subst h1
        have h3 : ((p' : Int) == (p : Int)) = false := by simp; omega
        have h4 : decide (p' = p) = false := decide_eq_false h2; rw [decide_eq_false (show ¬ some (l', p') = some (l', p) from fun e => h2 (by simpa using e))]; have HP := Lib.hid h2
        go_enter Tryz.func34, Tryz.ntmps34
        go_wp2_with fail; refine HG.mono ?_; clear HG; rintro e W2 ⟨rfl, hu⟩; have HF := Lib.hid hu; clear hu; go_wp2
        go_ret
        exact ⟨rfl, HF.out⟩
    · have h3 : ((l' : Int) == (l : Int)) = false := by simp; omega
      have h4 : decide (l' = l) = false := decide_eq_false h1; rw [decide_eq_false (show ¬ some (l', p') = some (l, p) from fun e => h1 (by simp at e; exact e.1))]
      go_enter Tryz.func34, Tryz.ntmps34
      go_wp2_with fail; refine HG.mono ?_; clear HG; rintro e W2 ⟨rfl, hu⟩; have HF := Lib.hid hu; clear hu; go_wp2
      go_ret
      exact ⟨rfl, HF.out⟩
end
end Go.Proofs.YtepjbijhkkjbfaaGreat
namespace Go.Proofs.YtepjbijhkkjbfaaGreat
structure Good (n : Nat) (s : KM × BM) : Prop where
  sh : Shape n s NoEx
  top : (s.1 (depthM n - 1) 0).isSome = true
section
variable {n : Nat} {O : Option (List Bytes)} {s : KM × BM}
theorem good_beg (h1 : 1 ≤ n) (root : Dig) : Good n (begS n O root) := by
  have hd := depthM_pos n; have h0 : Shape n ((fun _ _ => none, fun _ => none) : KM × BM) NoEx := ⟨fun _ _ _ h => (by cases h), fun _ _ _ _ _ _ _ => rfl⟩; have hp : 0 < sizeL n (depthM n - 1) := by rw [depth_size h1]; omega
  exact ⟨h0.learn (by omega) hp (fun h2 => absurd h2 (by omega)), by rw [begS, learn_self hp]; rfl⟩
theorem partsE_zero {lv pl : Int} {D : List Dig} (h : partsE n s lv pl D = 0) : ∃ l p : Nat, lv = ((l + 1 : Nat) : Int) ∧ pl = (p : Int) ∧ l + 1 < depthM n ∧ p < sizeL n (l + 1) ∧ lacksM s (l + 1) p = true ∧ D.length = kidsM n l p ∧ s.1 (l + 1) p = some (upM shaM D) ∧ partsS n O s lv pl D = partsK n O l p D (kidsM n l p) s := by
  have h0 := h; unfold partsE at h
  by_cases h1 : 1 ≤ lv ∧ lv < depthM n ∧ 0 ≤ pl ∧ pl < sizeL n lv.toNat
  · rw [if_neg (fun h => h h1)] at h
    obtain ⟨l, rfl⟩ : ∃ l : Nat, lv = ((l + 1 : Nat) : Int) := ⟨(lv - 1).toNat, by omega⟩; obtain ⟨p, rfl⟩ : ∃ p : Nat, pl = (p : Int) := ⟨pl.toNat, by omega⟩; rw [Int.toNat_natCast, Int.toNat_natCast, Nat.add_sub_cancel] at h; rw [Int.toNat_natCast] at h1; cases h2 : lacksM s (l + 1) p with
    | false => rw [h2, if_pos rfl] at h; exact absurd h (by decide)
    | true =>
      rw [h2, if_neg (by decide)] at h
      by_cases h3 : D.length = kidsM n l p
      · rw [if_neg (fun h => h h3)] at h
        obtain ⟨d, hd⟩ := lacks_known h2; rw [hd, Option.getD_some] at h
        by_cases h4 : upM shaM D = d
        · refine ⟨l, p, rfl, rfl, by omega, by omega, h2, h3, by rw [hd, h4], ?_⟩
          unfold partsS; rw [h0, if_pos rfl, Int.toNat_natCast, Int.toNat_natCast, Nat.add_sub_cancel, h3]
        · rw [if_neg h4] at h; exact absurd h (by decide)
      · rw [if_pos h3] at h; exact absurd h (by decide)
  · rw [if_pos h1] at h; exact absurd h (by decide)
theorem leafE_zero {pl : Int} {R : Bytes} (h : leafE n s pl R = 0) : ∃ p : Nat, pl = (p : Int) ∧ p < n ∧ lacksM s 0 p = true ∧ R.length < 65536 ∧ s.1 0 p = some (leafM shaM R) ∧ leafS n s pl R = (s.1, putM s.2 p R) := by
  have h0 := h; unfold leafE at h
  by_cases h1 : 0 ≤ pl ∧ pl < n
  · rw [if_neg (fun h => h h1)] at h
    obtain ⟨p, rfl⟩ : ∃ p : Nat, pl = (p : Int) := ⟨pl.toNat, by omega⟩; rw [Int.toNat_natCast] at h; cases h2 : lacksM s 0 p with
    | false => rw [h2, if_pos rfl] at h; exact absurd h (by decide)
    | true =>
      rw [h2, if_neg (by decide)] at h
      by_cases h3 : 65536 ≤ R.length
      · rw [if_pos h3] at h; exact absurd h (by decide)
      · rw [if_neg h3] at h
        obtain ⟨d, hd⟩ := lacks_known h2; rw [hd, Option.getD_some] at h
        by_cases h4 : leafM shaM R = d
        · refine ⟨p, rfl, by omega, h2, by omega, by rw [hd, h4], ?_⟩
          unfold leafS; rw [h0, if_pos rfl, Int.toNat_natCast]
        · rw [if_neg h4] at h; exact absurd h (by decide)
  · rw [if_pos h1] at h; exact absurd h (by decide)
theorem partsS_ne {lv pl : Int} {D : List Dig} (h : partsE n s lv pl D ≠ 0) : partsS n O s lv pl D = s := by unfold partsS; rw [if_neg h]
theorem leafS_ne {pl : Int} {R : Bytes} (h : leafE n s pl R ≠ 0) : leafS n s pl R = s := by unfold leafS; rw [if_neg h]
theorem good_parts (h : Good n s) (lv pl : Int) (D : List Dig) : Good n (partsS n O s lv pl D) := by
  by_cases h0 : partsE n s lv pl D = 0
  · obtain ⟨l, p, -, -, hl, hp, -, -, -, e⟩ := partsE_zero (O := O) h0
    rw [e]; exact ⟨parts_all h.sh hl hp, (parts_mono hp _ (Nat.le_refl _)).1 _ _ h.top⟩
  · rw [partsS_ne h0]; exact h
theorem putM_some (M : BM) (p : Nat) (R : Bytes) {q : Nat} (h : (M q).isSome = true) : (putM M p R q).isSome = true := by
  unfold putM; split
  · rfl
  · exact h
theorem good_leaf (h : Good n s) (pl : Int) (R : Bytes) : Good n (leafS n s pl R) := by
  by_cases h0 : leafE n s pl R = 0
  · obtain ⟨p, -, -, -, -, -, e⟩ := leafE_zero h0
    rw [e]; exact ⟨⟨h.sh.inb, h.sh.kids⟩, h.top⟩
  · rw [leafS_ne h0]; exact h
variable {ls : List Bytes} {L : List Bytes}
theorem Real.leaf (hR : Real ls s) (p : Nat) : Real ls (s.1, putM s.2 p (ls.getD p [])) := ⟨hR.k, fun q R hq => by
  have hq : putM s.2 p (ls.getD p []) q = some R := hq; unfold putM at hq
  by_cases h : q = p
  · rw [if_pos h] at hq; rw [h]; exact (Option.some.inj hq).symm
  · rw [if_neg h] at hq; exact hR.m _ _ hq⟩
theorem real_beg (ho : OldOk ls O) (hn : 1 ≤ ls.length) : Real ls (begS ls.length O (digL ls (depthM ls.length - 1) 0)) := by
  have hd := depthM_pos ls.length; have h0 : Real ls ((fun _ _ => none, fun _ => none) : KM × BM) := ⟨fun _ _ _ h => (by cases h), fun _ _ h => (by cases h)⟩; exact h0.learn ho (by omega) (by rw [depth_size hn]; omega)
theorem digL_root (hn : 1 ≤ ls.length) : digL ls (depthM ls.length - 1) 0 = rootM shaM (ls.map (leafM shaM)) := by
  have h := digAt_root (D := ls.map (leafM shaM)) (by intro e; have := congrArg List.length e; simp at this; rw [this] at hn; simp at hn); rw [List.length_map] at h; exact h
theorem ans_none (h : askM ls.length s = none) : ansT s ls = true ∧ ansS O s ls = s := by
  unfold ansT ansS; rw [h]; exact ⟨rfl, rfl⟩
theorem ans_leaf {p : Nat} (h : askM ls.length s = some (0, p)) : ansT s ls = decide (leafE ls.length s (p : Int) (ls.getD p []) = 0) ∧ ansS O s ls = leafS ls.length s (p : Int) (ls.getD p []) := by
  unfold ansT ansS; rw [h]; exact ⟨rfl, rfl⟩
theorem ans_parts {l p : Nat} (h : askM ls.length s = some (l + 1, p)) : ansT s ls = decide (partsE ls.length s ((l + 1 : Nat) : Int) (p : Int) (kidsB ls l p) = 0) ∧ ansS O s ls = partsS ls.length O s ((l + 1 : Nat) : Int) (p : Int) (kidsB ls l p) := by
  unfold ansT ansS; rw [h]; exact ⟨rfl, rfl⟩
theorem ans_good (h : Good ls.length s) : Good ls.length (ansS O s ls) := by
  cases ha : askM ls.length s with
  | none => rw [(ans_none ha).2]; exact h
  | some x =>
    obtain ⟨l, p⟩ := x; cases l with
    | zero => rw [(ans_leaf (O := O) ha).2]; exact good_leaf h _ _
    | succ l => rw [(ans_parts ha).2]; exact good_parts h _ _ _
theorem ans_taken (hR : Real ls s) (hlen : ∀ R ∈ ls, R.length < 65536) : ansT s ls = true := by
  cases ha : askM ls.length s with
  | none => exact (ans_none (O := none) ha).1
  | some x =>
    obtain ⟨l, p⟩ := x; obtain ⟨h1, h2, -, -⟩ := askM_some ha; have hk := askM_lacks ha; obtain ⟨d, hd⟩ := lacks_known hk; have h3 := hR.k _ _ _ hd; cases l with
    | zero =>
      rw [(ans_leaf (O := none) ha).1, decide_eq_true_eq]; have hp : p < ls.length := h2; rw [digL_leaf hp] at h3; rw [leafE_is hp hk hd, if_neg (by have := hlen _ (getD_mem hp); omega), if_pos h3.symm]
    | succ l =>
      rw [(ans_parts (O := none) ha).1, decide_eq_true_eq]; rw [digL_up h1 h2] at h3; rw [partsE_is (by omega) h1 h2 hk hd, if_neg (fun h => h (by rw [kidsB_length, Nat.add_sub_cancel])), if_pos h3.symm]
theorem ans_real (hR : Real ls s) (ho : OldOk ls O) : Real ls (ansS O s ls) := by
  cases ha : askM ls.length s with
  | none => rw [(ans_none ha).2]; exact hR
  | some x =>
    obtain ⟨l, p⟩ := x; cases l with
    | zero =>
      rw [(ans_leaf (O := O) ha).2]
      by_cases h0 : leafE ls.length s (p : Int) (ls.getD p []) = 0
      · obtain ⟨p', hp', -, -, -, -, e⟩ := leafE_zero h0
        obtain rfl : p = p' := by omega
        rw [e]; exact hR.leaf p
      · rw [leafS_ne h0]; exact hR
    | succ l =>
      rw [(ans_parts ha).2]
      by_cases h0 : partsE ls.length s ((l + 1 : Nat) : Int) (p : Int) (kidsB ls l p) = 0
      · obtain ⟨l', p', e1, e2, hl, hp, -, -, -, e⟩ := partsE_zero (O := O) h0
        obtain rfl : l = l' := by omega
        obtain rfl : p = p' := by omega
        rw [e]; exact hR.parts ho hl hp _ (Nat.le_refl _)
      · rw [partsS_ne h0]; exact hR
theorem done_real (hR : Real ls s) (h : Good ls.length s) (hn : 1 ≤ ls.length) (ha : askM ls.length s = none) : bytesM ls.length s.2 = ls := by
  apply List.ext_getElem (bytesM_length _ _); intro p h1 h2; have h3 := none_bytes h.sh h.top hn ha h2; obtain ⟨R, hR'⟩ := Option.isSome_iff_exists.1 h3; have h4 := hR.m _ _ hR'; simp only [bytesM, List.getElem_map, List.getElem_range, hR', Option.getD_some]; rw [h4, List.getD_eq_getElem?_getD, List.getElem?_eq_getElem h2]
  rfl
end
end Go.Proofs.YtepjbijhkkjbfaaGreat
namespace Go.Proofs.YtepjbijhkkjbfaaGreat
theorem OldOk.path {ls hs : List Bytes} (he : hs.length = ls.length) (i : Nat) (heq : ∀ q, q ≠ i → hs.getD q [] = ls.getD q []) (hne : ∀ l, l < depthM ls.length → digL hs l (i / 4 ^ l) ≠ digL ls l (i / 4 ^ l)) : OldOk ls (some hs) := by
  intro hs' e l p hl hp h; cases e
  have hpi : p ≠ i / 4 ^ l := fun e => hne l hl (by rw [← e]; exact h); have hq : ∀ q, below ls.length l p 0 q → hs.getD q [] = ls.getD q [] := fun q hb => heq q (fun e => hpi (by rw [← hb.2.1, e, Nat.sub_zero])); refine ⟨fun l' p' hb => ?_, fun p' hb => hq p' hb⟩; refine same_above he l' p' (Nat.lt_of_le_of_lt hb.1 hl) hb.2.2 (fun q hb2 => hq q ⟨Nat.zero_le _, ?_, hb2.2.2⟩); have h1 := hb2.2.1; rw [Nat.sub_zero] at h1; rw [Nat.sub_zero, ← hb.2.1, ← h1, Nat.div_div_eq_div_mul, ← Nat.pow_add, show l' + (l - l') = l by have := hb.1; omega]
def six9 : List Bytes := [[1], [2], [3], [4], [9], [6]]
theorem size6 : sizeL 6 0 = 6 ∧ sizeL 6 1 = 2 ∧ sizeL 6 2 = 1 := ⟨rfl, rfl, rfl⟩
theorem lt3 {l : Nat} (h : l < depthM 6) : l = 0 ∨ l = 1 ∨ l = 2 := by rw [depthM6] at h; omega
theorem dig6 (ls : List Bytes) (h : ls.length = 6) : digL ls 1 0 = upM shaM [digL ls 0 0, digL ls 0 1, digL ls 0 2, digL ls 0 3] ∧ digL ls 1 1 = upM shaM [digL ls 0 4, digL ls 0 5] ∧ digL ls 2 0 = upM shaM [digL ls 1 0, digL ls 1 1] := by
  have k0 : kidsM 6 0 0 = 4 := rfl; have k1 : kidsM 6 0 1 = 2 := rfl; have k2 : kidsM 6 1 0 = 2 := rfl; refine ⟨?_, ?_, ?_⟩
  · rw [digL_up (by rw [h, depthM6]; omega) (by rw [h, size6.2.1]; omega), kidsB, kidsD, List.length_map, h, k0]; rfl
  · rw [digL_up (by rw [h, depthM6]; omega) (by rw [h, size6.2.1]; omega), kidsB, kidsD, List.length_map, h, k1]; rfl
  · rw [digL_up (by rw [h, depthM6]; omega) (by rw [h, size6.2.2]; omega), kidsB, kidsD, List.length_map, h, k2]; rfl
theorem leaf6 : (∀ j, j < 6 → digL six 0 j = leafM shaM (six.getD j [])) ∧ ∀ j, j < 6 → digL six9 0 j = leafM shaM (six9.getD j []) :=
  ⟨fun _ hj => digL_leaf (show _ < six.length from hj), fun _ hj => digL_leaf (show _ < six9.length from hj)⟩
theorem d6a : digL six 1 0 = upM shaM [leafM shaM [1], leafM shaM [2], leafM shaM [3], leafM shaM [4]] := by
  rw [(dig6 six rfl).1, leaf6.1 0 (by omega), leaf6.1 1 (by omega), leaf6.1 2 (by omega), leaf6.1 3 (by omega)]; rfl
theorem d6b : digL six 1 1 = upM shaM [leafM shaM [5], leafM shaM [6]] := by
  rw [(dig6 six rfl).2.1, leaf6.1 4 (by omega), leaf6.1 5 (by omega)]; rfl
theorem d9a : digL six9 1 0 = upM shaM [leafM shaM [1], leafM shaM [2], leafM shaM [3], leafM shaM [4]] := by
  rw [(dig6 six9 rfl).1, leaf6.2 0 (by omega), leaf6.2 1 (by omega), leaf6.2 2 (by omega), leaf6.2 3 (by omega)]; rfl
theorem d9b : digL six9 1 1 = upM shaM [leafM shaM [9], leafM shaM [6]] := by
  rw [(dig6 six9 rfl).2.1, leaf6.2 4 (by omega), leaf6.2 5 (by omega)]; rfl
theorem ne0 : digL six9 0 4 ≠ digL six 0 4 := by
  rw [leaf6.1 4 (by omega), leaf6.2 4 (by omega)]; show leafM shaM [9] ≠ leafM shaM [5]
  decide +kernel
theorem ne1 : digL six9 1 1 ≠ digL six 1 1 := by
  rw [d6b, d9b]
  decide +kernel
theorem ne2 : digL six9 2 0 ≠ digL six 2 0 := by
  rw [(dig6 six rfl).2.2, (dig6 six9 rfl).2.2, d6a, d6b, d9a, d9b]
  decide +kernel
theorem six_old : OldOk six (some six9) := by
  refine OldOk.path rfl 4 (fun q hq => ?_) (fun l hl => ?_)
  · match q, hq with
    | 0, _ => rfl
    | 1, _ => rfl
    | 2, _ => rfl
    | 3, _ => rfl
    | 4, h => exact absurd rfl h
    | 5, _ => rfl
    | q + 6, _ => rfl
  · rcases lt3 hl with rfl | rfl | rfl
    · exact ne0
    · exact ne1
    · exact ne2
end Go.Proofs.YtepjbijhkkjbfaaGreat
namespace Go.Proofs.YtepjbijhkkjbfaaGreat
theorem find2 (f : Nat → Bool) : (List.range 2).find? f = if f 0 then some 0 else if f 1 then some 1 else none := by
  show [0, 1].find? f = _; cases h0 : f 0 <;> cases h1 : f 1 <;> simp [List.find?, h0, h1]
theorem find1 (f : Nat → Bool) : (List.range 1).find? f = if f 0 then some 0 else none := by
  show [0].find? f = _; cases h0 : f 0 <;> simp [List.find?, h0]
theorem ask6 (s : KM × BM) : askM 6 s = if lacksM s 2 0 then some (2, 0) else if lacksM s 1 0 then some (1, 0) else if lacksM s 1 1 then some (1, 1) else ((List.range 6).find? (lacksM s 0)).map fun p => (0, p) := by
  have e3 : askD 6 s 3 = match askL 6 s 2 with | some p => some (2, p) | none => askD 6 s 2 := rfl
  have e2 : askD 6 s 2 = match askL 6 s 1 with | some p => some (1, p) | none => askD 6 s 1 := rfl
  have e1 : askD 6 s 1 = match askL 6 s 0 with | some p => some (0, p) | none => none := rfl
  have l2 : askL 6 s 2 = if lacksM s 2 0 then some 0 else none := find1 _
  have l1 : askL 6 s 1 = if lacksM s 1 0 then some 0 else if lacksM s 1 1 then some 1 else none := find2 _
  have l0 : askL 6 s 0 = (List.range 6).find? (lacksM s 0) := rfl; rw [askM, depthM6, e3, e2, e1, l2, l1, l0]; generalize lacksM s 2 0 = x; generalize lacksM s 1 0 = y; generalize lacksM s 1 1 = z; generalize (List.range 6).find? (lacksM s 0) = o; cases x <;> cases y <;> cases z <;> cases o <;> rfl
theorem lacks_up (s : KM × BM) (l p : Nat) : lacksM s (l + 1) p = ((s.1 (l + 1) p).isSome && (s.1 l (4 * p)).isNone) := rfl
theorem lacks_leaf (s : KM × BM) (p : Nat) : lacksM s 0 p = ((s.1 0 p).isSome && (s.2 p).isNone) := rfl
theorem ask6_20 {s : KM × BM} (h1 : (s.1 2 0).isSome = true) (h2 : (s.1 1 0).isNone = true) : askM 6 s = some (2, 0) := by
  have e : lacksM s 2 0 = true := by rw [lacks_up, h1]; exact h2
  rw [ask6, e]; rfl
theorem none_of {α : Type} {x : Option α} (h : x.isSome = true) : x.isNone = false := by cases x; cases h; rfl
theorem ask6_11 {s : KM × BM} (h1 : (s.1 1 0).isSome = true) (h2 : (s.1 0 0).isSome = true) (h3 : (s.1 1 1).isSome = true) (h4 : (s.1 0 4).isNone = true) : askM 6 s = some (1, 1) := by
  have e1 : lacksM s 2 0 = false := by
    have h := none_of h1; rw [lacks_up, Nat.mul_zero, h, Bool.and_false]
  have e2 : lacksM s 1 0 = false := by
    have h := none_of h2; rw [lacks_up, Nat.mul_zero, h, Bool.and_false]
  have e3 : lacksM s 1 1 = true := by rw [lacks_up, h3]; exact h4
  rw [ask6, e1, e2, e3]; rfl
theorem ask6_low {s : KM × BM} (h1 : (s.1 1 0).isSome = true) (h2 : (s.1 0 0).isSome = true) (h4 : (s.1 0 4).isSome = true) : askM 6 s = ((List.range 6).find? (lacksM s 0)).map fun p => (0, p) := by
  have e1 : lacksM s 2 0 = false := by
    have h := none_of h1; rw [lacks_up, Nat.mul_zero, h, Bool.and_false]
  have e2 : lacksM s 1 0 = false := by
    have h := none_of h2; rw [lacks_up, Nat.mul_zero, h, Bool.and_false]
  have e3 : lacksM s 1 1 = false := by
    have h := none_of h4; rw [lacks_up, Nat.mul_one, h, Bool.and_false]
  rw [ask6, e1, e2, e3]; rfl
theorem ask6_04 {s : KM × BM} (h1 : (s.1 1 0).isSome = true) (h2 : (s.1 0 0).isSome = true) (h4 : (s.1 0 4).isSome = true) (m0 : ∀ p, p < 4 → (s.2 p).isSome = true) (m4 : (s.2 4).isNone = true) : askM 6 s = some (0, 4) := by
  have e0 : ∀ p, p < 4 → lacksM s 0 p = false := fun p hp => by rw [lacks_leaf, none_of (m0 p hp), Bool.and_false]
  have e4 : lacksM s 0 4 = true := by rw [lacks_leaf, h4]; exact m4
  have hf : (List.range 6).find? (lacksM s 0) = some 4 := by
    rw [List.find?_range_eq_some]; exact ⟨e4, List.mem_range.2 (by omega), fun j hj => by rw [e0 j hj]; rfl⟩
  rw [ask6_low h1 h2 h4, hf]; rfl
theorem ask6_no {s : KM × BM} (h1 : (s.1 1 0).isSome = true) (h2 : (s.1 0 0).isSome = true) (h4 : (s.1 0 4).isSome = true) (m0 : ∀ p, p < 6 → (s.2 p).isSome = true) : askM 6 s = none := by
  have hf : (List.range 6).find? (lacksM s 0) = none := by
    rw [List.find?_eq_none]; intro p hp; rw [lacks_leaf, none_of (m0 p (List.mem_range.1 hp)), Bool.and_false]; simp
  rw [ask6_low h1 h2 h4, hf]; rfl
abbrev O9 : Option (List Bytes) := some six9
structure Six (s0 s1 s2 s3 : KM × BM) : Prop where
  b : s0 = begS 6 O9 (digL six 2 0)
  n1 : s1 = ansS O9 s0 six
  n2 : s2 = ansS O9 s1 six
  n3 : s3 = ansS O9 s2 six
theorem six_len : ∀ R ∈ six, R.length < 65536 := by
  intro R hR; simp only [six, List.mem_cons, List.not_mem_nil, or_false] at hR; rcases hR with rfl | rfl | rfl | rfl | rfl | rfl <;> simp
theorem six_parts {s : KM × BM} (hR : Real six s) {l p : Nat} (ha : askM 6 s = some (l + 1, p)) : ansS O9 s six = partsK 6 O9 l p (kidsB six l p) (kidsM 6 l p) s := by
  have ht := ans_taken hR six_len; obtain ⟨e1, e2⟩ := ans_parts (O := O9) (ls := six) (s := s) ha; rw [e1, decide_eq_true_eq] at ht; obtain ⟨l', p', h1, h2, hl, hp, -, -, -, e⟩ := partsE_zero (O := O9) ht; obtain rfl : l' = l := by omega
  obtain rfl : p' = p := by omega
  rw [e2]; exact e
theorem six_leaf {s : KM × BM} (hR : Real six s) {p : Nat} (ha : askM 6 s = some (0, p)) : ansS O9 s six = (s.1, putM s.2 p (six.getD p [])) := by
  have ht := ans_taken hR six_len; obtain ⟨e1, e2⟩ := ans_leaf (O := O9) (ls := six) (s := s) ha; rw [e1, decide_eq_true_eq] at ht; obtain ⟨p', h1, -, -, -, -, e⟩ := leafE_zero ht; obtain rfl : p' = p := by omega
  rw [e2]; exact e
theorem parts2 {s : KM × BM} {l p : Nat} (hk : kidsM 6 l p = 2) : partsK 6 O9 l p (kidsB six l p) 2 s = learnM 6 O9 l (4 * p + 1) (digL six l (4 * p + 1)) (learnM 6 O9 l (4 * p) (digL six l (4 * p)) s) := by
  have k0 := kidsB_get (ls := six) (l := l) (p := p) (j := 0) (by rw [show six.length = 6 from rfl, hk]; omega); have k1 := kidsB_get (ls := six) (l := l) (p := p) (j := 1) (by rw [show six.length = 6 from rfl, hk]; omega); rw [partsK_succ, partsK_succ, partsK_zero, k0, k1]; simp only [Nat.add_zero]
theorem hit10 (s : KM × BM) : (∀ l' p', (learnM 6 O9 1 0 (digL six 1 0) s).1 l' p' = if below 6 1 0 l' p' then some (oldAt six9 l' p') else s.1 l' p') ∧ ∀ p', (learnM 6 O9 1 0 (digL six 1 0) s).2 p' = if below 6 1 0 0 p' then some (six9.getD p' []) else s.2 p' := by
  have h : digL six 1 0 = oldAt six9 1 0 := by rw [oldAt_eq]; exact d6a.trans d9a.symm
  rw [h]; exact learn_hit 6 six9 1 0 s (by rw [size6.2.1]; omega)
theorem six_0 {s0 s1 s2 s3 : KM × BM} (h : Six s0 s1 s2 s3) : Real six s0 ∧ Good 6 s0 ∧ askM 6 s0 = some (2, 0) ∧ s0 = (putK (fun _ _ => none) 2 0 (digL six 2 0), fun _ => none) := by
  have hr := real_beg (ls := six) six_old (by decide); have hg := good_beg (O := O9) (n := 6) (by omega) (digL six 2 0); have e : begS 6 O9 (digL six 2 0) = (putK (fun _ _ => none) 2 0 (digL six 2 0), fun _ => none) := by
    unfold begS; rw [depthM6]; exact learnM_ne (show oldAt six9 2 0 ≠ digL six 2 0 by rw [oldAt_eq]; exact ne2) _
  rw [show six.length = 6 from rfl, depthM6] at hr; rw [← h.b] at hg e; have hr2 : Real six s0 := by rw [h.b]; exact hr
  refine ⟨hr2, hg, ask6_20 ?_ ?_, e⟩
  · rw [e]; dsimp only; rw [putK_self]; rfl
  · rw [e]; dsimp only; rw [putK_ne _ _ (by decide)]; rfl
theorem six_1 {s0 s1 s2 s3 : KM × BM} (h : Six s0 s1 s2 s3) : Real six s1 ∧ Good 6 s1 ∧ askM 6 s1 = some (1, 1) ∧ (s1.1 1 0).isSome = true ∧ (s1.1 0 0).isSome = true ∧ (∀ p, p < 4 → (s1.2 p).isSome = true) ∧ s1.2 4 = none := by
  obtain ⟨hR, hG, ha, e0⟩ := six_0 h; have hR1 : Real six s1 := by rw [h.n1]; exact ans_real hR six_old
  have hG1 : Good 6 s1 := by rw [h.n1]; exact ans_good (ls := six) hG
  have e1 : s1 = learnM 6 O9 1 1 (digL six 1 1) (learnM 6 O9 1 0 (digL six 1 0) s0) := by
    rw [h.n1, six_parts hR ha, show kidsM 6 1 0 = 2 from rfl, parts2 rfl]
  obtain ⟨k1, k2⟩ := hit10 s0; generalize learnM 6 O9 1 0 (digL six 1 0) s0 = sA at *; rw [learnM_ne (show oldAt six9 1 1 ≠ digL six 1 1 by rw [oldAt_eq]; exact ne1)] at e1; have b : ∀ l' p', ¬ (l' = 1 ∧ p' = 1) → s1.1 l' p' = if below 6 1 0 l' p' then some (oldAt six9 l' p') else s0.1 l' p' := fun l' p' hne => by
    rw [e1]; dsimp only; rw [putK_ne _ _ hne, k1]
  have m : ∀ p', s1.2 p' = if below 6 1 0 0 p' then some (six9.getD p' []) else s0.2 p' := fun p' => by
    rw [e1]; exact k2 p'
  have b10 : (s1.1 1 0).isSome = true := by rw [b 1 0 (by decide), if_pos (by decide)]; rfl
  have b00 : (s1.1 0 0).isSome = true := by rw [b 0 0 (by decide), if_pos (by decide)]; rfl
  have b11 : (s1.1 1 1).isSome = true := by rw [e1]; dsimp only; rw [putK_self]; rfl
  have b04 : (s1.1 0 4).isNone = true := by rw [b 0 4 (by decide), if_neg (by decide), e0]; dsimp only; rw [putK_ne _ _ (by decide)]; rfl
  refine ⟨hR1, hG1, ask6_11 b10 b00 b11 b04, b10, b00, fun p hp => ?_, ?_⟩
  · rw [m, if_pos (⟨Nat.zero_le _, by rw [Nat.sub_zero, Nat.pow_one]; omega, by rw [size6.1]; omega⟩)]; rfl
  · rw [m, if_neg (by decide), e0]
theorem old05 : oldAt six9 0 5 = digL six 0 5 := by
  rw [oldAt_eq]; exact (leaf6.2 5 (by omega)).trans (leaf6.1 5 (by omega)).symm
theorem six_2 {s0 s1 s2 s3 : KM × BM} (h : Six s0 s1 s2 s3) : Real six s2 ∧ Good 6 s2 ∧ askM 6 s2 = some (0, 4) ∧ (s2.1 1 0).isSome = true ∧ (s2.1 0 0).isSome = true ∧ (s2.1 0 4).isSome = true ∧ (∀ p, p < 4 → (s2.2 p).isSome = true) ∧ (s2.2 5).isSome = true := by
  obtain ⟨hR, hG, ha, b10, b00, m0, m4⟩ := six_1 h; have hR2 : Real six s2 := by rw [h.n2]; exact ans_real hR six_old
  have hG2 : Good 6 s2 := by rw [h.n2]; exact ans_good (ls := six) hG
  have e2 : s2 = learnM 6 O9 0 5 (digL six 0 5) (learnM 6 O9 0 4 (digL six 0 4) s1) := by
    rw [h.n2, six_parts hR ha, show kidsM 6 0 1 = 2 from rfl, parts2 rfl]
  rw [learnM_ne (show oldAt six9 0 4 ≠ digL six 0 4 by rw [oldAt_eq]; exact ne0), learnM_leaf old05] at e2; dsimp only at e2; have k10 : (s2.1 1 0).isSome = true := by rw [e2]; dsimp only; rw [putK_ne _ _ (by decide), putK_ne _ _ (by decide)]; exact b10
  have k00 : (s2.1 0 0).isSome = true := by rw [e2]; dsimp only; rw [putK_ne _ _ (by decide), putK_ne _ _ (by decide)]; exact b00
  have k04 : (s2.1 0 4).isSome = true := by rw [e2]; dsimp only; rw [putK_ne _ _ (by decide), putK_self]; rfl
  have q4 : (s2.2 4).isNone = true := by rw [e2]; dsimp only; unfold putM; rw [if_neg (by decide), m4]; rfl
  have q0 : ∀ p, p < 4 → (s2.2 p).isSome = true := fun p hp => by rw [e2]; exact putM_some _ _ _ (m0 p hp)
  have q5 : (s2.2 5).isSome = true := by rw [e2]; dsimp only; unfold putM; rw [if_pos rfl]; rfl
  exact ⟨hR2, hG2, ask6_04 k10 k00 k04 q0 q4, k10, k00, k04, q0, q5⟩
theorem six_3 {s0 s1 s2 s3 : KM × BM} (h : Six s0 s1 s2 s3) : Real six s3 ∧ Good 6 s3 ∧ askM 6 s3 = none := by
  obtain ⟨hR, hG, ha, k10, k00, k04, q0, q5⟩ := six_2 h; have hR3 : Real six s3 := by rw [h.n3]; exact ans_real hR six_old
  have hG3 : Good 6 s3 := by rw [h.n3]; exact ans_good (ls := six) hG
  have e3 := h.n3; rw [six_leaf hR ha] at e3; refine ⟨hR3, hG3, ask6_no ?_ ?_ ?_ fun p hp => ?_⟩
  · rw [e3]; exact k10
  · rw [e3]; exact k00
  · rw [e3]; exact k04
  · rw [e3]
    dsimp only
    by_cases h4 : p = 4
    · subst h4; unfold putM; rw [if_pos rfl]; rfl
    · refine putM_some _ _ _ ?_
      by_cases h5 : p = 5
      · rw [h5]; exact q5
      · exact q0 p (by omega)
def st6 : Nat → KM × BM
  | 0 => begS 6 O9 (digL six 2 0)
  | k + 1 => ansS O9 (st6 k) six
theorem st6_six : Six (st6 0) (st6 1) (st6 2) (st6 3) := ⟨rfl, rfl, rfl, rfl⟩
theorem st6_taken {k : Nat} (hk : k < 3) : ansT (st6 k) six = true := by
  match k, hk with
  | 0, _ => exact ans_taken (six_0 st6_six).1 six_len
  | 1, _ => exact ans_taken (six_1 st6_six).1 six_len
  | 2, _ => exact ans_taken (six_2 st6_six).1 six_len
def want6 : List (Nat × Nat) := [(2, 0), (1, 1), (0, 4)]
theorem want6_ask {k : Nat} (hk : k < want6.length) : askM 6 (st6 k) = some want6[k] := by
  have hk3 : k < 3 := hk
  match k, hk3 with
  | 0, _ => exact (six_0 st6_six).2.2.1
  | 1, _ => exact (six_1 st6_six).2.2.1
  | 2, _ => exact (six_2 st6_six).2.2.1
theorem six_end : askM 6 (st6 3) = none ∧ bytesM 6 (st6 3).2 = six := by
  obtain ⟨hR, hG, ha⟩ := six_3 st6_six; exact ⟨ha, done_real (ls := six) hR hG (by decide) ha⟩
theorem want6_small : ∀ p ∈ want6, p.1 ≤ 2 ∧ p.2 ≤ 4 := by decide
end Go.Proofs.YtepjbijhkkjbfaaGreat
